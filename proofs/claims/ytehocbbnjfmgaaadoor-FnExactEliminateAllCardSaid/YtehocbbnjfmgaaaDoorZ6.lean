/- Lemmas on the program and on partial functions that stand in place of its code (part 6); no condition beyond those that each one states. -/
import Derived.Test.YtehocbbnjfmgaaaDoorZ5
import Derived.Deep.RegionHeld3
namespace Go.Proofs.YtehocbbnjfmgaaaDoor
section
variable {p:Int} {n:Nat} {m:List (List Int)}
theorem Aby {x v:List Int} {f:Int} {w:Nat} (hp:2<=p∧p<=97) (hx:VecW p w x) (hv:VecW p w v) (hw:w<=100000) (hf:0<=f∧f<p):E2 p x v f=some (G3 p f x v):=by
  have hl:=hx.1;have hl':=hv.1;unfold E2;refine Z1 (y:=G3 p f x v) (by simp [G3]; omega) (by omega) (fun j hj z hz=>?_) ?_
  · have h1:=Rx hx hj;have h2:=Rx hv (j:=j) (by omega)
    try dsimp only
    unfold Es;rw [Cr (by omega),cond_true,hz,obs,gEg (show j<v.length by omega),obs,Zs hp hf h2,obs,Aec hp h1 (Ye hp.1),obs,Aw (by omega),Ro,Adv]
  · try dsimp only
    unfold Es;rw [B0 (by omega),cond_false]
theorem Afp (x c v p:Int):(x - c % p*v) % p=(x - c*v) % p:=by
  have h:x - c*v=x - c % p*v+p*(-(c / p*v)):=by
    have h1:=Int.emod_def c p;rw [h1]
    grind
  rw [h,Int.add_mul_emod_self_left]
theorem Afn {x v:List Int} {a b:Int} {w:Nat} (hp:2<=p∧p<=97) (hx:VecW p w x) (hv:VecW p w v) (hw:w<=100000) (ha:0<=a∧a<p) (hb:0<=b∧b<p) :
    Cw p x (wI (wI (0 - a)*b)) v=some (G3 p (a*b % p) x v):=by
  have hl:=hx.1;have hl':=hv.1;have hab:=Acw hp ha hb
  have e1:wI (wI (0 - a)*b)= -(a*b):=by
    rw [Cs (n:=0 - a) (by omega) (by omega),show (0 - a)*b= -(a*b) by rw [Int.zero_sub,Int.neg_mul],Cs (by omega) (by omega)]
  rw [e1];unfold Cw;refine Z1 (y:=G3 p (a*b % p) x v) (by simp [G3]; omega) (by omega) (fun j hj z hz=>?_) ?_
  · have h1:=Rx hx hj;have h2:=Rx hv (j:=j) (by omega)
    have h3:0<=a*b*v[j]∧a*b*v[j]<=1000000:=by
      refine ⟨Int.mul_nonneg hab.1 h2.1,?_⟩;have:=Int.mul_le_mul hab.2 (show v[j]<=100 by omega) h2.1 (by decide:(0:Int)<=10000);omega
    have e: -(a*b)*v[j]= -(a*b*v[j]):=by rw [Int.neg_mul]
    try dsimp only
    unfold Dk;rw [Cr (by omega),cond_true,gEg (show j<v.length by omega),obs,hz,obs,e,Cs (n:= -(a*b*v[j])) (by omega) (by omega),Cs (by omega) (by omega),Afy hp,obs,Aw (by omega),Ro,Afp,← Int.sub_eq_add_neg]
  · try dsimp only
    unfold Dk;rw [B0 (by omega),cond_false]
/-- A row without what it has of the pivot's row in column n. -/
def sbF (p:Int) (n:Nat) (P r:List Int):List Int:=if r.getD n 0=0 then r else G3 p (r.getD n 0*U3 p (P.getD n 0) % p) r P
def pvI (n:Nat) (m:List (List Int)):Nat:=m.findIdx fun r=>r.getD n 0 !=0
def elV (p:Int) (n:Nat) (m:List (List Int)):List (List Int):=((m.eraseIdx (pvI n m)).map (sbF p n (m.getD (pvI n m) []))).map (·.take n)
theorem Aer:pvI n m<=m.length:=List.findIdx_le_length
theorem Zu {i:Nat} (hi:i<m.length) (h:i<pvI n m):m[i].getD n 0=0:=by
  have h1:(m[i].getD n 0 !=0)=false:=List.not_of_lt_findIdx h;exact bne_eq_false_iff_eq.1 h1
theorem Zk (h:pvI n m<m.length):(m[pvI n m]).getD n 0≠0:=by
  have h1:(m[pvI n m].getD n 0 !=0)=true:=List.findIdx_getElem (w:=h);exact bne_iff_ne.1 h1
theorem Xm {P r:List Int} (hp:2<=p) (hr:VecW p (n+1) r) (hP:VecW p (n+1) P):VecW p (n+1) (sbF p n P r):=by
  unfold sbF;split
  · exact hr
  · exact Mf hp hr.1 hP.1
theorem R6 {α:Type} {xs:List α} {i K:Nat} (hi:i<xs.length):(xs.take (i+1)).eraseIdx K=if i=K then (xs.take i).eraseIdx K else (xs.take i).eraseIdx K++[xs[i]]:=by
  have hl:(xs.take i).length=i:=by rw [List.length_take]; omega
  rw [List.take_add_one,gEg hi,Option.toList_some];by_cases h:K<i
  · rw [if_neg (by omega),List.eraseIdx_append_of_lt_length (by omega)]
  · rw [List.eraseIdx_append_of_length_le (by omega),hl,List.eraseIdx_of_length_le (l:=xs.take i) (by omega)];by_cases h2:i=K
    · subst h2; simp
    · rw [if_neg h2,List.eraseIdx_of_length_le (by simp; omega)]
theorem Aed {v h:Int} (hv:0<=v∧v<=24) (hh:1<=h∧h<=100) (e:v+h=(n:Int)+1):wI (wI (v+h) - 1)=(n:Int):=by
  rw [Cs (n:=v+h) (by omega) (by omega),Cs (by omega) (by omega)];omega
theorem Ach {v h:Int} (hf:isF p=true) (hm:MatW p (n+1) m) (hv:0<=v∧v<=24) (hh:1<=h∧h<=100) (e:v+h=(n:Int)+1) (hl:m.length<=160):Ez p v h m=some (elV p n m):=by
  have hp:=Nk hf;unfold Ez
  have key:A6 (fun s_:Nat×List Int×List (List Int)=>De m v h p s_.1 s_.2.1 s_.2.2) 4611686018427387904 (0,[],([]:List (List Int)))=some (elV p n m):=by
    refine Bl m.length (fun i=>(i,if i<=pvI n m then [] else m.getD (pvI n m) [],(((m.take i).eraseIdx (pvI n m)).map (sbF p n (m.getD (pvI n m) []))).map (·.take n))) (by omega) _ (by simp) (fun i hi=>?_) ?_
    · have hx:=hm _ (List.getElem_mem hi);have hxl:=hx.1;have ha:=My hx (j:=n) (by omega)
      have hlen:((((m.take i).eraseIdx (pvI n m)).map (sbF p n (m.getD (pvI n m) []))).map (·.take n)).length<=i:=by
        rw [List.length_map,List.length_map];exact Nat.le_trans (List.length_eraseIdx_le _ _) (by rw [List.length_take]; omega)
      try dsimp only
      unfold De;rw [Cr (by omega),cond_true,gEg hi,obs,Zi _ (by omega),obs,Aed hv hh e,Id (by omega),Int.toNat_natCast,ha.2.2,obs,obs];by_cases h0:m[i].getD n 0=0
      · have hiK:i≠pvI n m:=fun e'=>by
          have:=Zk (n:=n) (m:=m) (by omega);simp only [← e'] at this;exact this h0
        rw [h0,show ((0:Int) !=0)=false from rfl,cond_false,obs,cond_false,obs,obs,show ((0:Int) !=0)=false from rfl,cond_false,obs,Aw (by omega),Aw (by omega),obs];dsimp only;rw [Aw (by omega),R6 hi,if_neg hiK,List.map_append,List.map_append]
        have e1:(if i<=pvI n m then [] else m.getD (pvI n m) [])=(if i+1<=pvI n m then [] else m.getD (pvI n m) []):=by
          by_cases h1:i<pvI n m
          · rw [if_pos (by omega),if_pos (by omega)]
          · rw [if_neg (by omega),if_neg (by omega)]
        rw [e1,List.map_cons,List.map_cons,show sbF p n (m.getD (pvI n m) []) m[i]=m[i] from if_pos h0]; rfl
      · have hiK:pvI n m<=i:=by
          rcases Nat.lt_or_ge i (pvI n m) with h1 | h1
          · exact absurd (Zu hi h1) h0
          · exact h1
        rw [show (m[i].getD n 0 !=0)=true by rw [bne_iff_ne]; exact h0,cond_true,obs];by_cases h1:i=pvI n m
        · rw [if_pos (by omega),show (((([]:List Int).length:Nat):Int)==0)=true from rfl,cond_true,obs];dsimp only;rw [Aw (by omega),R6 hi,if_pos h1,if_neg (by omega),Ml (m:=m) (gEg (show pvI n m<m.length by omega))];simp only [← h1]
        · have hK:pvI n m<m.length:=by omega
          have hP:=hm _ (List.getElem_mem hK);have hPl:=hP.1;have hc:=My hP (j:=n) (by omega);have hc0:=Zk hK;obtain ⟨i1,_,i2,i3,_⟩:=Abk hf (a:=m[pvI n m].getD n 0) (by omega);have eP:m.getD (pvI n m) []=m[pvI n m]:=Ml (gEg hK);rw [if_neg (by omega),eP,show (((m[pvI n m].length:Nat):Int)==0)=false by rw [beq_eq_false_iff_ne]; omega,cond_false,obs,obs,show (m[i].getD n 0 !=0)=true by rw [bne_iff_ne]; exact h0,cond_true,Id (by omega),Int.toNat_natCast,hc.2.2,obs,obs,i1,obs,Zs hp ⟨ha.1,ha.2.1⟩ ⟨i2,i3⟩,obs,Aby hp hx hP (by omega) (Ye hp.1),obs,Aw (by rw [(Mf hp.1 hx.1 hP.1).1,hxl]),obs,Aw (by rw [(Mf hp.1 hx.1 hP.1).1]; omega),Aw (by rw [eP] at hlen; omega),obs];dsimp only;rw [Aw (by omega),R6 hi,if_neg h1,List.map_append,List.map_append,if_neg (by omega),List.map_cons,List.map_cons,show sbF p n m[pvI n m] m[i]=G3 p (m[i].getD n 0*U3 p (m[pvI n m].getD n 0) % p) m[i] m[pvI n m] from if_neg h0]; rfl
    · try dsimp only
      unfold De;rw [B0 (by omega),cond_false,List.take_length]; rfl
  rw [key,obs]
-- the program's side
theorem N8 {α:Type} {xs:List α} {f:Nat->α->α} {i:Nat} (h:i<xs.length):(xs.mapIdx f)[i]? =some (f i xs[i]):=by
  rw [List.getElem?_mapIdx,gEg h]; rfl
/-- The rows up to i are done. -/
def stg (F:Nat->List Int->List Int) (m:List (List Int)) (i:Nat):List (List Int):=m.mapIdx fun j r=>if j<i then F j r else r
theorem Xg {F:Nat->List Int->List Int}:stg F m 0=m:=by
  apply List.ext_getElem?;intro j;unfold stg;rw [List.getElem?_mapIdx];cases m[j]? <;> simp
theorem Ad8 {F:Nat->List Int->List Int} {i:Nat}:(stg F m i).length=m.length:=by simp [stg]
theorem Yi {F:Nat->List Int->List Int} {i:Nat} (h:i<m.length):(stg F m i)[i]? =some m[i]:=by
  unfold stg;rw [N8 h,if_neg (by omega)]
theorem Y4 {F:Nat->List Int->List Int} {i:Nat} (h:i<m.length):(stg F m i).set i (F i m[i])=stg F m (i+1):=by
  apply List.ext_getElem?;intro j;unfold stg;rw [List.getElem?_set];by_cases hj:i=j
  · subst hj;rw [if_pos rfl,if_pos (by simpa using h),N8 h,if_pos (by omega)]
  · rw [if_neg hj,List.getElem?_mapIdx,List.getElem?_mapIdx];cases m[j]? with
    | none=>rfl
    | some r =>
      simp only [Option.map_some];by_cases h1:j<i
      · rw [if_pos h1,if_pos (by omega)]
      · rw [if_neg h1,if_neg (by omega)]
theorem Zr {F:Nat->List Int->List Int}:stg F m m.length=m.mapIdx F:=by
  apply List.ext_getElem?;intro j;unfold stg;rw [List.getElem?_mapIdx,List.getElem?_mapIdx];cases hj:m[j]? with
  | none=>rfl
  | some r=>simp only [Option.map_some]; rw [if_pos (Be hj)]
theorem Ad1 (hm:MatW p (n+1) m) (hl:m.length<=160):At m (n:Int)=some (if pvI n m<m.length then ((pvI n m:Nat):Int) else -1):=by
  unfold At;have hle:=Aer (n:=n) (m:=m)
  have h:A6 (fun s_:Nat=>Aq m (n:Int) s_) 4611686018427387904 0=some (if pvI n m<m.length then .out ((pvI n m:Nat):Int) else .next ()):=by
    have hb:∀ i (hi:i<m.length),Bn m[i] (n:Int)=some (m[i].getD n 0 !=0):=fun i hi=>by
      unfold Bn;rw [Id (by omega),Int.toNat_natCast,(My (hm _ (List.getElem_mem hi)) (j:=n) (by omega)).2.2,obs]
    refine Bl (pvI n m) (fun i=>i) (by omega) _ rfl (fun i hi=>?_) ?_
    · have h0:=Zu (show i<m.length by omega) hi
      try dsimp only
      unfold Aq;rw [Cr (by omega),cond_true,gEg (show i<m.length by omega),obs,hb i (by omega),obs,h0,show ((0:Int) !=0)=false from rfl,cond_false,Aw (by omega)]
    · unfold Aq;by_cases h:pvI n m<m.length
      · rw [Cr (by omega),cond_true,gEg h,obs,hb _ h,obs,show (m[pvI n m].getD n 0 !=0)=true by rw [bne_iff_ne]; exact Zk h,cond_true,if_pos h]
      · rw [B0 (by omega),cond_false,if_neg h]
  rw [h];by_cases h2:pvI n m<m.length
  · rw [if_pos h2,if_pos h2]; rfl
  · rw [if_neg h2,if_neg h2]; rfl
theorem Pi {v h:Int} (hf:isF p=true) (hm:MatW p (n+1) m) (hv:0<=v∧v<=24) (hh:1<=h∧h<=100) (e:v+h=(n:Int)+1) (hl:m.length<=160):B3 p v h m=some (elV p n m):=by
  have hp:=Nk hf;have hle:=Aer (n:=n) (m:=m);unfold B3 Bw;rw [obs,Wc hm (by omega) (by omega),obs,Aed hv hh e,Ad1 hm hl,obs]
  have hsec:∀ M:List (List Int),(∀ x∈M,x.length=n+1)->M.length<=160->A6 (fun s_:Nat×List (List Int)=>Bk M (wI (v+h)) s_.1 s_.2) 4611686018427387904 (0,M)=some (M.map (·.take n)):=by
    intro M hM hMl
    have hfin:M.map (·.take n)=stg (fun _ r=>r.take n) M M.length:=by
      rw [Zr];apply List.ext_getElem?;intro j;rw [List.getElem?_mapIdx,List.getElem?_map]
    rw [hfin];refine Bl M.length (fun i=>(i,stg (fun _ r=>r.take n) M i)) (by omega) _ (by rw [Xg]) (fun i hi=>?_) ?_
    · have hx:=hM _ (List.getElem_mem hi)
      try dsimp only
      unfold Bk;rw [Aed hv hh e,Cr (by omega),cond_true,Yi hi,obs,Aw (by omega),Aw (by omega),Int.toNat_natCast,Y4 (F:=fun _ r=>r.take n) hi]
    · try dsimp only
      unfold Bk;rw [B0 (by omega),cond_false]
  by_cases hK:pvI n m<m.length
  · have hP:=hm _ (List.getElem_mem hK);have hc:=My hP (j:=n) (by omega);have hc0:=Zk hK;obtain ⟨_,i1,i2,i3,_⟩:=Abk hf (a:=m[pvI n m].getD n 0) (by omega);have eP:m.getD (pvI n m) []=m[pvI n m]:=Ml (gEg hK)
    have hone:A6 (fun s_:Nat×List (List Int)=>Bj m ((pvI n m:Nat):Int) (wI (v+h)) p s_.1 s_.2) 4611686018427387904 (0,m)=some (m.mapIdx fun j r=>if j=pvI n m then r else sbF p n m[pvI n m] r):=by
      rw [← Zr];refine Bl m.length (fun i=>(i,stg (fun j r=>if j=pvI n m then r else sbF p n m[pvI n m] r) m i)) (by omega) _ (by rw [Xg]) (fun i hi=>?_) ?_
      · have hx:=hm _ (List.getElem_mem hi);have ha:=My hx (j:=n) (by omega);have hstg:=Y4 (F:=fun j r=>if j=pvI n m then r else sbF p n m[pvI n m] r) hi
        have hat:(stg (fun j r=>if j=pvI n m then r else sbF p n m[pvI n m] r) m i)[pvI n m]? =some m[pvI n m]:=by
          unfold stg;rw [N8 hK];split
          · exact congrArg some (if_pos rfl)
          · rfl
        try dsimp only
        unfold Bj;rw [Cr (by omega),cond_true];by_cases h1:i=pvI n m
        · rw [show (((i:Nat):Int) !=((pvI n m:Nat):Int))=false by rw [h1,bne_self_eq_false],cond_false,obs,Aw (by omega)];rw [if_pos h1] at hstg;rw [← hstg];congr 3;apply List.ext_getElem?;intro j;rw [List.getElem?_set];split
          · rename_i hj;subst hj;rw [if_pos (by rw [Ad8]; exact hi),Yi hi]
          · rfl
        · have hsb:Cw p m[i] (wI (wI (0 - m[i].getD n 0)*U3 p (m[pvI n m].getD n 0))) m[pvI n m]=some (sbF p n m[pvI n m] m[i]):=by
            rw [Afn hp hx hP (by omega) ⟨ha.1,ha.2.1⟩ ⟨i2,i3⟩];unfold sbF;split
            · rename_i h0;rw [h0,Int.zero_mul,Int.zero_emod];congr 1;apply List.ext_getElem
              · rw [(Mf hp.1 hx.1 hP.1).1,hx.1]
              · intro j h2 h3;have:=Rx hx h3;rw [Ro,Int.zero_mul,Int.sub_zero,Int.emod_eq_of_lt this.1 this.2]
            · rfl
          rw [if_neg h1] at hstg;rw [show (((i:Nat):Int) !=((pvI n m:Nat):Int))=true by rw [bne_iff_ne]; omega,cond_true,Yi hi,obs,Aed hv hh e,Id (by omega),Int.toNat_natCast,ha.2.2,obs,obs,Id (by omega),Int.toNat_natCast,hat,obs,Id (by omega),Int.toNat_natCast,hc.2.2,obs,obs,i1,obs,Aw h1,hsb,obs,Aw (by rw [(Xm hp.1 hx hP).1,hx.1]),obs,Aw (by omega),hstg]
      · try dsimp only
        unfold Bj;rw [B0 (by omega),cond_false]
    have hdel:Cu (m.mapIdx fun j r=>if j=pvI n m then r else sbF p n m[pvI n m] r) ((pvI n m:Nat):Int) (wI (((pvI n m:Nat):Int)+1))=some ((m.eraseIdx (pvI n m)).map (sbF p n m[pvI n m])):=by
      unfold Cu;rw [Cs (by omega) (by omega),if_pos ⟨by omega,rfl,by simp; omega⟩,Int.toNat_natCast];congr 1;apply List.ext_getElem?;intro j;rw [List.getElem?_eraseIdx,List.getElem?_map,List.getElem?_eraseIdx];split
      · rename_i hj;rw [List.getElem?_mapIdx];cases m[j]? with
        | none=>rfl
        | some r=>simp only [Option.map_some]; rw [if_neg (by omega)]
      · rename_i hj;rw [List.getElem?_mapIdx];cases m[j+1]? with
        | none=>rfl
        | some r=>simp only [Option.map_some]; rw [if_neg (by omega)]
    rw [if_pos hK,Cr (by omega),cond_true,hone,obs,hdel,obs,obs,hsec _ (fun x hx=>by
      obtain ⟨r,hr,rfl⟩:=List.mem_map.1 hx;exact (Xm hp.1 (hm r (List.mem_of_mem_eraseIdx hr)) hP).1) (by rw [List.length_map]; exact Nat.le_trans (List.length_eraseIdx_le _ _) hl),obs]
    unfold elV;rw [eP]
  · rw [if_neg hK,B0 (by omega),cond_false,obs,hsec m (fun x hx=>(hm x hx).1) hl,obs];unfold elV;rw [List.eraseIdx_of_length_le (by omega)];congr 2
    have:m.map (sbF p n (m.getD (pvI n m) []))=m.map id:=List.map_congr_left fun x hx=>by
      obtain ⟨i,hi,rfl⟩:=List.mem_iff_getElem.1 hx;unfold sbF;rw [if_pos (Zu hi (by omega))]; rfl
    rw [this,List.map_id]
end
end Go.Proofs.YtehocbbnjfmgaaaDoor

namespace Go.Proofs.YtehocbbnjfmgaaaDoor
section
variable {p:Int} {n:Nat} {m:List (List Int)}
theorem Afe (hp:2<=p) (hm:MatW p (n+1) m):MatW p n (elV p n m)∧(elV p n m).length<=m.length:=by
  constructor
  · intro x hx;obtain ⟨y,hy,rfl⟩:=List.mem_map.1 hx;obtain ⟨r,hr,rfl⟩:=List.mem_map.1 hy;have hr:=List.mem_of_mem_eraseIdx hr;refine VecW.tk (w:=n+1) ?_ (by omega);by_cases hK:pvI n m<m.length
    · rw [Ml (m:=m) (gEg hK)];exact Xm hp (hm r hr) (hm _ (List.getElem_mem hK))
    · obtain ⟨i,hi,rfl⟩:=List.mem_iff_getElem.1 hr;unfold sbF;rw [if_pos (Zu hi (by omega))];exact hm _ hr
  · unfold elV;rw [List.length_map,List.length_map];exact List.length_eraseIdx_le _ _
def itV (p:Int) (V H:Nat) (m:List (List Int)):Nat->List (List Int)
  | 0=>m
  | i+1=>elV p (V+(H - i - 1)) (itV p V H m i)
theorem Vs {V H:Nat} (hp:2<=p) (hm:MatW p (V+H) m):∀ i,i<=H->MatW p (V+(H - i)) (itV p V H m i)∧(itV p V H m i).length<=m.length
  | 0,_=>⟨hm,Nat.le_refl _⟩
  | i+1,hi=>by
    obtain ⟨h1,h2⟩:=Vs hp hm i (by omega);rw [show V+(H - i)=V+(H - i - 1)+1 by omega] at h1;obtain ⟨h3,h4⟩:=Afe hp h1;exact ⟨by rw [show V+(H - (i+1))=V+(H - i - 1) by omega]; exact h3,Nat.le_trans h4 h2⟩
def Aas (p v h:Int) (m:List (List Int)):Bool:=isF p&&(inR v 0 24&&(inR h 0 100&&(decide (((m.length:Nat):Int)<=160)&&Y1 p (v+h) m)))
theorem Ab7 (p v h:Int) (m:List (List Int)) (hb:m.length<=1048576) (hr:Gd 1048576 m):E5 p v h m=some (Aas p v h m):=by
  unfold E5 Aas;rw [Ac6,obs,Uz,Uz];cases hp:isF p
  · rfl
  cases h1:inR v 0 24
  · rfl
  cases h2:inR h 0 100
  · rfl
  have h1:=Kd.1 h1;have h2:=Kd.1 h2;rw [Cs (n:=v+h) (by omega) (by omega),Acf p (v+h) m (Nk hp) hb hr];cases decide (((m.length:Nat):Int)<=160) <;> rfl
theorem Xp (p v h:Int) (m:List (List Int)) (hb:m.length<=1048576) (hr:Gd 1048576 m):Dq p v h m=some (Aas p v h m):=by
  unfold Dq Bw Aas;rw [show Hc p=some (isF p) from rfl,obs,We,We];cases hp:isF p
  · rfl
  cases h1:inR v 0 24
  · rfl
  cases h2:inR h 0 100
  · rfl
  have h1:=Kd.1 h1;have h2:=Kd.1 h2;rw [Cs (n:=v+h) (by omega) (by omega)];simp only [obs,cond_true,V3 p (v+h) m hb hr];cases decide (((m.length:Nat):Int)<=160) <;> rfl
theorem Adf {V H:Nat} (hf:isF p=true) (hm:MatW p (V+H) m) (hV:V<=24) (hH:H<=100) (hl:m.length<=160) :
    A6 (fun s_:Int×List (List Int)=>C4 p (V:Int) s_.1 s_.2) 4611686018427387904 ((H:Int),m)=some (0,itV p V H m H)∧A6 (fun s_:Int×List (List Int)=>Bp p (V:Int) s_.1 s_.2) 4611686018427387904 ((H:Int),m)=some (0,itV p V H m H):=by
  have hp:=Nk hf;constructor
  · refine Bl H (fun i=>(((H - i:Nat):Int),itV p V H m i)) (by omega) _ (by simp [itV]) (fun i hi=>?_) ?_
    · obtain ⟨h1,h2⟩:=Vs hp.1 hm i (by omega);rw [show V+(H - i)=V+(H - i - 1)+1 by omega] at h1
      try dsimp only
      unfold C4;rw [Cr (by omega),cond_true,Ach hf h1 (by omega) (by omega) (by omega) (by omega),obs,Cs (by omega) (by omega),show ((H - i:Nat):Int) - 1=((H - (i+1):Nat):Int) by omega]; rfl
    · try dsimp only
      unfold C4;rw [B0 (by omega),cond_false,Nat.sub_self]; rfl
  · refine Bl H (fun i=>(((H - i:Nat):Int),itV p V H m i)) (by omega) _ (by simp [itV]) (fun i hi=>?_) ?_
    · obtain ⟨h1,h2⟩:=Vs hp.1 hm i (by omega);rw [show V+(H - i)=V+(H - i - 1)+1 by omega] at h1
      try dsimp only
      unfold Bp;rw [Cr (by omega),cond_true,Pi hf h1 (by omega) (by omega) (by omega) (by omega),obs,Cs (by omega) (by omega),show ((H - i:Nat):Int) - 1=((H - (i+1):Nat):Int) by omega]; rfl
    · try dsimp only
      unfold Bp;rw [B0 (by omega),cond_false,Nat.sub_self]; rfl
theorem Abe (p v h:Int) (m:List (List Int)) (hb:m.length<=1048576) (hr:Gd 1048576 m):∃ o v' h' r,Cd p v h m=some (o,v',h',r)∧Bq p v h m=some (o,v',h',r)∧r.length<=1048576∧Gd 1048576 r:=by
  unfold Cd Bq;rw [Ab7 p v h m hb hr,Xp p v h m hb hr,obs,obs];cases hg:Aas p v h m
  · exact ⟨_,_,_,_,rfl,rfl,Nat.zero_le _,fun _ hx=>by cases hx⟩
  unfold Aas at hg;simp only [Bool.and_eq_true,Kd,decide_eq_true_eq] at hg;obtain ⟨hf,h1,h2,h3,h4⟩:=hg;obtain ⟨V,rfl⟩:=Int.eq_ofNat_of_zero_le h1.1;obtain ⟨H,rfl⟩:=Int.eq_ofNat_of_zero_le h2.1;have hp:=Nk hf;have hm:MatW p (V+H) m:=Aah (n:=V+H) (by rw [Int.natCast_add]; exact h4);have hrow:∀ x∈m,x.length<=1000000:=fun x hx=>by have:=(hm x hx).1; omega
  obtain ⟨e1,e2⟩:=Adf hf hm (by omega) (by omega) (by omega)
  have hcp:A6 (fun s_:Nat×List (List Int)=>C1 m s_.1 s_.2) 4611686018427387904 (0,([]:List (List Int)))=some m:=by
    refine Bl m.length (fun i=>(i,m.take i)) (by omega) _ (by simp) (fun i hi=>?_) ?_
    · try dsimp only
      unfold C1;rw [Cr (by omega),cond_true,gEg hi,obs,Zi _ (hrow _ (List.getElem_mem hi)),obs,Aw (by rw [List.length_take]; omega),Aw (by omega),List.take_add_one,gEg hi]; rfl
    · try dsimp only
      unfold C1;rw [B0 (by omega),cond_false,List.take_length]
  unfold Fh Do;rw [hcp,obs,e1,Wc hm (by omega) (by omega)];obtain ⟨h5,h6⟩:=Vs hp.1 hm H (Nat.le_refl _);refine ⟨true,(V:Int),0,itV p V H m H,rfl,?_,by omega,fun x hx=>by have:=(h5 x hx).1; omega⟩;rw [Bool.not_true,cond_false,obs,obs,e2]; rfl
theorem Rm (v h:Int) (xss:List (List Int)) (hn:xss.length<=1048576) (hb:Gd 1048576 xss):Bs v h xss v h xss=some true:=by
  unfold Bs;rw [Aaw xss hn hb,bne_self_eq_false,bne_self_eq_false]; rfl
theorem L4 (a b:Int) (xss:List (List Int)) {v:Int} (hv:0<=v∧v<=576460752303423488) (hn:xss.length<=1048576) (hb:Gd 1048576 xss) :
    ∃ yss,∃ u:Int,v<=u∧Ca a b xss v=some (yss,u)∧yss.length=xss.length∧B9 a b yss v=some u:=by
  obtain ⟨yss,u,h1,h2,h3,h4,h5⟩:=Xf xss hv hn hb;refine ⟨yss,u,h1,?_,h4,?_⟩
  · unfold Ca;rw [h3,obs,Aw h4]
  · unfold B9;rw [h5,obs,B0 (by omega),cond_false]
end
theorem Acg {p v h:Int} {b:List (List Int)} (hn:b.length<=9223372036854775807) (hr:Gd 9223372036854775807 b):Bg p v h b=some true:=by
  unfold Bg
  have hz:Dp v h b 1048576=some (if szW 1048576 b<0 then -1 else szW 1048576 b):=by
    unfold Dp;rw [Z9 b (by omega) hn hr,obs];by_cases c:szW 1048576 b<0
    · rw [Cr c,cond_true,if_pos c]
    · rw [B0 c,cond_false,if_neg c]
  rw [hz,obs];by_cases c:szW 1048576 b<0
  · rw [if_pos c]; rfl
  rw [if_neg c,B0 c,cond_false];obtain ⟨g1,g2,g3⟩:=Aey (by omega) c;have hbl:b.length<=1048576:=by omega
  have hto:Br v h b=some b:=by unfold Br; rw [Aag b hbl g2]; rfl
  obtain ⟨o,v',h',r,e1,e2,r1,r2⟩:=Abe p v h b hbl g2;obtain ⟨ya,ua,a1,a2,a3,a4⟩:=L4 v h b (v:=1) (by omega) hbl g2;obtain ⟨yb,ub,b1,b2,b3,b4⟩:=L4 v' h' r (v:=1) (by omega) r1 r2;simp only [hto,e1,e2,obs,Rm v h b hbl g2,Rm v' h' r r1 r2,bne_self_eq_false,Bool.not_true,cond_false,a2,Aw a3,B0 (show ¬ ua<0 by omega),b2,Aw b3,b4,B0 (show ¬ ub<0 by omega)]
end Go.Proofs.YtehocbbnjfmgaaaDoor

namespace Go.Proofs.YtehocbbnjfmgaaaDoor
open Go.RowKit Go.Deep
theorem eliminateAll_walk (p:Int) (sVisible:Int) (sHidden:Int) (sRows:List (List Int)) (A_sRows:Option Addr) (c_sRows:Nat) (l_sRows:List Addr) (w:World) (_i_p: -9223372036854775808<=p∧p<=9223372036854775807) (_i_sVisible: -9223372036854775808<=sVisible∧sVisible<=9223372036854775807) (_i_sHidden: -9223372036854775808<=sHidden∧sHidden<=9223372036854775807) (s_sRows:Sl (fun _=>True) w (.slice .int) A_sRows c_sRows sRows l_sRows) (_i_sRows:Ty.In (.slice (.slice .int)) sRows) (tab:Tab w) :
    Calls Tryd.prog 3 #[.int .i64 p,.agg #[.int .i64 sVisible,.int .i64 sHidden,.slice A_sRows sRows.length c_sRows]] w fun e w'=>e=.returned (.bool true)∧Below w.heap.size w w':=by
  have hl:Bg p sVisible sHidden sRows=some true:=Acg (Abm s_sRows).2 (Ado s_sRows);refine (Gn hl w (fun _=>True) [.int .i64 p,.agg #[.int .i64 sVisible,.int .i64 sHidden,.slice A_sRows sRows.length c_sRows]] (fun w' hb=>tab.below hb) ⟨_,_,rfl,rfl,⟨_,_,rfl,⟨_,rfl,⟨_,_,rfl,rfl,⟨_,_,rfl,rfl,⟨_,_,rfl,⟨A_sRows,c_sRows,l_sRows,rfl,s_sRows⟩,rfl⟩⟩⟩⟩,rfl⟩⟩).mono ?_;rintro e w' ⟨u,rfl,hb,us,ls,h1,_,rfl⟩;obtain ⟨u1,us1,rfl,h2,_,rfl,rfl⟩:=h1;obtain rfl:u1=.bool true:=h2;exact ⟨rfl,hb⟩
end Go.Proofs.YtehocbbnjfmgaaaDoor

