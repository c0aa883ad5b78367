/- Lemmas on the program and on partial functions that stand in place of its code (part 7); no condition beyond those that each one states. -/
import Derived.Test.YtehocbbnjfmgaaaDoorZ6
import Derived.Deep.RegionHeld3
namespace Go.Proofs.YtehocbbnjfmgaaaDoor

theorem Aja {p x y:Int} (hp:2<=p∧p<=97) (hx:0<=x∧x<p) (hy:0<=y∧y<p):Gw p x y=some ((x - y) % p):=by
  unfold Gw;rw [An (by omega),Cj (n:=x+p) (by omega) (by omega),Cj (by omega) (by omega),Int.tmod_eq_emod_of_nonneg (by omega),show x+p - y=x - y+p by omega,Int.add_emod_right]
/-- A loop that writes one row of a matrix anew. -/
theorem Y8 {ρ:Type} {body:Nat×List (List Int)->Option (Ctl (Nat×List (List Int)) ρ)} {M:List (List Int)} {r:Nat} {x y:List Int} {o:ρ} (hx:M[r]? =some x) (hl:y.length=x.length) (hb:x.length<4611686018427387904)
    (hs:∀ j (h:j<x.length) (z:List Int),z[j]? =some x[j]->body (j,M.set r z)=some (.next (j+1,M.set r (z.set j (y[j]'(by omega)))))) (he:body (x.length,M.set r y)=some (.out o)) :
    A1 body 4611686018427387904 (0,M)=some o:=by
  refine Bf x.length (fun j=>(j,M.set r (y.take j++x.drop j))) hb _ ?_ (fun j hj=>?_) ?_
  · obtain ⟨h1,h2⟩:=gSi.1 hx;simp only [List.take_zero,List.nil_append,List.drop_zero];rw [← h2,List.set_getElem_self]
  · have h1:(y.take j).length=j:=by rw [List.length_take]; omega
    rw [hs j hj _ (G3 hj h1),G8 hj h1,List.take_add_one,gEg (by omega)]; rfl
  · rw [List.drop_length,List.append_nil,← hl,List.take_length,hl]; exact he
/-- A loop that writes a row anew. -/
theorem Aeu {ρ:Type} {body:Nat×List Int->Option (Ctl (Nat×List Int) ρ)} {x y:List Int} {o:ρ} (hl:y.length=x.length) (hb:x.length<4611686018427387904)
    (hs:∀ j (h:j<x.length) (z:List Int),z[j]? =some x[j]->body (j,z)=some (.next (j+1,z.set j (y[j]'(by omega))))) (he:body (x.length,y)=some (.out o)) :
    A1 body 4611686018427387904 (0,x)=some o:=by
  refine Bf x.length (fun j=>(j,y.take j++x.drop j)) hb _ rfl (fun j hj=>?_) ?_
  · have h1:(y.take j).length=j:=by rw [List.length_take]; omega
    rw [hs j hj _ (G3 hj h1),G8 hj h1,List.take_add_one,gEg (by omega)]; rfl
  · rw [List.drop_length,List.append_nil,← hl,List.take_length,hl]; exact he
/-- A loop that writes the rows of a matrix anew, one by one, but for row r. -/
theorem Ajt {ρ:Type} {body:Nat×List (List Int)->Option (Ctl (Nat×List (List Int)) ρ)} {M E:List (List Int)} {r:Nat} {pr:List Int} {o:ρ} (hl:E.length=M.length) (hM:M[r]? =some pr) (hE:E[r]? =some pr)
    (hb:M.length<4611686018427387904) (hs:∀ i (h:i<M.length) (s:List (List Int)),s.length=M.length->s[i]? =some M[i]->s[r]? =some pr->body (i,s)=some (.next (i+1,s.set i (E[i]'(by omega))))) (he:body (M.length,E)=some (.out o)) :
    A1 body 4611686018427387904 (0,M)=some o:=by
  refine Bf M.length (fun j=>(j,E.take j++M.drop j)) hb _ rfl (fun j hj=>?_) ?_
  · have h1:(E.take j).length=j:=by rw [List.length_take]; omega
    rw [hs j hj _ (by simp; omega) (G3 hj h1) ?_,G8 hj h1,List.take_add_one,gEg (by omega)]; rfl;by_cases h2:r<j
    · rw [List.getElem?_append_left (by omega),List.getElem?_take,if_pos h2]; exact hE
    · rw [List.getElem?_append_right (by omega),h1,List.getElem?_drop,show j+(r - j)=r by omega]; exact hM
  · rw [List.drop_length,List.append_nil,← hl,List.take_length,hl]; exact he
theorem M1 {α:Type} {m:List α} {i:Nat} {x z:α} (h:m[i]? =some x):(m.set i z)[i]? =some z:=by
  rw [List.getElem?_set_self (At h)]
theorem Jb {α:Type} {m:List α} {i:Nat} {x:α} (h:m[i]? =some x):m.set i x=m:=by
  obtain ⟨h1,h2⟩:=gSi.1 h;rw [← h2,List.set_getElem_self]
theorem Ac0 {α:Type} {m:List α} {i j:Nat} {z:α} (h:i≠j):(m.set i z)[j]? =m[j]?:=List.getElem?_set_ne h
theorem Abe {p k:Int} {x:List Int} {j:Nat} (h:j<(Cx p k x).length):(Cx p k x)[j]=x[j]'(by simpa [Cx] using h)*k % p:=by simp [Cx]
theorem Abd {p f:Int} {x v:List Int} {j:Nat} (h:j<(B9 p f x v).length):(B9 p f x v)[j]=(x[j]'(by simp [B9] at h; omega) - f*v[j]'(by simp [B9] at h; omega)) % p:=by simp [B9]
theorem Jq {p:Int} {c r:Nat} {pr:List Int} {m:List (List Int)} {i:Nat} (h:i<(Ez p c r pr m).length) :
    (Ez p c r pr m)[i]=if i=r then pr else B9 p ((m[i]'(by simpa [Ez] using h)).getD c 0) (m[i]'(by simpa [Ez] using h)) pr:=by simp [Ez]
theorem L5 {p:Int} {w j:Nat} {x:List Int} (hx:VecW p w x) (hj:j<x.length):0<=x[j]∧x[j]<p:=hx.2 _ (List.getElem_mem hj)
theorem Dc {p:Int} {w j:Nat} {x:List Int} (hx:VecW p w x) (hj:j<w):0<=x.getD j 0∧x.getD j 0<p∧x[j]? =some (x.getD j 0):=by
  have h:j<x.length:=by rw [hx.1]; exact hj
  have e:x[j]? =some x[j]:=gEg h;rw [Bg e];exact ⟨(L5 hx h).1,(L5 hx h).2,e⟩
theorem Ajp {p f a b:Int}:(a - f*b % p) % p=(a - f*b) % p:=by rw [Int.sub_emod_emod]
section
variable {p:Int} {w:Nat} {m:List (List Int)}
theorem Af1 {r:Nat} {x:List Int} {k:Int} (hp:2<=p∧p<=97) (hx:VecW p w x) (hw:w<=100000) (hr:m[r]? =some x) (hk:0<=k∧k<p) :
    A1 (fun s_:Nat×List (List Int)=>C3 x r p k s_.1 s_.2) 4611686018427387904 (0,m)=some (m.set r (Cx p k x)):=by
  have hl:=hx.1;refine Y8 hr (y:=Cx p k x) (by simp [Cx]) (by omega) (fun j hj z hz=>?_) ?_
  · have hv:=L5 hx hj
    try dsimp only
    unfold C3;rw [Bo (by omega),cond_true,M1 hr,obs,hz,obs,Aef hp hv hk,obs,An (by omega),List.set_set,Abe]
  · try dsimp only
    unfold C3;rw [Bm (by omega),cond_false]
theorem Ah7 {i r:Nat} {x v:List Int} {f:Int} (hp:2<=p∧p<=97) (hx:VecW p w x) (hv:VecW p w v) (hw:w<=100000) (hi:m[i]? =some x) (hr:m[r]? =some v) (hn:i≠r) (hf:0<=f∧f<p) :
    A1 (fun s_:Nat×List (List Int)=>C6 x i r p f s_.1 s_.2) 4611686018427387904 (0,m)=some (m.set i (B9 p f x v)):=by
  have hl:=hx.1;have hl':=hv.1;refine Y8 hi (y:=B9 p f x v) (by simp [B9]; omega) (by omega) (fun j hj z hz=>?_) ?_
  · have h1:=L5 hx hj;have h2:=L5 hv (j:=j) (by omega)
    try dsimp only
    unfold C6
    rw [Bo (by omega),cond_true,M1 hi,obs,hz,obs,Ac0 hn,hr,obs,gEg (show j<v.length by omega),obs,Aef hp hf h2,obs,
      Aja hp h1 (X9 hp.1),obs,An (by omega),List.set_set,Abd,Ajp]
  · try dsimp only
    unfold C6;rw [Bm (by omega),cond_false]
theorem Aav {c r:Nat} {pr:List Int} (h:r<m.length):(Ez p c r pr m)[r]? =some pr:=by
  rw [gEg (by rw [Jl]; exact h),Jq,if_pos rfl]
theorem Ah9 {M0:List (List Int)} {c r:Nat} {pr:List Int} (hp:2<=p∧p<=97) (hm:MatW p w m) (hw:w<=100000) (hl:m.length<=100000) (hr:m[r]? =some pr) (hc:c<w) (h0:M0.length=m.length) :
    A1 (fun s_:Nat×List (List Int)=>C1 M0 r c p s_.1 s_.2) 4611686018427387904 (0,m)=some (Ez p c r pr m):=by
  refine Ajt (E:=Ez p c r pr m) (Jl ..) hr (Aav (At hr)) (by omega) (fun i hi s hs h1 h2=>?_) ?_
  · have hx:=hm _ (List.getElem_mem hi);have hv:=hm _ (List.mem_of_getElem? hr);obtain ⟨g1,g2,g3⟩:=Dc hx hc;generalize hxe:m[i]=x at *
    try dsimp only
    unfold C1;rw [Bo (by omega),cond_true,Jq,hxe];by_cases hir:i=r
    · subst hir;rw [if_pos rfl,show (((i:Nat):Int)==((i:Nat):Int))=true from beq_self_eq_true _,cond_true,obs,cond_true,obs,An (by omega),Jb h2]
    · rw [if_neg hir,show (((i:Nat):Int)==((r:Nat):Int))=false from by rw [beq_eq_false_iff_ne]; omega,cond_false,h1,obs,g3,obs,obs];by_cases h0:x.getD c 0=0
      · rw [h0,show ((0:Int)==0)=true from rfl,cond_true,obs,An (by omega),Qp hx.2 (by rw [hx.1,hv.1]; exact Nat.le_refl _),Jb h1]
      · rw [show (x.getD c 0==0)=false from beq_eq_false_iff_ne.2 h0,cond_false,obs,g3,obs,Ah7 hp hx hv hw h1 h2 hir ⟨g1,g2⟩,obs,An (by omega)]
  · try dsimp only
    unfold C1;rw [Bm (by omega),cond_false]
theorem Ae8 {c r:Nat} {pr y:List Int}:Ez p c r pr (m.set r y)=Ez p c r pr m:=by
  apply List.ext_getElem
  · rw [Jl,Jl,List.length_set]
  · intro i h1 h2;rw [Jq,Jq];by_cases h:i=r
    · rw [if_pos h,if_pos h]
    · rw [if_neg h,if_neg h];simp only [List.getElem_set,if_neg (fun e=>h (Eq.symm e))]
theorem Aju {c r:Nat} (hm:MatW p w m) (hc:c<w) (hl:m.length<=100000) (hr:r<=m.length) :
    A1 (fun s_:Nat=>Cc m c s_) 4611686018427387904 r=some (Ci m c r):=by
  have hle:=Mc (c:=c) hr;refine Bf ((m.drop r).findIdx fun x=>x.getD c 0 !=0) (fun t=>r+t) (by unfold Ci at hle; omega) _ rfl (fun t ht=>?_) ?_
  · have h1:r+t<Ci m c r:=by unfold Ci; omega
    have h0:=Tg (i:=r+t) (by omega) h1 hr;obtain ⟨x,hx⟩:=Ho (show r+t<m.length by omega);obtain ⟨g1,g2,g3⟩:=Dc (hm _ (List.mem_of_getElem? hx)) hc;rw [Bg hx] at h0
    try dsimp only
    unfold Cc;rw [Bo (by omega),cond_true,hx,obs,g3,obs,obs,h0,show ((0:Int)==0)=true from rfl,cond_true,An (by omega),Nat.add_assoc]
  · show Cc m c (Ci m c r)=_;unfold Cc;by_cases h:Ci m c r=m.length
    · rw [Bm (by omega),cond_false,obs,cond_false]
    · have h0:=U1 h hr;obtain ⟨x,hx⟩:=Ho (show Ci m c r<m.length by omega);obtain ⟨g1,g2,g3⟩:=Dc (hm _ (List.mem_of_getElem? hx)) hc;rw [Bg hx] at h0;rw [Bo (by omega),cond_true,hx,obs,g3,obs,obs,beq_eq_false_iff_ne.2 h0,cond_false]
theorem Ag6 {r k:Nat} (hr:r<m.length) (hk:k<m.length):(Gx m r k)[r]? =some (m.getD k []):=by
  unfold Gx;by_cases h:r=k
  · subst h;rw [List.getElem?_set_self (by rw [List.length_set]; exact hr)]
  · rw [List.getElem?_set_ne (Ne.symm h),List.getElem?_set_self hr]
theorem Ag3 {n:Nat} (hp:isF p=true) (hm:MatW p w m) (hn:n<=w) (hw:w<=100000) (hl:m.length<=100000) :
    A1 (fun s_:Nat×Nat×List (List Int)=>Bw (n:Int) p s_.1 s_.2.1 s_.2.2) 4611686018427387904 (0,0,m)=some (gjT p m n):=by
  have hb:=K1 hp;refine I3 n (fun c s=>s=((gjT p m c).1,c,(gjT p m c).2)) (by omega) _ rfl (fun c s hc hI=>?_) (fun s hI=>?_)
  · subst hI;obtain ⟨hm',hr,hl'⟩:=K0 hb.1 hm c;by_cases hlt:(gjT p m c).1<(gjT p m c).2.length
    · refine .inl ?_;refine ⟨_,?_,rfl⟩;show Bw _ _ _ _ _=some (Ctl.next ((gjS p c (gjT p m c)).1,c+1,(gjS p c (gjT p m c)).2));generalize gjT p m c=s at *;obtain ⟨r,M⟩:=s
      try dsimp only at *
      unfold Bw gjS;rw [Bo (by omega),cond_true,obs,Bo (by omega),cond_true,Aju hm' (by omega) (by omega) hr,obs,if_pos hlt];by_cases hk:Ci M c r=M.length
      · rw [hk,beq_self_eq_true,cond_true,obs,if_pos rfl];exact An (by omega) _
      · have hle:=Mc (c:=c) hr;have hkl:Ci M c r<M.length:=by omega
        rw [show (((Ci M c r:Nat):Int)==((M.length:Nat):Int))=false from by rw [beq_eq_false_iff_ne]; omega,cond_false,if_neg hk];have hnz:=U1 hk hr;obtain ⟨x,hx⟩:=Ho hlt;obtain ⟨y,hy⟩:=Ho hkl;have hyM:=hm' _ (List.mem_of_getElem? hy);obtain ⟨g1,g2,g3⟩:=Dc hyM (show c<w by omega);rw [Bg hy] at hnz;obtain ⟨i1,_,i2,i3,_⟩:=Acy hp (a:=y.getD c 0) (by omega);have hs:=Ag6 hlt hkl;have hpm:=Su hm' hlt hkl;have hsl:=K2 M r (Ci M c r);have hsw:(M.set r y).set (Ci M c r) x=Gx M r (Ci M c r):=by unfold Gx; rw [Bg hx,Bg hy]
        rw [hx,obs,hy,obs,hsw,Bg hy];rw [Bg hy] at hs;generalize Gx M r (Ci M c r)=W at *;have hpr:VecW p w (Cx p (I1 p (y.getD c 0)) y):=Mi hb.1 hyM.1
        rw [hs,obs,g3,obs,i1,obs,Af1 hb hyM hw hs ⟨i2,i3⟩,obs,
          Ah9 hb (w:=w) (m:=W.set r (Cx p (I1 p (y.getD c 0)) y)) (pr:=Cx p (I1 p (y.getD c 0)) y) (fun z hz=>?_) hw (by rw [List.length_set]; omega) (M1 hs) (by omega) rfl,obs,An (by omega),obs,Ae8]
        · exact An (by omega) _
        · rcases List.mem_or_eq_of_mem_set hz with hz | rfl
          · exact hpm _ hz
          · exact hpr
    · refine .inr ?_;rw [Vu hlt n (by omega)];generalize gjT p m c=s at *
      try dsimp only
      unfold Bw;rw [Bo (by omega),cond_true,obs,Bm (by omega),cond_false]
  · subst hI
    try dsimp only
    unfold Bw;rw [Bm (by omega),cond_false,obs,cond_false]
theorem Ai8 (hm:MatW p w m) (hw:w<=100000) (hl:m.length<=100000) :
    A1 (fun s_:Nat×List (List Int)=>Ca m s_.1 s_.2) 4611686018427387904 (0,([]:List (List Int)))=some m:=by
  have h:=X2 (body:=fun s_:Nat×List (List Int)=>Ca m s_.1 s_.2) m id [] (F:=4611686018427387904) (by omega) m (fun i x h=>?_) ?_
  · simpa using h
  · have:=At h;have hx:=(hm x (List.mem_of_getElem? h)).1
    try dsimp only
    unfold Ca;rw [Bo (by omega),cond_true,h,obs,Ady _ (by omega),obs,An (by simp; omega),An (by omega)]; rfl
  · try dsimp only
    unfold Ca;rw [Bm (by omega),cond_false,List.map_id,List.nil_append]
theorem Ab5 {n:Nat} (hp:isF p=true) (hm:MatW p w m) (hn:n<=w) (hw:w<=100000) (hl:m.length<=100000):Ei p (n:Int) m=some (gj p n m):=by
  have hb:=K1 hp;obtain ⟨_,h2,h3⟩:=K0 hb.1 hm n;unfold Ei;rw [Ai8 hm hw hl,obs,Ag3 hp hm hn hw hl,obs];exact An (by omega) _
end
end Go.Proofs.YtehocbbnjfmgaaaDoor

namespace Go.Proofs.YtehocbbnjfmgaaaDoor

/-- A loop that writes the rows of two matrices anew, one by one, but for row r. -/
theorem Ai7 {ρ:Type} {body:Nat×List (List Int)×List (List Int)->Option (Ctl (Nat×List (List Int)×List (List Int)) ρ)} {M E A B:List (List Int)} {r:Nat} {pr pa:List Int} {o:ρ}
    (hl:E.length=M.length) (hA:A.length=M.length) (hB:B.length=M.length) (hM:M[r]? =some pr) (hE:E[r]? =some pr) (hM':A[r]? =some pa) (hE':B[r]? =some pa) (hb:M.length<4611686018427387904)
    (hs:∀ i (h:i<M.length) (s t:List (List Int)),s.length=M.length->t.length=M.length->s[i]? =some M[i]->t[i]? =some (A[i]'(by omega))->s[r]? =some pr->t[r]? =some pa ->
      body (i,s,t)=some (.next (i+1,s.set i (E[i]'(by omega)),t.set i (B[i]'(by omega))))) (he:body (M.length,E,B)=some (.out o)) :
    A1 body 4611686018427387904 (0,M,A)=some o:=by
  have hr:∀ {M E:List (List Int)} {pr:List Int} {j:Nat},(E.take j).length=j->M[r]? =some pr->E[r]? =some pr->(E.take j++M.drop j)[r]? =some pr:=by
    intro M E pr j h1 hM hE;by_cases h2:r<j
    · rw [List.getElem?_append_left (by omega),List.getElem?_take,if_pos h2]; exact hE
    · rw [List.getElem?_append_right (by omega),h1,List.getElem?_drop,show j+(r - j)=r by omega]; exact hM
  refine Bf M.length (fun j=>(j,E.take j++M.drop j,B.take j++A.drop j)) hb _ rfl (fun j hj=>?_) ?_
  · have h1:(E.take j).length=j:=by rw [List.length_take]; omega
    have h2:(B.take j).length=j:=by rw [List.length_take]; omega
    rw [hs j hj _ _ (by simp; omega) (by simp; omega) (G3 hj h1) (G3 (by omega) h2) (hr h1 hM hE) (hr h2 hM' hE'),G8 hj h1,G8 (by omega) h2,List.take_add_one,gEg (by omega),List.take_add_one,gEg (by omega)]; rfl
  · rw [List.drop_length,List.append_nil,← hl,List.take_length,hl,← hA,List.drop_length,List.append_nil,hA,← hB,List.take_length,hB]; exact he
theorem VecW.tk {p:Int} {w u:Nat} {x:List Int} (h:VecW p w x) (hu:u<=w):VecW p u (x.take u):=⟨by rw [List.length_take,h.1]; omega,fun a ha=>h.2 a (List.mem_of_mem_take ha)⟩
theorem VecW.dr {p:Int} {w u:Nat} {x:List Int} (h:VecW p w x):VecW p (w - u) (x.drop u):=⟨by rw [List.length_drop,h.1],fun a ha=>h.2 a (List.mem_of_mem_drop ha)⟩
theorem MatW.tk {p:Int} {w u:Nat} {m:List (List Int)} (h:MatW p w m) (hu:u<=w):MatW p u (m.map (·.take u)):=fun x hx=>by
  obtain ⟨y,hy,rfl⟩:=List.mem_map.1 hx;exact (h y hy).tk hu
theorem MatW.dr {p:Int} {w u:Nat} {m:List (List Int)} (h:MatW p w m):MatW p (w - u) (m.map (·.drop u)):=fun x hx=>by
  obtain ⟨y,hy,rfl⟩:=List.mem_map.1 hx;exact (h y hy).dr
section
variable {p:Int} {w:Nat} {m:List (List Int)}
theorem Uc {x v:List Int} {f:Int} (hp:2<=p∧p<=97) (hx:VecW p w x) (hv:VecW p w v) (hw:w<=100000) (hf:0<=f∧f<p) :
    Dd p x (wI (0 - f)) v=some (B9 p f x v):=by
  have hl:=hx.1;have hl':=hv.1;unfold Dd;refine Aeu (y:=B9 p f x v) (by simp [B9]; omega) (by omega) (fun j hj z hz=>?_) ?_
  · have h1:=L5 hx hj;have h2:=L5 hv (j:=j) (by omega);have h3:=Yv hp hf h2;have e:(0 - f)*v[j]= -(f*v[j]):=by rw [Int.zero_sub,Int.neg_mul]
    try dsimp only
    unfold Ec;rw [Bo (by omega),cond_true,gEg (show j<v.length by omega),obs,hz,obs,Cj (n:=0 - f) (by omega) (by omega),e,Cj (n:= -(f*v[j])) (by omega) (by omega),Cj (by omega) (by omega),Amt hp,obs,An (by omega),Abd]; rfl
  · try dsimp only
    unfold Ec;rw [Bm (by omega),cond_false]
theorem Aam {r k:Nat} {x y:List Int} {b:Int} (hr:m[r]? =some x) (hk:m[k]? =some y):A4 0 (r:Int) (k:Int) b p m=some (Gx m r k):=by
  unfold A4 Gx;rw [show ((0:Int)==0)=true from rfl,cond_true,F1 (by omega),Int.toNat_natCast,hk,obs,F1 (by omega),Int.toNat_natCast,hr,obs,Bg hr,Bg hk]
theorem Aa5 {r:Nat} {x:List Int} {a b:Int} (hp:isF p=true) (hx:VecW p w x) (hw:w<=100000) (hr:m[r]? =some x) (ha:1<=a∧a<p) :
    A4 1 (r:Int) b a p m=some (m.set r (Cx p (I1 p a) x)):=by
  obtain ⟨_,i1,i2,i3,_⟩:=Acy hp ha;have hb:=K1 hp;have hl:=hx.1;unfold A4;rw [show ((1:Int)==0)=false from rfl,cond_false,show ((1:Int)==1)=true from rfl,cond_true,i1,obs,F1 (by omega),Int.toNat_natCast,hr,obs];refine Y8 hr (y:=Cx p (I1 p a) x) (by simp [Cx]) (by omega) (fun j hj z hz=>?_) ?_
  · have hv:=L5 hx hj;have h3:=Yv hb hv ⟨i2,i3⟩
    try dsimp only
    unfold Bv;rw [Bo (by omega),cond_true,F1 (by omega),Int.toNat_natCast,M1 hr,obs,An (by omega),hz,obs,An (by omega),An (by omega),List.set_set,Abe,Cj (by omega) (by omega),Int.tmod_eq_emod_of_nonneg (by omega)]
  · try dsimp only
    unfold Bv;rw [Bm (by omega),cond_false]
theorem Abi {i r:Nat} {x v:List Int} {f:Int} (hp:2<=p∧p<=97) (hx:VecW p w x) (hv:VecW p w v) (hw:w<=100000) (hi:m[i]? =some x) (hr:m[r]? =some v) (hn:i≠r) (hf:0<=f∧f<p) :
    A4 2 (i:Int) (r:Int) f p m=some (m.set i (B9 p f x v)):=by
  have hl:=hx.1;have hl':=hv.1;unfold A4
  rw [show ((2:Int)==0)=false from rfl,cond_false,show ((2:Int)==1)=false from rfl,cond_false,show ((2:Int)==2)=true from rfl,cond_true,F1 (by omega),Int.toNat_natCast,hi,obs,F1 (by omega),Int.toNat_natCast,hr,obs,
    An hn,Uc hp hx hv hw hf,obs,An (by simp [B9]; omega)]
theorem Aao {r:Nat} (hr:r<m.length):Gx m r r=m:=by
  obtain ⟨x,hx⟩:=Ho hr;unfold Gx;rw [Bg hx,List.set_set,Jb hx]
theorem Aj1 {A:List (List Int)} {r k:Nat} (hA:A.length=m.length) (hr:r<m.length) (hk:k<m.length):Bd 0 (r:Int) (k:Int) 0 p m A=some (Gx m r k,Gx A r k):=by
  unfold Bd;by_cases h:r=k
  · subst h;rw [beq_self_eq_true,cond_true,Aao hr,Aao (by omega)]
  · obtain ⟨x,hx⟩:=Ho hr;obtain ⟨y,hy⟩:=Ho hk;obtain ⟨x',hx'⟩:=Ho (show r<A.length by omega);obtain ⟨y',hy'⟩:=Ho (show k<A.length by omega);rw [show ([(0:Int),(r:Int),(k:Int),0]==[0,(r:Int),(r:Int),0])=false from by rw [beq_eq_false_iff_ne]; intro e; simp at e; omega,cond_false,Aam hx hy,obs,An (K2 ..),Aam hx' hy',obs,An (K2 ..)]
theorem Ajl {A:List (List Int)} {w' r:Nat} {x y:List Int} {a:Int} (hp:isF p=true) (hx:VecW p w x) (hy:VecW p w' y) (hw:w<=100000) (hw':w'<=100000) (hr:m[r]? =some x) (hA:A[r]? =some y) (ha:1<=a∧a<p) :
    Bd 1 (r:Int) 0 a p m A=some (m.set r (Cx p (I1 p a) x),A.set r (Cx p (I1 p a) y)):=by
  unfold Bd;rw [show ([(1:Int),(r:Int),0,a]==[0,(r:Int),(r:Int),0])=false from by rw [beq_eq_false_iff_ne]; intro e; simp at e,cond_false,Aa5 hp hx hw hr ha,obs,An (List.length_set ..),Aa5 hp hy hw' hA ha,obs,An (List.length_set ..)]
theorem Ajf {A:List (List Int)} {w' i r:Nat} {x v y u:List Int} {f:Int} (hp:2<=p∧p<=97) (hx:VecW p w x) (hv:VecW p w v) (hy:VecW p w' y) (hu:VecW p w' u) (hw:w<=100000) (hw':w'<=100000)
    (hi:m[i]? =some x) (hr:m[r]? =some v) (hi':A[i]? =some y) (hr':A[r]? =some u) (hn:i≠r) (hf:0<=f∧f<p) :
    Bd 2 (i:Int) (r:Int) f p m A=some (m.set i (B9 p f x v),A.set i (B9 p f y u)):=by
  unfold Bd;rw [show ([(2:Int),(i:Int),(r:Int),f]==[0,(i:Int),(i:Int),0])=false from by rw [beq_eq_false_iff_ne]; intro e; simp at e,cond_false,Abi hp hx hv hw hi hr hn hf,obs,An (List.length_set ..),Abi hp hy hu hw' hi' hr' hn hf,obs,An (List.length_set ..)]
def P1 (p:Int) (c r:Nat) (pa:List Int) (M A:List (List Int)):List (List Int):=A.mapIdx fun i x=>if i=r then pa else B9 p ((M.getD i []).getD c 0) x pa
theorem Lx {c r:Nat} {pa:List Int} {M A:List (List Int)} {i:Nat} (h:i<(P1 p c r pa M A).length) :
    (P1 p c r pa M A)[i]=if i=r then pa else B9 p ((M.getD i []).getD c 0) (A[i]'(by simpa [P1] using h)) pa:=by simp [P1]
theorem Ahc {M0:List (List Int)×List (List Int)} {A:List (List Int)} {w' c r:Nat} {pr pa:List Int} (hp:2<=p∧p<=97) (hm:MatW p w m) (hA:MatW p w' A) (hlA:A.length=m.length) (hw:w<=100000) (hw':w'<=100000) (hl:m.length<=100000)
    (hr:m[r]? =some pr) (hr':A[r]? =some pa) (hc:c<w) (h0:M0.1.length=m.length) :
    A1 (fun s_:Nat×List (List Int)×List (List Int)=>Cu M0 r c p s_.1 s_.2.1 s_.2.2) 4611686018427387904 (0,m,A)=some (Ez p c r pr m,P1 p c r pa m A):=by
  have hla:(P1 p c r pa m A).length=m.length:=by simp [P1,hlA]
  have hr2:=At hr;refine Ai7 (E:=Ez p c r pr m) (B:=P1 p c r pa m A) (Jl ..) hlA hla hr (Aav hr2) hr' ?_ (by omega) (fun i hi s t hs ht h1 k1 h2 k2=>?_) ?_
  · rw [gEg (by omega),Lx,if_pos rfl]
  · have hx:=hm _ (List.getElem_mem hi);have hy:=hA _ (List.getElem_mem (show i<A.length by omega));have hv:=hm _ (List.mem_of_getElem? hr);have hu:=hA _ (List.mem_of_getElem? hr');obtain ⟨g1,g2,g3⟩:=Dc hx hc;have hD:m.getD i []=m[i]:=Bg (gEg hi)
    try dsimp only
    unfold Cu;rw [Bo (by omega),cond_true,Jq,Lx,hD];generalize m[i]=x at *;generalize A[i]=y at *;by_cases hir:i=r
    · subst hir;rw [if_pos rfl,if_pos rfl,show (((i:Nat):Int) !=((i:Nat):Int))=false from bne_self_eq_false _,cond_false,obs,cond_false,obs,Jb h2,Jb k2];exact An (by omega) _
    · rw [if_neg hir,if_neg hir,show (((i:Nat):Int) !=((r:Nat):Int))=true from by rw [bne_iff_ne]; omega,cond_true,h1,obs,g3,obs,obs];by_cases h0:x.getD c 0=0
      · rw [h0,show ((0:Int) !=0)=false from rfl,cond_false,obs,Qp hx.2 (by rw [hx.1,hv.1]; exact Nat.le_refl _),Qp hy.2 (by rw [hy.1,hu.1]; exact Nat.le_refl _),Jb h1,Jb k1];exact An (by omega) _
      · rw [show (x.getD c 0 !=0)=true from bne_iff_ne.2 h0,cond_true,obs,g3,obs,Ajf hp hx hv hy hu hw hw' h1 h2 k1 k2 hir ⟨g1,g2⟩,obs,obs];exact An (by omega) _
  · try dsimp only
    unfold Cu;rw [Bm (by omega),cond_false]
theorem Ajm {c r:Nat} (hm:MatW p w m) (hc:c<w) (hl:m.length<=100000) (hr:r<=m.length) :
    A1 (fun s_:Nat=>B3 m c s_) 4611686018427387904 r=some (Ci m c r):=by
  have hle:=Mc (c:=c) hr;refine Bf ((m.drop r).findIdx fun x=>x.getD c 0 !=0) (fun t=>r+t) (by unfold Ci at hle; omega) _ rfl (fun t ht=>?_) ?_
  · have h1:r+t<Ci m c r:=by unfold Ci; omega
    have h0:=Tg (i:=r+t) (by omega) h1 hr;obtain ⟨x,hx⟩:=Ho (show r+t<m.length by omega);obtain ⟨g1,g2,g3⟩:=Dc (hm _ (List.mem_of_getElem? hx)) hc;rw [Bg hx] at h0
    try dsimp only
    unfold B3;rw [Bo (by omega),cond_true,hx,obs,g3,obs,obs,h0,show ((0:Int)==0)=true from rfl,cond_true,An (by omega),Nat.add_assoc]
  · show B3 m c (Ci m c r)=_;unfold B3;by_cases h:Ci m c r=m.length
    · rw [Bm (by omega),cond_false,obs,cond_false]
    · have h0:=U1 h hr;obtain ⟨x,hx⟩:=Ho (show Ci m c r<m.length by omega);obtain ⟨g1,g2,g3⟩:=Dc (hm _ (List.mem_of_getElem? hx)) hc;rw [Bg hx] at h0;rw [Bo (by omega),cond_true,hx,obs,g3,obs,obs,beq_eq_false_iff_ne.2 h0,cond_false]
theorem Ms {x:List Int} {u c:Nat} (h:c<u):(x.take u).getD c 0=x.getD c 0:=by
  rw [gDg,List.getElem?_take,if_pos h,gDg]
theorem Ah1 {u c r:Nat} (h:c<u):Ci (m.map (·.take u)) c r=Ci m c r:=by
  unfold Ci;rw [← List.map_drop,List.findIdx_map];congr 2;funext x;exact congrArg (· !=0) (Ms h)
theorem Ut {f:List Int->List Int} (hf:f []=[]) {i:Nat}:(m.map f).getD i []=f (m.getD i []):=by
  rw [gDg,List.getElem?_map,gDg];cases m[i]? with
  | none=>exact hf.symm
  | some x=>rfl
theorem Ael {f:List Int->List Int} (hf:f []=[]) {r k:Nat}:(Gx m r k).map f=Gx (m.map f) r k:=by
  unfold Gx;rw [List.map_set,List.map_set,Ut hf,Ut hf]
theorem Af6 {k:Int} {x:List Int} {u:Nat}:(Cx p k x).take u=Cx p k (x.take u):=by simp [Cx,List.map_take]
theorem Aff {k:Int} {x:List Int} {u:Nat}:(Cx p k x).drop u=Cx p k (x.drop u):=by simp [Cx,List.map_drop]
theorem Afu {k:Int} {x v:List Int} {u:Nat}:(B9 p k x v).take u=B9 p k (x.take u) (v.take u):=by simp [B9,List.take_zipWith]
theorem Aga {k:Int} {x v:List Int} {u:Nat}:(B9 p k x v).drop u=B9 p k (x.drop u) (v.drop u):=by simp [B9,List.drop_zipWith]
theorem Ag9 {c r u:Nat} {pr:List Int} (h:c<u):(Ez p c r pr m).map (·.take u)=Ez p c r (pr.take u) (m.map (·.take u)):=by
  apply List.ext_getElem
  · simp [Ez]
  · intro i h1 h2;rw [List.getElem_map,Jq,Jq,List.getElem_map,Ms h];split
    · rfl
    · exact Afu
theorem Ai4 {c r u:Nat} {pr:List Int} (h:c<u):(Ez p c r pr m).map (·.drop u)=P1 p c r (pr.drop u) (m.map (·.take u)) (m.map (·.drop u)):=by
  apply List.ext_getElem
  · simp [Ez,P1]
  · intro i h1 h2;rw [List.getElem_map,Jq,Lx,List.getElem_map,Ut (f:=(·.take u)) List.take_nil,Ms h,show m.getD i []=m[i]'(by simpa [Ez] using h1) from Bg (gEg (by simpa [Ez] using h1))];split
    · rfl
    · exact Aga
theorem Ago {c r:Nat} {pa y z:List Int} {M A:List (List Int)}:P1 p c r pa (M.set r z) (A.set r y)=P1 p c r pa M A:=by
  apply List.ext_getElem
  · simp [P1]
  · intro i h1 h2;rw [Lx,Lx];by_cases h:i=r
    · rw [if_pos h,if_pos h]
    · rw [if_neg h,if_neg h];simp only [List.getElem_set,if_neg (fun e=>h (Eq.symm e)),gDg,List.getElem?_set_ne (Ne.symm h)]
def rdW (u:Nat) (W:List (List Int)):List (List Int):=W.map (·.take u)
def alW (u:Nat) (W:List (List Int)):List (List Int):=W.map (·.drop u)
theorem Agp {n u:Nat} (hp:isF p=true) (hm:MatW p w m) (hn:n<=u) (hu:u<=w) (hw:w<=100000) (hl:m.length<=100000) :
    A1 (fun s_:Nat×Nat×List (List Int)×List (List Int)=>Bt (n:Int) p s_.1 s_.2.1 s_.2.2.1 s_.2.2.2) 4611686018427387904 (0,0,rdW u m,alW u m)=some ((gjT p m n).1,rdW u (gjT p m n).2,alW u (gjT p m n).2):=by
  have hb:=K1 hp;refine I3 n (fun c s=>s=((gjT p m c).1,c,rdW u (gjT p m c).2,alW u (gjT p m c).2)) (by omega) _ rfl (fun c s hc hI=>?_) (fun s hI=>?_)
  · subst hI;obtain ⟨hm',hr,hl'⟩:=K0 hb.1 hm c;have hlr:(rdW u (gjT p m c).2).length=(gjT p m c).2.length:=List.length_map ..;have hla:(alW u (gjT p m c).2).length=(gjT p m c).2.length:=List.length_map ..;by_cases hlt:(gjT p m c).1<(gjT p m c).2.length
    · refine .inl ?_;refine ⟨_,?_,rfl⟩;show Bt _ _ _ _ _ _=some (Ctl.next ((gjS p c (gjT p m c)).1,c+1,rdW u (gjS p c (gjT p m c)).2,alW u (gjS p c (gjT p m c)).2));generalize gjT p m c=s at *;obtain ⟨r,M⟩:=s
      try dsimp only at *
      have hR:MatW p u (rdW u M):=hm'.tk hu;have hA:MatW p (w - u) (alW u M):=hm'.dr;have hpv:Ci (rdW u M) c r=Ci M c r:=Ah1 (by omega);unfold Bt gjS;rw [Bo (by omega),cond_true,obs,Bo (by omega),cond_true,Ajm hR (by omega) (by omega) (by omega),obs,if_pos hlt,hlr,hpv];by_cases hk:Ci M c r=M.length
      · rw [hk,beq_self_eq_true,cond_true,obs,if_pos rfl];exact An (by omega) _
      · have hle:=Mc (c:=c) hr;have hkl:Ci M c r<M.length:=by omega
        rw [show (((Ci M c r:Nat):Int)==((M.length:Nat):Int))=false from by rw [beq_eq_false_iff_ne]; omega,cond_false,if_neg hk];have hnz:=U1 hk hr;obtain ⟨y,hy⟩:=Ho hkl;have hyM:=hm' _ (List.mem_of_getElem? hy);obtain ⟨g1,g2,_⟩:=Dc hyM (show c<w by omega);rw [Bg hy] at hnz;have hs:=Ag6 hlt hkl;rw [Bg hy] at hs;have hpm:=Su hm' hlt hkl;have hsl:=K2 M r (Ci M c r);have e1:Gx (rdW u M) r (Ci M c r)=rdW u (Gx M r (Ci M c r)):=(Ael List.take_nil).symm;have e2:Gx (alW u M) r (Ci M c r)=alW u (Gx M r (Ci M c r)):=(Ael List.drop_nil).symm;rw [Aj1 (by omega) (by omega) (by omega),obs,e1,e2,Bg hy];generalize Gx M r (Ci M c r)=W at *;have hs1:(rdW u W)[r]? =some (y.take u):=by simp [rdW,hs]
        have hs2:(alW u W)[r]? =some (y.drop u):=by simp [alW,hs]
        have g4:(y.take u)[c]? =some (y.getD c 0):=by rw [(Dc (hyM.tk hu) (show c<u by omega)).2.2,Ms (by omega)]
        have q1:VecW p u (Cx p (I1 p (y.getD c 0)) (y.take u)):=Mi hb.1 (hyM.tk hu).1;have q2:VecW p (w - u) (Cx p (I1 p (y.getD c 0)) (y.drop u)):=Mi hb.1 hyM.dr.1;have l1:(rdW u W).length=W.length:=List.length_map ..;have l2:(alW u W).length=W.length:=List.length_map ..
        try dsimp only
        rw [hs1,obs,g4,obs,Ajl hp (hyM.tk hu) hyM.dr (by omega) (by omega) hs1 hs2 (by omega),obs]
        try dsimp only
        rw [Ahc hb (w:=u) (w':=w - u) (pr:=Cx p (I1 p (y.getD c 0)) (y.take u)) (pa:=Cx p (I1 p (y.getD c 0)) (y.drop u)) (fun z hz=>?_) (fun z hz=>?_) (by simp only [List.length_set]; omega) (by omega) (by omega) (by simp only [List.length_set]; omega) (M1 hs1) (M1 hs2) (by omega) rfl,obs]
        · have e3:rdW u (Ez p c r (prV p c y) W)=Ez p c r (Cx p (I1 p (y.getD c 0)) (y.take u)) (rdW u W):=by
            unfold rdW prV;rw [Ag9 (by omega),Af6]
          have e4:alW u (Ez p c r (prV p c y) W)=P1 p c r (Cx p (I1 p (y.getD c 0)) (y.drop u)) (rdW u W) (alW u W):=by
            unfold rdW alW prV;rw [Ai4 (by omega),Aff]
          try dsimp only
          rw [An (by omega),obs,Ae8,Ago,e3,e4];exact An (by omega) _
        · rcases List.mem_or_eq_of_mem_set hz with hz | rfl
          · exact hpm.tk hu _ hz
          · exact q1
        · rcases List.mem_or_eq_of_mem_set hz with hz | rfl
          · exact hpm.dr _ hz
          · exact q2
    · refine .inr ?_;rw [Vu hlt n (by omega)];generalize gjT p m c=s at *
      try dsimp only
      unfold Bt;rw [Bo (by omega),cond_true,obs,hlr,Bm (by omega),cond_false]
  · subst hI
    try dsimp only
    unfold Bt;rw [Bm (by omega),cond_false,obs,cond_false]
theorem Abz {n u:Nat} (hp:isF p=true) (hm:MatW p w m) (hn:n<=u) (hu:u<=w) (hw:w<=100000) (hl:m.length<=100000):Dt p (rdW u m) (n:Int) (alW u m)=some (rdW u (gjT p m n).2,alW u (gjT p m n).2,(gjT p m n).1):=by
  unfold Dt;rw [Agp hp hm hn hu hw hl,obs]
theorem Vb (hm:MatW p w m) (hw:w<=100000) (hl:m.length<=100000):Do m=some m:=by
  unfold Do;have h:=X2 (body:=fun s_:Nat×List (List Int)=>Cy m s_.1 s_.2) m id [] (F:=4611686018427387904) (by omega) m (fun i x h=>?_) ?_
  · rw [An (by omega),show List.replicate 0 ([]:List Int)=[] from rfl,show A1 (fun s_:Nat×List (List Int)=>Cy m s_.1 s_.2) 4611686018427387904 (0,[])=some m by simpa using h]; rfl
  · have:=At h;have hx:=(hm x (List.mem_of_getElem? h)).1
    try dsimp only
    unfold Cy;rw [Bo (by omega),cond_true,h,obs,Aew _ (by omega),obs,An (by simp; omega),An (by omega)]; rfl
  · try dsimp only
    unfold Cy;rw [Bm (by omega),cond_false,List.map_id,List.nil_append]
end
end Go.Proofs.YtehocbbnjfmgaaaDoor

namespace Go.Proofs.YtehocbbnjfmgaaaDoor

def Adv (p n:Int) (b:List (List Int)):Bool:=b.all fun x=>((x.length:Nat):Int)==n&&x.all fun a=>inR a 0 (p - 1)
theorem M2 {a lo hi:Int}:inR a lo hi=true↔lo<=a∧a<=hi:=by simp [inR]
theorem Agc {p:Int} {n:Nat} {b:List (List Int)} (h:Adv p n b=true):MatW p n b:=by
  intro x hx;have h1:=List.all_eq_true.1 h x hx;simp only [Bool.and_eq_true,beq_iff_eq,List.all_eq_true,M2] at h1;exact ⟨by omega,fun a ha=>by have:=h1.2 a ha; omega⟩
theorem Ain (p n:Int) (b:List (List Int)) (hp:2<=p∧p<=97) (hb:b.length<=1048576) (hr:Hu 1048576 b):F7 p n b=some (Adv p n b):=by
  unfold F7;rw [Mr b (fun x=>((x.length:Nat):Int)==n&&x.all fun a=>inR a 0 (p - 1)) (.next ()) (.out false) (by omega) (fun i x h=>?_) ?_,O2]; rfl
  · unfold Fn;rw [Bm (by omega),cond_false]
  · have:=At h;have hx:=hr x (List.mem_of_getElem? h);unfold Fn;rw [Bo (by omega),cond_true,h,obs];cases hc:((x.length:Nat):Int)==n
    · rw [show (((x.length:Nat):Int) !=n)=true by simp only [bne,hc,Bool.not_false],cond_true,obs,cond_true,Bool.false_and]; rfl
    · rw [show (((x.length:Nat):Int) !=n)=false by simp only [bne,hc,Bool.not_true],cond_false,Alu p x hp (by omega),obs,obs,Bool.true_and,An (by omega)];cases x.all fun a=>inR a 0 (p - 1) <;> rfl
theorem Y5 (p n:Int) (b:List (List Int)) (hb:b.length<=1048576) (hr:Hu 1048576 b):Dh p b n=some (Adv p n b):=by
  unfold Dh;rw [Mr b (fun x=>((x.length:Nat):Int)==n&&x.all fun a=>inR a 0 (p - 1)) (.next ()) (.out false) (by omega) (fun i x h=>?_) ?_,O2]; rfl
  · unfold Df;rw [Bm (by omega),cond_false]
  · have:=At h;have hx:=hr x (List.mem_of_getElem? h);unfold Df;rw [Bo (by omega),cond_true,h,obs,Aco p x n (by omega),obs,An (by omega)];cases ((x.length:Nat):Int)==n&&x.all fun a=>inR a 0 (p - 1) <;> rfl
theorem Aiv (x y:List Int) (hx:x.length<=1048576):F9 x y=some (x==y):=by
  unfold F9;by_cases h:x.length=y.length
  · rw [show (((x.length:Nat):Int) !=((y.length:Nat):Int))=false by rw [h]; exact bne_self_eq_false _,cond_false]
    have key:A1 (fun s_:Nat=>D0 x y s_) 4611686018427387904 0=some (if x==y then .next () else .out false):=by
      refine I3 x.length (fun i s=>s=i∧x.take i=y.take i) (by omega) _ ⟨rfl,by simp⟩ ?_ ?_
      · rintro i s hi ⟨hsi,ht⟩;subst hsi;unfold D0;rw [Bo (by omega),cond_true,gEg hi,obs,gEg (show s<y.length by omega),obs];by_cases he:x[s]=y[s]'(by omega)
        · refine .inl ⟨s+1,?_,rfl,?_⟩
          · rw [show (x[s] !=y[s]'(by omega))=false by rw [he]; exact bne_self_eq_false _,cond_false,An (by omega)]
          · rw [List.take_add_one,List.take_add_one,ht,gEg hi,gEg (show s<y.length by omega),he]
        · refine .inr ?_;rw [bne_iff_ne.2 he,cond_true,show (x==y)=false from by rw [beq_eq_false_iff_ne]; intro e; subst e; exact he rfl]; rfl
      · rintro s ⟨hs,ht⟩;subst hs;rw [List.take_length,h,List.take_length] at ht;subst ht;unfold D0;rw [Bm (by omega),cond_false,beq_self_eq_true]; rfl
    rw [key];cases x==y <;> rfl
  · rw [show (((x.length:Nat):Int) !=((y.length:Nat):Int))=true by rw [bne_iff_ne]; omega,cond_true,show (x==y)=false from by rw [beq_eq_false_iff_ne]; intro e; subst e; exact h rfl]
theorem Agf {p:Int} {w:Nat} {m:List (List Int)} (hp:isF p=true) (hm:MatW p w m) (hw:w<=100000) (hl:m.length<=100000):E9 p m (w:Int)=some (gj p w m):=by
  have hb:=K1 hp;obtain ⟨k1,h2,h3⟩:=K0 hb.1 hm w
  have e1:∀ {m:List (List Int)},MatW p w m->rdW w m=m:=fun {m} hm=>by
    unfold rdW;exact (List.map_congr_left (g:=id) (fun x hx=>List.take_of_length_le (Nat.le_of_eq (hm x hx).1))).trans (List.map_id _)
  have e2:alW w m=List.replicate m.length []:=by
    unfold alW;rw [List.eq_replicate_iff];refine ⟨List.length_map ..,fun b hb=>?_⟩;obtain ⟨x,hx,rfl⟩:=List.mem_map.1 hb;exact List.drop_of_length_le (Nat.le_of_eq (hm x hx).1)
  have e3:(alW w (gjT p m w).2).length=m.length:=by rw [← h3]; exact List.length_map ..
  have hR:=Abz hp hm (Nat.le_refl w) (Nat.le_refl w) hw hl;rw [e1 hm,e2] at hR;unfold E9;rw [Vb hm hw hl,obs,An (by omega),hR,obs];rw [e1 k1];rw [An h3,An e3];exact An (by dsimp only; omega) _
end Go.Proofs.YtehocbbnjfmgaaaDoor

namespace Go.Proofs.YtehocbbnjfmgaaaDoor

def Cg (p a b:Int):Prop:=∃ q,a=b+p*q
section
variable {p a b c d:Int}
theorem Cg.rf:Cg p a a:=⟨0,by simp⟩
theorem Cg.of (h:a=b):Cg p a b:=h▸Cg.rf
theorem Cg.symm (h:Cg p a b):Cg p b a:=by obtain ⟨q,rfl⟩:=h; exact ⟨-q,by grind⟩
theorem Cg.trans (h1:Cg p a b) (h2:Cg p b c):Cg p a c:=by obtain ⟨q,rfl⟩:=h1; obtain ⟨r,rfl⟩:=h2; exact ⟨q+r,by grind⟩
theorem Cg.add (h1:Cg p a b) (h2:Cg p c d):Cg p (a+c) (b+d):=by obtain ⟨q,rfl⟩:=h1; obtain ⟨r,rfl⟩:=h2; exact ⟨q+r,by grind⟩
theorem Cg.sub (h1:Cg p a b) (h2:Cg p c d):Cg p (a - c) (b - d):=by obtain ⟨q,rfl⟩:=h1; obtain ⟨r,rfl⟩:=h2; exact ⟨q - r,by grind⟩
theorem Cg.mul (h1:Cg p a b) (h2:Cg p c d):Cg p (a*c) (b*d):=by obtain ⟨q,rfl⟩:=h1; obtain ⟨r,rfl⟩:=h2; exact ⟨q*d+b*r+p*q*r,by grind⟩
theorem Cg.md:Cg p (a % p) a:=⟨-(a / p),by have:=Int.emod_add_mul_ediv a p; grind⟩
theorem Cg.to (h:Cg p a b):a % p=b % p:=by obtain ⟨q,rfl⟩:=h; rw [Int.add_mul_emod_self_left]
theorem Cg.fr (h:a % p=b % p):Cg p a b:=(Cg.md.symm.trans (Cg.of h)).trans Cg.md
theorem Cg.eq (h:Cg p a b) (h1:0<=a∧a<p) (h2:0<=b∧b<p):a=b:=by
  have:=h.to
  rwa [Int.emod_eq_of_lt h1.1 h1.2,Int.emod_eq_of_lt h2.1 h2.2] at this
end
def sm:Nat->(Nat->Int)->Int
  | 0,_=>0
  | k+1,f=>sm k f+f k
section
variable {p:Int} {f g:Nat->Int}
theorem Aky:∀ {k:Nat},(∀ i,i<k->Cg p (f i) (g i))->Cg p (sm k f) (sm k g)
  | 0,_=>Cg.rf
  | k+1,h=>(Aky fun i hi=>h i (by omega)).add (h k (by omega))
theorem Aeq:∀ {k:Nat},(∀ i,i<k->f i=0)->sm k f=0
  | 0,_=>rfl
  | k+1,h=>by unfold sm; rw [Aeq fun i hi=>h i (by omega),h k (by omega)]; rfl
end
def en (m:List (List Int)) (i j:Nat):Int:=(m.getD i []).getD j 0
inductive Gy (p:Int) (n:Nat) (m:List (List Int)):(Nat->Int)->Prop
  | zero {f:Nat->Int}:(∀ j,j<n->Cg p (f j) 0)->Gy p n m f
  | add {f g:Nat->Int} (i:Nat) (k:Int):i<m.length->Gy p n m g->(∀ j,j<n->Cg p (f j) (g j+k*en m i j))->Gy p n m f
section
variable {p:Int} {n:Nat} {m m':List (List Int)} {f g:Nat->Int}
theorem E5 {i:Nat} (h:i<m.length):Gy p n m (en m i):=.add i 1 h (.zero (f:=fun _=>0) fun _ _=>Cg.rf) fun _ _=>Cg.of (by omega)
theorem E2 (h:Gy p n m f) (hf:∀ j,j<n->Cg p (g j) (f j)):Gy p n m g:=by
  cases h with
  | zero h=>exact .zero fun j hj=>(hf j hj).trans (h j hj)
  | add i k hi h hs=>exact .add i k hi h fun j hj=>(hf j hj).trans (hs j hj)
theorem T1 (h:Gy p n m f) (hg:Gy p n m g):Gy p n m (fun j=>f j+g j):=by
  induction hg with
  | zero h0=>exact E2 h fun j hj=>(Cg.rf.add (h0 j hj)).trans (Cg.of (by omega))
  | add i k hi _ hs ih=>exact .add i k hi ih fun j hj=>(Cg.rf.add (hs j hj)).trans (Cg.of (by omega))
theorem Me (a:Int) (h:Gy p n m f):Gy p n m (fun j=>a*f j):=by
  induction h with
  | zero h0=>exact .zero fun j hj=>(Cg.rf.mul (h0 j hj)).trans (Cg.of (by omega))
  | add i k hi _ hs ih=>exact .add i (a*k) hi ih fun j hj=>(Cg.rf.mul (hs j hj)).trans (Cg.of (by grind))
theorem Mp (h:∀ i,i<m.length->Gy p n m' (en m i)) (hf:Gy p n m f):Gy p n m' f:=by
  induction hf with
  | zero h0=>exact .zero h0
  | add i k hi _ hs ih=>exact E2 (T1 ih (Me k (h i hi))) hs
/-- Reduced in the first c columns, with r rows used. -/
structure Oh (c r:Nat) (m:List (List Int)) (pv:Nat->Nat):Prop where
  rl:r<=m.length
  lt:∀ i,i<r->pv i<c
  mono:∀ i k,i<k->k<r->pv i<pv k
  low:∀ i,i<r->∀ j,j<pv i->en m i j=0
  one:∀ i,i<r->en m i (pv i)=1
  zero:∀ i,i<r->∀ k,k≠i->en m k (pv i)=0
  tail:∀ i,r<=i->∀ j,j<c->en m i j=0
theorem N7 {i j:Nat} (h:m.length<=i):en m i j=0:=by
  unfold en;rw [gDg (l:=m),List.getElem?_eq_none h]; rfl
theorem Akx {i j:Nat} (hp:2<=p) (hm:MatW p n m):0<=en m i j∧en m i j<p:=by
  unfold en;by_cases h:i<m.length
  · have hx:=hm _ (Gc h);generalize m.getD i []=x at hx;by_cases hj:j<x.length
    · rw [Bg (gEg hj)]; exact hx.2 _ (List.getElem_mem hj)
    · rw [gDg,List.getElem?_eq_none (by omega)]; exact ⟨by simp,by simp; omega⟩
  · rw [gDg (l:=m),List.getElem?_eq_none (by omega)]; simp; omega
theorem Al8 {r k i j:Nat} (hr:r<m.length) (hk:k<m.length):en (Gx m r k) i j=if i=k then en m r j else if i=r then en m k j else en m i j:=by
  unfold en Gx;by_cases h1:i=k
  · subst h1;rw [if_pos rfl,gDg (l:=List.set _ _ _),List.getElem?_set_self (by rw [List.length_set]; exact hk)]; rfl
  · rw [if_neg h1,gDg (l:=List.set _ _ _),List.getElem?_set_ne (Ne.symm h1)];by_cases h2:i=r
    · subst h2;rw [if_pos rfl,List.getElem?_set_self hr]; rfl
    · rw [if_neg h2,List.getElem?_set_ne (Ne.symm h2),← gDg]
theorem Aft {k:Int} {x:List Int} {j:Nat}:(Cx p k x).getD j 0=x.getD j 0*k % p:=by
  unfold Cx;rw [gDg,List.getElem?_map,gDg];cases x[j]? with
  | none=>simp
  | some a=>rfl
theorem Xl {k:Int} {x v:List Int} {j:Nat} (h:x.length=v.length):(B9 p k x v).getD j 0=(x.getD j 0 - k*v.getD j 0) % p:=by
  unfold B9;rw [gDg,List.getElem?_zipWith,gDg,gDg];by_cases hj:j<x.length
  · rw [gEg hj,gEg (show j<v.length by omega)]; rfl
  · rw [List.getElem?_eq_none (show x.length<=j by omega),List.getElem?_eq_none (show v.length<=j by omega)]; simp
theorem Ald {c r i j:Nat} {pr:List Int} (hm:MatW p n m) (hpr:pr.length=n) (hi:i<m.length):en (Ez p c r pr m) i j=if i=r then pr.getD j 0 else (en m i j - en m i c*pr.getD j 0) % p:=by
  have hx:=hm _ (List.getElem_mem hi);unfold en Ez;rw [gDg (l:=List.mapIdx _ _),List.getElem?_mapIdx,gEg hi,Bg (gEg hi)];show (if i=r then pr else B9 p (m[i].getD c 0) m[i] pr).getD j 0=_;split
  · rfl
  · rw [Xl (by rw [hx.1,hpr])]
def Adz (p:Int):Prop:=∀ a,1<=a->a<p->a*I1 p a % p=1
theorem Akd {c:Nat} {s:Nat×List (List Int)} {pv:Nat->Nat} (hp:2<=p) (hI:Adz p) (hm:MatW p n s.2) (h:Oh c s.1 s.2 pv) :
    (∃ pv',Oh (c+1) (gjS p c s).1 (gjS p c s).2 pv')∧(∀ f,Gy p n (gjS p c s).2 f↔Gy p n s.2 f):=by
  obtain ⟨r,m⟩:=s;dsimp only at hm h;unfold gjS;dsimp only;by_cases h1:r<m.length
  · rw [if_pos h1];by_cases h2:Ci m c r=m.length
    · rw [if_pos h2];refine ⟨⟨pv,h.rl,fun i hi=>Nat.lt_succ_of_lt (h.lt i hi),h.mono,h.low,h.one,h.zero,fun i hi j hj=>?_⟩,fun f=>Iff.rfl⟩;dsimp only at hi ⊢;by_cases hjc:j<c
      · exact h.tail i hi j hjc
      · obtain rfl:j=c:=by omega
        by_cases hil:i<m.length
        · exact Tg hi (by omega) h.rl
        · exact N7 (by omega)
    · rw [if_neg h2];have hk1:=Mc (c:=c) h.rl;have hk2:=Amh m c r;have hnz:=U1 h2 h.rl;have hkl:Ci m c r<m.length:=by omega
      have hx:=hm _ (Gc hkl);have ha:en m (Ci m c r) c≠0:=hnz;generalize hk:Ci m c r=k at *;have hab:=Akx (i:=k) (j:=c) hp hm;have hinv:=hI (en m k c) (by omega) hab.2;generalize hv:I1 p (en m k c)=v at hinv
      have hpr:∀ j,(prV p c (m.getD k [])).getD j 0=en m k j*v % p:=fun j=>by
        unfold prV;rw [Aft];show _*I1 p (en m k c) % p=_;rw [hv]; rfl
      have hprl:(prV p c (m.getD k [])).length=n:=(Mi hp hx.1).1;generalize prV p c (m.getD k [])=pr at *;have hW:=Su hm h1 hkl;have hWl:=K2 m r k;have hWe:∀ i j,en (Gx m r k) i j=if i=k then en m r j else if i=r then en m k j else en m i j:=fun i j=>Al8 h1 hkl
      generalize Gx m r k=W at *
      have hE:∀ i j,i<m.length->en (Ez p c r pr W) i j=if i=r then en m k j*v % p else (en W i j - en W i c*(en m k j*v % p)) % p:=fun i j hi=>by
        rw [Ald hW hprl (by omega),hpr]
      have hEl:=Jl p c r pr W
      have h0:∀ i j,i<m.length->i≠r->en m k j=0->en (Ez p c r pr W) i j=en W i j:=fun i j hi hne h0=>by
        have hb:=Akx (i:=i) (j:=j) hp hW;rw [hE i j hi,if_neg hne,h0,Int.zero_mul,Int.zero_emod,Int.mul_zero,Int.sub_zero,Int.emod_eq_of_lt hb.1 hb.2]
      have hkj:∀ j,j<c->en m k j=0:=fun j hj=>h.tail k (by omega) j hj
      have hkp:∀ i,i<r->en m k (pv i)=0:=fun i hi=>h.zero i hi k (by omega)
      have hcc:en m k c*v % p=1:=hinv
      have hsp:∀ i j,i<m.length->i≠r->Cg p (en (Ez p c r pr W) i j) (en W i j+ -en W i c*en (Ez p c r pr W) r j):=fun i j hi hne=>by
        rw [hE i j hi,if_neg hne,hE r j h1,if_pos rfl];exact Cg.md.trans (Cg.of (by grind))
      have hWr:∀ j,Cg p (en W r j) (en m k c*en (Ez p c r pr W) r j):=fun j=>by
        have e:en W r j=en m k j:=by
          rw [hWe];by_cases e:r=k
          · rw [if_pos e,e]
          · rw [if_neg e,if_pos rfl]
        rw [e,hE r j h1,if_pos rfl];obtain ⟨q,hq⟩:=Cg.fr (p:=p) (a:=en m k c*v) (b:=1) (by rw [hcc]; exact (Int.emod_eq_of_lt (by omega) (by omega)).symm);refine Cg.trans ⟨-q*en m k j,?_⟩ (Cg.rf.mul Cg.md.symm)
        grind
      refine ⟨⟨fun i=>if i=r then c else pv i,?_,?_,?_,?_,?_,?_,?_⟩,fun f=>⟨Mp fun i hi=>?_,Mp fun i hi=>?_⟩⟩
      · show r+1<=(Ez p c r pr W).length;omega
      · intro i hi
        try dsimp only
        split
        · omega
        · have:=h.lt i (by omega); omega
      · intro i l hil hl
        try dsimp only
        rw [if_neg (by omega:i≠r)];split
        · exact h.lt i (by omega)
        · exact h.mono i l hil (by omega)
      · intro i hi j hj;dsimp only at hj ⊢;by_cases e:i=r
        · subst e;rw [if_pos rfl] at hj;rw [hE i j h1,if_pos rfl,hkj j hj,Int.zero_mul,Int.zero_emod]
        · rw [if_neg e] at hj;have:=h.lt i (by omega);rw [h0 i j (by omega) e (hkj j (by omega)),hWe,if_neg (by omega),if_neg e];exact h.low i (by omega) j hj
      · intro i hi;dsimp only;by_cases e:i=r
        · subst e;rw [if_pos rfl,hE i c h1,if_pos rfl,hcc]
        · rw [if_neg e,h0 i (pv i) (by omega) e (hkp i (by omega)),hWe,if_neg (by omega),if_neg e];exact h.one i (by omega)
      · intro i hi l hl;dsimp only;by_cases hll:l<m.length
        · by_cases e:i=r
          · subst e;rw [if_pos rfl,hE l c hll,if_neg hl,hcc,Int.mul_one,Int.sub_self,Int.zero_emod]
          · rw [if_neg e];by_cases e2:l=r
            · subst e2;rw [hE l (pv i) hll,if_pos rfl,hkp i (by omega),Int.zero_mul,Int.zero_emod]
            · rw [h0 l (pv i) hll e2 (hkp i (by omega)),hWe];by_cases e3:l=k
              · rw [if_pos e3]; exact h.zero i (by omega) r (by omega)
              · rw [if_neg e3,if_neg e2]; exact h.zero i (by omega) l hl
        · exact N7 (by omega)
      · intro i hi j hj;dsimp only at hi ⊢;by_cases hil:i<m.length
        · by_cases e:j=c
          · subst e;rw [hE i j hil,if_neg (by omega),hcc,Int.mul_one,Int.sub_self,Int.zero_emod]
          · rw [h0 i j hil (by omega) (hkj j (by omega)),hWe];by_cases e3:i=k
            · rw [if_pos e3]; exact h.tail r (Nat.le_refl r) j (by omega)
            · rw [if_neg e3,if_neg (by omega)]; exact h.tail i (by omega) j (by omega)
        · exact N7 (by omega)
      · have hi:i<m.length:=by dsimp only at hi; omega
        have hrow:∀ t,t<m.length->Gy p n m (en W t):=fun t ht=>by
          by_cases e1:t=k
          · exact E2 (E5 h1) fun j hj=>Cg.of (by rw [hWe,if_pos e1])
          · by_cases e2:t=r
            · exact E2 (E5 hkl) fun j hj=>Cg.of (by rw [hWe,if_neg e1,if_pos e2])
            · exact E2 (E5 ht) fun j hj=>Cg.of (by rw [hWe,if_neg e1,if_neg e2])
        have hr':Gy p n m (en (Ez p c r pr W) r):=E2 (Me v (E5 hkl)) fun j hj=>by
          rw [hE r j h1,if_pos rfl];exact Cg.md.trans (Cg.of (by grind))
        by_cases e:i=r
        · subst e; exact hr'
        · exact E2 (T1 (hrow i hi) (Me (-en W i c) hr')) fun j hj=>hsp i j hi e
      · have hE':∀ t,t<m.length->Gy p n (Ez p c r pr W) (en W t):=fun t ht=>by
          by_cases e:t=r
          · subst e;exact E2 (Me (en m k c) (E5 (i:=t) (by omega))) fun j hj=>hWr j
          · refine E2 (T1 (E5 (i:=t) (by omega)) (Me (en W t c) (E5 (i:=r) (by omega)))) fun j hj=>?_
            exact Cg.symm (((hsp t j ht e).add Cg.rf).trans (Cg.of (by grind)))
        by_cases e1:i=r
        · subst e1;exact E2 (hE' k hkl) fun j hj=>Cg.of (by rw [hWe,if_pos rfl])
        · by_cases e2:i=k
          · subst e2;exact E2 (hE' r h1) fun j hj=>Cg.of (by rw [hWe,if_neg (by omega),if_pos rfl])
          · exact E2 (hE' i hi) fun j hj=>Cg.of (by rw [hWe,if_neg e2,if_neg e1])
  · rw [if_neg h1];have:=h.rl;refine ⟨⟨pv,h.rl,fun i hi=>Nat.lt_succ_of_lt (h.lt i hi),h.mono,h.low,h.one,h.zero,fun i hi j hj=>N7 (m:=m) (by dsimp only at hi; omega)⟩,fun f=>Iff.rfl⟩
theorem Ad3 {m:List (List Int)} (hp:2<=p) (hI:Adz p) (hm:MatW p n m):∀ c,(∃ pv,Oh c (gjT p m c).1 (gjT p m c).2 pv)∧∀ f,Gy p n (gjT p m c).2 f↔Gy p n m f
  | 0=>⟨⟨fun _=>0,Nat.zero_le _,by intro i hi; simp [gjT] at hi,by intro i k _ hk; simp [gjT] at hk,by intro i hi; simp [gjT] at hi,by intro i hi; simp [gjT] at hi,by intro i hi; simp [gjT] at hi,fun _ _ j hj=>by omega⟩,fun _=>Iff.rfl⟩
  | c+1=>by
    obtain ⟨⟨pv,h1⟩,h2⟩:=Ad3 hp hI hm c;obtain ⟨h3,h4⟩:=Akd hp hI (K0 hp hm c).1 h1;exact ⟨h3,fun f=>(h4 f).trans (h2 f)⟩
theorem Oz {r i j:Nat} (h:i<r):en (m.take r) i j=en m i j:=by
  unfold en;rw [gDg (l:=m.take r),List.getElem?_take,if_pos h,← gDg]
theorem Ab1 {k:Nat} (hk:k<=n) (h:Gy p n m f):Gy p k m f:=by
  induction h with
  | zero h0=>exact .zero fun j hj=>h0 j (by omega)
  | add i k hi _ hs ih=>exact .add i k hi ih fun j hj=>hs j (by omega)
theorem Ai1 {c:Nat} (hp:2<=p) (hI:Adz p) (hm:MatW p n m) (hc:c<=n):(∃ pv,Oh c (gj p c m).length (gj p c m) pv)∧∀ f,Gy p c (gj p c m) f↔Gy p c m f:=by
  obtain ⟨⟨pv,h⟩,h2⟩:=Ad3 hp hI hm c;have hl:=Agl (n:=c) hp hm;have hrl:=h.rl;refine ⟨⟨pv,Nat.le_refl _,?_,?_,?_,?_,?_,?_⟩,fun f=>Iff.trans (b:=Gy p c (gjT p m c).2 f) ⟨Mp fun i hi=>?_,Mp fun i hi=>?_⟩ ⟨Mp fun i hi=>Ab1 hc ((h2 _).1 (E5 hi)),Mp fun i hi=>Ab1 hc ((h2 _).2 (E5 hi))⟩⟩
  · rw [hl]; exact h.lt
  · rw [hl]; exact h.mono
  · rw [hl]; intro i hi j hj; unfold gj; rw [Oz hi]; exact h.low i hi j hj
  · rw [hl]; intro i hi; unfold gj; rw [Oz hi]; exact h.one i hi
  · rw [hl]; intro i hi k hk;by_cases hkl:k<(gjT p m c).1
    · unfold gj; rw [Oz hkl]; exact h.zero i hi k hk
    · exact N7 (by omega)
  · intro i hi j _; exact N7 hi
  · rw [hl] at hi;exact E2 (E5 (i:=i) (by omega)) fun j hj=>Cg.of (by unfold gj; rw [Oz hi])
  · by_cases hir:i<(gjT p m c).1
    · exact E2 (E5 (i:=i) (by omega)) fun j hj=>Cg.of (by unfold gj; rw [Oz hir])
    · exact .zero fun j hj=>Cg.of (h.tail i (by omega) j hj)
theorem Ajz (hp:2<=p) (hI:Adz p) (hm:MatW p n m):(∃ pv,Oh n (gj p n m).length (gj p n m) pv)∧∀ f,Gy p n (gj p n m) f↔Gy p n m f:=Ai1 hp hI hm (Nat.le_refl n)
end
end Go.Proofs.YtehocbbnjfmgaaaDoor

namespace Go.Proofs.YtehocbbnjfmgaaaDoor

def Dz (x:List Int):Nat:=x.findIdx fun a=>a !=0
section
variable {p:Int} {n:Nat} {m m' B:List (List Int)} {o:List Int}
theorem Ags {c r i:Nat} {pv:Nat->Nat} (h:Oh c r m pv) (hm:MatW p n m) (hc:c<=n) (hi:i<r):Dz (m.getD i [])=pv i:=by
  have hl:=h.rl;have hx:=(hm _ (Gc (show i<m.length by omega))).1;have hlt:=h.lt i hi;have e:∀ (j:Nat) (hj:j<(m.getD i []).length),(m.getD i [])[j]=en m i j:=fun j hj=>(Bg (gEg hj)).symm
  unfold Dz;refine (List.findIdx_eq (show pv i<(m.getD i []).length by omega)).2 ⟨?_,fun j hj=>?_⟩
  · rw [e,h.one i hi]; rfl
  · rw [e,h.low i hi j hj]; rfl
structure OrdV (n:Nat) (o:List Int):Prop where
  nd:o.Nodup
  mem:∀ q,q∈o↔0<=q∧q<(n:Int)
theorem OrdV.len (h:OrdV n o):o.length=n:=by
  have h1:((List.range n).map Int.ofNat).Nodup:=by
    rw [List.Nodup,List.pairwise_map];exact List.Pairwise.imp (fun hne e=>hne (Int.ofNat.inj e)) (List.nodup_range (n:=n))
  have h2:o.Perm ((List.range n).map Int.ofNat):=by
    rw [List.perm_ext_iff_of_nodup h.nd h1];intro a;rw [h.mem,List.mem_map];constructor
    · intro ha;exact ⟨a.toNat,List.mem_range.2 (by omega),by show ((a.toNat:Nat):Int)=a; omega⟩
    · rintro ⟨b,hb,rfl⟩;have:=List.mem_range.1 hb;show 0<=(b:Int)∧(b:Int)<n;omega
  have:=h2.length_eq
  simpa using this
def Akl (o:List Int) (j:Nat):Nat:=(o.getD j 0).toNat
def Agn (o:List Int) (q:Nat):Nat:=o.idxOf (q:Int)
theorem OrdV.at (h:OrdV n o) {j:Nat} (hj:j<n):∃ hj':j<o.length,o[j]=((Akl o j:Nat):Int)∧Akl o j<n:=by
  have hl:=h.len;refine ⟨by omega,?_⟩;have h1:=(h.mem (o[j]'(by omega))).1 (List.getElem_mem _);have e:Akl o j=(o[j]'(by omega)).toNat:=congrArg Int.toNat (Bg (gEg (by omega)));omega
theorem OrdV.inv (h:OrdV n o) {q:Nat} (hq:q<n):Agn o q<n∧Akl o (Agn o q)=q:=by
  have hl:=h.len;have h1:Agn o q<o.length:=List.idxOf_lt_length_of_mem ((h.mem _).2 (by omega));refine ⟨by omega,?_⟩;have h2:o[Agn o q]=(q:Int):=List.getElem_idxOf h1;obtain ⟨_,h3,_⟩:=h.at (show Agn o q<n by omega);omega
end
end Go.Proofs.YtehocbbnjfmgaaaDoor

namespace Go.Proofs.YtehocbbnjfmgaaaDoor

section
variable {p:Int} {n:Nat} {m m':List (List Int)} {f g:Nat->Int}
end
def lv (R:List (List Int)) (i:Nat):Nat:=Dz (R.getD i [])
section
variable {p:Int} {n:Nat} {R:List (List Int)}
theorem Afq {pv:Nat->Nat} (h:Oh n R.length R pv) {w:Nat} (hm:MatW p w R) (hw:n<=w):Oh n R.length R (lv R):=by
  have e:∀ i,i<R.length->lv R i=pv i:=fun i hi=>Ags h hm hw hi
  refine ⟨Nat.le_refl _,fun i hi=>?_,fun i k hik hk=>?_,fun i hi j hj=>?_,fun i hi=>?_,fun i hi k hk=>?_,fun i hi j _=>N7 hi⟩
  · rw [e i hi]; exact h.lt i hi
  · rw [e i (by omega),e k hk]; exact h.mono i k hik hk
  · rw [e i hi] at hj; exact h.low i hi j hj
  · rw [e i hi]; exact h.one i hi
  · rw [e i hi]; exact h.zero i hi k hk
end
end Go.Proofs.YtehocbbnjfmgaaaDoor

namespace Go.Proofs.YtehocbbnjfmgaaaDoor

section
variable {p:Int} {n:Nat} {m E R F:List (List Int)} {f g u v:Nat->Int}
/-- One row after another is taken away, so often that the value at its lead becomes zero. -/
def M7 (p:Int) (R:List (List Int)) (x:List Int):Nat->List Int
  | 0=>x
  | i+1=>B9 p ((M7 p R x i).getD (lv R i) 0) (M7 p R x i) (R.getD i [])
theorem Ml {x:List Int} (hp:2<=p) (hR:MatW p n R) (hx:VecW p n x):∀ i,i<=R.length->VecW p n (M7 p R x i)
  | 0,_=>hx
  | i+1,hi=>Abn hp (Ml hp hR hx i (by omega)).1 (hR _ (Gc (by omega))).1
theorem Ai2 {x:List Int} (hp:2<=p) (hR:MatW p n R) (hx:VecW p n x) (h:Oh n R.length R (lv R)):∀ i,i<=R.length->∀ j,j<n->Cg p ((M7 p R x i).getD j 0) (x.getD j 0 - sm i fun t=>x.getD (lv R t) 0*en R t j)
  | 0,_,j,_=>Cg.of (by show _=_ - 0; rw [Int.sub_zero]; rfl)
  | i+1,hi,j,hj=>by
    have ih:=Ai2 hp hR hx h i (by omega)
    have hk:Cg p ((M7 p R x i).getD (lv R i) 0) (x.getD (lv R i) 0):=by
      refine (ih _ (h.lt i (by omega))).trans (Cg.of ?_);rw [Aeq fun t ht=>by rw [h.zero i (by omega) t (by omega)]; omega];omega
    show Cg p ((B9 p _ _ _).getD j 0) _;rw [Xl (by rw [(Ml hp hR hx i (by omega)).1,(hR _ (Gc (show i<R.length by omega))).1])];refine Cg.md.trans (((ih j hj).sub (hk.mul Cg.rf)).trans (Cg.of ?_));show _=x.getD j 0 - (sm i _+x.getD (lv R i) 0*en R i j);unfold en;omega
-- the equations from behind
end
end Go.Proofs.YtehocbbnjfmgaaaDoor

namespace Go.Proofs.YtehocbbnjfmgaaaDoor
section
variable {p:Int} {n:Nat} {m:List (List Int)}
theorem Aii (x:List Int) (hx:x.length<=1000):F2 x=some ((Dz x:Nat):Int):=by
  unfold F2;have hle:Dz x<=x.length:=List.findIdx_le_length
  have h:A1 (fun s_:Nat=>Dq x s_) 4611686018427387904 0=some (Dz x):=by
    refine Bf (Dz x) (fun i=>i) (by omega) _ rfl (fun i hi=>?_) ?_
    · have h0:=List.not_of_lt_findIdx hi;have h1:x[i]'(by omega)=0:=by simpa using h0
      try dsimp only
      unfold Dq;rw [Bo (by omega),cond_true,gEg (show i<x.length by omega),obs,obs,h1,show ((0:Int)==0)=true from rfl,cond_true,An (by omega)]
    · unfold Dq;by_cases h:Dz x=x.length
      · rw [Bm (by omega),cond_false,obs,cond_false]
      · have h0:=List.findIdx_getElem (w:=show Dz x<x.length by omega);rw [Bo (by omega),cond_true,gEg (show Dz x<x.length by omega),obs,obs,show ((x[Dz x]'(by omega))==0)=false from Bool.eq_false_iff.2 (fun e=>bne_iff_ne.1 h0 (beq_iff_eq.1 e)),cond_false]
  rw [h,obs]
theorem Aho (x:List Int) (hx:x.length<=100000):Gh x=some ((Dz x:Nat):Int):=by
  unfold Gh;have hle:Dz x<=x.length:=List.findIdx_le_length
  have h:A1 (fun s_:Nat=>Fa x s_) 4611686018427387904 0=some (if Dz x=x.length then .next () else .out ((Dz x:Nat):Int)):=by
    refine Bf (Dz x) (fun i=>i) (by omega) _ rfl (fun i hi=>?_) ?_
    · have h0:=List.not_of_lt_findIdx hi;have h1:x[i]'(by omega)=0:=by simpa using h0
      try dsimp only
      unfold Fa;rw [Bo (by omega),cond_true,gEg (show i<x.length by omega),obs,h1,show ((0:Int) !=0)=false from rfl,cond_false,An (by omega)]
    · unfold Fa;by_cases h:Dz x=x.length
      · rw [Bm (by omega),cond_false,if_pos h]
      · have h0:(x[Dz x]'(by omega) !=0)=true:=List.findIdx_getElem (w:=show Dz x<x.length by omega);rw [Bo (by omega),cond_true,gEg (show Dz x<x.length by omega),obs,h0,cond_true,if_neg h]
  rw [h];by_cases h2:Dz x=x.length
  · rw [if_pos h2]; show some _=some _; rw [h2]
  · rw [if_neg h2]; rfl
/-- A sum of rows, taken row by row. -/
def spV (p:Int) (n:Nat) (m:List (List Int)) (c:List Int):Nat->List Int
  | 0=>List.replicate n 0
  | i+1=>List.zipWith (fun a x=>(a+c.getD i 0*x) % p) (spV p n m c i) (m.getD i [])
theorem P6 {c:List Int} (hp:2<=p) (hm:MatW p n m):∀ i,i<=m.length->VecW p n (spV p n m c i)
  | 0,_=>⟨by simp [spV],fun a ha=>by obtain rfl:=(List.mem_replicate.1 ha).2; omega⟩
  | i+1,hi=>by
    have h1:=P6 (c:=c) hp hm i (by omega);have h2:=hm _ (Gc (show i<m.length by omega));refine ⟨by unfold spV; rw [List.length_zipWith,h1.1,h2.1]; omega,fun a ha=>?_⟩;obtain ⟨b,d,rfl⟩:=Adc ha;exact X9 hp
theorem Ak6 {c:List Int} (hp:2<=p) (hm:MatW p n m):∀ i,i<=m.length->∀ j,j<n->Cg p ((spV p n m c i).getD j 0) (sm i fun t=>c.getD t 0*en m t j)
  | 0,_,j,_=>Cg.of (by show (List.replicate n (0:Int)).getD j 0=0; rw [gDg,List.getElem?_replicate]; split <;> rfl)
  | i+1,hi,j,hj=>by
    have h1:=P6 (c:=c) hp hm i (by omega);have h2:=hm _ (Gc (show i<m.length by omega))
    have e:(spV p n m c (i+1)).getD j 0=((spV p n m c i).getD j 0+c.getD i 0*en m i j) % p:=by
      have k1:=(Dc h1 hj).2.2;have k2:=(Dc h2 hj).2.2;show (List.zipWith (fun a x=>(a+c.getD i 0*x) % p) (spV p n m c i) (m.getD i [])).getD j 0=_;unfold en;generalize spV p n m c i=X at *;rw [gDg,List.getElem?_zipWith,k1,k2]; rfl
    rw [e];exact Cg.md.trans ((Ak6 hp hm i (by omega) j hj).add Cg.rf)
theorem Ajr {c:List Int} (hp:2<=p∧p<=97) (hm:MatW p n m) (hc:VecW p m.length c) (hn:n<=1000) (hl:m.length<=1000):Gs p (n:Int) m c=some (spV p n m c m.length):=by
  unfold Gs;rw [An (by omega),Int.toNat_natCast]
  have key:A1 (fun s_:Nat×List Int=>Ed m c p s_.1 s_.2) 4611686018427387904 (0,List.replicate n 0)=some (spV p n m c m.length):=by
    refine Bf m.length (fun i=>(i,spV p n m c i)) (by omega) _ rfl (fun i hi=>?_) ?_
    · have h1:=P6 (c:=c) hp.1 hm i (by omega);have h2:=hm _ (List.getElem_mem hi);have hl1:=h1.1;have hl2:=h2.1;have hcc:=hc.1;have hci:=L5 hc (j:=i) (by omega)
      have hin:A1 (fun s_:Nat×List Int=>El m[i] c i p s_.1 s_.2) 4611686018427387904 (0,spV p n m c i)=some (spV p n m c (i+1)):=by
        have hv:=P6 (c:=c) hp.1 hm (i+1) (by omega);have hvl:=hv.1;refine Aeu (y:=spV p n m c (i+1)) (by omega) (by omega) (fun j hj z hz=>?_) ?_
        · have a1:=L5 h1 hj;have a2:=L5 h2 (j:=j) (by omega);have a3:=Yv hp hci a2
          try dsimp only
          unfold El;rw [Bo (by omega),cond_true,gEg (show j<m[i].length by omega),obs,hz,obs,gEg (show i<c.length by omega),obs,An (by omega),An (by omega),Cj (n:=c[i]'(by omega)*m[i][j]'(by omega)) (by omega) (by omega),Cj (by omega) (by omega),Int.tmod_eq_emod_of_nonneg (by omega)];congr 4;simp only [spV,List.getElem_zipWith,Bg (gEg (show i<c.length by omega)),Bg (m:=m) (gEg hi)]
        · try dsimp only
          unfold El;rw [Bm (by omega),cond_false]
      try dsimp only
      unfold Ed;rw [Bo (by omega),cond_true,gEg hi,obs,hin,obs,An (by omega)]
    · try dsimp only
      unfold Ed;rw [Bm (by omega),cond_false]
  rw [key,obs]
def cvV (m:List (List Int)) (x:List Int) (i:Nat):List Int:=(List.range i).map fun t=>x.getD (lv m t) 0
theorem Aif {x:List Int} {i:Nat}:(cvV m x i).length=i:=by simp [cvV]
theorem Akg {x:List Int} {i:Nat}:cvV m x (i+1)=cvV m x i++[x.getD (lv m i) 0]:=by simp [cvV,List.range_succ]
theorem Ak8 {i:Nat} (hi:i<m.length):Dz m[i]=lv m i:=by unfold lv; rw [Bg (gEg hi)]
theorem Alw {x:List Int} (h:Oh n m.length m (lv m)) (hx:VecW p n x):VecW p m.length (cvV m x m.length):=by
  refine ⟨Aif,fun a ha=>?_⟩;obtain ⟨t,ht,rfl⟩:=List.mem_map.1 ha;have:=Dc hx (h.lt t (List.mem_range.1 ht));exact ⟨this.1,this.2.1⟩
theorem Akr {x:List Int} {t:Nat} (ht:t<m.length):(cvV m x m.length).getD t 0=x.getD (lv m t) 0:=by
  unfold cvV;rw [gDg,List.getElem?_map,List.getElem?_range ht]; rfl
theorem Ab2 {x:List Int} (hm:MatW p n m) (h:Oh n m.length m (lv m)) (hx:VecW p n x) (hn:n<=1000) (hl:m.length<=1000):Eh m x=some (cvV m x m.length):=by
  unfold Eh
  have key:A1 (fun s_:Nat×List Int=>C0 m x s_.1 s_.2) 4611686018427387904 (0,[])=some (cvV m x m.length):=by
    refine Bf m.length (fun i=>(i,cvV m x i)) (by omega) _ rfl (fun i hi=>?_) ?_
    · have h1:=hm _ (List.getElem_mem hi);have h2:=Dc hx (h.lt i hi);have h3:=Aif (m:=m) (x:=x) (i:=i)
      try dsimp only
      unfold C0;rw [Bo (by omega),cond_true,gEg hi,obs,Aii _ (by rw [h1.1]; exact hn),obs,F1 (by omega),Int.toNat_natCast,Ak8 hi,h2.2.2,obs,An (by omega),An (by omega),Akg]
    · try dsimp only
      unfold C0;rw [Bm (by omega),cond_false]
  rw [key]; rfl
def Adf (p:Int) (n:Nat) (m:List (List Int)) (x:List Int):Bool:=spV p n m (cvV m x m.length) m.length==x
theorem Ajs {x:List Int} (hp:2<=p∧p<=97) (hm:MatW p n m) (h:Oh n m.length m (lv m)) (hx:VecW p n x) (hn:n<=1000) (hl:m.length<=1000):Gr p m x=some (Adf p n m x):=by
  unfold Gr;have hv:=Alw h hx;have hs:=P6 (c:=cvV m x m.length) hp.1 hm m.length (Nat.le_refl _);rw [Ab2 hm h hx hn hl,obs,hx.1,Ajr hp hm hv hn hl,obs,Aiv _ _ (by rw [hs.1]; omega)]; rfl
theorem Af9 {x:List Int} (hx:VecW p n x):(((Dz x:Nat):Int)==((x.length:Nat):Int))=true↔∀ j,j<n->Cg p (x.getD j 0) 0:=by
  rw [beq_iff_eq];constructor
  · intro e j hj;have e2:Dz x=x.length:=by omega
    have g:=Dc hx hj;have h0:=List.not_of_lt_findIdx (xs:=x) (p:=fun a=>a !=0) (i:=j) (by show j<Dz x; rw [e2,hx.1]; exact hj);have h1:x[j]'(by rw [hx.1]; exact hj)=0:=by simpa using h0
    rw [Bg (gEg (show j<x.length by rw [hx.1]; exact hj)),h1];exact Cg.rf
  · intro H
    have e2:Dz x=x.length:=by
      refine List.findIdx_eq_length.2 fun a ha=>?_
      obtain ⟨j,hj,rfl⟩:=List.mem_iff_getElem.1 ha;have hj':j<n:=by rw [← hx.1]; exact hj
      have g:=Dc hx hj';have:=(H j hj').eq ⟨g.1,g.2.1⟩ ⟨by omega,by omega⟩;rw [Bg (gEg hj)] at this;simp [this]
    omega
theorem Aej {a s:Int}:Cg p (a - s) 0↔Cg p s a:=by
  constructor
  · intro h;exact (Cg.of (by omega)).trans (((Cg.rf (a:=a)).sub h).trans (Cg.of (by omega)))
  · intro h;exact ((Cg.rf (a:=a)).sub h).trans (Cg.of (by omega))
theorem All {x y:List Int} (hx:VecW p n x) (hy:VecW p n y):(x==y)=true↔∀ j,j<n->Cg p (x.getD j 0) (y.getD j 0):=by
  rw [beq_iff_eq];constructor
  · rintro rfl j _; exact Cg.rf
  · intro H;refine List.ext_getElem (by rw [hx.1,hy.1]) fun j h1 h2=>?_
    have hj:j<n:=by rw [← hx.1]; exact h1
    have g:=Dc hx hj;have g':=Dc hy hj;have:=(H j hj).eq ⟨g.1,g.2.1⟩ ⟨g'.1,g'.2.1⟩
    rwa [Bg (gEg h1),Bg (gEg h2)] at this
theorem Aji {x:List Int} (hp:2<=p) (hm:MatW p n m) (h:Oh n m.length m (lv m)) (hx:VecW p n x) :
    (((Dz (M7 p m x m.length):Nat):Int)==(((M7 p m x m.length).length:Nat):Int))=Adf p n m x:=by
  rw [Bool.eq_iff_iff,Af9 (Ml hp hm hx _ (Nat.le_refl _))];unfold Adf;rw [All (P6 hp hm _ (Nat.le_refl _)) hx]
  have key:∀ j,j<n->(Cg p ((M7 p m x m.length).getD j 0) 0↔Cg p ((spV p n m (cvV m x m.length) m.length).getD j 0) (x.getD j 0)):=fun j hj=>by
    have h1:=Ai2 hp hm hx h m.length (Nat.le_refl _) j hj;have h2:=(Ak6 (c:=cvV m x m.length) hp hm m.length (Nat.le_refl _) j hj).trans (Aky (g:=fun t=>x.getD (lv m t) 0*en m t j) fun t ht=>by rw [Akr ht]; exact Cg.rf);exact ⟨fun h0=>h2.trans ((Aej).1 (h1.symm.trans h0)),fun h0=>h1.trans ((Aej).2 (h2.symm.trans h0))⟩
  exact ⟨fun H j hj=>(key j hj).1 (H j hj),fun H j hj=>(key j hj).2 (H j hj)⟩
theorem Aiw {x:List Int} (hp:2<=p∧p<=97) (hm:MatW p n m) (h:Oh n m.length m (lv m)) (hx:VecW p n x) (hn:n<=1000) (hl:m.length<=1000):∃ y,C7 p m x=some (y,Adf p n m x):=by
  unfold C7;refine ⟨(List.range m.length).map fun t=>(M7 p m x t).getD (lv m t) 0,?_⟩;have hxl:=hx.1;rw [Aew x (by omega),obs]
  have key:A1 (fun s_:Nat×List Int×List Int=>B8 m p s_.1 s_.2.1 s_.2.2) 4611686018427387904 (0,x,[])=some (M7 p m x m.length,(List.range m.length).map fun t=>(M7 p m x t).getD (lv m t) 0):=by
    refine Bf m.length (fun i=>(i,M7 p m x i,(List.range i).map fun t=>(M7 p m x t).getD (lv m t) 0)) (by omega) _ rfl (fun i hi=>?_) ?_
    · have h1:=hm _ (List.getElem_mem hi);have hc:=Ml hp.1 hm hx i (by omega);have hc':=Ml hp.1 hm hx (i+1) (by omega);have h2:=Dc hc (h.lt i hi)
      have e:B9 p ((M7 p m x i).getD (lv m i) 0) (M7 p m x i) m[i]=M7 p m x (i+1):=by
        show _=B9 p _ _ (m.getD i []);rw [Bg (m:=m) (gEg hi)]
      try dsimp only
      unfold B8;rw [Bo (by omega),cond_true,gEg hi,obs,Aho _ (by rw [h1.1]; omega),obs,F1 (by omega),Int.toNat_natCast,Ak8 hi,h2.2.2,obs,An (by simp; omega),Uc hp hc h1 (by omega) ⟨h2.1,h2.2.1⟩,obs,e,An (by rw [hc.1,hc'.1]),An (by omega),List.range_succ,List.map_append]; rfl
    · try dsimp only
      unfold B8;rw [Bm (by omega),cond_false]
  have hc:=Ml hp.1 hm hx m.length (Nat.le_refl _);rw [key,obs];dsimp only;unfold Ha;rw [Aho _ (by rw [hc.1]; omega),obs,Aji hp.1 hm h hx,obs]
def Afx (p v h:Int) (m:List (List Int)):Bool:=isF p&&(inR v 0 24&&(inR h 0 100&&(decide (((m.length:Nat):Int)<=160)&&Adv p (v+h) m)))
theorem Aiu (p v h:Int) (m:List (List Int)) (hb:m.length<=1048576) (hr:Hu 1048576 m):F3 p v h m=some (Afx p v h m):=by
  unfold F3 Afx;rw [Ag1,obs,Zt,Zt];cases hp:isF p
  · rfl
  cases h1:inR v 0 24
  · rfl
  cases h2:inR h 0 100
  · rfl
  have h1:=M2.1 h1;have h2:=M2.1 h2;rw [Cj (n:=v+h) (by omega) (by omega),Ain p (v+h) m (K1 hp) hb hr];cases decide (((m.length:Nat):Int)<=160) <;> rfl
theorem Adp (p v h:Int) (m:List (List Int)) (hb:m.length<=1048576) (hr:Hu 1048576 m):Ee p v h m=some (Afx p v h m):=by
  unfold Ee Ce Afx;rw [show Ir p=some (isF p) from rfl,obs,Abk,Abk];cases hp:isF p
  · rfl
  cases h1:inR v 0 24
  · rfl
  cases h2:inR h 0 100
  · rfl
  have h1:=M2.1 h1;have h2:=M2.1 h2;rw [Cj (n:=v+h) (by omega) (by omega)];simp only [obs,cond_true,Y5 p (v+h) m hb hr];cases decide (((m.length:Nat):Int)<=160) <;> rfl
theorem Agk (a b:List (List Int)) (ha:a.length+b.length<=1000):Gb a b=some (a++b):=by
  unfold Gb;rw [An (by simp; omega),An (by simp; omega),List.nil_append]
theorem Adw {m:List (List Int)} {n:Nat} (hf:isF p=true) (hm:MatW p n m):MatW p n (gj p n m)∧Oh n (gj p n m).length (gj p n m) (lv (gj p n m))∧(gj p n m).length<=m.length:=by
  have hp:=K1 hf;obtain ⟨⟨pv,h⟩,_⟩:=Ajz hp.1 (fun _ h1 h2=>(Acy hf ⟨h1,h2⟩).2.2.2.2) hm;have hg:=Alk (n:=n) hp.1 hm;exact ⟨hg,Afq h hg (Nat.le_refl _),by rw [Agl hp.1 hm]; have:=K0 hp.1 hm n; omega⟩
def idK (p:Int) (n:Nat) (x:List (List Int)) (i:Nat):List (List Int):=if Adf p n (gj p n (x.eraseIdx i)) (x.getD i []) then x.eraseIdx i else x
def idV (p:Int) (n:Nat) (m:List (List Int)):Nat->List (List Int)
  | 0=>m
  | j+1=>idK p n (idV p n m j) (m.length - 1 - j)
theorem Ys (hm:MatW p n m):∀ j,j<=m.length->MatW p n (idV p n m j)∧m.length - j<=(idV p n m j).length∧(idV p n m j).length<=m.length
  | 0,_=>⟨hm,Nat.le_refl _,Nat.le_refl _⟩
  | j+1,hj=>by
    obtain ⟨h1,h2,h3⟩:=Ys hm j (by omega);show MatW p n (idK p n _ _)∧_<=(idK p n _ _).length∧(idK p n _ _).length<=_;unfold idK;split
    · have hl:((idV p n m j).eraseIdx (m.length - 1 - j)).length=(idV p n m j).length - 1:=by rw [List.length_eraseIdx,if_pos (by omega)]
      exact ⟨fun x hx=>h1 x (List.mem_of_mem_eraseIdx hx),by omega,by omega⟩
    · exact ⟨h1,by omega,h3⟩
theorem Afn {v h:Int} (hf:isF p=true) (hm:MatW p n m) (hv:0<=v∧v<=24) (hh:0<=h∧h<=100) (e:v+h=(n:Int)) (hl:m.length<=160) (z:List (List Int)) :
    A1 (fun s_:List (List Int)×Int=>Br p v h s_.1 s_.2) 4611686018427387904 (m,((m.length:Nat):Int) - 1)=some (idV p n m m.length)∧A1 (fun s_:Int×List (List Int)=>Bs v h z p s_.1 s_.2) 4611686018427387904 (((m.length:Nat):Int) - 1,m)=some (idV p n m m.length):=by
  have hp:=K1 hf;have hw:wI (v+h)=(n:Int):=by rw [Cj (by omega) (by omega)]; exact e
  constructor
  · refine Bf m.length (fun j=>(idV p n m j,((m.length:Nat):Int) - 1 - (j:Int))) (by omega) _ (by simp [idV]) (fun j hj=>?_) ?_
    · obtain ⟨h1,h2,h3⟩:=Ys hm j (by omega);obtain ⟨i,hi⟩:∃ i:Nat,i=m.length - 1 - j:=⟨_,rfl⟩
      have ei:((m.length:Nat):Int) - 1 - (j:Int)=(i:Int):=by omega
      have hil:i<(idV p n m j).length:=by omega
      have hE:MatW p n ((idV p n m j).eraseIdx i):=fun x hx=>h1 x (List.mem_of_mem_eraseIdx hx)
      have hEl:((idV p n m j).eraseIdx i).length<=160:=Nat.le_trans (List.length_eraseIdx_le _ _) (by omega);obtain ⟨g1,g2,g3⟩:=Adw hf hE;have hx:=h1 _ (List.getElem_mem hil)
      try dsimp only
      unfold Br;rw [ei,Bo (by omega),cond_true,An (by omega),Cj (n:=(i:Int)+1) (by omega) (by omega),An (by omega),Int.toNat_natCast,show ((i:Int)+1).toNat=i+1 by omega,Agk _ _ (by rw [List.length_take,List.length_drop]; omega),obs,← List.eraseIdx_eq_take_drop_succ,hw,Ab5 hf hE (Nat.le_refl _) (by omega) (by omega),obs,F1 (by omega),Int.toNat_natCast,gEg hil,obs,Ajs hp g1 g2 hx (by omega) (by omega),obs,Cj (by omega) (by omega)];have e2:idV p n m (j+1)=idK p n (idV p n m j) i:=by rw [hi]; rfl
      have e3:((m.length:Nat):Int) - 1 - ((j+1:Nat):Int)=(i:Int) - 1:=by omega
      rw [e2,e3];unfold idK;rw [Bg (gEg hil)];cases Adf p n (gj p n ((idV p n m j).eraseIdx i)) (idV p n m j)[i] <;> rfl
    · try dsimp only
      unfold Br;rw [Bm (by omega),cond_false]
  · refine Bf m.length (fun j=>(((m.length:Nat):Int) - 1 - (j:Int),idV p n m j)) (by omega) _ (by simp [idV]) (fun j hj=>?_) ?_
    · obtain ⟨h1,h2,h3⟩:=Ys hm j (by omega);obtain ⟨i,hi⟩:∃ i:Nat,i=m.length - 1 - j:=⟨_,rfl⟩
      have ei:((m.length:Nat):Int) - 1 - (j:Int)=(i:Int):=by omega
      have hil:i<(idV p n m j).length:=by omega
      have hE:MatW p n ((idV p n m j).eraseIdx i):=fun x hx=>h1 x (List.mem_of_mem_eraseIdx hx)
      have hEl:((idV p n m j).eraseIdx i).length<=160:=Nat.le_trans (List.length_eraseIdx_le _ _) (by omega);obtain ⟨g1,g2,g3⟩:=Adw hf hE;have hx:=h1 _ (List.getElem_mem hil);obtain ⟨y,hy⟩:=Aiw hp g1 g2 hx (by omega) (by omega)
      have hdel:De (idV p n m j) (i:Int) ((i:Int)+1)=some ((idV p n m j).eraseIdx i):=by
        unfold De;rw [if_pos ⟨by omega,rfl,by omega⟩,Int.toNat_natCast]
      try dsimp only
      unfold Bs Ce;rw [ei,Bo (by omega),cond_true,Vb h1 (by omega) (by omega),obs,Cj (n:=(i:Int)+1) (by omega) (by omega),hdel,obs,obs,hw,Agf hf hE (by omega) (by omega),obs,F1 (by omega),Int.toNat_natCast,gEg hil,obs,hy,obs,Cj (by omega) (by omega)];have e2:idV p n m (j+1)=idK p n (idV p n m j) i:=by rw [hi]; rfl
      have e3:((m.length:Nat):Int) - 1 - ((j+1:Nat):Int)=(i:Int) - 1:=by omega
      rw [e2,e3];unfold idK;rw [Bg (gEg hil)];cases Adf p n (gj p n ((idV p n m j).eraseIdx i)) (idV p n m j)[i] <;> rfl
    · try dsimp only
      unfold Bs;rw [Bm (by omega),cond_false]
theorem Aht (p v h:Int) (m:List (List Int)) (hb:m.length<=1048576) (hr:Hu 1048576 m):∃ o v' h' r,B1 p v h m=some (v',h',r,o)∧Bp p v h m=some (o,v',h',r)∧r.length<=1048576∧Hu 1048576 r:=by
  unfold B1 Bp;rw [Aiu p v h m hb hr,Adp p v h m hb hr,obs,obs];cases hg:Afx p v h m
  · exact ⟨_,_,_,_,rfl,rfl,Nat.zero_le _,fun _ hx=>by cases hx⟩
  unfold Afx at hg;simp only [Bool.and_eq_true,M2,decide_eq_true_eq] at hg;obtain ⟨hf,h1,h2,h3,h4⟩:=hg;obtain ⟨n,hn⟩:=Int.eq_ofNat_of_zero_le (show 0<=v+h by omega);have hm:MatW p n m:=Agc (by rw [← hn]; exact h4);have hrow:∀ x∈m,x.length<=1000000:=fun x hx=>by have:=(hm x hx).1; omega
  obtain ⟨e1,e2⟩:=Afn hf hm h1 h2 hn (by omega) m
  have hcp:A1 (fun s_:Nat×List (List Int)=>Bq m s_.1 s_.2) 4611686018427387904 (0,([]:List (List Int)))=some m:=by
    refine Bf m.length (fun i=>(i,m.take i)) (by omega) _ (by simp) (fun i hi=>?_) ?_
    · try dsimp only
      unfold Bq;rw [Bo (by omega),cond_true,gEg hi,obs,Ady _ (hrow _ (List.getElem_mem hi)),obs,An (by rw [List.length_take]; omega),An (by omega),List.take_add_one,gEg hi]; rfl
    · try dsimp only
      unfold Bq;rw [Bm (by omega),cond_false,List.take_length]
  unfold Ea;obtain ⟨h5,_,h6⟩:=Ys hm m.length (Nat.le_refl _);refine ⟨true,v,h,idV p n m m.length,?_,?_,by omega,fun x hx=>by have:=(h5 x hx).1; omega⟩
  · rw [Bool.not_true,cond_false,hcp,obs,Cj (by omega) (by omega),e1]; rfl
  · rw [Bool.not_true,cond_false,Vb hm (by omega) (by omega),obs,obs,Cj (by omega) (by omega),e2]; rfl
theorem Ui (v h:Int) (xss:List (List Int)) (hn:xss.length<=1048576) (hb:Hu 1048576 xss):B5 v h xss v h xss=some true:=by
  unfold B5;rw [Afo xss hn hb,bne_self_eq_false,bne_self_eq_false]; rfl
theorem Pr (a b:Int) (xss:List (List Int)) {v:Int} (hv:0<=v∧v<=576460752303423488) (hn:xss.length<=1048576) (hb:Hu 1048576 xss) :
    ∃ yss,∃ u:Int,v<=u∧Co a b xss v=some (yss,u)∧yss.length=xss.length∧Cp a b yss v=some u:=by
  obtain ⟨yss,u,h1,h2,h3,h4,h5⟩:=Aas xss hv hn hb;refine ⟨yss,u,h1,?_,h4,?_⟩
  · unfold Co;rw [h3,obs,An h4]
  · unfold Cp;rw [h5,obs,Bm (by omega),cond_false]
end
theorem Agj {p v h:Int} {b:List (List Int)} (hn:b.length<=9223372036854775807) (hr:Hu 9223372036854775807 b):Bh p v h b=some true:=by
  unfold Bh
  have hz:Es v h b 1048576=some (if szW 1048576 b<0 then -1 else szW 1048576 b):=by
    unfold Es;rw [Af4 b (by omega) hn hr,obs];by_cases c:szW 1048576 b<0
    · rw [Bo c,cond_true,if_pos c]
    · rw [Bm c,cond_false,if_neg c]
  rw [hz,obs];by_cases c:szW 1048576 b<0
  · rw [if_pos c]; rfl
  rw [if_neg c,Bm c,cond_false];obtain ⟨g1,g2,g3⟩:=Amf (by omega) c;have hbl:b.length<=1048576:=by omega
  have hto:B4 v h b=some b:=by unfold B4; rw [Age b hbl g2]; rfl
  obtain ⟨o,v',h',r,e1,e2,r1,r2⟩:=Aht p v h b hbl g2;obtain ⟨ya,ua,a1,a2,a3,a4⟩:=Pr v h b (v:=1) (by omega) hbl g2;obtain ⟨yb,ub,b1,b2,b3,b4⟩:=Pr v' h' r (v:=1) (by omega) r1 r2;simp only [hto,e1,e2,obs,Ui v h b hbl g2,Ui v' h' r r1 r2,bne_self_eq_false,Bool.not_true,cond_false,a2,An a3,Bm (show ¬ ua<0 by omega),b2,An b3,b4,Bm (show ¬ ub<0 by omega)]
end Go.Proofs.YtehocbbnjfmgaaaDoor

namespace Go.Proofs.YtehocbbnjfmgaaaDoor
open Go.RowKit Go.Deep
theorem independentRows_walk (p:Int) (sVisible:Int) (sHidden:Int) (sRows:List (List Int)) (A_sRows:Option Addr) (c_sRows:Nat) (l_sRows:List Addr) (w:World) (_i_p: -9223372036854775808<=p∧p<=9223372036854775807) (_i_sVisible: -9223372036854775808<=sVisible∧sVisible<=9223372036854775807) (_i_sHidden: -9223372036854775808<=sHidden∧sHidden<=9223372036854775807) (s_sRows:Sl (fun _=>True) w (.slice .int) A_sRows c_sRows sRows l_sRows) (_i_sRows:Ty.In (.slice (.slice .int)) sRows) (tab:Tab w) :
    Calls Tryd.prog 4 #[.int .i64 p,.agg #[.int .i64 sVisible,.int .i64 sHidden,.slice A_sRows sRows.length c_sRows]] w fun e w'=>e=.returned (.bool true)∧Below w.heap.size w w':=by
  have hl:Bh p sVisible sHidden sRows=some true:=Agj (Ahu s_sRows).2 (Aki s_sRows);refine (G2 hl w (fun _=>True) [.int .i64 p,.agg #[.int .i64 sVisible,.int .i64 sHidden,.slice A_sRows sRows.length c_sRows]] (fun w' hb=>tab.below hb) ⟨_,_,rfl,rfl,⟨_,_,rfl,⟨_,rfl,⟨_,_,rfl,rfl,⟨_,_,rfl,rfl,⟨_,_,rfl,⟨A_sRows,c_sRows,l_sRows,rfl,s_sRows⟩,rfl⟩⟩⟩⟩,rfl⟩⟩).mono ?_;rintro e w' ⟨u,rfl,hb,us,ls,h1,_,rfl⟩;obtain ⟨u1,us1,rfl,h2,_,rfl,rfl⟩:=h1;obtain rfl:u1=.bool true:=h2;exact ⟨rfl,hb⟩
end Go.Proofs.YtehocbbnjfmgaaaDoor

