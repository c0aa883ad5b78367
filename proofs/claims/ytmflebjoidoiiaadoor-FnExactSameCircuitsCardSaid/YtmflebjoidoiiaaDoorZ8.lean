/- Lemmas on the program and on partial functions that stand in place of its code (part 8); no condition beyond those that each one states. -/
import Derived.Test.YtmflebjoidoiiaaDoorZ7
import Derived.Deep.RegionHeld3
namespace Go.Proofs.YtmflebjoidoiiaaDoor
section
theorem Ah7 {ρ:Type} {body:Nat->Option (Ctl Nat ρ)} (n:Nat) (q:Nat->Bool) (nn:ρ) (g:Nat->ρ) (hn:n<4611686018427387904) (hs:∀ i,i<n->body i=some (if q i then .out (g i) else .next (i+1))) (he:body n=some (.out nn)) :
  A3 body 4611686018427387904 0=some (match (List.range n).find? q with | some i=>g i | none=>nn):=by
 refine Hs n (fun i s=>s=i∧∀ j,j<i->q j=false) hn _ ⟨rfl,fun j h=>by omega⟩ ?_ ?_
 ·rintro i s hi ⟨hsi,hq⟩;subst s;rw [hs i hi];cases hc:q i
  ·refine .inl ⟨i+1,rfl,rfl,fun j hj=>?_⟩;rcases Nat.lt_or_ge j i with h | h
   ·exact hq j h
   ·obtain rfl:j=i:=by omega
    exact hc
  ·refine .inr ?_;have:(List.range n).find? q=some i:=List.find?_range_eq_some.2 ⟨hc,List.mem_range.2 hi,fun j hj=>by rw [hq j hj]; rfl⟩;rw [this]; rfl
 ·rintro s ⟨hsi,hq⟩;subst s;have:(List.range n).find? q=none:=List.find?_range_eq_none.2 fun j hj=>by rw [hq j hj]; rfl
  rw [this,he]
abbrev Gt:=Int×Int×Int×Int
def opG (e:Gt):List Int:=if e.1=3 then [e.2.1,e.2.2.1] else if e.1=4∨e.1=5 then [e.2.1] else []
def cmG (e:Gt):Bool:=e.1==3||e.1==4
def Hr (p n i:Int) (e:Gt):Bool :=
 (opG e).all (fun x=>inR x 0 (n - 1))&&((e.1==3||e.2.2.1==0) &&
 (if e.1=1 then inR e.2.2.2 0 (i - 1)&&e.2.1==0 else if e.1=2 then e.2.2.2==0&&e.2.1==0 else if e.1=3∨e.1=5 then e.2.2.2==0 else if e.1=4 then inR e.2.2.2 0 (p - 1) else false))
theorem Ns (e:Gt):Dq e.1 e.2.1 e.2.2.1 e.2.2.2=some (opG e):=by
 unfold Dq opG;by_cases h3:e.1=3
 ·simp [h3]
 by_cases h4:e.1=4
 ·simp [h4]
 by_cases h5:e.1=5
 ·simp [h5]
 have b3:=beq_eq_false_iff_ne.2 h3;have b4:=beq_eq_false_iff_ne.2 h4;have b5:=beq_eq_false_iff_ne.2 h5;simp [b3,b4,b5,h3,h4,h5]
theorem Aaf (e:Gt):Dk e.1 e.2.1 e.2.2.1 e.2.2.2=some (opG e):=Ns e
theorem Th (e:Gt):Ds e.1 e.2.1 e.2.2.1 e.2.2.2=some (cmG e):=by
 unfold Ds cmG;cases e.1==3 <;> rfl
theorem Ai9 (e:Gt):Dt e.1 e.2.1 e.2.2.1 e.2.2.2=some (if cmG e then opG e else []):=by
 unfold Dt cmG;rw [Aaf];cases e.1==3 <;> cases e.1==4 <;> rfl
theorem Xw (e:Gt):(opG e).length<=2:=by
 unfold opG; split
 ·simp
 split <;> simp
section
variable {p i n:Int} {gs:List Gt} {outs:List Int}
theorem Amw (hp:2<=p∧p<=97) (hi:0<=i∧i<=8) (hn:1<=n∧n<=40) (e:Gt):He p e.1 e.2.1 e.2.2.1 e.2.2.2 i n=some (Hr p n i e):=by
 have ho:=Xw e;unfold He Hr;rw [Ns,obs,Eh (n:=n - 1) (by omega) (by omega),Aeh _ _ _ (by omega),obs,Eh (n:=i - 1) (by omega) (by omega),Eh (n:=p - 1) (by omega) (by omega),Qq,Qq];generalize (opG e).all (fun x=>inR x 0 (n - 1))=ok;obtain ⟨e1,e2,e3,e4⟩:=e;dsimp only;cases ok
 ·rfl
 by_cases h3:e1=3
 ·subst h3; cases e4==0 <;> rfl
 have b3:=beq_eq_false_iff_ne.2 h3;have n3:(e1 !=3)=true:=bne_iff_ne.2 h3;cases hB:e3==0
 ·have:(e3 !=0)=true:=by simp [bne,hB]
  simp [n3,b3,this]
 have hB':(e3 !=0)=false:=by simp [bne,hB]
 by_cases h1:e1=1
 ·subst h1; cases inR e4 0 (i - 1) <;> cases e2==0 <;> simp [hB']
 by_cases h2:e1=2
 ·subst h2; cases e4==0 <;> cases e2==0 <;> simp [hB']
 by_cases h5:e1=5
 ·subst h5; cases e4==0 <;> simp [hB']
 by_cases h4:e1=4
 ·subst h4; cases inR e4 0 (p - 1) <;> simp [hB']
 have b1:=beq_eq_false_iff_ne.2 h1;have b2:=beq_eq_false_iff_ne.2 h2;have b4:=beq_eq_false_iff_ne.2 h4;have b5:=beq_eq_false_iff_ne.2 h5;simp [n3,b1,b2,b3,b4,b5,h1,h2,h3,h4,h5,hB']
theorem Alf (hp:2<=p∧p<=97) (hi:0<=i∧i<=8) (hn:1<=gs.length∧gs.length<=40) (e:Gt):Dc i gs outs p e.1 e.2.1 e.2.2.1 e.2.2.2=some (Hr p gs.length i e):=by
 have ho:=Xw e;unfold Dc Hr;rw [Aaf,obs,Aa8 _ _ (by omega) (by omega),obs,Eh (n:=i - 1) (by omega) (by omega),Yb,Ahg];generalize (opG e).all (fun x=>inR x 0 ((gs.length:Nat) - 1))=ok;obtain ⟨e1,e2,e3,e4⟩:=e;dsimp only;cases ok
 ·rfl
 by_cases h3:e1=3
 ·subst h3; cases e4==0 <;> rfl
 have b3:=beq_eq_false_iff_ne.2 h3;by_cases h1:e1=1
 ·subst h1; cases inR e4 0 (i - 1) <;> cases e2==0 <;> cases e3==0 <;> simp
 by_cases h2:e1=2
 ·subst h2
  have:([2,e2,e3,e4]==([2,0,0,0]:List Int))=(e3==0&&(e4==0&&e2==0)):=by
   have h0:([2,e2,e3,e4]==([2,0,0,0]:List Int))=((2:Int)==2&&(e2==0&&(e3==0&&(e4==0&&true)))):=rfl;rw [h0];cases e2==0 <;> cases e3==0 <;> cases e4==0 <;> rfl
  simp [this]
 by_cases h5:e1=5
 ·subst h5; cases e3==0 <;> cases e4==0 <;> simp
 by_cases h4:e1=4
 ·subst h4; cases e3==0 <;> cases inR e4 0 (p - 1) <;> simp
 have b1:=beq_eq_false_iff_ne.2 h1;have b2:=beq_eq_false_iff_ne.2 h2;have b4:=beq_eq_false_iff_ne.2 h4;have b5:=beq_eq_false_iff_ne.2 h5;simp [b1,b2,b3,b4,b5,h1,h2,h3,h4,h5]
def okG (gs:List Gt):Prop:=∀ e∈gs,∀ x∈opG e,0<=x∧x<gs.length
def rdy (gs:List Gt) (dn:List Bool) (k:Nat):Bool :=
 match gs[k]? with
 | some e=> !(dn.getD k true)&&(opG e).all fun x=>dn.getD x.toNat false
 | none=>false
def nxt (gs:List Gt) (dn:List Bool):Option Nat:=(List.range gs.length).find? (rdy gs dn)
def enc:Option Nat->Int
 | some j=>j
 | none=> -1
def run (gs:List Gt):Nat->List Bool->List Int×List Bool
 | 0,dn=>([],dn)
 | f+1,dn=>match nxt gs dn with
  | none=>([],dn)
  | some j=>((j:Int) :: (run gs f (dn.set j true)).1,(run gs f (dn.set j true)).2)
theorem K9 {dn:List Bool} {j:Nat} (h:nxt gs dn=some j):j<gs.length∧rdy gs dn j=true:=by
 have:=List.find?_range_eq_some.1 h;exact ⟨List.mem_range.1 this.2.1,this.1⟩
theorem U7 {dn:List Bool} {j:Nat} (h:rdy gs dn j=true) (hl:dn.length=gs.length):dn[j]? =some false:=by
 unfold rdy at h;split at h
 ·simp only [Bool.and_eq_true,Bool.not_eq_true'] at h;have:=h.1;rw [gDg] at this;cases hd:dn[j]? with
  | none=>rw [hd] at this; cases this
  | some b=>rw [hd] at this; simp at this; rw [this]
 ·cases h
theorem Q7 {dn:List Bool} {j:Nat} (h:dn[j]? =some false):(dn.set j true).count false+1=dn.count false:=by
 obtain ⟨hj,he⟩:=gSi.1 h;rw [List.count_set hj,he];have:=List.count_pos_iff.2 (he▸List.getElem_mem hj);simp; omega
theorem Vo:∀ (m:Nat) (dn:List Bool),dn.length=gs.length->dn.count false<=m->(run gs m dn).1.length+(run gs m dn).2.count false=dn.count false
 | 0,dn,_,_=>by simp [run]
 | m+1,dn,hl,hm=>by
  unfold run;cases hx:nxt gs dn with
  | none=>simp
  | some j =>
   obtain ⟨h1,h2⟩:=K9 hx;have hc:=Q7 (U7 h2 hl);have:=Vo m (dn.set j true) (by simp [hl]) (by omega);simp only [List.length_cons];omega
theorem An4 {m:Nat} {dn:List Bool} (hl:dn.length=gs.length) (hm:dn.count false<=m):(run gs m dn).1.length<=gs.length:=by
 have h1:=Vo m dn hl hm;have h2:dn.count false<=dn.length:=List.count_le_length;omega
theorem Afb {ys:List Int} {dn:List Bool} (hy:∀ x∈ys,0<=x∧x<dn.length) (hl:ys.length<=2):A3 (fun s_:Bool×Nat=>E0 ys dn s_.1 s_.2) 4611686018427387904 (true,0)=some (ys.all fun x=>dn.getD x.toNat false):=by
 refine B3 ys.length (fun k=>((ys.take k).all fun x=>dn.getD x.toNat false,k)) (by omega) _ (by simp) (fun k hk=>?_) ?_
 ·have hg:=gEg hk;have hx:=hy _ (List.getElem_mem hk)
  try dsimp only
  unfold E0;rw [Bw (by omega),cond_true,hg,obs,List.take_add_one,hg,List.all_append];have hd:=gEg (l:=dn) (i:=ys[k].toNat) (by omega);cases hb:(ys.take k).all fun x=>dn.getD x.toNat false
  ·simp [Ar (show k+1<4611686018427387904 by omega)]
  ·rw [cond_true,Jq hx.1,hd,obs,obs,Ar (by omega)];simp [gDg,hd]
 ·try dsimp only
  unfold E0;rw [Bu (by omega),cond_false,List.take_length]
theorem Afv {dn:List Bool} (hg:okG gs) (hl:dn.length=gs.length) (hn:gs.length<=40):A3 (fun s_:Int×Nat=>Eu gs dn s_.1 s_.2) 4611686018427387904 (-1,0)=some (enc (nxt gs dn)):=by
 refine B3 gs.length (fun k=>(enc ((List.range k).find? (rdy gs dn)),k)) (by omega) _ rfl (fun k hk=>?_) ?_
 ·have he:=gEg hk;have ho:=hg _ (List.getElem_mem hk);generalize gs[k]=e at he ho;have hd:=gEg (l:=dn) (i:=k) (by omega)
  have hr:rdy gs dn k=(!dn[k]&&(opG e).all fun x=>dn.getD x.toNat false):=by
   unfold rdy;rw [he];simp [gDg,hd]
  have hf:(List.range (k+1)).find? (rdy gs dn)=((List.range k).find? (rdy gs dn)).or (if rdy gs dn k then some k else none):=by
   rw [List.range_succ,List.find?_append];congr 1;rw [List.find?_singleton]
  have hk1:k+1<4611686018427387904:=by omega
  try dsimp only
  unfold Eu;rw [Bw (by omega),cond_true,he,obs,hd,obs,Ns,obs,Afb (by rw [hl]; exact ho) (Xw e),obs,hf];cases hp:(List.range k).find? (rdy gs dn) with
  | some j =>
   have:decide ((0:Int)<=enc (some j))=true:=decide_eq_true (by simp [enc]);cases dn[k] <;> simp [this,Ar hk1]
  | none =>
   have:decide ((0:Int)<=enc none)=false:=decide_eq_false (by simp [enc]);rw [this,Option.none_or,hr];cases dn[k]
   ·cases (opG e).all fun x=>dn.getD x.toNat false <;> simp [Ar hk1,enc]
   ·simp [Ar hk1,enc]
 ·try dsimp only
  unfold Eu;rw [Bu (by omega),cond_false]; rfl
theorem V2 {α β:Type} {body:α->Option (Ctl α β)} {F:Nat} {s s':α} (h:body s=some (.next s')):A3 body (F+1) s=A3 body F s':=by simp only [A3,h,obs,Ctl.then]
theorem Su {α β:Type} {body:α->Option (Ctl α β)} {F:Nat} {s:α} {r:β} (h:body s=some (.out r)):A3 body (F+1) s=some r:=by simp only [A3,h,obs,Ctl.then]
theorem To (hg:okG gs) (hn:gs.length<=40):∀ (m:Nat) (dn:List Bool) (out:List Int) (F:Nat),dn.length=gs.length->dn.count false<=m->out.length+m<=1000->m+1<=F->A3 (fun s_:List Int×List Bool=>Ex gs s_.1 s_.2) F (out,dn)=some (out++(run gs m dn).1)
 | m,dn,out,F,hl,hm,ho,hF=>by
  obtain ⟨F,rfl⟩:∃ F',F=F'+1:=⟨F - 1,by omega⟩
  have hb:Ex gs out dn=match nxt gs dn with | none=>some (Ctl.out out) | some j=>some (Ctl.next (out++[(j:Int)],dn.set j true)):=by
   unfold Ex;rw [Afv hg hl hn,obs];cases hx:nxt gs dn with
   | none=>rw [Bw (by simp [enc]),cond_true]
   | some j =>
    obtain ⟨h1,h2⟩:=K9 hx;have hd:=U7 h2 hl;rw [Bu (by simp [enc]),cond_false];simp only [enc];rw [Jq (by omega),Int.toNat_natCast,hd,obs,Ar (by omega)]
  cases hx:nxt gs dn with
  | none =>
   rw [hx] at hb;rw [Su (r:=out) hb];cases m <;> simp [run,hx]
  | some j =>
   rw [hx] at hb;obtain ⟨h1,h2⟩:=K9 hx;have hc:=Q7 (U7 h2 hl);rw [V2 (s':=(out++[(j:Int)],dn.set j true)) hb];cases m with
   | zero=>omega
   | succ m =>
    rw [To hg hn m (dn.set j true) (out++[(j:Int)]) F (by simp [hl]) (by omega) (by simp; omega) (by omega)];simp [run,hx]
def dn0 (gs:List Gt):List Bool:=gs.map fun e=> !cmG e
def Ta (gs:List Gt):List Int×List Bool:=run gs gs.length (dn0 gs)
theorem Adx (hg:okG gs) (hn:gs.length<=40):Ff i gs outs=some (Ta gs).1:=by
 unfold Ff;rw [Ar (by omega)]
 have h:A3 (fun s_:Nat×List Bool=>Eo gs s_.1 s_.2) 4611686018427387904 (0,List.replicate gs.length (false:Bool))=some (dn0 gs):=by
  have hl:(dn0 gs).length=gs.length:=by simp [dn0]
  refine B3 gs.length (fun k=>(k,(dn0 gs).take k++List.replicate ((dn0 gs).length - k) false)) (by omega) _ (by simp [hl]) (fun k hk=>?_) ?_
  ·have hx:=gEg hk;have hd:(dn0 gs)[k]? =some (!cmG gs[k]):=by simp [dn0,hk]
   try dsimp only
   unfold Eo;rw [Bw (by omega),cond_true,hx,obs,Th,obs,Qx (by omega),obs,Ar (by omega),Q1 hd]
  ·try dsimp only
   unfold Eo;rw [Bu (by omega),cond_false,hl];simp [List.take_of_length_le,hl]
 have hc:(dn0 gs).count false<=gs.length:=Nat.le_trans List.count_le_length (by simp [dn0]);rw [h,obs,To hg hn gs.length (dn0 gs) [] _ (by simp [dn0]) hc (by simp; omega) (by omega)];rfl
def V0 (dn:List Bool):Bool:=dn.all id
def Rx (p i:Int) (gs:List Gt) (outs:List Int):Bool :=
 isF p&&(inR i 0 8&&(inR gs.length 1 40&&(decide (outs.length<=8)&&((outs.all fun x=>inR x 0 ((gs.length:Nat) - 1))&&(gs.all (Hr p gs.length i)&&V0 (Ta gs).2)))))
theorem X7 {dn:List Bool}:dn.count false=0↔V0 dn=true:=by
 rw [List.count_eq_zero];unfold V0;rw [List.all_eq_true];constructor
 ·intro h b hb;cases b
  ·exact absurd hb h
  ·rfl
 ·intro h hf;have:=h _ hf;cases this
theorem Afz (h:gs.all (Hr p gs.length i)=true):okG gs:=fun e he x hx=>by
 have:=List.all_eq_true.1 h e he;simp only [Hr,Bool.and_eq_true,List.all_eq_true,Ep] at this;have:=this.1 x hx;omega
theorem Acx:∀ k,k<=gs.length->((gs.take k).map fun e=> !cmG e).count false=(gs.take k).countP cmG:=by
 intro k _;rw [List.count_eq_countP,List.countP_map];congr 1;funext e;cases h:cmG e <;> simp [h]
theorem Amn (hl:gs.length<=1099511627776) (ho:outs.length<=1099511627776):Hf p i gs outs=some (Rx p i gs outs):=by
 unfold Hf Rx;simp only [Ahk,Qq,obs];cases hp:isF p
 ·rfl
 cases hi:inR i 0 8
 ·rfl
 cases hn:inR gs.length 1 40
 ·rfl
 have hn':=Ep.1 hn;by_cases hs:8<outs.length
 ·simp only [Bool.not_true,cond_false,obs,Bw (show (8:Int)<((outs.length:Nat):Int) by omega),cond_true,Bu (show ¬ outs.length<=8 by omega),Bool.and_false,Bool.false_and]
 rw [Eh (by omega) (by omega),Aeh _ _ _ (by omega)];simp only [Bool.not_true,cond_false,obs,Bu (show ¬ (8:Int)<((outs.length:Nat):Int) by omega),Bw (show outs.length<=8 by omega),Bool.true_and];cases hio:outs.all fun x=>inR x 0 ((gs.length:Nat) - 1)
 ·rfl
 simp only [Bool.not_true,cond_false,Bool.true_and];have hF:=Qh hp;have hI:=Ep.1 hi
 have key:∃ r,A3 (fun s_:Nat×Nat=>E6 gs p i s_.1 s_.2) 4611686018427387904 (0,0)=some r∧((gs.all (Hr p gs.length i)=true∧r=Ctl.next (gs.countP cmG))∨(gs.all (Hr p gs.length i)=false∧r=Ctl.out false)):=by
  refine N1 (Post:=fun r=>(gs.all (Hr p gs.length i)=true∧r=Ctl.next (gs.countP cmG))∨(gs.all (Hr p gs.length i)=false∧r=Ctl.out false)) gs.length (fun k s=>s.2=k∧s.1=(gs.take k).countP cmG∧(gs.take k).all (Hr p gs.length i)=true) (by omega) ⟨rfl,by simp,by simp⟩ ?_ ?_
  ·rintro k ⟨c,k'⟩ hk ⟨h1,h2,h3⟩;dsimp only at h1 h2 h3 ⊢;subst k' c;have hx:=gEg hk;have hcl:(gs.take k).countP cmG<=k:=Nat.le_trans List.countP_le_length (by rw [List.length_take]; omega);unfold E6;rw [Bw (by omega),cond_true,hx,obs,Amw hF hI (by omega),obs];cases hgb:Hr p gs.length i gs[k]
   ·refine .inr ⟨Ctl.out false,rfl,.inr ⟨?_,rfl⟩⟩;rw [Bool.eq_false_iff];intro ha;rw [List.all_eq_true.1 ha _ (List.getElem_mem hk)] at hgb;cases hgb
   ·refine .inl ⟨((gs.take (k+1)).countP cmG,k+1),?_,rfl,rfl,?_⟩
    ·rw [Bool.not_true,cond_false,Th,obs,List.take_add_one,hx,List.countP_append];cases hc:cmG gs[k]
     ·simp [J4,Ctl.then,Ar (show k+1<4611686018427387904 by omega),hc]
     ·have h4:(gs.take k).countP cmG+1<4611686018427387904:=by omega
      simp [J4,Ctl.then,Ar (show k+1<4611686018427387904 by omega),Ar h4,hc]
    ·rw [List.take_add_one,hx,List.all_append,h3]; simp [hgb]
  ·rintro ⟨c,k'⟩ ⟨h1,h2,h3⟩;dsimp only at h1 h2 h3 ⊢;subst k' c;rw [List.take_length] at h3 ⊢;refine ⟨_,?_,.inl ⟨h3,rfl⟩⟩;unfold E6;rw [Bu (by omega),cond_false]
 obtain ⟨r,hr,⟨h1,rfl⟩ | ⟨h1,rfl⟩⟩:=key
 ·rw [hr,h1,Bool.true_and];have hg:=Afz h1;simp only [J4,obs,Ctl.then];rw [Adx hg (by omega),obs];congr 1;have hc:=Vo (gs:=gs) gs.length (dn0 gs) (by simp [dn0]) (Nat.le_trans List.count_le_length (by simp [dn0]));have h0:=Acx (gs:=gs) gs.length (Nat.le_refl _);rw [List.take_length] at h0;have h0:(dn0 gs).count false=gs.countP cmG:=h0;rw [h0] at hc;have hA:=X7 (dn:=(Ta gs).2);unfold Ta at hA ⊢;cases hT:V0 (run gs gs.length (dn0 gs)).2
  ·rw [beq_eq_false_iff_ne];intro e;have:(run gs gs.length (dn0 gs)).2.count false=0:=by omega
   rw [hA.1 this] at hT; cases hT
  ·rw [beq_iff_eq];have:=hA.2 hT;omega
 ·rw [hr,h1]; rfl
end
end
section
section
variable {p i:Int} {gs:List Gt} {outs:List Int}
structure RelM (gs:List Gt) (dn:List Bool) (es:List (Int×Bool)):Prop where
 len:dn.length=gs.length
 get:∀ k:Nat,k<gs.length->Dd es (k:Int)=if dn.getD k true=true then none else some true
 keys:∀ e∈es,∃ k:Nat,k<gs.length∧e.1=(k:Int)
 cm:∀ (k:Nat) (e:Gt),gs[k]? =some e->dn.getD k true=false->cmG e=true
theorem RelM.open_ {dn:List Bool} {es:List (Int×Bool)} (h:RelM gs dn es) {k:Nat} (hk:k<gs.length):(Dd es (k:Int)).getD false= !dn.getD k true:=by
 rw [h.get k hk];cases dn.getD k true <;> rfl
theorem RelM.empty {dn:List Bool} (h:RelM gs dn []):V0 dn=true:=by
 unfold V0;rw [List.all_eq_true];intro b hb;obtain ⟨k,hk,he⟩:=List.mem_iff_getElem.1 hb;have:=h.get k (by rw [← h.len]; exact hk);rw [gDg,gEg hk,he] at this;cases b
 ·simp [Dd] at this
 ·rfl
theorem RelM.some_ {dn:List Bool} {x:Int×Bool} {es:List (Int×Bool)} (h:RelM gs dn (x :: es)):V0 dn=false:=by
 obtain ⟨k,hk,he⟩:=h.keys x (List.mem_cons_self ..);have h1:=h.get k hk;have h2:Dd (x :: es) (k:Int)=some x.2:=by simp [Dd,he]
 rw [h2] at h1
 have h3:dn.getD k true=false:=by
  cases hd:dn.getD k true
  ·rfl
  ·rw [hd] at h1; cases h1
 rw [Bool.eq_false_iff];intro ha;unfold V0 at ha;have hkl:k<dn.length:=by rw [h.len]; exact hk
 rw [gDg,gEg hkl] at h3;have:=List.all_eq_true.1 ha _ (List.getElem_mem hkl);simp at h3 this;rw [h3] at this; cases this
theorem Aak {dn:List Bool} {j k:Nat} (hj:j<dn.length):(dn.set j true).getD k true=if k=j then true else dn.getD k true:=by
 rw [gDg,gDg,List.getElem?_set];by_cases e:k=j
 ·subst e; simp [hj]
 ·rw [if_neg (fun h=>e h.symm),if_neg e]
theorem RelM.del {dn:List Bool} {es:List (Int×Bool)} (h:RelM gs dn es) {j:Nat} (hj:j<gs.length):RelM gs (dn.set j true) (I2 es (j:Int)):=by
 have hjl:j<dn.length:=by rw [h.len]; exact hj
 refine ⟨by simp [h.len],fun k hk=>?_,fun e he=>h.keys e (List.mem_filter.1 he).1,fun k e hk hd=>?_⟩
 ·rw [Aak hjl];by_cases e:k=j
  ·subst e; rw [Ml]; simp
  ·rw [Ic (by omega),h.get k hk,if_neg e]
 ·rw [Aak hjl] at hd;by_cases e':k=j
  ·rw [if_pos e'] at hd; cases hd
  ·rw [if_neg e'] at hd; exact h.cm k e hk hd
theorem Aoz {n:Int} (h:0<=n∧n<=1000):Jx n=some ((List.range n.toNat).map fun k:Nat=>(k:Int)):=by
 unfold Jx;rw [Qy (by omega),obs];have hl:((List.range n.toNat).map fun k:Nat=>(k:Int)).length=n.toNat:=by simp
 have key:A3 (fun s_:Nat×List Int=>Gp (List.replicate n.toNat 0) s_.1 s_.2) 4611686018427387904 (0,List.replicate n.toNat (0:Int))=some ((List.range n.toNat).map fun k:Nat=>(k:Int)):=by
  refine B3 n.toNat (fun k=>(k,((List.range n.toNat).map fun k:Nat=>(k:Int)).take k++List.replicate (((List.range n.toNat).map fun k:Nat=>(k:Int)).length - k) 0)) (by omega) _ (by simp) (fun k hk=>?_) ?_
  ·have hx:((List.range n.toNat).map fun k:Nat=>(k:Int))[k]? =some (k:Int):=by simp [hk]
   try dsimp only
   unfold Gp;rw [Bw (by simp; omega),cond_true,Qx (by omega),obs,Ar (by omega),Q1 hx]
  ·try dsimp only
   unfold Gp;rw [Bu (by simp),cond_false];simp [List.take_of_length_le]
 rw [key]; rfl
theorem Aio {ys:List Int} {dn:List Bool} {es:List (Int×Bool)} (h:RelM gs dn es) (hn:gs.length<=40) (hy:∀ x∈ys,0<=x∧x<gs.length) (hl:ys.length<=2):A9 ys es=some (!ys.all fun x=>dn.getD x.toNat false):=by
 unfold A9 Bh
 have:=Ajz (body:=fun s_:Nat=>A8 ys es s_) ys (fun x=> !dn.getD x.toNat false) (.next ()) (fun i=>.out (i:Int)) (F:=4611686018427387904) (by omega) (fun j x hx=>by
  have:=Bn hx;have hr:=hy x (List.mem_of_getElem? hx);have ho:=h.open_ (k:=x.toNat) (by omega);have hkl:x.toNat<dn.length:=by rw [h.len]; omega
  have hd:dn.getD x.toNat true=dn.getD x.toNat false:=by
   rw [gDg,gDg,gEg hkl]; rfl
  rw [show ((x.toNat:Nat):Int)=x by omega,hd] at ho;unfold A8 Cr;rw [Bw (by omega),cond_true,hx,obs,Ar (by unfold Ib; omega),ho,obs,Ar (by omega)];cases dn.getD x.toNat false <;> rfl) (by
  unfold A8;rw [Bu (by omega),cond_false])
 have hnot:(ys.any fun x=> !dn.getD x.toNat false)= !ys.all fun x=>dn.getD x.toNat false:=by
  rw [← Akz,Bool.not_not]
 rw [← hnot];rcases this with ⟨h1,i,hi,h2⟩ | ⟨h1,h2⟩
 ·rw [h2,h1];show some (decide (0<=(i:Int)))=_;rw [Bw (by omega)]
 ·rw [h2,h1]; rfl
theorem Akm {dn:List Bool} {es:List (Int×Bool)} (h:RelM gs dn es) (hg:okG gs) (hn:gs.length<=40) {k:Nat} (hk:k<gs.length):Cg (k:Int) es i gs outs=some (rdy gs dn k):=by
 unfold Cg;have he:=gEg hk;have ho:=hg _ (List.getElem_mem hk);have hc:=h.cm k gs[k] he;generalize gs[k]=e at he ho hc;have hr:rdy gs dn k=(!dn.getD k true&&(opG e).all fun x=>dn.getD x.toNat false):=by unfold rdy; rw [he]
 rw [Ar (by unfold Ib; omega),h.open_ hk,hr];cases hd:dn.getD k true
 ·have hcm:=hc hd;rw [Bool.not_false,cond_true,Jq (by omega),Int.toNat_natCast,he,obs,Ai9,obs,hcm,if_pos rfl,Aio h hn ho (Xw e)];simp
 ·rfl
theorem Ao6 {dn:List Bool} {es:List (Int×Bool)} (h:RelM gs dn es) (hg:okG gs) (hn:gs.length<=40):Bb ((List.range gs.length).map fun k:Nat=>(k:Int)) es i gs outs=some (enc (nxt gs dn)):=by
 unfold Bb;rw [Ah7 gs.length (rdy gs dn) (.next ()) (fun k=>.out (k:Int)) (by omega) (fun k hk=>?_) ?_]
 ·unfold nxt;cases (List.range gs.length).find? (rdy gs dn) <;> rfl
 ·unfold Bf;rw [Bu (by simp),cond_false]
 ·have hx:((List.range gs.length).map fun k:Nat=>(k:Int))[k]? =some (k:Int):=by simp [hk]
  unfold Bf;rw [Bw (by simp; omega),cond_true,hx,obs,Akm h hg hn hk,obs,Ar (by omega)];cases rdy gs dn k <;> rfl
theorem Aao (hg:okG gs) (hn:gs.length<=40):∀ (m:Nat) (dn:List Bool) (es:List (Int×Bool)) (out:List Int) (F:Nat),RelM gs dn es->dn.count false<=m->out.length+m<=1000->m+1<=F ->
  A3 (fun s_:List Int×(List (Int×Bool))=>B0 gs i outs s_.1 s_.2) F (out,es)=some (if V0 (run gs m dn).2=true then Ctl.next (out++(run gs m dn).1) else Ctl.out ([],false))
 | m,dn,es,out,F,h,hm,ho,hF=>by
  obtain ⟨F,rfl⟩:∃ F',F=F'+1:=⟨F - 1,by omega⟩
  cases es with
  | nil =>
   have hA:=h.empty
   have hx:nxt gs dn=none:=by
    cases hx:nxt gs dn with
    | none=>rfl
    | some j =>
     obtain ⟨_,h2⟩:=K9 hx;have:=U7 h2 h.len;have:=Q7 this;have:=X7.2 hA;omega
   have hr:run gs m dn=([],dn):=by cases m <;> simp [run,hx]
   rw [hr,hA,if_pos rfl,List.append_nil,Su (r:=Ctl.next out)];unfold B0;rw [Bu (by simp),cond_false]
  | cons x es =>
   have hA:=h.some_
   have hb:B0 gs i outs out (x :: es)=match nxt gs dn with | none=>some (Ctl.out (Ctl.out ([],false))) | some j=>some (Ctl.next (out++[(j:Int)],I2 (x :: es) (j:Int))):=by
    unfold B0;rw [Bw (by rw [List.length_cons]; omega),cond_true,Aoz (by omega),obs,Int.toNat_natCast,Ao6 h hg hn,obs];cases hx:nxt gs dn with
    | none=>rw [Bw (by simp [enc]),cond_true]
    | some j =>
     obtain ⟨h1,h2⟩:=K9 hx;rw [Bu (by simp [enc]),cond_false,Ar (by simp only [enc,Ib]; omega),Ar (by omega)];rfl
   cases hx:nxt gs dn with
   | none =>
    rw [hx] at hb;have hr:run gs m dn=([],dn):=by cases m <;> simp [run,hx]
    rw [hr,hA,Su (r:=Ctl.out ([],false)) hb];rfl
   | some j =>
    rw [hx] at hb;obtain ⟨h1,h2⟩:=K9 hx;have hc:=Q7 (U7 h2 h.len);rw [V2 (s':=(out++[(j:Int)],I2 (x :: es) (j:Int))) hb];cases m with
    | zero=>omega
    | succ m =>
     rw [Aao hg hn m (dn.set j true) (I2 (x :: es) (j:Int)) (out++[(j:Int)]) F (h.del h1) (by omega) (by simp; omega) (by omega)];simp [run,hx]
theorem Ahx (hn:gs.length<=40):∃ es,A3 (fun s_:Nat×(List (Int×Bool))=>B2 gs s_.1 s_.2) 4611686018427387904 (0,[])=some es∧RelM gs (dn0 gs) es:=by
 have key:∃ es,A3 (fun s_:Nat×(List (Int×Bool))=>B2 gs s_.1 s_.2) 4611686018427387904 (0,[])=some es∧((∀ k:Nat,k<gs.length->Dd es (k:Int)=if (dn0 gs).getD k true=true then none else some true)∧∀ e∈es,∃ k:Nat,k<gs.length∧e.1=(k:Int)):=by
  refine N1 (Post:=fun es=>(∀ k:Nat,k<gs.length->Dd es (k:Int)=if (dn0 gs).getD k true=true then none else some true)∧∀ e∈es,∃ k:Nat,k<gs.length∧e.1=(k:Int)) gs.length
   (fun (j:Nat) (s:Nat×(List (Int×Bool)))=>s.1=j∧s.2.length<=j∧(∀ k:Nat,Dd s.2 (k:Int)=if k<j∧(dn0 gs).getD k true=false then some true else none)∧∀ e∈s.2,∃ k:Nat,k<gs.length∧e.1=(k:Int)) (by omega) ⟨rfl,by simp,fun k=>by simp [Dd],by simp⟩ ?_ ?_
  ·rintro j ⟨j',es⟩ hj ⟨h1,h2,h3,h4⟩;dsimp only at h1 h2 h3 h4 ⊢;subst j';have hx:=gEg hj;have hd:(dn0 gs).getD j true= !cmG gs[j]:=by simp [dn0,gDg,hx]
   have ho:∀ e:Gt,cmG e=true->0<(opG e).length:=fun e he=>by
    simp only [cmG,Bool.or_eq_true,beq_iff_eq] at he;unfold opG;rcases he with he | he
    ·simp [he]
    ·rw [if_neg (by omega),if_pos (.inl he)]; simp
   generalize gs[j]=e at hx hd;have hj1:j+1<4611686018427387904:=by omega
   unfold B2;rw [Bw (by omega),cond_true,hx,obs,Ai9,obs];refine .inl ?_;cases hc:cmG e
   ·refine ⟨(j+1,es),by simp [Ar hj1],rfl,by dsimp only; omega,fun k=>?_,h4⟩;dsimp only;rw [h3 k];by_cases hk:k=j
    ·subst hk; rw [hd,hc]; simp
    ·simp only [show (k<j+1↔k<j) by omega]
   ·have hp:=ho e hc;have hg2:Ib ((j:Nat):Int)∧es.length<1073741824:=⟨by unfold Ib; omega,by omega⟩
    refine ⟨(j+1,Rl es (j:Int) true),?_,rfl,?_,fun k=>?_,fun x hx=>?_⟩
    ·rw [if_pos rfl,Bw (by omega),cond_true,Ar hg2,obs,Ar hj1]
    ·have:(I2 es (j:Int)).length<=es.length:=List.length_filter_le _ _;simp only [Rl,List.length_cons]; omega
    ·dsimp only;by_cases hk:k=j
     ·subst hk; rw [Md,hd,hc]; simp
     ·rw [Lh (by omega),h3 k];simp only [show (k<j+1↔k<j) by omega]
    ·rcases List.mem_cons.1 hx with rfl | hx
     ·exact ⟨j,hj,rfl⟩
     ·exact h4 x (List.mem_filter.1 hx).1
  ·rintro ⟨j',es⟩ ⟨h1,h2,h3,h4⟩;dsimp only at h1 h2 h3 h4 ⊢;subst j';refine ⟨es,?_,fun k hk=>?_,h4⟩
   ·unfold B2;rw [Bu (by omega),cond_false]
   ·rw [h3 k];cases (dn0 gs).getD k true <;> simp [hk]
 obtain ⟨es,h1,h2,h3⟩:=key;refine ⟨es,h1,by simp [dn0],h2,h3,fun k e hk hd=>?_⟩;have:(dn0 gs).getD k true= !cmG e:=by simp [dn0,gDg,hk]
 rw [this] at hd
 simpa using hd
theorem Y4 (hg:okG gs) (hn:gs.length<=40):Ca i gs outs=some (if V0 (Ta gs).2=true then ((Ta gs).1,true) else ([],false)):=by
 unfold Ca;obtain ⟨es,h1,h2⟩:=Ahx hn;have hc:(dn0 gs).count false<=gs.length:=Nat.le_trans List.count_le_length (by simp [dn0]);rw [h1,obs,Aao hg hn gs.length (dn0 gs) es [] _ h2 hc (by simp; omega) (by omega)];unfold Ta;cases V0 (run gs gs.length (dn0 gs)).2 <;> rfl
theorem Wh (hl:gs.length<=1099511627776) (ho:outs.length<=1099511627776):D4 p i gs outs=some (Rx p i gs outs):=by
 unfold D4 Rx Lj;simp only [Yb,obs];cases hp:isF p
 ·rfl
 cases hi:inR i 0 8
 ·rfl
 cases hn:inR gs.length 1 40
 ·rfl
 have hn':=Ep.1 hn;by_cases hs:8<outs.length
 ·simp only [Bool.not_true,cond_false,obs,Bw (show (8:Int)<((outs.length:Nat):Int) by omega),cond_true,Bu (show ¬ outs.length<=8 by omega),Bool.and_false,Bool.false_and]
 rw [Aa8 _ _ (by omega) (by omega)];simp only [Bool.not_true,cond_false,obs,Bu (show ¬ (8:Int)<((outs.length:Nat):Int) by omega),Bw (show outs.length<=8 by omega),Bool.true_and];cases hio:outs.all fun x=>inR x 0 ((gs.length:Nat) - 1)
 ·rfl
 simp only [Bool.not_true,cond_false,Bool.true_and];have hF:=Qh hp;have hI:=Ep.1 hi;rw [Qw gs (Hr p gs.length i) (.next ()) (.out false) (by omega) (fun k x h=>?_) ?_]
 ·cases hgb:gs.all (Hr p gs.length i)
  ·rfl
  ·have hg:=Afz hgb;simp only [if_true,J4,obs,Ctl.then];rw [Y4 hg (by omega),obs];cases V0 (Ta gs).2 <;> rfl
 ·unfold E2;rw [Bu (by omega),cond_false]
 ·have:=Bn h;unfold E2;rw [Bw (by omega),cond_true,h,obs,Alf hF hI (by omega),obs,Ar (by omega)];cases Hr p gs.length i x <;> rfl
end
end
section
section
variable {p i:Int} {gs:List Gt} {outs:List Int}
structure H8 (p i:Int) (gs:List Gt) (outs:List Int):Prop where
 fp:isF p=true
 hp:2<=p∧p<=97
 hi:0<=i∧i<=8
 hn:1<=gs.length∧gs.length<=40
 ho:outs.length<=8
 io:∀ x∈outs,0<=x∧x<gs.length
 ga:gs.all (Hr p gs.length i)=true
 al:V0 (Ta gs).2=true
theorem Vm:Rx p i gs outs=true↔H8 p i gs outs:=by
 simp only [Rx,Bool.and_eq_true,decide_eq_true_eq,Ep];constructor
 ·rintro ⟨h1,h2,h3,h4,h5,h6,h7⟩;refine ⟨h1,Qh h1,h2,by omega,h4,fun x hx=>?_,h6,h7⟩;have:=Ep.1 (List.all_eq_true.1 h5 x hx);omega
 ·rintro ⟨h1,_,h2,h3,h4,h5,h6,h7⟩;refine ⟨h1,h2,by omega,h4,List.all_eq_true.2 fun x hx=>Ep.2 ?_,h6,h7⟩;have:=h5 x hx;omega
end
def gtD (l:List Int) (x:Int):Int:=l.getD x.toNat 0
theorem Ew {l:List Int} {x:Int} (h:0<=x∧x<l.length):Hc l x=some (gtD l x):=by
 have hx:x.toNat<l.length:=by omega
 rw [Jq h.1,gtD,gDg,gEg hx]; rfl
theorem Y1 {l:List Int} {x:Int} (h:0<=x∧x<l.length):l[x.toNat]? =some (gtD l x):=by
 rw [← Jq h.1,Ew h]
section
variable {p i:Int} {gs:List Gt} {outs:List Int}
theorem V1 {n:Int} {e:Gt} (h:Hr p n i e=true) (h1:e.1=1):0<=e.2.2.2∧e.2.2.2<i:=by
 simp only [Hr,Bool.and_eq_true] at h;obtain ⟨_,_,h⟩:=h;rw [if_pos h1,Bool.and_eq_true,Ep] at h;omega
def gtG (gs:List Gt) (x:Int):Gt:=gs.getD x.toNat (0,0,0,0)
theorem Zm {x:Int} (h:0<=x∧x<gs.length):Hc gs x=some (gtG gs x):=by
 have hx:x.toNat<gs.length:=by omega
 rw [Jq h.1,gtG,gDg,gEg hx]; rfl
theorem Xm {x:Int} (h:0<=x∧x<gs.length):gtG gs x∈gs:=by
 have hx:x.toNat<gs.length:=by omega
 rw [gtG,gDg,gEg hx];exact List.getElem_mem hx
theorem U8 {n:Int} {e:Gt} (h:Hr p n i e=true):(∀ x∈opG e,0<=x∧x<n)∧(e.1≠3->e.2.2.1=0)∧(e.1=4->0<=e.2.2.2∧e.2.2.2<p):=by
 simp only [Hr,Bool.and_eq_true,List.all_eq_true,Ep,Bool.or_eq_true,beq_iff_eq] at h;obtain ⟨h1,h2,h3⟩:=h;refine ⟨fun x hx=>by have:=h1 x hx; omega,fun h=>by omega,fun h4=>?_⟩;rw [if_neg (by omega),if_neg (by omega),if_neg (by omega),if_pos h4,Ep] at h3;omega
end
end
section
def inP (p:Int) (l:List Int):Prop:=∀ x∈l,0<=x∧x<p
theorem Mg {p:Int} {l:List Int} (h:inP p l) {x:Int} (hx:0<=x∧x<l.length):0<=gtD l x∧gtD l x<p:=by
 have hx':x.toNat<l.length:=by omega
 rw [gtD,gDg,gEg hx'];exact h _ (List.getElem_mem hx')
theorem Afc {p:Int} {l:List Int} (h:inP p l) {k:Nat} {v:Int} (hv:0<=v∧v<p):inP p (l.set k v):=fun y hy=>by
 rcases List.mem_or_eq_of_mem_set hy with h1 | rfl
 ·exact h y h1
 ·exact hv
def Ct (ps:List (Nat×Int)) (v:List Int):List Int:=ps.foldl (fun v e=>v.set e.1 e.2) v
theorem Fc:∀ (ps:List (Nat×Int)) (v:List Int),(Ct ps v).length=v.length
 | [],_=>rfl
 | a :: ps,v=>by
  show (Ct ps (v.set a.1 a.2)).length=_;rw [Fc ps,List.length_set]
theorem Adc:∀ (ps:List (Nat×Int)) (v:List Int) (i:Nat) (x:Int),(∀ a∈ps,a.1≠i)->Ct ps (v.set i x)=(Ct ps v).set i x
 | [],_,_,_,_=>rfl
 | a :: ps,v,i,x,h=>by
  show Ct ps ((v.set i x).set a.1 a.2)=(Ct ps (v.set a.1 a.2)).set i x;rw [List.set_comm _ _ (fun e=>h a (List.mem_cons_self ..) e.symm),Adc ps _ i x fun b hb=>h b (List.mem_cons_of_mem _ hb)]
theorem Y2:∀ (qs ps:List (Nat×Int)) (v:List Int),(∀ a∈ps,∀ b∈qs,a.1≠b.1)->Ct ps (Ct qs v)=Ct qs (Ct ps v)
 | [],_,_,_=>rfl
 | b :: qs,ps,v,h=>by
  show Ct ps (Ct qs (v.set b.1 b.2))=Ct qs ((Ct ps v).set b.1 b.2);rw [Y2 qs ps _ fun a ha c hc=>h a ha c (List.mem_cons_of_mem _ hc),Adc ps v b.1 b.2 fun a ha=>h a ha b (List.mem_cons_self ..)]
theorem Adj (ps qs:List (Nat×Int)) (v:List Int):Ct (ps++qs) v=Ct qs (Ct ps v):=List.foldl_append
theorem Vy {p:Int}:∀ (ps:List (Nat×Int)) (v:List Int),(∀ a∈ps,0<=a.2∧a.2<p)->inP p v->inP p (Ct ps v)
 | [],_,_,h=>h
 | a :: ps,v,ha,h=>Vy ps _ (fun b hb=>ha b (List.mem_cons_of_mem _ hb)) (Afc h (ha a (List.mem_cons_self ..)))
section
variable {p i:Int} {gs:List Gt} {outs st ins:List Int}
theorem Afp {k:Nat} {e:Gt} (h:gs[k]? =some e):gtG gs (k:Int)=e:=by
 rw [gtG,Int.toNat_natCast,gDg,h]; rfl
def dlL (gs:List Gt) (k:Nat):List Int:=((List.range k).map fun t:Nat=>(t:Int)).filter fun x=>(gtG gs x).1==5
def dl (gs:List Gt):List Int:=dlL gs gs.length
theorem Ame (k:Nat):dlL gs (k+1)=dlL gs k++(if (gtG gs (k:Int)).1==5 then [(k:Int)] else []):=by
 unfold dlL;rw [List.range_succ,List.map_append,List.filter_append];congr 1;simp only [List.map_cons,List.map_nil,List.filter_cons,List.filter_nil]
theorem Ki (k:Nat):(dlL gs k).length<=k:=by
 refine Nat.le_trans (List.length_filter_le _ _) ?_;simp
theorem Aa4 {x:Int} (h:x∈dl gs):(0<=x∧x<gs.length)∧(gtG gs x).1=5:=by
 unfold dl dlL at h;obtain ⟨h1,h2⟩:=List.mem_filter.1 h;obtain ⟨t,ht,rfl⟩:=List.mem_map.1 h1;have:=List.mem_range.1 ht;exact ⟨by omega,by simpa using h2⟩
theorem Nt (hn:gs.length<=40):C0 i gs outs=some (dl gs):=by
 unfold C0;rw [B3 (s0:=(0,[])) gs.length (fun k=>(k,dlL gs k)) (by omega) (dl gs) rfl (fun k hk=>?_) ?_]
 ·rfl
 ·try dsimp only
  unfold Fu;rw [Bu (by omega),cond_false]; rfl
 ·have hx:=gEg hk;have hg:=Afp hx;have hl:=Ki (gs:=gs) k;have ho:(dlL gs k).length+1<=1073741824∧((dlL gs k).length+1)*8<=140737488355328:=by omega
  try dsimp only
  unfold Fu;rw [Bw (by omega),cond_true,hx,obs,Ame,hg];cases hb:gs[k].1==5
  ·simp [Ar (show k+1<4611686018427387904 by omega)]
  ·simp only [cond_true,if_true];rw [Ar ho,obs,Ar (by omega)]
theorem Ahd (hn:gs.length<=40):C9 i gs outs=some (dl gs):=Nt (i:=i) (outs:=outs) hn
def psA (gs:List Gt) (ins:List Int) (k:Nat):List (Nat×Int):=((List.range k).filter fun j:Nat=>(gtG gs (j:Int)).1==1).map fun j:Nat=>(j,gtD ins (gtG gs (j:Int)).2.2.2)
theorem Amh (k:Nat):psA gs ins (k+1)=psA gs ins k++(if (gtG gs (k:Int)).1==1 then [(k,gtD ins (gtG gs (k:Int)).2.2.2)] else []):=by
 unfold psA;rw [List.range_succ,List.filter_append,List.map_append];congr 1;simp only [List.filter_cons,List.filter_nil];cases (gtG gs (k:Int)).1==1 <;> rfl
def psB (ds st:List Int) (k:Nat):List (Nat×Int):=(List.range k).map fun t:Nat=>((gtD ds (t:Int)).toNat,gtD st (t:Int))
theorem Alg {ds:List Int} (k:Nat):psB ds st (k+1)=psB ds st k++[((gtD ds (k:Int)).toNat,gtD st (k:Int))]:=by
 unfold psB;rw [List.range_succ,List.map_append]; rfl
theorem Ajc (G:H8 p i gs outs) (hi:((ins.length:Nat):Int)=i) {v:List Int} (hv:v.length=gs.length):A3 (fun s_:Nat×List Int=>Fe gs ins s_.1 s_.2) 4611686018427387904 (0,v)=some (Ct (psA gs ins gs.length) v):=by
 have hn:=G.hn;refine B3 gs.length (fun k=>(k,Ct (psA gs ins k) v)) (by omega) _ rfl (fun k hk=>?_) ?_
 ·have hx:=gEg hk;have hg:=Afp hx;have hb:=List.all_eq_true.1 G.ga _ (List.getElem_mem hk);have hin:=V1 hb;generalize gs[k]=e at hx hg hin;have hl:(Ct (psA gs ins k) v).length=gs.length:=by rw [Fc,hv]
  try dsimp only
  unfold Fe;rw [Bw (by omega),cond_true,hx,obs,Amh,hg,Adj];by_cases h1:e.1=1
  ·have hval:=hin h1;rw [Ew (l:=ins) (by omega),gEg (by omega)];simp only [h1,beq_self_eq_true,cond_true,obs,if_true];rw [Ar (by omega)];rfl
  ·have b1:=beq_eq_false_iff_ne.2 h1;simp only [b1,cond_false,obs];rw [Ar (by omega)];rfl
 ·try dsimp only
  unfold Fe;rw [Bu (by omega),cond_false]
theorem Aji {ds:List Int} (hn:gs.length<=40) (hd:∀ x∈ds,0<=x∧x<gs.length) (hs:st.length=ds.length) (hdl:ds.length<=40) {v:List Int} (hv:v.length=gs.length):A3 (fun s_:Nat×List Int=>Fg ds st s_.1 s_.2) 4611686018427387904 (0,v)=some (Ct (psB ds st ds.length) v):=by
 refine B3 ds.length (fun k=>(k,Ct (psB ds st k) v)) (by omega) _ rfl (fun k hk=>?_) ?_
 ·have h1:ds[k]? =some (gtD ds (k:Int)):=by have:=Y1 (l:=ds) (x:=(k:Int)) (by omega); rwa [Int.toNat_natCast] at this
  have h2:st[k]? =some (gtD st (k:Int)):=by have:=Y1 (l:=st) (x:=(k:Int)) (by omega); rwa [Int.toNat_natCast] at this
  have hr:=hd _ (List.mem_of_getElem? h1);have hl:(Ct (psB ds st k) v).length=gs.length:=by rw [Fc,hv]
  try dsimp only
  unfold Fg;rw [Bw (by omega),cond_true,h1,obs,h2,obs,Ew (by omega),obs,Ar (by omega),Alg,Adj];rfl
 ·try dsimp only
  unfold Fg;rw [Bu (by omega),cond_false]
def Ht (p:Int) (gs:List Gt) (v:List Int) (x:Int):List Int :=
 if (gtG gs x).1=3 then v.set x.toNat ((gtD v (gtG gs x).2.1+gtD v (gtG gs x).2.2.1) % p) else v.set x.toNat (((gtG gs x).2.2.2*gtD v (gtG gs x).2.1) % p)
theorem Ake (v:List Int) (x:Int):(Ht p gs v x).length=v.length:=by unfold Ht; split <;> simp
theorem Akg (hp:2<=p) {v:List Int} (h:inP p v) (x:Int):inP p (Ht p gs v x):=by
 have m1:∀ x:Int,0<=x % p∧x % p<p:=fun x=>⟨Int.emod_nonneg x (by omega),Int.emod_lt_of_pos x (by omega)⟩
 unfold Ht; split <;> exact Afc h (m1 _)
theorem Q4:∀ (os v:List Int),(os.foldl (Ht p gs) v).length=v.length
 | [],_=>rfl
 | x :: os,v=>by rw [List.foldl_cons,Q4 os,Ake]
theorem Qt (hp:2<=p):∀ (os v:List Int),inP p v->inP p (os.foldl (Ht p gs) v)
 | [],_,h=>h
 | x :: os,v,h=>by rw [List.foldl_cons]; exact Qt hp os _ (Akg hp h x)
def okO (gs:List Gt) (os:List Int):Prop:=∀ x∈os,(0<=x∧x<gs.length)∧cmG (gtG gs x)=true
theorem Ald:∀ (m:Nat) (dn:List Bool),dn.length=gs.length->(∀ (k:Nat) (e:Gt),gs[k]? =some e->dn.getD k true=false->cmG e=true)->okO gs (run gs m dn).1
 | 0,_,_,_=>fun x hx=>by cases hx
 | m+1,dn,hl,hc=>by
  unfold run;cases hx:nxt gs dn with
  | none=>exact fun x hx=>by cases hx
  | some j =>
   obtain ⟨h1,h2⟩:=K9 hx;have hd:=U7 h2 hl;intro x hx;rcases List.mem_cons.1 hx with rfl | hx
   ·have he:=gEg h1;refine ⟨by omega,?_⟩;rw [Afp he];exact hc j _ he (by rw [gDg,hd]; rfl)
   ·refine Ald m (dn.set j true) (by simp [hl]) (fun k e hk hdk=>?_) x hx;rw [Aak (by omega)] at hdk;by_cases e':k=j
    ·rw [if_pos e'] at hdk; cases hdk
    ·rw [if_neg e'] at hdk; exact hc k e hk hdk
theorem Al9:okO gs (Ta gs).1:=Ald gs.length (dn0 gs) (by simp [dn0]) fun k e hk hd=>by
 have:(dn0 gs).getD k true= !cmG e:=by simp [dn0,gDg,hk]
 rw [this] at hd
 simpa using hd
theorem Aju (hn:gs.length<=40):(Ta gs).1.length<=40:=by
 have:=An4 (gs:=gs) (m:=gs.length) (dn:=dn0 gs) (by simp [dn0]) (Nat.le_trans List.count_le_length (by simp [dn0]));unfold Ta; omega
theorem Ajx (G:H8 p i gs outs) {x:Int} (hx:0<=x∧x<gs.length) (hc:cmG (gtG gs x)=true):((gtG gs x).1=3∧(0<=(gtG gs x).2.1∧(gtG gs x).2.1<gs.length)∧0<=(gtG gs x).2.2.1∧(gtG gs x).2.2.1<gs.length)∨((gtG gs x).1=4∧(0<=(gtG gs x).2.1∧(gtG gs x).2.1<gs.length)∧0<=(gtG gs x).2.2.2∧(gtG gs x).2.2.2<p):=by
 have hb:=U8 (List.all_eq_true.1 G.ga _ (Xm hx));generalize gtG gs x=e at hb hc;simp only [cmG,Bool.or_eq_true,beq_iff_eq] at hc;rcases hc with h3 | h4
 ·exact .inl ⟨h3,hb.1 _ (by simp [opG,h3]),hb.1 _ (by simp [opG,h3])⟩
 ·exact .inr ⟨h4,hb.1 _ (by simp [opG,h4]),hb.2.2 h4⟩
theorem Aoa (G:H8 p i gs outs) {os v:List Int} (hok:okO gs os) (hol:os.length<=40) (hv:v.length=gs.length) (hvP:inP p v):A3 (fun s_:Nat×List Int=>D5 os gs p s_.1 s_.2) 4611686018427387904 (0,v)=some (os.foldl (Ht p gs) v):=by
 have hn:=G.hn; have hp:=G.hp;rw [B3 (s0:=(0,v)) os.length (fun k=>(k,(os.take k).foldl (Ht p gs) v)) (by omega) (os.foldl (Ht p gs) v) (by simp) (fun k hk=>?_) ?_]
 ·try dsimp only
  unfold D5;rw [Bu (by omega),cond_false,List.take_length]
 ·have hx:=gEg hk;obtain ⟨hr,hc⟩:=hok _ (List.getElem_mem hk);generalize os[k]=x at hx hr hc;have hgo:=Ajx G hr hc;have hl:=Q4 (p:=p) (gs:=gs) (os.take k) v;have hP:=Qt (gs:=gs) hp.1 (os.take k) v hvP;rw [List.take_add_one,hx,List.foldl_append];generalize (os.take k).foldl (Ht p gs) v=u at hl hP;show D5 os gs p k u=some (Ctl.next (k+1,Ht p gs u x));unfold D5 Ht;rw [Bw (by omega),cond_true,hx,obs,Zm hr,obs,Ew (l:=u) (x:=x) (by omega)];generalize gtG gs x=e at hgo;rcases hgo with ⟨h3,hA,hB⟩ | ⟨h4,hA,hV⟩
  ·rw [Ew (l:=u) (x:=e.2.1) (by omega),Ew (l:=u) (x:=e.2.2.1) (by omega),if_pos h3];simp only [h3,beq_self_eq_true,cond_true,obs];rw [Anv hp (Mg hP (by omega)) (Mg hP (by omega)),obs,obs,Ar (by omega)]
  ·have h3:e.1≠3:=by omega
   have b3:=beq_eq_false_iff_ne.2 h3;rw [Ew (l:=u) (x:=e.2.1) (by omega),if_neg h3,b3,cond_false,obs,An7 hp hV (Mg hP (by omega)),obs,obs,obs,Ar (by omega)]
theorem Alt (G:H8 p i gs outs) {os v:List Int} {b:Bool} (hok:okO gs os) (hol:os.length<=40) (hv:v.length=gs.length) (hvP:inP p v):A3 (fun s_:Nat×List Int=>Ce (os,b) gs p s_.1 s_.2) 4611686018427387904 (0,v)=some (os.foldl (Ht p gs) v):=by
 have hn:=G.hn; have hp:=G.hp;rw [B3 (s0:=(0,v)) os.length (fun k=>(k,(os.take k).foldl (Ht p gs) v)) (by omega) (os.foldl (Ht p gs) v) (by simp) (fun k hk=>?_) ?_]
 ·unfold Ce;dsimp only;rw [Bu (by omega),cond_false,List.take_length]
 ·have hx:=gEg hk;obtain ⟨hr,hc⟩:=hok _ (List.getElem_mem hk);generalize os[k]=x at hx hr hc;have hgo:=Ajx G hr hc;have hl:=Q4 (p:=p) (gs:=gs) (os.take k) v;have hP:=Qt (gs:=gs) hp.1 (os.take k) v hvP;rw [List.take_add_one,hx,List.foldl_append];generalize (os.take k).foldl (Ht p gs) v=u at hl hP;show Ce (os,b) gs p k u=some (Ctl.next (k+1,Ht p gs u x));unfold Ce Ht;dsimp only;rw [Bw (by omega),cond_true,hx,obs,Zm hr,obs,Ew (l:=u) (x:=x) (by omega)];generalize gtG gs x=e at hgo;rcases hgo with ⟨h3,hA,hB⟩ | ⟨h4,hA,hV⟩
  ·have q1:=Mg hP (x:=e.2.1) (by omega);have q2:=Mg hP (x:=e.2.2.1) (by omega);rw [Ew (l:=u) (x:=e.2.1) (by omega),Ew (l:=u) (x:=e.2.2.1) (by omega),if_pos h3];simp only [h3,beq_self_eq_true,cond_true,obs];rw [Eh (n:=gtD u e.2.1+gtD u e.2.2.1) (by omega) (by omega),Amr hp,obs,obs,Ar (by omega)]
  ·have h3:e.1≠3:=by omega
   have b3:=beq_eq_false_iff_ne.2 h3;have q1:=Mg hP (x:=e.2.1) (by omega);have hm:=Ad7 hp hV q1;rw [Ew (l:=u) (x:=e.2.1) (by omega),if_neg h3,b3,cond_false,obs,Eh (n:=e.2.2.2*gtD u e.2.1) (by omega) (by omega),Amr hp,obs,obs,obs,Ar (by omega)]
def V8 (gs:List Gt) (v:List Int):List Int:=(dl gs).map fun d=>gtD v (gtG gs d).2.1
theorem Ajv (G:H8 p i gs outs) {v:List Int} (hv:v.length=gs.length):A3 (fun s_:Nat×List Int=>Fb (dl gs) gs v s_.1 s_.2) 4611686018427387904 (0,[])=some ([]++V8 gs v):=by
 have hn:=G.hn;have hdl:(dl gs).length<=40:=Nat.le_trans (Ki _) hn.2;refine Jf (dl gs) (fun d=>gtD v (gtG gs d).2.1) [] (by omega) _ (fun j d h=>?_) ?_
 ·have hlt:=Bn h;obtain ⟨hr,h5⟩:=Aa4 (List.mem_of_getElem? h);have hb:=U8 (List.all_eq_true.1 G.ga _ (Xm hr));have hA:=hb.1 (gtG gs d).2.1 (by simp [opG,h5])
  try dsimp only
  unfold Fb;rw [Bw (by omega),cond_true,h,obs,Zm hr,obs,Ew (by omega),obs,Ar (by simp; omega),Ar (by omega)]
 ·try dsimp only
  unfold Fb;rw [Bu (by omega),cond_false]; rfl
theorem Apt {v:List Int} (ho:outs.length<=8) (hi:∀ x∈outs,0<=x∧x<v.length):Hw outs v=some (outs.map (gtD v)):=by
 unfold Hw
 have key:A3 (fun s_:Nat×List Int=>E9 outs v s_.1 s_.2) 4611686018427387904 (0,[])=some ([]++outs.map (gtD v)):=by
  refine Jf outs (gtD v) [] (by omega) _ (fun j x h=>?_) ?_
  ·have hlt:=Bn h;have h1:=hi x (List.mem_of_getElem? h)
   try dsimp only
   unfold E9;rw [Bw (by omega),cond_true,h,obs,Ew h1,obs,Ar (by simp; omega),Ar (by omega)]
  ·try dsimp only
   unfold E9;rw [Bu (by omega),cond_false]
 rw [key]; rfl
theorem Alj {v:List Int} (ho:outs.length<=8) (hi:∀ x∈outs,0<=x∧x<v.length):Hq v outs=some (outs.map (gtD v)):=by
 unfold Hq;rw [Ar (by omega)]
 have key:A3 (fun s_:Nat×List Int=>Fa outs v s_.1 s_.2) 4611686018427387904 (0,List.replicate 0 (0:Int))=some ([]++outs.map (gtD v)):=by
  refine Jf outs (gtD v) [] (by omega) _ (fun j x h=>?_) ?_
  ·have hlt:=Bn h;have h1:=hi x (List.mem_of_getElem? h)
   try dsimp only
   unfold Fa;rw [Bw (by omega),cond_true,h,obs,Ew h1,obs,Ar (by simp; omega),Ar (by omega)]
  ·try dsimp only
   unfold Fa;rw [Bu (by omega),cond_false]
 rw [key]; rfl
def U4 (p:Int) (gs:List Gt) (st ins:List Int):List Int:=(Ta gs).1.foldl (Ht p gs) (Ct (psB (dl gs) st (dl gs).length) (Ct (psA gs ins gs.length) (List.replicate gs.length 0)))
theorem Ajm {a:Nat×Int} (h:a∈psA gs ins gs.length):∃ j:Nat,j<gs.length∧(gtG gs (j:Int)).1=1∧a=(j,gtD ins (gtG gs (j:Int)).2.2.2):=by
 unfold psA at h;obtain ⟨j,hj,rfl⟩:=List.mem_map.1 h;obtain ⟨h1,h2⟩:=List.mem_filter.1 hj;exact ⟨j,List.mem_range.1 h1,by simpa using h2,rfl⟩
theorem Ajy {a:Nat×Int} (hs:st.length=(dl gs).length) (h:a∈psB (dl gs) st (dl gs).length):∃ d,d∈dl gs∧a.1=d.toNat∧∃ t:Nat,t<st.length∧a.2=gtD st (t:Int):=by
 unfold psB at h;obtain ⟨t,ht,rfl⟩:=List.mem_map.1 h;have ht:=List.mem_range.1 ht;refine ⟨gtD (dl gs) (t:Int),?_,rfl,t,by omega,rfl⟩;have:=Y1 (l:=dl gs) (x:=(t:Int)) (by omega);exact List.mem_of_getElem? this
theorem An1 (hs:st.length=(dl gs).length) (v:List Int):Ct (psA gs ins gs.length) (Ct (psB (dl gs) st (dl gs).length) v)=Ct (psB (dl gs) st (dl gs).length) (Ct (psA gs ins gs.length) v):=by
 refine Y2 _ _ _ fun a ha b hb e=>?_
 obtain ⟨j,hj,h1,rfl⟩:=Ajm ha;obtain ⟨d,hd,hb1,_⟩:=Ajy hs hb;obtain ⟨hr,h5⟩:=Aa4 hd;dsimp only at e;have:(j:Int)=d:=by omega
 rw [this,h5] at h1;omega
theorem Ah9 (G:H8 p i gs outs) (hs:st.length=(dl gs).length) (hsP:inP p st) (hi:((ins.length:Nat):Int)=i) (hiP:inP p ins):inP p (Ct (psB (dl gs) st (dl gs).length) (Ct (psA gs ins gs.length) (List.replicate gs.length 0))):=by
 have hp:=G.hp;refine Vy _ _ (fun a ha=>?_) (Vy _ _ (fun a ha=>?_) fun x hx=>?_)
 ·obtain ⟨_,_,_,t,ht,e⟩:=Ajy hs ha;rw [e]; exact Mg hsP (by omega)
 ·obtain ⟨j,hj,h1,rfl⟩:=Ajm ha;have hb:=List.all_eq_true.1 G.ga _ (Xm (gs:=gs) (x:=(j:Int)) (by omega));have:=V1 hb h1;exact Mg hiP (by omega)
 ·obtain rfl:=List.eq_of_mem_replicate hx; omega
theorem Px:(U4 p gs st ins).length=gs.length:=by
 unfold U4;rw [Q4,Fc,Fc,List.length_replicate]
theorem Agl (G:H8 p i gs outs) (hs:st.length=(dl gs).length) (hsP:inP p st) (hi:((ins.length:Nat):Int)=i) (hiP:inP p ins):Ge p i gs outs st ins=some (V8 gs (U4 p gs st ins),outs.map (gtD (U4 p gs st ins))):=by
 have hn:=G.hn;have hdl:(dl gs).length<=40:=Nat.le_trans (Ki _) hn.2;unfold Ge
 rw [Ar (by omega),Ajc G hi (by simp),obs,Nt hn.2,obs,Aji hn.2 (fun x hx=>(Aa4 hx).1) hs hdl (by rw [Fc]; simp),obs,
  Adx (Afz G.ga) hn.2,obs,Aoa G Al9 (Aju hn.2) (by rw [Fc,Fc]; simp) (Ah9 G hs hsP hi hiP),obs]
 have hv:(List.foldl (Ht p gs) (Ct (psB (dl gs) st (dl gs).length) (Ct (psA gs ins gs.length) (List.replicate gs.length 0))) (Ta gs).1)=U4 p gs st ins:=rfl;rw [hv,obs,Ajv G Px,obs,Apt G.ho (by rw [Px]; exact G.io)];rfl
theorem Wi (G:H8 p i gs outs) (hs:st.length=(dl gs).length) (hsP:inP p st) (hi:((ins.length:Nat):Int)=i) (hiP:inP p ins):Cy i gs outs p st ins=some (V8 gs (U4 p gs st ins),outs.map (gtD (U4 p gs st ins))):=by
 have hn:=G.hn;have hdl:(dl gs).length<=40:=Nat.le_trans (Ki _) hn.2;have hB:A3 (fun s_:Nat×List Int=>Fz (dl gs) st s_.1 s_.2) 4611686018427387904 (0,List.replicate gs.length 0)=some (Ct (psB (dl gs) st (dl gs).length) (List.replicate gs.length 0)):=Aji hn.2 (fun x hx=>(Aa4 hx).1) hs hdl (by simp);have hA:A3 (fun s_:Nat×List Int=>F0 gs ins s_.1 s_.2) 4611686018427387904 (0,Ct (psB (dl gs) st (dl gs).length) (List.replicate gs.length 0))=some (Ct (psA gs ins gs.length) (Ct (psB (dl gs) st (dl gs).length) (List.replicate gs.length 0))):=Ajc G hi (by rw [Fc]; simp);have hN:A3 (fun s_:Nat×List Int=>Fw (dl gs) gs (U4 p gs st ins) s_.1 s_.2) 4611686018427387904 (0,[])=some ([]++V8 gs (U4 p gs st ins)):=Ajv G Px;unfold Cy
 rw [Qy (by omega),obs,Ahd hn.2,obs,Int.toNat_natCast,hB,obs,hA,obs,An1 hs,Y4 (Afz G.ga) hn.2,if_pos G.al,obs,
  Alt G Al9 (Aju hn.2) (by rw [Fc,Fc]; simp) (Ah9 G hs hsP hi hiP),obs]
 have hv:(List.foldl (Ht p gs) (Ct (psB (dl gs) st (dl gs).length) (Ct (psA gs ins gs.length) (List.replicate gs.length 0))) (Ta gs).1)=U4 p gs st ins:=rfl;rw [hv,hN,obs,Alj G.ho (by rw [Px]; exact G.io)];rfl
end
end
section
def uV (n k:Nat):List Int:=(List.replicate n 0).set k 1
theorem Uy (n k:Nat):(uV n k).length=n:=by simp [uV]
theorem Sy {p:Int} (hp:2<=p) (n:Nat):inP p (List.replicate n 0):=fun x hx=>by obtain rfl:=(List.mem_replicate.1 hx).2; omega
theorem Uv {p:Int} (hp:2<=p) (n k:Nat):inP p (uV n k):=Afc (Sy hp n) (by omega)
theorem Agf {a b:Int} (h:0<=b∧b<a) (ha:a<=1000):D2 a b=some (uV a.toNat b.toNat):=by
 unfold D2;rw [Ar (by omega),Jq h.1,List.getElem?_replicate,if_pos (by omega),obs]; rfl
theorem Aml {a b:Int} (h:0<=b∧b<a) (ha:a<=1000):Fp a b=some (uV a.toNat b.toNat):=by
 unfold Fp;rw [Qy (by omega),obs,Jq h.1,List.getElem?_replicate,if_pos (by omega),obs]; rfl
section
variable {p i:Int} {gs:List Gt} {outs:List Int}
def nxO (p:Int) (gs:List Gt) (outs st ins:List Int):List Int×List Int:=(V8 gs (U4 p gs st ins),outs.map (gtD (U4 p gs st ins)))
def Anj (p i:Int) (gs:List Gt) (outs:List Int) (k:Nat):List Int×List Int:=nxO p gs outs (uV (dl gs).length k) (List.replicate i.toNat 0)
def Ans (p i:Int) (gs:List Gt) (outs:List Int) (k:Nat):List Int×List Int:=nxO p gs outs (List.replicate (dl gs).length 0) (uV i.toNat k)
def Ac3 (p i:Int) (gs:List Gt) (outs:List Int) (n:Nat):List (List Int):=(List.range n).map fun k=>(Anj p i gs outs k).1
def Abe (p i:Int) (gs:List Gt) (outs:List Int) (n:Nat):List (List Int):=(List.range n).map fun k=>(Anj p i gs outs k).2
def Ach (p i:Int) (gs:List Gt) (outs:List Int) (n:Nat):List (List Int):=(List.range n).map fun k=>(Ans p i gs outs k).1
def Acq (p i:Int) (gs:List Gt) (outs:List Int) (n:Nat):List (List Int):=(List.range n).map fun k=>(Ans p i gs outs k).2
theorem Uc {α:Type} (f:Nat->α) (k:Nat):(List.range (k+1)).map f=(List.range k).map f++[f k]:=by rw [List.range_succ,List.map_append]; rfl
theorem H0 {α:Type} (f:Nat->α) (k:Nat):((List.range k).map f).length=k:=by simp
theorem Amj (G:H8 p i gs outs) (st ins:List Int):(nxO p gs outs st ins).1.length<=40∧(nxO p gs outs st ins).2.length<=8:=by
 refine ⟨?_,?_⟩
 ·show (V8 gs _).length<=40;unfold V8;rw [List.length_map];exact Nat.le_trans (Ki _) G.hn.2
 ·show (outs.map _).length<=8;rw [List.length_map]; exact G.ho
theorem Ap3 (G:H8 p i gs outs):A3 (fun s_:Nat×List (List Int)×List (List Int)=>C8 (dl gs) i p gs outs s_.1 s_.2.1 s_.2.2) 4611686018427387904 (0,[],[])=some (Ac3 p i gs outs (dl gs).length,Abe p i gs outs (dl gs).length):=by
 have hi:=G.hi; have hn:=G.hn; have hp:=G.hp;have hdl:(dl gs).length<=40:=Nat.le_trans (Ki _) hn.2;refine B3 (dl gs).length (fun k=>(k,Ac3 p i gs outs k,Abe p i gs outs k)) (by omega) _ rfl (fun k hk=>?_) ?_
 ·have hs:=Agl (st:=uV (dl gs).length k) (ins:=List.replicate i.toNat 0) G (Uy _ _) (Uv hp.1 _ _) (by simp; omega) (Sy hp.1 _);have hl:=Amj G (uV (dl gs).length k) (List.replicate i.toNat 0);have hu:D2 (((dl gs).length:Nat):Int) ((k:Nat):Int)=some (uV (dl gs).length k):=Agf (by omega) (by omega)
  try dsimp only
  unfold C8;rw [Bw (by omega),cond_true,hu,obs,Ar (by omega),hs,obs,Un _ (by have:=hl.1; show (nxO p gs outs _ _).1.length<=_; omega),obs,Ar (by simp only [Ac3,H0]; omega),Un _ (by have:=hl.2; show (nxO p gs outs _ _).2.length<=_; omega),obs,Ar (by simp only [Abe,H0]; omega),Ar (by omega)];simp only [Ac3,Abe,Uc]; rfl
 ·try dsimp only
  unfold C8;rw [Bu (by omega),cond_false]
theorem Ap8 (G:H8 p i gs outs):A3 (fun s_:Nat×List (List Int)×List (List Int)=>Cj (dl gs) i gs outs p s_.1 s_.2.1 s_.2.2) 4611686018427387904 (0,[],[])=some (Ac3 p i gs outs (dl gs).length,Abe p i gs outs (dl gs).length):=by
 have hi:=G.hi; have hn:=G.hn; have hp:=G.hp;have hdl:(dl gs).length<=40:=Nat.le_trans (Ki _) hn.2;refine B3 (dl gs).length (fun k=>(k,Ac3 p i gs outs k,Abe p i gs outs k)) (by omega) _ rfl (fun k hk=>?_) ?_
 ·have hs:=Wi (st:=uV (dl gs).length k) (ins:=List.replicate i.toNat 0) G (Uy _ _) (Uv hp.1 _ _) (by simp; omega) (Sy hp.1 _);have hu:Fp (((dl gs).length:Nat):Int) ((k:Nat):Int)=some (uV (dl gs).length k):=Aml (by omega) (by omega)
  try dsimp only
  unfold Cj;rw [Bw (by omega),cond_true,hu,obs,Qy (by omega),obs,hs,obs,Ar (by simp only [Ac3,H0]; omega),Ar (by simp only [Abe,H0]; omega),Ar (by omega)];simp only [Ac3,Abe,Uc]; rfl
 ·try dsimp only
  unfold Cj;rw [Bu (by omega),cond_false]
theorem Ap0 (G:H8 p i gs outs):A3 (fun s_:Nat×List (List Int)×List (List Int)=>Da i (dl gs) p gs outs s_.1 s_.2.1 s_.2.2) 4611686018427387904 (0,[],[])=some (Ach p i gs outs i.toNat,Acq p i gs outs i.toNat):=by
 have hi:=G.hi; have hn:=G.hn; have hp:=G.hp;have hdl:(dl gs).length<=40:=Nat.le_trans (Ki _) hn.2;refine B3 i.toNat (fun k=>(k,Ach p i gs outs k,Acq p i gs outs k)) (by omega) _ rfl (fun k hk=>?_) ?_
 ·have hs:=Agl (st:=List.replicate (dl gs).length 0) (ins:=uV i.toNat k) G (by simp) (Sy hp.1 _) (by rw [Uy]; omega) (Uv hp.1 _ _);have hl:=Amj G (List.replicate (dl gs).length 0) (uV i.toNat k);have hu:D2 i ((k:Nat):Int)=some (uV i.toNat k):=Agf (by omega) (by omega)
  try dsimp only
  unfold Da;rw [Bw (by omega),cond_true,Ar (by omega),hu,obs,hs,obs,Un _ (by have:=hl.1; show (nxO p gs outs _ _).1.length<=_; omega),obs,Ar (by simp only [Ach,H0]; omega),Un _ (by have:=hl.2; show (nxO p gs outs _ _).2.length<=_; omega),obs,Ar (by simp only [Acq,H0]; omega),Ar (by omega)];simp only [Ach,Acq,Uc]; rfl
 ·try dsimp only
  unfold Da;rw [Bu (by omega),cond_false]
theorem Ap6 (G:H8 p i gs outs):A3 (fun s_:Nat×List (List Int)×List (List Int)=>Ck i (dl gs) gs outs p s_.1 s_.2.1 s_.2.2) 4611686018427387904 (0,[],[])=some (Ach p i gs outs i.toNat,Acq p i gs outs i.toNat):=by
 have hi:=G.hi; have hn:=G.hn; have hp:=G.hp;have hdl:(dl gs).length<=40:=Nat.le_trans (Ki _) hn.2;refine B3 i.toNat (fun k=>(k,Ach p i gs outs k,Acq p i gs outs k)) (by omega) _ rfl (fun k hk=>?_) ?_
 ·have hs:=Wi (st:=List.replicate (dl gs).length 0) (ins:=uV i.toNat k) G (by simp) (Sy hp.1 _) (by rw [Uy]; omega) (Uv hp.1 _ _);have hu:Fp i ((k:Nat):Int)=some (uV i.toNat k):=Aml (by omega) (by omega)
  try dsimp only
  unfold Ck;rw [Bw (by omega),cond_true,Qy (by omega),obs,hu,obs,Int.toNat_natCast,hs,obs,Ar (by simp only [Ach,H0]; omega),Ar (by simp only [Acq,H0]; omega),Ar (by omega)];simp only [Ach,Acq,Uc]; rfl
 ·try dsimp only
  unfold Ck;rw [Bu (by omega),cond_false]
end
end
section
def inV (p:Int) (x:List Int):Prop:=∀ a,a∈x->0<=a∧a<p
def Tj (p:Int) (w:Nat) (x:List Int):Prop:=x.length=w∧inV p x
def Mh (p:Int) (w:Nat) (m:List (List Int)):Prop:=∀ x,x∈m->Tj p w x
theorem App {p x:Int} (hp:2<=p):0<=x % p∧x % p<p:=⟨Int.emod_nonneg x (by omega),Int.emod_lt_of_pos x (by omega)⟩
theorem Am3 {α β γ:Type} {f:α->β->γ}:∀ {x:List α} {v:List β} {c:γ},c∈List.zipWith f x v->∃ a b,c=f a b
 | [],_,_,h=>by simp at h
 | _ :: _,[],_,h=>by simp at h
 | a :: x,b :: v,c,h=>by
  rw [List.zipWith_cons_cons,List.mem_cons] at h;rcases h with h | h
  ·exact ⟨a,b,h⟩
  ·exact Am3 h
theorem Xp {α:Type} {m:List α} {i:Nat} {d x:α} (h:m[i]? =some x):m.getD i d=x:=by rw [gDg,h]; rfl
theorem Amz {m:List (List Int)} {i:Nat} (h:i<m.length):m.getD i []∈m:=by
 rw [gDg,gEg h]; exact List.getElem_mem h
end
section
def Wk (b:Nat) (xss:List (List Int)):Prop:=∀ x∈xss,x.length<=b
def Amb (p n:Int) (b:List (List Int)):Bool:=b.all fun x=>((x.length:Nat):Int)==n&&x.all fun a=>inR a 0 (p - 1)
theorem Xo {a lo hi:Int}:inR a lo hi=true↔lo<=a∧a<=hi:=by simp [inR]
theorem Al2 (x y:List Int) (hx:x.length<=1048576):G9 x y=some (x==y):=by
 unfold G9;by_cases h:x.length=y.length
 ·rw [show (((x.length:Nat):Int) !=((y.length:Nat):Int))=false by rw [h]; exact bne_self_eq_false _,cond_false]
  have key:A3 (fun s_:Nat=>Fl x y s_) 4611686018427387904 0=some (if x==y then .next () else .out false):=by
   refine Hs x.length (fun i s=>s=i∧x.take i=y.take i) (by omega) _ ⟨rfl,by simp⟩ ?_ ?_
   ·rintro i s hi ⟨hsi,ht⟩;subst hsi;unfold Fl;rw [Bw (by omega),cond_true,gEg hi,obs,gEg (show s<y.length by omega),obs];by_cases he:x[s]=y[s]'(by omega)
    ·refine .inl ⟨s+1,?_,rfl,?_⟩
     ·rw [show (x[s] !=y[s]'(by omega))=false by rw [he]; exact bne_self_eq_false _,cond_false,Ar (by omega)]
     ·rw [List.take_add_one,List.take_add_one,ht,gEg hi,gEg (show s<y.length by omega),he]
    ·refine .inr ?_;rw [bne_iff_ne.2 he,cond_true,show (x==y)=false from by rw [beq_eq_false_iff_ne]; intro e; subst e; exact he rfl]; rfl
   ·rintro s ⟨hs,ht⟩;subst hs;rw [List.take_length,h,List.take_length] at ht;subst ht;unfold Fl;rw [Bu (by omega),cond_false,beq_self_eq_true]; rfl
  rw [key];cases x==y <;> rfl
 ·rw [show (((x.length:Nat):Int) !=((y.length:Nat):Int))=true by rw [bne_iff_ne]; omega,cond_true,show (x==y)=false from by rw [beq_eq_false_iff_ne]; intro e; subst e; exact h rfl]
theorem Amm (x y:List (List Int)) (hx:x.length<=1048576) (hr:Wk 1048576 x):Hd x y=some (x==y):=by
 unfold Hd;by_cases h:x.length=y.length
 ·rw [show (((x.length:Nat):Int) !=((y.length:Nat):Int))=false by rw [h]; exact bne_self_eq_false _,cond_false]
  have key:A3 (fun s_:Nat=>E8 x y s_) 4611686018427387904 0=some (if x==y then .next () else .out false):=by
   refine Hs x.length (fun i s=>s=i∧x.take i=y.take i) (by omega) _ ⟨rfl,by simp⟩ ?_ ?_
   ·rintro i s hi ⟨hsi,ht⟩;subst hsi;unfold E8;rw [Bw (by omega),cond_true,gEg hi,obs,gEg (show s<y.length by omega),obs,Al2 _ _ (hr _ (List.getElem_mem hi)),obs];by_cases he:x[s]=y[s]'(by omega)
    ·refine .inl ⟨s+1,?_,rfl,?_⟩
     ·rw [show (x[s]==y[s]'(by omega))=true by rw [he]; exact beq_self_eq_true _,Bool.not_true,cond_false,Ar (by omega)]
     ·rw [List.take_add_one,List.take_add_one,ht,gEg hi,gEg (show s<y.length by omega),he]
    ·refine .inr ?_;rw [beq_eq_false_iff_ne.2 he,Bool.not_false,cond_true,show (x==y)=false from by rw [beq_eq_false_iff_ne]; intro e; subst e; exact he rfl]; rfl
   ·rintro s ⟨hs,ht⟩;subst hs;rw [List.take_length,h,List.take_length] at ht;subst ht;unfold E8;rw [Bu (by omega),cond_false,beq_self_eq_true]; rfl
  rw [key];cases x==y <;> rfl
 ·rw [show (((x.length:Nat):Int) !=((y.length:Nat):Int))=true by rw [bne_iff_ne]; omega,cond_true,show (x==y)=false from by rw [beq_eq_false_iff_ne]; intro e; subst e; exact h rfl]
theorem Ai2 {ρ:Type} {body:Nat×List Int->Option (Ctl (Nat×List Int) ρ)} {x y:List Int} {o:ρ} (hl:y.length=x.length) (hb:x.length<4611686018427387904)
  (hs:∀ j (h:j<x.length) (z:List Int),z[j]? =some x[j]->body (j,z)=some (.next (j+1,z.set j (y[j]'(by omega))))) (he:body (x.length,y)=some (.out o)) :
  A3 body 4611686018427387904 (0,x)=some o:=by
 refine B3 x.length (fun j=>(j,y.take j++x.drop j)) hb _ rfl (fun j hj=>?_) ?_
 ·have h1:(y.take j).length=j:=by rw [List.length_take]; omega
  rw [hs j hj _ (Akd hj h1),Aku hj h1,List.take_add_one,gEg (by omega)]; rfl
 ·rw [List.drop_length,List.append_nil,← hl,List.take_length,hl]; exact he
theorem Adn {p:Int} {w j:Nat} {x:List Int} (hx:Tj p w x) (hj:j<x.length):0<=x[j]∧x[j]<p:=hx.2 _ (List.getElem_mem hj)
section
variable {p:Int} {n:Nat} {m:List (List Int)}
def spV (p:Int) (n:Nat) (m:List (List Int)) (c:List Int):Nat->List Int
 | 0=>List.replicate n 0
 | i+1=>List.zipWith (fun a x=>(a+c.getD i 0*x) % p) (spV p n m c i) (m.getD i [])
theorem Ut {c:List Int} (hp:2<=p) (hm:Mh p n m):∀ i,i<=m.length->Tj p n (spV p n m c i)
 | 0,_=>⟨by simp [spV],fun a ha=>by obtain rfl:=(List.mem_replicate.1 ha).2; omega⟩
 | i+1,hi=>by
  have h1:=Ut (c:=c) hp hm i (by omega);have h2:=hm _ (Amz (show i<m.length by omega));refine ⟨by unfold spV; rw [List.length_zipWith,h1.1,h2.1]; omega,fun a ha=>?_⟩;obtain ⟨b,d,rfl⟩:=Am3 ha;exact App hp
theorem Anb {c:List Int} (hp:2<=p∧p<=97) (hm:Mh p n m) (hc:Tj p m.length c) (hn:n<=1000) (hl:m.length<=1000):I0 p (n:Int) m c=some (spV p n m c m.length):=by
 unfold I0;rw [Ar (by omega),Int.toNat_natCast]
 have key:A3 (fun s_:Nat×List Int=>F5 m c p s_.1 s_.2) 4611686018427387904 (0,List.replicate n 0)=some (spV p n m c m.length):=by
  refine B3 m.length (fun i=>(i,spV p n m c i)) (by omega) _ rfl (fun i hi=>?_) ?_
  ·have h1:=Ut (c:=c) hp.1 hm i (by omega);have h2:=hm _ (List.getElem_mem hi);have hl1:=h1.1;have hl2:=h2.1;have hcc:=hc.1;have hci:=Adn hc (j:=i) (by omega)
   have hin:A3 (fun s_:Nat×List Int=>F6 m[i] c i p s_.1 s_.2) 4611686018427387904 (0,spV p n m c i)=some (spV p n m c (i+1)):=by
    have hv:=Ut (c:=c) hp.1 hm (i+1) (by omega);have hvl:=hv.1;refine Ai2 (y:=spV p n m c (i+1)) (by omega) (by omega) (fun j hj z hz=>?_) ?_
    ·have a1:=Adn h1 hj;have a2:=Adn h2 (j:=j) (by omega);have a3:=Ad7 hp hci a2
     try dsimp only
     unfold F6;rw [Bw (by omega),cond_true,gEg (show j<m[i].length by omega),obs,hz,obs,gEg (show i<c.length by omega),obs,Ar (by omega),Ar (by omega),Eh (n:=c[i]'(by omega)*m[i][j]'(by omega)) (by omega) (by omega),Eh (by omega) (by omega),Int.tmod_eq_emod_of_nonneg (by omega)];congr 4;simp only [spV,List.getElem_zipWith,Xp (gEg (show i<c.length by omega)),Xp (m:=m) (gEg hi)]
    ·try dsimp only
     unfold F6;rw [Bu (by omega),cond_false]
   try dsimp only
   unfold F5;rw [Bw (by omega),cond_true,gEg hi,obs,hin,obs,Ar (by omega)]
  ·try dsimp only
   unfold F5;rw [Bu (by omega),cond_false]
 rw [key,obs]
theorem Ao9 {w:Nat} {x v:List Int} {f:Int} (hp:2<=p∧p<=97) (hx:Tj p w x) (hv:Tj p w v) (hw:w<=100000) (hf:0<=f∧f<p) :
  F2 p x f v=some (List.zipWith (fun a b=>(a+f*b) % p) x v):=by
 have hl:=hx.1;have hl':=hv.1;unfold F2;refine Ai2 (y:=List.zipWith (fun a b=>(a+f*b) % p) x v) (by simp; omega) (by omega) (fun j hj z hz=>?_) ?_
 ·have h1:=Adn hx hj;have h2:=Adn hv (j:=j) (by omega);have h3:=Ad7 hp hf h2
  try dsimp only
  unfold Fr;rw [Bw (by omega),cond_true,gEg (show j<v.length by omega),obs,hz,obs,Eh (n:=f*v[j]) (by omega) (by omega),Eh (by omega) (by omega),Amr hp,obs,Ar (by omega)];simp
 ·try dsimp only
  unfold Fr;rw [Bu (by omega),cond_false]
theorem Aj3 {c:List Int} (hp:2<=p∧p<=97) (hm:Mh p n m) (hc:Tj p m.length c) (hn:n<=1000) (hl:m.length<=1000):Gk p c m (n:Int)=some (spV p n m c m.length):=by
 unfold Gk;rw [Qy (by omega),obs,Int.toNat_natCast]
 have key:A3 (fun s_:Nat×List Int=>Er m c p s_.1 s_.2) 4611686018427387904 (0,List.replicate n 0)=some (spV p n m c m.length):=by
  refine B3 m.length (fun i=>(i,spV p n m c i)) (by omega) _ rfl (fun i hi=>?_) ?_
  ·have h1:=Ut (c:=c) hp.1 hm i (by omega);have h1':=(Ut (c:=c) hp.1 hm (i+1) (by omega)).1;have h2:=hm _ (List.getElem_mem hi);have hcl:=hc.1;have hci:=Adn hc (j:=i) (by omega)
   have e:List.zipWith (fun a b=>(a+c[i]*b) % p) (spV p n m c i) m[i]=spV p n m c (i+1):=by
    simp only [spV,Xp (gEg (show i<c.length by omega)),Xp (m:=m) (gEg hi)]
   have h1l:=h1.1
   try dsimp only
   unfold Er;rw [Bw (by omega),cond_true,gEg hi,obs,gEg (show i<c.length by omega),obs,Ao9 hp h1 h2 (by omega) hci,obs,e,Ar (by omega),Ar (by omega)]
  ·try dsimp only
   unfold Er;rw [Bu (by omega),cond_false]
 rw [key,obs]
def Ac5 (p:Int) (n:Nat) (x m:List (List Int)):List (List Int):=x.map fun v=>spV p n m v m.length
theorem Ai6 {x:List (List Int)} (hp:2<=p) (hm:Mh p n m):Mh p n (Ac5 p n x m):=fun y hy=>by
 obtain ⟨v,_,rfl⟩:=List.mem_map.1 hy;exact Ut hp hm _ (Nat.le_refl _)
theorem Ajg {x:List (List Int)}:(Ac5 p n x m).length=x.length:=by simp [Ac5]
theorem Ad3 {x:List (List Int)} (hp:2<=p∧p<=97) (hm:Mh p n m) (hx:Mh p m.length x) (hn:n<=1000) (hl:m.length<=1000) (hxl:x.length<=1000):E7 p (n:Int) x m=some (Ac5 p n x m):=by
 unfold E7
 have key:A3 (fun s_:Nat×List (List Int)=>Ey x p n m s_.1 s_.2) 4611686018427387904 (0,[])=some ([]++Ac5 p n x m):=by
  refine Jf x (fun v=>spV p n m v m.length) [] (by omega) _ (fun j v h=>?_) ?_
  ·have:=Bn h
   try dsimp only
   unfold Ey;rw [Bw (by omega),cond_true,h,obs,Anb hp hm (hx _ (List.mem_of_getElem? h)) hn hl,obs,Ar (by simp; omega),Ar (by omega)]
  ·try dsimp only
   unfold Ey;rw [Bu (by omega),cond_false]; rfl
 rw [key]; rfl
theorem Adl {x:List (List Int)} (hp:2<=p∧p<=97) (hm:Mh p n m) (hx:Mh p m.length x) (hn:n<=1000) (hl:m.length<=1000) (hxl:x.length<=1000):Fh p x m (n:Int)=some (Ac5 p n x m):=by
 unfold Fh
 have key:A3 (fun s_:Nat×List (List Int)=>Et x p m n s_.1 s_.2) 4611686018427387904 (0,[])=some ([]++Ac5 p n x m):=by
  refine Jf x (fun v=>spV p n m v m.length) [] (by omega) _ (fun j v h=>?_) ?_
  ·have:=Bn h
   try dsimp only
   unfold Et;rw [Bw (by omega),cond_true,h,obs,Aj3 hp hm (hx _ (List.mem_of_getElem? h)) hn hl,obs,Ar (by simp; omega),Ar (by omega)]
  ·try dsimp only
   unfold Et;rw [Bu (by omega),cond_false]; rfl
 rw [key]; rfl
theorem Agv (hm:Mh p n m) (hn:n<=1000) (hl:m.length<=1000):F8 m=some m:=by
 unfold F8
 have key:A3 (fun s_:Nat×List (List Int)=>Fm m s_.1 s_.2) 4611686018427387904 (0,[])=some ([]++m.map id):=by
  refine Jf m id [] (by omega) _ (fun j v h=>?_) ?_
  ·have:=Bn h;have hv:=(hm _ (List.mem_of_getElem? h)).1
   try dsimp only
   unfold Fm;rw [Bw (by omega),cond_true,h,obs,Un _ (by omega),obs,Ar (by simp; omega),Ar (by omega)]; rfl
  ·try dsimp only
   unfold Fm;rw [Bu (by omega),cond_false]
 rw [key,List.map_id]; rfl
theorem Aha (hm:Mh p n m) (hn:n<=1000) (hl:m.length<=1000):F9 m=some m:=by
 unfold F9;rw [Ar (by omega)]
 have key:A3 (fun s_:Nat×List (List Int)=>E5 m s_.1 s_.2) 4611686018427387904 (0,List.replicate 0 [])=some ([]++m.map id):=by
  refine Jf m id [] (by omega) _ (fun j v h=>?_) ?_
  ·have:=Bn h;have hv:=(hm _ (List.mem_of_getElem? h)).1
   try dsimp only
   unfold E5;rw [Bw (by omega),cond_true,h,obs,Anf _ (by omega),obs,Ar (by simp; omega),Ar (by omega)]; rfl
  ·try dsimp only
   unfold E5;rw [Bu (by omega),cond_false]
 rw [key,List.map_id]; rfl
end
def mkX (p:Int) (st:Nat) (A B:List (List Int)):Nat->List (List Int)
 | 0=>B
 | k+1=>Ac5 p st (mkX p st A B k) A
def mkE (p:Int) (st ou:Nat) (A B C D:List (List Int)):Nat->Int×List (List Int)
 | 0=>((ou:Nat),D)
 | k+1=>((ou:Nat),Ac5 p ou (mkX p st A B k) C)
def mkV (p:Int) (st ou:Nat) (A B C D:List (List Int)) (n:Nat):List (Int×List (List Int)):=(List.range n).map (mkE p st ou A B C D)
structure Ql (p:Int) (st ins ou:Nat) (A B C D:List (List Int)):Prop where
 hp:isF p=true
 hs:st<=24
 hi:ins<=8
 ho:ou<=8
 lA:A.length=st
 lB:B.length=ins
 lC:C.length=st
 lD:D.length=ins
 mA:Mh p st A
 mB:Mh p st B
 mC:Mh p ou C
 mD:Mh p ou D
section
variable {p:Int} {st ins ou:Nat} {A B C D:List (List Int)}
theorem Xx (h:Ql p st ins ou A B C D):∀ k,Mh p st (mkX p st A B k)∧(mkX p st A B k).length=ins
 | 0=>⟨h.mB,h.lB⟩
 | k+1=>⟨Ai6 (Qh h.hp).1 h.mA,by rw [mkX,Ajg]; exact (Xx h k).2⟩
theorem Aoc (h:Ql p st ins ou A B C D):∀ k,Mh p ou (mkE p st ou A B C D k).2∧(mkE p st ou A B C D k).2.length=ins
 | 0=>⟨h.mD,h.lD⟩
 | k+1=>⟨Ai6 (Qh h.hp).1 h.mC,by show (Ac5 p ou (mkX p st A B k) C).length=_; rw [Ajg]; exact (Xx h k).2⟩
theorem Anw:∀ k,(mkE p st ou A B C D k).1=((ou:Nat):Int)
 | 0=>rfl
 | _+1=>rfl
theorem T1 {n:Nat}:(mkV p st ou A B C D n).length=n:=by simp [mkV]
theorem Tp {n:Nat}:mkV p st ou A B C D (n+1)=mkV p st ou A B C D n++[mkE p st ou A B C D n]:=by simp only [mkV,List.range_succ,List.map_append]; rfl
theorem Aaz {n:Nat} (h:Ql p st ins ou A B C D) (hn:n<=1000):Ei p (st:Int) (ins:Int) (ou:Int) A B C D (n:Int)=some (mkV p st ou A B C D n):=by
 have hp:=Qh h.hp;have g1:=h.hs;have g2:=h.hi;have g3:=h.ho;have lA:=h.lA;have lB:=h.lB;have lC:=h.lC;have lD:=h.lD;unfold Ei;rw [Agv h.mB (by omega) (by omega),obs]
 have key:A3 (fun s_:List (List Int)×Nat×List (Int×List (List Int))=>D9 n D ou p C st A s_.1 s_.2.1 s_.2.2) 4611686018427387904 (B,0,[])=some (mkV p st ou A B C D n):=by
  refine B3 n (fun k=>(mkX p st A B (k - 1),k,mkV p st ou A B C D k)) (by omega) _ rfl (fun k hk=>?_) ?_
  ·have hl:=T1 (p:=p) (st:=st) (ou:=ou) (A:=A) (B:=B) (C:=C) (D:=D) (n:=k)
   try dsimp only
   unfold D9;rw [Bw (by omega),cond_true];cases k with
   | zero=>rw [show (((0:Nat):Int)==0)=true from rfl,cond_true,Agv h.mD (by omega) (by omega),obs,Ar (by omega),obs]; dsimp only; rw [Ar (by omega),Tp]; rfl
   | succ k =>
    have hX:=Xx h k;have hXl:=hX.2;rw [show (((k+1:Nat):Int)==0)=false from by rw [beq_eq_false_iff_ne]; omega,cond_false,Nat.add_sub_cancel,Ad3 hp h.mC (by rw [lC]; exact hX.1) (by omega) (by omega) (by omega),obs,Ar (by omega),Ad3 hp h.mA (by rw [lA]; exact hX.1) (by omega) (by omega) (by omega),obs,obs];dsimp only;rw [Ar (by omega),Tp (n:=k+1)]; rfl
  ·try dsimp only
   unfold D9;rw [Bu (by omega),cond_false]
 rw [key]; rfl
theorem Agq {n:Nat} (h:Ql p st ins ou A B C D) (hn:n<=1000):B5 (st:Int) (ins:Int) (ou:Int) A B C D p (n:Int)=some (mkV p st ou A B C D n):=by
 have hp:=Qh h.hp;have g1:=h.hs;have g2:=h.hi;have g3:=h.ho;have lA:=h.lA;have lB:=h.lB;have lC:=h.lC;have lD:=h.lD;unfold B5;rw [Aha h.mB (by omega) (by omega),obs]
 have key:A3 (fun s_:List (List Int)×Nat×List (Int×List (List Int))=>B8 n D ou p C A st s_.1 s_.2.1 s_.2.2) 4611686018427387904 (B,0,[])=some (mkV p st ou A B C D n):=by
  refine B3 n (fun k=>(mkX p st A B (k - 1),k,mkV p st ou A B C D k)) (by omega) _ rfl (fun k hk=>?_) ?_
  ·have hl:=T1 (p:=p) (st:=st) (ou:=ou) (A:=A) (B:=B) (C:=C) (D:=D) (n:=k)
   try dsimp only
   unfold B8;rw [Bw (by omega),cond_true];cases k with
   | zero=>rw [show (((0:Nat):Int)==0)=true from rfl,cond_true,Aha h.mD (by omega) (by omega),obs,Ar (by omega),obs]; dsimp only; rw [Ar (by omega),Tp]; rfl
   | succ k =>
    have hX:=Xx h k;have hXl:=hX.2;rw [show (((k+1:Nat):Int)==0)=false from by rw [beq_eq_false_iff_ne]; omega,cond_false,Nat.add_sub_cancel,Adl hp h.mC (by rw [lC]; exact hX.1) (by omega) (by omega) (by omega),obs,Ar (by omega),Adl hp h.mA (by rw [lA]; exact hX.1) (by omega) (by omega) (by omega),obs,obs];dsimp only;rw [Ar (by omega),Tp (n:=k+1)]; rfl
  ·try dsimp only
   unfold B8;rw [Bu (by omega),cond_false]
 rw [key]; rfl
end
end
section
theorem Am6 (p n:Int) (b:List (List Int)) (hp:2<=p∧p<=97) (hb:b.length<=1048576) (hr:Wk 1048576 b):Hk p n b=some (Amb p n b):=by
 unfold Hk;rw [Qw b (fun x=>((x.length:Nat):Int)==n&&x.all fun a=>inR a 0 (p - 1)) (.next ()) (.out false) (by omega) (fun i x h=>?_) ?_,Xk]; rfl
 ·unfold G2;rw [Bu (by omega),cond_false]
 ·have:=Bn h;have hx:=hr x (List.mem_of_getElem? h);unfold G2;rw [Bw (by omega),cond_true,h,obs];cases hc:((x.length:Nat):Int)==n
  ·rw [show (((x.length:Nat):Int) !=n)=true by simp only [bne,hc,Bool.not_false],cond_true,obs,cond_true,Bool.false_and]; rfl
  ·rw [show (((x.length:Nat):Int) !=n)=false by simp only [bne,hc,Bool.not_true],cond_false,Apq p x hp (by omega),obs,obs,Bool.true_and,Ar (by omega)];cases x.all fun a=>inR a 0 (p - 1) <;> rfl
section
variable {p i:Int} {gs:List Gt} {outs:List Int}
theorem All {st ins:List Int} (G:H8 p i gs outs) (hs:st.length=(dl gs).length) (hsP:inP p st) (hi:((ins.length:Nat):Int)=i) (hiP:inP p ins):inP p (U4 p gs st ins) :=
 Qt G.hp.1 _ _ (Ah9 G hs hsP hi hiP)
theorem Amx {st ins:List Int} (G:H8 p i gs outs) (hs:st.length=(dl gs).length) (hsP:inP p st) (hi:((ins.length:Nat):Int)=i) (hiP:inP p ins):Tj p (dl gs).length (nxO p gs outs st ins).1∧Tj p outs.length (nxO p gs outs st ins).2:=by
 have hv:=All G hs hsP hi hiP;have hl:=Px (p:=p) (gs:=gs) (st:=st) (ins:=ins);refine ⟨⟨by simp [nxO,V8],fun a ha=>?_⟩,⟨by simp [nxO],fun a ha=>?_⟩⟩
 ·obtain ⟨d,hd,rfl⟩:=List.mem_map.1 ha;obtain ⟨hr,h5⟩:=Aa4 hd;have hb:=U8 (List.all_eq_true.1 G.ga _ (Xm hr));have hA:=hb.1 (gtG gs d).2.1 (by simp [opG,h5]);exact Mg hv (by omega)
 ·obtain ⟨d,hd,rfl⟩:=List.mem_map.1 ha;have:=G.io d hd;exact Mg hv (by omega)
theorem Aho (G:H8 p i gs outs) (k:Nat):Tj p (dl gs).length (Anj p i gs outs k).1∧Tj p outs.length (Anj p i gs outs k).2:=by
 have hi:=G.hi;exact Amx G (Uy _ _) (Uv G.hp.1 _ _) (by simp; omega) (Sy G.hp.1 _)
theorem Agb (G:H8 p i gs outs) (k:Nat):Tj p (dl gs).length (Ans p i gs outs k).1∧Tj p outs.length (Ans p i gs outs k).2:=by
 have hi:=G.hi;exact Amx G (by simp) (Sy G.hp.1 _) (by rw [Uy]; omega) (Uv G.hp.1 _ _)
theorem Xs {w n:Nat} {f:Nat->List Int} (h:∀ k,Tj p w (f k)):Mh p w ((List.range n).map f):=fun x hx=>by
 obtain ⟨k,_,rfl⟩:=List.mem_map.1 hx; exact h k
abbrev Zp:=Int×Int×Int×List (List Int)×List (List Int)×List (List Int)×List (List Int)
abbrev ZpB:=Int×Int×Int×List (List Int)×List (List Int)×List (List Int)×List (List Int)×Bool
def zB (z:Zp) (b:Bool):ZpB:=(z.1,z.2.1,z.2.2.1,z.2.2.2.1,z.2.2.2.2.1,z.2.2.2.2.2.1,z.2.2.2.2.2.2,b)
def z0:ZpB:=(0,0,0,[],[],[],[],false)
def Ala (p i:Int) (gs:List Gt) (outs:List Int):Zp:=(((dl gs).length:Nat),i,((outs.length:Nat):Int),Ac3 p i gs outs (dl gs).length,Ach p i gs outs i.toNat,Abe p i gs outs (dl gs).length,Acq p i gs outs i.toNat)
theorem Kp (G:H8 p i gs outs) (h:(dl gs).length<=24):Ql p (dl gs).length i.toNat outs.length (Ac3 p i gs outs (dl gs).length) (Ach p i gs outs i.toNat) (Abe p i gs outs (dl gs).length) (Acq p i gs outs i.toNat):=by
 have hi:=G.hi;exact ⟨G.fp,h,by omega,G.ho,H0 _ _,H0 _ _,H0 _ _,H0 _ _,Xs fun k=>(Aho G k).1,Xs fun k=>(Agb G k).1,Xs fun k=>(Aho G k).2,Xs fun k=>(Agb G k).2⟩
theorem Yc (h1:gs.length<=1073741824) (h2:outs.length<=1073741824):Ci p i gs outs=some (if Rx p i gs outs=true∧(dl gs).length<=24 then zB (Ala p i gs outs) true else z0):=by
 unfold Ci;rw [Amn (by omega) (by omega),obs];cases hc:Rx p i gs outs
 ·rfl
 have G:=Vm.1 hc;have hn:=G.hn;rw [Bool.not_true,cond_false,Nt hn.2,obs,obs];by_cases h:(dl gs).length<=24
 ·rw [Bu (by omega),cond_false,if_pos ⟨rfl,h⟩];unfold Fs;rw [Nt hn.2,obs,Ap3 G,obs];dsimp only;rw [Ap0 G]; rfl
 ·rw [Bw (by omega),cond_true,if_neg (by simp [h])]; rfl
theorem Y7 (G:H8 p i gs outs):Ch p i gs outs=some (if (dl gs).length<=24 then zB (Ala p i gs outs) true else z0):=by
 have hn:=G.hn;unfold Ch;rw [Ahd hn.2,obs];by_cases h:(dl gs).length<=24
 ·rw [Bu (by omega),cond_false,if_pos h,Ap8 G,obs];dsimp only;rw [Ap6 G]; rfl
 ·rw [Bw (by omega),cond_true,if_neg h]; rfl
theorem Al1 {n:Nat} {m:List (List Int)} (h:Mh p n m):Amb p n m=true:=by
 unfold Amb;refine List.all_eq_true.2 fun x hx=>?_
 have:=h x hx;simp only [Bool.and_eq_true,beq_iff_eq,List.all_eq_true,Xo];exact ⟨by rw [this.1],fun a ha=>by have:=this.2 a ha; omega⟩
theorem Adq {n:Nat} {m:List (List Int)} (hn:n<=1048576) (h:Mh p n m):Wk 1048576 m:=fun x hx=>by rw [(h x hx).1]; exact hn
theorem Qu {r n:Nat} {m:List (List Int)} (hp:2<=p∧p<=97) (hr:m.length=r) (hr2:r<=1000) (hn:n<=1000) (h:Mh p n m):Di p (r:Int) (n:Int) m=some true:=by
 unfold Di;rw [hr,beq_self_eq_true,cond_true,Am6 p n m hp (by omega) (Adq (by omega) h),Al1 h]; rfl
theorem Tx {st ins ou:Nat} {A B C D:List (List Int)} (h:Ql p st ins ou A B C D):Gc p (st:Int) (ins:Int) (ou:Int) A B C D=some true:=by
 have hp:=Qh h.hp;have h1:=h.hs;have h2:=h.hi;have h3:=h.ho;unfold Gc
 rw [Ahk,h.hp,obs,cond_true,Qq,Xo.2 (by omega),obs,cond_true,Qq,Xo.2 (by omega),obs,cond_true,Qq,Xo.2 (by omega),obs,cond_true,
  Qu hp h.lA (by omega) (by omega) h.mA,obs,cond_true,Qu hp h.lB (by omega) (by omega) h.mB,obs,cond_true,Qu hp h.lC (by omega) (by omega) h.mC,obs,cond_true,Qu hp h.lD (by omega) (by omega) h.mD]; rfl
abbrev Zz:=Int×Int×Int×List (List Int)×List (List Int)×List (List Int)×List (List Int)×Int×Int×Int×List (List Int)×List (List Int)×List (List Int)×List (List Int)×Bool
theorem Ap5 {j:Int} {hs:List Gt} {outz:List Int} (h1:gs.length<=1073741824) (h2:outs.length<=1073741824) (h3:hs.length<=1073741824) (h4:outz.length<=1073741824) :
  (∃ z z':Zz,Ek p i gs outs j hs outz=some z∧Em p i gs outs j hs outz=some z'∧z.2.2.2.2.2.2.2.2.2.2.2.2.2.2=false∧z'.2.2.2.2.2.2.2.2.2.2.2.2.2.2=false) ∨
  ∃ st su ins ou:Nat,∃ A B C D A' B' C' D':List (List Int),Ql p st ins ou A B C D∧Ql p su ins ou A' B' C' D' ∧
   Ek p i gs outs j hs outz=some ((st:Int),(ins:Int),(ou:Int),A,B,C,D,(su:Int),(ins:Int),(ou:Int),A',B',C',D',true) ∧
   Em p i gs outs j hs outz=some ((st:Int),(ins:Int),(ou:Int),A,B,C,D,(su:Int),(ins:Int),(ou:Int),A',B',C',D',true):=by
 unfold Ek Em Fv;rw [Yc h1 h2,obs,Yc h3 h4,obs,Wh (by omega) (by omega),obs];cases hc:Rx p i gs outs
 ·exact .inl ⟨_,_,rfl,rfl,rfl,rfl⟩
 have G:=Vm.1 hc;rw [cond_true,Wh (by omega) (by omega),obs];cases hd:Rx p j hs outz
 ·by_cases h:(dl gs).length<=24
  ·rw [if_pos ⟨rfl,h⟩]; exact .inl ⟨_,_,rfl,rfl,rfl,rfl⟩
  ·rw [if_neg (by simp [h])]; exact .inl ⟨_,_,rfl,rfl,rfl,rfl⟩
 have H:=Vm.1 hd;have hi:=G.hi;have hj:=H.hi;rw [cond_true];by_cases e:i=j∧outs.length=outz.length
 ·obtain ⟨rfl,e2⟩:=e;rw [beq_self_eq_true,cond_true,e2,beq_self_eq_true,obs,obs,Bool.not_true,cond_false,Y7 G,obs,Y7 H,obs];by_cases h:(dl gs).length<=24
  ·by_cases h':(dl hs).length<=24
   ·refine .inr ⟨(dl gs).length,(dl hs).length,i.toNat,outs.length,_,_,_,_,_,_,_,_,Kp G h,e2▸Kp H h',?_,?_⟩
    ·rw [if_pos ⟨rfl,h⟩,if_pos ⟨rfl,h'⟩];dsimp only [zB,Ala];have g1:=Tx (Kp G h);have g2:=Tx (Kp H h');rw [show ((i.toNat:Nat):Int)=i by omega] at g1 g2 ⊢;unfold Id;rw [g1,obs,cond_true,g2,obs,cond_true,beq_self_eq_true,cond_true,e2,beq_self_eq_true]; rfl
    ·rw [if_pos h,if_pos h'];dsimp only [zB,Ala];rw [show ((i.toNat:Nat):Int)=i by omega,e2]; rfl
   ·rw [if_pos ⟨rfl,h⟩,if_neg (by simp [h']),if_pos h,if_neg h']; exact .inl ⟨_,_,rfl,rfl,rfl,rfl⟩
  ·rw [if_neg (by simp [h]),if_neg h];by_cases h':(dl hs).length<=24
   ·rw [if_pos ⟨rfl,h'⟩,if_pos h']; exact .inl ⟨_,_,rfl,rfl,rfl,rfl⟩
   ·rw [if_neg (by simp [h']),if_neg h']; exact .inl ⟨_,_,rfl,rfl,rfl,rfl⟩
 ·have e':(i==j&&((outs.length:Nat):Int)==((outz.length:Nat):Int))=false:=by
   rw [Bool.eq_false_iff]; intro hh;simp only [Bool.and_eq_true,beq_iff_eq] at hh;exact e ⟨hh.1,by omega⟩
  have ec:cond (i==j) (some (((outs.length:Nat):Int)==((outz.length:Nat):Int))) (some false)=some false:=by
   cases h1:i==j
   ·rfl
   ·rw [h1,Bool.true_and] at e'; rw [e']; rfl
  rw [ec,obs,obs,Bool.not_false,cond_true];by_cases h:(dl gs).length<=24
  ·by_cases h':(dl hs).length<=24
   ·rw [if_pos ⟨rfl,h⟩,if_pos ⟨rfl,h'⟩];dsimp only [zB,Ala];have g1:=Tx (Kp G h);have g2:=Tx (Kp H h');rw [show ((i.toNat:Nat):Int)=i by omega] at g1;rw [show ((j.toNat:Nat):Int)=j by omega] at g2;unfold Id;rw [g1,obs,cond_true,g2,obs,cond_true,ec]; exact .inl ⟨_,_,rfl,rfl,rfl,rfl⟩
   ·rw [if_pos ⟨rfl,h⟩,if_neg (by simp [h'])]; exact .inl ⟨_,_,rfl,rfl,rfl,rfl⟩
  ·rw [if_neg (by simp [h])]; exact .inl ⟨_,_,rfl,rfl,rfl,rfl⟩
end
end
section
def szV (v:Int) (n:Nat):Int:=if v<n then -1 else v - n
theorem Am4 (xs:List Int) {v:Int} (hv:0<=v∧v<=1048576) (hx:xs.length<=9223372036854775807):Hv xs v=some (szV v xs.length):=by
 unfold Hv szV;rw [Eh (by omega) (by omega)];by_cases h:v<xs.length
 ·rw [Bw (by omega),if_pos h]; rfl
 ·rw [Bu (by omega),if_neg h]; rfl
theorem Amg (xs:List Int) (hx:xs.length<=1073741824):Hu xs=some xs:=by
 unfold Hu;rw [Ar (by omega)]
 have h:A3 (fun s_:Nat×List Int=>E4 xs s_.1 s_.2) 4611686018427387904 (0,List.replicate xs.length (0:Int))=some xs:=by
  refine B3 xs.length (fun i=>(i,xs.take i++List.replicate (xs.length - i) 0)) (by omega) xs (by simp) (fun i hi=>?_) ?_
  ·have hx:=gEg hi
   try dsimp only
   unfold E4;rw [Bw (by omega),cond_true,hx,obs,Qx hi,obs,Ar (by omega),Q1 hx]
  ·try dsimp only
   unfold E4;rw [Bu (by omega),cond_false];simp
 rw [h]; rfl
theorem Ak3 (xs:List Int) (hx:xs.length<=1073741824):Hn xs xs=some true:=by
 unfold Hn
 have h:A3 (fun s_:Nat=>Fi xs xs s_) 4611686018427387904 0=some (.next ()):=by
  refine B3 xs.length (fun i=>i) (by omega) _ rfl (fun i hi=>?_) ?_
  ·have hx:=gEg hi
   try dsimp only
   unfold Fi;rw [Bw (by omega),cond_true,hx,obs,obs,bne_self_eq_false,cond_false,Ar (by omega)]
  ·try dsimp only
   unfold Fi;rw [Bu (by omega),cond_false]
 rw [h,bne_self_eq_false,cond_false]; rfl
theorem Aks (xs:List (Int×Int×Int×Int)) {v:Int} (hv:0<=v∧v<=1048576) (hx:xs.length<=9223372036854775807):Gw xs v=some (szV v xs.length):=by
 unfold Gw szV;rw [Eh (by omega) (by omega)];by_cases h:v<xs.length
 ·rw [Bw (by omega),if_pos h]; rfl
 ·rw [Bu (by omega),if_neg h]; rfl
theorem Aj1 (xs:List (Int×Int×Int×Int)) (hx:xs.length<=1073741824):G0 xs=some xs:=by
 unfold G0;rw [Ar (by omega)]
 have h:A3 (fun s_:Nat×List (Int×Int×Int×Int)=>Es xs s_.1 s_.2) 4611686018427387904 (0,List.replicate xs.length ((0,0,0,0):Int×Int×Int×Int))=some xs:=by
  refine B3 xs.length (fun i=>(i,xs.take i++List.replicate (xs.length - i) (0,0,0,0))) (by omega) xs (by simp) (fun i hi=>?_) ?_
  ·have hx:=gEg hi
   try dsimp only
   unfold Es Jk;rw [Bw (by omega),cond_true,hx,obs,obs,Qx hi,obs,Ar (by omega),Q1 hx]
  ·try dsimp only
   unfold Es;rw [Bu (by omega),cond_false];simp
 rw [h]; rfl
theorem Aj5 (xs:List (Int×Int×Int×Int)) (hx:xs.length<=1073741824):Gs xs xs=some true:=by
 unfold Gs
 have h:A3 (fun s_:Nat=>Ez xs xs s_) 4611686018427387904 0=some (.next ()):=by
  refine B3 xs.length (fun i=>i) (by omega) _ rfl (fun i hi=>?_) ?_
  ·have hx:=gEg hi
   try dsimp only
   unfold Ez Jh;rw [Bw (by omega),cond_true,hx,obs,obs];simp only [bne_self_eq_false,cond_false,obs,Bool.not_true];rw [Ar (by omega)]
  ·try dsimp only
   unfold Ez;rw [Bu (by omega),cond_false]
 rw [h,bne_self_eq_false,cond_false]; rfl
theorem V6 (n0:Int) (s1:List (Int×Int×Int×Int)) (s2:List Int) {v:Int} (hv:0<=v∧v<=1048576) (hs1:s1.length<=9223372036854775807) (hs2:s2.length<=9223372036854775807):D7 n0 s1 s2 v=some (szV v (s1.length+s2.length)):=by
 unfold D7;rw [Aks s1 (by omega) hs1,obs];by_cases h0:v<s1.length
 ·rw [show szV v s1.length= -1 from if_pos h0,show szV v (s1.length+s2.length)= -1 from if_pos (by omega)]; rfl
 rw [show szV v s1.length=v - s1.length from if_neg h0,Bu (by omega),cond_false];rw [Am4 s2 (by omega) hs2,obs];by_cases h1:v - s1.length<s2.length
 ·rw [show szV (v - s1.length) s2.length= -1 from if_pos h1,show szV v (s1.length+s2.length)= -1 from if_pos (by omega)]; rfl
 rw [show szV (v - s1.length) s2.length=v - s1.length - s2.length from if_neg h1,Bu (by omega),cond_false,show szV v (s1.length+s2.length)=v - s1.length - s2.length from by unfold szV; rw [if_neg (by omega)]; omega]
theorem We (n0:Int) (s1:List (Int×Int×Int×Int)) (s2:List Int) (hs1:s1.length<=1073741824) (hs2:s2.length<=1073741824):B4 n0 s1 s2=some (n0,s1,s2):=by
 unfold B4;rw [Aj1 s1 hs1,Amg s2 hs2]; rfl
theorem Wd (n0:Int) (s1:List (Int×Int×Int×Int)) (s2:List Int) (hs1:s1.length<=1073741824) (hs2:s2.length<=1073741824):D8 n0 s1 s2 n0 s1 s2=some true:=by
 unfold D8;simp only [Aj5 s1 hs1,Ak3 s2 hs2,bne_self_eq_false,cond_false,obs,Bool.not_true]
end
section
theorem Aow (x y:List Int) (hx:x.length<=1048576):Cv x y=some (x==y):=by
 unfold Cv;by_cases h:x.length=y.length
 ·rw [show (((x.length:Nat):Int) !=((y.length:Nat):Int))=false by rw [h]; exact bne_self_eq_false _,cond_false]
  have key:A3 (fun s_:Nat=>Cf x y s_) 4611686018427387904 0=some (if x==y then .next () else .out false):=by
   refine Hs x.length (fun i s=>s=i∧x.take i=y.take i) (by omega) _ ⟨rfl,by simp⟩ ?_ ?_
   ·rintro i s hi ⟨hsi,ht⟩;subst hsi;unfold Cf;rw [Bw (by omega),cond_true,gEg hi,obs,gEg (show s<y.length by omega),obs];by_cases he:x[s]=y[s]'(by omega)
    ·refine .inl ⟨s+1,?_,rfl,?_⟩
     ·rw [show (x[s] !=y[s]'(by omega))=false by rw [he]; exact bne_self_eq_false _,cond_false,Ar (by omega)]
     ·rw [List.take_add_one,List.take_add_one,ht,gEg hi,gEg (show s<y.length by omega),he]
    ·refine .inr ?_;rw [bne_iff_ne.2 he,cond_true,show (x==y)=false from by rw [beq_eq_false_iff_ne]; intro e; subst e; exact he rfl]; rfl
   ·rintro s ⟨hs,ht⟩;subst hs;rw [List.take_length,h,List.take_length] at ht;subst ht;unfold Cf;rw [Bu (by omega),cond_false,beq_self_eq_true]; rfl
  rw [key];cases x==y <;> rfl
 ·rw [show (((x.length:Nat):Int) !=((y.length:Nat):Int))=true by rw [bne_iff_ne]; omega,cond_true,show (x==y)=false from by rw [beq_eq_false_iff_ne]; intro e; subst e; exact h rfl]
theorem Amv (x y:List (List Int)) (hx:x.length<=1048576) (hr:Wk 1048576 x):A7 x y=some (x==y):=by
 unfold A7;by_cases h:x.length=y.length
 ·rw [show (((x.length:Nat):Int) !=((y.length:Nat):Int))=false by rw [h]; exact bne_self_eq_false _,cond_false]
  have key:A3 (fun s_:Nat=>A5 x y s_) 4611686018427387904 0=some (if x==y then .next () else .out false):=by
   refine Hs x.length (fun i s=>s=i∧x.take i=y.take i) (by omega) _ ⟨rfl,by simp⟩ ?_ ?_
   ·rintro i s hi ⟨hsi,ht⟩;subst hsi;unfold A5;rw [Bw (by omega),cond_true,gEg hi,obs,gEg (show s<y.length by omega),obs,Aow _ _ (hr _ (List.getElem_mem hi)),obs];by_cases he:x[s]=y[s]'(by omega)
    ·refine .inl ⟨s+1,?_,rfl,?_⟩
     ·rw [show (x[s]==y[s]'(by omega))=true by rw [he]; exact beq_self_eq_true _,Bool.not_true,cond_false,Ar (by omega)]
     ·rw [List.take_add_one,List.take_add_one,ht,gEg hi,gEg (show s<y.length by omega),he]
    ·refine .inr ?_;rw [beq_eq_false_iff_ne.2 he,Bool.not_false,cond_true,show (x==y)=false from by rw [beq_eq_false_iff_ne]; intro e; subst e; exact he rfl]; rfl
   ·rintro s ⟨hs,ht⟩;subst hs;rw [List.take_length,h,List.take_length] at ht;subst ht;unfold A5;rw [Bu (by omega),cond_false,beq_self_eq_true]; rfl
  rw [key];cases x==y <;> rfl
 ·rw [show (((x.length:Nat):Int) !=((y.length:Nat):Int))=true by rw [bne_iff_ne]; omega,cond_true,show (x==y)=false from by rw [beq_eq_false_iff_ne]; intro e; subst e; exact h rfl]
theorem Akt {xs ys:List (Int×List (List Int))} {o:Int} (hn:xs.length<=1000) (h:xs.length=ys.length) (hf:∀ x∈xs,x.1=o) (hg:∀ x∈ys,x.1=o) (hb:∀ x∈xs,x.2.length<=1048576∧Wk 1048576 x.2) :
  A3 (fun s_:Nat=>Fd xs ys s_) 4611686018427387904 0=some (if xs==ys then .next () else .out false):=by
 refine Hs xs.length (fun i s=>s=i∧xs.take i=ys.take i) (by omega) _ ⟨rfl,by simp⟩ ?_ ?_
 ·rintro i s hi ⟨hsi,ht⟩;subst hsi;have hB:=hb _ (List.getElem_mem hi);have e1:=hf _ (List.getElem_mem hi);have e2:=hg (ys[s]'(by omega)) (List.getElem_mem _);unfold Fd;rw [Bw (by omega),cond_true,gEg hi,obs,gEg (show s<ys.length by omega),obs,Amm _ _ hB.1 hB.2,obs];by_cases he:xs[s].2=(ys[s]'(by omega)).2
  ·have he':xs[s]=ys[s]'(by omega):=Prod.ext (e1.trans e2.symm) he;refine .inl ⟨s+1,?_,rfl,?_⟩
   ·rw [show (xs[s].2==(ys[s]'(by omega)).2)=true by rw [he]; exact beq_self_eq_true _,Bool.not_true,cond_false,Ar (by omega)]
   ·rw [List.take_add_one,List.take_add_one,ht,gEg hi,gEg (show s<ys.length by omega),he']
  ·refine .inr ?_;rw [beq_eq_false_iff_ne.2 he,Bool.not_false,cond_true,show (xs==ys)=false from by rw [beq_eq_false_iff_ne]; intro e; subst e; exact he rfl]; rfl
 ·rintro s ⟨hs,ht⟩;subst hs;rw [List.take_length,h,List.take_length] at ht;subst ht;unfold Fd;rw [Bu (by omega),cond_false,beq_self_eq_true]; rfl
theorem Am7 {o:Int} {x y:List (List Int)} (h1:x.length<=1048576) (h2:Wk 1048576 x):Dn o x o y=some (x==y):=by
 unfold Dn Hx;rw [beq_self_eq_true,cond_true,Amv _ _ h1 h2]; rfl
theorem Akw {xs ys:List (Int×List (List Int))} {o:Int} (hn:xs.length<=1000) (h:xs.length=ys.length) (hf:∀ x∈xs,x.1=o) (hg:∀ x∈ys,x.1=o) (hb:∀ x∈xs,x.2.length<=1048576∧Wk 1048576 x.2) :
  A3 (fun s_:Nat=>An xs ys s_) 4611686018427387904 0=some (if xs==ys then .next () else .out false):=by
 refine Hs xs.length (fun i s=>s=i∧xs.take i=ys.take i) (by omega) _ ⟨rfl,by simp⟩ ?_ ?_
 ·rintro i s hi ⟨hsi,ht⟩;subst hsi;have hB:=hb _ (List.getElem_mem hi);have e1:=hf _ (List.getElem_mem hi);have e2:=hg (ys[s]'(by omega)) (List.getElem_mem _);unfold An;rw [Bw (by omega),cond_true,gEg hi,obs,gEg (show s<ys.length by omega),obs,e1,e2,Am7 hB.1 hB.2,obs];by_cases he:xs[s].2=(ys[s]'(by omega)).2
  ·have he':xs[s]=ys[s]'(by omega):=Prod.ext (e1.trans e2.symm) he;refine .inl ⟨s+1,?_,rfl,?_⟩
   ·rw [show (xs[s].2==(ys[s]'(by omega)).2)=true by rw [he]; exact beq_self_eq_true _,Bool.not_true,cond_false,Ar (by omega)]
   ·rw [List.take_add_one,List.take_add_one,ht,gEg hi,gEg (show s<ys.length by omega),he']
  ·refine .inr ?_;rw [beq_eq_false_iff_ne.2 he,Bool.not_false,cond_true,show (xs==ys)=false from by rw [beq_eq_false_iff_ne]; intro e; subst e; exact he rfl]; rfl
 ·rintro s ⟨hs,ht⟩;subst hs;rw [List.take_length,h,List.take_length] at ht;subst ht;unfold An;rw [Bu (by omega),cond_false,beq_self_eq_true]; rfl
section
variable {p:Int} {st su ins ou:Nat} {A B C D A' B' C' D':List (List Int)}
theorem Xl {n:Nat}:∀ x∈mkV p st ou A B C D n,x.1=((ou:Nat):Int):=fun x hx=>by
 obtain ⟨k,_,rfl⟩:=List.mem_map.1 hx; exact Anw k
theorem Agp {n:Nat} (h:Ql p st ins ou A B C D):∀ x∈mkV p st ou A B C D n,x.2.length<=1048576∧Wk 1048576 x.2:=fun x hx=>by
 obtain ⟨k,_,rfl⟩:=List.mem_map.1 hx;have h1:=Aoc h k;have:=h.hi;have:=h.ho;exact ⟨by omega,Adq (by omega) h1.1⟩
theorem Am2 (h:Ql p st ins ou A B C D) (h':Ql p su ins ou A' B' C' D'):∃ b,Hh p st ins ou A B C D su ins ou A' B' C' D'=some b∧Ee p st ins ou A B C D su ins ou A' B' C' D'=some b:=by
 have hs:=h.hs;have hs':=h'.hs
 have hn:wI (wI ((st:Int)+(su:Int))+1)=((st+su+1:Nat):Int):=by
  rw [Eh (n:=(st:Int)+su) (by omega) (by omega),Eh (by omega) (by omega)]; omega
 have hl:(mkV p st ou A B C D (st+su+1)).length=(mkV p su ou A' B' C' D' (st+su+1)).length:=by rw [T1,T1]
 have hl2:(mkV p st ou A B C D (st+su+1)).length<=1000:=by rw [T1]; omega
 refine ⟨mkV p st ou A B C D (st+su+1)==mkV p su ou A' B' C' D' (st+su+1),?_,?_⟩
 ·unfold Hh;rw [hn,Aaz h (by omega),obs,Aaz h' (by omega),obs,Akt hl2 hl Xl Xl (Agp h)];cases mkV p st ou A B C D (st+su+1)==mkV p su ou A' B' C' D' (st+su+1) <;> rfl
 ·unfold Ee;rw [hn,Agq h (by omega),obs,Agq h' (by omega),obs];unfold Au;rw [hl,bne_self_eq_false,cond_false,Akw hl2 hl Xl Xl (Agp h)];cases mkV p st ou A B C D (st+su+1)==mkV p su ou A' B' C' D' (st+su+1) <;> rfl
end
theorem Aoy {p i j:Int} {gs hs:List Gt} {outs outz:List Int} (h1:gs.length<=1073741824) (h2:outs.length<=1073741824) (h3:hs.length<=1073741824) (h4:outz.length<=1073741824) :
  ∃ v:Bool×Bool,Dz p i gs outs j hs outz=some v∧Dy p i gs outs j hs outz=some v:=by
 unfold Dz Dy;rcases Ap5 (p:=p) (i:=i) (gs:=gs) (outs:=outs) (j:=j) (hs:=hs) (outz:=outz) h1 h2 h3 h4 with ⟨z,z',e1,e2,f1,f2⟩ | ⟨st,su,ins,ou,A,B,C,D,A',B',C',D',g1,g2,e1,e2⟩
 ·rw [e1,e2,obs,obs,f1,f2]; exact ⟨_,rfl,rfl⟩
 ·rw [e1,e2,obs,obs];dsimp only;obtain ⟨b,k1,k2⟩:=Am2 g1 g2;rw [k1,k2]; exact ⟨_,rfl,rfl⟩
theorem Amo {p i j:Int} {gs hs:List Gt} {outs outz:List Int} (h1:gs.length<=9223372036854775807) (h2:outs.length<=9223372036854775807) (h3:hs.length<=9223372036854775807) (h4:outz.length<=9223372036854775807):Cb p i gs outs j hs outz=some true:=by
 unfold Cb;rw [V6 i gs outs (by omega) h1 h2,obs];by_cases e0:(1048576:Int)<((gs.length+outs.length:Nat):Int)
 ·rw [show szV 1048576 (gs.length+outs.length)= -1 from if_pos e0]; rfl
 rw [show szV 1048576 (gs.length+outs.length)=1048576 - ((gs.length+outs.length:Nat):Int) from if_neg e0,Bu (by omega),cond_false,V6 j hs outz (by omega) h3 h4,obs];by_cases e1:(1048576 - ((gs.length+outs.length:Nat):Int))<((hs.length+outz.length:Nat):Int)
 ·rw [show szV (1048576 - ((gs.length+outs.length:Nat):Int)) (hs.length+outz.length)= -1 from if_pos e1]; rfl
 rw [show szV (1048576 - ((gs.length+outs.length:Nat):Int)) (hs.length+outz.length)=1048576 - ((gs.length+outs.length:Nat):Int) - ((hs.length+outz.length:Nat):Int) from if_neg e1,Bu (by omega),cond_false];have h1:gs.length<=1073741824:=by omega
 have h2:outs.length<=1073741824:=by omega
 have h3:hs.length<=1073741824:=by omega
 have h4:outz.length<=1073741824:=by omega
 obtain ⟨v,k1,k2⟩:=Aoy (p:=p) (i:=i) (j:=j) h1 h2 h3 h4;simp only [We i gs outs h1 h2,We j hs outz h3 h4,k1,k2,obs,Wd i gs outs h1 h2,Wd j hs outz h3 h4,bne_self_eq_false,Bool.not_true,cond_false]
end
section
open Go.RowKit Go.Deep
theorem sameCircuits_walk (p:Int) (aInputs:Int) (aGates:List (Int×Int×Int×Int)) (A_aGates:Option Addr) (c_aGates:Nat) (l_aGates:List Addr) (aOutputs:List (Int)) (A_aOutputs:Option Addr) (c_aOutputs:Nat) (l_aOutputs:List Addr) (bInputs:Int) (bGates:List (Int×Int×Int×Int)) (A_bGates:Option Addr) (c_bGates:Nat) (l_bGates:List Addr) (bOutputs:List (Int)) (A_bOutputs:Option Addr) (c_bOutputs:Nat) (l_bOutputs:List Addr) (w:World) (_i_p: -9223372036854775808<=p∧p<=9223372036854775807) (_i_aInputs: -9223372036854775808<=aInputs∧aInputs<=9223372036854775807) (s_aGates:Sl (fun _=>True) w (.pair .int (.pair .int (.pair .int .int))) A_aGates c_aGates aGates l_aGates) (_i_aGates:Ty.In (.slice (.pair .int (.pair .int (.pair .int .int)))) aGates) (s_aOutputs:Sl (fun _=>True) w .int A_aOutputs c_aOutputs aOutputs l_aOutputs) (_i_aOutputs:Ty.In (.slice .int) aOutputs) (_i_bInputs: -9223372036854775808<=bInputs∧bInputs<=9223372036854775807) (s_bGates:Sl (fun _=>True) w (.pair .int (.pair .int (.pair .int .int))) A_bGates c_bGates bGates l_bGates) (_i_bGates:Ty.In (.slice (.pair .int (.pair .int (.pair .int .int)))) bGates) (s_bOutputs:Sl (fun _=>True) w .int A_bOutputs c_bOutputs bOutputs l_bOutputs) (_i_bOutputs:Ty.In (.slice .int) bOutputs) (tab:Tab w) :
  Calls Tryd.prog 4 #[.int .i64 p,.agg #[.int .i64 aInputs,.slice A_aGates aGates.length c_aGates,.slice A_aOutputs aOutputs.length c_aOutputs],.agg #[.int .i64 bInputs,.slice A_bGates bGates.length c_bGates,.slice A_bOutputs bOutputs.length c_bOutputs]] w fun e w'=>e=.returned (.bool true)∧Below w.heap.size w w':=by
 have hl:Cb p aInputs aGates aOutputs bInputs bGates bOutputs=some true:=Amo (Afs s_aGates).2 (Afs s_aOutputs).2 (Afs s_bGates).2 (Afs s_bOutputs).2;refine (Kh hl w (fun _=>True) [.int .i64 p,.agg #[.int .i64 aInputs,.slice A_aGates aGates.length c_aGates,.slice A_aOutputs aOutputs.length c_aOutputs],.agg #[.int .i64 bInputs,.slice A_bGates bGates.length c_bGates,.slice A_bOutputs bOutputs.length c_bOutputs]] (fun w' hb=>tab.below hb) ⟨_,_,rfl,rfl,⟨_,_,rfl,⟨_,rfl,⟨_,_,rfl,rfl,⟨_,_,rfl,⟨A_aGates,c_aGates,l_aGates,rfl,s_aGates⟩,⟨_,_,rfl,⟨A_aOutputs,c_aOutputs,l_aOutputs,rfl,s_aOutputs⟩,rfl⟩⟩⟩⟩,⟨_,_,rfl,⟨_,rfl,⟨_,_,rfl,rfl,⟨_,_,rfl,⟨A_bGates,c_bGates,l_bGates,rfl,s_bGates⟩,⟨_,_,rfl,⟨A_bOutputs,c_bOutputs,l_bOutputs,rfl,s_bOutputs⟩,rfl⟩⟩⟩⟩,rfl⟩⟩⟩).mono ?_;rintro e w' ⟨u,rfl,hb,us,ls,h1,_,rfl⟩;obtain ⟨u1,us1,rfl,h2,_,rfl,rfl⟩:=h1;obtain rfl:u1=.bool true:=h2;exact ⟨rfl,hb⟩
end
end Go.Proofs.YtmflebjoidoiiaaDoor
