/- Lemmas on the program and on partial functions that stand in place of its code (part 9); no condition beyond those that each one states. -/
import Derived.Test.YtpnofkjgeokdhaaDoorZ8
import Derived.Deep.RegionHeld3
namespace Go.Proofs.YtpnofkjgeokdhaaDoor
section
theorem Aqv {ρ:Type} {body:Nat->Option (Ctl Nat ρ)} (n:Nat) (q:Nat->Bool) (nn:ρ) (g:Nat->ρ) (hn:n<4611686018427387904) (hs:∀ i,i<n->body i=some (if q i then .out (g i) else .next (i+1))) (he:body n=some (.out nn)) :
  Aw body 4611686018427387904 0=some (match (List.range n).find? q with | some i=>g i | none=>nn):=by
 refine R8 n (fun i s=>s=i∧∀ j,j<i->q j=false) hn _ ⟨rfl,fun j h=>by omega⟩ ?_ ?_
 ·rintro i s hi ⟨hsi,hq⟩;subst s;rw [hs i hi];cases hc:q i
  ·refine .inl ⟨i+1,rfl,rfl,fun j hj=>?_⟩;rcases Nat.lt_or_ge j i with h | h
   ·exact hq j h
   ·obtain rfl:j=i:=by omega
    exact hc
  ·refine .inr ?_;have:(List.range n).find? q=some i:=List.find?_range_eq_some.2 ⟨hc,List.mem_range.2 hi,fun j hj=>by rw [hq j hj]; rfl⟩;rw [this]; rfl
 ·rintro s ⟨hsi,hq⟩;subst s;have:(List.range n).find? q=none:=List.find?_range_eq_none.2 fun j hj=>by rw [hq j hj]; rfl
  rw [this,he]
abbrev Gt:=Int×Int×Int×Int
def opG (e:Gt):List Int:=if e.1=3 then [e.2.1,e.2.2.1] else if e.1=4∨e.1=5 then [e.2.1] else []
def cmG (e:Gt):Bool:=e.1==3||e.1==4
def Kl (p n i:Int) (e:Gt):Bool :=
 (opG e).all (fun x=>inR x 0 (n - 1))&&((e.1==3||e.2.2.1==0) &&
 (if e.1=1 then inR e.2.2.2 0 (i - 1)&&e.2.1==0 else if e.1=2 then e.2.2.2==0&&e.2.1==0 else if e.1=3∨e.1=5 then e.2.2.2==0 else if e.1=4 then inR e.2.2.2 0 (p - 1) else false))
theorem Un (e:Gt):Ex e.1 e.2.1 e.2.2.1 e.2.2.2=some (opG e):=by
 unfold Ex opG;by_cases h3:e.1=3
 ·simp [h3]
 by_cases h4:e.1=4
 ·simp [h4]
 by_cases h5:e.1=5
 ·simp [h5]
 have b3:=beq_eq_false_iff_ne.2 h3;have b4:=beq_eq_false_iff_ne.2 h4;have b5:=beq_eq_false_iff_ne.2 h5;simp [b3,b4,b5,h3,h4,h5]
theorem Aii (e:Gt):Em e.1 e.2.1 e.2.2.1 e.2.2.2=some (opG e):=Un e
theorem Aal (e:Gt):Ev e.1 e.2.1 e.2.2.1 e.2.2.2=some (cmG e):=by
 unfold Ev cmG;cases e.1==3 <;> rfl
theorem Asm (e:Gt):E0 e.1 e.2.1 e.2.2.1 e.2.2.2=some (if cmG e then opG e else []):=by
 unfold E0 cmG;rw [Aii];cases e.1==3 <;> cases e.1==4 <;> rfl
theorem Aec (e:Gt):(opG e).length<=2:=by
 unfold opG; split
 ·simp
 split <;> simp
section
variable {p i n:Int} {gs:List Gt} {outs:List Int}
theorem Avo (hp:2<=p∧p<=97) (hi:0<=i∧i<=8) (hn:1<=n∧n<=40) (e:Gt):Kx p e.1 e.2.1 e.2.2.1 e.2.2.2 i n=some (Kl p n i e):=by
 have ho:=Aec e;unfold Kx Kl;rw [Un,obs,D6 (n:=n - 1) (by omega) (by omega),Atg _ _ _ (by omega),obs,D6 (n:=i - 1) (by omega) (by omega),D6 (n:=p - 1) (by omega) (by omega),Af0,Af0];generalize (opG e).all (fun x=>inR x 0 (n - 1))=ok;obtain ⟨e1,e2,e3,e4⟩:=e;dsimp only;cases ok
 ·rfl
 by_cases h3:e1=3
 ·subst h3; cases e4==0 <;> rfl
 have b3:=beq_eq_false_iff_ne.2 h3;have n3:(e1 !=3)=true:=bne_iff_ne.2 h3;cases hB:e3==0
 ·have:(e3 !=0)=true:=by simp [bne,hB]
  simp [n3,b3,this]
 have hB':(e3 !=0)=false:=by simp [bne,hB]
 by_cases h1:e1=1
 ·subst h1; cases inR e4 0 (i - 1) <;> cases e2==0 <;> simp [hB']
 by_cases h2:e1=2
 ·subst h2; cases e4==0 <;> cases e2==0 <;> simp [hB']
 by_cases h5:e1=5
 ·subst h5; cases e4==0 <;> simp [hB']
 by_cases h4:e1=4
 ·subst h4; cases inR e4 0 (p - 1) <;> simp [hB']
 have b1:=beq_eq_false_iff_ne.2 h1;have b2:=beq_eq_false_iff_ne.2 h2;have b4:=beq_eq_false_iff_ne.2 h4;have b5:=beq_eq_false_iff_ne.2 h5;simp [n3,b1,b2,b3,b4,b5,h1,h2,h3,h4,h5,hB']
theorem Awu (hp:2<=p∧p<=97) (hi:0<=i∧i<=8) (hn:1<=gs.length∧gs.length<=40) (e:Gt):Dx i gs outs p e.1 e.2.1 e.2.2.1 e.2.2.2=some (Kl p gs.length i e):=by
 have ho:=Aec e;unfold Dx Kl;rw [Aii,obs,Age _ _ (by omega) (by omega),obs,D6 (n:=i - 1) (by omega) (by omega),Ah0,Aom];generalize (opG e).all (fun x=>inR x 0 ((gs.length:Nat) - 1))=ok;obtain ⟨e1,e2,e3,e4⟩:=e;dsimp only;cases ok
 ·rfl
 by_cases h3:e1=3
 ·subst h3; cases e4==0 <;> rfl
 have b3:=beq_eq_false_iff_ne.2 h3;by_cases h1:e1=1
 ·subst h1; cases inR e4 0 (i - 1) <;> cases e2==0 <;> cases e3==0 <;> simp
 by_cases h2:e1=2
 ·subst h2
  have:([2,e2,e3,e4]==([2,0,0,0]:List Int))=(e3==0&&(e4==0&&e2==0)):=by
   have h0:([2,e2,e3,e4]==([2,0,0,0]:List Int))=((2:Int)==2&&(e2==0&&(e3==0&&(e4==0&&true)))):=rfl;rw [h0];cases e2==0 <;> cases e3==0 <;> cases e4==0 <;> rfl
  simp [this]
 by_cases h5:e1=5
 ·subst h5; cases e3==0 <;> cases e4==0 <;> simp
 by_cases h4:e1=4
 ·subst h4; cases e3==0 <;> cases inR e4 0 (p - 1) <;> simp
 have b1:=beq_eq_false_iff_ne.2 h1;have b2:=beq_eq_false_iff_ne.2 h2;have b4:=beq_eq_false_iff_ne.2 h4;have b5:=beq_eq_false_iff_ne.2 h5;simp [b1,b2,b3,b4,b5,h1,h2,h3,h4,h5]
def okG (gs:List Gt):Prop:=∀ e∈gs,∀ x∈opG e,0<=x∧x<gs.length
def rdy (gs:List Gt) (dn:List Bool) (k:Nat):Bool :=
 match gs[k]? with
 | some e=> !(dn.getD k true)&&(opG e).all fun x=>dn.getD x.toNat false
 | none=>false
def nxt (gs:List Gt) (dn:List Bool):Option Nat:=(List.range gs.length).find? (rdy gs dn)
def enc:Option Nat->Int
 | some j=>j
 | none=> -1
def run (gs:List Gt):Nat->List Bool->List Int×List Bool
 | 0,dn=>([],dn)
 | f+1,dn=>match nxt gs dn with
  | none=>([],dn)
  | some j=>((j:Int) :: (run gs f (dn.set j true)).1,(run gs f (dn.set j true)).2)
theorem Pr {dn:List Bool} {j:Nat} (h:nxt gs dn=some j):j<gs.length∧rdy gs dn j=true:=by
 have:=List.find?_range_eq_some.1 h;exact ⟨List.mem_range.1 this.2.1,this.1⟩
theorem Acm {dn:List Bool} {j:Nat} (h:rdy gs dn j=true) (hl:dn.length=gs.length):dn[j]? =some false:=by
 unfold rdy at h;split at h
 ·simp only [Bool.and_eq_true,Bool.not_eq_true'] at h;have:=h.1;rw [gDg] at this;cases hd:dn[j]? with
  | none=>rw [hd] at this; cases this
  | some b=>rw [hd] at this; simp at this; rw [this]
 ·cases h
theorem W5 {dn:List Bool} {j:Nat} (h:dn[j]? =some false):(dn.set j true).count false+1=dn.count false:=by
 obtain ⟨hj,he⟩:=gSi.1 h;rw [List.count_set hj,he];have:=List.count_pos_iff.2 (he▸List.getElem_mem hj);simp; omega
theorem Acl:∀ (m:Nat) (dn:List Bool),dn.length=gs.length->dn.count false<=m->(run gs m dn).1.length+(run gs m dn).2.count false=dn.count false
 | 0,dn,_,_=>by simp [run]
 | m+1,dn,hl,hm=>by
  unfold run;cases hx:nxt gs dn with
  | none=>simp
  | some j =>
   obtain ⟨h1,h2⟩:=Pr hx;have hc:=W5 (Acm h2 hl);have:=Acl m (dn.set j true) (by simp [hl]) (by omega);simp only [List.length_cons];omega
theorem Ayo {m:Nat} {dn:List Bool} (hl:dn.length=gs.length) (hm:dn.count false<=m):(run gs m dn).1.length<=gs.length:=by
 have h1:=Acl m dn hl hm;have h2:dn.count false<=dn.length:=List.count_le_length;omega
theorem Al4 {ys:List Int} {dn:List Bool} (hy:∀ x∈ys,0<=x∧x<dn.length) (hl:ys.length<=2):Aw (fun s_:Bool×Nat=>Gk ys dn s_.1 s_.2) 4611686018427387904 (true,0)=some (ys.all fun x=>dn.getD x.toNat false):=by
 refine A4 ys.length (fun k=>((ys.take k).all fun x=>dn.getD x.toNat false,k)) (by omega) _ (by simp) (fun k hk=>?_) ?_
 ·have hg:=gEg hk;have hx:=hy _ (List.getElem_mem hk)
  try dsimp only
  unfold Gk;rw [Bd (by omega),cond_true,hg,obs,List.take_add_one,hg,List.all_append];have hd:=gEg (l:=dn) (i:=ys[k].toNat) (by omega);cases hb:(ys.take k).all fun x=>dn.getD x.toNat false
  ·simp [Ak (show k+1<4611686018427387904 by omega)]
  ·rw [cond_true,C5 hx.1,hd,obs,obs,Ak (by omega)];simp [gDg,hd]
 ·try dsimp only
  unfold Gk;rw [Bg (by omega),cond_false,List.take_length]
theorem Anr {dn:List Bool} (hg:okG gs) (hl:dn.length=gs.length) (hn:gs.length<=40):Aw (fun s_:Int×Nat=>Gi gs dn s_.1 s_.2) 4611686018427387904 (-1,0)=some (enc (nxt gs dn)):=by
 refine A4 gs.length (fun k=>(enc ((List.range k).find? (rdy gs dn)),k)) (by omega) _ rfl (fun k hk=>?_) ?_
 ·have he:=gEg hk;have ho:=hg _ (List.getElem_mem hk);generalize gs[k]=e at he ho;have hd:=gEg (l:=dn) (i:=k) (by omega)
  have hr:rdy gs dn k=(!dn[k]&&(opG e).all fun x=>dn.getD x.toNat false):=by
   unfold rdy;rw [he];simp [gDg,hd]
  have hf:(List.range (k+1)).find? (rdy gs dn)=((List.range k).find? (rdy gs dn)).or (if rdy gs dn k then some k else none):=by
   rw [List.range_succ,List.find?_append];congr 1;rw [List.find?_singleton]
  have hk1:k+1<4611686018427387904:=by omega
  try dsimp only
  unfold Gi;rw [Bd (by omega),cond_true,he,obs,hd,obs,Un,obs,Al4 (by rw [hl]; exact ho) (Aec e),obs,hf];cases hp:(List.range k).find? (rdy gs dn) with
  | some j =>
   have:decide ((0:Int)<=enc (some j))=true:=decide_eq_true (by simp [enc]);cases dn[k] <;> simp [this,Ak hk1]
  | none =>
   have:decide ((0:Int)<=enc none)=false:=decide_eq_false (by simp [enc]);rw [this,Option.none_or,hr];cases dn[k]
   ·cases (opG e).all fun x=>dn.getD x.toNat false <;> simp [Ak hk1,enc]
   ·simp [Ak hk1,enc]
 ·try dsimp only
  unfold Gi;rw [Bg (by omega),cond_false]; rfl
theorem Acw {α β:Type} {body:α->Option (Ctl α β)} {F:Nat} {s s':α} (h:body s=some (.next s')):Aw body (F+1) s=Aw body F s':=by simp only [Aw,h,obs,Ctl.then]
theorem Yp {α β:Type} {body:α->Option (Ctl α β)} {F:Nat} {s:α} {r:β} (h:body s=some (.out r)):Aw body (F+1) s=some r:=by simp only [Aw,h,obs,Ctl.then]
theorem Z3 (hg:okG gs) (hn:gs.length<=40):∀ (m:Nat) (dn:List Bool) (out:List Int) (F:Nat),dn.length=gs.length->dn.count false<=m->out.length+m<=1000->m+1<=F->Aw (fun s_:List Int×List Bool=>Gh gs s_.1 s_.2) F (out,dn)=some (out++(run gs m dn).1)
 | m,dn,out,F,hl,hm,ho,hF=>by
  obtain ⟨F,rfl⟩:∃ F',F=F'+1:=⟨F - 1,by omega⟩
  have hb:Gh gs out dn=match nxt gs dn with | none=>some (Ctl.out out) | some j=>some (Ctl.next (out++[(j:Int)],dn.set j true)):=by
   unfold Gh;rw [Anr hg hl hn,obs];cases hx:nxt gs dn with
   | none=>rw [Bd (by simp [enc]),cond_true]
   | some j =>
    obtain ⟨h1,h2⟩:=Pr hx;have hd:=Acm h2 hl;rw [Bg (by simp [enc]),cond_false];simp only [enc];rw [C5 (by omega),Int.toNat_natCast,hd,obs,Ak (by omega)]
  cases hx:nxt gs dn with
  | none =>
   rw [hx] at hb;rw [Yp (r:=out) hb];cases m <;> simp [run,hx]
  | some j =>
   rw [hx] at hb;obtain ⟨h1,h2⟩:=Pr hx;have hc:=W5 (Acm h2 hl);rw [Acw (s':=(out++[(j:Int)],dn.set j true)) hb];cases m with
   | zero=>omega
   | succ m =>
    rw [Z3 hg hn m (dn.set j true) (out++[(j:Int)]) F (by simp [hl]) (by omega) (by simp; omega) (by omega)];simp [run,hx]
def dn0 (gs:List Gt):List Bool:=gs.map fun e=> !cmG e
def Yv (gs:List Gt):List Int×List Bool:=run gs gs.length (dn0 gs)
theorem Ako (hg:okG gs) (hn:gs.length<=40):Hs i gs outs=some (Yv gs).1:=by
 unfold Hs;rw [Ak (by omega)]
 have h:Aw (fun s_:Nat×List Bool=>Gm gs s_.1 s_.2) 4611686018427387904 (0,List.replicate gs.length (false:Bool))=some (dn0 gs):=by
  have hl:(dn0 gs).length=gs.length:=by simp [dn0]
  refine A4 gs.length (fun k=>(k,(dn0 gs).take k++List.replicate ((dn0 gs).length - k) false)) (by omega) _ (by simp [hl]) (fun k hk=>?_) ?_
  ·have hx:=gEg hk;have hd:(dn0 gs)[k]? =some (!cmG gs[k]):=by simp [dn0,hk]
   try dsimp only
   unfold Gm;rw [Bd (by omega),cond_true,hx,obs,Aal,obs,So (by omega),obs,Ak (by omega),Sf hd]
  ·try dsimp only
   unfold Gm;rw [Bg (by omega),cond_false,hl];simp [List.take_of_length_le,hl]
 have hc:(dn0 gs).count false<=gs.length:=Nat.le_trans List.count_le_length (by simp [dn0]);rw [h,obs,Z3 hg hn gs.length (dn0 gs) [] _ (by simp [dn0]) hc (by simp; omega) (by omega)];rfl
def Aa9 (dn:List Bool):Bool:=dn.all id
def Zt (p i:Int) (gs:List Gt) (outs:List Int):Bool :=
 isF p&&(inR i 0 8&&(inR gs.length 1 40&&(decide (outs.length<=8)&&((outs.all fun x=>inR x 0 ((gs.length:Nat) - 1))&&(gs.all (Kl p gs.length i)&&Aa9 (Yv gs).2)))))
theorem Aid {dn:List Bool}:dn.count false=0↔Aa9 dn=true:=by
 rw [List.count_eq_zero];unfold Aa9;rw [List.all_eq_true];constructor
 ·intro h b hb;cases b
  ·exact absurd hb h
  ·rfl
 ·intro h hf;have:=h _ hf;cases this
theorem Al3 (h:gs.all (Kl p gs.length i)=true):okG gs:=fun e he x hx=>by
 have:=List.all_eq_true.1 h e he;simp only [Kl,Bool.and_eq_true,List.all_eq_true,Gv] at this;have:=this.1 x hx;omega
theorem Akg:∀ k,k<=gs.length->((gs.take k).map fun e=> !cmG e).count false=(gs.take k).countP cmG:=by
 intro k _;rw [List.count_eq_countP,List.countP_map];congr 1;funext e;cases h:cmG e <;> simp [h]
theorem Aws (hl:gs.length<=1099511627776) (ho:outs.length<=1099511627776):Ks p i gs outs=some (Zt p i gs outs):=by
 unfold Ks Zt;simp only [Awn,Af0,obs];cases hp:isF p
 ·rfl
 cases hi:inR i 0 8
 ·rfl
 cases hn:inR gs.length 1 40
 ·rfl
 have hn':=Gv.1 hn;by_cases hs:8<outs.length
 ·simp only [Bool.not_true,cond_false,obs,Bd (show (8:Int)<((outs.length:Nat):Int) by omega),cond_true,Bg (show ¬ outs.length<=8 by omega),Bool.and_false,Bool.false_and]
 rw [D6 (by omega) (by omega),Atg _ _ _ (by omega)];simp only [Bool.not_true,cond_false,obs,Bg (show ¬ (8:Int)<((outs.length:Nat):Int) by omega),Bd (show outs.length<=8 by omega),Bool.true_and];cases hio:outs.all fun x=>inR x 0 ((gs.length:Nat) - 1)
 ·rfl
 simp only [Bool.not_true,cond_false,Bool.true_and];have hF:=Ep hp;have hI:=Gv.1 hi
 have key:∃ r,Aw (fun s_:Nat×Nat=>Hy gs p i s_.1 s_.2) 4611686018427387904 (0,0)=some r∧((gs.all (Kl p gs.length i)=true∧r=Ctl.next (gs.countP cmG))∨(gs.all (Kl p gs.length i)=false∧r=Ctl.out false)):=by
  refine Uc (Post:=fun r=>(gs.all (Kl p gs.length i)=true∧r=Ctl.next (gs.countP cmG))∨(gs.all (Kl p gs.length i)=false∧r=Ctl.out false)) gs.length (fun k s=>s.2=k∧s.1=(gs.take k).countP cmG∧(gs.take k).all (Kl p gs.length i)=true) (by omega) ⟨rfl,by simp,by simp⟩ ?_ ?_
  ·rintro k ⟨c,k'⟩ hk ⟨h1,h2,h3⟩;dsimp only at h1 h2 h3 ⊢;subst k' c;have hx:=gEg hk;have hcl:(gs.take k).countP cmG<=k:=Nat.le_trans List.countP_le_length (by rw [List.length_take]; omega);unfold Hy;rw [Bd (by omega),cond_true,hx,obs,Avo hF hI (by omega),obs];cases hgb:Kl p gs.length i gs[k]
   ·refine .inr ⟨Ctl.out false,rfl,.inr ⟨?_,rfl⟩⟩;rw [Bool.eq_false_iff];intro ha;rw [List.all_eq_true.1 ha _ (List.getElem_mem hk)] at hgb;cases hgb
   ·refine .inl ⟨((gs.take (k+1)).countP cmG,k+1),?_,rfl,rfl,?_⟩
    ·rw [Bool.not_true,cond_false,Aal,obs,List.take_add_one,hx,List.countP_append];cases hc:cmG gs[k]
     ·simp [Sn,Ctl.then,Ak (show k+1<4611686018427387904 by omega),hc]
     ·have h4:(gs.take k).countP cmG+1<4611686018427387904:=by omega
      simp [Sn,Ctl.then,Ak (show k+1<4611686018427387904 by omega),Ak h4,hc]
    ·rw [List.take_add_one,hx,List.all_append,h3]; simp [hgb]
  ·rintro ⟨c,k'⟩ ⟨h1,h2,h3⟩;dsimp only at h1 h2 h3 ⊢;subst k' c;rw [List.take_length] at h3 ⊢;refine ⟨_,?_,.inl ⟨h3,rfl⟩⟩;unfold Hy;rw [Bg (by omega),cond_false]
 obtain ⟨r,hr,⟨h1,rfl⟩ | ⟨h1,rfl⟩⟩:=key
 ·rw [hr,h1,Bool.true_and];have hg:=Al3 h1;simp only [Sn,obs,Ctl.then];rw [Ako hg (by omega),obs];congr 1;have hc:=Acl (gs:=gs) gs.length (dn0 gs) (by simp [dn0]) (Nat.le_trans List.count_le_length (by simp [dn0]));have h0:=Akg (gs:=gs) gs.length (Nat.le_refl _);rw [List.take_length] at h0;have h0:(dn0 gs).count false=gs.countP cmG:=h0;rw [h0] at hc;have hA:=Aid (dn:=(Yv gs).2);unfold Yv at hA ⊢;cases hT:Aa9 (run gs gs.length (dn0 gs)).2
  ·rw [beq_eq_false_iff_ne];intro e;have:(run gs gs.length (dn0 gs)).2.count false=0:=by omega
   rw [hA.1 this] at hT; cases hT
  ·rw [beq_iff_eq];have:=hA.2 hT;omega
 ·rw [hr,h1]; rfl
end
end
section
section
variable {p i:Int} {gs:List Gt} {outs:List Int}
structure RelM (gs:List Gt) (dn:List Bool) (es:List (Int×Bool)):Prop where
 len:dn.length=gs.length
 get:∀ k:Nat,k<gs.length->Et es (k:Int)=if dn.getD k true=true then none else some true
 keys:∀ e∈es,∃ k:Nat,k<gs.length∧e.1=(k:Int)
 cm:∀ (k:Nat) (e:Gt),gs[k]? =some e->dn.getD k true=false->cmG e=true
theorem RelM.open_ {dn:List Bool} {es:List (Int×Bool)} (h:RelM gs dn es) {k:Nat} (hk:k<gs.length):(Et es (k:Int)).getD false= !dn.getD k true:=by
 rw [h.get k hk];cases dn.getD k true <;> rfl
theorem RelM.empty {dn:List Bool} (h:RelM gs dn []):Aa9 dn=true:=by
 unfold Aa9;rw [List.all_eq_true];intro b hb;obtain ⟨k,hk,he⟩:=List.mem_iff_getElem.1 hb;have:=h.get k (by rw [← h.len]; exact hk);rw [gDg,gEg hk,he] at this;cases b
 ·simp [Et] at this
 ·rfl
theorem RelM.some_ {dn:List Bool} {x:Int×Bool} {es:List (Int×Bool)} (h:RelM gs dn (x :: es)):Aa9 dn=false:=by
 obtain ⟨k,hk,he⟩:=h.keys x (List.mem_cons_self ..);have h1:=h.get k hk;have h2:Et (x :: es) (k:Int)=some x.2:=by simp [Et,he]
 rw [h2] at h1
 have h3:dn.getD k true=false:=by
  cases hd:dn.getD k true
  ·rfl
  ·rw [hd] at h1; cases h1
 rw [Bool.eq_false_iff];intro ha;unfold Aa9 at ha;have hkl:k<dn.length:=by rw [h.len]; exact hk
 rw [gDg,gEg hkl] at h3;have:=List.all_eq_true.1 ha _ (List.getElem_mem hkl);simp at h3 this;rw [h3] at this; cases this
theorem Aih {dn:List Bool} {j k:Nat} (hj:j<dn.length):(dn.set j true).getD k true=if k=j then true else dn.getD k true:=by
 rw [gDg,gDg,List.getElem?_set];by_cases e:k=j
 ·subst e; simp [hj]
 ·rw [if_neg (fun h=>e h.symm),if_neg e]
theorem RelM.del {dn:List Bool} {es:List (Int×Bool)} (h:RelM gs dn es) {j:Nat} (hj:j<gs.length):RelM gs (dn.set j true) (Mf es (j:Int)):=by
 have hjl:j<dn.length:=by rw [h.len]; exact hj
 refine ⟨by simp [h.len],fun k hk=>?_,fun e he=>h.keys e (List.mem_filter.1 he).1,fun k e hk hd=>?_⟩
 ·rw [Aih hjl];by_cases e:k=j
  ·subst e; rw [Rp]; simp
  ·rw [Lz (by omega),h.get k hk,if_neg e]
 ·rw [Aih hjl] at hd;by_cases e':k=j
  ·rw [if_pos e'] at hd; cases hd
  ·rw [if_neg e'] at hd; exact h.cm k e hk hd
theorem A0w {n:Int} (h:0<=n∧n<=1000):Nf n=some ((List.range n.toNat).map fun k:Nat=>(k:Int)):=by
 unfold Nf;rw [T0 (by omega),obs];have hl:((List.range n.toNat).map fun k:Nat=>(k:Int)).length=n.toNat:=by simp
 have key:Aw (fun s_:Nat×List Int=>Jh (List.replicate n.toNat 0) s_.1 s_.2) 4611686018427387904 (0,List.replicate n.toNat (0:Int))=some ((List.range n.toNat).map fun k:Nat=>(k:Int)):=by
  refine A4 n.toNat (fun k=>(k,((List.range n.toNat).map fun k:Nat=>(k:Int)).take k++List.replicate (((List.range n.toNat).map fun k:Nat=>(k:Int)).length - k) 0)) (by omega) _ (by simp) (fun k hk=>?_) ?_
  ·have hx:((List.range n.toNat).map fun k:Nat=>(k:Int))[k]? =some (k:Int):=by simp [hk]
   try dsimp only
   unfold Jh;rw [Bd (by simp; omega),cond_true,So (by omega),obs,Ak (by omega),Sf hx]
  ·try dsimp only
   unfold Jh;rw [Bg (by simp),cond_false];simp [List.take_of_length_le]
 rw [key]; rfl
theorem Aqr {ys:List Int} {dn:List Bool} {es:List (Int×Bool)} (h:RelM gs dn es) (hn:gs.length<=40) (hy:∀ x∈ys,0<=x∧x<gs.length) (hl:ys.length<=2):A7 ys es=some (!ys.all fun x=>dn.getD x.toNat false):=by
 unfold A7 Bi
 have:=At2 (body:=fun s_:Nat=>A6 ys es s_) ys (fun x=> !dn.getD x.toNat false) (.next ()) (fun i=>.out (i:Int)) (F:=4611686018427387904) (by omega) (fun j x hx=>by
  have:=As hx;have hr:=hy x (List.mem_of_getElem? hx);have ho:=h.open_ (k:=x.toNat) (by omega);have hkl:x.toNat<dn.length:=by rw [h.len]; omega
  have hd:dn.getD x.toNat true=dn.getD x.toNat false:=by
   rw [gDg,gDg,gEg hkl]; rfl
  rw [show ((x.toNat:Nat):Int)=x by omega,hd] at ho;unfold A6 Da;rw [Bd (by omega),cond_true,hx,obs,Ak (by unfold Lt; omega),ho,obs,Ak (by omega)];cases dn.getD x.toNat false <;> rfl) (by
  unfold A6;rw [Bg (by omega),cond_false])
 have hnot:(ys.any fun x=> !dn.getD x.toNat false)= !ys.all fun x=>dn.getD x.toNat false:=by
  rw [← Awz,Bool.not_not]
 rw [← hnot];rcases this with ⟨h1,i,hi,h2⟩ | ⟨h1,h2⟩
 ·rw [h2,h1];show some (decide (0<=(i:Int)))=_;rw [Bd (by omega)]
 ·rw [h2,h1]; rfl
theorem Au0 {dn:List Bool} {es:List (Int×Bool)} (h:RelM gs dn es) (hg:okG gs) (hn:gs.length<=40) {k:Nat} (hk:k<gs.length):Cq (k:Int) es i gs outs=some (rdy gs dn k):=by
 unfold Cq;have he:=gEg hk;have ho:=hg _ (List.getElem_mem hk);have hc:=h.cm k gs[k] he;generalize gs[k]=e at he ho hc;have hr:rdy gs dn k=(!dn.getD k true&&(opG e).all fun x=>dn.getD x.toNat false):=by unfold rdy; rw [he]
 rw [Ak (by unfold Lt; omega),h.open_ hk,hr];cases hd:dn.getD k true
 ·have hcm:=hc hd;rw [Bool.not_false,cond_true,C5 (by omega),Int.toNat_natCast,he,obs,Asm,obs,hcm,if_pos rfl,Aqr h hn ho (Aec e)];simp
 ·rfl
theorem A1q {dn:List Bool} {es:List (Int×Bool)} (h:RelM gs dn es) (hg:okG gs) (hn:gs.length<=40):Bb ((List.range gs.length).map fun k:Nat=>(k:Int)) es i gs outs=some (enc (nxt gs dn)):=by
 unfold Bb;rw [Aqv gs.length (rdy gs dn) (.next ()) (fun k=>.out (k:Int)) (by omega) (fun k hk=>?_) ?_]
 ·unfold nxt;cases (List.range gs.length).find? (rdy gs dn) <;> rfl
 ·unfold Bh;rw [Bg (by simp),cond_false]
 ·have hx:((List.range gs.length).map fun k:Nat=>(k:Int))[k]? =some (k:Int):=by simp [hk]
  unfold Bh;rw [Bd (by simp; omega),cond_true,hx,obs,Au0 h hg hn hk,obs,Ak (by omega)];cases rdy gs dn k <;> rfl
theorem Afr (hg:okG gs) (hn:gs.length<=40):∀ (m:Nat) (dn:List Bool) (es:List (Int×Bool)) (out:List Int) (F:Nat),RelM gs dn es->dn.count false<=m->out.length+m<=1000->m+1<=F ->
  Aw (fun s_:List Int×(List (Int×Bool))=>B4 gs i outs s_.1 s_.2) F (out,es)=some (if Aa9 (run gs m dn).2=true then Ctl.next (out++(run gs m dn).1) else Ctl.out ([],false))
 | m,dn,es,out,F,h,hm,ho,hF=>by
  obtain ⟨F,rfl⟩:∃ F',F=F'+1:=⟨F - 1,by omega⟩
  cases es with
  | nil =>
   have hA:=h.empty
   have hx:nxt gs dn=none:=by
    cases hx:nxt gs dn with
    | none=>rfl
    | some j =>
     obtain ⟨_,h2⟩:=Pr hx;have:=Acm h2 h.len;have:=W5 this;have:=Aid.2 hA;omega
   have hr:run gs m dn=([],dn):=by cases m <;> simp [run,hx]
   rw [hr,hA,if_pos rfl,List.append_nil,Yp (r:=Ctl.next out)];unfold B4;rw [Bg (by simp),cond_false]
  | cons x es =>
   have hA:=h.some_
   have hb:B4 gs i outs out (x :: es)=match nxt gs dn with | none=>some (Ctl.out (Ctl.out ([],false))) | some j=>some (Ctl.next (out++[(j:Int)],Mf (x :: es) (j:Int))):=by
    unfold B4;rw [Bd (by rw [List.length_cons]; omega),cond_true,A0w (by omega),obs,Int.toNat_natCast,A1q h hg hn,obs];cases hx:nxt gs dn with
    | none=>rw [Bd (by simp [enc]),cond_true]
    | some j =>
     obtain ⟨h1,h2⟩:=Pr hx;rw [Bg (by simp [enc]),cond_false,Ak (by simp only [enc,Lt]; omega),Ak (by omega)];rfl
   cases hx:nxt gs dn with
   | none =>
    rw [hx] at hb;have hr:run gs m dn=([],dn):=by cases m <;> simp [run,hx]
    rw [hr,hA,Yp (r:=Ctl.out ([],false)) hb];rfl
   | some j =>
    rw [hx] at hb;obtain ⟨h1,h2⟩:=Pr hx;have hc:=W5 (Acm h2 h.len);rw [Acw (s':=(out++[(j:Int)],Mf (x :: es) (j:Int))) hb];cases m with
    | zero=>omega
    | succ m =>
     rw [Afr hg hn m (dn.set j true) (Mf (x :: es) (j:Int)) (out++[(j:Int)]) F (h.del h1) (by omega) (by simp; omega) (by omega)];simp [run,hx]
theorem Aqz (hn:gs.length<=40):∃ es,Aw (fun s_:Nat×(List (Int×Bool))=>B5 gs s_.1 s_.2) 4611686018427387904 (0,[])=some es∧RelM gs (dn0 gs) es:=by
 have key:∃ es,Aw (fun s_:Nat×(List (Int×Bool))=>B5 gs s_.1 s_.2) 4611686018427387904 (0,[])=some es∧((∀ k:Nat,k<gs.length->Et es (k:Int)=if (dn0 gs).getD k true=true then none else some true)∧∀ e∈es,∃ k:Nat,k<gs.length∧e.1=(k:Int)):=by
  refine Uc (Post:=fun es=>(∀ k:Nat,k<gs.length->Et es (k:Int)=if (dn0 gs).getD k true=true then none else some true)∧∀ e∈es,∃ k:Nat,k<gs.length∧e.1=(k:Int)) gs.length
   (fun (j:Nat) (s:Nat×(List (Int×Bool)))=>s.1=j∧s.2.length<=j∧(∀ k:Nat,Et s.2 (k:Int)=if k<j∧(dn0 gs).getD k true=false then some true else none)∧∀ e∈s.2,∃ k:Nat,k<gs.length∧e.1=(k:Int)) (by omega) ⟨rfl,by simp,fun k=>by simp [Et],by simp⟩ ?_ ?_
  ·rintro j ⟨j',es⟩ hj ⟨h1,h2,h3,h4⟩;dsimp only at h1 h2 h3 h4 ⊢;subst j';have hx:=gEg hj;have hd:(dn0 gs).getD j true= !cmG gs[j]:=by simp [dn0,gDg,hx]
   have ho:∀ e:Gt,cmG e=true->0<(opG e).length:=fun e he=>by
    simp only [cmG,Bool.or_eq_true,beq_iff_eq] at he;unfold opG;rcases he with he | he
    ·simp [he]
    ·rw [if_neg (by omega),if_pos (.inl he)]; simp
   generalize gs[j]=e at hx hd;have hj1:j+1<4611686018427387904:=by omega
   unfold B5;rw [Bd (by omega),cond_true,hx,obs,Asm,obs];refine .inl ?_;cases hc:cmG e
   ·refine ⟨(j+1,es),by simp [Ak hj1],rfl,by dsimp only; omega,fun k=>?_,h4⟩;dsimp only;rw [h3 k];by_cases hk:k=j
    ·subst hk; rw [hd,hc]; simp
    ·simp only [show (k<j+1↔k<j) by omega]
   ·have hp:=ho e hc;have hg2:Lt ((j:Nat):Int)∧es.length<1073741824:=⟨by unfold Lt; omega,by omega⟩
    refine ⟨(j+1,Xj es (j:Int) true),?_,rfl,?_,fun k=>?_,fun x hx=>?_⟩
    ·rw [if_pos rfl,Bd (by omega),cond_true,Ak hg2,obs,Ak hj1]
    ·have:(Mf es (j:Int)).length<=es.length:=List.length_filter_le _ _;simp only [Xj,List.length_cons]; omega
    ·dsimp only;by_cases hk:k=j
     ·subst hk; rw [Rq,hd,hc]; simp
     ·rw [Qa (by omega),h3 k];simp only [show (k<j+1↔k<j) by omega]
    ·rcases List.mem_cons.1 hx with rfl | hx
     ·exact ⟨j,hj,rfl⟩
     ·exact h4 x (List.mem_filter.1 hx).1
  ·rintro ⟨j',es⟩ ⟨h1,h2,h3,h4⟩;dsimp only at h1 h2 h3 h4 ⊢;subst j';refine ⟨es,?_,fun k hk=>?_,h4⟩
   ·unfold B5;rw [Bg (by omega),cond_false]
   ·rw [h3 k];cases (dn0 gs).getD k true <;> simp [hk]
 obtain ⟨es,h1,h2,h3⟩:=key;refine ⟨es,h1,by simp [dn0],h2,h3,fun k e hk hd=>?_⟩;have:(dn0 gs).getD k true= !cmG e:=by simp [dn0,gDg,hk]
 rw [this] at hd
 simpa using hd
theorem Ae8 (hg:okG gs) (hn:gs.length<=40):Cl i gs outs=some (if Aa9 (Yv gs).2=true then ((Yv gs).1,true) else ([],false)):=by
 unfold Cl;obtain ⟨es,h1,h2⟩:=Aqz hn;have hc:(dn0 gs).count false<=gs.length:=Nat.le_trans List.count_le_length (by simp [dn0]);rw [h1,obs,Afr hg hn gs.length (dn0 gs) es [] _ h2 hc (by simp; omega) (by omega)];unfold Yv;cases Aa9 (run gs gs.length (dn0 gs)).2 <;> rfl
theorem Ao0 (hl:gs.length<=1099511627776) (ho:outs.length<=1099511627776):Hr p i gs outs=some (Zt p i gs outs):=by
 unfold Hr Zt Py;simp only [Ah0,obs];cases hp:isF p
 ·rfl
 cases hi:inR i 0 8
 ·rfl
 cases hn:inR gs.length 1 40
 ·rfl
 have hn':=Gv.1 hn;by_cases hs:8<outs.length
 ·simp only [Bool.not_true,cond_false,obs,Bd (show (8:Int)<((outs.length:Nat):Int) by omega),cond_true,Bg (show ¬ outs.length<=8 by omega),Bool.and_false,Bool.false_and]
 rw [Age _ _ (by omega) (by omega)];simp only [Bool.not_true,cond_false,obs,Bg (show ¬ (8:Int)<((outs.length:Nat):Int) by omega),Bd (show outs.length<=8 by omega),Bool.true_and];cases hio:outs.all fun x=>inR x 0 ((gs.length:Nat) - 1)
 ·rfl
 simp only [Bool.not_true,cond_false,Bool.true_and];have hF:=Ep hp;have hI:=Gv.1 hi;rw [Acn gs (Kl p gs.length i) (.next ()) (.out false) (by omega) (fun k x h=>?_) ?_]
 ·cases hgb:gs.all (Kl p gs.length i)
  ·rfl
  ·have hg:=Al3 hgb;simp only [if_true,Sn,obs,Ctl.then];rw [Ae8 hg (by omega),obs];cases Aa9 (Yv gs).2 <;> rfl
 ·unfold G5;rw [Bg (by omega),cond_false]
 ·have:=As h;unfold G5;rw [Bd (by omega),cond_true,h,obs,Awu hF hI (by omega),obs,Ak (by omega)];cases Kl p gs.length i x <;> rfl
end
end
section
section
variable {p i:Int} {gs:List Gt} {outs:List Int}
structure Le (p i:Int) (gs:List Gt) (outs:List Int):Prop where
 fp:isF p=true
 hp:2<=p∧p<=97
 hi:0<=i∧i<=8
 hn:1<=gs.length∧gs.length<=40
 ho:outs.length<=8
 io:∀ x∈outs,0<=x∧x<gs.length
 ga:gs.all (Kl p gs.length i)=true
 al:Aa9 (Yv gs).2=true
theorem Akn:Zt p i gs outs=true↔Le p i gs outs:=by
 simp only [Zt,Bool.and_eq_true,decide_eq_true_eq,Gv];constructor
 ·rintro ⟨h1,h2,h3,h4,h5,h6,h7⟩;refine ⟨h1,Ep h1,h2,by omega,h4,fun x hx=>?_,h6,h7⟩;have:=Gv.1 (List.all_eq_true.1 h5 x hx);omega
 ·rintro ⟨h1,_,h2,h3,h4,h5,h6,h7⟩;refine ⟨h1,h2,by omega,h4,List.all_eq_true.2 fun x hx=>Gv.2 ?_,h6,h7⟩;have:=h5 x hx;omega
end
def gtD (l:List Int) (x:Int):Int:=l.getD x.toNat 0
theorem Gn {l:List Int} {x:Int} (h:0<=x∧x<l.length):E2 l x=some (gtD l x):=by
 have hx:x.toNat<l.length:=by omega
 rw [C5 h.1,gtD,gDg,gEg hx]; rfl
theorem Afe {l:List Int} {x:Int} (h:0<=x∧x<l.length):l[x.toNat]? =some (gtD l x):=by
 rw [← C5 h.1,Gn h]
section
variable {p i:Int} {gs:List Gt} {outs:List Int}
theorem Ac2 {n:Int} {e:Gt} (h:Kl p n i e=true) (h1:e.1=1):0<=e.2.2.2∧e.2.2.2<i:=by
 simp only [Kl,Bool.and_eq_true] at h;obtain ⟨_,_,h⟩:=h;rw [if_pos h1,Bool.and_eq_true,Gv] at h;omega
def gtG (gs:List Gt) (x:Int):Gt:=gs.getD x.toNat (0,0,0,0)
theorem Aft {x:Int} (h:0<=x∧x<gs.length):E2 gs x=some (gtG gs x):=by
 have hx:x.toNat<gs.length:=by omega
 rw [C5 h.1,gtG,gDg,gEg hx]; rfl
theorem Aep {x:Int} (h:0<=x∧x<gs.length):gtG gs x∈gs:=by
 have hx:x.toNat<gs.length:=by omega
 rw [gtG,gDg,gEg hx];exact List.getElem_mem hx
theorem Acj {n:Int} {e:Gt} (h:Kl p n i e=true):(∀ x∈opG e,0<=x∧x<n)∧(e.1≠3->e.2.2.1=0)∧(e.1=4->0<=e.2.2.2∧e.2.2.2<p):=by
 simp only [Kl,Bool.and_eq_true,List.all_eq_true,Gv,Bool.or_eq_true,beq_iff_eq] at h;obtain ⟨h1,h2,h3⟩:=h;refine ⟨fun x hx=>by have:=h1 x hx; omega,fun h=>by omega,fun h4=>?_⟩;rw [if_neg (by omega),if_neg (by omega),if_neg (by omega),if_pos h4,Gv] at h3;omega
end
end
section
def inP (p:Int) (l:List Int):Prop:=∀ x∈l,0<=x∧x<p
theorem Rv {p:Int} {l:List Int} (h:inP p l) {x:Int} (hx:0<=x∧x<l.length):0<=gtD l x∧gtD l x<p:=by
 have hx':x.toNat<l.length:=by omega
 rw [gtD,gDg,gEg hx'];exact h _ (List.getElem_mem hx')
theorem Ams {p:Int} {l:List Int} (h:inP p l) {k:Nat} {v:Int} (hv:0<=v∧v<p):inP p (l.set k v):=fun y hy=>by
 rcases List.mem_or_eq_of_mem_set hy with h1 | rfl
 ·exact h y h1
 ·exact hv
def Db (ps:List (Nat×Int)) (v:List Int):List Int:=ps.foldl (fun v e=>v.set e.1 e.2) v
theorem Ha:∀ (ps:List (Nat×Int)) (v:List Int),(Db ps v).length=v.length
 | [],_=>rfl
 | a :: ps,v=>by
  show (Db ps (v.set a.1 a.2)).length=_;rw [Ha ps,List.length_set]
theorem Ak9:∀ (ps:List (Nat×Int)) (v:List Int) (i:Nat) (x:Int),(∀ a∈ps,a.1≠i)->Db ps (v.set i x)=(Db ps v).set i x
 | [],_,_,_,_=>rfl
 | a :: ps,v,i,x,h=>by
  show Db ps ((v.set i x).set a.1 a.2)=(Db ps (v.set a.1 a.2)).set i x;rw [List.set_comm _ _ (fun e=>h a (List.mem_cons_self ..) e.symm),Ak9 ps _ i x fun b hb=>h b (List.mem_cons_of_mem _ hb)]
theorem Ae1:∀ (qs ps:List (Nat×Int)) (v:List Int),(∀ a∈ps,∀ b∈qs,a.1≠b.1)->Db ps (Db qs v)=Db qs (Db ps v)
 | [],_,_,_=>rfl
 | b :: qs,ps,v,h=>by
  show Db ps (Db qs (v.set b.1 b.2))=Db qs ((Db ps v).set b.1 b.2);rw [Ae1 qs ps _ fun a ha c hc=>h a ha c (List.mem_cons_of_mem _ hc),Ak9 ps v b.1 b.2 fun a ha=>h a ha b (List.mem_cons_self ..)]
theorem Aks (ps qs:List (Nat×Int)) (v:List Int):Db (ps++qs) v=Db qs (Db ps v):=List.foldl_append
theorem Acr {p:Int}:∀ (ps:List (Nat×Int)) (v:List Int),(∀ a∈ps,0<=a.2∧a.2<p)->inP p v->inP p (Db ps v)
 | [],_,_,h=>h
 | a :: ps,v,ha,h=>Acr ps _ (fun b hb=>ha b (List.mem_cons_of_mem _ hb)) (Ams h (ha a (List.mem_cons_self ..)))
section
variable {p i:Int} {gs:List Gt} {outs st ins:List Int}
theorem Alw {k:Nat} {e:Gt} (h:gs[k]? =some e):gtG gs (k:Int)=e:=by
 rw [gtG,Int.toNat_natCast,gDg,h]; rfl
def dlL (gs:List Gt) (k:Nat):List Int:=((List.range k).map fun t:Nat=>(t:Int)).filter fun x=>(gtG gs x).1==5
def dl (gs:List Gt):List Int:=dlL gs gs.length
theorem Avu (k:Nat):dlL gs (k+1)=dlL gs k++(if (gtG gs (k:Int)).1==5 then [(k:Int)] else []):=by
 unfold dlL;rw [List.range_succ,List.map_append,List.filter_append];congr 1;simp only [List.map_cons,List.map_nil,List.filter_cons,List.filter_nil]
theorem Oz (k:Nat):(dlL gs k).length<=k:=by
 refine Nat.le_trans (List.length_filter_le _ _) ?_;simp
theorem Afh {x:Int} (h:x∈dl gs):(0<=x∧x<gs.length)∧(gtG gs x).1=5:=by
 unfold dl dlL at h;obtain ⟨h1,h2⟩:=List.mem_filter.1 h;obtain ⟨t,ht,rfl⟩:=List.mem_map.1 h1;have:=List.mem_range.1 ht;exact ⟨by omega,by simpa using h2⟩
theorem T2 (hn:gs.length<=40):Do i gs outs=some (dl gs):=by
 unfold Do;rw [A4 (s0:=(0,[])) gs.length (fun k=>(k,dlL gs k)) (by omega) (dl gs) rfl (fun k hk=>?_) ?_]
 ·rfl
 ·try dsimp only
  unfold Ie;rw [Bg (by omega),cond_false]; rfl
 ·have hx:=gEg hk;have hg:=Alw hx;have hl:=Oz (gs:=gs) k;have ho:(dlL gs k).length+1<=1073741824∧((dlL gs k).length+1)*8<=140737488355328:=by omega
  try dsimp only
  unfold Ie;rw [Bd (by omega),cond_true,hx,obs,Avu,hg];cases hb:gs[k].1==5
  ·simp [Ak (show k+1<4611686018427387904 by omega)]
  ·simp only [cond_true,if_true];rw [Ak ho,obs,Ak (by omega)]
theorem Ao6 (hn:gs.length<=40):Dz i gs outs=some (dl gs):=T2 (i:=i) (outs:=outs) hn
def psA (gs:List Gt) (ins:List Int) (k:Nat):List (Nat×Int):=((List.range k).filter fun j:Nat=>(gtG gs (j:Int)).1==1).map fun j:Nat=>(j,gtD ins (gtG gs (j:Int)).2.2.2)
theorem Axt (k:Nat):psA gs ins (k+1)=psA gs ins k++(if (gtG gs (k:Int)).1==1 then [(k,gtD ins (gtG gs (k:Int)).2.2.2)] else []):=by
 unfold psA;rw [List.range_succ,List.filter_append,List.map_append];congr 1;simp only [List.filter_cons,List.filter_nil];cases (gtG gs (k:Int)).1==1 <;> rfl
def psB (ds st:List Int) (k:Nat):List (Nat×Int):=(List.range k).map fun t:Nat=>((gtD ds (t:Int)).toNat,gtD st (t:Int))
theorem Axk {ds:List Int} (k:Nat):psB ds st (k+1)=psB ds st k++[((gtD ds (k:Int)).toNat,gtD st (k:Int))]:=by
 unfold psB;rw [List.range_succ,List.map_append]; rfl
theorem Asr (G:Le p i gs outs) (hi:((ins.length:Nat):Int)=i) {v:List Int} (hv:v.length=gs.length):Aw (fun s_:Nat×List Int=>Hb gs ins s_.1 s_.2) 4611686018427387904 (0,v)=some (Db (psA gs ins gs.length) v):=by
 have hn:=G.hn;refine A4 gs.length (fun k=>(k,Db (psA gs ins k) v)) (by omega) _ rfl (fun k hk=>?_) ?_
 ·have hx:=gEg hk;have hg:=Alw hx;have hb:=List.all_eq_true.1 G.ga _ (List.getElem_mem hk);have hin:=Ac2 hb;generalize gs[k]=e at hx hg hin;have hl:(Db (psA gs ins k) v).length=gs.length:=by rw [Ha,hv]
  try dsimp only
  unfold Hb;rw [Bd (by omega),cond_true,hx,obs,Axt,hg,Aks];by_cases h1:e.1=1
  ·have hval:=hin h1;rw [Gn (l:=ins) (by omega),gEg (by omega)];simp only [h1,beq_self_eq_true,cond_true,obs,if_true];rw [Ak (by omega)];rfl
  ·have b1:=beq_eq_false_iff_ne.2 h1;simp only [b1,cond_false,obs];rw [Ak (by omega)];rfl
 ·try dsimp only
  unfold Hb;rw [Bg (by omega),cond_false]
theorem Ass {ds:List Int} (hn:gs.length<=40) (hd:∀ x∈ds,0<=x∧x<gs.length) (hs:st.length=ds.length) (hdl:ds.length<=40) {v:List Int} (hv:v.length=gs.length):Aw (fun s_:Nat×List Int=>G9 ds st s_.1 s_.2) 4611686018427387904 (0,v)=some (Db (psB ds st ds.length) v):=by
 refine A4 ds.length (fun k=>(k,Db (psB ds st k) v)) (by omega) _ rfl (fun k hk=>?_) ?_
 ·have h1:ds[k]? =some (gtD ds (k:Int)):=by have:=Afe (l:=ds) (x:=(k:Int)) (by omega); rwa [Int.toNat_natCast] at this
  have h2:st[k]? =some (gtD st (k:Int)):=by have:=Afe (l:=st) (x:=(k:Int)) (by omega); rwa [Int.toNat_natCast] at this
  have hr:=hd _ (List.mem_of_getElem? h1);have hl:(Db (psB ds st k) v).length=gs.length:=by rw [Ha,hv]
  try dsimp only
  unfold G9;rw [Bd (by omega),cond_true,h1,obs,h2,obs,Gn (by omega),obs,Ak (by omega),Axk,Aks];rfl
 ·try dsimp only
  unfold G9;rw [Bg (by omega),cond_false]
def Ky (p:Int) (gs:List Gt) (v:List Int) (x:Int):List Int :=
 if (gtG gs x).1=3 then v.set x.toNat ((gtD v (gtG gs x).2.1+gtD v (gtG gs x).2.2.1) % p) else v.set x.toNat (((gtG gs x).2.2.2*gtD v (gtG gs x).2.1) % p)
theorem At4 (v:List Int) (x:Int):(Ky p gs v x).length=v.length:=by unfold Ky; split <;> simp
theorem Atx (hp:2<=p) {v:List Int} (h:inP p v) (x:Int):inP p (Ky p gs v x):=by
 have m1:∀ x:Int,0<=x % p∧x % p<p:=fun x=>⟨Int.emod_nonneg x (by omega),Int.emod_lt_of_pos x (by omega)⟩
 unfold Ky; split <;> exact Ams h (m1 _)
theorem W7:∀ (os v:List Int),(os.foldl (Ky p gs) v).length=v.length
 | [],_=>rfl
 | x :: os,v=>by rw [List.foldl_cons,W7 os,At4]
theorem Xb (hp:2<=p):∀ (os v:List Int),inP p v->inP p (os.foldl (Ky p gs) v)
 | [],_,h=>h
 | x :: os,v,h=>by rw [List.foldl_cons]; exact Xb hp os _ (Atx hp h x)
def okO (gs:List Gt) (os:List Int):Prop:=∀ x∈os,(0<=x∧x<gs.length)∧cmG (gtG gs x)=true
theorem Awr:∀ (m:Nat) (dn:List Bool),dn.length=gs.length->(∀ (k:Nat) (e:Gt),gs[k]? =some e->dn.getD k true=false->cmG e=true)->okO gs (run gs m dn).1
 | 0,_,_,_=>fun x hx=>by cases hx
 | m+1,dn,hl,hc=>by
  unfold run;cases hx:nxt gs dn with
  | none=>exact fun x hx=>by cases hx
  | some j =>
   obtain ⟨h1,h2⟩:=Pr hx;have hd:=Acm h2 hl;intro x hx;rcases List.mem_cons.1 hx with rfl | hx
   ·have he:=gEg h1;refine ⟨by omega,?_⟩;rw [Alw he];exact hc j _ he (by rw [gDg,hd]; rfl)
   ·refine Awr m (dn.set j true) (by simp [hl]) (fun k e hk hdk=>?_) x hx;rw [Aih (by omega)] at hdk;by_cases e':k=j
    ·rw [if_pos e'] at hdk; cases hdk
    ·rw [if_neg e'] at hdk; exact hc k e hk hdk
theorem Axl:okO gs (Yv gs).1:=Awr gs.length (dn0 gs) (by simp [dn0]) fun k e hk hd=>by
 have:(dn0 gs).getD k true= !cmG e:=by simp [dn0,gDg,hk]
 rw [this] at hd
 simpa using hd
theorem Asd (hn:gs.length<=40):(Yv gs).1.length<=40:=by
 have:=Ayo (gs:=gs) (m:=gs.length) (dn:=dn0 gs) (by simp [dn0]) (Nat.le_trans List.count_le_length (by simp [dn0]));unfold Yv; omega
theorem Asu (G:Le p i gs outs) {x:Int} (hx:0<=x∧x<gs.length) (hc:cmG (gtG gs x)=true):((gtG gs x).1=3∧(0<=(gtG gs x).2.1∧(gtG gs x).2.1<gs.length)∧0<=(gtG gs x).2.2.1∧(gtG gs x).2.2.1<gs.length)∨((gtG gs x).1=4∧(0<=(gtG gs x).2.1∧(gtG gs x).2.1<gs.length)∧0<=(gtG gs x).2.2.2∧(gtG gs x).2.2.2<p):=by
 have hb:=Acj (List.all_eq_true.1 G.ga _ (Aep hx));generalize gtG gs x=e at hb hc;simp only [cmG,Bool.or_eq_true,beq_iff_eq] at hc;rcases hc with h3 | h4
 ·exact .inl ⟨h3,hb.1 _ (by simp [opG,h3]),hb.1 _ (by simp [opG,h3])⟩
 ·exact .inr ⟨h4,hb.1 _ (by simp [opG,h4]),hb.2.2 h4⟩
theorem Ay5 (G:Le p i gs outs) {os v:List Int} (hok:okO gs os) (hol:os.length<=40) (hv:v.length=gs.length) (hvP:inP p v):Aw (fun s_:Nat×List Int=>Fi os gs p s_.1 s_.2) 4611686018427387904 (0,v)=some (os.foldl (Ky p gs) v):=by
 have hn:=G.hn; have hp:=G.hp;rw [A4 (s0:=(0,v)) os.length (fun k=>(k,(os.take k).foldl (Ky p gs) v)) (by omega) (os.foldl (Ky p gs) v) (by simp) (fun k hk=>?_) ?_]
 ·try dsimp only
  unfold Fi;rw [Bg (by omega),cond_false,List.take_length]
 ·have hx:=gEg hk;obtain ⟨hr,hc⟩:=hok _ (List.getElem_mem hk);generalize os[k]=x at hx hr hc;have hgo:=Asu G hr hc;have hl:=W7 (p:=p) (gs:=gs) (os.take k) v;have hP:=Xb (gs:=gs) hp.1 (os.take k) v hvP;rw [List.take_add_one,hx,List.foldl_append];generalize (os.take k).foldl (Ky p gs) v=u at hl hP;show Fi os gs p k u=some (Ctl.next (k+1,Ky p gs u x));unfold Fi Ky;rw [Bd (by omega),cond_true,hx,obs,Aft hr,obs,Gn (l:=u) (x:=x) (by omega)];generalize gtG gs x=e at hgo;rcases hgo with ⟨h3,hA,hB⟩ | ⟨h4,hA,hV⟩
  ·rw [Gn (l:=u) (x:=e.2.1) (by omega),Gn (l:=u) (x:=e.2.2.1) (by omega),if_pos h3];simp only [h3,beq_self_eq_true,cond_true,obs];rw [Azv hp (Rv hP (by omega)) (Rv hP (by omega)),obs,obs,Ak (by omega)]
  ·have h3:e.1≠3:=by omega
   have b3:=beq_eq_false_iff_ne.2 h3;rw [Gn (l:=u) (x:=e.2.1) (by omega),if_neg h3,b3,cond_false,obs,Aeg hp hV (Rv hP (by omega)),obs,obs,obs,Ak (by omega)]
theorem Av9 (G:Le p i gs outs) {os v:List Int} {b:Bool} (hok:okO gs os) (hol:os.length<=40) (hv:v.length=gs.length) (hvP:inP p v):Aw (fun s_:Nat×List Int=>Cp (os,b) gs p s_.1 s_.2) 4611686018427387904 (0,v)=some (os.foldl (Ky p gs) v):=by
 have hn:=G.hn; have hp:=G.hp;rw [A4 (s0:=(0,v)) os.length (fun k=>(k,(os.take k).foldl (Ky p gs) v)) (by omega) (os.foldl (Ky p gs) v) (by simp) (fun k hk=>?_) ?_]
 ·unfold Cp;dsimp only;rw [Bg (by omega),cond_false,List.take_length]
 ·have hx:=gEg hk;obtain ⟨hr,hc⟩:=hok _ (List.getElem_mem hk);generalize os[k]=x at hx hr hc;have hgo:=Asu G hr hc;have hl:=W7 (p:=p) (gs:=gs) (os.take k) v;have hP:=Xb (gs:=gs) hp.1 (os.take k) v hvP;rw [List.take_add_one,hx,List.foldl_append];generalize (os.take k).foldl (Ky p gs) v=u at hl hP;show Cp (os,b) gs p k u=some (Ctl.next (k+1,Ky p gs u x));unfold Cp Ky;dsimp only;rw [Bd (by omega),cond_true,hx,obs,Aft hr,obs,Gn (l:=u) (x:=x) (by omega)];generalize gtG gs x=e at hgo;rcases hgo with ⟨h3,hA,hB⟩ | ⟨h4,hA,hV⟩
  ·have q1:=Rv hP (x:=e.2.1) (by omega);have q2:=Rv hP (x:=e.2.2.1) (by omega);rw [Gn (l:=u) (x:=e.2.1) (by omega),Gn (l:=u) (x:=e.2.2.1) (by omega),if_pos h3];simp only [h3,beq_self_eq_true,cond_true,obs];rw [D6 (n:=gtD u e.2.1+gtD u e.2.2.1) (by omega) (by omega),Ar5 hp,obs,obs,Ak (by omega)]
  ·have h3:e.1≠3:=by omega
   have b3:=beq_eq_false_iff_ne.2 h3;have q1:=Rv hP (x:=e.2.1) (by omega);have hm:=Yj hp hV q1;rw [Gn (l:=u) (x:=e.2.1) (by omega),if_neg h3,b3,cond_false,obs,D6 (n:=e.2.2.2*gtD u e.2.1) (by omega) (by omega),Ar5 hp,obs,obs,obs,Ak (by omega)]
def Ac9 (gs:List Gt) (v:List Int):List Int:=(dl gs).map fun d=>gtD v (gtG gs d).2.1
theorem Asi (G:Le p i gs outs) {v:List Int} (hv:v.length=gs.length):Aw (fun s_:Nat×List Int=>Hc (dl gs) gs v s_.1 s_.2) 4611686018427387904 (0,[])=some ([]++Ac9 gs v):=by
 have hn:=G.hn;have hdl:(dl gs).length<=40:=Nat.le_trans (Oz _) hn.2;refine D3 (dl gs) (fun d=>gtD v (gtG gs d).2.1) [] (by omega) _ (fun j d h=>?_) ?_
 ·have hlt:=As h;obtain ⟨hr,h5⟩:=Afh (List.mem_of_getElem? h);have hb:=Acj (List.all_eq_true.1 G.ga _ (Aep hr));have hA:=hb.1 (gtG gs d).2.1 (by simp [opG,h5])
  try dsimp only
  unfold Hc;rw [Bd (by omega),cond_true,h,obs,Aft hr,obs,Gn (by omega),obs,Ak (by simp; omega),Ak (by omega)]
 ·try dsimp only
  unfold Hc;rw [Bg (by omega),cond_false]; rfl
theorem A1z {v:List Int} (ho:outs.length<=8) (hi:∀ x∈outs,0<=x∧x<v.length):Ke outs v=some (outs.map (gtD v)):=by
 unfold Ke
 have key:Aw (fun s_:Nat×List Int=>Hh outs v s_.1 s_.2) 4611686018427387904 (0,[])=some ([]++outs.map (gtD v)):=by
  refine D3 outs (gtD v) [] (by omega) _ (fun j x h=>?_) ?_
  ·have hlt:=As h;have h1:=hi x (List.mem_of_getElem? h)
   try dsimp only
   unfold Hh;rw [Bd (by omega),cond_true,h,obs,Gn h1,obs,Ak (by simp; omega),Ak (by omega)]
  ·try dsimp only
   unfold Hh;rw [Bg (by omega),cond_false]
 rw [key]; rfl
theorem Axv {v:List Int} (ho:outs.length<=8) (hi:∀ x∈outs,0<=x∧x<v.length):Fb v outs=some (outs.map (gtD v)):=by
 unfold Fb;rw [Ak (by omega)]
 have key:Aw (fun s_:Nat×List Int=>Co outs v s_.1 s_.2) 4611686018427387904 (0,List.replicate 0 (0:Int))=some ([]++outs.map (gtD v)):=by
  refine D3 outs (gtD v) [] (by omega) _ (fun j x h=>?_) ?_
  ·have hlt:=As h;have h1:=hi x (List.mem_of_getElem? h)
   try dsimp only
   unfold Co;rw [Bd (by omega),cond_true,h,obs,Gn h1,obs,Ak (by simp; omega),Ak (by omega)]
  ·try dsimp only
   unfold Co;rw [Bg (by omega),cond_false]
 rw [key]; rfl
def Abx (p:Int) (gs:List Gt) (st ins:List Int):List Int:=(Yv gs).1.foldl (Ky p gs) (Db (psB (dl gs) st (dl gs).length) (Db (psA gs ins gs.length) (List.replicate gs.length 0)))
theorem Ati {a:Nat×Int} (h:a∈psA gs ins gs.length):∃ j:Nat,j<gs.length∧(gtG gs (j:Int)).1=1∧a=(j,gtD ins (gtG gs (j:Int)).2.2.2):=by
 unfold psA at h;obtain ⟨j,hj,rfl⟩:=List.mem_map.1 h;obtain ⟨h1,h2⟩:=List.mem_filter.1 hj;exact ⟨j,List.mem_range.1 h1,by simpa using h2,rfl⟩
theorem Ar7 {a:Nat×Int} (hs:st.length=(dl gs).length) (h:a∈psB (dl gs) st (dl gs).length):∃ d,d∈dl gs∧a.1=d.toNat∧∃ t:Nat,t<st.length∧a.2=gtD st (t:Int):=by
 unfold psB at h;obtain ⟨t,ht,rfl⟩:=List.mem_map.1 h;have ht:=List.mem_range.1 ht;refine ⟨gtD (dl gs) (t:Int),?_,rfl,t,by omega,rfl⟩;have:=Afe (l:=dl gs) (x:=(t:Int)) (by omega);exact List.mem_of_getElem? this
theorem Azt (hs:st.length=(dl gs).length) (v:List Int):Db (psA gs ins gs.length) (Db (psB (dl gs) st (dl gs).length) v)=Db (psB (dl gs) st (dl gs).length) (Db (psA gs ins gs.length) v):=by
 refine Ae1 _ _ _ fun a ha b hb e=>?_
 obtain ⟨j,hj,h1,rfl⟩:=Ati ha;obtain ⟨d,hd,hb1,_⟩:=Ar7 hs hb;obtain ⟨hr,h5⟩:=Afh hd;dsimp only at e;have:(j:Int)=d:=by omega
 rw [this,h5] at h1;omega
theorem Arp (G:Le p i gs outs) (hs:st.length=(dl gs).length) (hsP:inP p st) (hi:((ins.length:Nat):Int)=i) (hiP:inP p ins):inP p (Db (psB (dl gs) st (dl gs).length) (Db (psA gs ins gs.length) (List.replicate gs.length 0))):=by
 have hp:=G.hp;refine Acr _ _ (fun a ha=>?_) (Acr _ _ (fun a ha=>?_) fun x hx=>?_)
 ·obtain ⟨_,_,_,t,ht,e⟩:=Ar7 hs ha;rw [e]; exact Rv hsP (by omega)
 ·obtain ⟨j,hj,h1,rfl⟩:=Ati ha;have hb:=List.all_eq_true.1 G.ga _ (Aep (gs:=gs) (x:=(j:Int)) (by omega));have:=Ac2 hb h1;exact Rv hiP (by omega)
 ·obtain rfl:=List.eq_of_mem_replicate hx; omega
theorem Wv:(Abx p gs st ins).length=gs.length:=by
 unfold Abx;rw [W7,Ha,Ha,List.length_replicate]
theorem Aoc (G:Le p i gs outs) (hs:st.length=(dl gs).length) (hsP:inP p st) (hi:((ins.length:Nat):Int)=i) (hiP:inP p ins):Iq p i gs outs st ins=some (Ac9 gs (Abx p gs st ins),outs.map (gtD (Abx p gs st ins))):=by
 have hn:=G.hn;have hdl:(dl gs).length<=40:=Nat.le_trans (Oz _) hn.2;unfold Iq
 rw [Ak (by omega),Asr G hi (by simp),obs,T2 hn.2,obs,Ass hn.2 (fun x hx=>(Afh hx).1) hs hdl (by rw [Ha]; simp),obs,
  Ako (Al3 G.ga) hn.2,obs,Ay5 G Axl (Asd hn.2) (by rw [Ha,Ha]; simp) (Arp G hs hsP hi hiP),obs]
 have hv:(List.foldl (Ky p gs) (Db (psB (dl gs) st (dl gs).length) (Db (psA gs ins gs.length) (List.replicate gs.length 0))) (Yv gs).1)=Abx p gs st ins:=rfl;rw [hv,obs,Asi G Wv,obs,A1z G.ho (by rw [Wv]; exact G.io)];rfl
theorem Ac5 (G:Le p i gs outs) (hs:st.length=(dl gs).length) (hsP:inP p st) (hi:((ins.length:Nat):Int)=i) (hiP:inP p ins):Di i gs outs p st ins=some (Ac9 gs (Abx p gs st ins),outs.map (gtD (Abx p gs st ins))):=by
 have hn:=G.hn;have hdl:(dl gs).length<=40:=Nat.le_trans (Oz _) hn.2;have hB:Aw (fun s_:Nat×List Int=>Ia (dl gs) st s_.1 s_.2) 4611686018427387904 (0,List.replicate gs.length 0)=some (Db (psB (dl gs) st (dl gs).length) (List.replicate gs.length 0)):=Ass hn.2 (fun x hx=>(Afh hx).1) hs hdl (by simp);have hA:Aw (fun s_:Nat×List Int=>H9 gs ins s_.1 s_.2) 4611686018427387904 (0,Db (psB (dl gs) st (dl gs).length) (List.replicate gs.length 0))=some (Db (psA gs ins gs.length) (Db (psB (dl gs) st (dl gs).length) (List.replicate gs.length 0))):=Asr G hi (by rw [Ha]; simp);have hN:Aw (fun s_:Nat×List Int=>Id (dl gs) gs (Abx p gs st ins) s_.1 s_.2) 4611686018427387904 (0,[])=some ([]++Ac9 gs (Abx p gs st ins)):=Asi G Wv;unfold Di
 rw [T0 (by omega),obs,Ao6 hn.2,obs,Int.toNat_natCast,hB,obs,hA,obs,Azt hs,Ae8 (Al3 G.ga) hn.2,if_pos G.al,obs,
  Av9 G Axl (Asd hn.2) (by rw [Ha,Ha]; simp) (Arp G hs hsP hi hiP),obs]
 have hv:(List.foldl (Ky p gs) (Db (psB (dl gs) st (dl gs).length) (Db (psA gs ins gs.length) (List.replicate gs.length 0))) (Yv gs).1)=Abx p gs st ins:=rfl;rw [hv,hN,obs,Axv G.ho (by rw [Wv]; exact G.io)];rfl
end
end
section
def uV (n k:Nat):List Int:=(List.replicate n 0).set k 1
theorem Aca (n k:Nat):(uV n k).length=n:=by simp [uV]
theorem Yl {p:Int} (hp:2<=p) (n:Nat):inP p (List.replicate n 0):=fun x hx=>by obtain rfl:=(List.mem_replicate.1 hx).2; omega
theorem Acg {p:Int} (hp:2<=p) (n k:Nat):inP p (uV n k):=Ams (Yl hp n) (by omega)
theorem Ao4 {a b:Int} (h:0<=b∧b<a) (ha:a<=1000):Fe a b=some (uV a.toNat b.toNat):=by
 unfold Fe;rw [Ak (by omega),C5 h.1,List.getElem?_replicate,if_pos (by omega),obs]; rfl
theorem Avy {a b:Int} (h:0<=b∧b<a) (ha:a<=1000):Ee a b=some (uV a.toNat b.toNat):=by
 unfold Ee;rw [T0 (by omega),obs,C5 h.1,List.getElem?_replicate,if_pos (by omega),obs]; rfl
section
variable {p i:Int} {gs:List Gt} {outs:List Int}
def nxO (p:Int) (gs:List Gt) (outs st ins:List Int):List Int×List Int:=(Ac9 gs (Abx p gs st ins),outs.map (gtD (Abx p gs st ins)))
def Azn (p i:Int) (gs:List Gt) (outs:List Int) (k:Nat):List Int×List Int:=nxO p gs outs (uV (dl gs).length k) (List.replicate i.toNat 0)
def Azg (p i:Int) (gs:List Gt) (outs:List Int) (k:Nat):List Int×List Int:=nxO p gs outs (List.replicate (dl gs).length 0) (uV i.toNat k)
def Ajw (p i:Int) (gs:List Gt) (outs:List Int) (n:Nat):List (List Int):=(List.range n).map fun k=>(Azn p i gs outs k).1
def Ajn (p i:Int) (gs:List Gt) (outs:List Int) (n:Nat):List (List Int):=(List.range n).map fun k=>(Azn p i gs outs k).2
def Ajm (p i:Int) (gs:List Gt) (outs:List Int) (n:Nat):List (List Int):=(List.range n).map fun k=>(Azg p i gs outs k).1
def Aj0 (p i:Int) (gs:List Gt) (outs:List Int) (n:Nat):List (List Int):=(List.range n).map fun k=>(Azg p i gs outs k).2
theorem Aaq {α:Type} (f:Nat->α) (k:Nat):(List.range (k+1)).map f=(List.range k).map f++[f k]:=by rw [List.range_succ,List.map_append]; rfl
theorem K4 {α:Type} (f:Nat->α) (k:Nat):((List.range k).map f).length=k:=by simp
theorem Axm (G:Le p i gs outs) (st ins:List Int):(nxO p gs outs st ins).1.length<=40∧(nxO p gs outs st ins).2.length<=8:=by
 refine ⟨?_,?_⟩
 ·show (Ac9 gs _).length<=40;unfold Ac9;rw [List.length_map];exact Nat.le_trans (Oz _) G.hn.2
 ·show (outs.map _).length<=8;rw [List.length_map]; exact G.ho
theorem A2c (G:Le p i gs outs):Aw (fun s_:Nat×List (List Int)×List (List Int)=>D0 (dl gs) i p gs outs s_.1 s_.2.1 s_.2.2) 4611686018427387904 (0,[],[])=some (Ajw p i gs outs (dl gs).length,Ajn p i gs outs (dl gs).length):=by
 have hi:=G.hi; have hn:=G.hn; have hp:=G.hp;have hdl:(dl gs).length<=40:=Nat.le_trans (Oz _) hn.2;refine A4 (dl gs).length (fun k=>(k,Ajw p i gs outs k,Ajn p i gs outs k)) (by omega) _ rfl (fun k hk=>?_) ?_
 ·have hs:=Aoc (st:=uV (dl gs).length k) (ins:=List.replicate i.toNat 0) G (Aca _ _) (Acg hp.1 _ _) (by simp; omega) (Yl hp.1 _);have hl:=Axm G (uV (dl gs).length k) (List.replicate i.toNat 0);have hu:Fe (((dl gs).length:Nat):Int) ((k:Nat):Int)=some (uV (dl gs).length k):=Ao4 (by omega) (by omega)
  try dsimp only
  unfold D0;rw [Bd (by omega),cond_true,hu,obs,Ak (by omega),hs,obs,Qz _ (by have:=hl.1; show (nxO p gs outs _ _).1.length<=_; omega),obs,Ak (by simp only [Ajw,K4]; omega),Qz _ (by have:=hl.2; show (nxO p gs outs _ _).2.length<=_; omega),obs,Ak (by simp only [Ajn,K4]; omega),Ak (by omega)];simp only [Ajw,Ajn,Aaq]; rfl
 ·try dsimp only
  unfold D0;rw [Bg (by omega),cond_false]
theorem A10 (G:Le p i gs outs):Aw (fun s_:Nat×List (List Int)×List (List Int)=>Cy (dl gs) i gs outs p s_.1 s_.2.1 s_.2.2) 4611686018427387904 (0,[],[])=some (Ajw p i gs outs (dl gs).length,Ajn p i gs outs (dl gs).length):=by
 have hi:=G.hi; have hn:=G.hn; have hp:=G.hp;have hdl:(dl gs).length<=40:=Nat.le_trans (Oz _) hn.2;refine A4 (dl gs).length (fun k=>(k,Ajw p i gs outs k,Ajn p i gs outs k)) (by omega) _ rfl (fun k hk=>?_) ?_
 ·have hs:=Ac5 (st:=uV (dl gs).length k) (ins:=List.replicate i.toNat 0) G (Aca _ _) (Acg hp.1 _ _) (by simp; omega) (Yl hp.1 _);have hu:Ee (((dl gs).length:Nat):Int) ((k:Nat):Int)=some (uV (dl gs).length k):=Avy (by omega) (by omega)
  try dsimp only
  unfold Cy;rw [Bd (by omega),cond_true,hu,obs,T0 (by omega),obs,hs,obs,Ak (by simp only [Ajw,K4]; omega),Ak (by simp only [Ajn,K4]; omega),Ak (by omega)];simp only [Ajw,Ajn,Aaq]; rfl
 ·try dsimp only
  unfold Cy;rw [Bg (by omega),cond_false]
theorem A2f (G:Le p i gs outs):Aw (fun s_:Nat×List (List Int)×List (List Int)=>Dv i (dl gs) p gs outs s_.1 s_.2.1 s_.2.2) 4611686018427387904 (0,[],[])=some (Ajm p i gs outs i.toNat,Aj0 p i gs outs i.toNat):=by
 have hi:=G.hi; have hn:=G.hn; have hp:=G.hp;have hdl:(dl gs).length<=40:=Nat.le_trans (Oz _) hn.2;refine A4 i.toNat (fun k=>(k,Ajm p i gs outs k,Aj0 p i gs outs k)) (by omega) _ rfl (fun k hk=>?_) ?_
 ·have hs:=Aoc (st:=List.replicate (dl gs).length 0) (ins:=uV i.toNat k) G (by simp) (Yl hp.1 _) (by rw [Aca]; omega) (Acg hp.1 _ _);have hl:=Axm G (List.replicate (dl gs).length 0) (uV i.toNat k);have hu:Fe i ((k:Nat):Int)=some (uV i.toNat k):=Ao4 (by omega) (by omega)
  try dsimp only
  unfold Dv;rw [Bd (by omega),cond_true,Ak (by omega),hu,obs,hs,obs,Qz _ (by have:=hl.1; show (nxO p gs outs _ _).1.length<=_; omega),obs,Ak (by simp only [Ajm,K4]; omega),Qz _ (by have:=hl.2; show (nxO p gs outs _ _).2.length<=_; omega),obs,Ak (by simp only [Aj0,K4]; omega),Ak (by omega)];simp only [Ajm,Aj0,Aaq]; rfl
 ·try dsimp only
  unfold Dv;rw [Bg (by omega),cond_false]
theorem A15 (G:Le p i gs outs):Aw (fun s_:Nat×List (List Int)×List (List Int)=>Cx i (dl gs) gs outs p s_.1 s_.2.1 s_.2.2) 4611686018427387904 (0,[],[])=some (Ajm p i gs outs i.toNat,Aj0 p i gs outs i.toNat):=by
 have hi:=G.hi; have hn:=G.hn; have hp:=G.hp;have hdl:(dl gs).length<=40:=Nat.le_trans (Oz _) hn.2;refine A4 i.toNat (fun k=>(k,Ajm p i gs outs k,Aj0 p i gs outs k)) (by omega) _ rfl (fun k hk=>?_) ?_
 ·have hs:=Ac5 (st:=List.replicate (dl gs).length 0) (ins:=uV i.toNat k) G (by simp) (Yl hp.1 _) (by rw [Aca]; omega) (Acg hp.1 _ _);have hu:Ee i ((k:Nat):Int)=some (uV i.toNat k):=Avy (by omega) (by omega)
  try dsimp only
  unfold Cx;rw [Bd (by omega),cond_true,T0 (by omega),obs,hu,obs,Int.toNat_natCast,hs,obs,Ak (by simp only [Ajm,K4]; omega),Ak (by simp only [Aj0,K4]; omega),Ak (by omega)];simp only [Ajm,Aj0,Aaq]; rfl
 ·try dsimp only
  unfold Cx;rw [Bg (by omega),cond_false]
end
end
section
section
variable {p i:Int} {gs:List Gt} {outs:List Int}
theorem Avs {st ins:List Int} (G:Le p i gs outs) (hs:st.length=(dl gs).length) (hsP:inP p st) (hi:((ins.length:Nat):Int)=i) (hiP:inP p ins):inP p (Abx p gs st ins) :=
 Xb G.hp.1 _ _ (Arp G hs hsP hi hiP)
theorem Av0 {st ins:List Int} (G:Le p i gs outs) (hs:st.length=(dl gs).length) (hsP:inP p st) (hi:((ins.length:Nat):Int)=i) (hiP:inP p ins):VecW p (dl gs).length (nxO p gs outs st ins).1∧VecW p outs.length (nxO p gs outs st ins).2:=by
 have hv:=Avs G hs hsP hi hiP;have hl:=Wv (p:=p) (gs:=gs) (st:=st) (ins:=ins);refine ⟨⟨by simp [nxO,Ac9],fun a ha=>?_⟩,⟨by simp [nxO],fun a ha=>?_⟩⟩
 ·obtain ⟨d,hd,rfl⟩:=List.mem_map.1 ha;obtain ⟨hr,h5⟩:=Afh hd;have hb:=Acj (List.all_eq_true.1 G.ga _ (Aep hr));have hA:=hb.1 (gtG gs d).2.1 (by simp [opG,h5]);exact Rv hv (by omega)
 ·obtain ⟨d,hd,rfl⟩:=List.mem_map.1 ha;have:=G.io d hd;exact Rv hv (by omega)
theorem Apu (G:Le p i gs outs) (k:Nat):VecW p (dl gs).length (Azn p i gs outs k).1∧VecW p outs.length (Azn p i gs outs k).2:=by
 have hi:=G.hi;exact Av0 G (Aca _ _) (Acg G.hp.1 _ _) (by simp; omega) (Yl G.hp.1 _)
theorem Apb (G:Le p i gs outs) (k:Nat):VecW p (dl gs).length (Azg p i gs outs k).1∧VecW p outs.length (Azg p i gs outs k).2:=by
 have hi:=G.hi;exact Av0 G (by simp) (Yl G.hp.1 _) (by rw [Aca]; omega) (Acg G.hp.1 _ _)
theorem Aeq {w n:Nat} {f:Nat->List Int} (h:∀ k,VecW p w (f k)):MatW p w ((List.range n).map f):=fun x hx=>by
 obtain ⟨k,_,rfl⟩:=List.mem_map.1 hx; exact h k
abbrev Zp:=Int×Int×Int×List (List Int)×List (List Int)×List (List Int)×List (List Int)
abbrev ZpB:=Int×Int×Int×List (List Int)×List (List Int)×List (List Int)×List (List Int)×Bool
def zB (z:Zp) (b:Bool):ZpB:=(z.1,z.2.1,z.2.2.1,z.2.2.2.1,z.2.2.2.2.1,z.2.2.2.2.2.1,z.2.2.2.2.2.2,b)
def z0:ZpB:=(0,0,0,[],[],[],[],false)
def A0q (p i:Int) (gs:List Gt) (outs:List Int):Zp:=(((dl gs).length:Nat),i,((outs.length:Nat):Int),Ajw p i gs outs (dl gs).length,Ajm p i gs outs i.toNat,Ajn p i gs outs (dl gs).length,Aj0 p i gs outs i.toNat)
theorem Aul (G:Le p i gs outs) (h:(dl gs).length<=24):Ac4 p (dl gs).length i.toNat outs.length (Ajw p i gs outs (dl gs).length) (Ajm p i gs outs i.toNat) (Ajn p i gs outs (dl gs).length) (Aj0 p i gs outs i.toNat):=by
 have hi:=G.hi;exact ⟨G.fp,h,by omega,G.ho,K4 _ _,K4 _ _,K4 _ _,K4 _ _,Aeq fun k=>(Apu G k).1,Aeq fun k=>(Apb G k).1,Aeq fun k=>(Apu G k).2,Aeq fun k=>(Apb G k).2⟩
theorem Arv (h1:gs.length<=1073741824) (h2:outs.length<=1073741824):Dy p i gs outs=some (if Zt p i gs outs=true∧(dl gs).length<=24 then zB (A0q p i gs outs) true else z0):=by
 unfold Dy;rw [Aws (by omega) (by omega),obs];cases hc:Zt p i gs outs
 ·rfl
 have G:=Akn.1 hc;have hn:=G.hn;rw [Bool.not_true,cond_false,T2 hn.2,obs,obs];by_cases h:(dl gs).length<=24
 ·rw [Bg (by omega),cond_false,if_pos ⟨rfl,h⟩];unfold H8;rw [T2 hn.2,obs,A2c G,obs];dsimp only;rw [A2f G]; rfl
 ·rw [Bd (by omega),cond_true,if_neg (by simp [h])]; rfl
theorem Aqb (G:Le p i gs outs):Dw p i gs outs=some (if (dl gs).length<=24 then zB (A0q p i gs outs) true else z0):=by
 have hn:=G.hn;unfold Dw;rw [Ao6 hn.2,obs];by_cases h:(dl gs).length<=24
 ·rw [Bg (by omega),cond_false,if_pos h,A10 G,obs];dsimp only;rw [A15 G]; rfl
 ·rw [Bd (by omega),cond_true,if_neg h]; rfl
end
end
section
def szV (v:Int) (n:Nat):Int:=if v<n then -1 else v - n
theorem Avw (xs:List Int) {v:Int} (hv:0<=v∧v<=1048576) (hx:xs.length<=9223372036854775807):Kb xs v=some (szV v xs.length):=by
 unfold Kb szV;rw [D6 (by omega) (by omega)];by_cases h:v<xs.length
 ·rw [Bd (by omega),if_pos h]; rfl
 ·rw [Bg (by omega),if_neg h]; rfl
theorem Ava (xs:List Int) (hx:xs.length<=1073741824):Kr xs=some xs:=by
 unfold Kr;rw [Ak (by omega)]
 have h:Aw (fun s_:Nat×List Int=>Hd xs s_.1 s_.2) 4611686018427387904 (0,List.replicate xs.length (0:Int))=some xs:=by
  refine A4 xs.length (fun i=>(i,xs.take i++List.replicate (xs.length - i) 0)) (by omega) xs (by simp) (fun i hi=>?_) ?_
  ·have hx:=gEg hi
   try dsimp only
   unfold Hd;rw [Bd (by omega),cond_true,hx,obs,So hi,obs,Ak (by omega),Sf hx]
  ·try dsimp only
   unfold Hd;rw [Bg (by omega),cond_false];simp
 rw [h]; rfl
theorem Av2 (xs:List Int) (hx:xs.length<=1073741824):Kn xs xs=some true:=by
 unfold Kn
 have h:Aw (fun s_:Nat=>Ht xs xs s_) 4611686018427387904 0=some (.next ()):=by
  refine A4 xs.length (fun i=>i) (by omega) _ rfl (fun i hi=>?_) ?_
  ·have hx:=gEg hi
   try dsimp only
   unfold Ht;rw [Bd (by omega),cond_true,hx,obs,obs,bne_self_eq_false,cond_false,Ak (by omega)]
  ·try dsimp only
   unfold Ht;rw [Bg (by omega),cond_false]
 rw [h,bne_self_eq_false,cond_false]; rfl
theorem Att (xs:List (Int×Int×Int×Int)) {v:Int} (hv:0<=v∧v<=1048576) (hx:xs.length<=9223372036854775807):Je xs v=some (szV v xs.length):=by
 unfold Je szV;rw [D6 (by omega) (by omega)];by_cases h:v<xs.length
 ·rw [Bd (by omega),if_pos h]; rfl
 ·rw [Bg (by omega),if_neg h]; rfl
theorem Aun (xs:List (Int×Int×Int×Int)) (hx:xs.length<=1073741824):I5 xs=some xs:=by
 unfold I5;rw [Ak (by omega)]
 have h:Aw (fun s_:Nat×List (Int×Int×Int×Int)=>Gj xs s_.1 s_.2) 4611686018427387904 (0,List.replicate xs.length ((0,0,0,0):Int×Int×Int×Int))=some xs:=by
  refine A4 xs.length (fun i=>(i,xs.take i++List.replicate (xs.length - i) (0,0,0,0))) (by omega) xs (by simp) (fun i hi=>?_) ?_
  ·have hx:=gEg hi
   try dsimp only
   unfold Gj M5;rw [Bd (by omega),cond_true,hx,obs,obs,So hi,obs,Ak (by omega),Sf hx]
  ·try dsimp only
   unfold Gj;rw [Bg (by omega),cond_false];simp
 rw [h]; rfl
theorem Auf (xs:List (Int×Int×Int×Int)) (hx:xs.length<=1073741824):I3 xs xs=some true:=by
 unfold I3
 have h:Aw (fun s_:Nat=>Ge xs xs s_) 4611686018427387904 0=some (.next ()):=by
  refine A4 xs.length (fun i=>i) (by omega) _ rfl (fun i hi=>?_) ?_
  ·have hx:=gEg hi
   try dsimp only
   unfold Ge Nb;rw [Bd (by omega),cond_true,hx,obs,obs];simp only [bne_self_eq_false,cond_false,obs,Bool.not_true];rw [Ak (by omega)]
  ·try dsimp only
   unfold Ge;rw [Bg (by omega),cond_false]
 rw [h,bne_self_eq_false,cond_false]; rfl
theorem Aol (n0:Int) (s1:List (Int×Int×Int×Int)) (s2:List Int) {v:Int} (hv:0<=v∧v<=1048576) (hs1:s1.length<=9223372036854775807) (hs2:s2.length<=9223372036854775807):Hv n0 s1 s2 v=some (szV v (s1.length+s2.length)):=by
 unfold Hv;rw [Att s1 (by omega) hs1,obs];by_cases h0:v<s1.length
 ·rw [show szV v s1.length= -1 from if_pos h0,show szV v (s1.length+s2.length)= -1 from if_pos (by omega)]; rfl
 rw [show szV v s1.length=v - s1.length from if_neg h0,Bg (by omega),cond_false];rw [Avw s2 (by omega) hs2,obs];by_cases h1:v - s1.length<s2.length
 ·rw [show szV (v - s1.length) s2.length= -1 from if_pos h1,show szV v (s1.length+s2.length)= -1 from if_pos (by omega)]; rfl
 rw [show szV (v - s1.length) s2.length=v - s1.length - s2.length from if_neg h1,Bg (by omega),cond_false,show szV v (s1.length+s2.length)=v - s1.length - s2.length from by unfold szV; rw [if_neg (by omega)]; omega]
theorem Aoq (n0:Int) (s1:List (Int×Int×Int×Int)) (s2:List Int) (hs1:s1.length<=1073741824) (hs2:s2.length<=1073741824):D8 n0 s1 s2=some (n0,s1,s2):=by
 unfold D8;rw [Aun s1 hs1,Ava s2 hs2]; rfl
theorem An7 (n0:Int) (s1:List (Int×Int×Int×Int)) (s2:List Int) (hs1:s1.length<=1073741824) (hs2:s2.length<=1073741824):G6 n0 s1 s2 n0 s1 s2=some true:=by
 unfold G6;simp only [Auf s1 hs1,Av2 s2 hs2,bne_self_eq_false,cond_false,obs,Bool.not_true]
end
section
section
variable {p:Int} {n:Nat} {A B C u:List (List Int)}
def InO (n:Nat) (o:List Int):Prop:=∀ q∈o,0<=q∧q<(n:Int)
theorem Lx {α:Type} {d:α} {b:List α} {q:Int} (hb:b.length=n) (hq:0<=q∧q<(n:Int)):E2 b q=some (b.getD q.toNat d):=by
 rw [C5 hq.1,gEg (by omega),Bq (gEg (by omega))]
theorem Aux {b o:List Int} (hb:b.length=n) (ho:InO n o) (hl:o.length<=1000):Fb b o=some (Q0 o b):=by
 unfold Fb;have h:=D3 (body:=fun s_:Nat×List Int=>Co o b s_.1 s_.2) o (fun q=>b.getD q.toNat 0) [] (F:=4611686018427387904) (by omega) (Q0 o b) (fun i x h=>?_) ?_
 ·rw [Ak (by omega),show List.replicate 0 (0:Int)=[] from rfl,show Aw (fun s_:Nat×List Int=>Co o b s_.1 s_.2) 4611686018427387904 (0,[])=some (Q0 o b) by simpa using h,obs]
 ·have:=As h
  try dsimp only
  unfold Co;rw [Bd (by omega),cond_true,h,obs,Lx (d:=0) hb (ho x (List.mem_of_getElem? h)),obs,Ak (by simp; omega),Ak (by omega)]
 ·try dsimp only
  unfold Co;rw [Bg (by omega),cond_false,List.nil_append]; rfl
def Zx (R X:List (List Int)):List (List Int):=X.map fun x=>cvV R x R.length
theorem Asx {R X:List (List Int)} (h:Jl n R.length R (lv R)) (hX:MatW p n X):MatW p R.length (Zx R X):=fun y hy=>by
 obtain ⟨x,hx,rfl⟩:=List.mem_map.1 hy;exact A06 h (hX x hx)
theorem Arw (hp:isF p=true) (hA:MatW p n A) (lA:A.length=n) (hB:MatW p n B):MatW p n (Md p n A B)∧Jl n (Md p n A B).length (Md p n A B) (lv (Md p n A B))∧(Md p n A B).length<=n:=Jf (Aoy hp hA lA hB) n
theorem A0l {R X:List (List Int)} (hR:MatW p n R) (h:Jl n R.length R (lv R)) (hl:R.length<=24) (hX:MatW p n X) (hn:n<=24) (hx:X.length<=24) :
  Aw (fun s_:Nat×List (List Int)=>Dl X R s_.1 s_.2) 4611686018427387904 (0,[])=some (Zx R X)∧Aw (fun s_:Nat×List (List Int)=>Dk X R s_.1 s_.2) 4611686018427387904 (0,[])=some (Zx R X):=by
 constructor
 ·have h1:=D3 (body:=fun s_:Nat×List (List Int)=>Dl X R s_.1 s_.2) X (fun x=>cvV R x R.length) [] (F:=4611686018427387904) (by omega) (Zx R X) (fun i x hi=>?_) ?_
  ·simpa using h1
  ·have:=As hi
   try dsimp only
   unfold Dl;rw [Bd (by omega),cond_true,hi,obs,Ag9 hR h (hX x (List.mem_of_getElem? hi)) (by omega) (by omega),obs,Ak (by simp; omega),Ak (by omega)]
  ·try dsimp only
   unfold Dl;rw [Bg (by omega),cond_false,List.nil_append]; rfl
 ·have h1:=D3 (body:=fun s_:Nat×List (List Int)=>Dk X R s_.1 s_.2) X (fun x=>cvV R x R.length) [] (F:=4611686018427387904) (by omega) (Zx R X) (fun i x hi=>?_) ?_
  ·simpa using h1
  ·have:=As hi
   try dsimp only
   unfold Dk;rw [Bd (by omega),cond_true,hi,obs,Ag9 hR h (hX x (List.mem_of_getElem? hi)) (by omega) (by omega),obs,Ak (by simp; omega),Ak (by omega)]
  ·try dsimp only
   unfold Dk;rw [Bg (by omega),cond_false,List.nil_append]; rfl
theorem R5 {R X:List (List Int)} (hp:2<=p∧p<=97) (hR:MatW p n R) (h:Jl n R.length R (lv R)) (hl:R.length<=24) (hX:MatW p n X) (hn:n<=24) (hx:X.length<=24):Cv p R X=some (Zx R X):=by
 unfold Cv;have h1:=D3 (body:=fun s_:Nat×List (List Int)=>Cc X p R s_.1 s_.2) X (fun x=>cvV R x R.length) [] (F:=4611686018427387904) (by omega) (Zx R X) (fun i x hi=>?_) ?_
 ·rw [show Aw (fun s_:Nat×List (List Int)=>Cc X p R s_.1 s_.2) 4611686018427387904 (0,[])=some (Zx R X) by simpa using h1,obs]
 ·have:=As hi;obtain ⟨b,hb⟩:=Awl hp hR h (hX x (List.mem_of_getElem? hi)) (by omega) (by omega)
  try dsimp only
  unfold Cc;rw [Bd (by omega),cond_true,hi,obs,hb,obs,Ak (by simp; omega),Ak (by omega)]
 ·try dsimp only
  unfold Cc;rw [Bg (by omega),cond_false,List.nil_append]; rfl
end
section
variable {p:Int} {st ins ou:Nat} {A B C D:List (List Int)}
def Ay3 (p:Int) (st ou:Nat) (A B C D:List (List Int)) (ins:Int):Int×Int×Int×List (List Int)×List (List Int)×List (List Int)×List (List Int) :=
 (((Md p st A B).length:Nat),ins,(ou:Int),Zx (Md p st A B) (Tk p st (Md p st A B) A),Zx (Md p st A B) B,Tk p ou (Md p st A B) C,D)
theorem An6 (h:Ac4 p st ins ou A B C D):Fh p (st:Int) (ins:Int) (ou:Int) A B C D=some (Ay3 p st ou A B C D (ins:Int)):=by
 have hb:=Ep h.hp;have hs:=h.hs; have hi:=h.hi; have ho:=h.ho; have lA:=h.lA; have lB:=h.lB; have lC:=h.lC; have lD:=h.lD;obtain ⟨r1,r2,r3⟩:=Arw h.hp h.mA h.lA h.mB;have hpl:(Tk p st (Md p st A B) A).length=(Md p st A B).length:=O1;unfold Fh
 rw [Ak8 h.hp h.mA h.lA h.mB h.hs (by omega),obs,Awi h.mD (by omega) (by omega),obs,Ace hb h.mA (by rw [lA]; exact r1) (by omega) (by omega) (by omega),obs,
  (A0l r1 r2 (by omega) (Rg hb.1 h.mA) h.hs (by omega)).1,obs,(A0l r1 r2 (by omega) h.mB h.hs (by omega)).2,obs,Ace hb h.mC (by rw [lC]; exact r1) (by omega) (by omega) (by omega),obs]
 rfl
theorem Wc (h:Ac4 p st ins ou A B C D):Bu (st:Int) (ins:Int) (ou:Int) A B C D p=some (Ay3 p st ou A B C D (ins:Int)):=by
 have hb:=Ep h.hp;have hs:=h.hs; have hi:=h.hi; have ho:=h.ho; have lA:=h.lA; have lB:=h.lB; have lC:=h.lC; have lD:=h.lD;obtain ⟨r1,r2,r3⟩:=Arw h.hp h.mA h.lA h.mB;have hpl:(Tk p st (Md p st A B) A).length=(Md p st A B).length:=O1;unfold Bu
 rw [Apx h.hp h.mA h.lA h.mB h.hs (by omega),obs,Sg h.mD (by omega) (by omega),obs,W6 hb h.mA (by rw [lA]; exact r1) (by omega) (by omega) (by omega),obs,
  R5 hb r1 r2 (by omega) (Rg hb.1 h.mA) h.hs (by omega),obs,R5 hb r1 r2 (by omega) h.mB h.hs (by omega),obs,W6 hb h.mC (by rw [lC]; exact r1) (by omega) (by omega) (by omega),obs]
 rfl
theorem Awq (h:Ac4 p st ins ou A B C D):Ac4 p (Md p st A B).length ins ou (Zx (Md p st A B) (Tk p st (Md p st A B) A)) (Zx (Md p st A B) B) (Tk p ou (Md p st A B) C) D:=by
 have hb:=Ep h.hp;obtain ⟨r1,r2,r3⟩:=Arw h.hp h.mA h.lA h.mB;have hs:=h.hs;exact ⟨h.hp,by omega,h.hi,h.ho,by simp [Zx,O1],by simp [Zx,h.lB],O1,h.lD,Asx r2 (Rg hb.1 h.mA),Asx r2 h.mB,Rg hb.1 h.mC,h.mD⟩
end
section
variable {p:Int} {n:Nat} {A B C u:List (List Int)}
def kpB (u:List (List Int)) (j:Nat):Bool:=u.all fun b=>((Dm b:Nat):Int) !=((j:Nat):Int)
def kpV (u:List (List Int)) (n:Nat):List Int:=((List.range n).filter (kpB u)).map fun j:Nat=>(j:Int)
theorem A0i:InO n (kpV u n):=fun q hq=>by
 obtain ⟨j,hj,rfl⟩:=List.mem_map.1 hq;have:=List.mem_range.1 (List.mem_filter.1 hj).1;omega
theorem Ar0:(kpV u n).length<=n:=by
 unfold kpV;rw [List.length_map];exact Nat.le_trans (List.length_filter_le ..) (by rw [List.length_range]; exact Nat.le_refl n)
theorem Ayd:kpV u (n+1)=kpV u n++if kpB u n then [(n:Int)] else []:=by
 unfold kpV;rw [List.range_succ,List.filter_append,List.map_append];cases h:kpB u n <;> simp [h]
theorem A1y {j:Nat} (hu:MatW p n u) (hn:n<=24) (hl:u.length<=24) (hj:j<=24):Aw (fun s_:Bool×Nat=>Eh u j s_.1 s_.2) 4611686018427387904 (true,0)=some (kpB u j):=by
 refine A4 u.length (fun k=>((u.take k).all fun b=>((Dm b:Nat):Int) !=((j:Nat):Int),k)) (by omega) _ (by simp) (fun k hk=>?_) ?_
 ·have h1:=hu _ (List.getElem_mem hk)
  try dsimp only
  unfold Eh;rw [Bd (by omega),cond_true,gEg hk,obs,Wm _ (by rw [h1.1]; omega),obs]
  have e:((u.take (k+1)).all fun b=>((Dm b:Nat):Int) !=((j:Nat):Int))=(((u.take k).all fun b=>((Dm b:Nat):Int) !=((j:Nat):Int))&&(((Dm u[k]:Nat):Int) !=((j:Nat):Int))):=by
   rw [List.take_add_one,gEg hk,List.all_append]; simp
  rw [e];cases (u.take k).all fun b=>((Dm b:Nat):Int) !=((j:Nat):Int)
  ·rw [cond_false,obs,Ak (by omega)]; rfl
  ·rw [cond_true,obs,Ak (by omega)]; rfl
 ·try dsimp only
  unfold Eh;rw [Bg (by omega),cond_false,List.take_length]; rfl
theorem Azp {x:Int×Int×Int×List (List Int)×List (List Int)×List (List Int)×List (List Int)} (hx:x.1=(n:Int)) (hu:MatW p n u) (hn:n<=24) (hl:u.length<=24):Aw (fun s_:Nat×List Int=>Eo x u s_.1 s_.2) 4611686018427387904 (0,[])=some (kpV u n):=by
 refine A4 n (fun j=>(j,kpV u j)) (by omega) _ rfl (fun j hj=>?_) ?_
 ·have hk:=Ar0 (u:=u) (n:=j)
  try dsimp only
  unfold Eo;rw [hx,Bd (by omega),cond_true,A1y hu hn hl (by omega),obs,Ayd];cases kpB u j
  ·rw [cond_false,obs,Ak (by omega)]; simp
  ·rw [cond_true,Ak (by omega),obs,Ak (by omega)]; simp
 ·try dsimp only
  unfold Eo;rw [hx,Bg (by omega),cond_false]
theorem Aq4 (q:Nat->Bool) (hn:n<=24):Gc ((List.range n).map fun j=> !q j)=some (((List.range n).filter q).map fun j:Nat=>(j:Int)):=by
 unfold Gc
 have key:Aw (fun s_:Nat×List Int=>Fl ((List.range n).map fun j=> !q j) s_.1 s_.2) 4611686018427387904 (0,[])=some (((List.range n).filter q).map fun j:Nat=>(j:Int)):=by
  refine A4 n (fun j=>(j,((List.range j).filter q).map fun j:Nat=>(j:Int))) (by omega) _ rfl (fun j hj=>?_) ?_
  ·have hk:(((List.range j).filter q).map fun j:Nat=>(j:Int)).length<=j:=by
    rw [List.length_map]; exact Nat.le_trans (List.length_filter_le ..) (by simp)
   have e:(((List.range (j+1)).filter q).map fun j:Nat=>(j:Int))=(((List.range j).filter q).map fun j:Nat=>(j:Int))++if q j then [(j:Int)] else []:=by
    rw [List.range_succ,List.filter_append,List.map_append];cases h:q j <;> simp [h]
   try dsimp only
   unfold Fl;rw [Bd (by simp; omega),cond_true,show ((List.range n).map fun j=> !q j)[j]? =some (!q j) by simp [hj],obs,Bool.not_not,e];cases q j
   ·rw [cond_false,obs,Ak (by omega)]; simp
   ·rw [cond_true,Ak (by omega),obs,Ak (by omega)]; simp
  ·try dsimp only
   unfold Fl;rw [Bg (by simp),cond_false]
 rw [key,obs]
theorem Az1 (hu:MatW p n u) (h:Jl n u.length u (lv u)) (hn:n<=24) (hl:u.length<=24):Aw (fun s_:Nat×List Bool=>Bz u s_.1 s_.2) 4611686018427387904 (0,List.replicate n false)=some ((List.range n).map fun j=> !kpB u j):=by
 refine A4 u.length (fun i=>(i,(List.range n).map fun j=> !(u.take i).all fun b=>((Dm b:Nat):Int) !=((j:Nat):Int))) (by omega) _ ?_ (fun i hi=>?_) ?_
 ·have:((List.range n).map fun j=> !(u.take 0).all fun b=>((Dm b:Nat):Int) !=((j:Nat):Int))=List.replicate n false:=by
   refine List.eq_replicate_iff.2 ⟨by simp,fun b hb=>?_⟩;obtain ⟨j,_,rfl⟩:=List.mem_map.1 hb;simp
  rw [this]
 ·have h1:=hu _ (List.getElem_mem hi);have h2:=h.lt i hi;have e1:Dm u[i]=lv u i:=Aps hi
  try dsimp only
  unfold Bz;rw [Bd (by omega),cond_true,gEg hi,obs,And _ (by rw [h1.1]; omega),obs,Lx (d:=false) (n:=n) (by simp) ⟨by omega,by omega⟩,obs,Ak (by omega)]
  have e:((List.range n).map fun j=> !(u.take i).all fun b=>((Dm b:Nat):Int) !=((j:Nat):Int)).set ((Dm u[i]:Nat):Int).toNat true=(List.range n).map fun j=> !(u.take (i+1)).all fun b=>((Dm b:Nat):Int) !=((j:Nat):Int):=by
   refine List.ext_getElem (by simp) fun j h3 h4=>?_
   rw [List.getElem_set];simp only [List.getElem_map,List.getElem_range,Int.toNat_natCast,List.take_add_one,gEg hi,List.all_append,Option.toList_some,List.all_cons,List.all_nil,Bool.and_true];by_cases e:Dm u[i]=j
   ·rw [if_pos e,e]; simp
   ·rw [if_neg e,show ((((Dm u[i]:Nat):Int)) !=((j:Nat):Int))=true from bne_iff_ne.2 (by omega),Bool.and_true]
  rw [e]
 ·try dsimp only
  unfold Bz;rw [Bg (by omega),cond_false,List.take_length]; rfl
theorem Akw {v o:List Int} (hp:2<=p∧p<=97) (hu:MatW p n u) (h:Jl n u.length u (lv u)) (hn:n<=24) (hl:u.length<=24) (hv:VecW p n v) (ho:InO n o) (hol:o.length<=24):Hx p u o v=some (Q0 o (Gd p u v u.length)):=by
 unfold Hx;have hvl:=hv.1
 have k1:Aw (fun s_:Nat×List Int=>Gs u p s_.1 s_.2) 4611686018427387904 (0,v)=some (Gd p u v u.length):=by
  refine A4 u.length (fun i=>(i,Gd p u v i)) (by omega) _ rfl (fun i hi=>?_) ?_
  ·have h1:=hu _ (List.getElem_mem hi);have h2:=h.lt i hi;have hc:=L9 hp.1 hu hv i (by omega);have hg:=Du hc h2
   have e1:Gd p u v (i+1)=Cw p ((Gd p u v i).getD (lv u i) 0) (Gd p u v i) u[i]:=by
    show Cw p _ _ (u.getD i [])=_;rw [Bq (m:=u) (gEg hi)]
   have hin:Aw (fun s_:Nat×List Int=>Gq (Gd p u v i) u[i] p ((Gd p u v i).getD (lv u i) 0) s_.1 s_.2) 4611686018427387904 (0,Gd p u v i)=some (Gd p u v (i+1)):=by
    have hcl:=hc.1;have hul:=h1.1;rw [e1];refine Zk (y:=Cw p ((Gd p u v i).getD (lv u i) 0) (Gd p u v i) u[i]) (by simp only [Cw,List.length_zipWith]; omega) (by omega) (fun j hj z hz=>?_) ?_
    ·have g1:=Om hc hj;have g2:=Om h1 (show j<u[i].length by omega);have hm:=Yj hp ⟨hg.1,hg.2.1⟩ g2;have hmd:=Abu (p:=p) (x:=(Gd p u v i).getD (lv u i) 0*u[i][j]'(by omega)) hp.1
     try dsimp only
     unfold Gq;rw [Bd (by omega),cond_true,hz,obs,gEg (show j<u[i].length by omega),obs,Aeg hp ⟨hg.1,hg.2.1⟩ g2,obs,Ar2 hp g1 hmd,obs,Ak (by omega)];rw [Agd,Asg]
    ·try dsimp only
     unfold Gq;rw [Bg (by omega),cond_false]
   try dsimp only
   unfold Gs;rw [Bd (by omega),cond_true,gEg hi,obs,Wm _ (by rw [h1.1]; omega),obs,Aps hi,Lx (d:=0) hc.1 ⟨by omega,by omega⟩,obs,Int.toNat_natCast,hin,obs,Ak (by omega)]
  ·try dsimp only
   unfold Gs;rw [Bg (by omega),cond_false]
 have hc:=L9 hp.1 hu hv u.length (Nat.le_refl _)
 have k2:Aw (fun s_:Nat×List Int=>Ey o (Gd p u v u.length) s_.1 s_.2) 4611686018427387904 (0,[])=some (Q0 o (Gd p u v u.length)):=by
  have h:=D3 (body:=fun s_:Nat×List Int=>Ey o (Gd p u v u.length) s_.1 s_.2) o (fun q=>(Gd p u v u.length).getD q.toNat 0) [] (F:=4611686018427387904) (by omega) (Q0 o (Gd p u v u.length)) (fun i x h=>?_) ?_
  ·simpa using h
  ·have:=As h
   try dsimp only
   unfold Ey;rw [Bd (by omega),cond_true,h,obs,Lx (d:=0) hc.1 (ho x (List.mem_of_getElem? h)),obs,Ak (by simp; omega),Ak (by omega)]
  ·try dsimp only
   unfold Ey;rw [Bg (by omega),cond_false,List.nil_append]; rfl
 rw [Qz _ (by omega),obs,k1,obs,k2,obs]
theorem Ak4 {X:List (List Int)} {o:List Int} (hp:2<=p∧p<=97) (hu:MatW p n u) (h:Jl n u.length u (lv u)) (hn:n<=24) (hl:u.length<=24) (hX:MatW p n X) (hxl:X.length<=24) (ho:InO n o) (hol:o.length<=24):∃ r,Bs X u p o=some r:=by
 unfold Bs;have key:=D3 (body:=fun s_:Nat×List (List Int)=>Bm X u p o s_.1 s_.2) X (fun v=>Q0 o (Gd p u v u.length)) [] (F:=4611686018427387904) (by omega) (X.map fun v=>Q0 o (Gd p u v u.length)) (fun k v hk=>?_) ?_
 ·refine ⟨X.map fun v=>Q0 o (Gd p u v u.length),?_⟩;rw [show Aw (fun s_:Nat×List (List Int)=>Bm X u p o s_.1 s_.2) 4611686018427387904 (0,[])=some (X.map fun v=>Q0 o (Gd p u v u.length)) by simpa using key,obs]
 ·have:=As hk;have hv:=hX v (List.mem_of_getElem? hk);have hvl:=hv.1
  have k1:Aw (fun s_:Nat×List Int=>Bv u p s_.1 s_.2) 4611686018427387904 (0,v)=some (Gd p u v u.length):=by
   refine A4 u.length (fun i=>(i,Gd p u v i)) (by omega) _ rfl (fun i hi=>?_) ?_
   ·have h1:=hu _ (List.getElem_mem hi);have h2:=h.lt i hi;have hc:=L9 hp.1 hu hv i (by omega);have hc':=L9 hp.1 hu hv (i+1) (by omega);have hg:=Du hc h2
    have e1:Cw p ((Gd p u v i).getD (lv u i) 0) (Gd p u v i) u[i]=Gd p u v (i+1):=by
     show _=Cw p _ _ (u.getD i []);rw [Bq (m:=u) (gEg hi)]
    try dsimp only
    unfold Bv;rw [Bd (by omega),cond_true,gEg hi,obs,And _ (by rw [h1.1]; omega),obs,Aps hi,Lx (d:=0) hc.1 ⟨by omega,by omega⟩,obs,Int.toNat_natCast,Y8 hp hc h1 (by omega) ⟨hg.1,hg.2.1⟩,obs,e1,Ak (by rw [hc.1,hc'.1]),Ak (by omega)]
   ·try dsimp only
    unfold Bv;rw [Bg (by omega),cond_false]
  have hc:=L9 hp.1 hu hv u.length (Nat.le_refl _)
  try dsimp only
  unfold Bm;rw [Bd (by omega),cond_true,hk,obs,Aer _ (by omega),obs,k1,obs,Aux hc.1 ho (by omega),obs,Ak (by simp; omega),obs,Ak (by omega)]
 ·try dsimp only
  unfold Bm;rw [Bg (by omega),cond_false,List.nil_append]
end
section
variable {p:Int} {st ins ou:Nat} {A B C D:List (List Int)}
def Azr (p:Int) (st ou:Nat) (A C:List (List Int)):Int:=((kpV (V6 p st ou A C) st).length:Nat)
theorem Aza {x:Int×Int×Int×List (List Int)×List (List Int)×List (List Int)×List (List Int)} (h:Ac4 p st ins ou x.2.2.2.1 x.2.2.2.2.1 x.2.2.2.2.2.1 x.2.2.2.2.2.2) (h1:x.1=(st:Int)) (h2:x.2.1=(ins:Int)) (h3:x.2.2.1=(ou:Int)) {a0 a1 a2:Int} (hx:Fh p a0 a1 a2 A B C D=some x) :
  ∃ r,Ew p a0 a1 a2 A B C D=some r∧r.1=Azr p st ou x.2.2.2.1 x.2.2.2.2.2.1:=by
 have hb:=Ep h.hp;have hs:=h.hs; have ho:=h.ho;obtain ⟨u1,u2,u3⟩:=Axx h.hp h.mA h.lA h.mC h.lC;have hkl:=Ar0 (u:=V6 p st ou x.2.2.2.1 x.2.2.2.2.2.1) (n:=st);have hki:=A0i (u:=V6 p st ou x.2.2.2.1 x.2.2.2.2.2.1) (n:=st);have e1:=Aq7 (i1:=x.2.1) (B:=x.2.2.2.2.1) (D:=x.2.2.2.2.2.2) h.hp h.mA h.lA h.mC h.lC h.hs h.ho;rw [← h1,← h3] at e1;unfold Ew;rw [hx,obs,e1,obs,Azp h1 u1 h.hs (by omega),obs];generalize hu:V6 p st ou x.2.2.2.1 x.2.2.2.2.2.1=u at *
 have k3:∃ r,Aw (fun s_:Nat×List (List Int)×List (List Int)=>En (kpV u st) x p u s_.1 s_.2.1 s_.2.2) 4611686018427387904 (0,[],[])=some r:=by
  refine ⟨((kpV u st).map fun q=>Q0 (kpV u st) (Gd p u (x.2.2.2.1.getD q.toNat []) u.length),(kpV u st).map fun q=>x.2.2.2.2.2.1.getD q.toNat []),?_⟩;refine A4 (kpV u st).length (fun k=>(k,((kpV u st).take k).map fun q=>Q0 (kpV u st) (Gd p u (x.2.2.2.1.getD q.toNat []) u.length),((kpV u st).take k).map fun q=>x.2.2.2.2.2.1.getD q.toNat [])) (by omega) _ rfl (fun k hk=>?_) ?_
  ·have hq:=hki _ (List.getElem_mem hk);have ha:=Lx (d:=([]:List Int)) h.lA hq;have hc:=Lx (d:=([]:List Int)) h.lC hq;have hav:VecW p st (x.2.2.2.1.getD ((kpV u st)[k]).toNat []):=h.mA _ (Fu (by rw [h.lA]; omega));have hcv:VecW p ou (x.2.2.2.2.2.1.getD ((kpV u st)[k]).toNat []):=h.mC _ (Fu (by rw [h.lC]; omega));have hcl:=hcv.1
   try dsimp only
   unfold En;rw [Bd (by omega),cond_true,gEg hk,obs,ha,obs,Akw hb u1 u2 h.hs (by omega) hav hki (by omega),obs,Ak (by simp; omega),hc,obs,Qz _ (by omega),obs,Ak (by simp; omega),Ak (by omega),List.take_add_one,gEg hk,List.map_append,List.map_append];rfl
  ·try dsimp only
   unfold En;rw [Bg (by omega),cond_false,List.take_length]
 obtain ⟨⟨r1,r2⟩,k3⟩:=k3
 have k4:∃ r,Aw (fun s_:Nat×List (List Int)=>C9 x p u (kpV u st) s_.1 s_.2) 4611686018427387904 (0,[])=some r:=by
  have hlB:=h.lB; have hi:=h.hi;have key:=D3 (body:=fun s_:Nat×List (List Int)=>C9 x p u (kpV u st) s_.1 s_.2) x.2.2.2.2.1 (fun v=>Q0 (kpV u st) (Gd p u v u.length)) [] (F:=4611686018427387904) (by omega) (x.2.2.2.2.1.map fun v=>Q0 (kpV u st) (Gd p u v u.length)) (fun k v hk=>?_) ?_
  ·exact ⟨_,by simpa using key⟩
  ·have:=As hk
   try dsimp only
   unfold C9;rw [Bd (by omega),cond_true,hk,obs,Akw hb u1 u2 h.hs (by omega) (h.mB v (List.mem_of_getElem? hk)) hki (by omega),obs,Ak (by simp; omega),Ak (by omega)]
  ·try dsimp only
   unfold C9;rw [Bg (by omega),cond_false,List.nil_append]
 obtain ⟨r3,k4⟩:=k4;rw [k3,obs];dsimp only;rw [k4,obs];exact ⟨_,rfl,by unfold Azr; rw [hu]⟩
theorem Ad6 (h:Ac4 p st ins ou A B C D):∃ r,B3 (st:Int) (ins:Int) (ou:Int) A B C D p=some r∧r.1=Azr p st ou A C:=by
 have hb:=Ep h.hp;have hs:=h.hs; have ho:=h.ho; have hi:=h.hi; have lB:=h.lB; have lD:=h.lD;obtain ⟨u1,u2,u3⟩:=Axx h.hp h.mA h.lA h.mC h.lC;have hkl:=Ar0 (u:=V6 p st ou A C) (n:=st);have hki:=A0i (u:=V6 p st ou A C) (n:=st);unfold B3;rw [Ax4 h.hp h.mA h.lA h.mC h.lC h.hs h.ho,obs,Ak (by omega),Int.toNat_natCast];have e0:Gc ((List.range st).map fun j=> !kpB (V6 p st ou A C) j)=some (kpV (V6 p st ou A C) st):=Aq4 _ h.hs;rw [Az1 u1 u2 h.hs (by omega),obs,e0,obs,Sg h.mD (by omega) (by omega),obs];generalize hu:V6 p st ou A C=u at *
 have hXm:MatW p st ((kpV u st).map fun q=>A.getD q.toNat []):=fun y hy=>by
  obtain ⟨q,hq,rfl⟩:=List.mem_map.1 hy;have:=hki q hq;exact h.mA _ (Fu (by rw [h.lA]; omega))
 have k2:Aw (fun s_:Nat×List (List Int)×List (List Int)=>B0 (kpV u st) A C s_.1 s_.2.1 s_.2.2) 4611686018427387904 (0,[],[])=some ((kpV u st).map fun q=>A.getD q.toNat [],(kpV u st).map fun q=>C.getD q.toNat []):=by
  refine A4 (kpV u st).length (fun k=>(k,((kpV u st).take k).map fun q=>A.getD q.toNat [],((kpV u st).take k).map fun q=>C.getD q.toNat [])) (by omega) _ rfl (fun k hk=>?_) ?_
  ·have hq:=hki _ (List.getElem_mem hk);have ha:=Lx (d:=([]:List Int)) h.lA hq;have hc:=Lx (d:=([]:List Int)) h.lC hq;have hcv:VecW p ou (C.getD ((kpV u st)[k]).toNat []):=h.mC _ (Fu (by rw [h.lC]; omega));have hcl:=hcv.1
   try dsimp only
   unfold B0;rw [Bd (by omega),cond_true,gEg hk,obs,ha,obs,Ak (by simp; omega),hc,obs,Aer _ (by omega),obs,Ak (by simp; omega),Ak (by omega),List.take_add_one,gEg hk,List.map_append,List.map_append];rfl
  ·try dsimp only
   unfold B0;rw [Bg (by omega),cond_false,List.take_length]
 obtain ⟨r1,k3⟩:=Ak4 hb u1 u2 h.hs (by omega) hXm (by rw [List.length_map]; omega) hki (by omega);obtain ⟨r2,k4⟩:=Ak4 hb u1 u2 h.hs (by omega) h.mB (by omega) hki (by omega);rw [k2,obs];dsimp only;rw [k3,obs,k4,obs];exact ⟨_,rfl,by unfold Azr; rw [hu]⟩
theorem A1g (h:Ac4 p st ins ou A B C D):∃ v x y,Ew p (st:Int) (ins:Int) (ou:Int) A B C D=some x∧Cf (st:Int) (ins:Int) (ou:Int) A B C D p=some y∧x.1=v∧y.1=v:=by
 have h':=Awq h;obtain ⟨r,e1,e2⟩:=Aza (x:=Ay3 p st ou A B C D (ins:Int)) h' rfl rfl rfl (An6 h);obtain ⟨r',f1,f2⟩:=Ad6 h';unfold Cf;rw [Wc h,obs];refine ⟨_,r,r',e1,?_,e2,f2⟩;unfold Ay3;dsimp only;rw [f1,obs]
end
theorem A1j {p i:Int} {gs:List Gt} {outs:List Int} (h1:gs.length<=1073741824) (h2:outs.length<=1073741824):∃ v:Int×Bool,C6 p i gs outs=some v∧C8 p i gs outs=some v:=by
 unfold C6 C8 F4;rw [Arv h1 h2,obs,Ao0 (by omega) (by omega),obs];cases hc:Zt p i gs outs
 ·exact ⟨_,rfl,rfl⟩
 have G:=Akn.1 hc;rw [Bool.not_true,cond_false,Aqb G,obs,obs];by_cases h:(dl gs).length<=24
 ·rw [if_pos ⟨rfl,h⟩,if_pos h];have hz:=Aul G h;have hi:=G.hi;obtain ⟨v,x,y,e1,e2,e3,e4⟩:=A1g hz;rw [show ((i.toNat:Nat):Int)=i by omega] at e1 e2;dsimp only [zB,A0q];rw [Bool.not_true,cond_false,cond_false,e1,e2,obs,obs,e3,e4];exact ⟨_,rfl,rfl⟩
 ·rw [if_neg (by simp [h]),if_neg h];exact ⟨_,rfl,rfl⟩
theorem Aw9 {p i:Int} {gs:List Gt} {outs:List Int} (h1:gs.length<=9223372036854775807) (h2:outs.length<=9223372036854775807):B7 p i gs outs=some true:=by
 unfold B7;rw [Aol i gs outs (by omega) h1 h2,obs];by_cases e0:(1048576:Int)<((gs.length+outs.length:Nat):Int)
 ·rw [show szV 1048576 (gs.length+outs.length)= -1 from if_pos e0]; rfl
 rw [show szV 1048576 (gs.length+outs.length)=1048576 - ((gs.length+outs.length:Nat):Int) from if_neg e0,Bg (by omega),cond_false];have h1:gs.length<=1073741824:=by omega
 have h2:outs.length<=1073741824:=by omega
 obtain ⟨v,k1,k2⟩:=A1j (p:=p) (i:=i) h1 h2;simp only [Aoq i gs outs h1 h2,k1,k2,obs,An7 i gs outs h1 h2,bne_self_eq_false,Bool.not_true,cond_false]
end
section
open Go.RowKit Go.Deep
theorem minimalDimension_walk (p:Int) (cInputs:Int) (cGates:List (Int×Int×Int×Int)) (A_cGates:Option Addr) (c_cGates:Nat) (l_cGates:List Addr) (cOutputs:List (Int)) (A_cOutputs:Option Addr) (c_cOutputs:Nat) (l_cOutputs:List Addr) (w:World) (_i_p: -9223372036854775808<=p∧p<=9223372036854775807) (_i_cInputs: -9223372036854775808<=cInputs∧cInputs<=9223372036854775807) (s_cGates:Sl (fun _=>True) w (.pair .int (.pair .int (.pair .int .int))) A_cGates c_cGates cGates l_cGates) (_i_cGates:Ty.In (.slice (.pair .int (.pair .int (.pair .int .int)))) cGates) (s_cOutputs:Sl (fun _=>True) w .int A_cOutputs c_cOutputs cOutputs l_cOutputs) (_i_cOutputs:Ty.In (.slice .int) cOutputs) (tab:Tab w) :
  Calls Tryd.prog 3 #[.int .i64 p,.agg #[.int .i64 cInputs,.slice A_cGates cGates.length c_cGates,.slice A_cOutputs cOutputs.length c_cOutputs]] w fun e w'=>e=.returned (.bool true)∧Below w.heap.size w w':=by
 have hl:B7 p cInputs cGates cOutputs=some true:=Aw9 (Avn s_cGates).2 (Avn s_cOutputs).2;refine (Mh hl w (fun _=>True) [.int .i64 p,.agg #[.int .i64 cInputs,.slice A_cGates cGates.length c_cGates,.slice A_cOutputs cOutputs.length c_cOutputs]] (fun w' hb=>tab.below hb) ⟨_,_,rfl,rfl,⟨_,_,rfl,⟨_,rfl,⟨_,_,rfl,rfl,⟨_,_,rfl,⟨A_cGates,c_cGates,l_cGates,rfl,s_cGates⟩,⟨_,_,rfl,⟨A_cOutputs,c_cOutputs,l_cOutputs,rfl,s_cOutputs⟩,rfl⟩⟩⟩⟩,rfl⟩⟩).mono ?_;rintro e w' ⟨u,rfl,hb,us,ls,h1,_,rfl⟩;obtain ⟨u1,us1,rfl,h2,_,rfl,rfl⟩:=h1;obtain rfl:u1=.bool true:=h2;exact ⟨rfl,hb⟩
end
end Go.Proofs.YtpnofkjgeokdhaaDoor
