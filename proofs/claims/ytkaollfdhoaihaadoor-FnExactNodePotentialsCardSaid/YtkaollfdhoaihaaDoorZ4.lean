/- Lemmas on the program and on partial functions that stand in place of its code (part 4); no condition beyond those that each one states. -/
import Derived.Test.YtkaollfdhoaihaaDoorZ3
import Derived.KernelRfl
import Derived.IntWalk
namespace Go.Proofs.YtkaollfdhoaihaaDoor
section
open Go.RowKit Go.Deep
section
variable {P:Program} {G:World->Prop}
theorem Ab {x y:AC} {R:AE->St->Prop} {S:St} (h:awp P G x (Mg (fun S'=>∃ S'',Weak S' S''∧awp P G y R S'') R) S):awp P G (.seq x y) R S:=h
theorem Ad5 {x y:AC} {R:AE->St->Prop} {S:St} (K:St->Prop) (h:awp P G x (Mg (fun S'=>∃ S'',Weak S' S''∧K S'') R) S) (k:∀ S'',K S''->awp P G y R S''):awp P G (.seq x y) R S:=by
 unfold awp
 exact Et (fun e S hq=>by
  cases e with
  | normal=>obtain ⟨S'',hw,hk⟩:=hq; exact ⟨S'',hw,k S'' hk⟩
  | exit id=>exact hq
  | ret=>exact hq) h
def Atg (rs:List Rec) (ds:List (List Oid)):List (Nat×Nat)->Bool
 | []=>true
 | p :: ps=>(let ri:=rs.getD p.2 (0,.any,[]); let rj:=rs.getD p.1 (0,.any,[]); let di:=ds.getD p.2 []; let dj:=ds.getD p.1 []
   ((!(ri.1==2)||rj.1==0)&&(!(rj.1==2)||ri.1==0))||((!(ri.1==2)||ri.2.2.all fun u=> !dj.contains u.1)&&((!(rj.1==2)||rj.2.2.all fun u=> !di.contains u.1)&&ri.2.2.all fun u=>rj.2.2.all fun v=> !(u.1==v.1))))&&Atg rs ds ps
theorem Bd {rs:List Rec} {ds:List (List Oid)}:∀ {bad:List (Nat×Nat)},Atg rs ds bad=true->Alc rs ds bad
 | [],_=>trivial
 | p :: ps,h=>by
  simp only [Atg,Bool.and_eq_true] at h;refine ⟨?_,Bd h.2⟩;have h1:=h.1;simp only [Bool.or_eq_true,Bool.and_eq_true,Bool.not_eq_true',beq_eq_false_iff_ne,beq_iff_eq,List.all_eq_true,List.contains_eq_mem,decide_eq_false_iff_not] at h1;unfold Ru;rcases h1 with ⟨a,b⟩ | ⟨a,b,c⟩
  ·refine .inl ⟨fun e=>?_,fun e=>?_⟩
   ·rcases a with a | a
    ·exact absurd e a
    ·exact a
   ·rcases b with b | b
    ·exact absurd e b
    ·exact b
  ·refine .inr ⟨fun e=>?_,fun e=>?_,c⟩
   ·rcases a with a | a
    ·exact absurd e a
    ·exact a
   ·rcases b with b | b
    ·exact absurd e b
    ·exact b
def XW (P:Program) (G:World->Prop) (g k:Nat) (xs:List X) (tl:List (Nat×AV)) (ol:List (Oid×Option Ob)) (Kf:List (Nat×AV)->List (Oid×Option Ob)->Prop):Prop :=
 ∃ rs tl' ol',Ar3 P G g k xs (Ap tl) (Aj ol) rs (Ap tl') (Aj ol')∧Kf tl' ol'
def XD (P:Program) (G:World->Prop) (bad:List (Nat×Nat)) (g k:Nat) (xs:List X) (tl:List (Nat×AV)) (ol:List (Oid×Option Ob)) (ra:List Rec) (da:List (List Oid)) (Kf:List (Nat×AV)->List (Oid×Option Ob)->Prop):Prop :=
 ∃ rs ds tl' ol',Ann P G g k xs (Ap tl) (Aj ol) rs ds (Ap tl') (Aj ol')∧Alc (ra.reverse++rs) (da.reverse++ds) bad∧Kf tl' ol'
theorem Aa {xs:List X} {bad:List (Nat×Nat)} {R:AE->St->Prop} {tl:List (Nat×AV)} {ol:List (Oid×Option Ob)} {g:Nat} (g':Nat) (h:XW P G g 0 xs tl ol fun tl' ol'=>R .normal ⟨Ap tl',Aj ol',g'⟩) (hn:g+xs.length=g':=by kernel_rfl):awp P G (.region xs false bad) R ⟨Ap tl,Aj ol,g⟩:=by
 obtain ⟨rs,tl',ol',h,hr⟩:=h;exact ⟨rs,_,_,h,by subst hn; exact hr⟩
theorem Az {xs:List X} {bad:List (Nat×Nat)} {R:AE->St->Prop} {tl:List (Nat×AV)} {ol:List (Oid×Option Ob)} {g:Nat} (g':Nat) (h:XD P G bad g 0 xs tl ol [] [] fun tl' ol'=>R .normal ⟨Ap tl',Aj ol',g'⟩) (hn:g+xs.length=g':=by kernel_rfl):awp P G (.region xs true bad) R ⟨Ap tl,Aj ol,g⟩:=by
 obtain ⟨rs,ds,tl',ol',h,hb,hr⟩:=h;exact ⟨rs,ds,_,_,h,hb,by subst hn; exact hr⟩
theorem Rb (tl:List (Nat×AV)) (d:Nat) (v:AV):upd (Ap tl) d v=Ap ((d,v) :: tl):=by
 funext i;rfl
def L1:Option Ob->Bool
 | some (.pool ..)=>false
 | some (.mat ..)=>false
 | _=>true
def Fm (us:List (Oid×Option Ob)):Bool:=us.all fun u=>L1 u.2
theorem Jx {ol:List (Oid×Option Ob)} {j:Oid} {o:Option Ob} (h:L1 o=true):upd (Aj ol) j o=Aj ((j,o) :: ol):=by
 cases o with
 | none=>funext i; rfl
 | some o=>cases o <;> first | (funext i; rfl) | cases h
theorem Hx:∀ (us ol:List (Oid×Option Ob)),Fm us=true->A4 us (Aj ol)=Aj (us.reverseAux ol)
 | [],_,_=>rfl
 | (j,o) :: us,ol,h=>by
  simp only [Fm,List.all_cons,Bool.and_eq_true] at h;show A4 us (upd (Aj ol) j o)=_;rw [Jx h.1];exact Hx us _ h.2
theorem Ho {p:Bool} {n:Nat} {x:X} {f:Nat->AV} {ob:Oid->Option Ob} {r:Rec} (h:Bq n x f ob=some r):Gl P G p n x f ob r:=by
 unfold Bq at h;unfold Gl;split at h
 ·exact .inl (.inl (.inl h))
 ·split at h
  ·rename_i hc;exact ⟨true,hc,by rw [if_pos rfl]; exact .inl (.inl (.inl h))⟩
  ·rename_i hc;exact ⟨false,hc,by rw [if_neg (by simp)]; exact (osj h).symm⟩
  ·cases h
def Wv (gd:Option (Nat×Bool)) (f:Nat->AV):Prop :=
 match gd with
 | none=>True
 | some (s,c)=>f s=.bool c
theorem Ag3 {s:Nat} {b:Bool} {f:Nat->AV} (h:Wv (some (s,b)) f):gdv (f s) b=some true:=by
 rw [show f s=.bool b from h]; simp [gdv]
theorem C9 {s:Nat} {b c:Bool} {f:Nat->AV} (h:f s=.bool c) (hc:c=b):Wv (some (s,b)) f:=by subst hc; exact h
theorem Alj {p:Bool} {n:Nat} {d:Option Nat} {gd:Option (Nat×Bool)} {fo:Opd} {xs:List Opd} {tys:List (List (Option Ty))} {f:Nat->AV} {ob:Oid->Option Ob} {F:FuncId} {caps args0 args:List AV} {rv:RV} {r:AV×List (Oid×Option Ob)}
  (hgd:Wv gd f) (hfo:fo.ev f=.fn F caps) (h1:Rg (gnd ob 8) ((xs++caps.map Opd.cst).map (Opd.ev f))=some args0) (hn:Wf tys args0=args) (hb:A6 P F=true) (hc:Bm P G F args rv) (hr:rv.out (Ek ((d.getD 0,0),n)) ((xs++caps.map Opd.cst).map (Opd.ev f))=r) :
  Gl P G p n ⟨d,gd,.call fo xs tys⟩ f ob (1,r.1,r.2):=by
 subst hn;have key:EvR P G p f ob ((d.getD 0,0),n) (.call fo xs tys) (1,r.1,r.2):=.inr ⟨fo,xs,tys,F,caps,rfl,hfo,.inl ⟨rfl,hb,args0,rv,h1,hc,hr⟩⟩;unfold Gl;cases gd with
 | none=>exact key
 | some sb=>exact ⟨true,Ag3 hgd,by rw [if_pos rfl]; exact key⟩
theorem Alp {n:Nat} {d:Option Nat} {gd:Option (Nat×Bool)} {fo:Opd} {xs:List Opd} {tys:List (List (Option Ty))} {f:Nat->AV} {ob:Oid->Option Ob} {F:FuncId} {caps zs args:List AV} {v:AV} {ol us:List (Oid×Ob)} (θ:Oid->Oid)
  (hgd:Wv gd f) (hfo:fo.ev f=.fn F caps) (hz:(xs++caps.map Opd.cst).map (Opd.ev f)=zs) (h1:Te θ (Yz ((nmL ol).map θ) ob) zs args) (h2:∀ q∈exL ol,ob (θ q.1)=some (q.2.ren θ)) (h3:∀ q∈exL ol,∀ q'∈exL ol,θ q.1=θ q'.1->q.1=q'.1) (h4:∀ j∈nmL ol,Reached zs ob (θ j))
  (h5:∀ q∈exL us,q.1.2=1∨(q.1.2=0∧q.1∈nmL ol)) (hb:A6 P F=true) (hc:Fi P G F args ol v us) :
  Gl P G false n ⟨d,gd,.call fo xs tys⟩ f ob (2,v.ren (Dp θ ((d.getD 0,0),n)),M9 θ ((d.getD 0,0),n) ol us):=by
 have hN:Apq P G f ob ((d.getD 0,0),n) F (xs++caps.map Opd.cst) (v.ren (Dp θ ((d.getD 0,0),n)),M9 θ ((d.getD 0,0),n) ol us):=by
  rw [← hz] at h1 h4;refine ⟨hb,θ,args,ol,us,v,h1,h2,fun j k hj hk e=>?_,h4,hc,fun j hj=>?_,rfl⟩
  ·obtain ⟨q,hq,rfl⟩:=List.mem_map.1 hj;obtain ⟨q',hq',rfl⟩:=List.mem_map.1 hk;exact h3 q hq q' hq' e
  ·obtain ⟨q,hq,rfl⟩:=List.mem_map.1 hj;rcases h5 q hq with h | ⟨_,h⟩
   ·exact .inl (by rw [h]; decide)
   ·exact .inr h
 have key:EvR P G false f ob ((d.getD 0,0),n) (.call fo xs tys) (2,v.ren (Dp θ ((d.getD 0,0),n)),M9 θ ((d.getD 0,0),n) ol us):=.inr ⟨fo,xs,tys,F,caps,rfl,hfo,.inr ⟨rfl,rfl,hN⟩⟩;unfold Gl;cases gd with
 | none=>exact key
 | some sb=>exact ⟨true,Ag3 hgd,by rw [if_pos rfl]; exact key⟩
theorem Asr {n:Nat} {d:Option Nat} {gd:Option (Nat×Bool)} {q:Q} {f:Nat->AV} {ob:Oid->Option Ob} {r:Rec} (hgd:Wv gd f) (h:evL f ((d.getD 0,0),n) q=some r):Gl P G false n ⟨d,gd,q⟩ f ob r:=by
 have key:EvR P G false f ob ((d.getD 0,0),n) q r:=.inl (.inl (.inr h));unfold Gl;cases gd with
 | none=>exact key
 | some sb=>exact ⟨true,Ag3 hgd,by rw [if_pos rfl]; exact key⟩
theorem Arq {n:Nat} {d:Option Nat} {gd:Option (Nat×Bool)} {q:Q} {f:Nat->AV} {ob:Oid->Option Ob} {r:Rec} (hgd:Wv gd f) (h:Ail f ((d.getD 0,0),n) q r):Gl P G false n ⟨d,gd,q⟩ f ob r:=by
 have key:EvR P G false f ob ((d.getD 0,0),n) q r:=.inl (.inr h);unfold Gl;cases gd with
 | none=>exact key
 | some sb=>exact ⟨true,Ag3 hgd,by rw [if_pos rfl]; exact key⟩
theorem Aq {g k:Nat} {tl:List (Nat×AV)} {ol:List (Oid×Option Ob)} {Kf:List (Nat×AV)->List (Oid×Option Ob)->Prop} (h:Kf tl ol):XW P G g k [] tl ol Kf:=⟨[],tl,ol,⟨rfl,rfl,rfl⟩,h⟩
theorem Ft {bad:List (Nat×Nat)} {g k:Nat} {tl:List (Nat×AV)} {ol:List (Oid×Option Ob)} {ra:List Rec} {da:List (List Oid)} {Kf:List (Nat×AV)->List (Oid×Option Ob)->Prop} (hb:Alc (ra.reverse++[]) (da.reverse++[]) bad) (h:Kf tl ol):XD P G bad g k [] tl ol ra da Kf:=⟨[],[],tl,ol,⟨rfl,rfl,rfl,rfl⟩,hb,h⟩
section
variable {g k d:Nat} {gd:Option (Nat×Bool)} {q:Q} {xs:List X} {tl:List (Nat×AV)} {ol:List (Oid×Option Ob)} {bad:List (Nat×Nat)} {ra:List Rec} {da:List (List Oid)} {Kf:List (Nat×AV)->List (Oid×Option Ob)->Prop}
theorem Ake (c:Nat) (v:AV) (us ol':List (Oid×Option Ob)) (h:Gl P G false (g+k) ⟨some d,gd,q⟩ (Ap tl) (Aj ol) (c,v,us)) (he:A4 us (Aj ol)=Aj ol') (h3:XW P G g (k+1) xs ((d,v) :: tl) ol' Kf):XW P G g k (⟨some d,gd,q⟩ :: xs) tl ol Kf :=
 by
 obtain ⟨rs,tl',ol',h3,hk⟩:=h3;exact ⟨_,tl',ol',⟨_,_,rfl,h,by simp only [Na,Rb,he]; exact h3⟩,hk⟩
theorem Asi (c:Nat) (v:AV) (us ol':List (Oid×Option Ob)) (h:Gl P G false (g+k) ⟨none,gd,q⟩ (Ap tl) (Aj ol) (c,v,us)) (he:A4 us (Aj ol)=Aj ol') (h3:XW P G g (k+1) xs tl ol' Kf):XW P G g k (⟨none,gd,q⟩ :: xs) tl ol Kf :=
 by
 obtain ⟨rs,tl',ol',h3,hk⟩:=h3;exact ⟨_,tl',ol',⟨_,_,rfl,h,by simp only [Na,he]; exact h3⟩,hk⟩
theorem Aqj (c:Nat) (v:AV) (us ol':List (Oid×Option Ob)) (h:Gl P G false (g+k) ⟨some d,gd,q⟩ (Ap tl) (only (rdX (Ap tl) (Aj ol) ⟨some d,gd,q⟩) (Aj ol)) (c,v,us)) (he:A4 us (Aj ol)=Aj ol') (h3:XD P G bad g (k+1) xs ((d,v) :: tl) ol' ((c,v,us) :: ra) ((rdX (Ap tl) (Aj ol) ⟨some d,gd,q⟩) :: da) Kf):XD P G bad g k (⟨some d,gd,q⟩ :: xs) tl ol ra da Kf :=
 by
 obtain ⟨rs,ds,tl',ol',h3,hb,hk⟩:=h3;refine ⟨_,_,tl',ol',⟨_,rs,ds,rfl,rfl,h,by simp only [Na,Rb,he]; exact h3⟩,?_,hk⟩
 simpa using hb
theorem Ar8 (c:Nat) (v:AV) (us ol':List (Oid×Option Ob)) (h:Gl P G false (g+k) ⟨none,gd,q⟩ (Ap tl) (only (rdX (Ap tl) (Aj ol) ⟨none,gd,q⟩) (Aj ol)) (c,v,us)) (he:A4 us (Aj ol)=Aj ol') (h3:XD P G bad g (k+1) xs tl ol' ((c,v,us) :: ra) ((rdX (Ap tl) (Aj ol) ⟨none,gd,q⟩) :: da) Kf):XD P G bad g k (⟨none,gd,q⟩ :: xs) tl ol ra da Kf :=
 by
 obtain ⟨rs,ds,tl',ol',h3,hb,hk⟩:=h3;refine ⟨_,_,tl',ol',⟨_,rs,ds,rfl,rfl,h,by simp only [Na,he]; exact h3⟩,?_,hk⟩
 simpa using hb
theorem Aab (c:Nat) (v:AV) (us:List (Oid×Option Ob)) (h:Gl P G false (g+k) ⟨some d,gd,q⟩ (Ap tl) (Aj ol) (c,v,us)) (h3:XW P G g (k+1) xs ((d,v) :: tl) (us.reverseAux ol) Kf) (hx:Fm us=true):XW P G g k (⟨some d,gd,q⟩ :: xs) tl ol Kf:=Ake c v us _ h (Hx us ol hx) h3
theorem Atn (c:Nat) (v:AV) (us:List (Oid×Option Ob)) (h:Gl P G false (g+k) ⟨none,gd,q⟩ (Ap tl) (Aj ol) (c,v,us)) (h3:XW P G g (k+1) xs tl (us.reverseAux ol) Kf) (hx:Fm us=true):XW P G g k (⟨none,gd,q⟩ :: xs) tl ol Kf:=Asi c v us _ h (Hx us ol hx) h3
theorem Aa4 (c:Nat) (v:AV) (us:List (Oid×Option Ob)) (h:Gl P G false (g+k) ⟨some d,gd,q⟩ (Ap tl) (only (rdX (Ap tl) (Aj ol) ⟨some d,gd,q⟩) (Aj ol)) (c,v,us)) (h3:XD P G bad g (k+1) xs ((d,v) :: tl) (us.reverseAux ol) ((c,v,us) :: ra) ((rdX (Ap tl) (Aj ol) ⟨some d,gd,q⟩) :: da) Kf) (hx:Fm us=true):XD P G bad g k (⟨some d,gd,q⟩ :: xs) tl ol ra da Kf:=Aqj c v us _ h (Hx us ol hx) h3
theorem As1 (c:Nat) (v:AV) (us:List (Oid×Option Ob)) (h:Gl P G false (g+k) ⟨none,gd,q⟩ (Ap tl) (only (rdX (Ap tl) (Aj ol) ⟨none,gd,q⟩) (Aj ol)) (c,v,us)) (h3:XD P G bad g (k+1) xs tl (us.reverseAux ol) ((c,v,us) :: ra) ((rdX (Ap tl) (Aj ol) ⟨none,gd,q⟩) :: da) Kf) (hx:Fm us=true):XD P G bad g k (⟨none,gd,q⟩ :: xs) tl ol ra da Kf:=Ar8 c v us _ h (Hx us ol hx) h3
theorem Asv {ol':List (Oid×Option Ob)} (he:Aj ol=Aj ol') (h:XW P G g k xs tl ol' Kf):XW P G g k xs tl ol Kf:=by
 obtain ⟨rs,tl',ol2,h1,h2⟩:=h;exact ⟨rs,tl',ol2,by rw [he]; exact h1,h2⟩
theorem Ld {ol':List (Oid×Option Ob)} (he:Aj ol=Aj ol') (h:XD P G bad g k xs tl ol' ra da Kf):XD P G bad g k xs tl ol ra da Kf:=by
 obtain ⟨rs,ds,tl',ol2,h1,h2⟩:=h;exact ⟨rs,ds,tl',ol2,by rw [he]; exact h1,h2⟩
-- the shape of most steps: what the machine says is found by reckoning
theorem rs0 (v:AV) (h:Bq (g+k) ⟨some d,gd,q⟩ (Ap tl) (Aj ol)=some (0,v,[])) (h3:XW P G g (k+1) xs ((d,v) :: tl) ol Kf):XW P G g k (⟨some d,gd,q⟩ :: xs) tl ol Kf:=Aab 0 v [] (Ho h) h3 rfl
theorem rsl (v:AV) (h:Bq (g+k) ⟨some d,gd,q⟩ (Ap tl) (Aj ol)=some (1,v,[])) (h3:XW P G g (k+1) xs ((d,v) :: tl) ol Kf):XW P G g k (⟨some d,gd,q⟩ :: xs) tl ol Kf:=Aab 1 v [] (Ho h) h3 rfl
theorem rs1 (v:AV) (i:Oid) (o:Ob) (h:Bq (g+k) ⟨some d,gd,q⟩ (Ap tl) (Aj ol)=some (1,v,[(i,some o)])) (h3:XW P G g (k+1) xs ((d,v) :: tl) ((i,some o) :: ol) Kf) (hx:L1 (some o)=true:=by rfl):XW P G g k (⟨some d,gd,q⟩ :: xs) tl ol Kf:=Aab 1 v _ (Ho h) h3 (by simp only [Fm,List.all_cons,List.all_nil,hx]; rfl)
theorem rs2 (v:AV) (j i:Oid) (o:Ob) (h:Bq (g+k) ⟨some d,gd,q⟩ (Ap tl) (Aj ol)=some (2,v,[(j,none),(i,some o)])) (h3:XW P G g (k+1) xs ((d,v) :: tl) ((i,some o) :: (j,none) :: ol) Kf) (hx:L1 (some o)=true:=by rfl):XW P G g k (⟨some d,gd,q⟩ :: xs) tl ol Kf:=Aab 2 v _ (Ho h) h3 (by simp only [Fm,List.all_cons,List.all_nil,hx]; rfl)
theorem Nj (j i:Oid) (o:Ob) (h:Bq (g+k) ⟨none,gd,q⟩ (Ap tl) (Aj ol)=some (2,.any,[(j,none),(i,some o)])) (h3:XW P G g (k+1) xs tl ((i,some o) :: (j,none) :: ol) Kf) (hx:L1 (some o)=true:=by rfl):XW P G g k (⟨none,gd,q⟩ :: xs) tl ol Kf:=Atn 2 _ _ (Ho h) h3 (by simp only [Fm,List.all_cons,List.all_nil,hx]; rfl)
theorem ds0 (v:AV) (h:Bq (g+k) ⟨some d,gd,q⟩ (Ap tl) (only (rdX (Ap tl) (Aj ol) ⟨some d,gd,q⟩) (Aj ol))=some (0,v,[])) (h3:XD P G bad g (k+1) xs ((d,v) :: tl) ol ((0,v,[]) :: ra) ((rdX (Ap tl) (Aj ol) ⟨some d,gd,q⟩) :: da) Kf):XD P G bad g k (⟨some d,gd,q⟩ :: xs) tl ol ra da Kf:=Aa4 0 v [] (Ho h) h3 rfl
theorem dsl (v:AV) (h:Bq (g+k) ⟨some d,gd,q⟩ (Ap tl) (only (rdX (Ap tl) (Aj ol) ⟨some d,gd,q⟩) (Aj ol))=some (1,v,[])) (h3:XD P G bad g (k+1) xs ((d,v) :: tl) ol ((1,v,[]) :: ra) ((rdX (Ap tl) (Aj ol) ⟨some d,gd,q⟩) :: da) Kf):XD P G bad g k (⟨some d,gd,q⟩ :: xs) tl ol ra da Kf:=Aa4 1 v [] (Ho h) h3 rfl
theorem ds1 (v:AV) (i:Oid) (o:Ob) (h:Bq (g+k) ⟨some d,gd,q⟩ (Ap tl) (only (rdX (Ap tl) (Aj ol) ⟨some d,gd,q⟩) (Aj ol))=some (1,v,[(i,some o)])) (h3:XD P G bad g (k+1) xs ((d,v) :: tl) ((i,some o) :: ol) ((1,v,[(i,some o)]) :: ra) ((rdX (Ap tl) (Aj ol) ⟨some d,gd,q⟩) :: da) Kf) (hx:L1 (some o)=true:=by rfl):XD P G bad g k (⟨some d,gd,q⟩ :: xs) tl ol ra da Kf:=Aa4 1 v _ (Ho h) h3 (by simp only [Fm,List.all_cons,List.all_nil,hx]; rfl)
theorem ds2 (v:AV) (j i:Oid) (o:Ob) (h:Bq (g+k) ⟨some d,gd,q⟩ (Ap tl) (only (rdX (Ap tl) (Aj ol) ⟨some d,gd,q⟩) (Aj ol))=some (2,v,[(j,none),(i,some o)])) (h3:XD P G bad g (k+1) xs ((d,v) :: tl) ((i,some o) :: (j,none) :: ol) ((2,v,[(j,none),(i,some o)]) :: ra) ((rdX (Ap tl) (Aj ol) ⟨some d,gd,q⟩) :: da) Kf) (hx:L1 (some o)=true:=by rfl):XD P G bad g k (⟨some d,gd,q⟩ :: xs) tl ol ra da Kf:=Aa4 2 v _ (Ho h) h3 (by simp only [Fm,List.all_cons,List.all_nil,hx]; rfl)
theorem Mx (j i:Oid) (o:Ob) (h:Bq (g+k) ⟨none,gd,q⟩ (Ap tl) (only (rdX (Ap tl) (Aj ol) ⟨none,gd,q⟩) (Aj ol))=some (2,.any,[(j,none),(i,some o)])) (h3:XD P G bad g (k+1) xs tl ((i,some o) :: (j,none) :: ol) ((2,.any,[(j,none),(i,some o)]) :: ra) ((rdX (Ap tl) (Aj ol) ⟨none,gd,q⟩) :: da) Kf) (hx:L1 (some o)=true:=by rfl):XD P G bad g k (⟨none,gd,q⟩ :: xs) tl ol ra da Kf:=As1 2 _ _ (Ho h) h3 (by simp only [Fm,List.all_cons,List.all_nil,hx]; rfl)
section
variable {fo:Opd} {ys:List Opd} {tys:List (List (Option Ty))} {F:FuncId} {caps:List AV} {rv:RV} {args0:List AV}
theorem B9 (v:AV) (us:List (Oid×Option Ob)) (zs args:List AV) (hgd:Wv gd (Ap tl)) (h1:Rg (gnd (Aj ol) 8) zs=some args0) (hc:Bm P G F args rv) (hb:A6 P F=true) (h3:XW P G g (k+1) xs ((d,v) :: tl) (us.reverseAux ol) Kf) (hfo:fo.ev (Ap tl)=.fn F caps:=by kernel_rfl) (hz:(ys++caps.map Opd.cst).map (Opd.ev (Ap tl))=zs:=by kernel_rfl) (hn:Wf tys args0=args:=by kernel_rfl) (hr:rv.out (Ek ((d,0),g+k)) zs=(v,us):=by kernel_rfl) (hx:Fm us=true:=by rfl):XW P G g k (⟨some d,gd,.call fo ys tys⟩ :: xs) tl ol Kf:=by
 subst hz;exact Aab 1 v us (Alj (P:=P) (G:=G) (p:=false) (n:=g+k) (d:=some d) hgd hfo h1 hn hb hc hr) h3 hx
theorem D4 (v:AV) (us:List (Oid×Option Ob)) (zs args:List AV) (hgd:Wv gd (Ap tl)) (h1:Rg (gnd (only (rdX (Ap tl) (Aj ol) ⟨some d,gd,.call fo ys tys⟩) (Aj ol)) 8) zs=some args0) (hc:Bm P G F args rv) (hb:A6 P F=true) (h3:XD P G bad g (k+1) xs ((d,v) :: tl) (us.reverseAux ol) ((1,v,us) :: ra) ((rdX (Ap tl) (Aj ol) ⟨some d,gd,.call fo ys tys⟩) :: da) Kf) (hfo:fo.ev (Ap tl)=.fn F caps:=by kernel_rfl) (hz:(ys++caps.map Opd.cst).map (Opd.ev (Ap tl))=zs:=by kernel_rfl) (hn:Wf tys args0=args:=by kernel_rfl) (hr:rv.out (Ek ((d,0),g+k)) zs=(v,us):=by kernel_rfl) (hx:Fm us=true:=by rfl):XD P G bad g k (⟨some d,gd,.call fo ys tys⟩ :: xs) tl ol ra da Kf:=by
 subst hz;exact Aa4 1 v us (Alj (P:=P) (G:=G) (p:=false) (n:=g+k) (d:=some d) hgd hfo h1 hn hb hc hr) h3 hx
def Alr (l:List (Oid×Oid)) (ol us:List (Oid×Ob)) (n:Nat) (ol0:List (Oid×Option Ob)):Bool:=Rf l&&(Hm ol&&(Aq0 (Bt l) ol&&(Akl ol us&&Nn n ol0)))
theorem Ahi {l:List (Oid×Oid)} {ol us:List (Oid×Ob)} {n:Nat} {ol0:List (Oid×Option Ob)} (h:Alr l ol us n ol0=true) (hR:Agt ol0 (Bt l) ol) :
  (∀ q∈exL ol,Aj ol0 (Bt l q.1)=some (q.2.ren (Bt l)))∧(∀ q∈exL ol,∀ q'∈exL ol,Bt l q.1=Bt l q'.1->q.1=q'.1)∧(∀ q∈exL us,q.1.2=1∨(q.1.2=0∧q.1∈nmL ol))∧∀ i:Oid,i.2=n->A4 (M9 (Bt l) i ol us) (Aj ol0)=Aj (Ar (Sm (Dp (Bt l) i) us)++(M1 (Bt l) ol++ol0)):=by
 simp only [Alr,Bool.and_eq_true] at h;obtain ⟨c1,c2,c3,c4,c5⟩:=h;refine ⟨Ae4 c1 hR (Ah4 c2),Aou (fun p e u xss hm k=>J4 c1 ?_ k) c3 c2,Aff c4,fun i hi=>App c1 c2 hR c4 (by rw [hi]; exact c5) c3⟩;unfold Hm at c2;rw [List.all_eq_true] at c2;have:=c2 _ hm;simp only [Bool.and_eq_true,beq_iff_eq] at this;exact this.1
theorem C3 (v:AV) (ul:List (Oid×Option Ob)) (l:List (Oid×Oid)) (zs:List AV) {args:List AV} {ol0 us:List (Oid×Ob)} {v0:AV} (hgd:Wv gd (Ap tl)) (hc:Fi P G F args ol0 v0 us) (hb:A6 P F=true) (hR:Agt ol (Bt l) ol0) (h1:Te (Bt l) (Yz ((nmL ol0).map (Bt l)) (Aj ol)) zs args) (h4:∀ j∈nmL ol0,Reached zs (Aj ol) (Bt l j)) (h3:XW P G g (k+1) xs ((d,v) :: tl) (ul++ol) Kf) (hfo:fo.ev (Ap tl)=.fn F caps:=by kernel_rfl) (hz:(ys++caps.map Opd.cst).map (Opd.ev (Ap tl))=zs:=by kernel_rfl) (hB:Alr l ol0 us (g+k) ol=true:=by kernel_rfl) (hv:v0.ren (Dp (Bt l) ((d,0),g+k))=v:=by kernel_rfl) (hu:Ar (Sm (Dp (Bt l) ((d,0),g+k)) us)++M1 (Bt l) ol0=ul:=by kernel_rfl):XW P G g k (⟨some d,gd,.call fo ys tys⟩ :: xs) tl ol Kf:=by
 subst hv hu;obtain ⟨q1,q2,q3,q4⟩:=Ahi hB hR;exact Ake 2 _ _ _ (Alp (n:=g+k) (d:=some d) (Bt l) hgd hfo hz h1 q1 q2 h4 q3 hb hc) (q4 ((d,0),g+k) rfl) (by rw [List.append_assoc] at h3; exact h3)
theorem Rp (v:AV) (ul:List (Oid×Option Ob)) (l:List (Oid×Oid)) (zs:List AV) {args:List AV} {ol0 us:List (Oid×Ob)} {v0:AV} (hgd:Wv gd (Ap tl)) (hc:Fi P G F args ol0 v0 us) (hb:A6 P F=true) (hR:Agt ol (Bt l) ol0) (h1:Te (Bt l) (Yz ((nmL ol0).map (Bt l)) (only (rdX (Ap tl) (Aj ol) ⟨some d,gd,.call fo ys tys⟩) (Aj ol))) zs args) (h4:∀ j∈nmL ol0,Reached zs (only (rdX (Ap tl) (Aj ol) ⟨some d,gd,.call fo ys tys⟩) (Aj ol)) (Bt l j)) (hd:∀ q∈exL ol0,Bt l q.1∈rdX (Ap tl) (Aj ol) ⟨some d,gd,.call fo ys tys⟩) (h3:XD P G bad g (k+1) xs ((d,v) :: tl) (ul++ol) ((2,v,M9 (Bt l) ((d,0),g+k) ol0 us) :: ra) ((rdX (Ap tl) (Aj ol) ⟨some d,gd,.call fo ys tys⟩) :: da) Kf) (hfo:fo.ev (Ap tl)=.fn F caps:=by kernel_rfl) (hz:(ys++caps.map Opd.cst).map (Opd.ev (Ap tl))=zs:=by kernel_rfl) (hB:Alr l ol0 us (g+k) ol=true:=by kernel_rfl) (hv:v0.ren (Dp (Bt l) ((d,0),g+k))=v:=by kernel_rfl) (hu:Ar (Sm (Dp (Bt l) ((d,0),g+k)) us)++M1 (Bt l) ol0=ul:=by kernel_rfl):XD P G bad g k (⟨some d,gd,.call fo ys tys⟩ :: xs) tl ol ra da Kf:=by
 subst hv hu;obtain ⟨q1,q2,q3,q4⟩:=Ahi hB hR;exact Aqj 2 _ _ _ (Alp (n:=g+k) (d:=some d) (Bt l) hgd hfo hz h1 (fun q hq=>by unfold only; rw [if_pos (hd q hq)]; exact q1 q hq) q2 h4 q3 hb hc) (q4 ((d,0),g+k) rfl) (by rw [List.append_assoc] at h3; exact h3)
theorem rsU (v:AV) (us:List (Oid×Option Ob)) (h:Bq (g+k) ⟨some d,gd,q⟩ (Ap tl) (Aj ol)=some (2,v,us)) (h3:XW P G g (k+1) xs ((d,v) :: tl) (us.reverseAux ol) Kf) (hx:Fm us=true:=by rfl):XW P G g k (⟨some d,gd,q⟩ :: xs) tl ol Kf:=Aab 2 v us (Ho h) h3 hx
theorem dsU (v:AV) (us:List (Oid×Option Ob)) (h:Bq (g+k) ⟨some d,gd,q⟩ (Ap tl) (only (rdX (Ap tl) (Aj ol) ⟨some d,gd,q⟩) (Aj ol))=some (2,v,us)) (h3:XD P G bad g (k+1) xs ((d,v) :: tl) (us.reverseAux ol) ((2,v,us) :: ra) ((rdX (Ap tl) (Aj ol) ⟨some d,gd,q⟩) :: da) Kf) (hx:Fm us=true:=by rfl):XD P G bad g k (⟨some d,gd,q⟩ :: xs) tl ol ra da Kf:=Aa4 2 v us (Ho h) h3 hx
end
end
-- what arguments read as
theorem Cj {g:AV->Option AV}:Rg g []=some []:=rfl
theorem Ay {g:AV->Option AV} {c d:AV} {cs ds:List AV} (h:g c=some d) (hs:Rg g cs=some ds):Rg g (c :: cs)=some (d :: ds):=by simp only [Rg,h,hs]
section
variable {ob:Oid->Option Ob} {n:Nat}
theorem Bn {i:Oid} {t u:Ty} {e:TypeId} {xs:List u.D} {len:Nat} (h:ob i=some (.arr e u xs)) (hl:len=xs.length):gnd ob (n+1) (.own i t 0 len)=some (.tree u xs):=by
 subst hl;simp only [gnd,h,Nat.zero_add,Nat.le_refl,if_true,List.drop_zero,List.take_length]
theorem Aq4 {i:Oid} {t u:Ty} {e:TypeId} {xs:List u.D} {len:Nat} (h:ob i=some (.arr e u xs)) (hl:len<=xs.length):gnd ob (n+1) (.own i t 0 len)=some (.tree u (xs.take len)):=by
 simp only [gnd,h,Nat.zero_add,if_pos hl,List.drop_zero]
theorem Atm {i:Oid} {t u:Ty} {e:TypeId} {xs ys:List u.D} {off len:Nat} (h:ob i=some (.arr e u xs)) (hl:off+len<=xs.length) (hy:ys=(xs.drop off).take len):gnd ob (n+1) (.own i t off len)=some (.tree u ys):=by
 subst hy;simp only [gnd,h,if_pos hl]
theorem Xv {cs ds:List AV} (h:Rg (gnd ob n) cs=some ds):gnd ob (n+1) (.agg cs)=some (.agg ds):=by simp only [gnd,h,Option.map_some]
end
-- steps that hang on something
section
variable {n:Nat} {d:Option Nat} {f:Nat->AV} {ob:Oid->Option Ob}
theorem Nk {s:Nat} {b c:Bool} {q:Q} {r:Option Rec} (hs:f s=.bool c) (hc:c=b) (h:Bq n ⟨d,none,q⟩ f ob=r):Bq n ⟨d,some (s,b),q⟩ f ob=r:=by
 subst hc;simp only [Bq,hs,gdv,beq_self_eq_true]; exact h
theorem Ath {s:Nat} {b c:Bool} {q:Q} (hs:f s=.bool c) (hc:c= !b):Bq n ⟨d,some (s,b),q⟩ f ob=some (0,.tup [],[]):=by
 subst hc;cases b <;> simp [Bq,hs,gdv]
theorem Aq9 {c x y:Opd} {b:Bool} (h:c.ev f=.bool b) (hb:b=true):Bq n ⟨d,none,.i (.pick c x y)⟩ f ob=some (0,x.ev f,[]):=by
 subst hb; simp [Bq,ev,evN,h]
theorem Ary {c x y:Opd} {b:Bool} (h:c.ev f=.bool b) (hb:b=false):Bq n ⟨d,none,.i (.pick c x y)⟩ f ob=some (0,y.ev f,[]):=by
 subst hb; simp [Bq,ev,evN,h]
theorem As9 {sz:Nat} {x i:Opd} {t:Ty} {xs:List t.D} {y:t.D} {k:IntKind} {m:Int} {j:Nat} (hx:(x.ev f).un=.tree t xs) (hi:i.ev f=.int k m) (hs:sz=t.size) (h0:0<=m) (hj:m.toNat=j) (hy:xs[j]? =some y):Bq n ⟨d,none,.i (.idx sz x i)⟩ f ob=some (0,.telt t y 0,[]):=by
 subst hs hj;simp [Bq,ev,evN,hx,hi,h0,hy]
theorem As0 {sz:Nat} {x i:Opd} {t:Ty} {o:Oid} {len:Nat} {k:IntKind} {m:Int} {j:Nat} (hx:x.ev f=.own o t 0 len) (hi:i.ev f=.int k m) (hs:sz=t.size) (h0:0<=m) (hj:m.toNat=j) (hl:j<len):Bq n ⟨d,none,.i (.idx sz x i)⟩ f ob=some (0,.elt o j 0,[]):=by
 subst hs hj;have:m<(len:Int):=by omega
 simp [Bq,ev,evN,hx,hi,h0,AV.un,this]
theorem Atc {sz:Nat} {x i:Opd} {t:Ty} {o:Oid} {off len:Nat} {k:IntKind} {m:Int} {j:Nat} (hx:x.ev f=.own o t off len) (hi:i.ev f=.int k m) (hs:sz=t.size) (h0:0<=m) (hj:off+m.toNat=j) (hl:m.toNat<len):Bq n ⟨d,none,.i (.idx sz x i)⟩ f ob=some (0,.elt o j 0,[]):=by
 subst hs hj;have:m<(len:Int):=by omega
 simp [Bq,ev,evN,hx,hi,h0,AV.un,this]
theorem Ed {one:Bool} {m:Nat} {x:Opd} {i:Oid} {j k:Nat} {e:TypeId} {t:Ty} {xs:List t.D} {y:t.D} {c:AV} (hx:x.ev f=.elt i j k) (hob:ob i=some (.arr e t xs)) (hy:xs[j]? =some y) (hc:E6 one m k (t.av y)=some c):Bq n ⟨d,none,.i (.ld one m x)⟩ f ob=some (1,c,[]):=by
 simp [Bq,ev,evN,evR,hx,hob,hy,hc]
theorem Ep {one:Bool} {m:Nat} {x y:Opd} {i:Oid} {j k:Nat} {e:TypeId} {t:Ty} {xs:List t.D} {x0 x1:t.D} {cs:List AV} (hx:x.ev f=.elt i j k) (hob:ob i=some (.arr e t xs)) (hy:xs[j]? =some x0) (hc:Nl one m k (t.av x0) (y.ev f)=some cs) (hd:t.ofAV cs=some x1):Bq n ⟨d,none,.st one m x y⟩ f ob=some (2,.any,[(i,none),(i,some (.arr e t (xs.set j x1)))]):=by
 simp [Bq,ev,Ags,hx,hob,hy,hc,hd]
theorem R1 {e:TypeId} {t:Ty} {by_:Nat} {l c:Opd} {k k':IntKind} {m m':Int} {j:Nat} (hl:l.ev f=.int k m) (hc:c.ev f=.int k' m') (h:0<=m∧m<=m'∧m'<=1073741824∧(by_:Int)*m'<=140737488355328) (hj:m.toNat=j):Bq n ⟨d,none,.make e t by_ l c⟩ f ob=some (1,.own ((d.getD 0,0),n) t 0 j,[(((d.getD 0,0),n),some (.arr e t (List.replicate j t.dflt)))]):=by
 subst hj;simp only [Bq,ev,Aa1,hl,hc,if_pos h]
theorem Me {t t':Ty} {i:Oid} {e:TypeId} {xs:List t.D} {len:Nat} (h:ob i=some (.arr e t xs)) (hl:len=xs.length):Hq ob t (.own i t' 0 len)=some xs:=by
 subst hl;simp only [Hq,h,Nat.zero_add,Nat.le_refl,if_true,Ty.eq?_self,Fp,List.drop_zero,List.take_length]
theorem Ln {t:Ty} {xs:List t.D}:Hq ob t (.tree t xs)=some xs:=by simp only [Hq,Ty.eq?_self,Fp]
theorem Al9 {t:Ty}:V7 f ob t []=some []:=rfl
theorem Vb {t:Ty} {x:Opd} {c:AV} {xs:List Opd} {ys:List t.D} {yss:List (List t.D)} (hx:x.ev f=c) (hs:Hq ob t c=some ys) (h:V7 f ob t xs=some yss):V7 f ob t (x :: xs)=some (ys :: yss):=by
 simp only [V7,hx,hs,h]
theorem Asm {t:Ty} {xs:List Opd} {yss:List (List t.D)} {us:List (Oid×Option Ob)} (h:V7 f ob t xs=some yss) {e:TypeId} (hu:(xs.flatMap fun x=>P1 (x.ev f))=us):Bq n ⟨d,none,.mkV e (.slice t) 1 xs⟩ f ob=some (2,.tree (.slice t) yss,us):=by
 subst hu;simp only [Bq,ev,V5,h,if_true]
theorem It {e:TypeId} {t t':Ty} {by_:Nat} {x y:Opd} {c:AV} {ys xs zs:List t.D} {j:Oid} {len:Nat} (hx:x.ev f=.own j t' 0 len) (hob:ob j=some (.arr e t xs)) (hl:len=xs.length) (hy:y.ev f=c) (hs:Hq ob t c=some ys) (hz:zs=xs++ys) (h:xs.length+ys.length<=1073741824∧(xs.length+ys.length)*by_<=140737488355328) :
  Bq n ⟨d,none,.append e t by_ x y⟩ f ob=some (2,.own (j.1,n) t 0 zs.length,[(j,none),((j.1,n),some (.arr e t zs))]):=by
 subst hl hz;simp only [Bq,ev,Kx,hx,hy,hs,hob,Ty.eq?_self,Nat.le_refl,true_and,h.1,h.2,and_self,if_true,Fp,List.take_length,List.length_append]
theorem Vg {sz:Nat} {x:Opd} {lo hi mx:Option Opd} {t:Ty} {xs zs:List t.D} {l h m:Int} (hx:(x.ev f).un=.tree t xs) (hl:E5 f 0 lo=some l) (hh:E5 f xs.length hi=some h) (hm:E5 f xs.length mx=some m) (hs:t.size=sz) (hb:0<=l∧l<=h∧h<=m∧m<=xs.length) (hz:(xs.take h.toNat).drop l.toNat=zs) :
  Bq n ⟨d,none,.slice sz x lo hi mx⟩ f ob=some (0,.tree t zs,[]):=by
 subst hs hz;simp only [Bq,ev,Se,hx,hl,hh,hm,true_and,hb.1,hb.2.1,hb.2.2.1,hb.2.2.2,and_self,if_true]
theorem Rj {sz:Nat} {x:Opd} {lo hi:Option Opd} {t:Ty} {i:Oid} {off len o' j:Nat} {l h:Int} (hx:x.ev f=.own i t off len) (hl:E5 f 0 lo=some l) (hh:E5 f len hi=some h) (hs:t.size=sz) (hb:0<=l∧l<=h∧h<=len) (ho:off+l.toNat=o') (hj:(h - l).toNat=j) :
  Bq n ⟨d,none,.slice sz x lo hi none⟩ f ob=some (0,.own i t o' j,[]):=by
 subst hs ho hj;simp only [Bq,ev,Se,hx,AV.un,hl,hh,true_and,hb.1,hb.2.1,hb.2.2,and_self,if_true]
theorem As7 {x y:Opd} {j:Nat} (hx:x.ev f=.int .i64 j) (hy:y.ev f=.int .i64 1) (h:j+1<4611686018427387904):Bq n ⟨d,none,.i (.bin .add x y)⟩ f ob=some (0,.int .i64 ((j+1:Nat):Int),[]):=by
 have:IntKind.i64.wrap ((j:Int)+1)=((j+1:Nat):Int):=by rw [Go.IntWalk.i64_in _ (by omega)]; rfl
 simp [Bq,ev,evN,Aa7,hx,hy,this]
theorem Att {x y:Opd} {k:IntKind} {a b:Int} (hx:x.ev f=.int k a) (hy:y.ev f=.int k b) (h:b≠0):Bq n ⟨d,none,.i (.bin .quo x y)⟩ f ob=some (0,.int k (k.wrap (a.tdiv b)),[]):=by
 simp [Bq,ev,evN,Aa7,hx,hy,h]
theorem On {x y:Opd} {k:IntKind} {a b:Int} (hx:x.ev f=.int k a) (hy:y.ev f=.int k b) (h:b≠0):Bq n ⟨d,none,.i (.bin .rem x y)⟩ f ob=some (0,.int k (a.tmod b),[]):=by
 simp [Bq,ev,evN,Aa7,hx,hy,h]
end
theorem Ah {c:Opd} {x y:AC} {R:AE->St->Prop} {S:St} {t:Bool} (ht:t=true) (h1:awp P G x R S) (h:c.ev S.tm=.bool t:=by kernel_rfl):awp P G (.cond c x y) R S:=by
 subst ht; exact .inl ⟨true,h,fun _=>h1,fun h=>(nomatch h)⟩
theorem Ag {c:Opd} {x y:AC} {R:AE->St->Prop} {S:St} {t:Bool} (ht:t=false) (h2:awp P G y R S) (h:c.ev S.tm=.bool t:=by kernel_rfl):awp P G (.cond c x y) R S:=by
 subst ht; exact .inl ⟨false,h,fun h=>(nomatch h),fun _=>h2⟩
theorem Af {i:Nat} {a:AC} {R:AE->St->Prop} {S:St} (h:awp P G a (Kl i R) S):awp P G (.block i a) R S:=h
theorem Anr {a:AC} {R:AE->St->Prop} {S:St} {α:Type} (I:α->St->Prop) (μ:α->Nat) (h0:∃ s S0,Weak S S0∧I s S0) (h1:∀ s S1,I s S1->awp P G a (Mg (fun S2=>∃ s' S3,Weak S2 S3∧I s' S3∧μ s'<μ s) R) S1):awp P G (.loop a) R S:=⟨α,I,μ,h0,h1⟩
theorem Au {i:Nat} {R:AE->St->Prop} {S:St} (h:R (.exit i) S):awp P G (.exit i) R S:=h
theorem Ai {R:AE->St->Prop} {S:St} (h:R .normal S):awp P G .skip R S:=h
theorem Ao {R:AE->St->Prop} {S:St} (h:R .ret S):awp P G .ret R S:=h
end
section
variable {K:St->Prop} {R:AE->St->Prop} {S:St} {i j:Nat}
theorem tn_ (h:K S):Mg K R .normal S:=h
theorem te_ (h:R (.exit i) S):Mg K R (.exit i) S:=h
theorem tr_ (h:R .ret S):Mg K R .ret S:=h
theorem bn_ (h:R .normal S):Kl i R .normal S:=h
theorem be_ (h:R .normal S):Kl i R (.exit i) S:=by simpa [Kl] using h
theorem br_ (h:R .ret S):Kl i R .ret S:=h
end
def tmL:Nat->List AV->List (Nat×AV)
 | _,[]=>[]
 | k,v :: r=>(k,v) :: tmL (k+1) r
theorem Ajr:∀ (l:List AV) (k i:Nat),Ap (tmL k l) (k+i)=l.getD i .any
 | [],k,i=>by simp [tmL,Ap]
 | v :: r,k,i=>by
  cases i with
  | zero=>simp [tmL,Ap]
  | succ i =>
   have:=Ajr r (k+1) i;simp only [tmL,Ap];rw [if_neg (by omega),show k+(i+1)=k+1+i by omega,this];simp
theorem Amp (args:List AV):(fun i=>args.getD i .any)=Ap (tmL 0 args):=by
 funext i;have:=Ajr args 0 i;rw [Nat.zero_add] at this;exact this.symm
theorem St.init_eq (args:List AV):St.init args=⟨Ap (tmL 0 args),Aj [],1⟩:=by
 unfold St.init;rw [Amp];rfl
theorem Am0 {tl:List (Nat×AV)} {ol:List (Oid×Option Ob)} {g:Nat} (s:Nat) (e:TypeId) (t:Ty) (ht:t.flat=true) (hs:Ap tl s=.nils):Weak ⟨Ap tl,Aj ol,g⟩ ⟨Ap ((s,.own ((s,0),g) t 0 0) :: tl),Aj ((((s,0),g),some (.arr e t [])) :: ol),g+1⟩:=by
 have:=Apj (S:=⟨Ap tl,Aj ol,g⟩) s e t ht hs;rw [Rb] at this;have e2:upd (Aj ol) ((s,0),g) (some (.arr e t []))=Aj ((((s,0),g),some (.arr e t [])) :: ol):=Jx rfl;rw [e2] at this;exact this
theorem A9 {tl:List (Nat×AV)} {ol:List (Oid×Option Ob)} {g:Nat} (s:Nat) (v v':AV) (h:Ap tl s=v) (e:v=v'):Weak ⟨Ap tl,Aj ol,g⟩ ⟨Ap ((s,v') :: tl),Aj ol,g⟩:=by
 subst e
 have:Ap ((s,v) :: tl)=Ap tl:=by
  funext i;simp only [Ap];split
  ·rename_i e; rw [e]; exact h.symm
  ·rfl
 rw [this]; exact Weak.refl _
theorem Dy {tl:List (Nat×AV)} {ol:List (Oid×Option Ob)} {g:Nat} (j:Oid) (o o':Ob) (h:Aj ol j=some o) (e:o=o') (hx:L1 (some o)=true:=by rfl):Weak ⟨Ap tl,Aj ol,g⟩ ⟨Ap tl,Aj ((j,some o') :: ol),g⟩:=by
 subst e
 have:Aj ((j,some o) :: ol)=Aj ol:=by
  rw [← Jx hx,Apb _ _ _ h]
 rw [this]; exact Weak.refl _
theorem Pr {tl:List (Nat×AV)} {ol:List (Oid×Option Ob)} {g:Nat} (s:Nat) (e:TypeId) (t:Ty) (hs:Ap tl s=.nils):Weak ⟨Ap tl,Aj ol,g⟩ ⟨Ap ((s,.own ((s,0),g) t 0 0) :: tl),Aj ((((s,0),g),some (.vec e 1 0 [])) :: ol),g+1⟩:=by
 have:=Anq (S:=⟨Ap tl,Aj ol,g⟩) s e t hs;rw [Rb] at this;have e2:upd (Aj ol) ((s,0),g) (some (.vec e 1 0 []))=Aj ((((s,0),g),some (.vec e 1 0 [])) :: ol):=Jx rfl;rw [e2] at this;exact this
theorem Qj {tl:List (Nat×AV)} {ol:List (Oid×Option Ob)} {g:Nat} (s:Nat) (c:Oid) (k:Nat) (ty:TypeId) (cs ds:List AV) (e:TypeId) (t:Ty) (hb:Aj ol c=some (.cells ty cs)) (hk:cs[k]? =some .nils) (hd:cs.set k (.own ((s,0),g) t 0 0)=ds) :
  Weak ⟨Ap tl,Aj ol,g⟩ ⟨Ap tl,Aj ((c,some (.cells ty ds)) :: (((s,0),g),some (.vec e 1 0 [])) :: ol),g+1⟩:=by
 subst hd;have:=Z8 (S:=⟨Ap tl,Aj ol,g⟩) s c k ty cs e t hb hk;have e2:upd (upd (Aj ol) ((s,0),g) (some (.vec e 1 0 []))) c (some (.cells ty (cs.set k (.own ((s,0),g) t 0 0))))=Aj ((c,some (.cells ty (cs.set k (.own ((s,0),g) t 0 0)))) :: (((s,0),g),some (.vec e 1 0 [])) :: ol):=by rw [Jx rfl,Jx rfl]
 rw [← e2];exact this
def Ass (ol us:List (Oid×Ob)) (args:List AV) (v:AV):Bool :=
 (Hm ol&&(Hm us&&((ol.all fun q=>q.1.2==0)&&((us.all fun q=>q.1.2==1||(!q.2.isPool&&(Cd ol).contains q.1))&&(ndB (Cd us)&&ndB (Ch us))))))&&((ol.all fun q=>q.2.clo1 (Cd ol))&&((us.all fun q=>q.2.hp1 (Cd us))&&(AV.cloL (Cd ol) args&&AV.hpB (Cd us) v)))
def Af1 (ol:List (Oid×Ob)):List (Oid×Ob)->Prop
 | []=>True
 | q :: r=>(match q.2 with
  | .mat _ p u xss=>∃ e,(p,Ob.pool e u xss)∈ol
  | _=>True)∧Af1 ol r
theorem Ug {ol:List (Oid×Ob)}:∀ {l:List (Oid×Ob)},Af1 ol l->∀ i e p u xss,(i,Ob.mat e p u xss)∈l->∃ e,(p,Ob.pool e u xss)∈ol
 | _ :: _,h,i,e,p,u,xss,hm=>by
  rcases List.mem_cons.1 hm with rfl | hm
  ·exact h.1
  ·exact Ug h.2 i e p u xss hm
theorem Al3 {ol:List (Oid×Ob)} {p:Oid} {e:TypeId} {u:Ty} {xss:List (List u.D)}:(p,Ob.pool e u xss)∈ol->∀ k,k<xss.length->kid p k∈nmL ol:=by
 induction ol with
 | nil=>intro h; cases h
 | cons x r ih =>
  obtain ⟨x1,x2⟩:=x;intro h k hk;rcases List.mem_cons.1 h with h | h
  ·cases h;simp only [nmL,exL,List.map_append,List.mem_append];refine .inl (List.mem_map.2 ⟨(kid p k,.arr e u xss[k]),List.mem_map.2 ⟨(xss[k],k),?_,rfl⟩,rfl⟩);rw [List.mem_zipIdx_iff_getElem?]; exact gEg hk
  ·have:=ih h k hk;cases x2 <;> simp only [nmL,exL,List.map_cons,List.map_append] at this⊢ <;> first | exact List.mem_cons_of_mem _ this | exact List.mem_append_right _ this
theorem Rs {ol:List (Oid×Ob)} {i:Oid} (h:i∈Cd ol):i∈nmL ol:=by
 obtain ⟨o,ho,hp⟩:=Aol h;exact List.mem_map.2 ⟨_,Zp ho hp,rfl⟩
theorem Ate {D:Oid->Prop} {p:Oid} {u:Ty} (xss:List (List u.D)) (h:∀ k,k<xss.length->D (kid p k)):AV.hpL D (hdL p u xss):=by
 have key:∀ l:List (List u.D×Nat),(∀ x∈l,D (kid p x.2))->AV.hpL D (l.map fun x=>.own (kid p x.2) u 0 x.1.length):=by
  intro l
  induction l with
  | nil=>intro _; trivial
  | cons x l ih=>intro h; exact ⟨h x (by simp),ih fun y hy=>h y (by simp [hy])⟩
 refine key _ fun x hx=>h _ ?_
 obtain ⟨row,k⟩:=x;rw [List.mem_zipIdx_iff_getElem?] at hx;exact (gSi.1 hx).1
theorem As8 {D:List Oid} (o:Ob) (h:o.clo1 D=true) (hp:o.isPool=false) (hm:∀ e p u xss,o≠.mat e p u xss):o.exp.cloP (·∈D):=by
 cases o with
 | cells _ cs=>exact AV.cloPL_of cs h
 | vec _ _ _ cs=>exact AV.cloPL_of cs h
 | mat e p u xss=>exact absurd rfl (hm _ _ _ _)
 | arr _ _ _=>trivial
 | map _ _ _=>trivial
 | pool _ _ _=>cases hp
theorem At7 {D:List Oid} (o:Ob) (h:o.hp1 D=true) (hp:o.isPool=false) (hm:∀ e p u xss,o≠.mat e p u xss):o.exp.hp (·∈D):=by
 cases o with
 | cells _ cs=>exact AV.hpB_PL cs h
 | vec _ _ _ cs=>exact AV.hpB_PL cs h
 | mat e p u xss=>exact absurd rfl (hm _ _ _ _)
 | arr _ _ _=>trivial
 | map _ _ _=>trivial
 | pool _ _ _=>cases hp
theorem cloP_mono {D E:Oid->Prop} (hd:∀ i,D i->E i) (o:Ob) (h:o.cloP D):o.cloP E:=by
 cases o <;> first | exact AV.cloPL_mono hd _ h | exact h
theorem hp_mono {D E:Oid->Prop} (hd:∀ i,D i->E i) (o:Ob) (h:o.hp D):o.hp E:=by
 cases o <;> first | exact AV.hpL_mono hd _ h | exact h
section
variable {P:Program} {G:World->Prop} (hfol:P.follows .mixedOrders=true) {g:FuncId} {fn:Func} (hf:P.funcs[g]? =some fn) {ac:AC} {rs:List Res} (hc:Aw P fn=some (ac,rs)) {args:List AV} {r:RV} {n:Nat} (hN:fn.ntmps=n) (hn:args.length<=n)
include hfol hf hc hN hn
theorem Ba [IsP P] {tl:List (Nat×AV)} (htl:tmL 0 args=tl) (h:awp P G ac (fun e S=>∃ S',Weak S S'∧(e=.normal∨e=.ret)∧RetOK [] rs S' r) ⟨Ap tl,Aj [],1⟩):Bm P G g args r:=by
 refine Arh hfol hf hc hN hn ?_;rw [St.init_eq,htl];exact h
omit hN hn in
theorem B8 [IsP P] (hN:fn.ntmps=n) (hn:args.length<=n) {tl:List (Nat×AV)} (htl:tmL 0 args=tl) {ol us:List (Oid×Ob)} {v:AV} (hB:Ass ol us args v=true) (hm1:Af1 ol ol) (hm2:Af1 us us)
  (h:awp P G ac (fun e S=>∃ S',Weak S S'∧(e=.normal∨e=.ret)∧(∃ rvs,Res.evL S'.tm S'.ob rs=some rvs∧v=Ahy rvs)∧∀ q∈exL us,S'.ob q.1=some q.2) ⟨Ap tl,Aj (Ar ol),1⟩):Fi P G g args ol v us:=by
 simp only [Ass,Bool.and_eq_true] at hB;obtain ⟨⟨a1,a2,a3,a4,a5,a6⟩,b1,b2,b3,b4⟩:=hB;rw [List.all_eq_true] at a3 a4 b1 b2
 have h0:∀ {l:List (Oid×Ob)},Hm l=true->∀ q∈l,q.1.1.2=0:=fun h q hq=>by
  unfold Hm at h;rw [List.all_eq_true] at h;have:=h q hq;simp only [Bool.and_eq_true,beq_iff_eq] at this;exact this.1
 refine Apz hfol hf hc hN hn (fun q hq=>?_) (Asp (G1 a5) (G1 a6) (h0 a2)) (fun q hq=>?_) (AV.cloPL_mono (fun i hi=>Rs hi) _ (AV.cloPL_of args b3)) (AV.hp_mono (fun i hi=>Rs hi) _ (AV.hpB_P v b4)) ?_
 ·rcases Ih hq with ⟨p,e,u,xss,k,row,m1,m2,rfl⟩ | ⟨o,m1,m2,m3⟩
  ·have:=a3 _ m1;rw [beq_iff_eq] at this;exact ⟨this,trivial⟩
  ·have:=a3 _ m1;refine ⟨by simpa using this,?_⟩;rw [m3];by_cases hmt:∃ e p u xss,o=.mat e p u xss
   ·obtain ⟨e,p,u,xss,rfl⟩:=hmt;obtain ⟨e',hp⟩:=Ug hm1 _ _ _ _ _ m1;exact Aqb xss fun k hk=>Al3 hp k hk
   ·exact cloP_mono (fun i hi=>Rs hi) _ (As8 o (b1 _ m1) m2 fun e p u xss h=>hmt ⟨e,p,u,xss,h⟩)
 ·rcases Ih hq with ⟨p,e,u,xss,k,row,m1,m2,rfl⟩ | ⟨o,m1,m2,m3⟩
  ·have:=a4 _ m1;simp only [Ob.isPool,Bool.not_true,Bool.false_and,Bool.or_false,beq_iff_eq] at this;exact ⟨.inl this,trivial⟩
  ·have:=a4 _ m1;simp only [Bool.or_eq_true,Bool.and_eq_true,beq_iff_eq] at this;refine ⟨this.imp id fun h=>Rs (List.contains_iff_mem.1 h.2),?_⟩;rw [m3];by_cases hmt:∃ e p u xss,o=.mat e p u xss
   ·obtain ⟨e,p,u,xss,rfl⟩:=hmt;obtain ⟨e',hp⟩:=Ug hm2 _ _ _ _ _ m1;exact Ate xss fun k hk=>Al3 hp k hk
   ·exact hp_mono (fun i hi=>Rs hi) _ (At7 o (b2 _ m1) m2 fun e p u xss h=>hmt ⟨e,p,u,xss,h⟩)
 ·rw [Amp,htl];exact h
end
theorem Br {rs:List Res} {f:Nat->AV} {ob:Oid->Option Ob} {g:Nat} {r:RV} (avs:List AV) {vs:List Value} {e:AE} (h2:PartsR vs ob avs r.ps) (he:e=.normal∨e=.ret:=by simp) (h1:Res.evL f ob rs=some avs:=by kernel_rfl) (h3:ndB (Ada ob (V6 avs))=true:=by kernel_rfl) (h4:r.tup=decide (rs.length≠1):=by kernel_rfl):∃ S',Weak ⟨f,ob,g⟩ S'∧(e=.normal∨e=.ret)∧RetOK vs rs S' r :=
 ⟨_,Weak.refl _,he,avs,r.ps,h1,h2,G1 h3,by cases r; cases h4; rfl⟩
theorem Gk {rs:List Res} {S:St} {tl:List (Nat×AV)} {g:Nat} {v:AV} {us:List (Oid×Ob)} {e:AE} (rvs:List AV) (hw:Weak S ⟨Ap tl,Aj (Ar us),g⟩) (he:e=.normal∨e=.ret:=by simp) (h1:Res.evL (Ap tl) (Aj (Ar us)) rs=some rvs:=by kernel_rfl) (hv:v=Ahy rvs:=by kernel_rfl) (h2:(Hm us&&(ndB (Cd us)&&ndB (Ch us)))=true:=by kernel_rfl) :
  ∃ S',Weak S S'∧(e=.normal∨e=.ret)∧(∃ rvs,Res.evL S'.tm S'.ob rs=some rvs∧v=Ahy rvs)∧∀ q∈exL us,S'.ob q.1=some q.2:=by
 refine ⟨_,hw,he,⟨rvs,h1,hv⟩,fun q hq=>?_⟩;simp only [Bool.and_eq_true] at h2;obtain ⟨a1,a2,a3⟩:=h2
 have h0:∀ q∈us,q.1.1.2=0:=fun q hq=>by
  unfold Hm at a1;rw [List.all_eq_true] at a1;have:=a1 q hq;simp only [Bool.and_eq_true,beq_iff_eq] at this;exact this.1
 have:=Py (rest:=[]) (G1 a2) (G1 a3) (fun p hp=>by obtain ⟨e,u,xss,hm⟩:=Asx hp; exact h0 _ hm) (fun i hi p hp k e=>by
  obtain ⟨o,ho,_⟩:=Aol hi;have:=h0 _ ho;rw [e] at this;simp [kid] at this) q hq
 rwa [List.append_nil] at this
section
variable {vs:List Value} {ob:Oid->Option Ob}
theorem Asu {cs r:List AV} {ls:List RL} {ps:List (Bool×List RL)} (h1:LeavesR vs ob cs ls) (h2:PartsR vs ob r ps):PartsR vs ob (.agg cs :: r) ((true,ls) :: ps):=⟨ls,ps,rfl,h1,h2⟩
theorem A8 {c:AV} {r:List AV} {l:RL} {ps:List (Bool×List RL)} (hc:c.one=true) (h1:LeafR vs ob c l) (h2:PartsR vs ob r ps):PartsR vs ob (c :: r) ((false,[l]) :: ps):=by
 rw [Qe (by rintro ⟨_,rfl⟩; cases hc)];exact ⟨l,ps,rfl,h1,h2⟩
theorem Bc:PartsR vs ob [] []:=rfl
theorem Uc {c:AV} {cs:List AV} {l:RL} {ls:List RL} (h1:LeafR vs ob c l) (h2:LeavesR vs ob cs ls):LeavesR vs ob (c :: cs) (l :: ls):=⟨l,ls,rfl,h1,h2⟩
theorem Asl:LeavesR vs ob [] []:=rfl
theorem At9 {c:AV} {l:RL} (h:T4 ob c=some l):LeafR vs ob c l:=.inl (.inl h)
theorem Kb {i:Oid} {t u:Ty} {e:TypeId} {xs:List u.D} {len:Nat} (h:ob i=some (.arr e u xs)) (hl:len=xs.length):LeafR vs ob (.own i t 0 len) (.new e u xs):=by
 subst hl;exact .inl (.inl (by simp only [T4,h,Nat.le_refl,and_self,if_true,List.take_length]))
theorem Agv {e:TypeId} {t:Ty} (h:t.flat=true):LeafR vs ob .nils (.new e t []):=.inl (.inr (.inr ⟨e,t,rfl,rfl,h⟩))
end
end
section
open Go.RowKit Go.Deep
abbrev tm (n:Nat):Opd:=.tmp n
abbrev cb (b:Bool):Opd:=.cst (.bool b)
abbrev ci (n:Int):Opd:=.cst (.int .i64 n)
abbrev xo (d:Nat) (q:Q):X:=⟨some d,none,q⟩
abbrev xn (q:Q):X:=⟨none,none,q⟩
abbrev qm (x:Opd):Q:=.i (.mov x)
abbrev ql (x:Opd):Q:=.i (.ld true 1 x)
abbrev qs (x y:Opd):Q:=.st true 1 x y
abbrev qf (k:Nat) (x:Opd):Q:=.i (.fld k x)
abbrev qb (o:BinOp) (x y:Opd):Q:=.i (.bin o x y)
abbrev qx (sz:Nat) (x y:Opd):Q:=.i (.idx sz x y)
abbrev qc (f:FuncId) (xs:List Opd) (tys:List (List (Option Ty))):Q:=.call (.cst (.fn f [])) xs tys
abbrev rg (xs:List X):AC:=.region xs false []
abbrev ai (n:Int):AV:=.int .i64 n
abbrev oi (a b:Nat):Oid:=((a,0),b)
def Ar7 (d:Option Nat) (v:AV) (tl:List (Nat×AV)):List (Nat×AV) :=
 match d with
 | some d=>(d,v) :: tl
 | none=>tl
theorem Apl (d:Option Nat) (v:AV) (tl:List (Nat×AV)):Na d v (Ap tl)=Ap (Ar7 d v tl):=by
 cases d with
 | none=>rfl
 | some d=>simp only [Na,Ar7,Rb]
noncomputable def Afb (g:Nat):Nat->Nat->List X->List (Nat×AV)->List (Oid×Option Ob)->Option (List (Nat×AV)×List (Oid×Option Ob))
 | 0,_,_,tl,ol=>some (tl,ol)
 | _+1,_,[],_,_=>none
 | n+1,k,x :: xs,tl,ol=>match Bq (g+k) x (Ap tl) (Aj ol) with
  | some (_,v,us)=>if Fm us then Afb g n (k+1) xs (Ar7 x.dst v tl) (us.reverseAux ol) else none
  | none=>none
noncomputable def Air (g:Nat):Nat->Nat->List X->List (Nat×AV)->List (Oid×Option Ob)->List Rec->List (List Oid)->Option (List (Nat×AV)×List (Oid×Option Ob)×List Rec×List (List Oid))
 | 0,_,_,tl,ol,ra,da=>some (tl,ol,ra,da)
 | _+1,_,[],_,_,_,_=>none
 | n+1,k,x :: xs,tl,ol,ra,da=>match Bq (g+k) x (Ap tl) (only (rdX (Ap tl) (Aj ol) x) (Aj ol)) with
  | some (c,v,us)=>if Fm us then Air g n (k+1) xs (Ar7 x.dst v tl) (us.reverseAux ol) ((c,v,us) :: ra) (rdX (Ap tl) (Aj ol) x :: da) else none
  | none=>none
theorem At0 {P:Program} {G:World->Prop} {g:Nat} {Kf:List (Nat×AV)->List (Oid×Option Ob)->Prop}:∀ (n k:Nat) (xs:List X) (tl:List (Nat×AV)) (ol:List (Oid×Option Ob)) (r:List (Nat×AV)×List (Oid×Option Ob)),Afb g n k xs tl ol=some r->XW P G g (k+n) (xs.drop n) r.1 r.2 Kf->XW P G g k xs tl ol Kf
 | 0,k,xs,tl,ol,r,h,hk=>by
  obtain rfl:=osj h;exact hk
 | n+1,k,[],tl,ol,r,h,hk=>by cases h
 | n+1,k,x :: xs,tl,ol,r,h,hk=>by
  simp only [Afb] at h;split at h
  ·rename_i c v us hst;split at h
   ·rename_i hx;obtain ⟨rs,tl',ol',h1,h2⟩:=At0 (P:=P) (G:=G) n (k+1) xs _ _ r h (by rw [show k+1+n=k+(n+1) by omega]; exact hk);exact ⟨(c,v,us) :: rs,tl',ol',⟨_,_,rfl,Ho hst,by rw [Apl,Hx _ _ hx]; exact h1⟩,h2⟩
   ·cases h
  ·cases h
theorem rsB {P:Program} {G:World->Prop} {g k:Nat} {xs:List X} {tl:List (Nat×AV)} {ol:List (Oid×Option Ob)} {Kf:List (Nat×AV)->List (Oid×Option Ob)->Prop} (n:Nat) (hk:XW P G g (k+n) (xs.drop n) ((Afb g n k xs tl ol).getD ([],[])).1 ((Afb g n k xs tl ol).getD ([],[])).2 Kf) (h:(Afb g n k xs tl ol).isSome=true:=by kernel_rfl):XW P G g k xs tl ol Kf:=by
 obtain ⟨r,hr⟩:=Option.isSome_iff_exists.1 h;rw [hr] at hk;exact At0 n k xs tl ol r hr hk
theorem At5 {P:Program} {G:World->Prop} {g:Nat} {bad:List (Nat×Nat)} {Kf:List (Nat×AV)->List (Oid×Option Ob)->Prop}:∀ (n k:Nat) (xs:List X) (tl:List (Nat×AV)) (ol:List (Oid×Option Ob)) (ra:List Rec) (da:List (List Oid)) (r:List (Nat×AV)×List (Oid×Option Ob)×List Rec×List (List Oid)),Air g n k xs tl ol ra da=some r->XD P G bad g (k+n) (xs.drop n) r.1 r.2.1 r.2.2.1 r.2.2.2 Kf->XD P G bad g k xs tl ol ra da Kf
 | 0,k,xs,tl,ol,ra,da,r,h,hk=>by
  obtain rfl:=osj h;exact hk
 | n+1,k,[],tl,ol,ra,da,r,h,hk=>by cases h
 | n+1,k,x :: xs,tl,ol,ra,da,r,h,hk=>by
  simp only [Air] at h;split at h
  ·rename_i c v us hst;split at h
   ·rename_i hx;obtain ⟨rs,ds,tl',ol',h1,hb,h2⟩:=At5 (P:=P) (G:=G) n (k+1) xs _ _ _ _ r h (by rw [show k+1+n=k+(n+1) by omega]; exact hk);refine ⟨(c,v,us) :: rs,rdX (Ap tl) (Aj ol) x :: ds,tl',ol',⟨_,_,_,rfl,rfl,Ho hst,by rw [Apl,Hx _ _ hx]; exact h1⟩,?_,h2⟩
    simpa using hb
   ·cases h
  ·cases h
theorem dsB {P:Program} {G:World->Prop} {g k:Nat} {xs:List X} {tl:List (Nat×AV)} {ol:List (Oid×Option Ob)} {bad:List (Nat×Nat)} {ra:List Rec} {da:List (List Oid)} {Kf:List (Nat×AV)->List (Oid×Option Ob)->Prop} (n:Nat) (hk:XD P G bad g (k+n) (xs.drop n) ((Air g n k xs tl ol ra da).getD ([],[],[],[])).1 ((Air g n k xs tl ol ra da).getD ([],[],[],[])).2.1 ((Air g n k xs tl ol ra da).getD ([],[],[],[])).2.2.1 ((Air g n k xs tl ol ra da).getD ([],[],[],[])).2.2.2 Kf) (h:(Air g n k xs tl ol ra da).isSome=true:=by kernel_rfl):XD P G bad g k xs tl ol ra da Kf:=by
 obtain ⟨r,hr⟩:=Option.isSome_iff_exists.1 h;rw [hr] at hk;exact At5 n k xs tl ol ra da r hr hk
theorem An {P:Program} {G:World->Prop} {g:Nat} {xs:List X} {bad:List (Nat×Nat)} {y:AC} {R:AE->St->Prop} {tl:List (Nat×AV)} {ol:List (Oid×Option Ob)} (h:awp P G y R ⟨Ap ((Afb g xs.length 0 xs tl ol).getD ([],[])).1,Aj ((Afb g xs.length 0 xs tl ol).getD ([],[])).2,g+xs.length⟩) (hs:(Afb g xs.length 0 xs tl ol).isSome=true:=by kernel_rfl):awp P G (.seq (.region xs false bad) y) R ⟨Ap tl,Aj ol,g⟩:=by
 refine Ab (Aa (g+xs.length) (rsB xs.length (by rw [List.drop_length]; exact Aq (tn_ ⟨_,Weak.refl _,h⟩)) hs) rfl)
theorem Hs {i:Oid} {ob:Oid->Option Ob}:only [i] ob i=ob i:=if_pos (List.mem_singleton.2 rfl)
section
variable {n:Nat} {d:Option Nat} {f:Nat->AV} {ob:Oid->Option Ob} {ol:List (Oid×Option Ob)}
theorem Bs {x:Opd} {o p:Oid} {e1:TypeId} {u:Ty} {xss:List (List u.D)} {row:List u.D} {j:Nat} (hx:x.ev f=.elt o j 0) (hob:ob o=some (.vec e1 1 xss.length (hdL p u xss))) (hr:xss[j]? =some row):Bq n ⟨d,none,.i (.ld true 1 x)⟩ f ob=some (1,.own (kid p j) u 0 row.length,[]):=by
 have h:(hdL p u xss)[j*1+0]? =some (.own (kid p j) u 0 row.length):=by rw [Fu]; simp [hr]
 simp only [Nat.mul_one,Nat.add_zero] at h;simp [Bq,ev,evN,evR,hx,hob,E6,h]
theorem Tr {x y:Opd} {o:Oid} {e1:TypeId} {m:Nat} {cs:List AV} {v:AV} {j:Nat} (hx:x.ev f=.elt o j 0) (hob:ob o=some (.vec e1 1 m cs)) (hy:y.ev f=v) (hv:v.one=true) (hj:j<cs.length):Bq n ⟨d,none,.st true 1 x y⟩ f ob=some (2,.any,[(o,none),(o,some (.vec e1 1 m (cs.set j v)))]):=by
 simp [Bq,ev,Ags,hx,hob,hy,Nl,hv,hj]
theorem Jf {x y:Opd} {o q:Oid} {e1 e2:TypeId} {u:Ty} {t':Ty} {b:Nat} {p:Oid} {xss:List (List u.D)} {cs:List AV} {len:Nat} (hx:x.ev f=.own o t' 0 len) (hob:ob o=some (.vec e1 1 xss.length (hdL p u xss))) (hl:len=xss.length) {t2:Ty} (hy:y.ev f=.own q t2 0 1) (hq:ob q=some (.vec e2 1 1 cs)) (hc:cs.length=1) (h:xss.length+1<=1073741824∧(xss.length+1)*b<=140737488355328) :
  Bq n ⟨d,none,.appV e1 (.slice u) b x y⟩ f ob=some (2,.own (o.1,n) (.slice u) 0 (xss.length+1),[(o,none),((o.1,n),some (.vec e1 1 (xss.length+1) (hdL p u xss++cs)))]):=by
 subst hl;have h1:List.take (xss.length*1) (hdL p u xss)=hdL p u xss:=by rw [Nat.mul_one]; exact List.take_of_length_le (by rw [D2]; exact Nat.le_refl _)
 have h2:List.take (1*1) (List.drop (0*1) cs)=cs:=by simp only [Nat.zero_mul,List.drop_zero,Nat.mul_one]; exact List.take_of_length_le (by omega)
 simp only [Bq,ev,N5,hx,hy,Ajv,hq,hob,Ty.size,true_and,Nat.zero_add,Nat.le_refl,if_true,h1,h2,h.1,h.2,and_self]
theorem L7 {i:Oid} {e:TypeId} {t:Ty} {sz:Nat} {xs:List Opd} {r:Rec} (h:(Ad4 f i e t sz xs).map (fun r=>((1:Nat),r.1,r.2))=some r):evL f i (.mkV e t sz xs)=some r:=by
 simp only [evL];cases hq:Ad4 f i e t sz xs with
 | none=>rw [hq] at h; cases h
 | some q=>rw [hq] at h; obtain ⟨v,us⟩:=q; exact h
theorem Zz {i:Oid} {e:TypeId} (e':TypeId) {u:Ty} {b:Nat} {x y:Opd} {k k':IntKind} {m c:Int} {j:Nat} (hx:x.ev f=.int k m) (hy:y.ev f=.int k' c) (h:0<=m∧m<=c∧c<=1073741824∧(b:Int)*c<=140737488355328) (hfl:u.flat=true) (hj:m.toNat=j) :
  Ail f i (.makeV e (.slice u) b [.nils] x y) (1,RV.out ⟨false,[(false,[.newM e e' u (List.replicate j [])])]⟩ (Ek i) []):=by
 subst hj;exact ⟨e,e',u,b,x,y,k,k',m,c,rfl,hx,hy,h,hfl,rfl⟩
theorem Arn {i:Oid} {e e':TypeId} {u:Ty} {xss:List (List u.D)} (h:Nn i.2 ol=true):A4 (RV.out ⟨false,[(false,[.newM e e' u xss])]⟩ (Ek i) []).2 (Aj ol)=Aj ((Ek i 0,some (.mat e (Ek i 0) u xss)) :: (Ek i 0,some (.pool e' u xss)) :: ol):=by
 have e0:(RV.out ⟨false,[(false,[.newM e e' u xss])]⟩ (Ek i) []).2=(Ek i 0,some (.vec e 1 xss.length (hdL (Ek i 0) u xss))) :: (Acg (Ek i 0) e' u xss++[]):=rfl;rw [e0,List.append_nil];show A4 (Acg (Ek i 0) e' u xss) (upd (Aj ol) (Ek i 0) (some (.vec e 1 xss.length (hdL (Ek i 0) u xss))))=_
 rw [Jx rfl,Ahm (fun k=>by
  have:Aj ((Ek i 0,some (.vec e 1 xss.length (hdL (Ek i 0) u xss))) :: ol) (kid (Ek i 0) k)=if kid (Ek i 0) k=Ek i 0 then some (.vec e 1 xss.length (hdL (Ek i 0) u xss)) else Aj ol (kid (Ek i 0) k):=by simp only [Aj]
  rw [this,if_neg (fun e=>by have:=congrArg (fun i:Oid=>i.1.2) e; simp [kid,Ek] at this)];exact Qd h _ rfl)]
 funext j;have h2:∀ j,Aj ((Ek i 0,some (.vec e 1 xss.length (hdL (Ek i 0) u xss))) :: ol) j=if j=Ek i 0 then some (.vec e 1 xss.length (hdL (Ek i 0) u xss)) else Aj ol j:=fun j=>by simp only [Aj]
 rw [Ox,Lu,Lu,h2];by_cases hj:j=Ek i 0
 ·subst hj;rw [if_pos rfl,if_neg (fun h=>h.2.2 rfl),if_pos rfl]
 ·rw [if_neg hj,if_neg hj]
end
section
variable {P:Program} {G:World->Prop} {g k d:Nat} {gd:Option (Nat×Bool)} {q:Q} {xs:List X} {tl:List (Nat×AV)} {ol:List (Oid×Option Ob)} {bad:List (Nat×Nat)} {ra:List Rec} {da:List (List Oid)} {Kf:List (Nat×AV)->List (Oid×Option Ob)->Prop}
theorem Afp (v:AV) (i:Oid) (o:Ob) (hgd:Wv gd (Ap tl)) (h:evL (Ap tl) ((d,0),g+k) q=some (1,v,[(i,some o)])) (h3:XW P G g (k+1) xs ((d,v) :: tl) ((i,some o) :: ol) Kf) (hx:L1 (some o)=true:=by rfl):XW P G g k (⟨some d,gd,q⟩ :: xs) tl ol Kf:=Aab 1 v _ (Asr (d:=some d) hgd h) h3 (by simp only [Fm,List.all_cons,List.all_nil,hx]; rfl)
theorem Am1 (v:AV) (i:Oid) (o:Ob) (hgd:Wv gd (Ap tl)) (h:evL (Ap tl) ((d,0),g+k) q=some (1,v,[(i,some o)])) (h3:XD P G bad g (k+1) xs ((d,v) :: tl) ((i,some o) :: ol) ((1,v,[(i,some o)]) :: ra) ((rdX (Ap tl) (Aj ol) ⟨some d,gd,q⟩) :: da) Kf) (hx:L1 (some o)=true:=by rfl):XD P G bad g k (⟨some d,gd,q⟩ :: xs) tl ol ra da Kf:=Aa4 1 v _ (Asr (d:=some d) hgd h) h3 (by simp only [Fm,List.all_cons,List.all_nil,hx]; rfl)
theorem Afw (v:AV) (i:Oid) (e e':TypeId) (u:Ty) (xss:List (List u.D)) (hgd:Wv gd (Ap tl)) (h:Ail (Ap tl) ((d,0),g+k) q (1,RV.out ⟨false,[(false,[.newM e e' u xss])]⟩ (Ek ((d,0),g+k)) [])) (hi:Ek ((d,0),g+k) 0=i) (hv:AV.own i (.slice u) 0 xss.length=v) (hn:Nn (g+k) ol=true) (h3:XW P G g (k+1) xs ((d,v) :: tl) ((i,some (.mat e i u xss)) :: (i,some (.pool e' u xss)) :: ol) Kf):XW P G g k (⟨some d,gd,q⟩ :: xs) tl ol Kf:=by
 subst hi hv;exact Ake 1 _ _ _ (Arq (d:=some d) hgd h) (Arn hn) h3
end
-- what arguments read as
section
variable {ol:List (Oid×Option Ob)} {n:Nat}
theorem Ab2 {α:Type} {g:List AV->Option α}:∀ {cs:List AV} {xs:List α},cs.length=xs.length->(∀ (k:Nat) (c:AV) (x:α),cs[k]? =some c->xs[k]? =some x->g [c]=some x)->X4 g 1 xs.length cs=some xs
 | [],[],_,_=>rfl
 | c :: cs,x :: xs,hl,h=>by
  have h0:=h 0 c x rfl rfl;have ih:=Ab2 (g:=g) (cs:=cs) (xs:=xs) (by simpa using hl) (fun k c x h1 h2=>h (k+1) c x h1 h2);simp only [List.length_cons,X4,List.take_succ_cons,List.take_zero,List.drop_succ_cons,List.drop_zero,h0,ih]
 | [],_ :: _,hl,_=>by simp at hl
 | _ :: _,[],hl,_=>by simp at hl
theorem Aob {ob:Oid->Option Ob} {o p:Oid} {e1 e:TypeId} {u:Ty} {xss:List (List u.D)} {m len:Nat} (ho:ob o=some (.vec e1 1 m (hdL p u xss))) (hm:m=xss.length) (hk:∀ k row,xss[k]? =some row->ob (kid p k)=some (.arr e u row)) {t':Ty} (hl:len<=xss.length):Anu ob 1 (rdC ob (.slice u)) (.own o t' 0 len)=some (xss.take len):=by
 have h1:(((hdL p u xss).drop (0*1)).take (len*1))=hdL p u (xss.take len):=by
  simp only [Nat.zero_mul,List.drop_zero,Nat.mul_one];apply List.ext_getElem?;intro j;rw [List.getElem?_take,Fu,Fu,List.getElem?_take];split <;> rfl
 have hlen:(xss.take len).length=len:=by rw [List.length_take]; omega
 simp only [Anu,ho];rw [if_pos ⟨trivial,by omega⟩,h1]
 have:=Ab2 (g:=rdC ob (.slice u)) (cs:=hdL p u (xss.take len)) (xs:=xss.take len) D2 (fun k c x hc hx=>by
  rw [Fu,hx] at hc;obtain rfl:=osj hc;rw [List.getElem?_take] at hx;split at hx
  ·have:=hk k x hx;simp only [rdC,Hq,this,Nat.zero_add,Nat.le_refl,if_true,Ty.eq?_self,Fp,List.drop_zero,List.take_length]
  ·cases hx)
 rw [hlen] at this;exact this
theorem M6 {ob:Oid->Option Ob} {o p:Oid} {e1 e:TypeId} {u:Ty} {xss:List (List u.D)} {len:Nat} (ho:ob o=some (.vec e1 1 xss.length (hdL p u xss))) (hk:∀ k row,xss[k]? =some row->ob (kid p k)=some (.arr e u row)) (hl:len=xss.length):gnd ob (n+1) (.own o (.slice u) 0 len)=some (.tree (.slice u) xss):=by
 subst hl;have:=Aob (t':=.slice u) ho rfl hk (Nat.le_refl _);rw [List.take_length] at this;simp only [gnd,ho,Ty.size,this,Option.map_some]
theorem Hb {p:Oid} {e:TypeId} {u:Ty} {xss:List (List u.D)} (h:Fo ol p=some (.pool e u xss)):∀ k row,xss[k]? =some row->Aj ol (kid p k)=some (.arr e u row):=fun _ _ hx=>A0 h hx
def Aep (θ:Oid->Oid) (ol0:List (Oid×Ob)) (i:Oid):Bool:=ol0.all fun q=>if q.2.isPool then !(i.1.1==(θ q.1).1.1&&(i.2==(θ q.1).2&&i.1.2 !=0)) else i !=θ q.1
theorem Np {l:List (Oid×Oid)} {ob:Oid->Option Ob} {ol0:List (Oid×Ob)} {i:Oid} (hl:Rf l=true) (h0:Hm ol0=true) (h:Aep (Bt l) ol0 i=true):Yz ((nmL ol0).map (Bt l)) ob i=ob i:=by
 unfold Yz;rw [if_neg];intro hm;obtain ⟨j,hj,rfl⟩:=List.mem_map.1 hm;obtain ⟨q,hq,rfl⟩:=List.mem_map.1 hj;unfold Aep at h;rw [List.all_eq_true] at h;unfold Hm at h0;rw [List.all_eq_true] at h0;rcases Ih hq with ⟨p,e,u,xss,k,row,m1,m2,rfl⟩ | ⟨o,m1,m2,m3⟩
 ·have:=h _ m1;have hz:=h0 _ m1;simp only [Bool.and_eq_true,beq_iff_eq] at hz;rw [J4 hl hz.1] at this;simp [Ob.isPool,kid] at this
 ·have:=h _ m1;simp [m2] at this
theorem Lt {l:List (Oid×Oid)} {ob:Oid->Option Ob} {ol0:List (Oid×Ob)} {p:Oid} {e:TypeId} {u:Ty} {xss:List (List u.D)} (hl:Rf l=true) (h0:Hm ol0=true) (hk:∀ k row,xss[k]? =some row->ob (kid p k)=some (.arr e u row)) (hn:(ol0.all fun q=> !((Bt l q.1).1.1==p.1.1&&((Bt l q.1).2==p.2)))=true):∀ k row,xss[k]? =some row->Yz ((nmL ol0).map (Bt l)) ob (kid p k)=some (.arr e u row):=by
 intro k row hx;rw [Np hl h0,hk k row hx];unfold Aep;rw [List.all_eq_true] at hn ⊢;intro q hq;have:=hn q hq;simp only [Bool.not_eq_true',Bool.and_eq_false_iff,beq_eq_false_iff_ne,ne_eq] at this;split
 ·simp only [Bool.not_eq_true',Bool.and_eq_false_iff,beq_eq_false_iff_ne,ne_eq,kid];rcases this with h | h
  ·exact .inl fun e=>h e.symm
  ·exact .inr (.inl fun e=>h e.symm)
 ·simp only [bne_iff_ne,ne_eq];intro e;rw [← e] at this;rcases this with h | h <;> exact h rfl
theorem Alm {l:List (Oid×Oid)} {i:Oid} {ol us:List (Oid×Ob)} (hB:Akl ol us=true):∀ u∈M9 (Bt l) i ol us,u.1.2=i.2∨u.1∈(nmL ol).map (Bt l):=by
 intro u hu;rcases List.mem_append.1 hu with hu | hu
 ·obtain ⟨q,hq,rfl⟩:=List.mem_map.1 hu;exact .inr (List.mem_map.2 ⟨q.1,List.mem_map.2 ⟨q,hq,rfl⟩,rfl⟩)
 ·obtain ⟨q,hq,rfl⟩:=List.mem_map.1 hu;rcases Aff hB q hq with h | ⟨h,h'⟩
  ·exact .inl (by simp [Dp,h])
  ·exact .inr (List.mem_map.2 ⟨q.1,h',by simp [Dp,h]⟩)
def Apr (l:List (Oid×Oid)) (i:Oid) (ol us:List (Oid×Ob)) (r:Rec) (d:List Oid):Bool:=Rf l&&(Hm ol&&(Akl ol us&&((d.all fun x=>x.2 !=i.2&&Aep (Bt l) ol x)&&((r.2.2.all fun u=>u.1.2 !=i.2&&Aep (Bt l) ol u.1)&&r.1 !=2))))
theorem Aie {l:List (Oid×Oid)} {ol:List (Oid×Ob)} {i:Oid} (hl:Rf l=true) (h0:Hm ol=true) (h:Aep (Bt l) ol i=true):i∉(nmL ol).map (Bt l):=by
 intro hm;have:=Np (ob:=fun _=>some (.map 0 .int [])) hl h0 h;unfold Yz at this;rw [if_pos hm] at this;cases this
theorem Ak1 {l:List (Oid×Oid)} {i:Oid} {ol us:List (Oid×Ob)} {r:Rec} {d:List Oid} (h:Apr l i ol us r d=true):(∀ u∈M9 (Bt l) i ol us,u.1∉d)∧(∀ u∈M9 (Bt l) i ol us,∀ v∈r.2.2,u.1≠v.1)∧r.1≠2:=by
 simp only [Apr,Bool.and_eq_true,bne_iff_ne,ne_eq] at h;obtain ⟨h1,h2,h3,h4,h5,h6⟩:=h;rw [List.all_eq_true] at h4 h5;refine ⟨fun u hu hd=>?_,fun u hu v hv e=>?_,h6⟩
 ·have:=h4 _ hd;simp only [Bool.and_eq_true,bne_iff_ne,ne_eq] at this;rcases Alm h3 u hu with h | h
  ·exact this.1 h
  ·exact Aie h1 h2 this.2 h
 ·have:=h5 _ hv;simp only [Bool.and_eq_true,bne_iff_ne,ne_eq] at this;rcases Alm h3 u hu with h | h
  ·exact this.1 (by rw [← e]; exact h)
  ·exact Aie h1 h2 this.2 (by rw [← e]; exact h)
theorem Aae {l:List (Oid×Oid)} {i:Oid} {ol us:List (Oid×Ob)} {v:AV} {ri:Rec} {di dj:List Oid} (h:Apr l i ol us ri di=true):Ru ri (2,v,M9 (Bt l) i ol us) di dj:=by
 obtain ⟨h1,h2,h3⟩:=Ak1 h;exact .inr ⟨fun e=>absurd e h3,fun _=>h1,fun u hu v hv e=>h2 v hv u hu e.symm⟩
def Apc (zs:List AV) (ob:Oid->Option Ob) (θ:Oid->Oid):List (Oid×Ob)->Prop
 | []=>True
 | q :: r=>(match q.2 with
  | .pool _ _ xss=>∀ k,k<xss.length->Reached zs ob (kid (θ q.1) k)
  | _=>Reached zs ob (θ q.1))∧Apc zs ob θ r
theorem A7 {zs:List AV} {ob:Oid->Option Ob} {l:List (Oid×Oid)} (hl:Rf l=true):∀ {ol:List (Oid×Ob)},Hm ol=true->Apc zs ob (Bt l) ol->∀ j∈nmL ol,Reached zs ob (Bt l j)
 | [],_,_,j,hj=>by cases hj
 | (p,o) :: r,h0,h,j,hj=>by
  simp only [Hm,List.all_cons,Bool.and_eq_true,beq_iff_eq] at h0;obtain ⟨⟨h1,_⟩,h2⟩:=h0;have ih:j∈nmL r->Reached zs ob (Bt l j):=fun hm=>A7 hl (ol:=r) (by simpa [Hm] using h2) h.2 j hm
  cases o with
  | pool e u xss =>
   simp only [nmL,exL,List.map_append,List.mem_append] at hj;rcases hj with hj | hj
   ·obtain ⟨q,hq,rfl⟩:=List.mem_map.1 hj;obtain ⟨⟨row,k⟩,hx,rfl⟩:=List.mem_map.1 hq;rw [List.mem_zipIdx_iff_getElem?] at hx;show Reached zs ob (Bt l (kid p k));rw [J4 hl h1];exact h.1 k (gSi.1 hx).1
   ·exact ih hj
  | _ =>
   simp only [nmL,exL,List.map_cons,List.mem_cons] at hj;rcases hj with rfl | hj
   ·exact h.1
   ·exact ih hj
theorem B2 {zs:List AV} {ob:Oid->Option Ob} {i:Oid} (h:(AV.nmsL zs).contains i=true):Reached zs ob i:=.arg (List.contains_iff_mem.1 h)
theorem G5 {zs:List AV} {ob:Oid->Option Ob} {k i:Oid} {ty:TypeId} {cs:List AV} (h1:Reached zs ob k) (h2:ob k=some (.cells ty cs)) (h:(AV.nmsL cs).contains i=true):Reached zs ob i:=.cells h1 h2 (List.contains_iff_mem.1 h)
theorem Aro {p:Oid} {u:Ty} {xss:List (List u.D)} {k:Nat} (h:k<xss.length):kid p k∈AV.nmsL (hdL p u xss):=by
 have key:∀ cs:List AV,∀ c∈cs,∀ i∈c.nms,i∈AV.nmsL cs:=by
  intro cs
  induction cs with
  | nil=>intro c h; cases h
  | cons x r ih =>
   intro c hc i hi;rcases List.mem_cons.1 hc with rfl | hc
   ·exact List.mem_append_left _ hi
   ·exact List.mem_append_right _ (ih c hc i hi)
 refine key _ (.own (kid p k) u 0 xss[k].length) ?_ _ (List.mem_singleton.2 rfl);apply List.mem_iff_getElem?.2;exact ⟨k,by rw [Fu,gEg h]; rfl⟩
theorem Ks {zs:List AV} {ob:Oid->Option Ob} {o p:Oid} {e1:TypeId} {m:Nat} {u:Ty} {xss:List (List u.D)} (h1:Reached zs ob o) (h2:ob o=some (.vec e1 1 m (hdL p u xss))):∀ k,k<xss.length->Reached zs ob (kid p k):=fun _ hk=>.vec h1 h2 (Aro hk)
end
theorem Aog {L:List Oid} {l:List (Oid×Oid)} {xs:List (Oid×Ob)} (h:(xs.all fun q=>L.contains (Bt l q.1))=true):∀ q∈xs,Bt l q.1∈L:=fun q hq=>by
 have:=List.all_eq_true.1 h q hq
 simpa using this
end
section
open Go.RowKit Go.Deep
def NeL (i:Oid):List Oid->Prop
 | []=>True
 | x :: r=>x≠i∧NeL i r
theorem R8 {L M:List Oid} {ob:Oid->Option Ob} {i:Oid} (hL:M=L) (h:NeL i L):Yz M ob i=ob i:=by
 subst hL;unfold Yz;rw [if_neg];intro hm
 induction M with
 | nil=>cases hm
 | cons x r ih =>
  rcases List.mem_cons.1 hm with rfl | hm
  ·exact h.1 rfl
  ·exact ih h.2 hm
theorem Akq {p:Oid} {j k:Nat} (h:j≠k):kid p j≠kid p k:=fun e=>h (Ij e)
theorem Afg {o p:Oid} {k:Nat} (h:o.1.2=0):o≠kid p k:=fun e=>by rw [e] at h; cases h
theorem Hk {L:List Oid} {ob:Oid->Option Ob} {i:Oid} (h:i∈L):only L ob i=ob i:=if_pos h
theorem H5 {f:Nat->AV} {ob:Oid->Option Ob} {d:Option Nat} {gd:Option (Nat×Bool)} {fo y:Opd} {ys:List Opd} {tys:List (List (Option Ty))} {i:Oid} {t:Ty} {off len:Nat} (n:Nat) (hy:ys[n]? =some y) (he:y.ev f=.own i t off len):i∈rdX f ob ⟨d,gd,.call fo ys tys⟩:=by
 refine List.mem_flatMap.2 ⟨y,List.mem_cons_of_mem _ (List.mem_of_getElem? hy),?_⟩;rw [he];show i∈Ka ob (7+1) (.own i t off len);unfold Ka;dsimp only;split <;> simp
theorem Xs {L:List Oid} {l:List (Oid×Oid)}:∀ q∈exL [],Bt l q.1∈L:=fun _ h=>by cases h
theorem Xr {L:List Oid} {l:List (Oid×Oid)} {i:Oid} {e:TypeId} {t:Ty} {xs:List t.D} {r:List (Oid×Ob)} (h:Bt l i∈L) (hr:∀ q∈exL r,Bt l q.1∈L):∀ q∈exL ((i,.arr e t xs) :: r),Bt l q.1∈L:=fun q hq=>by
 rcases List.mem_cons.1 hq with rfl | hq
 ·exact h
 ·exact hr q hq
theorem Atx {ob:Oid->Option Ob} {o:Oid} {e1:TypeId} {sz m n:Nat} {cs:List AV} (h:ob o=some (.vec e1 sz n cs)) (e:m=n):ob o=some (.vec e1 sz m cs):=by rw [e]; exact h
theorem Agd {α:Type} {xs:List α} {k:Nat} (h:k<=xs.length):k=(xs.take k).length:=by rw [List.length_take]; omega
theorem Am2 {S:St} {o:Oid} {e1:TypeId} {sz n k:Nat} {cs:List AV} (ho:S.ob o=some (.vec e1 sz n cs)) (hk:k<=n):Weak S ⟨S.tm,upd S.ob o (some (.vec e1 sz k (cs.take (k*sz)))),S.gen⟩:=by
 intro G w0 B N a w hr;obtain ⟨σ,hm,hf,hB⟩:=hr.ex
 have was:∀ i x,upd S.ob o (some (.vec e1 sz k (cs.take (k*sz)))) i=some x->∃ y,S.ob i=some y:=fun i x hx=>by
  by_cases h:i=o
  ·subst h; exact ⟨_,ho⟩
  ·rw [A5 _ _ _ _ h] at hx; exact ⟨x,hx⟩
 have hL:Later σ σ (imm S.ob σ) (imm (upd S.ob o (some (.vec e1 sz k (cs.take (k*sz))))) σ) w w:=⟨fun _ _ h=>h,fun b _ hb i x c s hx hs=>by obtain ⟨y,hy⟩:=was i x hx; exact hb i y c s hy hs,fun _ _ _=>rfl,Nat.le_refl _⟩
 refine ⟨⟨σ,⟨hm.below,hm.inv,hm.gen,hm.lt,hm.cap,fun i j b c s c' s' x y hx hy e1 e2=>?_,fun i x l hx hl=>?_⟩,fun t=>AV.Rep.later hL _ _ (hf t),hB.trans hL⟩,hr.size,hr.defers,fun i hi=>?_⟩
 ·obtain ⟨x',hx'⟩:=was i x hx;obtain ⟨y',hy'⟩:=was j y hy;exact hm.inj i j b c s c' s' x' y' hx' hy' e1 e2
 ·by_cases h:i=o
  ·subst h;have hx:upd S.ob i (some (.vec e1 sz k (cs.take (k*sz)))) i=some x:=hx;rw [Bj] at hx;obtain rfl:=osj hx;obtain ⟨vs,p1,p2,p3,p4⟩:=hm.obs i _ l ho hl;refine ⟨vs.take (k*sz),p1.take hk (fun g cap e=>?_) (fun e=>?_),(AV.RepL.later hL _ _ p2).take _,fun v hv=>p3 v (List.mem_of_mem_take hv),p4⟩
   ·cases l with
    | nil=>cases e
    | at_ b c s=>cases e; rfl
   ·cases l with
    | nil=>rfl
    | at_ b c s=>cases e
  ·have hx:upd S.ob o (some (.vec e1 sz k (cs.take (k*sz)))) i=some x:=hx;rw [A5 _ _ _ _ h] at hx;exact (hm.obs i x l hx hl).later hL fun _ _ _ _=>rfl
 ·by_cases h:i=o
  ·subst h; exact hr.obg i (by rw [ho]; simp)
  ·have hi:upd S.ob o (some (.vec e1 sz k (cs.take (k*sz)))) i≠none:=hi;rw [A5 _ _ _ _ h] at hi;exact hr.obg i hi
theorem Am9 {S:St} {o:Oid} {e:TypeId} {t:Ty} {xs:List t.D} {k:Nat} (ho:S.ob o=some (.arr e t xs)) (hk:k<=xs.length):Weak S ⟨S.tm,upd S.ob o (some (.arr e t (xs.take k))),S.gen⟩:=by
 intro G w0 B N a w hr;obtain ⟨σ,hm,hf,hB⟩:=hr.ex
 have was:∀ i x,upd S.ob o (some (.arr e t (xs.take k))) i=some x->∃ y,S.ob i=some y:=fun i x hx=>by
  by_cases h:i=o
  ·subst h; exact ⟨_,ho⟩
  ·rw [A5 _ _ _ _ h] at hx; exact ⟨x,hx⟩
 have hL:Later σ σ (imm S.ob σ) (imm (upd S.ob o (some (.arr e t (xs.take k)))) σ) w w:=⟨fun _ _ h=>h,fun b _ hb i x c s hx hs=>by obtain ⟨y,hy⟩:=was i x hx; exact hb i y c s hy hs,fun _ _ _=>rfl,Nat.le_refl _⟩
 refine ⟨⟨σ,⟨hm.below,hm.inv,hm.gen,hm.lt,hm.cap,fun i j b c s c' s' x y hx hy e1 e2=>?_,fun i x l hx hl=>?_⟩,fun t=>AV.Rep.later hL _ _ (hf t),hB.trans hL⟩,hr.size,hr.defers,fun i hi=>?_⟩
 ·obtain ⟨x',hx'⟩:=was i x hx;obtain ⟨y',hy'⟩:=was j y hy;exact hm.inj i j b c s c' s' x' y' hx' hy' e1 e2
 ·by_cases h:i=o
  ·subst h;have hx:upd S.ob i (some (.arr e t (xs.take k))) i=some x:=hx;rw [Bj] at hx;obtain rfl:=osj hx;obtain ⟨f1,f2,f3⟩:=hm.obs i _ l ho hl
   have hnil:l=.nil->k=0:=by
    intro e0;subst e0;rcases f2.2 with ⟨_,h0⟩ | ⟨_,_,_,e1,_⟩
    ·omega
    ·cases e1
   have:=N8 f1 f2 hk hnil;have hl':(xs.take k).length=k:=by rw [List.length_take]; omega
   refine ⟨f1,?_,f3⟩;rw [hl'];exact this
  ·have hx:upd S.ob o (some (.arr e t (xs.take k))) i=some x:=hx;rw [A5 _ _ _ _ h] at hx;exact (hm.obs i x l hx hl).later hL fun _ _ _ _=>rfl
 ·by_cases h:i=o
  ·subst h; exact hr.obg i (by rw [ho]; simp)
  ·have hi:upd S.ob o (some (.arr e t (xs.take k))) i≠none:=hi;rw [A5 _ _ _ _ h] at hi;exact hr.obg i hi
theorem Aj5 {tl:List (Nat×AV)} {ol:List (Oid×Option Ob)} {g:Nat} (o:Oid) {e:TypeId} {t:Ty} {xs:List t.D} {k:Nat} (ho:Li ol o=some (.arr e t xs)) (hk:k<=xs.length):Weak ⟨Ap tl,Aj ol,g⟩ ⟨Ap tl,Aj ((o,some (.arr e t (xs.take k))) :: ol),g⟩:=by
 have:=Am9 (S:=⟨Ap tl,Aj ol,g⟩) (by show Aj ol o=_; rw [Mu,ho]; rfl) hk;rw [← Jx rfl];exact this
theorem Akn {tl:List (Nat×AV)} {ol:List (Oid×Option Ob)} {g:Nat} (s:Nat) (o p:Oid) {e1 e:TypeId} {u:Ty} {xss:List (List u.D)} {n k:Nat} (hfl:u.flat=true) (ho:Aj ol o=some (.vec e1 1 n (hdL p u xss))) (hn:n=xss.length) (hp:Fo ol p=some (.pool e u xss)) (hk:k<=n) (hpo:(o.1.1==p.1.1&&o.2==p.2&&o.1.2 !=0)=false) (hog:(o.2==g)=false) (hfr:Nn g ((p,some (.pool e u [])) :: ol)=true) :
  Weak ⟨Ap tl,Aj ol,g⟩ ⟨Ap tl,Aj ((o,some (.mat e1 ((s,0),g) u (xss.take k))) :: (((s,0),g),some (.pool e u (xss.take k))) :: (p,some (.pool e u [])) :: (o,some (.vec e1 1 k ((hdL p u xss).take k))) :: ol),g+1⟩:=by
 have h1:Weak ⟨Ap tl,Aj ol,g⟩ ⟨Ap tl,Aj ((o,some (.vec e1 1 k ((hdL p u xss).take k))) :: ol),g⟩:=by
  have:=Am2 (S:=⟨Ap tl,Aj ol,g⟩) ho hk;rw [Nat.mul_one] at this;rw [← Jx rfl];exact this
 refine h1.trans ?_;have hok:∀ j,kid p j≠o:=fun j e=>by rw [← e] at hpo; simp [kid] at hpo
 have hpool:Fo ((o,some (.vec e1 1 k ((hdL p u xss).take k))) :: ol) p=some (.pool e u xss):=by
  show (if p.1.1=o.1.1∧p.2=o.2∧o.1.2≠0 then none else Fo ol p)=_;rw [if_neg,hp];rintro ⟨a1,a2,a3⟩;rw [a1,a2] at hpo;simp [a3] at hpo
 refine Ki s o (fun j=>kid p j) [(p,some (.pool e u []))] hfl (by show Aj _ o=_; simp only [Aj]; rw [if_pos trivial]) (by rw [List.length_take]; omega) (fun j row hj=>?_) (fun a b _ _ hab=>Ij hab) hog ?_ (fun i hi=>?_)
 ·rw [List.getElem?_take] at hj ⊢;split at hj
  ·rename_i hlt;rw [if_pos hlt,Fu,hj];exact ⟨rfl,row,A0 hpool hj,Nat.le_refl _,(List.take_length).symm⟩
  ·cases hj
 ·simp only [Nn,List.all_append,List.all_cons,List.all_nil,Bool.and_true,Bool.and_eq_true,bne_iff_ne] at hfr ⊢;exact ⟨hfr.1,by simpa using hog,hfr.2⟩
 ·simp only [List.cons_append,List.nil_append,Ju];split
  ·exact .inl rfl
  ·rename_i h2;exact .inr ⟨rfl,fun j _ e=>h2 (by rw [e]; exact ⟨rfl,rfl,by simp [kid]⟩)⟩
theorem Ajw {tl:List (Nat×AV)} {ol:List (Oid×Option Ob)} {g:Nat} (s:Nat) (o p:Oid) {e1 e:TypeId} {u:Ty} {xss:List (List u.D)} {k:Nat} (hfl:u.flat=true) (ho:Aj ol o=some (.vec e1 1 k ((hdL p u xss).take k))) (hp:Fo ol p=some (.pool e u xss)) (hk:k<=xss.length) (hog:(o.2==g)=false) (hfr:Nn g ((p,some (.pool e u [])) :: ol)=true) :
  Weak ⟨Ap tl,Aj ol,g⟩ ⟨Ap tl,Aj ((o,some (.mat e1 ((s,0),g) u (xss.take k))) :: (((s,0),g),some (.pool e u (xss.take k))) :: (p,some (.pool e u [])) :: ol),g+1⟩:=by
 refine Ki s o (fun j=>kid p j) [(p,some (.pool e u []))] hfl ho (by rw [List.length_take]; omega) (fun j row hj=>?_) (fun a b _ _ hab=>Ij hab) hog hfr (fun i hi=>?_)
 ·rw [List.getElem?_take] at hj ⊢;split at hj
  ·rename_i hlt;rw [if_pos hlt,Fu,hj];exact ⟨rfl,row,A0 hp hj,Nat.le_refl _,(List.take_length).symm⟩
  ·cases hj
 ·simp only [List.cons_append,List.nil_append,Ju];split
  ·exact .inl rfl
  ·rename_i h2;exact .inr ⟨rfl,fun j _ e=>h2 (by rw [e]; exact ⟨rfl,rfl,by simp [kid]⟩)⟩
section
variable {f:Nat->AV} {ob:Oid->Option Ob} {n:Nat} {d:Option Nat}
theorem Amy {sz:Nat} {x hi mx:Opd} {i:Oid} {t:Ty} {len N:Nat} {e:TypeId} {cs:List AV} {kh km:IntKind} {h m:Int} {j:Nat} (hx:x.ev f=.own i t 0 len) (hob:ob i=some (.vec e 1 N cs)) (hh:hi.ev f=.int kh h) (hm:mx.ev f=.int km m) (hs:t.size=sz) (hb:0<=h∧h<=m∧m<=(len:Int)) (hj:h.toNat=j) (hk:j<=N) :
  Bq n ⟨d,none,.slice sz x none (some hi) (some mx)⟩ f ob=some (2,.own ((d.getD 0,0),n) t 0 j,[(i,none),(((d.getD 0,0),n),some (.vec e 1 j (cs.take j)))]):=by
 subst hj;simp [Bq,ev,Se,J3,E5,hx,hob,hh,hm,hs,hb,Ae5,hk,AV.un]
end
end
section
open Go.RowKit Go.Deep
section
variable {P:Program} {G:World->Prop} {g k d:Nat} {gd:Option (Nat×Bool)} {q:Q} {xs:List X} {tl:List (Nat×AV)} {ol:List (Oid×Option Ob)} {bad:List (Nat×Nat)} {ra:List Rec} {da:List (List Oid)} {Kf:List (Nat×AV)->List (Oid×Option Ob)->Prop}
theorem rz0 (v:AV) (h3:XW P G g (k+1) xs ((d,v) :: tl) ol Kf) (h:Bq (g+k) ⟨some d,gd,q⟩ (Ap tl) (Aj ol)=some (0,v,[]):=by kernel_rfl):XW P G g k (⟨some d,gd,q⟩ :: xs) tl ol Kf:=rs0 v h h3
theorem rzl (v:AV) (h3:XW P G g (k+1) xs ((d,v) :: tl) ol Kf) (h:Bq (g+k) ⟨some d,gd,q⟩ (Ap tl) (Aj ol)=some (1,v,[]):=by kernel_rfl):XW P G g k (⟨some d,gd,q⟩ :: xs) tl ol Kf:=rsl v h h3
theorem dz0 (v:AV) (h3:XD P G bad g (k+1) xs ((d,v) :: tl) ol ((0,v,[]) :: ra) ((rdX (Ap tl) (Aj ol) ⟨some d,gd,q⟩) :: da) Kf) (h:Bq (g+k) ⟨some d,gd,q⟩ (Ap tl) (only (rdX (Ap tl) (Aj ol) ⟨some d,gd,q⟩) (Aj ol))=some (0,v,[]):=by kernel_rfl):XD P G bad g k (⟨some d,gd,q⟩ :: xs) tl ol ra da Kf:=ds0 v h h3
theorem dzl (v:AV) (h3:XD P G bad g (k+1) xs ((d,v) :: tl) ol ((1,v,[]) :: ra) ((rdX (Ap tl) (Aj ol) ⟨some d,gd,q⟩) :: da) Kf) (h:Bq (g+k) ⟨some d,gd,q⟩ (Ap tl) (only (rdX (Ap tl) (Aj ol) ⟨some d,gd,q⟩) (Aj ol))=some (1,v,[]):=by kernel_rfl):XD P G bad g k (⟨some d,gd,q⟩ :: xs) tl ol ra da Kf:=dsl v h h3
theorem zs {s:Nat} {b c:Bool} (hc:c= !b) (h3:XW P G g (k+1) xs ((d,.tup []) :: tl) ol Kf) (hs:Ap tl s=.bool c:=by kernel_rfl):XW P G g k (⟨some d,some (s,b),q⟩ :: xs) tl ol Kf:=rs0 (.tup []) (Ath hs hc) h3
theorem zc {fo:Opd} {ys:List Opd} {tys:List (List (Option Ty))} {F:FuncId} {rv:RV} {args:List AV} (v:AV) (us:List (Oid×Option Ob)) (zs:List AV) (hc:Bm P G F args rv) (h3:XW P G g (k+1) xs ((d,v) :: tl) (us.reverseAux ol) Kf) (h1:Rg (gnd (Aj ol) 8) zs=some zs:=by kernel_rfl) (hb:A6 P F=true:=by kernel_rfl) (hfo:fo.ev (Ap tl)=.fn F []:=by kernel_rfl) (hz:(ys++([]:List AV).map Opd.cst).map (Opd.ev (Ap tl))=zs:=by kernel_rfl) (hn:Wf tys zs=args:=by kernel_rfl) (hr:rv.out (Ek ((d,0),g+k)) zs=(v,us):=by kernel_rfl) (hx:Fm us=true:=by rfl):XW P G g k (⟨some d,none,.call fo ys tys⟩ :: xs) tl ol Kf:=B9 (caps:=[]) (args0:=zs) v us zs args trivial h1 hc hb h3 hfo hz hn hr hx
end
section
variable {n:Nat} {d:Option Nat} {f:Nat->AV} {ob:Oid->Option Ob}
theorem zi {sz:Nat} {x i:Opd} {t:Ty} {xs:List t.D} {y:t.D} {k:IntKind} {m:Int} {j:Nat} (h0:0<=m) (hy:xs[j]? =some y) (hx:(x.ev f).un=.tree t xs:=by kernel_rfl) (hi:i.ev f=.int k m:=by kernel_rfl) (hs:sz=t.size:=by rfl) (hj:m.toNat=j:=by rfl):Bq n ⟨d,none,.i (.idx sz x i)⟩ f ob=some (0,.telt t y 0,[]):=As9 hx hi hs h0 hj hy
theorem zo {sz:Nat} {x i:Opd} {t:Ty} {o:Oid} {len:Nat} {k:IntKind} {m:Int} {j:Nat} (h0:0<=m) (hl:j<len) (hx:x.ev f=.own o t 0 len:=by kernel_rfl) (hi:i.ev f=.int k m:=by kernel_rfl) (hs:sz=t.size:=by rfl) (hj:m.toNat=j:=by rfl):Bq n ⟨d,none,.i (.idx sz x i)⟩ f ob=some (0,.elt o j 0,[]):=As0 hx hi hs h0 hj hl
theorem zg {s:Nat} {b c:Bool} {q:Q} {r:Option Rec} (hc:c=b) (hs:f s=.bool c:=by kernel_rfl) (h:Bq n ⟨d,none,q⟩ f ob=r:=by kernel_rfl):Bq n ⟨d,some (s,b),q⟩ f ob=r:=Nk hs hc h
theorem zT {c x y:Opd} {b:Bool} (hb:b=true) (h:c.ev f=.bool b:=by kernel_rfl):Bq n ⟨d,none,.i (.pick c x y)⟩ f ob=some (0,x.ev f,[]):=Aq9 h hb
theorem zF {c x y:Opd} {b:Bool} (hb:b=false) (h:c.ev f=.bool b:=by kernel_rfl):Bq n ⟨d,none,.i (.pick c x y)⟩ f ob=some (0,y.ev f,[]):=Ary h hb
theorem za {x y:Opd} {j:Nat} (h:j+1<4611686018427387904) (hx:x.ev f=.int .i64 j:=by kernel_rfl) (hy:y.ev f=.int .i64 1:=by kernel_rfl):Bq n ⟨d,none,.i (.bin .add x y)⟩ f ob=some (0,.int .i64 ((j+1:Nat):Int),[]):=As7 hx hy h
theorem zl {vs:List Value} {c:AV} {l:RL} (h:T4 ob c=some l:=by kernel_rfl):LeafR vs ob c l:=At9 h
end
theorem zj {α:Type} {a b:α} (h:some a=some b):a=b:=osj h
theorem wr_ {S:St} {K:St->Prop} (h:K S):∃ S',Weak S S'∧K S':=⟨S,Weak.refl _,h⟩
end
section
open Go.RowKit Go.Deep
inductive Ctl (σ ρ:Type) where
 | next (s:σ)
 | out (r:ρ)
def Ctl.then {σ β:Type} (k:σ->Option β):Ctl σ β->Option β
 | .next t=>k t
 | .out r=>some r
section
variable {α β σ τ ρ:Type}
def og (c:Prop) [Decidable c] (k:Option α):Option α:=if c then k else none
theorem Am {c:Prop} [Decidable c] {k:Option α} {r:α} (h:og c k=some r):c∧k=some r:=by
 unfold og at h;split at h
 ·rename_i hc; exact ⟨hc,h⟩
 ·cases h
theorem Ak {c:Prop} [Decidable c] (h:c) (k:Option α):og c k=k:=if_pos h
theorem Ad {o:Option α} {f:α->Option β} {b:β} (h:o.bind f=some b):∃ a,o=some a∧f a=some b:=Option.bind_eq_some_iff.1 h
theorem Ae {c:Bool} {a b:Option α} {r:α} (h:cond c a b=some r):(c=true∧a=some r)∨(c=false∧b=some r):=by
 cases c
 ·exact .inr ⟨rfl,h⟩
 ·exact .inl ⟨rfl,h⟩
def Ud (a:Option (Ctl τ β)) (k:τ->Option β):Option β :=
 a.bind (Ctl.then k)
theorem Amv {a:Option (Ctl τ β)} {k:τ->Option β} {r:β} (h:Ud a k=some r):∃ v,a=some v∧Ctl.then k v=some r:=Ad h
def Av (body:σ->Option (Ctl σ ρ)):Nat->σ->Option ρ
 | 0,_=>none
 | n+1,s=>(body s).bind (Ctl.then (Av body n))
theorem Akw {body:σ->Option (Ctl σ ρ)} {n:Nat} {s:σ} {v:ρ} (h:Av body (n+1) s=some v):∃ c,body s=some c∧Ctl.then (Av body n) c=some v:=Ad h
theorem Ak7 {body:σ->Option (Ctl σ ρ)} {s:σ} {v:ρ} (h:Av body 0 s=some v):False:=by cases h
def Ex (xs:List α) (n:Int):Option α:=if 0<=n then xs[n.toNat]? else none
theorem Al {xs:List α} {k:Nat} {x:α} (h:xs[k]? =some x):k<xs.length:=(gSi.1 h).1
theorem Bi {xs:List α} {n:Int} {x:α} (h:Ex xs n=some x):0<=n∧n<xs.length∧xs[n.toNat]? =some x:=by
 unfold Ex at h;split at h
 ·rename_i h0;have:=Al h;exact ⟨h0,by omega,h⟩
 ·cases h
theorem C5 {xs:List α} {n:Int} (h:0<=n):Ex xs n=xs[n.toNat]?:=if_pos h
end
section
variable {P:Program} {G:World->Prop} {σ τ β ρ:Type}
theorem As {x y:AC} {R:AE->St->Prop} {S:St} {A:Option τ} {k:τ->Option β} {r:β} (h:A.bind k=some r) (J:τ->St->Prop) (h1:∀ t,A=some t->awp P G x (Mg (fun S'=>∃ S'',Weak S' S''∧J t S'') R) S) (h2:∀ t S'',J t S''->k t=some r->awp P G y R S''):awp P G (.seq x y) R S:=by
 obtain ⟨t,ha,hk⟩:=Ad h;exact Ad5 (J t) (h1 t ha) fun S'' hj=>h2 t S'' hj hk
theorem G8 {x y:AC} {R:AE->St->Prop} {S:St} {A:Option (Ctl τ β)} {k:τ->Option β} {r:β} (h:Ud A k=some r) (J:τ->St->Prop)
  (h1:∀ v,A=some v->Ctl.then k v=some r->awp P G x (Mg (fun S'=>∃ t S'',v=.next t∧Weak S' S''∧J t S'') R) S) (h2:∀ t S'',J t S''->k t=some r->awp P G y R S''):awp P G (.seq x y) R S:=by
 obtain ⟨v,ha,hk⟩:=Amv h;refine Ad5 (fun S''=>∃ t,v=.next t∧J t S'') (Et (fun e S' hq=>?_) (h1 v ha hk)) fun S'' ⟨t,hv,hj⟩=>?_
 ·cases e with
  | normal=>obtain ⟨t,S'',hv,hw,hj⟩:=hq; exact ⟨S'',hw,t,hv,hj⟩
  | exit id=>exact hq
  | ret=>exact hq
 ·subst hv; exact h2 t S'' hj hk
theorem Ax {a:AC} {R:AE->St->Prop} {S:St} {body:σ->Option (Ctl σ ρ)} {fuel:Nat} {s0:σ} {v:ρ} (h:Av body fuel s0=some v) (J:σ->St->Prop) (h0:∃ S0,Weak S S0∧J s0 S0)
  (h1:∀ n s S1 c,J s S1->body s=some c->Ctl.then (Av body n) c=some v->awp P G a (Mg (fun S2=>∃ s' S3,Weak S2 S3∧J s' S3∧Av body n s'=some v) R) S1):awp P G (.loop a) R S:=by
 obtain ⟨S0,hw,hj⟩:=h0;refine Anr (fun (p:Nat×σ) S=>Av body p.1 p.2=some v∧J p.2 S) (·.1) ⟨(fuel,s0),S0,hw,h,hj⟩ ?_;rintro ⟨n,s⟩ S1 ⟨hl,hj⟩;cases n with
 | zero=>exact (Ak7 hl).elim
 | succ n =>
  obtain ⟨c,hc,hn⟩:=Akw hl;refine Et (fun e S2 hq=>?_) (h1 n s S1 c hj hc hn);cases e with
  | normal=>obtain ⟨s',S3,hw,hj,hl⟩:=hq; exact ⟨(n,s'),S3,hw,⟨hl,hj⟩,Nat.lt_succ_self n⟩
  | exit id=>exact hq
  | ret=>exact hq
end
theorem At (n:Nat):0<=(n:Int):=by omega
end
section
open Go.RowKit Go.Deep
def Ma (a0:Int):Option Bool:=some (isF a0)
def Yw (r:Bool):RV:=⟨false,[(false,[.sc (.bool r)])]⟩
theorem G4 {a0:Int} {r:Bool} (h:Ma a0=some r):Bm Tryd.prog Tab 59 [.int .i64 a0] (Yw r):=by
 obtain rfl:=osj h;intro w im vs hG hr;obtain ⟨u1,_,rfl,h1,h2⟩:=hr;obtain rfl:_=[]:=h2;obtain rfl:u1=.int .i64 a0:=h1;refine (Ah5 a0 w (hG w (Below.refl _ _))).mono ?_;rintro e w' ⟨rfl,rfl⟩;exact ⟨_,rfl,Below.refl _ _,[_],[],⟨_,[],rfl,rfl,rfl,rfl,rfl⟩,⟨trivial,fun _=>rfl⟩,rfl⟩
end
section
open Go.RowKit Go.Deep
set_option maxRecDepth 4000
def Tq:AC :=
 (.seq (rg [xo 4 (qm (ci 0))])
 (.seq (rg [xo 5 (qm (tm 1)),xo 6 (qm (tm 0)),xo 7 (.i (.len (tm 6))),xo 8 (qb .sub (tm 5) (tm 7)),xo 1 (qm (tm 8))])
 (.seq (.seq (rg [xo 9 (qm (tm 1)),xo 10 (qb .lss (tm 9) (ci 0))])
 (.cond (tm 10)
  (.seq (rg [xo 4 (qm (ci (-1)))])
  .ret)
  .skip))
 (.seq (rg [xo 11 (qm (tm 1)),xo 4 (qm (tm 11))])
 .ret))))
def Adb:List Res:=[.tmp 4]
theorem Adu:Aw Tryd.prog Tryd.f21=some (Tq,Adb):=by kernel_rfl
def Hg (a0:List Int) (a1:Int):Option Int :=
 cond (decide (wI (a1 - ((a0.length:Nat):Int))<0))
 (some (-1))
 (some (wI (a1 - ((a0.length:Nat):Int))))
def Aaw (r:Int):RV:=⟨false,[(false,[.sc (.int .i64 r)])]⟩
theorem Rn {a0:List Int} {a1:Int} {r:Int} (h:Hg a0 a1=some r):Bm Tryd.prog Tab 21 [.tree .int a0,ai a1] (Aaw r):=by
 refine Ba (by kernel_rfl) Tryd.func21 Adu (n:=12) (by kernel_rfl) (by simp) (tl:=[(0,.tree .int a0),(1,ai a1)]) rfl ?_;unfold Tq;unfold Hg at h;refine An ?_;refine An ?_;refine Ab ?_;refine An ?_;rcases Ae h with ⟨q5,h⟩ | ⟨q5,h⟩
 ·have q5_:=of_decide_eq_true q5;refine Ah q5 ?_;refine An ?_;refine Ao (tr_ ?_);obtain rfl:=zj h;exact Br [ai (-1)] (A8 rfl zl Bc)
 have q5_:=of_decide_eq_false q5;refine Ag q5 ?_;refine Ai (tn_ ?_);refine wr_ ?_;refine An ?_;refine Ao ?_;obtain rfl:=zj h;exact Br [ai (wI (a1 - ((a0.length:Nat):Int)))] (A8 rfl zl Bc)
def Po:AC :=
 (.seq (.seq (rg [xo 8 (qm (tm 4)),xo 9 (qm (tm 0)),xo 10 (.i (.len (tm 9))),xo 11 (qb .lss (tm 8) (tm 10))])
 (.cond (tm 11)
  .skip
  (.exit 0)))
 (.seq (.block 1 (rg [xo 14 (qm (tm 3)),xo 15 (qm (tm 4)),xo 16 (qm (tm 0)),xo 17 (qm (tm 4)),xo 18 (qx 1 (tm 16) (tm 17)),xo 19 (ql (tm 18)),xo 20 (qx 1 (tm 14) (tm 15)),xn (qs (tm 20) (tm 19))]))
 (rg [xo 12 (qm (tm 4)),xo 13 (qb .add (tm 12) (ci 1)),xo 4 (qm (tm 13))])))
def Tp:AC :=
 (.seq (rg [xo 2 (qm (.cst .nils))])
 (.seq (rg [xo 5 (qm (tm 0)),xo 6 (.i (.len (tm 5))),xo 7 (.make 3 .int 8 (tm 6) (tm 6)),xo 3 (qm (tm 7))])
 (.seq (.seq (rg [xo 4 (qm (ci 0))])
 (.block 0 (.loop Po)))
 (.seq (rg [xo 21 (qm (tm 3)),xo 2 (qm (tm 21))])
 .ret))))
def Adt:List Res:=[.tmp 2]
theorem Adl:Aw Tryd.prog Tryd.f15=some (Tp,Adt):=by kernel_rfl
def F8 (a0:List Int) (l6_m4:Nat) (l6_m3:List Int):Option (Ctl (Nat×List Int) (List Int)) :=
 cond (decide (((l6_m4:Nat):Int)<((a0.length:Nat):Int)))
 (Option.bind (a0[l6_m4]?) fun x11 =>
 Option.bind (l6_m3[l6_m4]?) fun x12 =>
 og (l6_m4+1<4611686018427387904) <|
 some (Ctl.next (l6_m4+1,l6_m3.set l6_m4 x11)))
 (some (Ctl.out l6_m3))
def B5 (a0:List Int):Option (List Int) :=
 og (0<=((a0.length:Nat):Int)∧((a0.length:Nat):Int)<=((a0.length:Nat):Int)∧((a0.length:Nat):Int)<=1073741824∧(8:Int)*((a0.length:Nat):Int)<=140737488355328) <|
Option.bind (Av (fun s_:Nat×List Int=>F8 a0 s_.1 s_.2) 4611686018427387904 (0,List.replicate a0.length (0:Int))) fun l4_m3 =>
some l4_m3
def Aav (r:List Int):RV:=⟨false,[(false,[.new 3 .int r])]⟩
theorem Cr {a0:List Int} {r:List Int} (h:B5 a0=some r):Bm Tryd.prog Tab 15 [.tree .int a0] (Aav r):=by
 refine Ba (by kernel_rfl) Tryd.func15 Adl (n:=22) (by kernel_rfl) (by simp) (tl:=[(0,.tree .int a0)]) rfl ?_;unfold Tp;unfold B5 at h;refine An ?_;refine Ab ?_;obtain ⟨g3,h⟩:=Am h;refine Aa 6 ?_;refine rz0 (.tree .int a0) ?_;refine rz0 (ai ((a0.length:Nat):Int)) ?_;refine rs1 (.own (oi 7 4) .int 0 a0.length) (oi 7 4) (.arr 3 .int (List.replicate a0.length (0:Int))) (R1 (t:=.int) (k:=.i64) (k':=.i64) (m:=((a0.length:Nat):Int)) (m':=((a0.length:Nat):Int)) (by kernel_rfl) (by kernel_rfl) g3 rfl) ?_;refine rsB 1 ?_;refine Aq (tn_ ?_);refine wr_ ?_;refine As h (fun (l4_m3:List Int) S_=>S_=⟨Ap [(3,.own (oi 0 1) .int 0 l4_m3.length)],Aj (Ar [(oi 0 1,.arr 3 .int l4_m3)]),2⟩) ?_ ?_
 ·intro v_ h;refine An ?_;refine Af ?_;refine Ax h (fun t_ S_=>∃ (l6_m4:Nat),∃ (l6_m3:List Int),t_=(l6_m4,l6_m3)∧S_=⟨Ap [(0,.tree .int a0),(3,.own (oi 0 1) .int 0 l6_m3.length),(4,ai ((l6_m4:Nat):Int))],Aj (Ar [(oi 0 1,.arr 3 .int l6_m3)]),2⟩) ⟨_,(A9 3 (.own (oi 7 4) .int 0 a0.length) (.own (oi 7 4) .int 0 ((List.replicate a0.length (0:Int)).length)) (by kernel_rfl) (congrArg (fun z_=>((.own (oi 7 4) .int 0 z_):AV)) (List.length_replicate.symm:a0.length=(List.replicate a0.length (0:Int)).length))).trans (Ac [(oi 0 1,oi 7 4)]),⟨0,List.replicate a0.length (0:Int),rfl,rfl⟩⟩ ?_;rintro n_ _ _ c_ ⟨l6_m4,l6_m3,rfl,rfl⟩ h hn6
  (try dsimp only at h);unfold F8 at h;unfold Po;refine Ab ?_;refine An ?_;rcases Ae h with ⟨q9,h⟩ | ⟨q9,h⟩
  ·have q9_:=of_decide_eq_true q9;refine Ah q9 ?_;refine Ai (tn_ ?_);refine wr_ ?_;refine Ab ?_;refine Af ?_;obtain ⟨x11,e11,h⟩:=Ad h;obtain ⟨x12,e12,h⟩:=Ad h;refine Aa 14 ?_;refine rz0 (.own (oi 0 1) .int 0 l6_m3.length) ?_;refine rz0 (ai ((l6_m4:Nat):Int)) ?_;refine rz0 (.tree .int a0) ?_;refine rz0 (ai ((l6_m4:Nat):Int)) ?_;refine rs0 (.telt .int x11 0) (zi (t:=.int) (xs:=a0) (k:=.i64) (m:=((l6_m4:Nat):Int)) (At _) e11) ?_;refine rz0 (ai x11) ?_;refine rs0 (.elt (oi 0 1) l6_m4 0) (zo (t:=.int) (o:=oi 0 1) (len:=l6_m3.length) (k:=.i64) (m:=((l6_m4:Nat):Int)) (At _) (Al e12)) ?_;refine Nj (oi 0 1) (oi 0 1) (.arr 3 .int (l6_m3.set l6_m4 x11)) (Ep (i:=oi 0 1) (j:=l6_m4) (k:=0) (e:=3) (t:=.int) (xs:=l6_m3) (cs:=[ai x11]) (x1:=x11) (by kernel_rfl) (by kernel_rfl) e12 (by kernel_rfl) (by kernel_rfl)) ?_;refine Aq (bn_ (tn_ ?_));refine wr_ ?_;obtain ⟨g13,h⟩:=Am h;refine Aa 17 ?_;refine rz0 (ai ((l6_m4:Nat):Int)) ?_;refine rs0 (ai ((l6_m4+1:Nat):Int)) (za g13) ?_;refine rsB 1 ?_;refine Aq (tn_ ?_);obtain rfl:=zj h;exact ⟨(l6_m4+1,l6_m3.set l6_m4 x11),_,(A9 3 (.own (oi 0 1) .int 0 l6_m3.length) (.own (oi 0 1) .int 0 ((l6_m3.set l6_m4 x11).length)) (by kernel_rfl) (congrArg (fun z_=>((.own (oi 0 1) .int 0 z_):AV)) (((rfl:l6_m3.length=l6_m3.length).trans List.length_set.symm):l6_m3.length=(l6_m3.set l6_m4 x11).length))).trans (Ac []),⟨l6_m4+1,l6_m3.set l6_m4 x11,rfl,rfl⟩,hn6⟩
  have q9_:=of_decide_eq_false q9;refine Ag q9 ?_;refine Au (te_ (te_ (be_ (tn_ ?_))));obtain rfl:=zj h;have h:=hn6
  (try dsimp only at h);obtain rfl:=zj h;exact ⟨_,Ac [],rfl⟩
 rintro l4_m3 _ rfl h
 (try dsimp only at h);refine An ?_;refine Ao ?_;obtain rfl:=zj h;exact Br [.own (oi 0 1) .int 0 l4_m3.length] (A8 rfl (Kb (by kernel_rfl) rfl) Bc)
def Ow:AC :=
 (.seq (.seq (rg [xo 11 (qm (tm 5)),xo 12 (qm (tm 0)),xo 13 (.i (.len (tm 12))),xo 14 (qb .lss (tm 11) (tm 13))])
 (.cond (tm 14)
  .skip
  (.exit 0)))
 (.seq (.block 1 (.seq (.region [xo 17 (qm (tm 0)),xo 18 (qm (tm 5)),xo 19 (qx 1 (tm 17) (tm 18)),xo 20 (ql (tm 19)),xo 21 (qm (tm 1)),xo 22 (qm (tm 5)),xo 23 (qx 1 (tm 21) (tm 22)),xo 24 (ql (tm 23)),xo 25 (qb .neq (tm 20) (tm 24))] true [])
 (.cond (tm 25)
  (.seq (rg [xo 4 (qm (cb false))])
  .ret)
  .skip)))
 (rg [xo 15 (qm (tm 5)),xo 16 (qb .add (tm 15) (ci 1)),xo 5 (qm (tm 16))])))
def Ts:AC :=
 (.seq (rg [xo 4 (qm (cb false))])
 (.seq (.seq (rg [xo 6 (qm (tm 0)),xo 7 (.i (.len (tm 6))),xo 8 (qm (tm 1)),xo 9 (.i (.len (tm 8))),xo 10 (qb .neq (tm 7) (tm 9))])
 (.cond (tm 10)
  (.seq (rg [xo 4 (qm (cb false))])
  .ret)
  .skip))
 (.seq (.seq (rg [xo 5 (qm (ci 0))])
 (.block 0 (.loop Ow)))
 (.seq (rg [xo 4 (qm (cb true))])
 .ret))))
def Ac5:List Res:=[.tmp 4]
theorem Ac7:Aw Tryd.prog Tryd.f17=some (Ts,Ac5):=by kernel_rfl
theorem D1:A6 Tryd.prog 17=true:=by kernel_rfl
def F5 (a0:List Int) (a1:List Int) (l8_m5:Nat):Option (Ctl Nat (Ctl Unit Bool)) :=
 cond (decide (((l8_m5:Nat):Int)<((a0.length:Nat):Int)))
 (Option.bind (a0[l8_m5]?) fun x14 =>
 Option.bind (a1[l8_m5]?) fun x15 =>
 cond (x14 !=x15)
  (some (Ctl.out (Ctl.out false)))
  (og (l8_m5+1<4611686018427387904) <|
  some (Ctl.next (l8_m5+1))))
 (some (Ctl.out (Ctl.next ())))
def Co (a0:List Int) (a1:List Int):Option Bool :=
 cond (((a0.length:Nat):Int) !=((a1.length:Nat):Int))
 (some false)
 (Ud (Av (fun s_:Nat=>F5 a0 a1 s_) 4611686018427387904 0) fun _ =>
 some true)
def Abt (r:Bool):RV:=⟨false,[(false,[.sc (.bool r)])]⟩
theorem Cp {a0:List Int} {a1:List Int} {r:Bool} (h:Co a0 a1=some r):Bm Tryd.prog Tab 17 [.tree .int a0,.tree .int a1] (Abt r):=by
 refine Ba (by kernel_rfl) Tryd.func17 Ac7 (n:=26) (by kernel_rfl) (by simp) (tl:=[(0,.tree .int a0),(1,.tree .int a1)]) rfl ?_;unfold Ts;unfold Co at h;refine An ?_;refine Ab ?_;refine An ?_;rcases Ae h with ⟨q4,h⟩ | ⟨q4,h⟩
 ·refine Ah q4 ?_;refine An ?_;refine Ao (tr_ ?_);obtain rfl:=zj h;exact Br [.bool false] (A8 rfl zl Bc)
 refine Ag q4 ?_;refine Ai (tn_ ?_);refine wr_ ?_;refine G8 h (fun (_:Unit) S_=>S_=⟨Ap [],Aj (Ar []),2⟩) ?_ ?_
 ·intro v_ h hk6;refine An ?_;refine Af ?_;refine Ax h (fun (l8_m5:Nat) S_=>S_=⟨Ap [(0,.tree .int a0),(1,.tree .int a1),(5,ai ((l8_m5:Nat):Int))],Aj (Ar []),2⟩) ⟨_,Ac [],rfl⟩ ?_;rintro n_ l8_m5 _ c_ rfl h hn8
  (try dsimp only at h);unfold F5 at h;unfold Ow;refine Ab ?_;refine An ?_;rcases Ae h with ⟨q11,h⟩ | ⟨q11,h⟩
  ·have q11_:=of_decide_eq_true q11;refine Ah q11 ?_;refine Ai (tn_ ?_);refine wr_ ?_;refine Ab ?_;refine Af ?_;refine Ab ?_;obtain ⟨x14,e14,h⟩:=Ad h;obtain ⟨x15,e15,h⟩:=Ad h;refine Az 15 ?_;refine dz0 (.tree .int a0) ?_;refine dz0 (ai ((l8_m5:Nat):Int)) ?_;refine ds0 (.telt .int x14 0) (zi (t:=.int) (xs:=a0) (k:=.i64) (m:=((l8_m5:Nat):Int)) (At _) e14) ?_;refine dz0 (ai x14) ?_;refine dz0 (.tree .int a1) ?_;refine dz0 (ai ((l8_m5:Nat):Int)) ?_;refine ds0 (.telt .int x15 0) (zi (t:=.int) (xs:=a1) (k:=.i64) (m:=((l8_m5:Nat):Int)) (At _) e15) ?_;refine dz0 (ai x15) ?_;refine dz0 (.bool (x14 !=x15)) ?_;refine Ft (Bd (by kernel_rfl)) (tn_ ?_);refine wr_ ?_;rcases Ae h with ⟨q16,h⟩ | ⟨q16,h⟩
   ·refine Ah q16 ?_;refine An ?_;refine Ao (br_ (tr_ (tr_ (br_ (tr_ ?_)))));obtain rfl:=zj h;have h:=hn8
    (try dsimp only at h);obtain rfl:=zj h;have h:=hk6
    (try dsimp only at h);obtain rfl:=zj h;exact Br [.bool false] (A8 rfl zl Bc)
   refine Ag q16 ?_;refine Ai (bn_ (tn_ ?_));refine wr_ ?_;obtain ⟨g18,h⟩:=Am h;refine Aa 18 ?_;refine rz0 (ai ((l8_m5:Nat):Int)) ?_;refine rs0 (ai ((l8_m5+1:Nat):Int)) (za g18) ?_;refine rsB 1 ?_;refine Aq (tn_ ?_);obtain rfl:=zj h;exact ⟨l8_m5+1,_,Ac [],rfl,hn8⟩
  have q11_:=of_decide_eq_false q11;refine Ag q11 ?_;refine Au (te_ (te_ (be_ (tn_ ?_))));obtain rfl:=zj h;have h:=hn8
  (try dsimp only at h);obtain rfl:=zj h;exact ⟨(),_,rfl,Ac [],rfl⟩
 rintro _ _ rfl h
 (try dsimp only at h);refine An ?_;refine Ao ?_;obtain rfl:=zj h;exact Br [.bool true] (A8 rfl zl Bc)
def L8:AC :=
 (.seq (.seq (rg [xo 6 (qm (tm 5)),xo 7 (qm (tm 0)),xo 8 (.i (.len (tm 7))),xo 9 (qb .lss (tm 6) (tm 8))])
 (.cond (tm 9)
  .skip
  (.exit 0)))
 (.seq (.block 1 (.seq (rg [xo 12 (qm (tm 0)),xo 13 (qm (tm 5)),xo 14 (qm (tm 1)),xo 15 (qx 1 (tm 12) (tm 13)),xn (qs (tm 15) (tm 14))])
 (rg [xo 16 (qm (tm 1)),xo 17 (qb .add (tm 16) (ci 1)),xo 1 (qm (tm 17))])))
 (rg [xo 10 (qm (tm 5)),xo 11 (qb .add (tm 10) (ci 1)),xo 5 (qm (tm 11))])))
def Qt:AC :=
 (.seq (rg [xo 4 (qm (ci 0))])
 (.seq (.seq (rg [xo 5 (qm (ci 0))])
 (.block 0 (.loop L8)))
 (.seq (rg [xo 18 (qm (tm 1)),xo 4 (qm (tm 18))])
 .ret)))
def Yr:List Res:=[.tmp 4]
theorem Zd:Aw Tryd.prog Tryd.f18=some (Qt,Yr):=by kernel_rfl
theorem F6:A6 Tryd.prog 18=true:=by kernel_rfl
def Es  (l5_m1:Int) (l5_m5:Nat) (l5_m0:List Int):Option (Ctl (Int×Nat×List Int) (Int×List Int)) :=
 cond (decide (((l5_m5:Nat):Int)<((l5_m0.length:Nat):Int)))
 (Option.bind (l5_m0[l5_m5]?) fun x11 =>
 og (l5_m5+1<4611686018427387904) <|
 some (Ctl.next (wI (l5_m1+1),l5_m5+1,l5_m0.set l5_m5 l5_m1)))
 (some (Ctl.out (l5_m1,l5_m0)))
def Cu (a0:List Int) (a1:Int):Option (List Int×Int) :=
 Option.bind (Av (fun s_:Int×Nat×List Int=>Es s_.1 s_.2.1 s_.2.2) 4611686018427387904 (a1,0,a0)) fun (l3_m1,l3_p0) =>
some (l3_p0,l3_m1)
theorem Fx {a0:List Int} {a1:Int} {r:List Int×Int} (h:Cu a0 a1=some r) {n_a0:Nat} (hn_a0:n_a0=a0.length):Fi Tryd.prog Tab 18 [.own (oi 0 0) .int 0 n_a0,ai a1] [(oi 0 0,.arr 3 .int a0)] (ai r.2) [(oi 0 0,.arr 3 .int r.1)]:=by
 refine B8 (by kernel_rfl) Tryd.func18 Zd (n:=19) (by kernel_rfl) (by simp) (tl:=[(0,.own (oi 0 0) .int 0 n_a0),(1,ai a1)]) rfl (by kernel_rfl) ⟨trivial,trivial⟩ ⟨trivial,trivial⟩ ?_;unfold Qt;unfold Cu at h;refine An ?_;refine As h (fun t_ S_=>∃ (l3_m1:Int),∃ (l3_p0:List Int),t_=(l3_m1,l3_p0)∧S_=⟨Ap [(1,ai l3_m1)],Aj (Ar [(oi 0 0,.arr 3 .int l3_p0)]),2⟩) ?_ ?_
 ·intro v_ h;refine An ?_;refine Af ?_;refine Ax h (fun t_ S_=>∃ (l5_m1:Int),∃ (l5_m5:Nat),∃ (l5_m0:List Int),t_=(l5_m1,l5_m5,l5_m0)∧S_=⟨Ap [(0,.own (oi 0 0) .int 0 l5_m0.length),(1,ai l5_m1),(5,ai ((l5_m5:Nat):Int))],Aj (Ar [(oi 0 0,.arr 3 .int l5_m0)]),2⟩) ⟨_,(A9 0 (.own (oi 0 0) .int 0 n_a0) (.own (oi 0 0) .int 0 a0.length) (by kernel_rfl) (congrArg (fun z_=>((.own (oi 0 0) .int 0 z_):AV)) (hn_a0:n_a0=a0.length))).trans (Ac []),⟨a1,0,a0,rfl,rfl⟩⟩ ?_;rintro n_ _ _ c_ ⟨l5_m1,l5_m5,l5_m0,rfl,rfl⟩ h hn5
  (try dsimp only at h);unfold Es at h;unfold L8;refine Ab ?_;refine An ?_;rcases Ae h with ⟨q8,h⟩ | ⟨q8,h⟩
  ·have q8_:=of_decide_eq_true q8;refine Ah q8 ?_;refine Ai (tn_ ?_);refine wr_ ?_;refine Ab ?_;refine Af ?_;refine Ab ?_;obtain ⟨x11,e11,h⟩:=Ad h;refine Aa 11 ?_;refine rz0 (.own (oi 0 0) .int 0 l5_m0.length) ?_;refine rz0 (ai ((l5_m5:Nat):Int)) ?_;refine rz0 (ai l5_m1) ?_;refine rs0 (.elt (oi 0 0) l5_m5 0) (zo (t:=.int) (o:=oi 0 0) (len:=l5_m0.length) (k:=.i64) (m:=((l5_m5:Nat):Int)) (At _) (Al e11)) ?_;refine Nj (oi 0 0) (oi 0 0) (.arr 3 .int (l5_m0.set l5_m5 l5_m1)) (Ep (i:=oi 0 0) (j:=l5_m5) (k:=0) (e:=3) (t:=.int) (xs:=l5_m0) (cs:=[ai l5_m1]) (x1:=l5_m1) (by kernel_rfl) (by kernel_rfl) e11 (by kernel_rfl) (by kernel_rfl)) ?_;refine Aq (tn_ ?_);refine wr_ ?_;refine Aa 14 ?_;refine rsB 3 ?_;refine Aq (bn_ (tn_ ?_));refine wr_ ?_;obtain ⟨g12,h⟩:=Am h;refine Aa 17 ?_;refine rz0 (ai ((l5_m5:Nat):Int)) ?_;refine rs0 (ai ((l5_m5+1:Nat):Int)) (za g12) ?_;refine rsB 1 ?_;refine Aq (tn_ ?_);obtain rfl:=zj h;exact ⟨(wI (l5_m1+1),l5_m5+1,l5_m0.set l5_m5 l5_m1),_,(A9 0 (.own (oi 0 0) .int 0 l5_m0.length) (.own (oi 0 0) .int 0 ((l5_m0.set l5_m5 l5_m1).length)) (by kernel_rfl) (congrArg (fun z_=>((.own (oi 0 0) .int 0 z_):AV)) (((rfl:l5_m0.length=l5_m0.length).trans List.length_set.symm):l5_m0.length=(l5_m0.set l5_m5 l5_m1).length))).trans (Ac []),⟨wI (l5_m1+1),l5_m5+1,l5_m0.set l5_m5 l5_m1,rfl,rfl⟩,hn5⟩
  have q8_:=of_decide_eq_false q8;refine Ag q8 ?_;refine Au (te_ (te_ (be_ (tn_ ?_))));obtain rfl:=zj h;have h:=hn5
  (try dsimp only at h);obtain rfl:=zj h;exact ⟨_,Ac [],⟨l5_m1,l5_m0,rfl,rfl⟩⟩
 rintro _ _ ⟨l3_m1,l3_p0,rfl,rfl⟩ h
 (try dsimp only at h);refine An ?_;refine Ao ?_;obtain rfl:=zj h;exact Gk [ai l3_m1] (Ac (tl:=[(4,ai l3_m1)]) (g:=2) [])
def Nd:AC :=
 (.seq (.seq (rg [xo 6 (qm (tm 5)),xo 7 (qm (tm 0)),xo 8 (.i (.len (tm 7))),xo 9 (qb .lss (tm 6) (tm 8))])
 (.cond (tm 9)
  .skip
  (.exit 0)))
 (.seq (.block 1 (.seq (.seq (rg [xo 12 (qm (tm 0)),xo 13 (qm (tm 5)),xo 14 (qx 1 (tm 12) (tm 13)),xo 15 (ql (tm 14)),xo 16 (qm (tm 1)),xo 17 (qb .neq (tm 15) (tm 16))])
 (.cond (tm 17)
  (.seq (rg [xo 4 (qm (ci (-1)))])
  .ret)
  .skip))
 (rg [xo 18 (qm (tm 1)),xo 19 (qb .add (tm 18) (ci 1)),xo 1 (qm (tm 19))])))
 (rg [xo 10 (qm (tm 5)),xo 11 (qb .add (tm 10) (ci 1)),xo 5 (qm (tm 11))])))
def Qv:AC :=
 (.seq (rg [xo 4 (qm (ci 0))])
 (.seq (.seq (rg [xo 5 (qm (ci 0))])
 (.block 0 (.loop Nd)))
 (.seq (rg [xo 20 (qm (tm 1)),xo 4 (qm (tm 20))])
 .ret)))
def Y1:List Res:=[.tmp 4]
theorem Y7:Aw Tryd.prog Tryd.f19=some (Qv,Y1):=by kernel_rfl
theorem N6:A6 Tryd.prog 19=true:=by kernel_rfl
def En (a0:List Int) (l4_m1:Int) (l4_m5:Nat):Option (Ctl (Int×Nat) (Ctl Int Int)) :=
 cond (decide (((l4_m5:Nat):Int)<((a0.length:Nat):Int)))
 (Option.bind (a0[l4_m5]?) fun x11 =>
 cond (x11 !=l4_m1)
  (some (Ctl.out (Ctl.out (-1))))
  (og (l4_m5+1<4611686018427387904) <|
  some (Ctl.next (wI (l4_m1+1),l4_m5+1))))
 (some (Ctl.out (Ctl.next l4_m1)))
def E8 (a0:List Int) (a1:Int):Option Int :=
 Ud (Av (fun s_:Int×Nat=>En a0 s_.1 s_.2) 4611686018427387904 (a1,0)) fun l2_m1 =>
some l2_m1
def Xi (r:Int):RV:=⟨false,[(false,[.sc (.int .i64 r)])]⟩
theorem Oj {a0:List Int} {a1:Int} {r:Int} (h:E8 a0 a1=some r):Bm Tryd.prog Tab 19 [.tree .int a0,ai a1] (Xi r):=by
 refine Ba (by kernel_rfl) Tryd.func19 Y7 (n:=21) (by kernel_rfl) (by simp) (tl:=[(0,.tree .int a0),(1,ai a1)]) rfl ?_;unfold Qv;unfold E8 at h;refine An ?_;refine G8 h (fun (l2_m1:Int) S_=>S_=⟨Ap [(1,ai l2_m1)],Aj (Ar []),2⟩) ?_ ?_
 ·intro v_ h hk2;refine An ?_;refine Af ?_;refine Ax h (fun t_ S_=>∃ (l4_m1:Int),∃ (l4_m5:Nat),t_=(l4_m1,l4_m5)∧S_=⟨Ap [(0,.tree .int a0),(1,ai l4_m1),(5,ai ((l4_m5:Nat):Int))],Aj (Ar []),2⟩) ⟨_,Ac [],⟨a1,0,rfl,rfl⟩⟩ ?_;rintro n_ _ _ c_ ⟨l4_m1,l4_m5,rfl,rfl⟩ h hn4
  (try dsimp only at h);unfold En at h;unfold Nd;refine Ab ?_;refine An ?_;rcases Ae h with ⟨q7,h⟩ | ⟨q7,h⟩
  ·have q7_:=of_decide_eq_true q7;refine Ah q7 ?_;refine Ai (tn_ ?_);refine wr_ ?_;refine Ab ?_;refine Af ?_;refine Ab ?_;refine Ab ?_;obtain ⟨x11,e11,h⟩:=Ad h;refine Aa 12 ?_;refine rz0 (.tree .int a0) ?_;refine rz0 (ai ((l4_m5:Nat):Int)) ?_;refine rs0 (.telt .int x11 0) (zi (t:=.int) (xs:=a0) (k:=.i64) (m:=((l4_m5:Nat):Int)) (At _) e11) ?_;refine rsB 3 ?_;refine Aq (tn_ ?_);refine wr_ ?_;rcases Ae h with ⟨q12,h⟩ | ⟨q12,h⟩
   ·refine Ah q12 ?_;refine An ?_;refine Ao (tr_ (br_ (tr_ (tr_ (br_ (tr_ ?_))))));obtain rfl:=zj h;have h:=hn4
    (try dsimp only at h);obtain rfl:=zj h;have h:=hk2
    (try dsimp only at h);obtain rfl:=zj h;exact Br [ai (-1)] (A8 rfl zl Bc)
   refine Ag q12 ?_;refine Ai (tn_ ?_);refine wr_ ?_;refine Aa 15 ?_;refine rsB 3 ?_;refine Aq (bn_ (tn_ ?_));refine wr_ ?_;obtain ⟨g14,h⟩:=Am h;refine Aa 18 ?_;refine rz0 (ai ((l4_m5:Nat):Int)) ?_;refine rs0 (ai ((l4_m5+1:Nat):Int)) (za g14) ?_;refine rsB 1 ?_;refine Aq (tn_ ?_);obtain rfl:=zj h;exact ⟨(wI (l4_m1+1),l4_m5+1),_,Ac [],⟨wI (l4_m1+1),l4_m5+1,rfl,rfl⟩,hn4⟩
  have q7_:=of_decide_eq_false q7;refine Ag q7 ?_;refine Au (te_ (te_ (be_ (tn_ ?_))));obtain rfl:=zj h;have h:=hn4
  (try dsimp only at h);obtain rfl:=zj h;exact ⟨l4_m1,_,rfl,Ac [],rfl⟩
 rintro l2_m1 _ rfl h
 (try dsimp only at h);refine An ?_;refine Ao ?_;obtain rfl:=zj h;exact Br [ai l2_m1] (A8 rfl zl Bc)
def Yg:AC :=
 (.seq (rg [xo 6 (qm (cb false))])
 (.seq (rg [xo 7 (qm (tm 0)),xo 8 (qm (tm 1)),xo 9 (qb .geq (tm 7) (tm 8)),xo 10 (qm (tm 9)),⟨some 11,some (10,true),qm (tm 0)⟩,⟨some 12,some (10,true),qm (tm 2)⟩,⟨some 13,some (10,true),qb .leq (tm 11) (tm 12)⟩,xo 14 (.i (.pick (tm 10) (tm 13) (cb false))),xo 6 (qm (tm 14))])
 .ret))
def Aia:List Res:=[.tmp 6]
theorem Ah3:Aw Tryd.prog Tryd.f55=some (Yg,Aia):=by kernel_rfl
theorem Ds:A6 Tryd.prog 55=true:=by kernel_rfl
def Ec (a0:Int) (a1:Int) (a2:Int):Option Bool :=
 Option.bind (cond (decide (a1<=a0))
  (some (decide (a0<=a2)))
  (some false)) fun l2_m6 =>
some l2_m6
def Aha (r:Bool):RV:=⟨false,[(false,[.sc (.bool r)])]⟩
theorem Bz {a0:Int} {a1:Int} {a2:Int} {r:Bool} (h:Ec a0 a1 a2=some r):Bm Tryd.prog Tab 55 [ai a0,ai a1,ai a2] (Aha r):=by
 refine Ba (by kernel_rfl) Tryd.func55 Ah3 (n:=15) (by kernel_rfl) (by simp) (tl:=[(0,ai a0),(1,ai a1),(2,ai a2)]) rfl ?_;unfold Yg;unfold Ec at h;refine An ?_;refine As h (fun (l2_m6:Bool) S_=>S_=⟨Ap [(6,.bool l2_m6)],Aj (Ar []),2⟩) ?_ ?_
 ·intro v_ h;rcases Ae h with ⟨q3,h⟩ | ⟨q3,h⟩
  ·have q3_:=of_decide_eq_true q3;refine Aa 11 ?_;refine rz0 (ai a0) ?_;refine rz0 (ai a1) ?_;refine rz0 (.bool (decide (a1<=a0))) ?_;refine rz0 (.bool (decide (a1<=a0))) ?_;refine rs0 (ai a0) (zg q3) ?_;refine rs0 (ai a2) (zg q3) ?_;refine rs0 (.bool (decide (a0<=a2))) (zg q3) ?_;refine rs0 (.bool (decide (a0<=a2))) (zT q3) ?_;refine rsB 1 ?_;refine Aq (tn_ ?_);obtain rfl:=zj h;exact ⟨_,Ac [],rfl⟩
  have q3_:=of_decide_eq_false q3;refine Aa 11 ?_;refine rz0 (ai a0) ?_;refine rz0 (ai a1) ?_;refine rz0 (.bool (decide (a1<=a0))) ?_;refine rz0 (.bool (decide (a1<=a0))) ?_;refine zs q3 ?_;refine zs q3 ?_;refine zs q3 ?_;refine rs0 (.bool false) (zF q3) ?_;refine rsB 1 ?_;refine Aq (tn_ ?_);obtain rfl:=zj h;exact ⟨_,Ac [],rfl⟩
 rintro l2_m6 _ rfl h
 (try dsimp only at h);refine Ao ?_;obtain rfl:=zj h;exact Br [.bool l2_m6] (A8 rfl zl Bc)
def N9:AC :=
 (.seq (.seq (rg [xo 7 (qm (tm 3)),xo 8 (qm (tm 3)),xo 9 (qb .mul (tm 7) (tm 8)),xo 10 (qm (tm 0)),xo 11 (qb .leq (tm 9) (tm 10))])
 (.cond (tm 11)
  .skip
  (.exit 0)))
 (.seq (.block 1 (.seq (rg [xo 14 (qm (tm 0)),xo 15 (qm (tm 3)),xo 16 (qb .rem (tm 14) (tm 15)),xo 17 (qb .eql (tm 16) (ci 0))])
 (.cond (tm 17)
  (.seq (rg [xo 2 (qm (cb false))])
  .ret)
  .skip)))
 (rg [xo 12 (qm (tm 3)),xo 13 (qb .add (tm 12) (ci 1)),xo 3 (qm (tm 13))])))
def Sz:AC :=
 (.seq (rg [xo 2 (qm (cb false))])
 (.seq (.seq (rg [xo 4 (qm (tm 0)),xo 5 (qc 55 [tm 4,ci 2,ci 97] [[],[],[]]),xo 6 (.i (.not (tm 5)))])
 (.cond (tm 6)
  (.seq (rg [xo 2 (qm (cb false))])
  .ret)
  .skip))
 (.seq (.seq (rg [xo 3 (qm (ci 2))])
 (.block 0 (.loop N9)))
 (.seq (rg [xo 2 (qm (cb true))])
 .ret))))
def Ack:List Res:=[.tmp 2]
theorem Adf:Aw Tryd.prog Tryd.f54=some (Sz,Ack):=by kernel_rfl
def Fw (a0:Int) (l9_m3:Nat):Option (Ctl Nat (Ctl Unit Bool)) :=
 cond (decide (wI (((l9_m3:Nat):Int)*((l9_m3:Nat):Int))<=a0))
 (og (((l9_m3:Nat):Int)≠0) <|
 cond ((Int.tmod a0 ((l9_m3:Nat):Int))==0)
  (some (Ctl.out (Ctl.out false)))
  (og (l9_m3+1<4611686018427387904) <|
  some (Ctl.next (l9_m3+1))))
 (some (Ctl.out (Ctl.next ())))
def Iw (a0:Int):Option Bool :=
 Option.bind (Ec a0 2 97) fun y4 =>
cond (!y4)
 (some false)
 (Ud (Av (fun s_:Nat=>Fw a0 s_) 4611686018427387904 2) fun _ =>
 some true)
def Ab5 (r:Bool):RV:=⟨false,[(false,[.sc (.bool r)])]⟩
theorem Eu {a0:Int} {r:Bool} (h:Iw a0=some r):Bm Tryd.prog Tab 54 [ai a0] (Ab5 r):=by
 refine Ba (by kernel_rfl) Tryd.func54 Adf (n:=18) (by kernel_rfl) (by simp) (tl:=[(0,ai a0)]) rfl ?_;unfold Sz;unfold Iw at h;refine An ?_;refine Ab ?_;refine Ab ?_;obtain ⟨y4,h4,h⟩:=Ad h;refine Aa 5 ?_;refine rz0 (ai a0) ?_;refine zc (.bool y4) [] [ai a0,ai 2,ai 97] (Bz h4) ?_;refine rsB 1 ?_;refine Aq (tn_ ?_);refine wr_ ?_;rcases Ae h with ⟨q5,h⟩ | ⟨q5,h⟩
 ·refine Ah q5 ?_;refine An ?_;refine Ao (tr_ ?_);obtain rfl:=zj h;exact Br [.bool false] (A8 rfl zl Bc)
 refine Ag q5 ?_;refine Ai (tn_ ?_);refine wr_ ?_;refine G8 h (fun (_:Unit) S_=>S_=⟨Ap [],Aj (Ar []),2⟩) ?_ ?_
 ·intro v_ h hk7;refine An ?_;refine Af ?_;refine Ax h (fun (l9_m3:Nat) S_=>S_=⟨Ap [(0,ai a0),(3,ai ((l9_m3:Nat):Int))],Aj (Ar []),2⟩) ⟨_,Ac [],rfl⟩ ?_;rintro n_ l9_m3 _ c_ rfl h hn9
  (try dsimp only at h);unfold Fw at h;unfold N9;refine Ab ?_;refine An ?_;rcases Ae h with ⟨q12,h⟩ | ⟨q12,h⟩
  ·have q12_:=of_decide_eq_true q12;refine Ah q12 ?_;refine Ai (tn_ ?_);refine wr_ ?_;refine Ab ?_;refine Af ?_;refine Ab ?_;obtain ⟨g15,h⟩:=Am h;refine Aa 11 ?_;refine rz0 (ai a0) ?_;refine rz0 (ai ((l9_m3:Nat):Int)) ?_;refine rs0 (ai (Int.tmod a0 ((l9_m3:Nat):Int))) (On (k:=.i64) (a:=a0) (b:=((l9_m3:Nat):Int)) (by kernel_rfl) (by kernel_rfl) g15) ?_;refine rsB 1 ?_;refine Aq (tn_ ?_);refine wr_ ?_;rcases Ae h with ⟨q16,h⟩ | ⟨q16,h⟩
   ·refine Ah q16 ?_;refine An ?_;refine Ao (br_ (tr_ (tr_ (br_ (tr_ ?_)))));obtain rfl:=zj h;have h:=hn9
    (try dsimp only at h);obtain rfl:=zj h;have h:=hk7
    (try dsimp only at h);obtain rfl:=zj h;exact Br [.bool false] (A8 rfl zl Bc)
   refine Ag q16 ?_;refine Ai (bn_ (tn_ ?_));refine wr_ ?_;obtain ⟨g18,h⟩:=Am h;refine Aa 14 ?_;refine rz0 (ai ((l9_m3:Nat):Int)) ?_;refine rs0 (ai ((l9_m3+1:Nat):Int)) (za g18) ?_;refine rsB 1 ?_;refine Aq (tn_ ?_);obtain rfl:=zj h;exact ⟨l9_m3+1,_,Ac [],rfl,hn9⟩
  have q12_:=of_decide_eq_false q12;refine Ag q12 ?_;refine Au (te_ (te_ (be_ (tn_ ?_))));obtain rfl:=zj h;have h:=hn9
  (try dsimp only at h);obtain rfl:=zj h;exact ⟨(),_,rfl,Ac [],rfl⟩
 rintro _ _ rfl h
 (try dsimp only at h);refine An ?_;refine Ao ?_;obtain rfl:=zj h;exact Br [.bool true] (A8 rfl zl Bc)
def Qi:AC :=
 (.seq (rg [xo 12 (qb .lss (tm 11) (tm 10))])
 (.seq (.cond (tm 12)
  .skip
  (.exit 0))
 (.seq (.block 1 (.seq (rg [xo 13 (qx 1 (tm 9) (tm 11)),xo 14 (ql (tm 13)),xo 8 (qm (tm 14))])
 (.seq (rg [xo 15 (qm (tm 8)),xo 16 (qm (tm 1)),xo 17 (qm (tm 2)),xo 18 (qc 55 [tm 15,tm 16,tm 17] [[],[],[]]),xo 19 (.i (.not (tm 18)))])
 (.cond (tm 19)
  (.seq (rg [xo 6 (qm (cb false))])
  .ret)
  .skip))))
 (rg [xo 20 (qb .add (tm 11) (ci 1)),xo 11 (qm (tm 20))]))))
def Vr:AC :=
 (.seq (rg [xo 6 (qm (cb false))])
 (.seq (.seq (rg [xo 9 (qm (tm 0)),xo 10 (.i (.len (tm 9))),xo 11 (qm (ci 0))])
 (.block 0 (.loop Qi)))
 (.seq (rg [xo 6 (qm (cb true))])
 .ret)))
def Ahc:List Res:=[.tmp 6]
theorem Agf:Aw Tryd.prog Tryd.f56=some (Vr,Ahc):=by kernel_rfl
theorem Kr:A6 Tryd.prog 56=true:=by kernel_rfl
def Jg (a0:List Int) (a1:Int) (a2:Int) (l4_m11:Nat):Option (Ctl Nat (Ctl Unit Bool)) :=
 cond (decide (((l4_m11:Nat):Int)<((a0.length:Nat):Int)))
 (Option.bind (a0[l4_m11]?) fun x10 =>
 Option.bind (Ec x10 a1 a2) fun y12 =>
 cond (!y12)
  (some (Ctl.out (Ctl.out false)))
  (og (l4_m11+1<4611686018427387904) <|
  some (Ctl.next (l4_m11+1))))
 (some (Ctl.out (Ctl.next ())))
def Fc (a0:List Int) (a1:Int) (a2:Int):Option Bool :=
 Ud (Av (fun s_:Nat=>Jg a0 a1 a2 s_) 4611686018427387904 0) fun _ =>
some true
def Acu (r:Bool):RV:=⟨false,[(false,[.sc (.bool r)])]⟩
theorem Jc {a0:List Int} {a1:Int} {a2:Int} {r:Bool} (h:Fc a0 a1 a2=some r):Bm Tryd.prog Tab 56 [.tree .int a0,ai a1,ai a2] (Acu r):=by
 refine Ba (by kernel_rfl) Tryd.func56 Agf (n:=21) (by kernel_rfl) (by simp) (tl:=[(0,.tree .int a0),(1,ai a1),(2,ai a2)]) rfl ?_;unfold Vr;unfold Fc at h;refine An ?_;refine G8 h (fun (_:Unit) S_=>S_=⟨Ap [],Aj (Ar []),2⟩) ?_ ?_
 ·intro v_ h hk2;refine An ?_;refine Af ?_;refine Ax h (fun (l4_m11:Nat) S_=>S_=⟨Ap [(1,ai a1),(2,ai a2),(9,.tree .int a0),(10,ai ((a0.length:Nat):Int)),(11,ai ((l4_m11:Nat):Int))],Aj (Ar []),2⟩) ⟨_,Ac [],rfl⟩ ?_;rintro n_ l4_m11 _ c_ rfl h hn4
  (try dsimp only at h);unfold Jg at h;unfold Qi;refine An ?_;refine Ab ?_;rcases Ae h with ⟨q7,h⟩ | ⟨q7,h⟩
  ·have q7_:=of_decide_eq_true q7;refine Ah q7 ?_;refine Ai (tn_ ?_);refine wr_ ?_;refine Ab ?_;refine Af ?_;refine Ab ?_;obtain ⟨x10,e10,h⟩:=Ad h;refine Aa 6 ?_;refine rs0 (.telt .int x10 0) (zi (t:=.int) (xs:=a0) (k:=.i64) (m:=((l4_m11:Nat):Int)) (At _) e10) ?_;refine rsB 2 ?_;refine Aq (tn_ ?_);refine wr_ ?_;refine Ab ?_;obtain ⟨y12,h12,h⟩:=Ad h;refine Aa 11 ?_;refine rz0 (ai x10) ?_;refine rz0 (ai a1) ?_;refine rz0 (ai a2) ?_;refine zc (.bool y12) [] [ai x10,ai a1,ai a2] (Bz h12) ?_;refine rsB 1 ?_;refine Aq (tn_ ?_);refine wr_ ?_;rcases Ae h with ⟨q13,h⟩ | ⟨q13,h⟩
   ·refine Ah q13 ?_;refine An ?_;refine Ao (br_ (tr_ (tr_ (br_ (tr_ ?_)))));obtain rfl:=zj h;have h:=hn4
    (try dsimp only at h);obtain rfl:=zj h;have h:=hk2
    (try dsimp only at h);obtain rfl:=zj h;exact Br [.bool false] (A8 rfl zl Bc)
   refine Ag q13 ?_;refine Ai (bn_ (tn_ ?_));refine wr_ ?_;obtain ⟨g15,h⟩:=Am h;refine Aa 13 ?_;refine rs0 (ai ((l4_m11+1:Nat):Int)) (za g15) ?_;refine rsB 1 ?_;refine Aq (tn_ ?_);obtain rfl:=zj h;exact ⟨l4_m11+1,_,Ac [],rfl,hn4⟩
  have q7_:=of_decide_eq_false q7;refine Ag q7 ?_;refine Au (te_ (te_ (be_ (tn_ ?_))));obtain rfl:=zj h;have h:=hn4
  (try dsimp only at h);obtain rfl:=zj h;exact ⟨(),_,rfl,Ac [],rfl⟩
 rintro _ _ rfl h
 (try dsimp only at h);refine An ?_;refine Ao ?_;obtain rfl:=zj h;exact Br [.bool true] (A8 rfl zl Bc)
def V4:AC :=
 (.seq (rg [xo 2 (qm (.cst .nils))])
 (.seq (rg [xo 3 (.mkS 3 .int []),xo 4 (qm (tm 0)),xo 5 (.append 3 .int 8 (tm 3) (tm 4)),xo 2 (qm (tm 5))])
 .ret))
def Afe:List Res:=[.tmp 2]
theorem Afn:Aw Tryd.prog Tryd.f41=some (V4,Afe):=by kernel_rfl
theorem Iu:A6 Tryd.prog 41=true:=by kernel_rfl
def Cw (a0:List Int):Option (List Int) :=
 og (0+a0.length<=1073741824∧(0+a0.length)*8<=140737488355328) <|
some a0
def Adj (r:List Int):RV:=⟨false,[(false,[.new 3 .int r])]⟩
theorem Hc {a0:List Int} {r:List Int} (h:Cw a0=some r):Bm Tryd.prog Tab 41 [.tree .int a0] (Adj r):=by
 refine Ba (by kernel_rfl) Tryd.func41 Afn (n:=6) (by kernel_rfl) (by simp) (tl:=[(0,.tree .int a0)]) rfl ?_;unfold V4;unfold Cw at h;refine An ?_;refine Ab ?_;obtain ⟨g3,h⟩:=Am h;refine Aa 6 ?_;refine rs1 (.own (oi 3 2) .int 0 0) (oi 3 2) (.arr 3 .int []) (by kernel_rfl) ?_;refine rz0 (.tree .int a0) ?_;refine rs2 (.own (oi 3 4) .int 0 a0.length) (oi 3 2) (oi 3 4) (.arr 3 .int a0) (It (t:=.int) (t':=.int) (xs:=[]) (ys:=a0) (zs:=a0) (j:=oi 3 2) (len:=0) (c:=.tree .int a0) (by kernel_rfl) (by kernel_rfl) rfl (by kernel_rfl) Ln rfl g3) ?_;refine rsB 1 ?_;refine Aq (tn_ ?_);refine wr_ ?_;refine Ao ?_;obtain rfl:=zj h;exact Br [.own (oi 3 4) .int 0 a0.length] (A8 rfl (Kb (by kernel_rfl) rfl) Bc)
def Ye:AC :=
 (.seq (rg [xo 4 (qm (cb false))])
 (.seq (rg [xo 5 (qm (tm 1)),xo 6 (qm (tm 0)),xo 7 (qb .sub (tm 6) (ci 1)),xo 8 (qc 56 [tm 5,ci 0,tm 7] [[some .int],[],[]]),xo 4 (qm (tm 8))])
 .ret))
def Aii:List Res:=[.tmp 4]
theorem Ais:Aw Tryd.prog Tryd.f37=some (Ye,Aii):=by kernel_rfl
theorem Qg:A6 Tryd.prog 37=true:=by kernel_rfl
def Jo (a0:Int) (a1:List Int):Option Bool :=
 Option.bind (Fc a1 0 (wI (a0 - 1))) fun y3 =>
some y3
def Afq (r:Bool):RV:=⟨false,[(false,[.sc (.bool r)])]⟩
theorem P4 {a0:Int} {a1:List Int} {r:Bool} (h:Jo a0 a1=some r):Bm Tryd.prog Tab 37 [ai a0,.tree .int a1] (Afq r):=by
 refine Ba (by kernel_rfl) Tryd.func37 Ais (n:=9) (by kernel_rfl) (by simp) (tl:=[(0,ai a0),(1,.tree .int a1)]) rfl ?_;unfold Ye;unfold Jo at h;refine An ?_;refine Ab ?_;obtain ⟨y3,h3,h⟩:=Ad h;refine Aa 7 ?_;refine rz0 (.tree .int a1) ?_;refine rz0 (ai a0) ?_;refine rz0 (ai (wI (a0 - 1))) ?_;refine zc (.bool y3) [] [.tree .int a1,ai 0,ai (wI (a0 - 1))] (Jc h3) ?_;refine rsB 1 ?_;refine Aq (tn_ ?_);refine wr_ ?_;refine Ao ?_;obtain rfl:=zj h;exact Br [.bool y3] (A8 rfl zl Bc)
def Vh:AC :=
 (.seq (rg [xo 6 (qm (ci 0))])
 (.seq (rg [xo 7 (qm (tm 1)),xo 8 (qm (tm 2)),xo 9 (qb .add (tm 7) (tm 8)),xo 10 (qm (tm 0)),xo 11 (qb .rem (tm 9) (tm 10)),xo 6 (qm (tm 11))])
 .ret))
def Af6:List Res:=[.tmp 6]
theorem Ag6:Aw Tryd.prog Tryd.f88=some (Vh,Af6):=by kernel_rfl
theorem Tw:A6 Tryd.prog 88=true:=by kernel_rfl
def Im (a0:Int) (a1:Int) (a2:Int):Option Int :=
 og (a0≠0) <|
some (Int.tmod (wI (a1+a2)) a0)
def Acs (r:Int):RV:=⟨false,[(false,[.sc (.int .i64 r)])]⟩
theorem Th {a0:Int} {a1:Int} {a2:Int} {r:Int} (h:Im a0 a1 a2=some r):Bm Tryd.prog Tab 88 [ai a0,ai a1,ai a2] (Acs r):=by
 refine Ba (by kernel_rfl) Tryd.func88 Ag6 (n:=12) (by kernel_rfl) (by simp) (tl:=[(0,ai a0),(1,ai a1),(2,ai a2)]) rfl ?_;unfold Vh;unfold Im at h;refine An ?_;refine Ab ?_;obtain ⟨g3,h⟩:=Am h;refine Aa 8 ?_;refine rz0 (ai a1) ?_;refine rz0 (ai a2) ?_;refine rz0 (ai (wI (a1+a2))) ?_;refine rz0 (ai a0) ?_;refine rs0 (ai (Int.tmod (wI (a1+a2)) a0)) (On (k:=.i64) (a:=wI (a1+a2)) (b:=a0) (by kernel_rfl) (by kernel_rfl) g3) ?_;refine rsB 1 ?_;refine Aq (tn_ ?_);refine wr_ ?_;refine Ao ?_;obtain rfl:=zj h;exact Br [ai (Int.tmod (wI (a1+a2)) a0)] (A8 rfl zl Bc)
def U9:AC :=
 (.seq (rg [xo 6 (qm (ci 0))])
 (.seq (rg [xo 7 (qm (tm 1)),xo 8 (qm (tm 2)),xo 9 (qb .mul (tm 7) (tm 8)),xo 10 (qm (tm 0)),xo 11 (qb .rem (tm 9) (tm 10)),xo 6 (qm (tm 11))])
 .ret))
def Ago:List Res:=[.tmp 6]
theorem Agn:Aw Tryd.prog Tryd.f79=some (U9,Ago):=by kernel_rfl
theorem N0:A6 Tryd.prog 79=true:=by kernel_rfl
def Eb (a0:Int) (a1:Int) (a2:Int):Option Int :=
 og (a0≠0) <|
some (Int.tmod (wI (a1*a2)) a0)
def Adg (r:Int):RV:=⟨false,[(false,[.sc (.int .i64 r)])]⟩
theorem I8 {a0:Int} {a1:Int} {a2:Int} {r:Int} (h:Eb a0 a1 a2=some r):Bm Tryd.prog Tab 79 [ai a0,ai a1,ai a2] (Adg r):=by
 refine Ba (by kernel_rfl) Tryd.func79 Agn (n:=12) (by kernel_rfl) (by simp) (tl:=[(0,ai a0),(1,ai a1),(2,ai a2)]) rfl ?_;unfold U9;unfold Eb at h;refine An ?_;refine Ab ?_;obtain ⟨g3,h⟩:=Am h;refine Aa 8 ?_;refine rz0 (ai a1) ?_;refine rz0 (ai a2) ?_;refine rz0 (ai (wI (a1*a2))) ?_;refine rz0 (ai a0) ?_;refine rs0 (ai (Int.tmod (wI (a1*a2)) a0)) (On (k:=.i64) (a:=wI (a1*a2)) (b:=a0) (by kernel_rfl) (by kernel_rfl) g3) ?_;refine rsB 1 ?_;refine Aq (tn_ ?_);refine wr_ ?_;refine Ao ?_;obtain rfl:=zj h;exact Br [ai (Int.tmod (wI (a1*a2)) a0)] (A8 rfl zl Bc)
def S5:AC :=
 (.seq (rg [xo 6 (qm (cb false))])
 (.seq (rg [xo 7 (qm (tm 0)),xo 8 (qm (tm 1)),xo 9 (qb .geq (tm 7) (tm 8)),xo 10 (qm (tm 9)),⟨some 11,some (10,true),qm (tm 0)⟩,⟨some 12,some (10,true),qm (tm 2)⟩,⟨some 13,some (10,true),qb .leq (tm 11) (tm 12)⟩,xo 14 (.i (.pick (tm 10) (tm 13) (cb false))),xo 6 (qm (tm 14))])
 .ret))
def Ac9:List Res:=[.tmp 6]
theorem Adq:Aw Tryd.prog Tryd.f60=some (S5,Ac9):=by kernel_rfl
theorem D0:A6 Tryd.prog 60=true:=by kernel_rfl
def Dw (a0:Int) (a1:Int) (a2:Int):Option Bool :=
 Option.bind (cond (decide (a1<=a0))
  (some (decide (a0<=a2)))
  (some false)) fun l2_m6 =>
some l2_m6
def Aaf (r:Bool):RV:=⟨false,[(false,[.sc (.bool r)])]⟩
theorem B3 {a0:Int} {a1:Int} {a2:Int} {r:Bool} (h:Dw a0 a1 a2=some r):Bm Tryd.prog Tab 60 [ai a0,ai a1,ai a2] (Aaf r):=by
 refine Ba (by kernel_rfl) Tryd.func60 Adq (n:=15) (by kernel_rfl) (by simp) (tl:=[(0,ai a0),(1,ai a1),(2,ai a2)]) rfl ?_;unfold S5;unfold Dw at h;refine An ?_;refine As h (fun (l2_m6:Bool) S_=>S_=⟨Ap [(6,.bool l2_m6)],Aj (Ar []),2⟩) ?_ ?_
 ·intro v_ h;rcases Ae h with ⟨q3,h⟩ | ⟨q3,h⟩
  ·have q3_:=of_decide_eq_true q3;refine Aa 11 ?_;refine rz0 (ai a0) ?_;refine rz0 (ai a1) ?_;refine rz0 (.bool (decide (a1<=a0))) ?_;refine rz0 (.bool (decide (a1<=a0))) ?_;refine rs0 (ai a0) (zg q3) ?_;refine rs0 (ai a2) (zg q3) ?_;refine rs0 (.bool (decide (a0<=a2))) (zg q3) ?_;refine rs0 (.bool (decide (a0<=a2))) (zT q3) ?_;refine rsB 1 ?_;refine Aq (tn_ ?_);obtain rfl:=zj h;exact ⟨_,Ac [],rfl⟩
  have q3_:=of_decide_eq_false q3;refine Aa 11 ?_;refine rz0 (ai a0) ?_;refine rz0 (ai a1) ?_;refine rz0 (.bool (decide (a1<=a0))) ?_;refine rz0 (.bool (decide (a1<=a0))) ?_;refine zs q3 ?_;refine zs q3 ?_;refine zs q3 ?_;refine rs0 (.bool false) (zF q3) ?_;refine rsB 1 ?_;refine Aq (tn_ ?_);obtain rfl:=zj h;exact ⟨_,Ac [],rfl⟩
 rintro l2_m6 _ rfl h
 (try dsimp only at h);refine Ao ?_;obtain rfl:=zj h;exact Br [.bool l2_m6] (A8 rfl zl Bc)
def Mw:AC :=
 (.seq (rg [xo 10 (qb .lss (tm 9) (tm 8))])
 (.seq (.cond (tm 10)
  .skip
  (.exit 0))
 (.seq (.block 1 (.seq (rg [xo 11 (qx 1 (tm 7) (tm 9)),xo 12 (ql (tm 11)),xo 6 (qm (tm 12))])
 (.seq (rg [xo 13 (qm (tm 6)),xo 14 (qm (tm 1)),xo 15 (qb .sub (tm 14) (ci 1)),xo 16 (qc 60 [tm 13,ci 0,tm 15] [[],[],[]]),xo 17 (.i (.not (tm 16)))])
 (.cond (tm 17)
  (.seq (rg [xo 4 (qm (cb false))])
  .ret)
  .skip))))
 (rg [xo 18 (qb .add (tm 9) (ci 1)),xo 9 (qm (tm 18))]))))
def Qp:AC :=
 (.seq (rg [xo 4 (qm (cb false))])
 (.seq (.seq (rg [xo 7 (qm (tm 0)),xo 8 (.i (.len (tm 7))),xo 9 (qm (ci 0))])
 (.block 0 (.loop Mw)))
 (.seq (rg [xo 4 (qm (cb true))])
 .ret)))
def Y6:List Res:=[.tmp 4]
theorem Yx:Aw Tryd.prog Tryd.f61=some (Qp,Y6):=by kernel_rfl
theorem Xc:A6 Tryd.prog 61=true:=by kernel_rfl
def Gr (a0:List Int) (a1:Int) (l4_m9:Nat):Option (Ctl Nat (Ctl Unit Bool)) :=
 cond (decide (((l4_m9:Nat):Int)<((a0.length:Nat):Int)))
 (Option.bind (a0[l4_m9]?) fun x10 =>
 Option.bind (Dw x10 0 (wI (a1 - 1))) fun y12 =>
 cond (!y12)
  (some (Ctl.out (Ctl.out false)))
  (og (l4_m9+1<4611686018427387904) <|
  some (Ctl.next (l4_m9+1))))
 (some (Ctl.out (Ctl.next ())))
def E9 (a0:List Int) (a1:Int):Option Bool :=
 Ud (Av (fun s_:Nat=>Gr a0 a1 s_) 4611686018427387904 0) fun _ =>
some true
def W6 (r:Bool):RV:=⟨false,[(false,[.sc (.bool r)])]⟩
theorem Ko {a0:List Int} {a1:Int} {r:Bool} (h:E9 a0 a1=some r):Bm Tryd.prog Tab 61 [.tree .int a0,ai a1] (W6 r):=by
 refine Ba (by kernel_rfl) Tryd.func61 Yx (n:=19) (by kernel_rfl) (by simp) (tl:=[(0,.tree .int a0),(1,ai a1)]) rfl ?_;unfold Qp;unfold E9 at h;refine An ?_;refine G8 h (fun (_:Unit) S_=>S_=⟨Ap [],Aj (Ar []),2⟩) ?_ ?_
 ·intro v_ h hk2;refine An ?_;refine Af ?_;refine Ax h (fun (l4_m9:Nat) S_=>S_=⟨Ap [(1,ai a1),(7,.tree .int a0),(8,ai ((a0.length:Nat):Int)),(9,ai ((l4_m9:Nat):Int))],Aj (Ar []),2⟩) ⟨_,Ac [],rfl⟩ ?_;rintro n_ l4_m9 _ c_ rfl h hn4
  (try dsimp only at h);unfold Gr at h;unfold Mw;refine An ?_;refine Ab ?_;rcases Ae h with ⟨q7,h⟩ | ⟨q7,h⟩
  ·have q7_:=of_decide_eq_true q7;refine Ah q7 ?_;refine Ai (tn_ ?_);refine wr_ ?_;refine Ab ?_;refine Af ?_;refine Ab ?_;obtain ⟨x10,e10,h⟩:=Ad h;refine Aa 6 ?_;refine rs0 (.telt .int x10 0) (zi (t:=.int) (xs:=a0) (k:=.i64) (m:=((l4_m9:Nat):Int)) (At _) e10) ?_;refine rsB 2 ?_;refine Aq (tn_ ?_);refine wr_ ?_;refine Ab ?_;obtain ⟨y12,h12,h⟩:=Ad h;refine Aa 11 ?_;refine rz0 (ai x10) ?_;refine rz0 (ai a1) ?_;refine rz0 (ai (wI (a1 - 1))) ?_;refine zc (.bool y12) [] [ai x10,ai 0,ai (wI (a1 - 1))] (B3 h12) ?_;refine rsB 1 ?_;refine Aq (tn_ ?_);refine wr_ ?_;rcases Ae h with ⟨q13,h⟩ | ⟨q13,h⟩
   ·refine Ah q13 ?_;refine An ?_;refine Ao (br_ (tr_ (tr_ (br_ (tr_ ?_)))));obtain rfl:=zj h;have h:=hn4
    (try dsimp only at h);obtain rfl:=zj h;have h:=hk2
    (try dsimp only at h);obtain rfl:=zj h;exact Br [.bool false] (A8 rfl zl Bc)
   refine Ag q13 ?_;refine Ai (bn_ (tn_ ?_));refine wr_ ?_;obtain ⟨g15,h⟩:=Am h;refine Aa 13 ?_;refine rs0 (ai ((l4_m9+1:Nat):Int)) (za g15) ?_;refine rsB 1 ?_;refine Aq (tn_ ?_);obtain rfl:=zj h;exact ⟨l4_m9+1,_,Ac [],rfl,hn4⟩
  have q7_:=of_decide_eq_false q7;refine Ag q7 ?_;refine Au (te_ (te_ (be_ (tn_ ?_))));obtain rfl:=zj h;have h:=hn4
  (try dsimp only at h);obtain rfl:=zj h;exact ⟨(),_,rfl,Ac [],rfl⟩
 rintro _ _ rfl h
 (try dsimp only at h);refine An ?_;refine Ao ?_;obtain rfl:=zj h;exact Br [.bool true] (A8 rfl zl Bc)
def O2:AC :=
 (.seq (rg [xo 4 (qm (cb false))])
 (.seq (rg [xo 5 (qm (tm 1)),xo 6 (qb .geq (tm 5) (ci 0)),xo 7 (qm (tm 6)),⟨some 8,some (7,true),qm (tm 1)⟩,⟨some 9,some (7,true),qm (tm 0)⟩,⟨some 10,some (7,true),qb .lss (tm 8) (tm 9)⟩,xo 11 (.i (.pick (tm 7) (tm 10) (cb false))),xo 4 (qm (tm 11))])
 .ret))
def W5:List Res:=[.tmp 4]
theorem Xl:Aw Tryd.prog Tryd.f81=some (O2,W5):=by kernel_rfl
def Gc (a0:Int) (a1:Int):Option Bool :=
 Option.bind (cond (decide (0<=a1))
  (some (decide (a1<a0)))
  (some false)) fun l2_m4 =>
some l2_m4
def Vm (r:Bool):RV:=⟨false,[(false,[.sc (.bool r)])]⟩
theorem Vd {a0:Int} {a1:Int} {r:Bool} (h:Gc a0 a1=some r):Bm Tryd.prog Tab 81 [ai a0,ai a1] (Vm r):=by
 refine Ba (by kernel_rfl) Tryd.func81 Xl (n:=12) (by kernel_rfl) (by simp) (tl:=[(0,ai a0),(1,ai a1)]) rfl ?_;unfold O2;unfold Gc at h;refine An ?_;refine As h (fun (l2_m4:Bool) S_=>S_=⟨Ap [(4,.bool l2_m4)],Aj (Ar []),2⟩) ?_ ?_
 ·intro v_ h;rcases Ae h with ⟨q3,h⟩ | ⟨q3,h⟩
  ·have q3_:=of_decide_eq_true q3;refine Aa 10 ?_;refine rz0 (ai a1) ?_;refine rz0 (.bool (decide (0<=a1))) ?_;refine rz0 (.bool (decide (0<=a1))) ?_;refine rs0 (ai a1) (zg q3) ?_;refine rs0 (ai a0) (zg q3) ?_;refine rs0 (.bool (decide (a1<a0))) (zg q3) ?_;refine rs0 (.bool (decide (a1<a0))) (zT q3) ?_;refine rsB 1 ?_;refine Aq (tn_ ?_);obtain rfl:=zj h;exact ⟨_,Ac [],rfl⟩
  have q3_:=of_decide_eq_false q3;refine Aa 10 ?_;refine rz0 (ai a1) ?_;refine rz0 (.bool (decide (0<=a1))) ?_;refine rz0 (.bool (decide (0<=a1))) ?_;refine zs q3 ?_;refine zs q3 ?_;refine zs q3 ?_;refine rs0 (.bool false) (zF q3) ?_;refine rsB 1 ?_;refine Aq (tn_ ?_);obtain rfl:=zj h;exact ⟨_,Ac [],rfl⟩
 rintro l2_m4 _ rfl h
 (try dsimp only at h);refine Ao ?_;obtain rfl:=zj h;exact Br [.bool l2_m4] (A8 rfl zl Bc)
def L0:AC :=
 (.seq (rg [xo 16 (qb .lss (tm 15) (tm 14))])
 (.seq (.cond (tm 16)
  .skip
  (.exit 0))
 (.seq (.block 1 (.seq (rg [xo 17 (qx 1 (tm 13) (tm 15)),xo 18 (ql (tm 17)),xo 8 (qm (tm 18))])
 (.seq (rg [xo 19 (qm (tm 0)),xo 20 (qm (tm 8)),xo 21 (qc 81 [tm 19,tm 20] [[],[]]),xo 22 (.i (.not (tm 21)))])
 (.cond (tm 22)
  (.seq (rg [xo 6 (qm (cb false))])
  .ret)
  .skip))))
 (rg [xo 23 (qb .add (tm 15) (ci 1)),xo 15 (qm (tm 23))]))))
def Q0:AC :=
 (.seq (rg [xo 6 (qm (cb false))])
 (.seq (.seq (rg [xo 9 (qm (tm 1)),xo 10 (.i (.len (tm 9))),xo 11 (qm (tm 2)),xo 12 (qb .neq (tm 10) (tm 11))])
 (.cond (tm 12)
  (.seq (rg [xo 6 (qm (cb false))])
  .ret)
  .skip))
 (.seq (.seq (rg [xo 13 (qm (tm 1)),xo 14 (.i (.len (tm 13))),xo 15 (qm (ci 0))])
 (.block 0 (.loop L0)))
 (.seq (rg [xo 6 (qm (cb true))])
 .ret))))
def Y3:List Res:=[.tmp 6]
theorem Y5:Aw Tryd.prog Tryd.f48=some (Q0,Y3):=by kernel_rfl
theorem Kj:A6 Tryd.prog 48=true:=by kernel_rfl
def Gm (a1:List Int) (a0:Int) (l8_m15:Nat):Option (Ctl Nat (Ctl Unit Bool)) :=
 cond (decide (((l8_m15:Nat):Int)<((a1.length:Nat):Int)))
 (Option.bind (a1[l8_m15]?) fun x14 =>
 Option.bind (Gc a0 x14) fun y16 =>
 cond (!y16)
  (some (Ctl.out (Ctl.out false)))
  (og (l8_m15+1<4611686018427387904) <|
  some (Ctl.next (l8_m15+1))))
 (some (Ctl.out (Ctl.next ())))
def Fa (a0:Int) (a1:List Int) (a2:Int):Option Bool :=
 cond (((a1.length:Nat):Int) !=a2)
 (some false)
 (Ud (Av (fun s_:Nat=>Gm a1 a0 s_) 4611686018427387904 0) fun _ =>
 some true)
def Xd (r:Bool):RV:=⟨false,[(false,[.sc (.bool r)])]⟩
theorem Ke {a0:Int} {a1:List Int} {a2:Int} {r:Bool} (h:Fa a0 a1 a2=some r):Bm Tryd.prog Tab 48 [ai a0,.tree .int a1,ai a2] (Xd r):=by
 refine Ba (by kernel_rfl) Tryd.func48 Y5 (n:=24) (by kernel_rfl) (by simp) (tl:=[(0,ai a0),(1,.tree .int a1),(2,ai a2)]) rfl ?_;unfold Q0;unfold Fa at h;refine An ?_;refine Ab ?_;refine An ?_;rcases Ae h with ⟨q4,h⟩ | ⟨q4,h⟩
 ·refine Ah q4 ?_;refine An ?_;refine Ao (tr_ ?_);obtain rfl:=zj h;exact Br [.bool false] (A8 rfl zl Bc)
 refine Ag q4 ?_;refine Ai (tn_ ?_);refine wr_ ?_;refine G8 h (fun (_:Unit) S_=>S_=⟨Ap [],Aj (Ar []),2⟩) ?_ ?_
 ·intro v_ h hk6;refine An ?_;refine Af ?_;refine Ax h (fun (l8_m15:Nat) S_=>S_=⟨Ap [(0,ai a0),(13,.tree .int a1),(14,ai ((a1.length:Nat):Int)),(15,ai ((l8_m15:Nat):Int))],Aj (Ar []),2⟩) ⟨_,Ac [],rfl⟩ ?_;rintro n_ l8_m15 _ c_ rfl h hn8
  (try dsimp only at h);unfold Gm at h;unfold L0;refine An ?_;refine Ab ?_;rcases Ae h with ⟨q11,h⟩ | ⟨q11,h⟩
  ·have q11_:=of_decide_eq_true q11;refine Ah q11 ?_;refine Ai (tn_ ?_);refine wr_ ?_;refine Ab ?_;refine Af ?_;refine Ab ?_;obtain ⟨x14,e14,h⟩:=Ad h;refine Aa 6 ?_;refine rs0 (.telt .int x14 0) (zi (t:=.int) (xs:=a1) (k:=.i64) (m:=((l8_m15:Nat):Int)) (At _) e14) ?_;refine rsB 2 ?_;refine Aq (tn_ ?_);refine wr_ ?_;refine Ab ?_;obtain ⟨y16,h16,h⟩:=Ad h;refine Aa 10 ?_;refine rz0 (ai a0) ?_;refine rz0 (ai x14) ?_;refine zc (.bool y16) [] [ai a0,ai x14] (Vd h16) ?_;refine rsB 1 ?_;refine Aq (tn_ ?_);refine wr_ ?_;rcases Ae h with ⟨q17,h⟩ | ⟨q17,h⟩
   ·refine Ah q17 ?_;refine An ?_;refine Ao (br_ (tr_ (tr_ (br_ (tr_ ?_)))));obtain rfl:=zj h;have h:=hn8
    (try dsimp only at h);obtain rfl:=zj h;have h:=hk6
    (try dsimp only at h);obtain rfl:=zj h;exact Br [.bool false] (A8 rfl zl Bc)
   refine Ag q17 ?_;refine Ai (bn_ (tn_ ?_));refine wr_ ?_;obtain ⟨g19,h⟩:=Am h;refine Aa 12 ?_;refine rs0 (ai ((l8_m15+1:Nat):Int)) (za g19) ?_;refine rsB 1 ?_;refine Aq (tn_ ?_);obtain rfl:=zj h;exact ⟨l8_m15+1,_,Ac [],rfl,hn8⟩
  have q11_:=of_decide_eq_false q11;refine Ag q11 ?_;refine Au (te_ (te_ (be_ (tn_ ?_))));obtain rfl:=zj h;have h:=hn8
  (try dsimp only at h);obtain rfl:=zj h;exact ⟨(),_,rfl,Ac [],rfl⟩
 rintro _ _ rfl h
 (try dsimp only at h);refine An ?_;refine Ao ?_;obtain rfl:=zj h;exact Br [.bool true] (A8 rfl zl Bc)
def V8:AC :=
 (.seq (rg [xo 2 (qm (.cst .nils))])
 (.seq (rg [xo 3 (qm (tm 0)),xo 4 (.make 3 .int 8 (tm 3) (tm 3)),xo 2 (qm (tm 4))])
 .ret))
def Ae8:List Res:=[.tmp 2]
theorem Af8:Aw Tryd.prog Tryd.f69=some (V8,Ae8):=by kernel_rfl
def Fg (a0:Int):Option (List Int) :=
 og (0<=a0∧a0<=a0∧a0<=1073741824∧(8:Int)*a0<=140737488355328) <|
some (List.replicate a0.toNat (0:Int))
def Acl (r:List Int):RV:=⟨false,[(false,[.new 3 .int r])]⟩
theorem Ku {a0:Int} {r:List Int} (h:Fg a0=some r):Bm Tryd.prog Tab 69 [ai a0] (Acl r):=by
 refine Ba (by kernel_rfl) Tryd.func69 Af8 (n:=5) (by kernel_rfl) (by simp) (tl:=[(0,ai a0)]) rfl ?_;unfold V8;unfold Fg at h;refine An ?_;refine Ab ?_;obtain ⟨g3,h⟩:=Am h;refine Aa 5 ?_;refine rz0 (ai a0) ?_;refine rs1 (.own (oi 4 3) .int 0 a0.toNat) (oi 4 3) (.arr 3 .int (List.replicate a0.toNat (0:Int))) (R1 (t:=.int) (k:=.i64) (k':=.i64) (m:=a0) (m':=a0) (by kernel_rfl) (by kernel_rfl) g3 rfl) ?_;refine rsB 1 ?_;refine Aq (tn_ ?_);refine wr_ ?_;refine Ao ?_;obtain rfl:=zj h;exact Br [.own (oi 4 3) .int 0 a0.toNat] (A8 rfl (Kb (by kernel_rfl) List.length_replicate.symm) Bc)
def Abs:AC :=
 (.seq (rg [xo 4 (qm (ci 0))])
 (.seq (rg [xo 5 (qm (tm 1)),xo 6 (qm (tm 0)),xo 7 (qb .rem (tm 5) (tm 6)),xo 1 (qm (tm 7))])
 (.seq (.seq (rg [xo 8 (qm (tm 1)),xo 9 (qb .lss (tm 8) (ci 0))])
 (.cond (tm 9)
  (rg [xo 10 (qm (tm 1)),xo 11 (qm (tm 0)),xo 12 (qb .add (tm 10) (tm 11)),xo 1 (qm (tm 12))])
  .skip))
 (.seq (rg [xo 13 (qm (tm 1)),xo 4 (qm (tm 13))])
 .ret))))
def Alg:List Res:=[.tmp 4]
theorem Ak3:Aw Tryd.prog Tryd.f50=some (Abs,Alg):=by kernel_rfl
theorem K7:A6 Tryd.prog 50=true:=by kernel_rfl
def E3 (a0:Int) (a1:Int):Option Int :=
 og (a0≠0) <|
Option.bind (cond (decide (Int.tmod a1 a0<0))
  (some (wI (Int.tmod a1 a0+a0)))
  (some (Int.tmod a1 a0))) fun l4_m1 =>
some l4_m1
def Aig (r:Int):RV:=⟨false,[(false,[.sc (.int .i64 r)])]⟩
theorem Hw {a0:Int} {a1:Int} {r:Int} (h:E3 a0 a1=some r):Bm Tryd.prog Tab 50 [ai a0,ai a1] (Aig r):=by
 refine Ba (by kernel_rfl) Tryd.func50 Ak3 (n:=14) (by kernel_rfl) (by simp) (tl:=[(0,ai a0),(1,ai a1)]) rfl ?_;unfold Abs;unfold E3 at h;refine An ?_;refine Ab ?_;obtain ⟨g3,h⟩:=Am h;refine Aa 6 ?_;refine rz0 (ai a1) ?_;refine rz0 (ai a0) ?_;refine rs0 (ai (Int.tmod a1 a0)) (On (k:=.i64) (a:=a1) (b:=a0) (by kernel_rfl) (by kernel_rfl) g3) ?_;refine rsB 1 ?_;refine Aq (tn_ ?_);refine wr_ ?_;refine As h (fun (l4_m1:Int) S_=>S_=⟨Ap [(1,ai l4_m1)],Aj (Ar []),2⟩) ?_ ?_
 ·intro v_ h;refine An ?_;rcases Ae h with ⟨q6,h⟩ | ⟨q6,h⟩
  ·have q6_:=of_decide_eq_true q6;refine Ah q6 ?_;refine Aa 12 ?_;refine rsB 4 ?_;refine Aq (tn_ ?_);obtain rfl:=zj h;exact ⟨_,Ac [],rfl⟩
  have q6_:=of_decide_eq_false q6;refine Ag q6 ?_;refine Ai (tn_ ?_);obtain rfl:=zj h;exact ⟨_,Ac [],rfl⟩
 rintro l4_m1 _ rfl h
 (try dsimp only at h);refine An ?_;refine Ao ?_;obtain rfl:=zj h;exact Br [ai l4_m1] (A8 rfl zl Bc)
def Vy:AC :=
 (.seq (rg [xo 2 (qm (.cst .nils))])
 (.seq (rg [xo 3 (.mkS 3 .int []),xo 4 (qm (tm 0)),xo 5 (.append 3 .int 8 (tm 3) (tm 4)),xo 2 (qm (tm 5))])
 .ret))
def Afi:List Res:=[.tmp 2]
theorem Afj:Aw Tryd.prog Tryd.f49=some (Vy,Afi):=by kernel_rfl
theorem Acp:A6 Tryd.prog 49=true:=by kernel_rfl
def Ie (a0:List Int):Option (List Int) :=
 og (0+a0.length<=1073741824∧(0+a0.length)*8<=140737488355328) <|
some a0
def Adn (r:List Int):RV:=⟨false,[(false,[.new 3 .int r])]⟩
theorem Tk {a0:List Int} {r:List Int} (h:Ie a0=some r):Bm Tryd.prog Tab 49 [.tree .int a0] (Adn r):=by
 refine Ba (by kernel_rfl) Tryd.func49 Afj (n:=6) (by kernel_rfl) (by simp) (tl:=[(0,.tree .int a0)]) rfl ?_;unfold Vy;unfold Ie at h;refine An ?_;refine Ab ?_;obtain ⟨g3,h⟩:=Am h;refine Aa 6 ?_;refine rs1 (.own (oi 3 2) .int 0 0) (oi 3 2) (.arr 3 .int []) (by kernel_rfl) ?_;refine rz0 (.tree .int a0) ?_;refine rs2 (.own (oi 3 4) .int 0 a0.length) (oi 3 2) (oi 3 4) (.arr 3 .int a0) (It (t:=.int) (t':=.int) (xs:=[]) (ys:=a0) (zs:=a0) (j:=oi 3 2) (len:=0) (c:=.tree .int a0) (by kernel_rfl) (by kernel_rfl) rfl (by kernel_rfl) Ln rfl g3) ?_;refine rsB 1 ?_;refine Aq (tn_ ?_);refine wr_ ?_;refine Ao ?_;obtain rfl:=zj h;exact Br [.own (oi 3 4) .int 0 a0.length] (A8 rfl (Kb (by kernel_rfl) rfl) Bc)
def Pe:AC :=
 (.seq (rg [xo 11 (qb .lss (tm 10) (tm 9))])
 (.seq (.cond (tm 11)
  .skip
  (.exit 0))
 (.seq (.block 1 (.seq (rg [xo 12 (qx 1 (tm 8) (tm 10)),xo 13 (ql (tm 12)),xo 7 (qm (tm 13))])
 (rg [xo 14 (qm (tm 5)),xo 15 (qm (tm 1)),xo 16 (qm (tm 7)),xo 17 (qx 1 (tm 15) (tm 16)),xo 18 (ql (tm 17)),xo 19 (.mkS 3 .int [tm 18]),xo 20 (.append 3 .int 8 (tm 14) (tm 19)),xo 5 (qm (tm 20))])))
 (rg [xo 21 (qb .add (tm 10) (ci 1)),xo 10 (qm (tm 21))]))))
def S7:AC :=
 (.seq (rg [xo 4 (qm (.cst .nils))])
 (.seq (rg [xo 5 (qm (.cst .nils))])
 (.seq (.seq (rg [xo 8 (qm (tm 0)),xo 9 (.i (.len (tm 8))),xo 10 (qm (ci 0))])
 (.block 0 (.loop Pe)))
 (.seq (rg [xo 22 (qm (tm 5)),xo 4 (qm (tm 22))])
 .ret))))
def Ado:List Res:=[.tmp 4]
theorem Acn:Aw Tryd.prog Tryd.f74=some (S7,Ado):=by kernel_rfl
def Ei (a0:List Int) (a1:List Int) (l5_m10:Nat) (l5_m5:List Int):Option (Ctl (Nat×List Int) (List Int)) :=
 cond (decide (((l5_m10:Nat):Int)<((a0.length:Nat):Int)))
 (Option.bind (a0[l5_m10]?) fun x11 =>
 Option.bind (Ex a1 x11) fun x12 =>
 og (l5_m5.length+1<=1073741824∧(l5_m5.length+1)*8<=140737488355328) <|
 og (l5_m10+1<4611686018427387904) <|
 some (Ctl.next (l5_m10+1,l5_m5++([x12]))))
 (some (Ctl.out l5_m5))
def Hf (a0:List Int) (a1:List Int):Option (List Int) :=
 Option.bind (Av (fun s_:Nat×List Int=>Ei a0 a1 s_.1 s_.2) 4611686018427387904 (0,[])) fun l3_m5 =>
some l3_m5
def Aai (r:List Int):RV:=⟨false,[(false,[.new 3 .int r])]⟩
theorem Rz {a0:List Int} {a1:List Int} {r:List Int} (h:Hf a0 a1=some r):Bm Tryd.prog Tab 74 [.tree .int a0,.tree .int a1] (Aai r):=by
 refine Ba (by kernel_rfl) Tryd.func74 Acn (n:=23) (by kernel_rfl) (by simp) (tl:=[(0,.tree .int a0),(1,.tree .int a1)]) rfl ?_;unfold S7;unfold Hf at h;refine An ?_;refine An ?_;refine As h (fun (l3_m5:List Int) S_=>S_=⟨Ap [(5,.own (oi 0 1) .int 0 l3_m5.length)],Aj (Ar [(oi 0 1,.arr 3 .int l3_m5)]),2⟩) ?_ ?_
 ·intro v_ h;refine An ?_;refine Af ?_;refine Ax h (fun t_ S_=>∃ (l5_m10:Nat),∃ (l5_m5:List Int),t_=(l5_m10,l5_m5)∧S_=⟨Ap [(1,.tree .int a1),(5,.own (oi 0 1) .int 0 l5_m5.length),(8,.tree .int a0),(9,ai ((a0.length:Nat):Int)),(10,ai ((l5_m10:Nat):Int))],Aj (Ar [(oi 0 1,.arr 3 .int l5_m5)]),2⟩) ⟨_,(Am0 5 3 .int rfl (by kernel_rfl)).trans (Ac [(oi 0 1,oi 5 6)]),⟨0,[],rfl,rfl⟩⟩ ?_;rintro n_ _ _ c_ ⟨l5_m10,l5_m5,rfl,rfl⟩ h hn5
  (try dsimp only at h);unfold Ei at h;unfold Pe;refine An ?_;refine Ab ?_;rcases Ae h with ⟨q8,h⟩ | ⟨q8,h⟩
  ·have q8_:=of_decide_eq_true q8;refine Ah q8 ?_;refine Ai (tn_ ?_);refine wr_ ?_;refine Ab ?_;refine Af ?_;refine Ab ?_;obtain ⟨x11,e11,h⟩:=Ad h;refine Aa 6 ?_;refine rs0 (.telt .int x11 0) (zi (t:=.int) (xs:=a0) (k:=.i64) (m:=((l5_m10:Nat):Int)) (At _) e11) ?_;refine rsB 2 ?_;refine Aq (tn_ ?_);refine wr_ ?_;obtain ⟨x12,f12,h⟩:=Ad h;obtain ⟨p12,b12,e12⟩:=Bi f12;obtain ⟨g13,h⟩:=Am h;refine Aa 14 ?_;refine rz0 (.own (oi 0 1) .int 0 l5_m5.length) ?_;refine rz0 (.tree .int a1) ?_;refine rz0 (ai x11) ?_;refine rs0 (.telt .int x12 0) (zi (t:=.int) (xs:=a1) (k:=.i64) (m:=x11) p12 e12) ?_;refine rz0 (ai x12) ?_;refine rs1 (.own (oi 19 11) .int 0 1) (oi 19 11) (.arr 3 .int ([x12])) (by kernel_rfl) ?_;refine rs2 (.own (oi 0 12) .int 0 ((l5_m5++([x12])).length)) (oi 0 1) (oi 0 12) (.arr 3 .int (l5_m5++([x12]))) (It (t:=.int) (t':=.int) (xs:=l5_m5) (ys:=[x12]) (zs:=l5_m5++([x12])) (j:=oi 0 1) (len:=l5_m5.length) (c:=.own (oi 19 11) .int 0 1) (by kernel_rfl) (by kernel_rfl) rfl (by kernel_rfl) (Me (e:=3) (by kernel_rfl) rfl) rfl g13) ?_;refine rsB 1 ?_;refine Aq (bn_ (tn_ ?_));refine wr_ ?_;obtain ⟨g14,h⟩:=Am h;refine Aa 16 ?_;refine rs0 (ai ((l5_m10+1:Nat):Int)) (za g14) ?_;refine rsB 1 ?_;refine Aq (tn_ ?_);obtain rfl:=zj h;exact ⟨(l5_m10+1,l5_m5++([x12])),_,Ac [(oi 0 1,oi 0 12)],⟨l5_m10+1,l5_m5++([x12]),rfl,rfl⟩,hn5⟩
  have q8_:=of_decide_eq_false q8;refine Ag q8 ?_;refine Au (te_ (te_ (be_ (tn_ ?_))));obtain rfl:=zj h;have h:=hn5
  (try dsimp only at h);obtain rfl:=zj h;exact ⟨_,Ac [],rfl⟩
 rintro l3_m5 _ rfl h
 (try dsimp only at h);refine An ?_;refine Ao ?_;obtain rfl:=zj h;exact Br [.own (oi 0 1) .int 0 l3_m5.length] (A8 rfl (Kb (by kernel_rfl) rfl) Bc)
end
section
open Go.RowKit Go.Deep
set_option maxRecDepth 4000
def Ph:AC :=
 (.seq (rg [xo 4 (qm (ci 0))])
 (.seq (rg [xo 5 (qm (tm 1)),xo 6 (qm (tm 0)),xo 7 (.i (.len (tm 6))),xo 8 (qb .sub (tm 5) (tm 7)),xo 1 (qm (tm 8))])
 (.seq (.seq (rg [xo 9 (qm (tm 1)),xo 10 (qb .lss (tm 9) (ci 0))])
 (.cond (tm 10)
  (.seq (rg [xo 4 (qm (ci (-1)))])
  .ret)
  .skip))
 (.seq (rg [xo 11 (qm (tm 1)),xo 4 (qm (tm 11))])
 .ret))))
def Xp:List Res:=[.tmp 4]
theorem X0:Aw Tryd.prog Tryd.f20=some (Ph,Xp):=by kernel_rfl
def Gh (a0:List (Int×Int×Int)) (a1:Int):Option Int :=
 cond (decide (wI (a1 - ((a0.length:Nat):Int))<0))
 (some (-1))
 (some (wI (a1 - ((a0.length:Nat):Int))))
def U8 (r:Int):RV:=⟨false,[(false,[.sc (.int .i64 r)])]⟩
theorem Vo {a0:List (Int×Int×Int)} {a1:Int} {r:Int} (h:Gh a0 a1=some r):Bm Tryd.prog Tab 20 [.tree (.pair .int (.pair .int .int)) a0,ai a1] (U8 r):=by
 refine Ba (by kernel_rfl) Tryd.func20 X0 (n:=12) (by kernel_rfl) (by simp) (tl:=[(0,.tree (.pair .int (.pair .int .int)) a0),(1,ai a1)]) rfl ?_;unfold Ph;unfold Gh at h;refine An ?_;refine An ?_;refine Ab ?_;refine An ?_;rcases Ae h with ⟨q5,h⟩ | ⟨q5,h⟩
 ·have q5_:=of_decide_eq_true q5;refine Ah q5 ?_;refine An ?_;refine Ao (tr_ ?_);obtain rfl:=zj h;exact Br [ai (-1)] (A8 rfl zl Bc)
 have q5_:=of_decide_eq_false q5;refine Ag q5 ?_;refine Ai (tn_ ?_);refine wr_ ?_;refine An ?_;refine Ao ?_;obtain rfl:=zj h;exact Br [ai (wI (a1 - ((a0.length:Nat):Int)))] (A8 rfl zl Bc)
def O5:AC :=
 (.seq (rg [xo 2 (.i (.box 25 (tm 0))),xo 4 (qm (ci 0))])
 (.seq (rg [xo 5 (qf 1 (tm 2)),xo 6 (ql (tm 5)),xo 7 (qm (tm 1)),⟨some 8,none,qc 20 [tm 6,tm 7] [[some (.pair .int (.pair .int .int))],[]]⟩,xo 1 (qm (tm 8))])
 (.seq (.seq (rg [xo 9 (qm (tm 1)),xo 10 (qb .lss (tm 9) (ci 0))])
 (.cond (tm 10)
  (.seq (rg [xo 4 (qm (ci (-1)))])
  .ret)
  .skip))
 (.seq (rg [xo 11 (qf 2 (tm 2)),xo 12 (ql (tm 11)),xo 13 (qm (tm 1)),xo 14 (qc 21 [tm 12,tm 13] [[some .int],[]]),xo 1 (qm (tm 14))])
 (.seq (.seq (rg [xo 15 (qm (tm 1)),xo 16 (qb .lss (tm 15) (ci 0))])
 (.cond (tm 16)
  (.seq (rg [xo 4 (qm (ci (-1)))])
  .ret)
  .skip))
 (.seq (rg [xo 17 (qf 3 (tm 2)),xo 18 (ql (tm 17)),xo 19 (qm (tm 1)),xo 20 (qc 21 [tm 18,tm 19] [[some .int],[]]),xo 1 (qm (tm 20))])
 (.seq (.seq (rg [xo 21 (qm (tm 1)),xo 22 (qb .lss (tm 21) (ci 0))])
 (.cond (tm 22)
  (.seq (rg [xo 4 (qm (ci (-1)))])
  .ret)
  .skip))
 (.seq (rg [xo 23 (qm (tm 1)),xo 4 (qm (tm 23))])
 .ret))))))))
def Xy:List Res:=[.tmp 4]
theorem Wt:Aw Tryd.prog Tryd.f5=some (O5,Xy):=by kernel_rfl
def Gb (a0_0:Int) (a0_1:List (Int×Int×Int)) (a0_2:List Int) (a0_3:List Int) (a1:Int):Option Int :=
 Option.bind (Gh a0_1 a1) fun y3 =>
cond (decide (y3<0))
 (some (-1))
 (Option.bind (Hg a0_2 y3) fun y9 =>
 cond (decide (y9<0))
  (some (-1))
  (Option.bind (Hg a0_3 y9) fun y15 =>
  cond (decide (y15<0))
   (some (-1))
   (some y15)))
def U1 (r:Int):RV:=⟨false,[(false,[.sc (.int .i64 r)])]⟩
theorem Vq {a0_0:Int} {a0_1:List (Int×Int×Int)} {a0_2:List Int} {a0_3:List Int} {a1:Int} {r:Int} (h:Gb a0_0 a0_1 a0_2 a0_3 a1=some r):Bm Tryd.prog Tab 5 [.agg [ai a0_0,.tree (.pair .int (.pair .int .int)) a0_1,.tree .int a0_2,.tree .int a0_3],ai a1] (U1 r):=by
 refine Ba (by kernel_rfl) Tryd.func5 Wt (n:=24) (by kernel_rfl) (by simp) (tl:=[(0,.agg [ai a0_0,.tree (.pair .int (.pair .int .int)) a0_1,.tree .int a0_2,.tree .int a0_3]),(1,ai a1)]) rfl ?_;unfold O5;unfold Gb at h;refine An ?_;refine Ab ?_;obtain ⟨y3,h3,h⟩:=Ad h;refine Aa 8 ?_;refine rz0 (.box (oi 2 1) 1) ?_;refine rzl (.tree (.pair .int (.pair .int .int)) a0_1) ?_;refine rz0 (ai a1) ?_;refine zc (ai y3) [] [.tree (.pair .int (.pair .int .int)) a0_1,ai a1] (Vo h3) ?_;refine rsB 1 ?_;refine Aq (tn_ ?_);refine wr_ ?_;refine Ab ?_;refine An ?_;rcases Ae h with ⟨q6,h⟩ | ⟨q6,h⟩
 ·have q6_:=of_decide_eq_true q6;refine Ah q6 ?_;refine An ?_;refine Ao (tr_ ?_);obtain rfl:=zj h;exact Br [ai (-1)] (A8 rfl zl Bc)
 have q6_:=of_decide_eq_false q6;refine Ag q6 ?_;refine Ai (tn_ ?_);refine wr_ ?_;refine Ab ?_;obtain ⟨y9,h9,h⟩:=Ad h;refine Aa 15 ?_;refine rz0 (.box (oi 2 1) 2) ?_;refine rzl (.tree .int a0_2) ?_;refine rz0 (ai y3) ?_;refine zc (ai y9) [] [.tree .int a0_2,ai y3] (Rn h9) ?_;refine rsB 1 ?_;refine Aq (tn_ ?_);refine wr_ ?_;refine Ab ?_;refine An ?_;rcases Ae h with ⟨q12,h⟩ | ⟨q12,h⟩
 ·have q12_:=of_decide_eq_true q12;refine Ah q12 ?_;refine An ?_;refine Ao (tr_ ?_);obtain rfl:=zj h;exact Br [ai (-1)] (A8 rfl zl Bc)
 have q12_:=of_decide_eq_false q12;refine Ag q12 ?_;refine Ai (tn_ ?_);refine wr_ ?_;refine Ab ?_;obtain ⟨y15,h15,h⟩:=Ad h;refine Aa 22 ?_;refine rz0 (.box (oi 2 1) 3) ?_;refine rzl (.tree .int a0_3) ?_;refine rz0 (ai y9) ?_;refine zc (ai y15) [] [.tree .int a0_3,ai y9] (Rn h15) ?_;refine rsB 1 ?_;refine Aq (tn_ ?_);refine wr_ ?_;refine Ab ?_;refine An ?_;rcases Ae h with ⟨q18,h⟩ | ⟨q18,h⟩
 ·have q18_:=of_decide_eq_true q18;refine Ah q18 ?_;refine An ?_;refine Ao (tr_ ?_);obtain rfl:=zj h;exact Br [ai (-1)] (A8 rfl zl Bc)
 have q18_:=of_decide_eq_false q18;refine Ag q18 ?_;refine Ai (tn_ ?_);refine wr_ ?_;refine An ?_;refine Ao ?_;obtain rfl:=zj h;exact Br [ai y15] (A8 rfl zl Bc)
def Qy:AC :=
 (.seq (rg [xo 1 (.i (.box 83 (tm 0))),xo 2 (.i (.alloc 81 [.int .i64 0,.int .i64 0,.int .i64 0]))])
 (.seq (rg [xo 3 (.i (.alloc 81 [.int .i64 0,.int .i64 0,.int .i64 0]))])
 (.seq (rg [xo 4 (qf 0 (tm 1)),xo 5 (ql (tm 4)),xo 6 (qf 0 (tm 3)),xn (qs (tm 6) (tm 5))])
 (.seq (rg [xo 7 (qf 1 (tm 1)),xo 8 (ql (tm 7)),xo 9 (qf 1 (tm 3)),xn (qs (tm 9) (tm 8))])
 (.seq (rg [xo 10 (qf 2 (tm 1)),xo 11 (ql (tm 10)),xo 12 (qf 2 (tm 3)),xn (qs (tm 12) (tm 11))])
 (.seq (rg [xo 13 (.i (.ld false 3 (tm 3))),xn (.st false 3 (tm 2) (tm 13))])
 .ret))))))
def Zg:List Res:=[.cell 2 false 3]
theorem Za:Aw Tryd.prog Tryd.f58=some (Qy,Zg):=by kernel_rfl
def Jh (a0_0:Int) (a0_1:Int) (a0_2:Int):Option (Int×Int×Int) :=
 some (a0_0,a0_1,a0_2)
def Xb (r:Int×Int×Int):RV:=⟨false,[(true,[.sc (.int .i64 r.1),.sc (.int .i64 r.2.1),.sc (.int .i64 r.2.2)])]⟩
theorem Wp {a0_0:Int} {a0_1:Int} {a0_2:Int} {r:Int×Int×Int} (h:Jh a0_0 a0_1 a0_2=some r):Bm Tryd.prog Tab 58 [.agg [ai a0_0,ai a0_1,ai a0_2]] (Xb r):=by
 refine Ba (by kernel_rfl) Tryd.func58 Za (n:=14) (by kernel_rfl) (by simp) (tl:=[(0,.agg [ai a0_0,ai a0_1,ai a0_2])]) rfl ?_;unfold Qy;unfold Jh at h;refine An ?_;refine An ?_;refine An ?_;refine An ?_;refine An ?_;refine An ?_;refine Ao ?_;obtain rfl:=zj h;exact Br [.agg [ai a0_0,ai a0_1,ai a0_2]] (Asu (Uc zl (Uc zl (Uc zl Asl))) Bc)
def Lf:AC :=
 (.seq (.seq (rg [xo 8 (qm (tm 4)),xo 9 (qm (tm 0)),xo 10 (.i (.len (tm 9))),xo 11 (qb .lss (tm 8) (tm 10))])
 (.cond (tm 11)
  .skip
  (.exit 0)))
 (.seq (.block 1 (rg [xo 14 (qm (tm 3)),xo 15 (qm (tm 4)),xo 16 (qm (tm 0)),xo 17 (qm (tm 4)),xo 18 (qx 3 (tm 16) (tm 17)),xo 19 (.i (.ld false 3 (tm 18))),xo 20 (qc 58 [tm 19] [[none,none,none]]),xo 21 (qx 3 (tm 14) (tm 15)),xn (.st false 3 (tm 21) (tm 20))]))
 (rg [xo 12 (qm (tm 4)),xo 13 (qb .add (tm 12) (ci 1)),xo 4 (qm (tm 13))])))
def Pa:AC :=
 (.seq (rg [xo 2 (qm (.cst .nils))])
 (.seq (rg [xo 5 (qm (tm 0)),xo 6 (.i (.len (tm 5))),xo 7 (.make 81 (.pair .int (.pair .int .int)) 24 (tm 6) (tm 6)),xo 3 (qm (tm 7))])
 (.seq (.seq (rg [xo 4 (qm (ci 0))])
 (.block 0 (.loop Lf)))
 (.seq (rg [xo 22 (qm (tm 3)),xo 2 (qm (tm 22))])
 .ret))))
def Wm:List Res:=[.tmp 2]
theorem Wz:Aw Tryd.prog Tryd.f24=some (Pa,Wm):=by kernel_rfl
def D9 (a0:List (Int×Int×Int)) (l6_m4:Nat) (l6_m3:List (Int×Int×Int)):Option (Ctl (Nat×(List (Int×Int×Int))) (List (Int×Int×Int))) :=
 cond (decide (((l6_m4:Nat):Int)<((a0.length:Nat):Int)))
 (Option.bind (a0[l6_m4]?) fun x11 =>
 Option.bind (Jh x11.1 x11.2.1 x11.2.2) fun y12 =>
 Option.bind (l6_m3[l6_m4]?) fun x13 =>
 og (l6_m4+1<4611686018427387904) <|
 some (Ctl.next (l6_m4+1,l6_m3.set l6_m4 y12)))
 (some (Ctl.out l6_m3))
def F0 (a0:List (Int×Int×Int)):Option (List (Int×Int×Int)) :=
 og (0<=((a0.length:Nat):Int)∧((a0.length:Nat):Int)<=((a0.length:Nat):Int)∧((a0.length:Nat):Int)<=1073741824∧(24:Int)*((a0.length:Nat):Int)<=140737488355328) <|
Option.bind (Av (fun s_:Nat×(List (Int×Int×Int))=>D9 a0 s_.1 s_.2) 4611686018427387904 (0,List.replicate a0.length ((0,0,0):Int×Int×Int))) fun l4_m3 =>
some l4_m3
def U3 (r:List (Int×Int×Int)):RV:=⟨false,[(false,[.new 81 (.pair .int (.pair .int .int)) r])]⟩
theorem Vw {a0:List (Int×Int×Int)} {r:List (Int×Int×Int)} (h:F0 a0=some r):Bm Tryd.prog Tab 24 [.tree (.pair .int (.pair .int .int)) a0] (U3 r):=by
 refine Ba (by kernel_rfl) Tryd.func24 Wz (n:=23) (by kernel_rfl) (by simp) (tl:=[(0,.tree (.pair .int (.pair .int .int)) a0)]) rfl ?_;unfold Pa;unfold F0 at h;refine An ?_;refine Ab ?_;obtain ⟨g3,h⟩:=Am h;refine Aa 6 ?_;refine rz0 (.tree (.pair .int (.pair .int .int)) a0) ?_;refine rz0 (ai ((a0.length:Nat):Int)) ?_;refine rs1 (.own (oi 7 4) (.pair .int (.pair .int .int)) 0 a0.length) (oi 7 4) (.arr 81 (.pair .int (.pair .int .int)) (List.replicate a0.length ((0,0,0):Int×Int×Int))) (R1 (t:=.pair .int (.pair .int .int)) (k:=.i64) (k':=.i64) (m:=((a0.length:Nat):Int)) (m':=((a0.length:Nat):Int)) (by kernel_rfl) (by kernel_rfl) g3 rfl) ?_;refine rsB 1 ?_;refine Aq (tn_ ?_);refine wr_ ?_;refine As h (fun (l4_m3:List (Int×Int×Int)) S_=>S_=⟨Ap [(3,.own (oi 0 1) (.pair .int (.pair .int .int)) 0 l4_m3.length)],Aj (Ar [(oi 0 1,.arr 81 (.pair .int (.pair .int .int)) l4_m3)]),2⟩) ?_ ?_
 ·intro v_ h;refine An ?_;refine Af ?_;refine Ax h (fun t_ S_=>∃ (l6_m4:Nat),∃ (l6_m3:List (Int×Int×Int)),t_=(l6_m4,l6_m3)∧S_=⟨Ap [(0,.tree (.pair .int (.pair .int .int)) a0),(3,.own (oi 0 1) (.pair .int (.pair .int .int)) 0 l6_m3.length),(4,ai ((l6_m4:Nat):Int))],Aj (Ar [(oi 0 1,.arr 81 (.pair .int (.pair .int .int)) l6_m3)]),2⟩) ⟨_,(A9 3 (.own (oi 7 4) (.pair .int (.pair .int .int)) 0 a0.length) (.own (oi 7 4) (.pair .int (.pair .int .int)) 0 ((List.replicate a0.length ((0,0,0):Int×Int×Int)).length)) (by kernel_rfl) (congrArg (fun z_=>((.own (oi 7 4) (.pair .int (.pair .int .int)) 0 z_):AV)) (List.length_replicate.symm:a0.length=(List.replicate a0.length ((0,0,0):Int×Int×Int)).length))).trans (Ac [(oi 0 1,oi 7 4)]),⟨0,List.replicate a0.length ((0,0,0):Int×Int×Int),rfl,rfl⟩⟩ ?_;rintro n_ _ _ c_ ⟨l6_m4,l6_m3,rfl,rfl⟩ h hn6
  (try dsimp only at h);unfold D9 at h;unfold Lf;refine Ab ?_;refine An ?_;rcases Ae h with ⟨q9,h⟩ | ⟨q9,h⟩
  ·have q9_:=of_decide_eq_true q9;refine Ah q9 ?_;refine Ai (tn_ ?_);refine wr_ ?_;refine Ab ?_;refine Af ?_;obtain ⟨x11,e11,h⟩:=Ad h;obtain ⟨y12,h12,h⟩:=Ad h;obtain ⟨x13,e13,h⟩:=Ad h;refine Aa 15 ?_;refine rz0 (.own (oi 0 1) (.pair .int (.pair .int .int)) 0 l6_m3.length) ?_;refine rz0 (ai ((l6_m4:Nat):Int)) ?_;refine rz0 (.tree (.pair .int (.pair .int .int)) a0) ?_;refine rz0 (ai ((l6_m4:Nat):Int)) ?_;refine rs0 (.telt (.pair .int (.pair .int .int)) x11 0) (zi (t:=.pair .int (.pair .int .int)) (xs:=a0) (k:=.i64) (m:=((l6_m4:Nat):Int)) (At _) e11) ?_;refine rz0 (.agg [ai x11.1,ai x11.2.1,ai x11.2.2]) ?_;refine zc (.agg [ai y12.1,ai y12.2.1,ai y12.2.2]) [] [.agg [ai x11.1,ai x11.2.1,ai x11.2.2]] (Wp h12) ?_;refine rs0 (.elt (oi 0 1) l6_m4 0) (zo (t:=.pair .int (.pair .int .int)) (o:=oi 0 1) (len:=l6_m3.length) (k:=.i64) (m:=((l6_m4:Nat):Int)) (At _) (Al e13)) ?_;refine Nj (oi 0 1) (oi 0 1) (.arr 81 (.pair .int (.pair .int .int)) (l6_m3.set l6_m4 y12)) (Ep (i:=oi 0 1) (j:=l6_m4) (k:=0) (e:=81) (t:=.pair .int (.pair .int .int)) (xs:=l6_m3) (cs:=[ai y12.1,ai y12.2.1,ai y12.2.2]) (x1:=y12) (by kernel_rfl) (by kernel_rfl) e13 (by kernel_rfl) (by kernel_rfl)) ?_;refine Aq (bn_ (tn_ ?_));refine wr_ ?_;obtain ⟨g14,h⟩:=Am h;refine Aa 18 ?_;refine rz0 (ai ((l6_m4:Nat):Int)) ?_;refine rs0 (ai ((l6_m4+1:Nat):Int)) (za g14) ?_;refine rsB 1 ?_;refine Aq (tn_ ?_);obtain rfl:=zj h;exact ⟨(l6_m4+1,l6_m3.set l6_m4 y12),_,(A9 3 (.own (oi 0 1) (.pair .int (.pair .int .int)) 0 l6_m3.length) (.own (oi 0 1) (.pair .int (.pair .int .int)) 0 ((l6_m3.set l6_m4 y12).length)) (by kernel_rfl) (congrArg (fun z_=>((.own (oi 0 1) (.pair .int (.pair .int .int)) 0 z_):AV)) (((rfl:l6_m3.length=l6_m3.length).trans List.length_set.symm):l6_m3.length=(l6_m3.set l6_m4 y12).length))).trans (Ac []),⟨l6_m4+1,l6_m3.set l6_m4 y12,rfl,rfl⟩,hn6⟩
  have q9_:=of_decide_eq_false q9;refine Ag q9 ?_;refine Au (te_ (te_ (be_ (tn_ ?_))));obtain rfl:=zj h;have h:=hn6
  (try dsimp only at h);obtain rfl:=zj h;exact ⟨_,Ac [],rfl⟩
 rintro l4_m3 _ rfl h
 (try dsimp only at h);refine An ?_;refine Ao ?_;obtain rfl:=zj h;exact Br [.own (oi 0 1) (.pair .int (.pair .int .int)) 0 l4_m3.length] (A8 rfl (Kb (by kernel_rfl) rfl) Bc)
def N7:AC :=
 (.seq (rg [xo 1 (.i (.box 25 (tm 0))),xo 2 (.i (.alloc 34 [.int .i64 0,.nils,.nils,.nils]))])
 (.seq (rg [xo 3 (.i (.alloc 34 [.int .i64 0,.nils,.nils,.nils]))])
 (.seq (rg [xo 4 (qf 0 (tm 1)),xo 5 (ql (tm 4)),xo 6 (qf 0 (tm 3)),xn (qs (tm 6) (tm 5))])
 (.seq (rg [xo 7 (qf 1 (tm 1)),xo 8 (ql (tm 7)),⟨some 9,none,qc 24 [tm 8] [[some (.pair .int (.pair .int .int))]]⟩,xo 10 (qf 1 (tm 3)),xn (qs (tm 10) (tm 9))])
 (.seq (rg [xo 11 (qf 2 (tm 1)),xo 12 (ql (tm 11)),xo 13 (qc 15 [tm 12] [[some .int]]),xo 14 (qf 2 (tm 3)),xn (qs (tm 14) (tm 13))])
 (.seq (rg [xo 15 (qf 3 (tm 1)),xo 16 (ql (tm 15)),xo 17 (qc 15 [tm 16] [[some .int]]),xo 18 (qf 3 (tm 3)),xn (qs (tm 18) (tm 17))])
 (.seq (rg [xo 19 (.i (.ld false 4 (tm 3))),xn (.st false 4 (tm 2) (tm 19))])
 .ret)))))))
def Xw:List Res:=[.cell 2 false 4]
theorem W7:Aw Tryd.prog Tryd.f7=some (N7,Xw):=by kernel_rfl
theorem Ux:A6 Tryd.prog 7=true:=by kernel_rfl
def C7 (a0_0:Int) (a0_1:List (Int×Int×Int)) (a0_2:List Int) (a0_3:List Int):Option (Int×(List (Int×Int×Int))×List Int×List Int) :=
 Option.bind (F0 a0_1) fun y5 =>
Option.bind (B5 a0_2) fun y7 =>
Option.bind (B5 a0_3) fun y9 =>
some (a0_0,y5,y7,y9)
def Vs (r:Int×(List (Int×Int×Int))×List Int×List Int):RV:=⟨false,[(true,[.sc (.int .i64 r.1),.new 81 (.pair .int (.pair .int .int)) r.2.1,.new 3 .int r.2.2.1,.new 3 .int r.2.2.2])]⟩
theorem Hp {a0_0:Int} {a0_1:List (Int×Int×Int)} {a0_2:List Int} {a0_3:List Int} {r:Int×(List (Int×Int×Int))×List Int×List Int} (h:C7 a0_0 a0_1 a0_2 a0_3=some r):Bm Tryd.prog Tab 7 [.agg [ai a0_0,.tree (.pair .int (.pair .int .int)) a0_1,.tree .int a0_2,.tree .int a0_3]] (Vs r):=by
 refine Ba (by kernel_rfl) Tryd.func7 W7 (n:=20) (by kernel_rfl) (by simp) (tl:=[(0,.agg [ai a0_0,.tree (.pair .int (.pair .int .int)) a0_1,.tree .int a0_2,.tree .int a0_3])]) rfl ?_;unfold N7;unfold C7 at h;refine An ?_;refine An ?_;refine An ?_;refine Ab ?_;obtain ⟨y5,h5,h⟩:=Ad h;refine Aa 13 ?_;refine rz0 (.box (oi 1 1) 1) ?_;refine rzl (.tree (.pair .int (.pair .int .int)) a0_1) ?_;refine zc (.own (oi 144 10) (.pair .int (.pair .int .int)) 0 y5.length) [(oi 144 10,some (.arr 81 (.pair .int (.pair .int .int)) y5))] [.tree (.pair .int (.pair .int .int)) a0_1] (Vw h5) ?_;refine rsB 2 ?_;refine Aq (tn_ ?_);refine wr_ ?_;refine Ab ?_;obtain ⟨y7,h7,h⟩:=Ad h;refine Aa 18 ?_;refine rz0 (.box (oi 1 1) 2) ?_;refine rzl (.tree .int a0_2) ?_;refine zc (.own (oi 208 15) .int 0 y7.length) [(oi 208 15,some (.arr 3 .int y7))] [.tree .int a0_2] (Cr h7) ?_;refine rsB 2 ?_;refine Aq (tn_ ?_);refine wr_ ?_;refine Ab ?_;obtain ⟨y9,h9,h⟩:=Ad h;refine Aa 23 ?_;refine rz0 (.box (oi 1 1) 3) ?_;refine rzl (.tree .int a0_3) ?_;refine zc (.own (oi 272 20) .int 0 y9.length) [(oi 272 20,some (.arr 3 .int y9))] [.tree .int a0_3] (Cr h9) ?_;refine rsB 2 ?_;refine Aq (tn_ ?_);refine wr_ ?_;refine An ?_;refine Ao ?_;obtain rfl:=zj h;exact Br [.agg [ai a0_0,.own (oi 144 10) (.pair .int (.pair .int .int)) 0 y5.length,.own (oi 208 15) .int 0 y7.length,.own (oi 272 20) .int 0 y9.length]] (Asu (Uc zl (Uc (Kb (by kernel_rfl) rfl) (Uc (Kb (by kernel_rfl) rfl) (Uc (Kb (by kernel_rfl) rfl) Asl)))) Bc)
def Ql:AC :=
 (.seq (rg [xo 2 (.i (.box 81 (tm 0))),xo 3 (.i (.box 81 (tm 1))),xo 4 (qm (cb false))])
 (.seq (.seq (rg [xo 5 (qf 0 (tm 2)),xo 6 (ql (tm 5)),xo 7 (qf 0 (tm 3)),xo 8 (ql (tm 7)),xo 9 (qb .neq (tm 6) (tm 8))])
 (.cond (tm 9)
  (.seq (rg [xo 4 (qm (cb false))])
  .ret)
  .skip))
 (.seq (.seq (rg [xo 10 (qf 1 (tm 2)),xo 11 (ql (tm 10)),xo 12 (qf 1 (tm 3)),xo 13 (ql (tm 12)),xo 14 (qb .neq (tm 11) (tm 13))])
 (.cond (tm 14)
  (.seq (rg [xo 4 (qm (cb false))])
  .ret)
  .skip))
 (.seq (.seq (rg [xo 15 (qf 2 (tm 2)),xo 16 (ql (tm 15)),xo 17 (qf 2 (tm 3)),xo 18 (ql (tm 17)),xo 19 (qb .neq (tm 16) (tm 18))])
 (.cond (tm 19)
  (.seq (rg [xo 4 (qm (cb false))])
  .ret)
  .skip))
 (.seq (rg [xo 4 (qm (cb true))])
 .ret)))))
def Yo:List Res:=[.tmp 4]
theorem Y8:Aw Tryd.prog Tryd.f72=some (Ql,Yo):=by kernel_rfl
theorem Xn:A6 Tryd.prog 72=true:=by kernel_rfl
def Jd (a0_0:Int) (a0_1:Int) (a0_2:Int) (a1_0:Int) (a1_1:Int) (a1_2:Int):Option Bool :=
 cond (a0_0 !=a1_0)
 (some false)
 (cond (a0_1 !=a1_1)
  (some false)
  (cond (a0_2 !=a1_2)
   (some false)
   (some true)))
def Ws (r:Bool):RV:=⟨false,[(false,[.sc (.bool r)])]⟩
theorem Wo {a0_0:Int} {a0_1:Int} {a0_2:Int} {a1_0:Int} {a1_1:Int} {a1_2:Int} {r:Bool} (h:Jd a0_0 a0_1 a0_2 a1_0 a1_1 a1_2=some r):Bm Tryd.prog Tab 72 [.agg [ai a0_0,ai a0_1,ai a0_2],.agg [ai a1_0,ai a1_1,ai a1_2]] (Ws r):=by
 refine Ba (by kernel_rfl) Tryd.func72 Y8 (n:=20) (by kernel_rfl) (by simp) (tl:=[(0,.agg [ai a0_0,ai a0_1,ai a0_2]),(1,.agg [ai a1_0,ai a1_1,ai a1_2])]) rfl ?_;unfold Ql;unfold Jd at h;refine An ?_;refine Ab ?_;refine An ?_;rcases Ae h with ⟨q4,h⟩ | ⟨q4,h⟩
 ·refine Ah q4 ?_;refine An ?_;refine Ao (tr_ ?_);obtain rfl:=zj h;exact Br [.bool false] (A8 rfl zl Bc)
 refine Ag q4 ?_;refine Ai (tn_ ?_);refine wr_ ?_;refine Ab ?_;refine An ?_;rcases Ae h with ⟨q8,h⟩ | ⟨q8,h⟩
 ·refine Ah q8 ?_;refine An ?_;refine Ao (tr_ ?_);obtain rfl:=zj h;exact Br [.bool false] (A8 rfl zl Bc)
 refine Ag q8 ?_;refine Ai (tn_ ?_);refine wr_ ?_;refine Ab ?_;refine An ?_;rcases Ae h with ⟨q12,h⟩ | ⟨q12,h⟩
 ·refine Ah q12 ?_;refine An ?_;refine Ao (tr_ ?_);obtain rfl:=zj h;exact Br [.bool false] (A8 rfl zl Bc)
 refine Ag q12 ?_;refine Ai (tn_ ?_);refine wr_ ?_;refine An ?_;refine Ao ?_;obtain rfl:=zj h;exact Br [.bool true] (A8 rfl zl Bc)
def Lh:AC :=
 (.seq (.seq (rg [xo 11 (qm (tm 5)),xo 12 (qm (tm 0)),xo 13 (.i (.len (tm 12))),xo 14 (qb .lss (tm 11) (tm 13))])
 (.cond (tm 14)
  .skip
  (.exit 0)))
 (.seq (.block 1 (.seq (.region [xo 17 (qm (tm 0)),xo 18 (qm (tm 5)),xo 19 (qx 3 (tm 17) (tm 18)),xo 20 (.i (.ld false 3 (tm 19))),xo 21 (qm (tm 1)),xo 22 (qm (tm 5)),xo 23 (qx 3 (tm 21) (tm 22)),xo 24 (.i (.ld false 3 (tm 23))),xo 25 (qc 72 [tm 20,tm 24] [[none,none,none],[none,none,none]]),xo 26 (.i (.not (tm 25)))] true [])
 (.cond (tm 26)
  (.seq (rg [xo 4 (qm (cb false))])
  .ret)
  .skip)))
 (rg [xo 15 (qm (tm 5)),xo 16 (qb .add (tm 15) (ci 1)),xo 5 (qm (tm 16))])))
def Oa:AC :=
 (.seq (rg [xo 4 (qm (cb false))])
 (.seq (.seq (rg [xo 6 (qm (tm 0)),xo 7 (.i (.len (tm 6))),xo 8 (qm (tm 1)),xo 9 (.i (.len (tm 8))),xo 10 (qb .neq (tm 7) (tm 9))])
 (.cond (tm 10)
  (.seq (rg [xo 4 (qm (cb false))])
  .ret)
  .skip))
 (.seq (.seq (rg [xo 5 (qm (ci 0))])
 (.block 0 (.loop Lh)))
 (.seq (rg [xo 4 (qm (cb true))])
 .ret))))
def W8:List Res:=[.tmp 4]
theorem X1:Aw Tryd.prog Tryd.f33=some (Oa,W8):=by kernel_rfl
def D7 (a0:List (Int×Int×Int)) (a1:List (Int×Int×Int)) (l8_m5:Nat):Option (Ctl Nat (Ctl Unit Bool)) :=
 cond (decide (((l8_m5:Nat):Int)<((a0.length:Nat):Int)))
 (Option.bind (a0[l8_m5]?) fun x14 =>
 Option.bind (a1[l8_m5]?) fun x15 =>
 Option.bind (Jd x14.1 x14.2.1 x14.2.2 x15.1 x15.2.1 x15.2.2) fun y16 =>
 cond (!y16)
  (some (Ctl.out (Ctl.out false)))
  (og (l8_m5+1<4611686018427387904) <|
  some (Ctl.next (l8_m5+1))))
 (some (Ctl.out (Ctl.next ())))
def F3 (a0:List (Int×Int×Int)) (a1:List (Int×Int×Int)):Option Bool :=
 cond (((a0.length:Nat):Int) !=((a1.length:Nat):Int))
 (some false)
 (Ud (Av (fun s_:Nat=>D7 a0 a1 s_) 4611686018427387904 0) fun _ =>
 some true)
def U5 (r:Bool):RV:=⟨false,[(false,[.sc (.bool r)])]⟩
theorem Uy {a0:List (Int×Int×Int)} {a1:List (Int×Int×Int)} {r:Bool} (h:F3 a0 a1=some r):Bm Tryd.prog Tab 33 [.tree (.pair .int (.pair .int .int)) a0,.tree (.pair .int (.pair .int .int)) a1] (U5 r):=by
 refine Ba (by kernel_rfl) Tryd.func33 X1 (n:=27) (by kernel_rfl) (by simp) (tl:=[(0,.tree (.pair .int (.pair .int .int)) a0),(1,.tree (.pair .int (.pair .int .int)) a1)]) rfl ?_;unfold Oa;unfold F3 at h;refine An ?_;refine Ab ?_;refine An ?_;rcases Ae h with ⟨q4,h⟩ | ⟨q4,h⟩
 ·refine Ah q4 ?_;refine An ?_;refine Ao (tr_ ?_);obtain rfl:=zj h;exact Br [.bool false] (A8 rfl zl Bc)
 refine Ag q4 ?_;refine Ai (tn_ ?_);refine wr_ ?_;refine G8 h (fun (_:Unit) S_=>S_=⟨Ap [],Aj (Ar []),2⟩) ?_ ?_
 ·intro v_ h hk6;refine An ?_;refine Af ?_;refine Ax h (fun (l8_m5:Nat) S_=>S_=⟨Ap [(0,.tree (.pair .int (.pair .int .int)) a0),(1,.tree (.pair .int (.pair .int .int)) a1),(5,ai ((l8_m5:Nat):Int))],Aj (Ar []),2⟩) ⟨_,Ac [],rfl⟩ ?_;rintro n_ l8_m5 _ c_ rfl h hn8
  (try dsimp only at h);unfold D7 at h;unfold Lh;refine Ab ?_;refine An ?_;rcases Ae h with ⟨q11,h⟩ | ⟨q11,h⟩
  ·have q11_:=of_decide_eq_true q11;refine Ah q11 ?_;refine Ai (tn_ ?_);refine wr_ ?_;refine Ab ?_;refine Af ?_;refine Ab ?_;obtain ⟨x14,e14,h⟩:=Ad h;obtain ⟨x15,e15,h⟩:=Ad h;obtain ⟨y16,h16,h⟩:=Ad h;refine Az 16 ?_;refine dz0 (.tree (.pair .int (.pair .int .int)) a0) ?_;refine dz0 (ai ((l8_m5:Nat):Int)) ?_;refine ds0 (.telt (.pair .int (.pair .int .int)) x14 0) (zi (t:=.pair .int (.pair .int .int)) (xs:=a0) (k:=.i64) (m:=((l8_m5:Nat):Int)) (At _) e14) ?_;refine dz0 (.agg [ai x14.1,ai x14.2.1,ai x14.2.2]) ?_;refine dz0 (.tree (.pair .int (.pair .int .int)) a1) ?_;refine dz0 (ai ((l8_m5:Nat):Int)) ?_;refine ds0 (.telt (.pair .int (.pair .int .int)) x15 0) (zi (t:=.pair .int (.pair .int .int)) (xs:=a1) (k:=.i64) (m:=((l8_m5:Nat):Int)) (At _) e15) ?_;refine dz0 (.agg [ai x15.1,ai x15.2.1,ai x15.2.2]) ?_;refine D4 (.bool y16) [] [.agg [ai x14.1,ai x14.2.1,ai x14.2.2],.agg [ai x15.1,ai x15.2.1,ai x15.2.2]] _ (caps:=[]) (args0:=[.agg [ai x14.1,ai x14.2.1,ai x14.2.2],.agg [ai x15.1,ai x15.2.1,ai x15.2.2]]) trivial (by kernel_rfl) (Wo h16) Xn ?_;refine dz0 (.bool (!y16)) ?_;refine Ft (Bd (by kernel_rfl)) (tn_ ?_);refine wr_ ?_;rcases Ae h with ⟨q17,h⟩ | ⟨q17,h⟩
   ·refine Ah q17 ?_;refine An ?_;refine Ao (br_ (tr_ (tr_ (br_ (tr_ ?_)))));obtain rfl:=zj h;have h:=hn8
    (try dsimp only at h);obtain rfl:=zj h;have h:=hk6
    (try dsimp only at h);obtain rfl:=zj h;exact Br [.bool false] (A8 rfl zl Bc)
   refine Ag q17 ?_;refine Ai (bn_ (tn_ ?_));refine wr_ ?_;obtain ⟨g19,h⟩:=Am h;refine Aa 19 ?_;refine rz0 (ai ((l8_m5:Nat):Int)) ?_;refine rs0 (ai ((l8_m5+1:Nat):Int)) (za g19) ?_;refine rsB 1 ?_;refine Aq (tn_ ?_);obtain rfl:=zj h;exact ⟨l8_m5+1,_,Ac [],rfl,hn8⟩
  have q11_:=of_decide_eq_false q11;refine Ag q11 ?_;refine Au (te_ (te_ (be_ (tn_ ?_))));obtain rfl:=zj h;have h:=hn8
  (try dsimp only at h);obtain rfl:=zj h;exact ⟨(),_,rfl,Ac [],rfl⟩
 rintro _ _ rfl h
 (try dsimp only at h);refine An ?_;refine Ao ?_;obtain rfl:=zj h;exact Br [.bool true] (A8 rfl zl Bc)
def Oy:AC :=
 (.seq (rg [xo 2 (.i (.box 34 (tm 0))),xo 3 (.i (.box 34 (tm 1))),xo 4 (qm (cb false))])
 (.seq (.seq (rg [xo 5 (qf 0 (tm 2)),xo 6 (ql (tm 5)),xo 7 (qf 0 (tm 3)),xo 8 (ql (tm 7)),xo 9 (qb .neq (tm 6) (tm 8))])
 (.cond (tm 9)
  (.seq (rg [xo 4 (qm (cb false))])
  .ret)
  .skip))
 (.seq (.seq (rg [xo 10 (qf 1 (tm 2)),xo 11 (ql (tm 10)),xo 12 (qf 1 (tm 3)),xo 13 (ql (tm 12)),⟨some 14,none,qc 33 [tm 11,tm 13] [[some (.pair .int (.pair .int .int))],[some (.pair .int (.pair .int .int))]]⟩,xo 15 (.i (.not (tm 14)))])
 (.cond (tm 15)
  (.seq (rg [xo 4 (qm (cb false))])
  .ret)
  .skip))
 (.seq (.seq (rg [xo 16 (qf 2 (tm 2)),xo 17 (ql (tm 16)),xo 18 (qf 2 (tm 3)),xo 19 (ql (tm 18)),xo 20 (qc 17 [tm 17,tm 19] [[some .int],[some .int]]),xo 21 (.i (.not (tm 20)))])
 (.cond (tm 21)
  (.seq (rg [xo 4 (qm (cb false))])
  .ret)
  .skip))
 (.seq (.seq (rg [xo 22 (qf 3 (tm 2)),xo 23 (ql (tm 22)),xo 24 (qf 3 (tm 3)),xo 25 (ql (tm 24)),xo 26 (qc 17 [tm 23,tm 25] [[some .int],[some .int]]),xo 27 (.i (.not (tm 26)))])
 (.cond (tm 27)
  (.seq (rg [xo 4 (qm (cb false))])
  .ret)
  .skip))
 (.seq (rg [xo 4 (qm (cb true))])
 .ret))))))
def Xf:List Res:=[.tmp 4]
theorem Xx:Aw Tryd.prog Tryd.f10=some (Oy,Xf):=by kernel_rfl
theorem Ut:A6 Tryd.prog 10=true:=by kernel_rfl
def Gi (a0_0:Int) (a0_1:List (Int×Int×Int)) (a0_2:List Int) (a0_3:List Int) (a1_0:Int) (a1_1:List (Int×Int×Int)) (a1_2:List Int) (a1_3:List Int):Option Bool :=
 cond (a0_0 !=a1_0)
 (some false)
 (Option.bind (F3 a0_1 a1_1) fun y8 =>
 cond (!y8)
  (some false)
  (Option.bind (Co a0_2 a1_2) fun y13 =>
  cond (!y13)
   (some false)
   (Option.bind (Co a0_3 a1_3) fun y18 =>
   cond (!y18)
    (some false)
    (some true))))
def Vl (r:Bool):RV:=⟨false,[(false,[.sc (.bool r)])]⟩
theorem U7 {a0_0:Int} {a0_1:List (Int×Int×Int)} {a0_2:List Int} {a0_3:List Int} {a1_0:Int} {a1_1:List (Int×Int×Int)} {a1_2:List Int} {a1_3:List Int} {r:Bool} (h:Gi a0_0 a0_1 a0_2 a0_3 a1_0 a1_1 a1_2 a1_3=some r):Bm Tryd.prog Tab 10 [.agg [ai a0_0,.tree (.pair .int (.pair .int .int)) a0_1,.tree .int a0_2,.tree .int a0_3],.agg [ai a1_0,.tree (.pair .int (.pair .int .int)) a1_1,.tree .int a1_2,.tree .int a1_3]] (Vl r):=by
 refine Ba (by kernel_rfl) Tryd.func10 Xx (n:=28) (by kernel_rfl) (by simp) (tl:=[(0,.agg [ai a0_0,.tree (.pair .int (.pair .int .int)) a0_1,.tree .int a0_2,.tree .int a0_3]),(1,.agg [ai a1_0,.tree (.pair .int (.pair .int .int)) a1_1,.tree .int a1_2,.tree .int a1_3])]) rfl ?_;unfold Oy;unfold Gi at h;refine An ?_;refine Ab ?_;refine An ?_;rcases Ae h with ⟨q4,h⟩ | ⟨q4,h⟩
 ·refine Ah q4 ?_;refine An ?_;refine Ao (tr_ ?_);obtain rfl:=zj h;exact Br [.bool false] (A8 rfl zl Bc)
 refine Ag q4 ?_;refine Ai (tn_ ?_);refine wr_ ?_;refine Ab ?_;refine Ab ?_;obtain ⟨y8,h8,h⟩:=Ad h;refine Aa 15 ?_;refine rz0 (.box (oi 2 1) 1) ?_;refine rzl (.tree (.pair .int (.pair .int .int)) a0_1) ?_;refine rz0 (.box (oi 3 2) 1) ?_;refine rzl (.tree (.pair .int (.pair .int .int)) a1_1) ?_;refine zc (.bool y8) [] [.tree (.pair .int (.pair .int .int)) a0_1,.tree (.pair .int (.pair .int .int)) a1_1] (Uy h8) ?_;refine rsB 1 ?_;refine Aq (tn_ ?_);refine wr_ ?_;rcases Ae h with ⟨q9,h⟩ | ⟨q9,h⟩
 ·refine Ah q9 ?_;refine An ?_;refine Ao (tr_ ?_);obtain rfl:=zj h;exact Br [.bool false] (A8 rfl zl Bc)
 refine Ag q9 ?_;refine Ai (tn_ ?_);refine wr_ ?_;refine Ab ?_;refine Ab ?_;obtain ⟨y13,h13,h⟩:=Ad h;refine Aa 21 ?_;refine rz0 (.box (oi 2 1) 2) ?_;refine rzl (.tree .int a0_2) ?_;refine rz0 (.box (oi 3 2) 2) ?_;refine rzl (.tree .int a1_2) ?_;refine zc (.bool y13) [] [.tree .int a0_2,.tree .int a1_2] (Cp h13) ?_;refine rsB 1 ?_;refine Aq (tn_ ?_);refine wr_ ?_;rcases Ae h with ⟨q14,h⟩ | ⟨q14,h⟩
 ·refine Ah q14 ?_;refine An ?_;refine Ao (tr_ ?_);obtain rfl:=zj h;exact Br [.bool false] (A8 rfl zl Bc)
 refine Ag q14 ?_;refine Ai (tn_ ?_);refine wr_ ?_;refine Ab ?_;refine Ab ?_;obtain ⟨y18,h18,h⟩:=Ad h;refine Aa 27 ?_;refine rz0 (.box (oi 2 1) 3) ?_;refine rzl (.tree .int a0_3) ?_;refine rz0 (.box (oi 3 2) 3) ?_;refine rzl (.tree .int a1_3) ?_;refine zc (.bool y18) [] [.tree .int a0_3,.tree .int a1_3] (Cp h18) ?_;refine rsB 1 ?_;refine Aq (tn_ ?_);refine wr_ ?_;rcases Ae h with ⟨q19,h⟩ | ⟨q19,h⟩
 ·refine Ah q19 ?_;refine An ?_;refine Ao (tr_ ?_);obtain rfl:=zj h;exact Br [.bool false] (A8 rfl zl Bc)
 refine Ag q19 ?_;refine Ai (tn_ ?_);refine wr_ ?_;refine An ?_;refine Ao ?_;obtain rfl:=zj h;exact Br [.bool true] (A8 rfl zl Bc)
def Kc:AC :=
 (.seq (.seq (rg [xo 6 (qm (tm 5)),xo 7 (qm (tm 0)),xo 8 (.i (.len (tm 7))),xo 9 (qb .lss (tm 6) (tm 8))])
 (.cond (tm 9)
  .skip
  (.exit 0)))
 (.seq (.block 1 (.seq (rg [xo 12 (qm (tm 0)),xo 13 (qm (tm 5)),xo 14 (qm (tm 1)),xo 15 (qx 3 (tm 12) (tm 13)),xo 16 (qf 0 (tm 15)),xn (qs (tm 16) (tm 14))])
 (.seq (rg [xo 17 (qm (tm 1)),xo 18 (qb .add (tm 17) (ci 1)),xo 1 (qm (tm 18))])
 (.seq (rg [xo 19 (qm (tm 0)),xo 20 (qm (tm 5)),xo 21 (qm (tm 1)),xo 22 (qx 3 (tm 19) (tm 20)),xo 23 (qf 1 (tm 22)),xn (qs (tm 23) (tm 21))])
 (.seq (rg [xo 24 (qm (tm 1)),xo 25 (qb .add (tm 24) (ci 1)),xo 1 (qm (tm 25))])
 (.seq (rg [xo 26 (qm (tm 0)),xo 27 (qm (tm 5)),xo 28 (qm (tm 1)),xo 29 (qx 3 (tm 26) (tm 27)),xo 30 (qf 2 (tm 29)),xn (qs (tm 30) (tm 28))])
 (rg [xo 31 (qm (tm 1)),xo 32 (qb .add (tm 31) (ci 1)),xo 1 (qm (tm 32))])))))))
 (rg [xo 10 (qm (tm 5)),xo 11 (qb .add (tm 10) (ci 1)),xo 5 (qm (tm 11))])))
def M7:AC :=
 (.seq (rg [xo 4 (qm (ci 0))])
 (.seq (.seq (rg [xo 5 (qm (ci 0))])
 (.block 0 (.loop Kc)))
 (.seq (rg [xo 33 (qm (tm 1)),xo 4 (qm (tm 33))])
 .ret)))
def Uj:List Res:=[.tmp 4]
theorem Us:Aw Tryd.prog Tryd.f34=some (M7,Uj):=by kernel_rfl
theorem Ss:A6 Tryd.prog 34=true:=by kernel_rfl
def Dl  (l5_m1:Int) (l5_m5:Nat) (l5_m0:List (Int×Int×Int)):Option (Ctl (Int×Nat×(List (Int×Int×Int))) (Int×(List (Int×Int×Int)))) :=
 cond (decide (((l5_m5:Nat):Int)<((l5_m0.length:Nat):Int)))
 (Option.bind (l5_m0[l5_m5]?) fun x11 =>
 Option.bind ((l5_m0.set l5_m5 (l5_m1,x11.2))[l5_m5]?) fun x14 =>
 Option.bind (((l5_m0.set l5_m5 (l5_m1,x11.2)).set l5_m5 (x14.1,wI (l5_m1+1),x14.2.2))[l5_m5]?) fun x17 =>
 og (l5_m5+1<4611686018427387904) <|
 some (Ctl.next (wI (wI (wI (l5_m1+1)+1)+1),l5_m5+1,((l5_m0.set l5_m5 (l5_m1,x11.2)).set l5_m5 (x14.1,wI (l5_m1+1),x14.2.2)).set l5_m5 (x17.1,x17.2.1,wI (wI (l5_m1+1)+1)))))
 (some (Ctl.out (l5_m1,l5_m0)))
def Ew (a0:List (Int×Int×Int)) (a1:Int):Option ((List (Int×Int×Int))×Int) :=
 Option.bind (Av (fun s_:Int×Nat×(List (Int×Int×Int))=>Dl s_.1 s_.2.1 s_.2.2) 4611686018427387904 (a1,0,a0)) fun (l3_m1,l3_p0) =>
some (l3_p0,l3_m1)
theorem Su {a0:List (Int×Int×Int)} {a1:Int} {r:(List (Int×Int×Int))×Int} (h:Ew a0 a1=some r) {n_a0:Nat} (hn_a0:n_a0=a0.length):Fi Tryd.prog Tab 34 [.own (oi 0 0) (.pair .int (.pair .int .int)) 0 n_a0,ai a1] [(oi 0 0,.arr 81 (.pair .int (.pair .int .int)) a0)] (ai r.2) [(oi 0 0,.arr 81 (.pair .int (.pair .int .int)) r.1)]:=by
 refine B8 (by kernel_rfl) Tryd.func34 Us (n:=34) (by kernel_rfl) (by simp) (tl:=[(0,.own (oi 0 0) (.pair .int (.pair .int .int)) 0 n_a0),(1,ai a1)]) rfl (by kernel_rfl) ⟨trivial,trivial⟩ ⟨trivial,trivial⟩ ?_;unfold M7;unfold Ew at h;refine An ?_;refine As h (fun t_ S_=>∃ (l3_m1:Int),∃ (l3_p0:List (Int×Int×Int)),t_=(l3_m1,l3_p0)∧S_=⟨Ap [(1,ai l3_m1)],Aj (Ar [(oi 0 0,.arr 81 (.pair .int (.pair .int .int)) l3_p0)]),2⟩) ?_ ?_
 ·intro v_ h;refine An ?_;refine Af ?_;refine Ax h (fun t_ S_=>∃ (l5_m1:Int),∃ (l5_m5:Nat),∃ (l5_m0:List (Int×Int×Int)),t_=(l5_m1,l5_m5,l5_m0)∧S_=⟨Ap [(0,.own (oi 0 0) (.pair .int (.pair .int .int)) 0 l5_m0.length),(1,ai l5_m1),(5,ai ((l5_m5:Nat):Int))],Aj (Ar [(oi 0 0,.arr 81 (.pair .int (.pair .int .int)) l5_m0)]),2⟩) ⟨_,(A9 0 (.own (oi 0 0) (.pair .int (.pair .int .int)) 0 n_a0) (.own (oi 0 0) (.pair .int (.pair .int .int)) 0 a0.length) (by kernel_rfl) (congrArg (fun z_=>((.own (oi 0 0) (.pair .int (.pair .int .int)) 0 z_):AV)) (hn_a0:n_a0=a0.length))).trans (Ac []),⟨a1,0,a0,rfl,rfl⟩⟩ ?_;rintro n_ _ _ c_ ⟨l5_m1,l5_m5,l5_m0,rfl,rfl⟩ h hn5
  (try dsimp only at h);unfold Dl at h;unfold Kc;refine Ab ?_;refine An ?_;rcases Ae h with ⟨q8,h⟩ | ⟨q8,h⟩
  ·have q8_:=of_decide_eq_true q8;refine Ah q8 ?_;refine Ai (tn_ ?_);refine wr_ ?_;refine Ab ?_;refine Af ?_;refine Ab ?_;obtain ⟨x11,e11,h⟩:=Ad h;refine Aa 12 ?_;refine rz0 (.own (oi 0 0) (.pair .int (.pair .int .int)) 0 l5_m0.length) ?_;refine rz0 (ai ((l5_m5:Nat):Int)) ?_;refine rz0 (ai l5_m1) ?_;refine rs0 (.elt (oi 0 0) l5_m5 0) (zo (t:=.pair .int (.pair .int .int)) (o:=oi 0 0) (len:=l5_m0.length) (k:=.i64) (m:=((l5_m5:Nat):Int)) (At _) (Al e11)) ?_;refine rz0 (.elt (oi 0 0) l5_m5 0) ?_;refine Nj (oi 0 0) (oi 0 0) (.arr 81 (.pair .int (.pair .int .int)) (l5_m0.set l5_m5 (l5_m1,x11.2))) (Ep (i:=oi 0 0) (j:=l5_m5) (k:=0) (e:=81) (t:=.pair .int (.pair .int .int)) (xs:=l5_m0) (cs:=[ai l5_m1,ai x11.2.1,ai x11.2.2]) (x1:=(l5_m1,x11.2)) (by kernel_rfl) (by kernel_rfl) e11 (by kernel_rfl) (by kernel_rfl)) ?_;refine Aq (tn_ ?_);refine wr_ ?_;refine An ?_;refine Ab ?_;obtain ⟨x14,e14,h⟩:=Ad h;refine Aa 21 ?_;refine rz0 (.own (oi 0 0) (.pair .int (.pair .int .int)) 0 l5_m0.length) ?_;refine rz0 (ai ((l5_m5:Nat):Int)) ?_;refine rz0 (ai (wI (l5_m1+1))) ?_;refine rs0 (.elt (oi 0 0) l5_m5 0) (zo (t:=.pair .int (.pair .int .int)) (o:=oi 0 0) (len:=l5_m0.length) (k:=.i64) (m:=((l5_m5:Nat):Int)) (At _) (Nat.lt_of_lt_of_le (Al e14) (Nat.le_of_eq (Eq.symm ((rfl:l5_m0.length=l5_m0.length).trans List.length_set.symm))))) ?_;refine rz0 (.elt (oi 0 0) l5_m5 1) ?_;refine Nj (oi 0 0) (oi 0 0) (.arr 81 (.pair .int (.pair .int .int)) ((l5_m0.set l5_m5 (l5_m1,x11.2)).set l5_m5 (x14.1,wI (l5_m1+1),x14.2.2))) (Ep (i:=oi 0 0) (j:=l5_m5) (k:=1) (e:=81) (t:=.pair .int (.pair .int .int)) (xs:=l5_m0.set l5_m5 (l5_m1,x11.2)) (cs:=[ai x14.1,ai (wI (l5_m1+1)),ai x14.2.2]) (x1:=(x14.1,wI (l5_m1+1),x14.2.2)) (by kernel_rfl) (by kernel_rfl) e14 (by kernel_rfl) (by kernel_rfl)) ?_;refine Aq (tn_ ?_);refine wr_ ?_;refine An ?_;refine Ab ?_;obtain ⟨x17,e17,h⟩:=Ad h;refine Aa 30 ?_;refine rz0 (.own (oi 0 0) (.pair .int (.pair .int .int)) 0 l5_m0.length) ?_;refine rz0 (ai ((l5_m5:Nat):Int)) ?_;refine rz0 (ai (wI (wI (l5_m1+1)+1))) ?_;refine rs0 (.elt (oi 0 0) l5_m5 0) (zo (t:=.pair .int (.pair .int .int)) (o:=oi 0 0) (len:=l5_m0.length) (k:=.i64) (m:=((l5_m5:Nat):Int)) (At _) (Nat.lt_of_lt_of_le (Al e17) (Nat.le_of_eq (Eq.symm (((rfl:l5_m0.length=l5_m0.length).trans List.length_set.symm).trans List.length_set.symm))))) ?_;refine rz0 (.elt (oi 0 0) l5_m5 2) ?_;refine Nj (oi 0 0) (oi 0 0) (.arr 81 (.pair .int (.pair .int .int)) (((l5_m0.set l5_m5 (l5_m1,x11.2)).set l5_m5 (x14.1,wI (l5_m1+1),x14.2.2)).set l5_m5 (x17.1,x17.2.1,wI (wI (l5_m1+1)+1)))) (Ep (i:=oi 0 0) (j:=l5_m5) (k:=2) (e:=81) (t:=.pair .int (.pair .int .int)) (xs:=(l5_m0.set l5_m5 (l5_m1,x11.2)).set l5_m5 (x14.1,wI (l5_m1+1),x14.2.2)) (cs:=[ai x17.1,ai x17.2.1,ai (wI (wI (l5_m1+1)+1))]) (x1:=(x17.1,x17.2.1,wI (wI (l5_m1+1)+1))) (by kernel_rfl) (by kernel_rfl) e17 (by kernel_rfl) (by kernel_rfl)) ?_;refine Aq (tn_ ?_);refine wr_ ?_;refine Aa 33 ?_;refine rsB 3 ?_;refine Aq (bn_ (tn_ ?_));refine wr_ ?_;obtain ⟨g18,h⟩:=Am h;refine Aa 36 ?_;refine rz0 (ai ((l5_m5:Nat):Int)) ?_;refine rs0 (ai ((l5_m5+1:Nat):Int)) (za g18) ?_;refine rsB 1 ?_;refine Aq (tn_ ?_);obtain rfl:=zj h;exact ⟨(wI (wI (wI (l5_m1+1)+1)+1),l5_m5+1,((l5_m0.set l5_m5 (l5_m1,x11.2)).set l5_m5 (x14.1,wI (l5_m1+1),x14.2.2)).set l5_m5 (x17.1,x17.2.1,wI (wI (l5_m1+1)+1))),_,(A9 0 (.own (oi 0 0) (.pair .int (.pair .int .int)) 0 l5_m0.length) (.own (oi 0 0) (.pair .int (.pair .int .int)) 0 ((((l5_m0.set l5_m5 (l5_m1,x11.2)).set l5_m5 (x14.1,wI (l5_m1+1),x14.2.2)).set l5_m5 (x17.1,x17.2.1,wI (wI (l5_m1+1)+1))).length)) (by kernel_rfl) (congrArg (fun z_=>((.own (oi 0 0) (.pair .int (.pair .int .int)) 0 z_):AV)) (((((rfl:l5_m0.length=l5_m0.length).trans List.length_set.symm).trans List.length_set.symm).trans List.length_set.symm):l5_m0.length=(((l5_m0.set l5_m5 (l5_m1,x11.2)).set l5_m5 (x14.1,wI (l5_m1+1),x14.2.2)).set l5_m5 (x17.1,x17.2.1,wI (wI (l5_m1+1)+1))).length))).trans (Ac []),⟨wI (wI (wI (l5_m1+1)+1)+1),l5_m5+1,((l5_m0.set l5_m5 (l5_m1,x11.2)).set l5_m5 (x14.1,wI (l5_m1+1),x14.2.2)).set l5_m5 (x17.1,x17.2.1,wI (wI (l5_m1+1)+1)),rfl,rfl⟩,hn5⟩
  have q8_:=of_decide_eq_false q8;refine Ag q8 ?_;refine Au (te_ (te_ (be_ (tn_ ?_))));obtain rfl:=zj h;have h:=hn5
  (try dsimp only at h);obtain rfl:=zj h;exact ⟨_,Ac [],⟨l5_m1,l5_m0,rfl,rfl⟩⟩
 rintro _ _ ⟨l3_m1,l3_p0,rfl,rfl⟩ h
 (try dsimp only at h);refine An ?_;refine Ao ?_;obtain rfl:=zj h;exact Gk [ai l3_m1] (Ac (tl:=[(4,ai l3_m1)]) (g:=2) [])
def Mi:AC :=
 (.seq (rg [xo 2 (.i (.box 34 (tm 0))),xo 4 (qm (ci 0))])
 (.seq (rg [xo 5 (qf 1 (tm 2)),xo 6 (ql (tm 5)),xo 7 (qm (tm 1)),⟨some 8,none,qc 34 [tm 6,tm 7] [[some (.pair .int (.pair .int .int))],[]]⟩,xo 1 (qm (tm 8))])
 (.seq (rg [xo 9 (qf 2 (tm 2)),xo 10 (ql (tm 9)),xo 11 (qm (tm 1)),xo 12 (qc 18 [tm 10,tm 11] [[some .int],[]]),xo 1 (qm (tm 12))])
 (.seq (rg [xo 13 (qf 3 (tm 2)),xo 14 (ql (tm 13)),xo 15 (qm (tm 1)),xo 16 (qc 18 [tm 14,tm 15] [[some .int],[]]),xo 1 (qm (tm 16))])
 (.seq (rg [xo 17 (qm (tm 1)),xo 4 (qm (tm 17))])
 .ret)))))
def T9:List Res:=[.tmp 4]
theorem Uk:Aw Tryd.prog Tryd.f11=some (Mi,T9):=by kernel_rfl
theorem Sp:A6 Tryd.prog 11=true:=by kernel_rfl
def Ey (a0_0:Int) (a0_1:List (Int×Int×Int)) (a0_2:List Int) (a0_3:List Int) (a1:Int):Option ((List (Int×Int×Int))×List Int×List Int×Int) :=
 Option.bind (Ew a0_1 a1) fun y4 =>
og (y4.1.length=(a0_1.length)) <|
Option.bind (Cu a0_2 y4.2) fun y7 =>
og (y7.1.length=(a0_2.length)) <|
Option.bind (Cu a0_3 y7.2) fun y10 =>
og (y10.1.length=(a0_3.length)) <|
some (y4.1,y7.1,y10.1,y10.2)
theorem Sy {a0_0:Int} {a0_1:List (Int×Int×Int)} {a0_2:List Int} {a0_3:List Int} {a1:Int} {r:(List (Int×Int×Int))×List Int×List Int×Int} (h:Ey a0_0 a0_1 a0_2 a0_3 a1=some r) {n_a0_1:Nat} (hn_a0_1:n_a0_1=a0_1.length) {n_a0_2:Nat} (hn_a0_2:n_a0_2=a0_2.length) {n_a0_3:Nat} (hn_a0_3:n_a0_3=a0_3.length):Fi Tryd.prog Tab 11 [.agg [ai a0_0,.own (oi 0 0) (.pair .int (.pair .int .int)) 0 n_a0_1,.own (oi 1 0) .int 0 n_a0_2,.own (oi 2 0) .int 0 n_a0_3],ai a1] [(oi 0 0,.arr 81 (.pair .int (.pair .int .int)) a0_1),(oi 1 0,.arr 3 .int a0_2),(oi 2 0,.arr 3 .int a0_3)] (ai r.2.2.2) [(oi 0 0,.arr 81 (.pair .int (.pair .int .int)) r.1),(oi 1 0,.arr 3 .int r.2.1),(oi 2 0,.arr 3 .int r.2.2.1)]:=by
 refine B8 (by kernel_rfl) Tryd.func11 Uk (n:=18) (by kernel_rfl) (by simp) (tl:=[(0,.agg [ai a0_0,.own (oi 0 0) (.pair .int (.pair .int .int)) 0 n_a0_1,.own (oi 1 0) .int 0 n_a0_2,.own (oi 2 0) .int 0 n_a0_3]),(1,ai a1)]) rfl (by kernel_rfl) ⟨trivial,⟨trivial,⟨trivial,trivial⟩⟩⟩ ⟨trivial,⟨trivial,⟨trivial,trivial⟩⟩⟩ ?_;unfold Mi;unfold Ey at h
 (try rw [← hn_a0_1] at h)
 (try rw [← hn_a0_2] at h)
 (try rw [← hn_a0_3] at h)
 refine An ?_;refine Ab ?_;obtain ⟨y4,h4,h⟩:=Ad h;obtain ⟨g5,h⟩:=Am h;refine Aa 8 ?_;refine rz0 (.box (oi 2 1) 1) ?_;refine rzl (.own (oi 0 0) (.pair .int (.pair .int .int)) 0 n_a0_1) ?_;refine rz0 (ai a1) ?_;refine C3 (ai y4.2) [(oi 0 0,some (.arr 81 (.pair .int (.pair .int .int)) y4.1)),(oi 0 0,none)] [] [.own (oi 0 0) (.pair .int (.pair .int .int)) 0 n_a0_1,ai a1] (caps:=[]) trivial (Su h4 hn_a0_1) Ss ⟨by kernel_rfl,trivial⟩ (.cons (.ren (by kernel_rfl)) (.cons (.ren (by kernel_rfl)) .nil)) (A7 (by kernel_rfl) (by kernel_rfl) ⟨B2 (by kernel_rfl),trivial⟩) ?_;refine rsB 1 ?_;refine Aq (tn_ ?_);refine wr_ ?_;refine Ab ?_;obtain ⟨y7,h7,h⟩:=Ad h;obtain ⟨g8,h⟩:=Am h;refine Aa 13 ?_;refine rz0 (.box (oi 2 1) 2) ?_;refine rzl (.own (oi 1 0) .int 0 n_a0_2) ?_;refine rz0 (ai y4.2) ?_;refine C3 (ai y7.2) [(oi 1 0,some (.arr 3 .int y7.1)),(oi 1 0,none)] [(oi 0 0,oi 1 0)] [.own (oi 1 0) .int 0 n_a0_2,ai y4.2] (caps:=[]) trivial (Fx h7 hn_a0_2) F6 ⟨by kernel_rfl,trivial⟩ (.cons (.ren (by kernel_rfl)) (.cons (.ren (by kernel_rfl)) .nil)) (A7 (by kernel_rfl) (by kernel_rfl) ⟨B2 (by kernel_rfl),trivial⟩) ?_;refine rsB 1 ?_;refine Aq (tn_ ?_);refine wr_ ?_;refine Ab ?_;obtain ⟨y10,h10,h⟩:=Ad h;obtain ⟨g11,h⟩:=Am h;refine Aa 18 ?_;refine rz0 (.box (oi 2 1) 3) ?_;refine rzl (.own (oi 2 0) .int 0 n_a0_3) ?_;refine rz0 (ai y7.2) ?_;refine C3 (ai y10.2) [(oi 2 0,some (.arr 3 .int y10.1)),(oi 2 0,none)] [(oi 0 0,oi 2 0)] [.own (oi 2 0) .int 0 n_a0_3,ai y7.2] (caps:=[]) trivial (Fx h10 hn_a0_3) F6 ⟨by kernel_rfl,trivial⟩ (.cons (.ren (by kernel_rfl)) (.cons (.ren (by kernel_rfl)) .nil)) (A7 (by kernel_rfl) (by kernel_rfl) ⟨B2 (by kernel_rfl),trivial⟩) ?_;refine rsB 1 ?_;refine Aq (tn_ ?_);refine wr_ ?_;refine An ?_;refine Ao ?_;obtain rfl:=zj h;exact Gk [ai y10.2] (Ac (tl:=[(4,ai y10.2)]) (g:=2) [])
end
end Go.Proofs.YtkaollfdhoaihaaDoor
