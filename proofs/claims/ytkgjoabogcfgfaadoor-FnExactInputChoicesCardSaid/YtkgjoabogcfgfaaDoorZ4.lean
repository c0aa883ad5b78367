/- Lemmas on the program and on partial functions that stand in place of its code (part 4); no condition beyond those that each one states. -/
import Derived.Test.YtkgjoabogcfgfaaDoorZ3
import Derived.KernelRfl
import Derived.IntWalk
namespace Go.Proofs.YtkgjoabogcfgfaaDoor
section
open Go.RowKit Go.Deep
section
variable {P:Program} {G:World->Prop}
theorem Ab {x y:AC} {R:AE->St->Prop} {S:St} (h:awp P G x (J5 (fun S'=>∃ S'',WeakG G S' S''∧awp P G y R S'') R) S):awp P G (.seq x y) R S:=h
theorem Aax {x y:AC} {R:AE->St->Prop} {S:St} (K:St->Prop) (h:awp P G x (J5 (fun S'=>∃ S'',WeakG G S' S''∧K S'') R) S) (k:∀ S'',K S''->awp P G y R S''):awp P G (.seq x y) R S:=by
 unfold awp
 exact Dl (fun e S hq=>by
  cases e with
  | normal=>obtain ⟨S'',hw,hk⟩:=hq; exact ⟨S'',hw,k S'' hk⟩
  | exit id=>exact hq
  | ret=>exact hq) h
def Aqc (rs:List Rec) (ds:List (List Oid)):List (Nat×Nat)->Bool
 | []=>true
 | p :: ps=>(let ri:=rs.getD p.2 (0,.any,[]); let rj:=rs.getD p.1 (0,.any,[]); let di:=ds.getD p.2 []; let dj:=ds.getD p.1 []
   ((!(ri.1==2)||rj.1==0)&&(!(rj.1==2)||ri.1==0))||((!(ri.1==2)||ri.2.2.all fun u=> !dj.contains u.1)&&((!(rj.1==2)||rj.2.2.all fun u=> !di.contains u.1)&&ri.2.2.all fun u=>rj.2.2.all fun v=> !(u.1==v.1))))&&Aqc rs ds ps
theorem Bv {rs:List Rec} {ds:List (List Oid)}:∀ {bad:List (Nat×Nat)},Aqc rs ds bad=true->Agf rs ds bad
 | [],_=>trivial
 | p :: ps,h=>by
  simp only [Aqc,Bool.and_eq_true] at h;refine ⟨?_,Bv h.2⟩;have h1:=h.1;simp only [Bool.or_eq_true,Bool.and_eq_true,Bool.not_eq_true',beq_eq_false_iff_ne,beq_iff_eq,List.all_eq_true,List.contains_eq_mem,decide_eq_false_iff_not] at h1;unfold Mo;rcases h1 with ⟨a,b⟩ | ⟨a,b,c⟩
  ·refine .inl ⟨fun e=>?_,fun e=>?_⟩
   ·rcases a with a | a
    ·exact absurd e a
    ·exact a
   ·rcases b with b | b
    ·exact absurd e b
    ·exact b
  ·refine .inr ⟨fun e=>?_,fun e=>?_,c⟩
   ·rcases a with a | a
    ·exact absurd e a
    ·exact a
   ·rcases b with b | b
    ·exact absurd e b
    ·exact b
def XW (P:Program) (G:World->Prop) (g k:Nat) (xs:List X) (tl:List (Nat×AV)) (ol:List (Oid×Option Ob)) (Kf:List (Nat×AV)->List (Oid×Option Ob)->Prop):Prop :=
 ∃ rs tl' ol',Aoe P G g k xs (Al tl) (Ah ol) rs (Al tl') (Ah ol')∧Kf tl' ol'
def XD (P:Program) (G:World->Prop) (bad:List (Nat×Nat)) (g k:Nat) (xs:List X) (tl:List (Nat×AV)) (ol:List (Oid×Option Ob)) (ra:List Rec) (da:List (List Oid)) (Kf:List (Nat×AV)->List (Oid×Option Ob)->Prop):Prop :=
 ∃ rs ds tl' ol',Ajo P G g k xs (Al tl) (Ah ol) rs ds (Al tl') (Ah ol')∧Agf (ra.reverse++rs) (da.reverse++ds) bad∧Kf tl' ol'
theorem Aa {xs:List X} {bad:List (Nat×Nat)} {R:AE->St->Prop} {tl:List (Nat×AV)} {ol:List (Oid×Option Ob)} {g:Nat} (g':Nat) (h:XW P G g 0 xs tl ol fun tl' ol'=>R .normal ⟨Al tl',Ah ol',g'⟩) (hn:g+xs.length=g':=by kernel_rfl):awp P G (.region xs false bad) R ⟨Al tl,Ah ol,g⟩:=by
 obtain ⟨rs,tl',ol',h,hr⟩:=h;exact ⟨rs,_,_,h,by subst hn; exact hr⟩
theorem Bb {xs:List X} {bad:List (Nat×Nat)} {R:AE->St->Prop} {tl:List (Nat×AV)} {ol:List (Oid×Option Ob)} {g:Nat} (g':Nat) (h:XD P G bad g 0 xs tl ol [] [] fun tl' ol'=>R .normal ⟨Al tl',Ah ol',g'⟩) (hn:g+xs.length=g':=by kernel_rfl):awp P G (.region xs true bad) R ⟨Al tl,Ah ol,g⟩:=by
 obtain ⟨rs,ds,tl',ol',h,hb,hr⟩:=h;exact ⟨rs,ds,_,_,h,hb,by subst hn; exact hr⟩
theorem Mg (tl:List (Nat×AV)) (d:Nat) (v:AV):upd (Al tl) d v=Al ((d,v) :: tl):=by
 funext i;rfl
def Ir:Option Ob->Bool
 | some (.pool ..)=>false
 | some (.mat ..)=>false
 | some (.tv ..)=>false
 | _=>true
def Fn (us:List (Oid×Option Ob)):Bool:=us.all fun u=>Ir u.2
theorem Fd {ol:List (Oid×Option Ob)} {j:Oid} {o:Option Ob} (h:Ir o=true):upd (Ah ol) j o=Ah ((j,o) :: ol):=by
 cases o with
 | none=>funext i; rfl
 | some o=>cases o <;> first | (funext i; rfl) | cases h
theorem Ha:∀ (us ol:List (Oid×Option Ob)),Fn us=true->Ar us (Ah ol)=Ah (us.reverseAux ol)
 | [],_,_=>rfl
 | (j,o) :: us,ol,h=>by
  simp only [Fn,List.all_cons,Bool.and_eq_true] at h;show Ar us (upd (Ah ol) j o)=_;rw [Fd h.1];exact Ha us _ h.2
theorem H3 {p:Bool} {n:Nat} {x:X} {f:Nat->AV} {ob:Oid->Option Ob} {r:Rec} (h:Ba n x f ob=some r):Ez P G p n x f ob r:=by
 unfold Ba at h;unfold Ez;split at h
 ·exact .inl (.inl (.inl h))
 ·split at h
  ·rename_i hc;exact ⟨true,hc,by rw [if_pos rfl]; exact .inl (.inl (.inl h))⟩
  ·rename_i hc;exact ⟨false,hc,by rw [if_neg (by simp)]; exact (osj h).symm⟩
  ·cases h
def T0 (gd:Option (Nat×Bool)) (f:Nat->AV):Prop :=
 match gd with
 | none=>True
 | some (s,c)=>f s=.bool c
theorem Ac4 {s:Nat} {b:Bool} {f:Nat->AV} (h:T0 (some (s,b)) f):gdv (f s) b=some true:=by
 rw [show f s=.bool b from h]; simp [gdv]
theorem Ed {s:Nat} {b c:Bool} {f:Nat->AV} (h:f s=.bool c) (hc:c=b):T0 (some (s,b)) f:=by subst hc; exact h
theorem Aiz {p:Bool} {n:Nat} {d:Option Nat} {gd:Option (Nat×Bool)} {fo:Opd} {xs:List Opd} {tys:List (List (Option Ty))} {f:Nat->AV} {ob:Oid->Option Ob} {F:FuncId} {caps args0 args:List AV} {rv:RV} {r:AV×List (Oid×Option Ob)}
  (hgd:T0 gd f) (hfo:fo.ev f=.fn F caps) (h1:Nu (gnd ob 8) ((xs++caps.map Opd.cst).map (Opd.ev f))=some args0) (hn:Pw tys args0=args) (hb:A5 P F=true) (hc:A6 P G F args rv) (hni:rv.noI=true) (hr:rv.out (Db ((d.getD 0,0),n)) ((xs++caps.map Opd.cst).map (Opd.ev f))=r) :
  Ez P G p n ⟨d,gd,.call fo xs tys⟩ f ob (1,r.1,r.2):=by
 subst hn;have key:EvR P G p f ob ((d.getD 0,0),n) (.call fo xs tys) (1,r.1,r.2):=.inr ⟨fo,xs,tys,F,caps,rfl,hfo,.inl ⟨rfl,hb,args0,rv,.inl ⟨h1,hni⟩,hc,hr⟩⟩;unfold Ez;cases gd with
 | none=>exact key
 | some sb=>exact ⟨true,Ac4 hgd,by rw [if_pos rfl]; exact key⟩
theorem Ah7 {n:Nat} {d:Option Nat} {gd:Option (Nat×Bool)} {fo:Opd} {xs:List Opd} {tys:List (List (Option Ty))} {f:Nat->AV} {ob:Oid->Option Ob} {F:FuncId} {caps zs args:List AV} {v:AV} {ol us:List (Oid×Ob)} (θ:Oid->Oid)
  (hgd:T0 gd f) (hfo:fo.ev f=.fn F caps) (hz:(xs++caps.map Opd.cst).map (Opd.ev f)=zs) (h1:P6 θ (Vh ((nmL ol).map θ) ob) zs args) (h2:∀ q∈exL ol,ob (θ q.1)=some (q.2.ren θ)) (h3:∀ q∈exL ol,∀ q'∈exL ol,θ q.1=θ q'.1->q.1=q'.1) (h4:∀ j∈nmL ol,Reached zs ob (θ j))
  (h5:∀ q∈exL us,q.1.2=1∨(q.1.2=0∧q.1∈nmL ol)) (hb:A5 P F=true) (hc:Dd P G F args ol v us) :
  Ez P G false n ⟨d,gd,.call fo xs tys⟩ f ob (2,v.ren (Bx θ ((d.getD 0,0),n)),G6 θ ((d.getD 0,0),n) ol us):=by
 have hN:Alr P G f ob ((d.getD 0,0),n) F (xs++caps.map Opd.cst) (v.ren (Bx θ ((d.getD 0,0),n)),G6 θ ((d.getD 0,0),n) ol us):=by
  rw [← hz] at h1 h4;refine ⟨hb,θ,args,ol,us,v,h1,h2,fun j k hj hk e=>?_,h4,hc,fun j hj=>?_,rfl⟩
  ·obtain ⟨q,hq,rfl⟩:=List.mem_map.1 hj;obtain ⟨q',hq',rfl⟩:=List.mem_map.1 hk;exact h3 q hq q' hq' e
  ·obtain ⟨q,hq,rfl⟩:=List.mem_map.1 hj;rcases h5 q hq with h | ⟨_,h⟩
   ·exact .inl (by rw [h]; decide)
   ·exact .inr h
 have key:EvR P G false f ob ((d.getD 0,0),n) (.call fo xs tys) (2,v.ren (Bx θ ((d.getD 0,0),n)),G6 θ ((d.getD 0,0),n) ol us):=.inr ⟨fo,xs,tys,F,caps,rfl,hfo,.inr ⟨rfl,rfl,hN⟩⟩;unfold Ez;cases gd with
 | none=>exact key
 | some sb=>exact ⟨true,Ac4 hgd,by rw [if_pos rfl]; exact key⟩
theorem Ao3 {n:Nat} {d:Option Nat} {gd:Option (Nat×Bool)} {q:Q} {f:Nat->AV} {ob:Oid->Option Ob} {r:Rec} (hgd:T0 gd f) (h:evL f ((d.getD 0,0),n) q=some r):Ez P G false n ⟨d,gd,q⟩ f ob r:=by
 have key:EvR P G false f ob ((d.getD 0,0),n) q r:=.inl (.inl (.inr h));unfold Ez;cases gd with
 | none=>exact key
 | some sb=>exact ⟨true,Ac4 hgd,by rw [if_pos rfl]; exact key⟩
theorem Aob {n:Nat} {d:Option Nat} {gd:Option (Nat×Bool)} {q:Q} {f:Nat->AV} {ob:Oid->Option Ob} {r:Rec} (hgd:T0 gd f) (h:Afv f ((d.getD 0,0),n) q r):Ez P G false n ⟨d,gd,q⟩ f ob r:=by
 have key:EvR P G false f ob ((d.getD 0,0),n) q r:=.inl (.inr h);unfold Ez;cases gd with
 | none=>exact key
 | some sb=>exact ⟨true,Ac4 hgd,by rw [if_pos rfl]; exact key⟩
theorem As {g k:Nat} {tl:List (Nat×AV)} {ol:List (Oid×Option Ob)} {Kf:List (Nat×AV)->List (Oid×Option Ob)->Prop} (h:Kf tl ol):XW P G g k [] tl ol Kf:=⟨[],tl,ol,⟨rfl,rfl,rfl⟩,h⟩
theorem Lz {bad:List (Nat×Nat)} {g k:Nat} {tl:List (Nat×AV)} {ol:List (Oid×Option Ob)} {ra:List Rec} {da:List (List Oid)} {Kf:List (Nat×AV)->List (Oid×Option Ob)->Prop} (hb:Agf (ra.reverse++[]) (da.reverse++[]) bad) (h:Kf tl ol):XD P G bad g k [] tl ol ra da Kf:=⟨[],[],tl,ol,⟨rfl,rfl,rfl,rfl⟩,hb,h⟩
section
variable {g k d:Nat} {gd:Option (Nat×Bool)} {q:Q} {xs:List X} {tl:List (Nat×AV)} {ol:List (Oid×Option Ob)} {bad:List (Nat×Nat)} {ra:List Rec} {da:List (List Oid)} {Kf:List (Nat×AV)->List (Oid×Option Ob)->Prop}
theorem Ahq (c:Nat) (v:AV) (us ol':List (Oid×Option Ob)) (h:Ez P G false (g+k) ⟨some d,gd,q⟩ (Al tl) (Ah ol) (c,v,us)) (he:Ar us (Ah ol)=Ah ol') (h3:XW P G g (k+1) xs ((d,v) :: tl) ol' Kf):XW P G g k (⟨some d,gd,q⟩ :: xs) tl ol Kf :=
 by
 obtain ⟨rs,tl',ol',h3,hk⟩:=h3;exact ⟨_,tl',ol',⟨_,_,rfl,h,by simp only [Jn,Mg,he]; exact h3⟩,hk⟩
theorem Ant (c:Nat) (v:AV) (us ol':List (Oid×Option Ob)) (h:Ez P G false (g+k) ⟨none,gd,q⟩ (Al tl) (Ah ol) (c,v,us)) (he:Ar us (Ah ol)=Ah ol') (h3:XW P G g (k+1) xs tl ol' Kf):XW P G g k (⟨none,gd,q⟩ :: xs) tl ol Kf :=
 by
 obtain ⟨rs,tl',ol',h3,hk⟩:=h3;exact ⟨_,tl',ol',⟨_,_,rfl,h,by simp only [Jn,he]; exact h3⟩,hk⟩
theorem Alk (c:Nat) (v:AV) (us ol':List (Oid×Option Ob)) (h:Ez P G false (g+k) ⟨some d,gd,q⟩ (Al tl) (only (rdX (Al tl) (Ah ol) ⟨some d,gd,q⟩) (Ah ol)) (c,v,us)) (he:Ar us (Ah ol)=Ah ol') (h3:XD P G bad g (k+1) xs ((d,v) :: tl) ol' ((c,v,us) :: ra) ((rdX (Al tl) (Ah ol) ⟨some d,gd,q⟩) :: da) Kf):XD P G bad g k (⟨some d,gd,q⟩ :: xs) tl ol ra da Kf :=
 by
 obtain ⟨rs,ds,tl',ol',h3,hb,hk⟩:=h3;refine ⟨_,_,tl',ol',⟨_,rs,ds,rfl,rfl,h,by simp only [Jn,Mg,he]; exact h3⟩,?_,hk⟩
 simpa using hb
theorem Anu (c:Nat) (v:AV) (us ol':List (Oid×Option Ob)) (h:Ez P G false (g+k) ⟨none,gd,q⟩ (Al tl) (only (rdX (Al tl) (Ah ol) ⟨none,gd,q⟩) (Ah ol)) (c,v,us)) (he:Ar us (Ah ol)=Ah ol') (h3:XD P G bad g (k+1) xs tl ol' ((c,v,us) :: ra) ((rdX (Al tl) (Ah ol) ⟨none,gd,q⟩) :: da) Kf):XD P G bad g k (⟨none,gd,q⟩ :: xs) tl ol ra da Kf :=
 by
 obtain ⟨rs,ds,tl',ol',h3,hb,hk⟩:=h3;refine ⟨_,_,tl',ol',⟨_,rs,ds,rfl,rfl,h,by simp only [Jn,he]; exact h3⟩,?_,hk⟩
 simpa using hb
theorem Aa7 (c:Nat) (v:AV) (us:List (Oid×Option Ob)) (h:Ez P G false (g+k) ⟨some d,gd,q⟩ (Al tl) (Ah ol) (c,v,us)) (h3:XW P G g (k+1) xs ((d,v) :: tl) (us.reverseAux ol) Kf) (hx:Fn us=true):XW P G g k (⟨some d,gd,q⟩ :: xs) tl ol Kf:=Ahq c v us _ h (Ha us ol hx) h3
theorem Ap5 (c:Nat) (v:AV) (us:List (Oid×Option Ob)) (h:Ez P G false (g+k) ⟨none,gd,q⟩ (Al tl) (Ah ol) (c,v,us)) (h3:XW P G g (k+1) xs tl (us.reverseAux ol) Kf) (hx:Fn us=true):XW P G g k (⟨none,gd,q⟩ :: xs) tl ol Kf:=Ant c v us _ h (Ha us ol hx) h3
theorem Aef (c:Nat) (v:AV) (us:List (Oid×Option Ob)) (h:Ez P G false (g+k) ⟨some d,gd,q⟩ (Al tl) (only (rdX (Al tl) (Ah ol) ⟨some d,gd,q⟩) (Ah ol)) (c,v,us)) (h3:XD P G bad g (k+1) xs ((d,v) :: tl) (us.reverseAux ol) ((c,v,us) :: ra) ((rdX (Al tl) (Ah ol) ⟨some d,gd,q⟩) :: da) Kf) (hx:Fn us=true):XD P G bad g k (⟨some d,gd,q⟩ :: xs) tl ol ra da Kf:=Alk c v us _ h (Ha us ol hx) h3
theorem App (c:Nat) (v:AV) (us:List (Oid×Option Ob)) (h:Ez P G false (g+k) ⟨none,gd,q⟩ (Al tl) (only (rdX (Al tl) (Ah ol) ⟨none,gd,q⟩) (Ah ol)) (c,v,us)) (h3:XD P G bad g (k+1) xs tl (us.reverseAux ol) ((c,v,us) :: ra) ((rdX (Al tl) (Ah ol) ⟨none,gd,q⟩) :: da) Kf) (hx:Fn us=true):XD P G bad g k (⟨none,gd,q⟩ :: xs) tl ol ra da Kf:=Anu c v us _ h (Ha us ol hx) h3
theorem Aq1 {ol':List (Oid×Option Ob)} (he:Ah ol=Ah ol') (h:XW P G g k xs tl ol' Kf):XW P G g k xs tl ol Kf:=by
 obtain ⟨rs,tl',ol2,h1,h2⟩:=h;exact ⟨rs,tl',ol2,by rw [he]; exact h1,h2⟩
theorem Aja {ol':List (Oid×Option Ob)} (he:Ah ol=Ah ol') (h:XD P G bad g k xs tl ol' ra da Kf):XD P G bad g k xs tl ol ra da Kf:=by
 obtain ⟨rs,ds,tl',ol2,h1,h2⟩:=h;exact ⟨rs,ds,tl',ol2,by rw [he]; exact h1,h2⟩
-- the shape of most steps: what the machine says is found by reckoning
theorem rs0 (v:AV) (h:Ba (g+k) ⟨some d,gd,q⟩ (Al tl) (Ah ol)=some (0,v,[])) (h3:XW P G g (k+1) xs ((d,v) :: tl) ol Kf):XW P G g k (⟨some d,gd,q⟩ :: xs) tl ol Kf:=Aa7 0 v [] (H3 h) h3 rfl
theorem rsl (v:AV) (h:Ba (g+k) ⟨some d,gd,q⟩ (Al tl) (Ah ol)=some (1,v,[])) (h3:XW P G g (k+1) xs ((d,v) :: tl) ol Kf):XW P G g k (⟨some d,gd,q⟩ :: xs) tl ol Kf:=Aa7 1 v [] (H3 h) h3 rfl
theorem rs1 (v:AV) (i:Oid) (o:Ob) (h:Ba (g+k) ⟨some d,gd,q⟩ (Al tl) (Ah ol)=some (1,v,[(i,some o)])) (h3:XW P G g (k+1) xs ((d,v) :: tl) ((i,some o) :: ol) Kf) (hx:Ir (some o)=true:=by rfl):XW P G g k (⟨some d,gd,q⟩ :: xs) tl ol Kf:=Aa7 1 v _ (H3 h) h3 (by simp only [Fn,List.all_cons,List.all_nil,hx]; rfl)
theorem rs2 (v:AV) (j i:Oid) (o:Ob) (h:Ba (g+k) ⟨some d,gd,q⟩ (Al tl) (Ah ol)=some (2,v,[(j,none),(i,some o)])) (h3:XW P G g (k+1) xs ((d,v) :: tl) ((i,some o) :: (j,none) :: ol) Kf) (hx:Ir (some o)=true:=by rfl):XW P G g k (⟨some d,gd,q⟩ :: xs) tl ol Kf:=Aa7 2 v _ (H3 h) h3 (by simp only [Fn,List.all_cons,List.all_nil,hx]; rfl)
theorem Ami (j i:Oid) (o:Ob) (h:Ba (g+k) ⟨none,gd,q⟩ (Al tl) (Ah ol)=some (2,.any,[(j,none),(i,some o)])) (h3:XW P G g (k+1) xs tl ((i,some o) :: (j,none) :: ol) Kf) (hx:Ir (some o)=true:=by rfl):XW P G g k (⟨none,gd,q⟩ :: xs) tl ol Kf:=Ap5 2 _ _ (H3 h) h3 (by simp only [Fn,List.all_cons,List.all_nil,hx]; rfl)
theorem ds0 (v:AV) (h:Ba (g+k) ⟨some d,gd,q⟩ (Al tl) (only (rdX (Al tl) (Ah ol) ⟨some d,gd,q⟩) (Ah ol))=some (0,v,[])) (h3:XD P G bad g (k+1) xs ((d,v) :: tl) ol ((0,v,[]) :: ra) ((rdX (Al tl) (Ah ol) ⟨some d,gd,q⟩) :: da) Kf):XD P G bad g k (⟨some d,gd,q⟩ :: xs) tl ol ra da Kf:=Aef 0 v [] (H3 h) h3 rfl
theorem dsl (v:AV) (h:Ba (g+k) ⟨some d,gd,q⟩ (Al tl) (only (rdX (Al tl) (Ah ol) ⟨some d,gd,q⟩) (Ah ol))=some (1,v,[])) (h3:XD P G bad g (k+1) xs ((d,v) :: tl) ol ((1,v,[]) :: ra) ((rdX (Al tl) (Ah ol) ⟨some d,gd,q⟩) :: da) Kf):XD P G bad g k (⟨some d,gd,q⟩ :: xs) tl ol ra da Kf:=Aef 1 v [] (H3 h) h3 rfl
theorem ds2 (v:AV) (j i:Oid) (o:Ob) (h:Ba (g+k) ⟨some d,gd,q⟩ (Al tl) (only (rdX (Al tl) (Ah ol) ⟨some d,gd,q⟩) (Ah ol))=some (2,v,[(j,none),(i,some o)])) (h3:XD P G bad g (k+1) xs ((d,v) :: tl) ((i,some o) :: (j,none) :: ol) ((2,v,[(j,none),(i,some o)]) :: ra) ((rdX (Al tl) (Ah ol) ⟨some d,gd,q⟩) :: da) Kf) (hx:Ir (some o)=true:=by rfl):XD P G bad g k (⟨some d,gd,q⟩ :: xs) tl ol ra da Kf:=Aef 2 v _ (H3 h) h3 (by simp only [Fn,List.all_cons,List.all_nil,hx]; rfl)
theorem Aji (j i:Oid) (o:Ob) (h:Ba (g+k) ⟨none,gd,q⟩ (Al tl) (only (rdX (Al tl) (Ah ol) ⟨none,gd,q⟩) (Ah ol))=some (2,.any,[(j,none),(i,some o)])) (h3:XD P G bad g (k+1) xs tl ((i,some o) :: (j,none) :: ol) ((2,.any,[(j,none),(i,some o)]) :: ra) ((rdX (Al tl) (Ah ol) ⟨none,gd,q⟩) :: da) Kf) (hx:Ir (some o)=true:=by rfl):XD P G bad g k (⟨none,gd,q⟩ :: xs) tl ol ra da Kf:=App 2 _ _ (H3 h) h3 (by simp only [Fn,List.all_cons,List.all_nil,hx]; rfl)
section
variable {fo:Opd} {ys:List Opd} {tys:List (List (Option Ty))} {F:FuncId} {caps:List AV} {rv:RV} {args0:List AV}
theorem Fe (v:AV) (us:List (Oid×Option Ob)) (zs args:List AV) (hgd:T0 gd (Al tl)) (h1:Nu (gnd (Ah ol) 8) zs=some args0) (hc:A6 P G F args rv) (hb:A5 P F=true) (h3:XW P G g (k+1) xs ((d,v) :: tl) (us.reverseAux ol) Kf) (hfo:fo.ev (Al tl)=.fn F caps:=by kernel_rfl) (hz:(ys++caps.map Opd.cst).map (Opd.ev (Al tl))=zs:=by kernel_rfl) (hn:Pw tys args0=args:=by kernel_rfl) (hr:rv.out (Db ((d,0),g+k)) zs=(v,us):=by kernel_rfl) (hx:Fn us=true:=by rfl) (hni:rv.noI=true:=by kernel_rfl):XW P G g k (⟨some d,gd,.call fo ys tys⟩ :: xs) tl ol Kf:=by
 subst hz;exact Aa7 1 v us (Aiz (P:=P) (G:=G) (p:=false) (n:=g+k) (d:=some d) hgd hfo h1 hn hb hc hni hr) h3 hx
theorem Nl (v:AV) (us:List (Oid×Option Ob)) (zs args:List AV) (hgd:T0 gd (Al tl)) (h1:Nu (gnd (only (rdX (Al tl) (Ah ol) ⟨some d,gd,.call fo ys tys⟩) (Ah ol)) 8) zs=some args0) (hc:A6 P G F args rv) (hb:A5 P F=true) (h3:XD P G bad g (k+1) xs ((d,v) :: tl) (us.reverseAux ol) ((1,v,us) :: ra) ((rdX (Al tl) (Ah ol) ⟨some d,gd,.call fo ys tys⟩) :: da) Kf) (hfo:fo.ev (Al tl)=.fn F caps:=by kernel_rfl) (hz:(ys++caps.map Opd.cst).map (Opd.ev (Al tl))=zs:=by kernel_rfl) (hn:Pw tys args0=args:=by kernel_rfl) (hr:rv.out (Db ((d,0),g+k)) zs=(v,us):=by kernel_rfl) (hx:Fn us=true:=by rfl) (hni:rv.noI=true:=by kernel_rfl):XD P G bad g k (⟨some d,gd,.call fo ys tys⟩ :: xs) tl ol ra da Kf:=by
 subst hz;exact Aef 1 v us (Aiz (P:=P) (G:=G) (p:=false) (n:=g+k) (d:=some d) hgd hfo h1 hn hb hc hni hr) h3 hx
def Ai2 (l:List (Oid×Oid)) (ol us:List (Oid×Ob)) (n:Nat) (ol0:List (Oid×Option Ob)):Bool:=Ni l&&(Cx ol&&(Ao0 (Bc l) ol&&(Ahj ol us&&Jx n ol0)))
theorem Afi {l:List (Oid×Oid)} {ol us:List (Oid×Ob)} {n:Nat} {ol0:List (Oid×Option Ob)} (h:Ai2 l ol us n ol0=true) (hR:Ade ol0 (Bc l) ol) :
  (∀ q∈exL ol,Ah ol0 (Bc l q.1)=some (q.2.ren (Bc l)))∧(∀ q∈exL ol,∀ q'∈exL ol,Bc l q.1=Bc l q'.1->q.1=q'.1)∧(∀ q∈exL us,q.1.2=1∨(q.1.2=0∧q.1∈nmL ol))∧∀ i:Oid,i.2=n->Ar (G6 (Bc l) i ol us) (Ah ol0)=Ah (Ap (Oy (Bx (Bc l) i) us)++(J0 (Bc l) ol++ol0)):=by
 simp only [Ai2,Bool.and_eq_true] at h;obtain ⟨c1,c2,c3,c4,c5⟩:=h;refine ⟨Adq c1 hR (Af8 c2),Alx (fun p e u xss hm k=>Gk c1 ?_ k) c3 c2,Ac2 c4,fun i hi=>Amz c1 c2 hR c4 (by rw [hi]; exact c5) c3⟩;unfold Cx at c2;rw [List.all_eq_true] at c2;have:=c2 _ hm;simp only [Bool.and_eq_true,beq_iff_eq] at this;exact this.1
theorem Cr (v:AV) (ul:List (Oid×Option Ob)) (l:List (Oid×Oid)) (zs:List AV) {args:List AV} {ol0 us:List (Oid×Ob)} {v0:AV} (hgd:T0 gd (Al tl)) (hc:Dd P G F args ol0 v0 us) (hb:A5 P F=true) (hR:Ade ol (Bc l) ol0) (h1:P6 (Bc l) (Vh ((nmL ol0).map (Bc l)) (Ah ol)) zs args) (h4:∀ j∈nmL ol0,Reached zs (Ah ol) (Bc l j)) (h3:XW P G g (k+1) xs ((d,v) :: tl) (ul++ol) Kf) (hfo:fo.ev (Al tl)=.fn F caps:=by kernel_rfl) (hz:(ys++caps.map Opd.cst).map (Opd.ev (Al tl))=zs:=by kernel_rfl) (hB:Ai2 l ol0 us (g+k) ol=true:=by kernel_rfl) (hv:v0.ren (Bx (Bc l) ((d,0),g+k))=v:=by kernel_rfl) (hu:Ap (Oy (Bx (Bc l) ((d,0),g+k)) us)++J0 (Bc l) ol0=ul:=by kernel_rfl):XW P G g k (⟨some d,gd,.call fo ys tys⟩ :: xs) tl ol Kf:=by
 subst hv hu;obtain ⟨q1,q2,q3,q4⟩:=Afi hB hR;exact Ahq 2 _ _ _ (Ah7 (n:=g+k) (d:=some d) (Bc l) hgd hfo hz h1 q1 q2 h4 q3 hb hc) (q4 ((d,0),g+k) rfl) (by rw [List.append_assoc] at h3; exact h3)
theorem T8 (v:AV) (ul:List (Oid×Option Ob)) (l:List (Oid×Oid)) (zs:List AV) {args:List AV} {ol0 us:List (Oid×Ob)} {v0:AV} (hgd:T0 gd (Al tl)) (hc:Dd P G F args ol0 v0 us) (hb:A5 P F=true) (hR:Ade ol (Bc l) ol0) (h1:P6 (Bc l) (Vh ((nmL ol0).map (Bc l)) (only (rdX (Al tl) (Ah ol) ⟨some d,gd,.call fo ys tys⟩) (Ah ol))) zs args) (h4:∀ j∈nmL ol0,Reached zs (only (rdX (Al tl) (Ah ol) ⟨some d,gd,.call fo ys tys⟩) (Ah ol)) (Bc l j)) (hd:∀ q∈exL ol0,Bc l q.1∈rdX (Al tl) (Ah ol) ⟨some d,gd,.call fo ys tys⟩) (h3:XD P G bad g (k+1) xs ((d,v) :: tl) (ul++ol) ((2,v,G6 (Bc l) ((d,0),g+k) ol0 us) :: ra) ((rdX (Al tl) (Ah ol) ⟨some d,gd,.call fo ys tys⟩) :: da) Kf) (hfo:fo.ev (Al tl)=.fn F caps:=by kernel_rfl) (hz:(ys++caps.map Opd.cst).map (Opd.ev (Al tl))=zs:=by kernel_rfl) (hB:Ai2 l ol0 us (g+k) ol=true:=by kernel_rfl) (hv:v0.ren (Bx (Bc l) ((d,0),g+k))=v:=by kernel_rfl) (hu:Ap (Oy (Bx (Bc l) ((d,0),g+k)) us)++J0 (Bc l) ol0=ul:=by kernel_rfl):XD P G bad g k (⟨some d,gd,.call fo ys tys⟩ :: xs) tl ol ra da Kf:=by
 subst hv hu;obtain ⟨q1,q2,q3,q4⟩:=Afi hB hR;exact Alk 2 _ _ _ (Ah7 (n:=g+k) (d:=some d) (Bc l) hgd hfo hz h1 (fun q hq=>by unfold only; rw [if_pos (hd q hq)]; exact q1 q hq) q2 h4 q3 hb hc) (q4 ((d,0),g+k) rfl) (by rw [List.append_assoc] at h3; exact h3)
end
end
-- what arguments read as
theorem Fl {g:AV->Option AV}:Nu g []=some []:=rfl
theorem Bi {g:AV->Option AV} {c d:AV} {cs ds:List AV} (h:g c=some d) (hs:Nu g cs=some ds):Nu g (c :: cs)=some (d :: ds):=by simp only [Nu,h,hs]
section
variable {ob:Oid->Option Ob} {n:Nat}
theorem Qo {i:Oid} {t u:Ty} {e:TypeId} {xs:List u.D} {len:Nat} (h:ob i=some (.arr e u xs)) (hl:len=xs.length):gnd ob (n+1) (.own i t 0 len)=some (.tree u xs):=by
 subst hl;simp only [gnd,h,Nat.zero_add,Nat.le_refl,if_true,List.drop_zero,List.take_length]
theorem Apu {i:Oid} {t u:Ty} {e:TypeId} {xs ys:List u.D} {off len:Nat} (h:ob i=some (.arr e u xs)) (hl:off+len<=xs.length) (hy:ys=(xs.drop off).take len):gnd ob (n+1) (.own i t off len)=some (.tree u ys):=by
 subst hy;simp only [gnd,h,if_pos hl]
theorem Ag0 {cs ds:List AV} (h:Nu (gnd ob n) cs=some ds):gnd ob (n+1) (.agg cs)=some (.agg ds):=by simp only [gnd,h,Option.map_some]
end
-- steps that hang on something
section
variable {n:Nat} {d:Option Nat} {f:Nat->AV} {ob:Oid->Option Ob}
theorem Nv {s:Nat} {b c:Bool} {q:Q} {r:Option Rec} (hs:f s=.bool c) (hc:c=b) (h:Ba n ⟨d,none,q⟩ f ob=r):Ba n ⟨d,some (s,b),q⟩ f ob=r:=by
 subst hc;simp only [Ba,hs,gdv,beq_self_eq_true]; exact h
theorem Cw {s:Nat} {b c:Bool} {q:Q} (hs:f s=.bool c) (hc:c= !b):Ba n ⟨d,some (s,b),q⟩ f ob=some (0,.tup [],[]):=by
 subst hc;cases b <;> simp [Ba,hs,gdv]
theorem Ank {c x y:Opd} {b:Bool} (h:c.ev f=.bool b) (hb:b=true):Ba n ⟨d,none,.i (.pick c x y)⟩ f ob=some (0,x.ev f,[]):=by
 subst hb; simp [Ba,ev,evN,h]
theorem Anq {c x y:Opd} {b:Bool} (h:c.ev f=.bool b) (hb:b=false):Ba n ⟨d,none,.i (.pick c x y)⟩ f ob=some (0,y.ev f,[]):=by
 subst hb; simp [Ba,ev,evN,h]
theorem Ag3 {sz:Nat} {x i:Opd} {t:Ty} {xs:List t.D} {y:t.D} {k:IntKind} {m:Int} {j:Nat} (hx:(x.ev f).un=.tree t xs) (hi:i.ev f=.int k m) (hs:sz=t.size) (h0:0<=m) (hj:m.toNat=j) (hy:xs[j]? =some y) {g:Option (Nat->Prop)} (hg:(x.ev f).tag=g:=by kernel_rfl):Ba n ⟨d,none,.i (.idx sz x i)⟩ f ob=some (0,.telt g t y 0,[]):=by
 subst hs hj hg;simp [Ba,ev,evN,hx,hi,h0,hy]
theorem Ag2 {sz:Nat} {x i:Opd} {t:Ty} {o:Oid} {len:Nat} {k:IntKind} {m:Int} {j:Nat} (hx:x.ev f=.own o t 0 len) (hi:i.ev f=.int k m) (hs:sz=t.size) (h0:0<=m) (hj:m.toNat=j) (hl:j<len):Ba n ⟨d,none,.i (.idx sz x i)⟩ f ob=some (0,.elt o j 0,[]):=by
 subst hs hj;have:m<(len:Int):=by omega
 simp [Ba,ev,evN,hx,hi,h0,AV.un,this]
theorem Aqf {sz:Nat} {x i:Opd} {t:Ty} {o:Oid} {off len:Nat} {k:IntKind} {m:Int} {j:Nat} (hx:x.ev f=.own o t off len) (hi:i.ev f=.int k m) (hs:sz=t.size) (h0:0<=m) (hj:off+m.toNat=j) (hl:m.toNat<len):Ba n ⟨d,none,.i (.idx sz x i)⟩ f ob=some (0,.elt o j 0,[]):=by
 subst hs hj;have:m<(len:Int):=by omega
 simp [Ba,ev,evN,hx,hi,h0,AV.un,this]
def tyA:Nat->Ty
 | 0=>.int
 | n+1=>.pair .int (tyA n)
def E7:(n:Nat)->List Int->(tyA n).D
 | 0,l=>l.getD 0 0
 | n+1,l=>(l.getD 0 0,E7 n l.tail)
theorem Ot:∀ (n:Nat) (l:List Int),((tyA n).av (E7 n l)).length=n+1
 | 0,_=>rfl
 | n+1,l=>by simp [tyA,E7,Ty.av,Ot n]
theorem Tr:∀ (n:Nat) (l:List Int),(tyA n).ofAV ((tyA n).av (E7 n l))=some (E7 n l)
 | 0,_=>rfl
 | n+1,l=>by
  have:=Tr n l.tail;simp only [tyA,E7,Ty.av,List.cons_append,List.nil_append,Ty.ofAV,Ty.size,List.take_succ_cons,List.take_zero,List.drop_succ_cons,List.drop_zero,this,ofI,obs,Option.map_some]
theorem Aqp {m N:Nat} {x:Opd} {i:Oid} {e:Nat} {ty:TypeId} {xs:List (tyA N).D} {l:List Int} (hx:x.ev f=.elt i e 0) (hob:ob i=some (.arr ty (tyA N) xs)) (hl:xs[e]? =some (E7 N l)) (hm:m=N+1):Ba n ⟨d,none,.i (.ld false m x)⟩ f ob=some (1,.agg ((tyA N).av (E7 N l)),[]):=by
 subst hm;have h1:=Ot N l;simp [Ba,ev,evN,evR,hx,hob,hl,C8,h1];rw [List.take_of_length_le (by omega)]
theorem Ae6:∀ (n:Nat) (l:List Int),((tyA n).av (E7 n l)).all AV.one=true
 | 0,_=>rfl
 | n+1,l=>by simp [tyA,E7,Ty.av,AV.one,Ae6 n,← List.all_eq_true]
theorem Aqw {m N:Nat} {x y:Opd} {i:Oid} {e:Nat} {ty:TypeId} {xs ys:List (tyA N).D} {l l2:List Int} (hx:x.ev f=.elt i e 0) (hob:ob i=some (.arr ty (tyA N) xs)) (hl:xs[e]? =some (E7 N l)) (hm:m=N+1) (hv:y.ev f=.agg ((tyA N).av (E7 N l2))) (hs:xs.set e (E7 N l2)=ys) :
  Ba n ⟨d,none,.st false m x y⟩ f ob=some (2,.any,[(i,none),(i,some (.arr ty (tyA N) ys))]):=by
 subst hs hm;have h1:=Ot N l;have h2:=Ot N l2;have h3:=Ae6 N l2
 have h4:G1 false (N+1) 0 ((tyA N).av (E7 N l)) (.agg ((tyA N).av (E7 N l2)))=some ((tyA N).av (E7 N l2)):=by
  simp only [G1,h2,h1,h3,Nat.zero_add,Nat.le_refl,and_self,if_true,List.take_zero,List.nil_append,Bool.false_eq_true,if_false];rw [List.drop_of_length_le (by omega),List.append_nil]
 simp [Ba,ev,Zr,hx,hob,hl,hv,h4,Tr]
theorem Mi {one:Bool} {m:Nat} {x:Opd} {i:Oid} {j k:Nat} {e:TypeId} {t:Ty} {xs:List t.D} {y:t.D} {c:AV} (hx:x.ev f=.elt i j k) (hob:ob i=some (.arr e t xs)) (hy:xs[j]? =some y) (hc:C8 one m k (t.av y)=some c):Ba n ⟨d,none,.i (.ld one m x)⟩ f ob=some (1,c,[]):=by
 simp [Ba,ev,evN,evR,hx,hob,hy,hc]
theorem Aij {one:Bool} {m:Nat} {x y:Opd} {i:Oid} {j k:Nat} {e:TypeId} {t:Ty} {xs:List t.D} {x0 x1:t.D} {cs:List AV} (hx:x.ev f=.elt i j k) (hob:ob i=some (.arr e t xs)) (hy:xs[j]? =some x0) (hc:G1 one m k (t.av x0) (y.ev f)=some cs) (hd:t.ofAV cs=some x1):Ba n ⟨d,none,.st one m x y⟩ f ob=some (2,.any,[(i,none),(i,some (.arr e t (xs.set j x1)))]):=by
 simp [Ba,ev,Zr,hx,hob,hy,hc,hd]
theorem Ya {e:TypeId} {t:Ty} {by_:Nat} {l c:Opd} {k k':IntKind} {m m':Int} {j:Nat} (hl:l.ev f=.int k m) (hc:c.ev f=.int k' m') (h:0<=m∧m<=m'∧m'<=1073741824∧(by_:Int)*m'<=140737488355328) (hj:m.toNat=j):Ba n ⟨d,none,.make e t by_ l c⟩ f ob=some (1,.own ((d.getD 0,0),n) t 0 j,[(((d.getD 0,0),n),some (.arr e t (List.replicate j t.dflt)))]):=by
 subst hj;simp only [Ba,ev,Yl,hl,hc,if_pos h]
theorem Ahm {t t':Ty} {i:Oid} {e:TypeId} {xs:List t.D} {len:Nat} (h:ob i=some (.arr e t xs)) (hl:len=xs.length):Eg ob t (.own i t' 0 len)=some xs:=by
 subst hl;simp only [Eg,h,Nat.zero_add,Nat.le_refl,if_true,Ty.eq?_self,Do,List.drop_zero,List.take_length]
theorem Acz {t:Ty} {xs:List t.D}:Eg ob t (.tree t xs)=some xs:=by simp only [Eg,Ty.eq?_self,Do]
theorem Abj {e:TypeId} {t t':Ty} {by_:Nat} {x y:Opd} {c:AV} {ys xs zs:List t.D} {j:Oid} {len:Nat} (hx:x.ev f=.own j t' 0 len) (hob:ob j=some (.arr e t xs)) (hl:len=xs.length) (hy:y.ev f=c) (hs:Eg ob t c=some ys) (hz:zs=xs++ys) (h:xs.length+ys.length<=1073741824∧(xs.length+ys.length)*by_<=140737488355328) :
  Ba n ⟨d,none,.append e t by_ x y⟩ f ob=some (2,.own (j.1,n) t 0 zs.length,[(j,none),((j.1,n),some (.arr e t zs))]):=by
 subst hl hz;simp only [Ba,ev,Ie,hx,hy,hs,hob,Ty.eq?_self,Nat.le_refl,true_and,h.1,h.2,and_self,if_true,Do,List.take_length,List.length_append]
theorem Yf {sz:Nat} {x:Opd} {lo hi:Option Opd} {t:Ty} {i:Oid} {off len o' j:Nat} {l h:Int} (hx:x.ev f=.own i t off len) (hl:Ee f 0 lo=some l) (hh:Ee f len hi=some h) (hs:t.size=sz) (hb:0<=l∧l<=h∧h<=len) (ho:off+l.toNat=o') (hj:(h - l).toNat=j) :
  Ba n ⟨d,none,.slice sz x lo hi none⟩ f ob=some (0,.own i t o' j,[]):=by
 subst hs ho hj;simp only [Ba,ev,Pd,hx,AV.un,hl,hh,true_and,hb.1,hb.2.1,hb.2.2,and_self,if_true]
theorem Aqi {x y:Opd} {j:Nat} (hx:x.ev f=.int .i64 j) (hy:y.ev f=.int .i64 1) (h:j+1<4611686018427387904):Ba n ⟨d,none,.i (.bin .add x y)⟩ f ob=some (0,.int .i64 ((j+1:Nat):Int),[]):=by
 have:IntKind.i64.wrap ((j:Int)+1)=((j+1:Nat):Int):=by rw [Go.IntWalk.i64_in _ (by omega)]; rfl
 simp [Ba,ev,evN,W8,hx,hy,this]
theorem Aqr {x y:Opd} {k:IntKind} {a b:Int} (hx:x.ev f=.int k a) (hy:y.ev f=.int k b) (h:b≠0):Ba n ⟨d,none,.i (.bin .quo x y)⟩ f ob=some (0,.int k (k.wrap (a.tdiv b)),[]):=by
 simp [Ba,ev,evN,W8,hx,hy,h]
theorem Qb {x y:Opd} {k:IntKind} {a b:Int} (hx:x.ev f=.int k a) (hy:y.ev f=.int k b) (h:b≠0):Ba n ⟨d,none,.i (.bin .rem x y)⟩ f ob=some (0,.int k (a.tmod b),[]):=by
 simp [Ba,ev,evN,W8,hx,hy,h]
end
theorem Ae {c:Opd} {x y:AC} {R:AE->St->Prop} {S:St} {t:Bool} (ht:t=true) (h1:awp P G x R S) (h:c.ev S.tm=.bool t:=by kernel_rfl):awp P G (.cond c x y) R S:=by
 subst ht; exact .inl ⟨true,h,fun _=>h1,fun h=>(nomatch h)⟩
theorem Af {c:Opd} {x y:AC} {R:AE->St->Prop} {S:St} {t:Bool} (ht:t=false) (h2:awp P G y R S) (h:c.ev S.tm=.bool t:=by kernel_rfl):awp P G (.cond c x y) R S:=by
 subst ht; exact .inl ⟨false,h,fun h=>(nomatch h),fun _=>h2⟩
theorem Ai {i:Nat} {a:AC} {R:AE->St->Prop} {S:St} (h:awp P G a (Hv i R) S):awp P G (.block i a) R S:=h
theorem Akb {a:AC} {R:AE->St->Prop} {S:St} {α:Type} (I:α->St->Prop) (μ:α->Nat) (h0:∃ s S0,WeakG G S S0∧I s S0) (h1:∀ s S1,I s S1->awp P G a (J5 (fun S2=>∃ s' S3,WeakG G S2 S3∧I s' S3∧μ s'<μ s) R) S1):awp P G (.loop a) R S:=⟨α,I,μ,h0,h1⟩
theorem Aw {i:Nat} {R:AE->St->Prop} {S:St} (h:R (.exit i) S):awp P G (.exit i) R S:=h
theorem Aj {R:AE->St->Prop} {S:St} (h:R .normal S):awp P G .skip R S:=h
theorem Ak {R:AE->St->Prop} {S:St} (h:R .ret S):awp P G .ret R S:=h
end
section
variable {K:St->Prop} {R:AE->St->Prop} {S:St} {i j:Nat}
theorem tn_ (h:K S):J5 K R .normal S:=h
theorem te_ (h:R (.exit i) S):J5 K R (.exit i) S:=h
theorem tr_ (h:R .ret S):J5 K R .ret S:=h
theorem bn_ (h:R .normal S):Hv i R .normal S:=h
theorem be_ (h:R .normal S):Hv i R (.exit i) S:=by simpa [Hv] using h
theorem br_ (h:R .ret S):Hv i R .ret S:=h
end
def tmL:Nat->List AV->List (Nat×AV)
 | _,[]=>[]
 | k,v :: r=>(k,v) :: tmL (k+1) r
theorem Adw:∀ (l:List AV) (k i:Nat),Al (tmL k l) (k+i)=l.getD i .any
 | [],k,i=>by simp [tmL,Al]
 | v :: r,k,i=>by
  cases i with
  | zero=>simp [tmL,Al]
  | succ i =>
   have:=Adw r (k+1) i;simp only [tmL,Al];rw [if_neg (by omega),show k+(i+1)=k+1+i by omega,this];simp
theorem Ab0 (args:List AV):(fun i=>args.getD i .any)=Al (tmL 0 args):=by
 funext i;have:=Adw args 0 i;rw [Nat.zero_add] at this;exact this.symm
theorem St.init_eq (args:List AV):St.init args=⟨Al (tmL 0 args),Ah [],1⟩:=by
 unfold St.init;rw [Ab0];rfl
theorem Aat {G:World->Prop} {tl:List (Nat×AV)} {ol:List (Oid×Option Ob)} {g:Nat} (s:Nat) (e:TypeId) (t:Ty) (ht:t.flat=true) (hs:Al tl s=.nils):WeakG G ⟨Al tl,Ah ol,g⟩ ⟨Al ((s,.own ((s,0),g) t 0 0) :: tl),Ah ((((s,0),g),some (.arr e t [])) :: ol),g+1⟩:=by
 have:=Amh (G:=G) (S:=⟨Al tl,Ah ol,g⟩) s e t ht hs;rw [Mg] at this;have e2:upd (Ah ol) ((s,0),g) (some (.arr e t []))=Ah ((((s,0),g),some (.arr e t [])) :: ol):=Fd rfl;rw [e2] at this;exact this
theorem Bk {G:World->Prop} {tl:List (Nat×AV)} {ol:List (Oid×Option Ob)} {g:Nat} (s:Nat) (v v':AV) (h:Al tl s=v) (e:v=v'):WeakG G ⟨Al tl,Ah ol,g⟩ ⟨Al ((s,v') :: tl),Ah ol,g⟩:=by
 subst e
 have:Al ((s,v) :: tl)=Al tl:=by
  funext i;simp only [Al];split
  ·rename_i e; rw [e]; exact h.symm
  ·rfl
 rw [this]; exact WeakG.refl _
theorem Kl {G:World->Prop} {tl:List (Nat×AV)} {ol:List (Oid×Option Ob)} {g:Nat} (j:Oid) (o o':Ob) (h:Ah ol j=some o) (e:o=o') (hx:Ir (some o)=true:=by rfl):WeakG G ⟨Al tl,Ah ol,g⟩ ⟨Al tl,Ah ((j,some o') :: ol),g⟩:=by
 subst e
 have:Ah ((j,some o) :: ol)=Ah ol:=by
  rw [← Fd hx,Alw _ _ _ h]
 rw [this]; exact WeakG.refl _
theorem Hs {G:World->Prop} {tl:List (Nat×AV)} {ol:List (Oid×Option Ob)} {g:Nat} (s:Nat) (e:TypeId) (t:Ty) (hs:Al tl s=.nils):WeakG G ⟨Al tl,Ah ol,g⟩ ⟨Al ((s,.own ((s,0),g) t 0 0) :: tl),Ah ((((s,0),g),some (.vec e 1 0 [])) :: ol),g+1⟩:=by
 have:=Akk (G:=G) (S:=⟨Al tl,Ah ol,g⟩) s e t hs;rw [Mg] at this;have e2:upd (Ah ol) ((s,0),g) (some (.vec e 1 0 []))=Ah ((((s,0),g),some (.vec e 1 0 [])) :: ol):=Fd rfl;rw [e2] at this;exact this
theorem Iq {G:World->Prop} {tl:List (Nat×AV)} {ol:List (Oid×Option Ob)} {g:Nat} (s:Nat) (c:Oid) (k:Nat) (ty:TypeId) (cs ds:List AV) (e:TypeId) (t:Ty) (hb:Ah ol c=some (.cells ty cs)) (hk:cs[k]? =some .nils) (hd:cs.set k (.own ((s,0),g) t 0 0)=ds) :
  WeakG G ⟨Al tl,Ah ol,g⟩ ⟨Al tl,Ah ((c,some (.cells ty ds)) :: (((s,0),g),some (.vec e 1 0 [])) :: ol),g+1⟩:=by
 subst hd;have:=Yz (G:=G) (S:=⟨Al tl,Ah ol,g⟩) s c k ty cs e t hb hk;have e2:upd (upd (Ah ol) ((s,0),g) (some (.vec e 1 0 []))) c (some (.cells ty (cs.set k (.own ((s,0),g) t 0 0))))=Ah ((c,some (.cells ty (cs.set k (.own ((s,0),g) t 0 0)))) :: (((s,0),g),some (.vec e 1 0 [])) :: ol):=by rw [Fd rfl,Fd rfl]
 rw [← e2];exact this
def Apd (ol us:List (Oid×Ob)) (args:List AV) (v:AV):Bool :=
 (Cx ol&&(Cx us&&((ol.all fun q=>q.1.2==0)&&((us.all fun q=>q.1.2==1||(!q.2.isPool&&(Bf ol).contains q.1))&&(ndB (Bf us)&&ndB (Bq us))))))&&((ol.all fun q=>q.2.clo1 (Bf ol))&&((us.all fun q=>q.2.hp1 (Bf us))&&(AV.cloL (Bf ol) args&&AV.hpB (Bf us) v)))
def Ss (ol:List (Oid×Ob)):List (Oid×Ob)->Prop
 | []=>True
 | q :: r=>(match q.2 with
  | .mat _ p u xss=>∃ e,(p,Ob.pool e u xss)∈ol
  | _=>True)∧Ss ol r
theorem J2 {ol:List (Oid×Ob)}:∀ {l:List (Oid×Ob)},Ss ol l->∀ i e p u xss,(i,Ob.mat e p u xss)∈l->∃ e,(p,Ob.pool e u xss)∈ol
 | _ :: _,h,i,e,p,u,xss,hm=>by
  rcases List.mem_cons.1 hm with rfl | hm
  ·exact h.1
  ·exact J2 h.2 i e p u xss hm
theorem Vq {ol:List (Oid×Ob)} {p:Oid} {e:TypeId} {u:Ty} {xss:List (List u.D)}:(p,Ob.pool e u xss)∈ol->∀ k,k<xss.length->kid p k∈nmL ol:=by
 induction ol with
 | nil=>intro h; cases h
 | cons x r ih =>
  obtain ⟨x1,x2⟩:=x;intro h k hk;rcases List.mem_cons.1 h with h | h
  ·cases h;simp only [nmL,exL,List.map_append,List.mem_append];refine .inl (List.mem_map.2 ⟨(kid p k,.arr e u xss[k]),List.mem_map.2 ⟨(xss[k],k),?_,rfl⟩,rfl⟩);rw [List.mem_zipIdx_iff_getElem?]; exact gEg hk
  ·have:=ih h k hk;cases x2 <;> simp only [nmL,exL,List.map_cons,List.map_append] at this⊢ <;> first | exact List.mem_cons_of_mem _ this | exact List.mem_append_right _ this
theorem Fc {ol:List (Oid×Ob)} {i:Oid} (h:i∈Bf ol):i∈nmL ol:=by
 obtain ⟨o,ho,hp⟩:=Amm h;exact List.mem_map.2 ⟨_,Vo ho hp,rfl⟩
theorem Ak6 {D:Oid->Prop} {p:Oid} {u:Ty} (xss:List (List u.D)) (h:∀ k,k<xss.length->D (kid p k)):AV.hpL D (hdL p u xss):=by
 have key:∀ l:List (List u.D×Nat),(∀ x∈l,D (kid p x.2))->AV.hpL D (l.map fun x=>.own (kid p x.2) u 0 x.1.length):=by
  intro l
  induction l with
  | nil=>intro _; trivial
  | cons x l ih=>intro h; exact ⟨h x (by simp),ih fun y hy=>h y (by simp [hy])⟩
 refine key _ fun x hx=>h _ ?_
 obtain ⟨row,k⟩:=x;rw [List.mem_zipIdx_iff_getElem?] at hx;exact (gSi.1 hx).1
theorem Amt {D:List Oid} (o:Ob) (h:o.clo1 D=true) (hp:o.isPool=false) (hm:∀ e p u xss,o≠.mat e p u xss):o.exp.cloP (·∈D):=by
 cases o with
 | cells _ cs=>exact AV.cloPL_of cs h
 | vec _ _ _ cs=>exact AV.cloPL_of cs h
 | mat e p u xss=>exact absurd rfl (hm _ _ _ _)
 | arr _ _ _=>trivial
 | map _ _ _=>trivial
 | pool _ _ _=>cases hp
 | tv e m t xs=>exact Aha xs
theorem Alq {D:List Oid} (o:Ob) (h:o.hp1 D=true) (hp:o.isPool=false) (hm:∀ e p u xss,o≠.mat e p u xss):o.exp.hp (·∈D):=by
 cases o with
 | cells _ cs=>exact AV.hpB_PL cs h
 | vec _ _ _ cs=>exact AV.hpB_PL cs h
 | mat e p u xss=>exact absurd rfl (hm _ _ _ _)
 | arr _ _ _=>trivial
 | map _ _ _=>trivial
 | pool _ _ _=>cases hp
 | tv e m t xs=>cases h
theorem cloP_mono {D E:Oid->Prop} (hd:∀ i,D i->E i) (o:Ob) (h:o.cloP D):o.cloP E:=by
 cases o <;> first | exact AV.cloPL_mono hd _ h | exact h
theorem hp_mono {D E:Oid->Prop} (hd:∀ i,D i->E i) (o:Ob) (h:o.hp D):o.hp E:=by
 cases o <;> first | exact AV.hpL_mono hd _ h | exact h
section
variable {P:Program} {G:World->Prop} (hfol:P.follows .mixedOrders=true) {g:FuncId} {fn:Func} (hf:P.funcs[g]? =some fn) {ac:AC} {rs:List Res} (hc:Aq P fn=some (ac,rs)) {args:List AV} {r:RV} {n:Nat} (hN:fn.ntmps=n) (hn:args.length<=n)
include hfol hf hc hN hn
theorem A1 [IsP P] {tl:List (Nat×AV)} (htl:tmL 0 args=tl) (h:awp P G ac (fun e S=>∃ S',WeakG G S S'∧(e=.normal∨e=.ret)∧RetOK [] rs S' r) ⟨Al tl,Ah [],1⟩):A6 P G g args r:=by
 refine Ano hfol hf hc hN hn ?_;rw [St.init_eq,htl];exact h
omit hN hn in
theorem Cd [IsP P] (hN:fn.ntmps=n) (hn:args.length<=n) {tl:List (Nat×AV)} (htl:tmL 0 args=tl) {ol us:List (Oid×Ob)} {v:AV} (hB:Apd ol us args v=true) (hm1:Ss ol ol) (hm2:Ss us us)
  (h:awp P G ac (fun e S=>∃ S',WeakG G S S'∧(e=.normal∨e=.ret)∧(∃ rvs,Res.evL S'.tm S'.ob rs=some rvs∧v=Ado rvs)∧∀ q∈exL us,S'.ob q.1=some q.2) ⟨Al tl,Ah (Ap ol),1⟩):Dd P G g args ol v us:=by
 simp only [Apd,Bool.and_eq_true] at hB;obtain ⟨⟨a1,a2,a3,a4,a5,a6⟩,b1,b2,b3,b4⟩:=hB;rw [List.all_eq_true] at a3 a4 b1 b2
 have h0:∀ {l:List (Oid×Ob)},Cx l=true->∀ q∈l,q.1.1.2=0:=fun h q hq=>by
  unfold Cx at h;rw [List.all_eq_true] at h;have:=h q hq;simp only [Bool.and_eq_true,beq_iff_eq] at this;exact this.1
 refine Af1 hfol hf hc hN hn (fun q hq=>?_) (Ah4 (Cy a5) (Cy a6) (h0 a2)) (fun q hq=>?_) (AV.cloPL_mono (fun i hi=>Fc hi) _ (AV.cloPL_of args b3)) (AV.hp_mono (fun i hi=>Fc hi) _ (AV.hpB_P v b4)) ?_
 ·rcases E8 hq with ⟨p,e,u,xss,k,row,m1,m2,rfl⟩ | ⟨o,m1,m2,m3⟩
  ·have:=a3 _ m1;rw [beq_iff_eq] at this;exact ⟨this,trivial⟩
  ·have:=a3 _ m1;refine ⟨by simpa using this,?_⟩;rw [m3];by_cases hmt:∃ e p u xss,o=.mat e p u xss
   ·obtain ⟨e,p,u,xss,rfl⟩:=hmt;obtain ⟨e',hp⟩:=J2 hm1 _ _ _ _ _ m1;exact Agq xss fun k hk=>Vq hp k hk
   ·exact cloP_mono (fun i hi=>Fc hi) _ (Amt o (b1 _ m1) m2 fun e p u xss h=>hmt ⟨e,p,u,xss,h⟩)
 ·rcases E8 hq with ⟨p,e,u,xss,k,row,m1,m2,rfl⟩ | ⟨o,m1,m2,m3⟩
  ·have:=a4 _ m1;simp only [Ob.isPool,Bool.not_true,Bool.false_and,Bool.or_false,beq_iff_eq] at this;exact ⟨.inl this,.inl trivial⟩
  ·have:=a4 _ m1;simp only [Bool.or_eq_true,Bool.and_eq_true,beq_iff_eq] at this;refine ⟨this.imp id fun h=>Fc (List.contains_iff_mem.1 h.2),.inl ?_⟩;rw [m3];by_cases hmt:∃ e p u xss,o=.mat e p u xss
   ·obtain ⟨e,p,u,xss,rfl⟩:=hmt;obtain ⟨e',hp⟩:=J2 hm2 _ _ _ _ _ m1;exact Ak6 xss fun k hk=>Vq hp k hk
   ·exact hp_mono (fun i hi=>Fc hi) _ (Alq o (b2 _ m1) m2 fun e p u xss h=>hmt ⟨e,p,u,xss,h⟩)
 ·rw [Ab0,htl];exact h
end
theorem Bm {G:World->Prop} {rs:List Res} {f:Nat->AV} {ob:Oid->Option Ob} {g:Nat} {r:RV} (avs:List AV) {vs:List Value} {e:AE} (h2:PartsR vs ob avs r.ps) (he:e=.normal∨e=.ret:=by simp) (h1:Res.evL f ob rs=some avs:=by kernel_rfl) (h3:ndB (Zv ob (Sh avs))=true:=by kernel_rfl) (h4:r.tup=decide (rs.length≠1):=by kernel_rfl):∃ S',WeakG G ⟨f,ob,g⟩ S'∧(e=.normal∨e=.ret)∧RetOK vs rs S' r :=
 ⟨_,WeakG.refl _,he,avs,r.ps,h1,h2,Cy h3,by cases r; cases h4; rfl⟩
theorem Dw {G:World->Prop} {rs:List Res} {S:St} {tl:List (Nat×AV)} {g:Nat} {v:AV} {us:List (Oid×Ob)} {e:AE} (rvs:List AV) (hw:WeakG G S ⟨Al tl,Ah (Ap us),g⟩) (he:e=.normal∨e=.ret:=by simp) (h1:Res.evL (Al tl) (Ah (Ap us)) rs=some rvs:=by kernel_rfl) (hv:v=Ado rvs:=by kernel_rfl) (h2:(Cx us&&(ndB (Bf us)&&ndB (Bq us)))=true:=by kernel_rfl) :
  ∃ S',WeakG G S S'∧(e=.normal∨e=.ret)∧(∃ rvs,Res.evL S'.tm S'.ob rs=some rvs∧v=Ado rvs)∧∀ q∈exL us,S'.ob q.1=some q.2:=by
 refine ⟨_,hw,he,⟨rvs,h1,hv⟩,fun q hq=>?_⟩;simp only [Bool.and_eq_true] at h2;obtain ⟨a1,a2,a3⟩:=h2
 have h0:∀ q∈us,q.1.1.2=0:=fun q hq=>by
  unfold Cx at a1;rw [List.all_eq_true] at a1;have:=a1 q hq;simp only [Bool.and_eq_true,beq_iff_eq] at this;exact this.1
 have:=Mu (rest:=[]) (Cy a2) (Cy a3) (fun p hp=>by obtain ⟨e,u,xss,hm⟩:=Apx hp; exact h0 _ hm) (fun i hi p hp k e=>by
  obtain ⟨o,ho,_⟩:=Amm hi;have:=h0 _ ho;rw [e] at this;simp [kid] at this) q hq
 rwa [List.append_nil] at this
section
variable {vs:List Value} {ob:Oid->Option Ob}
theorem Aqt {cs r:List AV} {ls:List RL} {ps:List (Bool×List RL)} (h1:LeavesR vs ob cs ls) (h2:PartsR vs ob r ps):PartsR vs ob (.agg cs :: r) ((true,ls) :: ps):=⟨ls,ps,rfl,h1,h2⟩
theorem A8 {c:AV} {r:List AV} {l:RL} {ps:List (Bool×List RL)} (hc:c.one=true) (h1:LeafR vs ob c l) (h2:PartsR vs ob r ps):PartsR vs ob (c :: r) ((false,[l]) :: ps):=by
 rw [M2 (by rintro ⟨_,rfl⟩; cases hc)];exact ⟨l,ps,rfl,h1,h2⟩
theorem A7:PartsR vs ob [] []:=rfl
theorem Ak2 {c:AV} {cs:List AV} {l:RL} {ls:List RL} (h1:LeafR vs ob c l) (h2:LeavesR vs ob cs ls):LeavesR vs ob (c :: cs) (l :: ls):=⟨l,ls,rfl,h1,h2⟩
theorem Aq2:LeavesR vs ob [] []:=rfl
theorem Apr {c:AV} {l:RL} (h:Qu ob c=some l):LeafR vs ob c l:=.inl (.inl h)
theorem Ut {i:Oid} {t u:Ty} {e:TypeId} {xs:List u.D} {len:Nat} (h:ob i=some (.arr e u xs)) (hl:len=xs.length):LeafR vs ob (.own i t 0 len) (.new e u xs):=by
 subst hl;exact .inl (.inl (by simp only [Qu,h,Nat.le_refl,and_self,if_true,List.take_length]))
end
end
section
open Go.RowKit Go.Deep
abbrev tm (n:Nat):Opd:=.tmp n
abbrev cb (b:Bool):Opd:=.cst (.bool b)
abbrev ci (n:Int):Opd:=.cst (.int .i64 n)
abbrev xo (d:Nat) (q:Q):X:=⟨some d,none,q⟩
abbrev xn (q:Q):X:=⟨none,none,q⟩
abbrev qm (x:Opd):Q:=.i (.mov x)
abbrev ql (x:Opd):Q:=.i (.ld true 1 x)
abbrev qs (x y:Opd):Q:=.st true 1 x y
abbrev qf (k:Nat) (x:Opd):Q:=.i (.fld k x)
abbrev qb (o:BinOp) (x y:Opd):Q:=.i (.bin o x y)
abbrev qx (sz:Nat) (x y:Opd):Q:=.i (.idx sz x y)
abbrev qc (f:FuncId) (xs:List Opd) (tys:List (List (Option Ty))):Q:=.call (.cst (.fn f [])) xs tys
abbrev rg (xs:List X):AC:=.region xs false []
abbrev ai (n:Int):AV:=.int .i64 n
abbrev oi (a b:Nat):Oid:=((a,0),b)
def Apy (d:Option Nat) (v:AV) (tl:List (Nat×AV)):List (Nat×AV) :=
 match d with
 | some d=>(d,v) :: tl
 | none=>tl
theorem Ap7 (d:Option Nat) (v:AV) (tl:List (Nat×AV)):Jn d v (Al tl)=Al (Apy d v tl):=by
 cases d with
 | none=>rfl
 | some d=>simp only [Jn,Apy,Mg]
noncomputable def Abw (g:Nat):Nat->Nat->List X->List (Nat×AV)->List (Oid×Option Ob)->Option (List (Nat×AV)×List (Oid×Option Ob))
 | 0,_,_,tl,ol=>some (tl,ol)
 | _+1,_,[],_,_=>none
 | n+1,k,x :: xs,tl,ol=>match Ba (g+k) x (Al tl) (Ah ol) with
  | some (_,v,us)=>if Fn us then Abw g n (k+1) xs (Apy x.dst v tl) (us.reverseAux ol) else none
  | none=>none
theorem Aq4 {P:Program} {G:World->Prop} {g:Nat} {Kf:List (Nat×AV)->List (Oid×Option Ob)->Prop}:∀ (n k:Nat) (xs:List X) (tl:List (Nat×AV)) (ol:List (Oid×Option Ob)) (r:List (Nat×AV)×List (Oid×Option Ob)),Abw g n k xs tl ol=some r->XW P G g (k+n) (xs.drop n) r.1 r.2 Kf->XW P G g k xs tl ol Kf
 | 0,k,xs,tl,ol,r,h,hk=>by
  obtain rfl:=osj h;exact hk
 | n+1,k,[],tl,ol,r,h,hk=>by cases h
 | n+1,k,x :: xs,tl,ol,r,h,hk=>by
  simp only [Abw] at h;split at h
  ·rename_i c v us hst;split at h
   ·rename_i hx;obtain ⟨rs,tl',ol',h1,h2⟩:=Aq4 (P:=P) (G:=G) n (k+1) xs _ _ r h (by rw [show k+1+n=k+(n+1) by omega]; exact hk);exact ⟨(c,v,us) :: rs,tl',ol',⟨_,_,rfl,H3 hst,by rw [Ap7,Ha _ _ hx]; exact h1⟩,h2⟩
   ·cases h
  ·cases h
theorem rsB {P:Program} {G:World->Prop} {g k:Nat} {xs:List X} {tl:List (Nat×AV)} {ol:List (Oid×Option Ob)} {Kf:List (Nat×AV)->List (Oid×Option Ob)->Prop} (n:Nat) (hk:XW P G g (k+n) (xs.drop n) ((Abw g n k xs tl ol).getD ([],[])).1 ((Abw g n k xs tl ol).getD ([],[])).2 Kf) (h:(Abw g n k xs tl ol).isSome=true:=by kernel_rfl):XW P G g k xs tl ol Kf:=by
 obtain ⟨r,hr⟩:=Option.isSome_iff_exists.1 h;rw [hr] at hk;exact Aq4 n k xs tl ol r hr hk
theorem Am {P:Program} {G:World->Prop} {g:Nat} {xs:List X} {bad:List (Nat×Nat)} {y:AC} {R:AE->St->Prop} {tl:List (Nat×AV)} {ol:List (Oid×Option Ob)} (h:awp P G y R ⟨Al ((Abw g xs.length 0 xs tl ol).getD ([],[])).1,Ah ((Abw g xs.length 0 xs tl ol).getD ([],[])).2,g+xs.length⟩) (hs:(Abw g xs.length 0 xs tl ol).isSome=true:=by kernel_rfl):awp P G (.seq (.region xs false bad) y) R ⟨Al tl,Ah ol,g⟩:=by
 refine Ab (Aa (g+xs.length) (rsB xs.length (by rw [List.drop_length]; exact As (tn_ ⟨_,WeakG.refl _,h⟩)) hs) rfl)
theorem Aa2 {i:Oid} {ob:Oid->Option Ob}:only [i] ob i=ob i:=if_pos (List.mem_singleton.2 rfl)
section
variable {n:Nat} {d:Option Nat} {f:Nat->AV} {ob:Oid->Option Ob} {ol:List (Oid×Option Ob)}
theorem E0 {x:Opd} {o p:Oid} {e1:TypeId} {u:Ty} {xss:List (List u.D)} {row:List u.D} {j:Nat} (hx:x.ev f=.elt o j 0) (hob:ob o=some (.vec e1 1 xss.length (hdL p u xss))) (hr:xss[j]? =some row):Ba n ⟨d,none,.i (.ld true 1 x)⟩ f ob=some (1,.own (kid p j) u 0 row.length,[]):=by
 have h:(hdL p u xss)[j*1+0]? =some (.own (kid p j) u 0 row.length):=by rw [Ea]; simp [hr]
 simp only [Nat.mul_one,Nat.add_zero] at h;simp [Ba,ev,evN,evR,hx,hob,C8,h]
theorem Ad8 {x y:Opd} {o:Oid} {e1:TypeId} {m:Nat} {cs:List AV} {v:AV} {j:Nat} (hx:x.ev f=.elt o j 0) (hob:ob o=some (.vec e1 1 m cs)) (hy:y.ev f=v) (hv:v.one=true) (hj:j<cs.length):Ba n ⟨d,none,.st true 1 x y⟩ f ob=some (2,.any,[(o,none),(o,some (.vec e1 1 m (cs.set j v)))]):=by
 simp [Ba,ev,Zr,hx,hob,hy,G1,hv,hj]
theorem Ai1 {x y:Opd} {o q:Oid} {e1 e2:TypeId} {u:Ty} {t':Ty} {b:Nat} {p:Oid} {xss:List (List u.D)} {cs:List AV} {len:Nat} (hx:x.ev f=.own o t' 0 len) (hob:ob o=some (.vec e1 1 xss.length (hdL p u xss))) (hl:len=xss.length) {t2:Ty} (hy:y.ev f=.own q t2 0 1) (hq:ob q=some (.vec e2 1 1 cs)) (hc:cs.length=1) (h:xss.length+1<=1073741824∧(xss.length+1)*b<=140737488355328) :
  Ba n ⟨d,none,.appV e1 (.slice u) b x y⟩ f ob=some (2,.own (o.1,n) (.slice u) 0 (xss.length+1),[(o,none),((o.1,n),some (.vec e1 1 (xss.length+1) (hdL p u xss++cs)))]):=by
 subst hl;have h1:List.take (xss.length*1) (hdL p u xss)=hdL p u xss:=by rw [Nat.mul_one]; exact List.take_of_length_le (by rw [E3]; exact Nat.le_refl _)
 have h2:List.take (1*1) (List.drop (0*1) cs)=cs:=by simp only [Nat.zero_mul,List.drop_zero,Nat.mul_one]; exact List.take_of_length_le (by omega)
 simp only [Ba,ev,J1,hx,hy,Aeq,hq,hob,Ty.size,true_and,Nat.zero_add,Nat.le_refl,if_true,h1,h2,h.1,h.2,and_self]
theorem On {i:Oid} {e:TypeId} {t:Ty} {sz:Nat} {xs:List Opd} {r:Rec} (h:(Aaz f i e t sz xs).map (fun r=>((1:Nat),r.1,r.2))=some r):evL f i (.mkV e t sz xs)=some r:=by
 simp only [evL];cases hq:Aaz f i e t sz xs with
 | none=>rw [hq] at h; cases h
 | some q=>rw [hq] at h; obtain ⟨v,us⟩:=q; exact h
theorem Abi {i:Oid} {e:TypeId} (e':TypeId) {u:Ty} {b:Nat} {x y:Opd} {k k':IntKind} {m c:Int} {j:Nat} (hx:x.ev f=.int k m) (hy:y.ev f=.int k' c) (h:0<=m∧m<=c∧c<=1073741824∧(b:Int)*c<=140737488355328) (hfl:u.flat=true) (hj:m.toNat=j) :
  Afv f i (.makeV e (.slice u) b [.nils] x y) (1,RV.out ⟨false,[(false,[.newM e e' u (List.replicate j [])])]⟩ (Db i) []):=by
 subst hj;exact ⟨e,e',u,b,x,y,k,k',m,c,rfl,hx,hy,h,hfl,rfl⟩
theorem Aog {i:Oid} {e e':TypeId} {u:Ty} {xss:List (List u.D)} (h:Jx i.2 ol=true):Ar (RV.out ⟨false,[(false,[.newM e e' u xss])]⟩ (Db i) []).2 (Ah ol)=Ah ((Db i 0,some (.mat e (Db i 0) u xss)) :: (Db i 0,some (.pool e' u xss)) :: ol):=by
 have e0:(RV.out ⟨false,[(false,[.newM e e' u xss])]⟩ (Db i) []).2=(Db i 0,some (.vec e 1 xss.length (hdL (Db i 0) u xss))) :: (X8 (Db i 0) e' u xss++[]):=rfl;rw [e0,List.append_nil];show Ar (X8 (Db i 0) e' u xss) (upd (Ah ol) (Db i 0) (some (.vec e 1 xss.length (hdL (Db i 0) u xss))))=_
 rw [Fd rfl,Ae1 (fun k=>by
  have:Ah ((Db i 0,some (.vec e 1 xss.length (hdL (Db i 0) u xss))) :: ol) (kid (Db i 0) k)=if kid (Db i 0) k=Db i 0 then some (.vec e 1 xss.length (hdL (Db i 0) u xss)) else Ah ol (kid (Db i 0) k):=by simp only [Ah]
  rw [this,if_neg (fun e=>by have:=congrArg (fun i:Oid=>i.1.2) e; simp [kid,Db] at this)];exact Ms h _ rfl)]
 funext j;have h2:∀ j,Ah ((Db i 0,some (.vec e 1 xss.length (hdL (Db i 0) u xss))) :: ol) j=if j=Db i 0 then some (.vec e 1 xss.length (hdL (Db i 0) u xss)) else Ah ol j:=fun j=>by simp only [Ah]
 rw [L1,Ji,Ji,h2];by_cases hj:j=Db i 0
 ·subst hj;rw [if_pos rfl,if_neg (fun h=>h.2.2 rfl),if_pos rfl]
 ·rw [if_neg hj,if_neg hj]
end
section
variable {P:Program} {G:World->Prop} {g k d:Nat} {gd:Option (Nat×Bool)} {q:Q} {xs:List X} {tl:List (Nat×AV)} {ol:List (Oid×Option Ob)} {bad:List (Nat×Nat)} {ra:List Rec} {da:List (List Oid)} {Kf:List (Nat×AV)->List (Oid×Option Ob)->Prop}
theorem Aab (v:AV) (i:Oid) (o:Ob) (hgd:T0 gd (Al tl)) (h:evL (Al tl) ((d,0),g+k) q=some (1,v,[(i,some o)])) (h3:XW P G g (k+1) xs ((d,v) :: tl) ((i,some o) :: ol) Kf) (hx:Ir (some o)=true:=by rfl):XW P G g k (⟨some d,gd,q⟩ :: xs) tl ol Kf:=Aa7 1 v _ (Ao3 (d:=some d) hgd h) h3 (by simp only [Fn,List.all_cons,List.all_nil,hx]; rfl)
theorem Aq7 (v:AV) (i:Oid) (o:Ob) (hgd:T0 gd (Al tl)) (h:evL (Al tl) ((d,0),g+k) q=some (1,v,[(i,some o)])) (h3:XD P G bad g (k+1) xs ((d,v) :: tl) ((i,some o) :: ol) ((1,v,[(i,some o)]) :: ra) ((rdX (Al tl) (Ah ol) ⟨some d,gd,q⟩) :: da) Kf) (hx:Ir (some o)=true:=by rfl):XD P G bad g k (⟨some d,gd,q⟩ :: xs) tl ol ra da Kf:=Aef 1 v _ (Ao3 (d:=some d) hgd h) h3 (by simp only [Fn,List.all_cons,List.all_nil,hx]; rfl)
theorem Agz (v:AV) (i:Oid) (e e':TypeId) (u:Ty) (xss:List (List u.D)) (hgd:T0 gd (Al tl)) (h:Afv (Al tl) ((d,0),g+k) q (1,RV.out ⟨false,[(false,[.newM e e' u xss])]⟩ (Db ((d,0),g+k)) [])) (hi:Db ((d,0),g+k) 0=i) (hv:AV.own i (.slice u) 0 xss.length=v) (hn:Jx (g+k) ol=true) (h3:XW P G g (k+1) xs ((d,v) :: tl) ((i,some (.mat e i u xss)) :: (i,some (.pool e' u xss)) :: ol) Kf):XW P G g k (⟨some d,gd,q⟩ :: xs) tl ol Kf:=by
 subst hi hv;exact Ahq 1 _ _ _ (Aob (d:=some d) hgd h) (Aog hn) h3
end
-- what arguments read as
section
variable {ol:List (Oid×Option Ob)} {n:Nat}
theorem X4 {α:Type} {g:List AV->Option α}:∀ {cs:List AV} {xs:List α},cs.length=xs.length->(∀ (k:Nat) (c:AV) (x:α),cs[k]? =some c->xs[k]? =some x->g [c]=some x)->Oc g 1 xs.length cs=some xs
 | [],[],_,_=>rfl
 | c :: cs,x :: xs,hl,h=>by
  have h0:=h 0 c x rfl rfl;have ih:=X4 (g:=g) (cs:=cs) (xs:=xs) (by simpa using hl) (fun k c x h1 h2=>h (k+1) c x h1 h2);simp only [List.length_cons,Oc,List.take_succ_cons,List.take_zero,List.drop_succ_cons,List.drop_zero,h0,ih]
 | [],_ :: _,hl,_=>by simp at hl
 | _ :: _,[],hl,_=>by simp at hl
theorem Amg {ob:Oid->Option Ob} {o p:Oid} {e1 e:TypeId} {u:Ty} {xss:List (List u.D)} {m len:Nat} (ho:ob o=some (.vec e1 1 m (hdL p u xss))) (hm:m=xss.length) (hk:∀ k row,xss[k]? =some row->ob (kid p k)=some (.arr e u row)) {t':Ty} (hl:len<=xss.length):Ad3 ob 1 (rdC ob (.slice u)) (.own o t' 0 len)=some (xss.take len):=by
 have h1:(((hdL p u xss).drop (0*1)).take (len*1))=hdL p u (xss.take len):=by
  simp only [Nat.zero_mul,List.drop_zero,Nat.mul_one];apply List.ext_getElem?;intro j;rw [List.getElem?_take,Ea,Ea,List.getElem?_take];split <;> rfl
 have hlen:(xss.take len).length=len:=by rw [List.length_take]; omega
 simp only [Ad3,ho];rw [if_pos ⟨trivial,by omega⟩,h1]
 have:=X4 (g:=rdC ob (.slice u)) (cs:=hdL p u (xss.take len)) (xs:=xss.take len) E3 (fun k c x hc hx=>by
  rw [Ea,hx] at hc;obtain rfl:=osj hc;rw [List.getElem?_take] at hx;split at hx
  ·have:=hk k x hx;simp only [rdC,Eg,this,Nat.zero_add,Nat.le_refl,if_true,Ty.eq?_self,Do,List.drop_zero,List.take_length]
  ·cases hx)
 rw [hlen] at this;exact this
theorem Fq {ob:Oid->Option Ob} {o p:Oid} {e1 e:TypeId} {u:Ty} {xss:List (List u.D)} {len:Nat} (ho:ob o=some (.vec e1 1 xss.length (hdL p u xss))) (hk:∀ k row,xss[k]? =some row->ob (kid p k)=some (.arr e u row)) (hl:len=xss.length):gnd ob (n+1) (.own o (.slice u) 0 len)=some (.tree (.slice u) xss):=by
 subst hl;have:=Amg (t':=.slice u) ho rfl hk (Nat.le_refl _);rw [List.take_length] at this;simp only [gnd,ho,Ty.size,this,Option.map_some]
theorem Cj {p:Oid} {e:TypeId} {u:Ty} {xss:List (List u.D)} (h:Ef ol p=some (.pool e u xss)):∀ k row,xss[k]? =some row->Ah ol (kid p k)=some (.arr e u row):=fun _ _ hx=>Bg h hx
def Aan (θ:Oid->Oid) (ol0:List (Oid×Ob)) (i:Oid):Bool:=ol0.all fun q=>if q.2.isPool then !(i.1.1==(θ q.1).1.1&&(i.2==(θ q.1).2&&i.1.2 !=0)) else i !=θ q.1
theorem My {l:List (Oid×Oid)} {ob:Oid->Option Ob} {ol0:List (Oid×Ob)} {i:Oid} (hl:Ni l=true) (h0:Cx ol0=true) (h:Aan (Bc l) ol0 i=true):Vh ((nmL ol0).map (Bc l)) ob i=ob i:=by
 unfold Vh;rw [if_neg];intro hm;obtain ⟨j,hj,rfl⟩:=List.mem_map.1 hm;obtain ⟨q,hq,rfl⟩:=List.mem_map.1 hj;unfold Aan at h;rw [List.all_eq_true] at h;unfold Cx at h0;rw [List.all_eq_true] at h0;rcases E8 hq with ⟨p,e,u,xss,k,row,m1,m2,rfl⟩ | ⟨o,m1,m2,m3⟩
 ·have:=h _ m1;have hz:=h0 _ m1;simp only [Bool.and_eq_true,beq_iff_eq] at hz;rw [Gk hl hz.1] at this;simp [Ob.isPool,kid] at this
 ·have:=h _ m1;simp [m2] at this
theorem S7 {l:List (Oid×Oid)} {ob:Oid->Option Ob} {ol0:List (Oid×Ob)} {p:Oid} {e:TypeId} {u:Ty} {xss:List (List u.D)} (hl:Ni l=true) (h0:Cx ol0=true) (hk:∀ k row,xss[k]? =some row->ob (kid p k)=some (.arr e u row)) (hn:(ol0.all fun q=> !((Bc l q.1).1.1==p.1.1&&((Bc l q.1).2==p.2)))=true):∀ k row,xss[k]? =some row->Vh ((nmL ol0).map (Bc l)) ob (kid p k)=some (.arr e u row):=by
 intro k row hx;rw [My hl h0,hk k row hx];unfold Aan;rw [List.all_eq_true] at hn ⊢;intro q hq;have:=hn q hq;simp only [Bool.not_eq_true',Bool.and_eq_false_iff,beq_eq_false_iff_ne,ne_eq] at this;split
 ·simp only [Bool.not_eq_true',Bool.and_eq_false_iff,beq_eq_false_iff_ne,ne_eq,kid];rcases this with h | h
  ·exact .inl fun e=>h e.symm
  ·exact .inr (.inl fun e=>h e.symm)
 ·simp only [bne_iff_ne,ne_eq];intro e;rw [← e] at this;rcases this with h | h <;> exact h rfl
theorem Ajc {l:List (Oid×Oid)} {i:Oid} {ol us:List (Oid×Ob)} (hB:Ahj ol us=true):∀ u∈G6 (Bc l) i ol us,u.1.2=i.2∨u.1∈(nmL ol).map (Bc l):=by
 intro u hu;rcases List.mem_append.1 hu with hu | hu
 ·obtain ⟨q,hq,rfl⟩:=List.mem_map.1 hu;exact .inr (List.mem_map.2 ⟨q.1,List.mem_map.2 ⟨q,hq,rfl⟩,rfl⟩)
 ·obtain ⟨q,hq,rfl⟩:=List.mem_map.1 hu;rcases Ac2 hB q hq with h | ⟨h,h'⟩
  ·exact .inl (by simp [Bx,h])
  ·exact .inr (List.mem_map.2 ⟨q.1,h',by simp [Bx,h]⟩)
def Ah5 (l:List (Oid×Oid)) (i:Oid) (ol us:List (Oid×Ob)) (r:Rec) (d:List Oid):Bool:=Ni l&&(Cx ol&&(Ahj ol us&&((d.all fun x=>x.2 !=i.2&&Aan (Bc l) ol x)&&((r.2.2.all fun u=>u.1.2 !=i.2&&Aan (Bc l) ol u.1)&&r.1 !=2))))
theorem Afu {l:List (Oid×Oid)} {ol:List (Oid×Ob)} {i:Oid} (hl:Ni l=true) (h0:Cx ol=true) (h:Aan (Bc l) ol i=true):i∉(nmL ol).map (Bc l):=by
 intro hm;have:=My (ob:=fun _=>some (.map 0 .int [])) hl h0 h;unfold Vh at this;rw [if_pos hm] at this;cases this
theorem Xq {l:List (Oid×Oid)} {i:Oid} {ol us:List (Oid×Ob)} {r:Rec} {d:List Oid} (h:Ah5 l i ol us r d=true):(∀ u∈G6 (Bc l) i ol us,u.1∉d)∧(∀ u∈G6 (Bc l) i ol us,∀ v∈r.2.2,u.1≠v.1)∧r.1≠2:=by
 simp only [Ah5,Bool.and_eq_true,bne_iff_ne,ne_eq] at h;obtain ⟨h1,h2,h3,h4,h5,h6⟩:=h;rw [List.all_eq_true] at h4 h5;refine ⟨fun u hu hd=>?_,fun u hu v hv e=>?_,h6⟩
 ·have:=h4 _ hd;simp only [Bool.and_eq_true,bne_iff_ne,ne_eq] at this;rcases Ajc h3 u hu with h | h
  ·exact this.1 h
  ·exact Afu h1 h2 this.2 h
 ·have:=h5 _ hv;simp only [Bool.and_eq_true,bne_iff_ne,ne_eq] at this;rcases Ajc h3 u hu with h | h
  ·exact this.1 (by rw [← e]; exact h)
  ·exact Afu h1 h2 this.2 (by rw [← e]; exact h)
theorem Ap8 {l:List (Oid×Oid)} {i:Oid} {ol us:List (Oid×Ob)} {v:AV} {rj:Rec} {di dj:List Oid} (h:Ah5 l i ol us rj dj=true):Mo (2,v,G6 (Bc l) i ol us) rj di dj:=by
 obtain ⟨h1,h2,h3⟩:=Xq h;exact .inr ⟨fun _=>h1,fun e=>absurd e h3,h2⟩
theorem Aqj {l:List (Oid×Oid)} {i:Oid} {ol us:List (Oid×Ob)} {v:AV} {ri:Rec} {di dj:List Oid} (h:Ah5 l i ol us ri di=true):Mo ri (2,v,G6 (Bc l) i ol us) di dj:=by
 obtain ⟨h1,h2,h3⟩:=Xq h;exact .inr ⟨fun e=>absurd e h3,fun _=>h1,fun u hu v hv e=>h2 v hv u hu e.symm⟩
def Am1 (zs:List AV) (ob:Oid->Option Ob) (θ:Oid->Oid):List (Oid×Ob)->Prop
 | []=>True
 | q :: r=>(match q.2 with
  | .pool _ _ xss=>∀ k,k<xss.length->Reached zs ob (kid (θ q.1) k)
  | _=>Reached zs ob (θ q.1))∧Am1 zs ob θ r
theorem A4 {zs:List AV} {ob:Oid->Option Ob} {l:List (Oid×Oid)} (hl:Ni l=true):∀ {ol:List (Oid×Ob)},Cx ol=true->Am1 zs ob (Bc l) ol->∀ j∈nmL ol,Reached zs ob (Bc l j)
 | [],_,_,j,hj=>by cases hj
 | (p,o) :: r,h0,h,j,hj=>by
  simp only [Cx,List.all_cons,Bool.and_eq_true,beq_iff_eq] at h0;obtain ⟨⟨h1,_⟩,h2⟩:=h0;have ih:j∈nmL r->Reached zs ob (Bc l j):=fun hm=>A4 hl (ol:=r) (by simpa [Cx] using h2) h.2 j hm
  cases o with
  | pool e u xss =>
   simp only [nmL,exL,List.map_append,List.mem_append] at hj;rcases hj with hj | hj
   ·obtain ⟨q,hq,rfl⟩:=List.mem_map.1 hj;obtain ⟨⟨row,k⟩,hx,rfl⟩:=List.mem_map.1 hq;rw [List.mem_zipIdx_iff_getElem?] at hx;show Reached zs ob (Bc l (kid p k));rw [Gk hl h1];exact h.1 k (gSi.1 hx).1
   ·exact ih hj
  | _ =>
   simp only [nmL,exL,List.map_cons,List.mem_cons] at hj;rcases hj with rfl | hj
   ·exact h.1
   ·exact ih hj
theorem A0 {zs:List AV} {ob:Oid->Option Ob} {i:Oid} (h:(AV.nmsL zs).contains i=true):Reached zs ob i:=.arg (List.contains_iff_mem.1 h)
theorem Bd {zs:List AV} {ob:Oid->Option Ob} {k i:Oid} {ty:TypeId} {cs:List AV} (h1:Reached zs ob k) (h2:ob k=some (.cells ty cs)) (h:(AV.nmsL cs).contains i=true):Reached zs ob i:=.cells h1 h2 (List.contains_iff_mem.1 h)
theorem An8 {p:Oid} {u:Ty} {xss:List (List u.D)} {k:Nat} (h:k<xss.length):kid p k∈AV.nmsL (hdL p u xss):=by
 have key:∀ cs:List AV,∀ c∈cs,∀ i∈c.nms,i∈AV.nmsL cs:=by
  intro cs
  induction cs with
  | nil=>intro c h; cases h
  | cons x r ih =>
   intro c hc i hi;rcases List.mem_cons.1 hc with rfl | hc
   ·exact List.mem_append_left _ hi
   ·exact List.mem_append_right _ (ih c hc i hi)
 refine key _ (.own (kid p k) u 0 xss[k].length) ?_ _ (List.mem_singleton.2 rfl);apply List.mem_iff_getElem?.2;exact ⟨k,by rw [Ea,gEg h]; rfl⟩
theorem Dc {zs:List AV} {ob:Oid->Option Ob} {o p:Oid} {e1:TypeId} {m:Nat} {u:Ty} {xss:List (List u.D)} (h1:Reached zs ob o) (h2:ob o=some (.vec e1 1 m (hdL p u xss))):∀ k,k<xss.length->Reached zs ob (kid p k):=fun _ hk=>.vec h1 h2 (An8 hk)
end
theorem Agg {L:List Oid} {l:List (Oid×Oid)} {xs:List (Oid×Ob)} (h:(xs.all fun q=>L.contains (Bc l q.1))=true):∀ q∈xs,Bc l q.1∈L:=fun q hq=>by
 have:=List.all_eq_true.1 h q hq
 simpa using this
end
section
open Go.RowKit Go.Deep
def NeL (i:Oid):List Oid->Prop
 | []=>True
 | x :: r=>x≠i∧NeL i r
theorem Aox {L M:List Oid} {ob:Oid->Option Ob} {i:Oid} (hL:M=L) (h:NeL i L):Vh M ob i=ob i:=by
 subst hL;unfold Vh;rw [if_neg];intro hm
 induction M with
 | nil=>cases hm
 | cons x r ih =>
  rcases List.mem_cons.1 hm with rfl | hm
  ·exact h.1 rfl
  ·exact ih h.2 hm
theorem Ap4 {p:Oid} {j k:Nat} (h:j≠k):kid p j≠kid p k:=fun e=>h (F7 e)
theorem M6 {L:List Oid} {ob:Oid->Option Ob} {i:Oid} (h:i∈L):only L ob i=ob i:=if_pos h
theorem Xb {f:Nat->AV} {ob:Oid->Option Ob} {d:Option Nat} {gd:Option (Nat×Bool)} {fo y:Opd} {ys:List Opd} {tys:List (List (Option Ty))} {i:Oid} {t:Ty} {off len:Nat} (n:Nat) (hy:ys[n]? =some y) (he:y.ev f=.own i t off len):i∈rdX f ob ⟨d,gd,.call fo ys tys⟩:=by
 refine List.mem_flatMap.2 ⟨y,List.mem_cons_of_mem _ (List.mem_of_getElem? hy),?_⟩;rw [he];show i∈Df ob (7+1) (.own i t off len);unfold Df;dsimp only;split <;> simp
theorem Aqm {L:List Oid} {l:List (Oid×Oid)}:∀ q∈exL [],Bc l q.1∈L:=fun _ h=>by cases h
theorem Ap6 {L:List Oid} {l:List (Oid×Oid)} {i:Oid} {e:TypeId} {t:Ty} {xs:List t.D} {r:List (Oid×Ob)} (h:Bc l i∈L) (hr:∀ q∈exL r,Bc l q.1∈L):∀ q∈exL ((i,.arr e t xs) :: r),Bc l q.1∈L:=fun q hq=>by
 rcases List.mem_cons.1 hq with rfl | hq
 ·exact h
 ·exact hr q hq
theorem Aqo {ob:Oid->Option Ob} {o:Oid} {e1:TypeId} {sz m n:Nat} {cs:List AV} (h:ob o=some (.vec e1 sz n cs)) (e:m=n):ob o=some (.vec e1 sz m cs):=by rw [e]; exact h
theorem Vl {α:Type} {xs:List α} {k:Nat} (h:k<=xs.length):k=(xs.take k).length:=by rw [List.length_take]; omega
theorem Ake {G:World->Prop} {S:St} {o:Oid} {e1:TypeId} {sz n k:Nat} {cs:List AV} (ho:S.ob o=some (.vec e1 sz n cs)) (hk:k<=n):WeakG G S ⟨S.tm,upd S.ob o (some (.vec e1 sz k (cs.take (k*sz)))),S.gen⟩:=by
 intro w0 B N a w hr;obtain ⟨σ,hm,hf,hB⟩:=hr.ex
 have was:∀ i x,upd S.ob o (some (.vec e1 sz k (cs.take (k*sz)))) i=some x->∃ y,S.ob i=some y:=fun i x hx=>by
  by_cases h:i=o
  ·subst h; exact ⟨_,ho⟩
  ·rw [At _ _ _ _ h] at hx; exact ⟨x,hx⟩
 have hL:Later σ σ (imm S.ob σ) (imm (upd S.ob o (some (.vec e1 sz k (cs.take (k*sz))))) σ) w w:=⟨fun _ _ h=>h,fun b _ hb i x c s hx hs=>by obtain ⟨y,hy⟩:=was i x hx; exact hb i y c s hy hs,fun _ _ _=>rfl,Nat.le_refl _⟩
 refine ⟨⟨σ,⟨hm.below,hm.inv,hm.gen,hm.lt,hm.cap,fun i j b c s c' s' x y hx hy e1 e2=>?_,fun i x l hx hl=>?_⟩,fun t=>AV.Rep.later hL _ _ (hf t),hB.trans hL⟩,hr.size,hr.defers,fun i hi=>?_⟩
 ·obtain ⟨x',hx'⟩:=was i x hx;obtain ⟨y',hy'⟩:=was j y hy;exact hm.inj i j b c s c' s' x' y' hx' hy' e1 e2
 ·by_cases h:i=o
  ·subst h;have hx:upd S.ob i (some (.vec e1 sz k (cs.take (k*sz)))) i=some x:=hx;rw [A3] at hx;obtain rfl:=osj hx;obtain ⟨vs,p1,p2,p3,p4⟩:=hm.obs i _ l ho hl;refine ⟨vs.take (k*sz),p1.take hk (fun g cap e=>?_) (fun e=>?_),(AV.RepL.later hL _ _ p2).take _,fun v hv=>p3 v (List.mem_of_mem_take hv),p4⟩
   ·cases l with
    | nil=>cases e
    | at_ b c s=>cases e; rfl
   ·cases l with
    | nil=>rfl
    | at_ b c s=>cases e
  ·have hx:upd S.ob o (some (.vec e1 sz k (cs.take (k*sz)))) i=some x:=hx;rw [At _ _ _ _ h] at hx;exact (hm.obs i x l hx hl).later hL fun _ _ _ _=>rfl
 ·by_cases h:i=o
  ·subst h; exact hr.obg i (by rw [ho]; simp)
  ·have hi:upd S.ob o (some (.vec e1 sz k (cs.take (k*sz)))) i≠none:=hi;rw [At _ _ _ _ h] at hi;exact hr.obg i hi
theorem Aj7 {G:World->Prop} {S:St} {o:Oid} {e:TypeId} {t:Ty} {xs:List t.D} {k:Nat} (ho:S.ob o=some (.arr e t xs)) (hk:k<=xs.length):WeakG G S ⟨S.tm,upd S.ob o (some (.arr e t (xs.take k))),S.gen⟩:=by
 intro w0 B N a w hr;obtain ⟨σ,hm,hf,hB⟩:=hr.ex
 have was:∀ i x,upd S.ob o (some (.arr e t (xs.take k))) i=some x->∃ y,S.ob i=some y:=fun i x hx=>by
  by_cases h:i=o
  ·subst h; exact ⟨_,ho⟩
  ·rw [At _ _ _ _ h] at hx; exact ⟨x,hx⟩
 have hL:Later σ σ (imm S.ob σ) (imm (upd S.ob o (some (.arr e t (xs.take k)))) σ) w w:=⟨fun _ _ h=>h,fun b _ hb i x c s hx hs=>by obtain ⟨y,hy⟩:=was i x hx; exact hb i y c s hy hs,fun _ _ _=>rfl,Nat.le_refl _⟩
 refine ⟨⟨σ,⟨hm.below,hm.inv,hm.gen,hm.lt,hm.cap,fun i j b c s c' s' x y hx hy e1 e2=>?_,fun i x l hx hl=>?_⟩,fun t=>AV.Rep.later hL _ _ (hf t),hB.trans hL⟩,hr.size,hr.defers,fun i hi=>?_⟩
 ·obtain ⟨x',hx'⟩:=was i x hx;obtain ⟨y',hy'⟩:=was j y hy;exact hm.inj i j b c s c' s' x' y' hx' hy' e1 e2
 ·by_cases h:i=o
  ·subst h;have hx:upd S.ob i (some (.arr e t (xs.take k))) i=some x:=hx;rw [A3] at hx;obtain rfl:=osj hx;obtain ⟨f1,f2,f3⟩:=hm.obs i _ l ho hl
   have hnil:l=.nil->k=0:=by
    intro e0;subst e0;rcases f2.2 with ⟨_,h0⟩ | ⟨_,_,_,e1,_⟩
    ·omega
    ·cases e1
   have:=Mh f1 f2 hk hnil;have hl':(xs.take k).length=k:=by rw [List.length_take]; omega
   refine ⟨f1,?_,f3⟩;rw [hl'];exact this
  ·have hx:upd S.ob o (some (.arr e t (xs.take k))) i=some x:=hx;rw [At _ _ _ _ h] at hx;exact (hm.obs i x l hx hl).later hL fun _ _ _ _=>rfl
 ·by_cases h:i=o
  ·subst h; exact hr.obg i (by rw [ho]; simp)
  ·have hi:upd S.ob o (some (.arr e t (xs.take k))) i≠none:=hi;rw [At _ _ _ _ h] at hi;exact hr.obg i hi
theorem Ag7 {G:World->Prop} {tl:List (Nat×AV)} {ol:List (Oid×Option Ob)} {g:Nat} (o:Oid) {e:TypeId} {t:Ty} {xs:List t.D} {k:Nat} (ho:Ii ol o=some (.arr e t xs)) (hk:k<=xs.length):WeakG G ⟨Al tl,Ah ol,g⟩ ⟨Al tl,Ah ((o,some (.arr e t (xs.take k))) :: ol),g⟩:=by
 have:=Aj7 (G:=G) (S:=⟨Al tl,Ah ol,g⟩) (by show Ah ol o=_; rw [Ia,ho]; rfl) hk;rw [← Fd rfl];exact this
theorem Ahy {G:World->Prop} {tl:List (Nat×AV)} {ol:List (Oid×Option Ob)} {g:Nat} (s:Nat) (o p:Oid) {e1 e:TypeId} {u:Ty} {xss:List (List u.D)} {n k:Nat} (hfl:u.flat=true) (ho:Ah ol o=some (.vec e1 1 n (hdL p u xss))) (hn:n=xss.length) (hp:Ef ol p=some (.pool e u xss)) (hk:k<=n) (hpo:(o.1.1==p.1.1&&o.2==p.2&&o.1.2 !=0)=false) (hog:(o.2==g)=false) (hfr:Jx g ((p,some (.pool e u [])) :: ol)=true) :
  WeakG G ⟨Al tl,Ah ol,g⟩ ⟨Al tl,Ah ((o,some (.mat e1 ((s,0),g) u (xss.take k))) :: (((s,0),g),some (.pool e u (xss.take k))) :: (p,some (.pool e u [])) :: (o,some (.vec e1 1 k ((hdL p u xss).take k))) :: ol),g+1⟩:=by
 have h1:WeakG G ⟨Al tl,Ah ol,g⟩ ⟨Al tl,Ah ((o,some (.vec e1 1 k ((hdL p u xss).take k))) :: ol),g⟩:=by
  have:=Ake (G:=G) (S:=⟨Al tl,Ah ol,g⟩) ho hk;rw [Nat.mul_one] at this;rw [← Fd rfl];exact this
 refine h1.trans ?_;have hok:∀ j,kid p j≠o:=fun j e=>by rw [← e] at hpo; simp [kid] at hpo
 have hpool:Ef ((o,some (.vec e1 1 k ((hdL p u xss).take k))) :: ol) p=some (.pool e u xss):=by
  show (if p.1.1=o.1.1∧p.2=o.2∧o.1.2≠0 then none else Ef ol p)=_;rw [if_neg,hp];rintro ⟨a1,a2,a3⟩;rw [a1,a2] at hpo;simp [a3] at hpo
 refine G7 s o (fun j=>kid p j) [(p,some (.pool e u []))] hfl (by show Ah _ o=_; simp only [Ah]; rw [if_pos trivial]) (by rw [List.length_take]; omega) (fun j row hj=>?_) (fun a b _ _ hab=>F7 hab) hog ?_ (fun i hi=>?_)
 ·rw [List.getElem?_take] at hj ⊢;split at hj
  ·rename_i hlt;rw [if_pos hlt,Ea,hj];exact ⟨rfl,row,Bg hpool hj,Nat.le_refl _,(List.take_length).symm⟩
  ·cases hj
 ·simp only [Jx,List.all_append,List.all_cons,List.all_nil,Bool.and_true,Bool.and_eq_true,bne_iff_ne] at hfr ⊢;exact ⟨hfr.1,by simpa using hog,hfr.2⟩
 ·simp only [List.cons_append,List.nil_append,G8];split
  ·exact .inl rfl
  ·rename_i h2;exact .inr ⟨rfl,fun j _ e=>h2 (by rw [e]; exact ⟨rfl,rfl,by simp [kid]⟩)⟩
theorem Af9 {G:World->Prop} {tl:List (Nat×AV)} {ol:List (Oid×Option Ob)} {g:Nat} (s:Nat) (o p:Oid) {e1 e:TypeId} {u:Ty} {xss:List (List u.D)} {k:Nat} (hfl:u.flat=true) (ho:Ah ol o=some (.vec e1 1 k ((hdL p u xss).take k))) (hp:Ef ol p=some (.pool e u xss)) (hk:k<=xss.length) (hog:(o.2==g)=false) (hfr:Jx g ((p,some (.pool e u [])) :: ol)=true) :
  WeakG G ⟨Al tl,Ah ol,g⟩ ⟨Al tl,Ah ((o,some (.mat e1 ((s,0),g) u (xss.take k))) :: (((s,0),g),some (.pool e u (xss.take k))) :: (p,some (.pool e u [])) :: ol),g+1⟩:=by
 refine G7 s o (fun j=>kid p j) [(p,some (.pool e u []))] hfl ho (by rw [List.length_take]; omega) (fun j row hj=>?_) (fun a b _ _ hab=>F7 hab) hog hfr (fun i hi=>?_)
 ·rw [List.getElem?_take] at hj ⊢;split at hj
  ·rename_i hlt;rw [if_pos hlt,Ea,hj];exact ⟨rfl,row,Bg hp hj,Nat.le_refl _,(List.take_length).symm⟩
  ·cases hj
 ·simp only [List.cons_append,List.nil_append,G8];split
  ·exact .inl rfl
  ·rename_i h2;exact .inr ⟨rfl,fun j _ e=>h2 (by rw [e]; exact ⟨rfl,rfl,by simp [kid]⟩)⟩
section
variable {f:Nat->AV} {ob:Oid->Option Ob} {n:Nat} {d:Option Nat}
theorem Aj2 {sz:Nat} {x hi mx:Opd} {i:Oid} {t u:Ty} {len:Nat} {e:TypeId} {xs:List u.D} {kh km:IntKind} {h m:Int} {j:Nat} (hx:x.ev f=.own i t 0 len) (hob:ob i=some (.arr e u xs)) (hh:hi.ev f=.int kh h) (hm:mx.ev f=.int km m) (hs:t.size=sz) (hb:0<=h∧h<=m∧m<=(len:Int)) (hj:h.toNat=j) (hk:j<=xs.length) :
  Ba n ⟨d,none,.slice sz x none (some hi) (some mx)⟩ f ob=some (2,.own ((d.getD 0,0),n) t 0 j,[(i,none),(((d.getD 0,0),n),some (.arr e u (xs.take j)))]):=by
 subst hj;simp [Ba,ev,Pd,Gr,Ee,hx,hob,hh,hm,hs,hb,Zg,hk,AV.un]
theorem Akh {sz:Nat} {x hi mx:Opd} {i:Oid} {t:Ty} {len N:Nat} {e:TypeId} {cs:List AV} {kh km:IntKind} {h m:Int} {j:Nat} (hx:x.ev f=.own i t 0 len) (hob:ob i=some (.vec e 1 N cs)) (hh:hi.ev f=.int kh h) (hm:mx.ev f=.int km m) (hs:t.size=sz) (hb:0<=h∧h<=m∧m<=(len:Int)) (hj:h.toNat=j) (hk:j<=N) :
  Ba n ⟨d,none,.slice sz x none (some hi) (some mx)⟩ f ob=some (2,.own ((d.getD 0,0),n) t 0 j,[(i,none),(((d.getD 0,0),n),some (.vec e 1 j (cs.take j)))]):=by
 subst hj;simp [Ba,ev,Pd,Gr,Ee,hx,hob,hh,hm,hs,hb,Zg,hk,AV.un]
theorem Sr:∀ (n:Nat) (l:List Int),l.length=n+1->Qq ((tyA n).av (E7 n l))=some l
 | 0,[x],_=>rfl
 | 0,[],h=>by cases h
 | 0,_ :: _ :: _,h=>by simp at h
 | n+1,[],h=>by cases h
 | n+1,x :: l,h=>by
  have:=Sr n l (by simpa using h);simp only [tyA,E7,Ty.av,List.cons_append,List.nil_append,List.tail_cons,List.getD_cons_zero,Qq,this]
theorem Ap2 {neg:Bool} {N:Nat} {x y:Opd} {l l':List Int} (hx:x.ev f=.agg ((tyA N).av (E7 N l))) (hy:y.ev f=.agg ((tyA N).av (E7 N l'))) (h1:l.length=N+1∧l'.length=N+1) :
  Ba n ⟨d,none,.i (.cmp neg (N+4) x y)⟩ f ob=some (0,.bool (if neg then !(l==l') else l==l'),[]):=by
 have e1:=Sr N l h1.1;have e2:=Sr N l' h1.2;have e3:=Ot N l;simp [Ba,ev,evN,Uo,Ab9,hx,hy,AV.un,e1,e2,e3,h1]
end
end
section
open Go.RowKit Go.Deep
abbrev T5:Ty:=.pair .int (.pair .int (.pair .int (.pair .int .int)))
section
variable {P:Program} {G:World->Prop} {g k d:Nat} {gd:Option (Nat×Bool)} {q:Q} {xs:List X} {tl:List (Nat×AV)} {ol:List (Oid×Option Ob)} {bad:List (Nat×Nat)} {ra:List Rec} {da:List (List Oid)} {Kf:List (Nat×AV)->List (Oid×Option Ob)->Prop}
theorem dz0 (v:AV) (h3:XD P G bad g (k+1) xs ((d,v) :: tl) ol ((0,v,[]) :: ra) ((rdX (Al tl) (Ah ol) ⟨some d,gd,q⟩) :: da) Kf) (h:Ba (g+k) ⟨some d,gd,q⟩ (Al tl) (only (rdX (Al tl) (Ah ol) ⟨some d,gd,q⟩) (Ah ol))=some (0,v,[]):=by kernel_rfl):XD P G bad g k (⟨some d,gd,q⟩ :: xs) tl ol ra da Kf:=ds0 v h h3
theorem dzl (v:AV) (h3:XD P G bad g (k+1) xs ((d,v) :: tl) ol ((1,v,[]) :: ra) ((rdX (Al tl) (Ah ol) ⟨some d,gd,q⟩) :: da) Kf) (h:Ba (g+k) ⟨some d,gd,q⟩ (Al tl) (only (rdX (Al tl) (Ah ol) ⟨some d,gd,q⟩) (Ah ol))=some (1,v,[]):=by kernel_rfl):XD P G bad g k (⟨some d,gd,q⟩ :: xs) tl ol ra da Kf:=dsl v h h3
theorem zs {s:Nat} {b c:Bool} (hc:c= !b) (h3:XW P G g (k+1) xs ((d,.tup []) :: tl) ol Kf) (hs:Al tl s=.bool c:=by kernel_rfl):XW P G g k (⟨some d,some (s,b),q⟩ :: xs) tl ol Kf:=rs0 (.tup []) (Cw hs hc) h3
theorem zc {fo:Opd} {ys:List Opd} {tys:List (List (Option Ty))} {F:FuncId} {rv:RV} {args:List AV} (v:AV) (us:List (Oid×Option Ob)) (zs:List AV) (hc:A6 P G F args rv) (h3:XW P G g (k+1) xs ((d,v) :: tl) (us.reverseAux ol) Kf) (h1:Nu (gnd (Ah ol) 8) zs=some zs:=by kernel_rfl) (hb:A5 P F=true:=by kernel_rfl) (hfo:fo.ev (Al tl)=.fn F []:=by kernel_rfl) (hz:(ys++([]:List AV).map Opd.cst).map (Opd.ev (Al tl))=zs:=by kernel_rfl) (hn:Pw tys zs=args:=by kernel_rfl) (hr:rv.out (Db ((d,0),g+k)) zs=(v,us):=by kernel_rfl) (hx:Fn us=true:=by rfl) (hni:rv.noI=true:=by kernel_rfl):XW P G g k (⟨some d,none,.call fo ys tys⟩ :: xs) tl ol Kf:=Fe (caps:=[]) (args0:=zs) v us zs args trivial h1 hc hb h3 hfo hz hn hr hx hni
end
abbrev sI:Ty:=.slice .int
abbrev LL:=List (List Int)
abbrev an (n:Nat):AV:=.int .i64 n
abbrev tI (x:List Int):AV:=.tree .int x
abbrev tS (x:List (List Int)):AV:=.tree (.slice .int) x
abbrev oI (a b n:Nat):AV:=.own (oi a b) .int 0 n
abbrev oS (a b n:Nat):AV:=.own (oi a b) (.slice .int) 0 n
abbrev nI (a b:Nat) (x:List Int):Oid×Option Ob:=(oi a b,some (.arr 3 .int x))
abbrev xm (d s:Nat):X:=⟨some d,none,.i (.mov (.tmp s))⟩
abbrev xl (d s:Nat):X:=⟨some d,none,.i (.ld true 1 (.tmp s))⟩
abbrev xf (d k s:Nat):X:=⟨some d,none,.i (.fld k (.tmp s))⟩
abbrev xx (d z a b:Nat):X:=⟨some d,none,.i (.idx z (.tmp a) (.tmp b))⟩
abbrev xn1 (d s:Nat):X:=⟨some d,none,.i (.len (.tmp s))⟩
abbrev xa (d s:Nat):X:=⟨some d,none,.i (.bin .add (.tmp s) (.cst (.int .i64 1)))⟩
abbrev xs1 (d a b:Nat):X:=⟨some d,none,.i (.bin .lss (.tmp a) (.tmp b))⟩
section
variable {P:Program} {G:World->Prop} {g k d:Nat} {gd:Option (Nat×Bool)} {q:Q} {xs:List X} {tl:List (Nat×AV)} {ol:List (Oid×Option Ob)} {bad:List (Nat×Nat)} {ra:List Rec} {da:List (List Oid)} {Kf:List (Nat×AV)->List (Oid×Option Ob)->Prop}
theorem dzc {fo:Opd} {ys:List Opd} {tys:List (List (Option Ty))} {F:FuncId} {rv:RV} {args:List AV} (v:AV) (us:List (Oid×Option Ob)) (zs:List AV) (hc:A6 P G F args rv) (h3:XD P G bad g (k+1) xs ((d,v) :: tl) (us.reverseAux ol) ((1,v,us) :: ra) ((rdX (Al tl) (Ah ol) ⟨some d,none,.call fo ys tys⟩) :: da) Kf) (h1:Nu (gnd (only (rdX (Al tl) (Ah ol) ⟨some d,none,.call fo ys tys⟩) (Ah ol)) 8) zs=some zs:=by kernel_rfl) (hb:A5 P F=true:=by kernel_rfl) (hfo:fo.ev (Al tl)=.fn F []:=by kernel_rfl) (hz:(ys++([]:List AV).map Opd.cst).map (Opd.ev (Al tl))=zs:=by kernel_rfl) (hn:Pw tys zs=args:=by kernel_rfl) (hr:rv.out (Db ((d,0),g+k)) zs=(v,us):=by kernel_rfl) (hx:Fn us=true:=by rfl) (hni:rv.noI=true:=by kernel_rfl):XD P G bad g k (⟨some d,none,.call fo ys tys⟩ :: xs) tl ol ra da Kf:=Nl (caps:=[]) (args0:=zs) v us zs args trivial h1 hc hb h3 hfo hz hn hr hx hni
theorem zI {sz:Nat} {x i:Opd} (t:Ty) {zs:List t.D} {y:t.D} {j:Nat} (hy:zs[j]? =some y) (h3:XW P G g (k+1) xs ((d,.telt none t y 0) :: tl) ol Kf) (hx:(x.ev (Al tl)).un=.tree t zs:=by kernel_rfl) (hi:i.ev (Al tl)=.int .i64 (j:Int):=by kernel_rfl) (hs:sz=t.size:=by rfl) (he:(x.ev (Al tl)).tag=none:=by kernel_rfl):XW P G g k (⟨some d,none,.i (.idx sz x i)⟩ :: xs) tl ol Kf:=rs0 _ (Ag3 hx hi hs (Int.natCast_nonneg _) rfl hy he) h3
theorem dzI {sz:Nat} {x i:Opd} (t:Ty) {zs:List t.D} {y:t.D} {j:Nat} (hy:zs[j]? =some y) (h3:XD P G bad g (k+1) xs ((d,.telt none t y 0) :: tl) ol ((0,.telt none t y 0,[]) :: ra) ((rdX (Al tl) (Ah ol) ⟨some d,none,.i (.idx sz x i)⟩) :: da) Kf) (hx:(x.ev (Al tl)).un=.tree t zs:=by kernel_rfl) (hi:i.ev (Al tl)=.int .i64 (j:Int):=by kernel_rfl) (hs:sz=t.size:=by rfl) (he:(x.ev (Al tl)).tag=none:=by kernel_rfl):XD P G bad g k (⟨some d,none,.i (.idx sz x i)⟩ :: xs) tl ol ra da Kf:=ds0 _ (Ag3 hx hi hs (Int.natCast_nonneg _) rfl hy he) h3
theorem zO {sz:Nat} {x i:Opd} (o:Oid) (t:Ty) (len:Nat) {j:Nat} (hl:j<len) (h3:XW P G g (k+1) xs ((d,.elt o j 0) :: tl) ol Kf) (hx:x.ev (Al tl)=.own o t 0 len:=by kernel_rfl) (hi:i.ev (Al tl)=.int .i64 (j:Int):=by kernel_rfl) (hs:sz=t.size:=by rfl):XW P G g k (⟨some d,none,.i (.idx sz x i)⟩ :: xs) tl ol Kf:=rs0 _ (Ag2 hx hi hs (Int.natCast_nonneg _) rfl hl) h3
theorem dzO {sz:Nat} {x i:Opd} (o:Oid) (t:Ty) (len:Nat) {j:Nat} (hl:j<len) (h3:XD P G bad g (k+1) xs ((d,.elt o j 0) :: tl) ol ((0,.elt o j 0,[]) :: ra) ((rdX (Al tl) (Ah ol) ⟨some d,none,.i (.idx sz x i)⟩) :: da) Kf) (hx:x.ev (Al tl)=.own o t 0 len:=by kernel_rfl) (hi:i.ev (Al tl)=.int .i64 (j:Int):=by kernel_rfl) (hs:sz=t.size:=by rfl):XD P G bad g k (⟨some d,none,.i (.idx sz x i)⟩ :: xs) tl ol ra da Kf:=ds0 _ (Ag2 hx hi hs (Int.natCast_nonneg _) rfl hl) h3
theorem zE {x:Opd} (i:Oid) {ws:List Int} {j:Nat} {z:Int} (hz:ws[j]? =some z) (h3:XW P G g (k+1) xs ((d,.int .i64 z) :: tl) ol Kf) (hx:x.ev (Al tl)=.elt i j 0:=by kernel_rfl) (hob:Ah ol i=some (.arr 3 .int ws):=by kernel_rfl):XW P G g k (⟨some d,none,.i (.ld true 1 x)⟩ :: xs) tl ol Kf:=rsl _ (Mi (k:=0) (t:=.int) hx hob hz rfl) h3
theorem zS {x y:Opd} (i:Oid) {ws:List Int} {j:Nat} {z:Int} (z1:Int) (hz:ws[j]? =some z) (h3:XW P G g (k+1) xs tl ((i,some (.arr 3 .int (ws.set j z1))) :: (i,none) :: ol) Kf) (hx:x.ev (Al tl)=.elt i j 0:=by kernel_rfl) (hob:Ah ol i=some (.arr 3 .int ws):=by kernel_rfl) (hy:y.ev (Al tl)=.int .i64 z1:=by kernel_rfl):XW P G g k (⟨none,none,.st true 1 x y⟩ :: xs) tl ol Kf:=Ami _ _ _ (Aij (k:=0) (t:=.int) (cs:=[.int .i64 z1]) (x1:=z1) hx hob hz (by rw [hy]; rfl) rfl) h3
theorem zB {x y:Opd} {by_:Nat} (j q:Oid) (ws:List Int) (z:Int) (h:ws.length+1<=1073741824∧(ws.length+1)*by_<=140737488355328) (h3:XW P G g (k+1) xs ((d,.own (j.1,g+k) .int 0 (ws++[z]).length) :: tl) (((j.1,g+k),some (.arr 3 .int (ws++[z]))) :: (j,none) :: ol) Kf) (hx:x.ev (Al tl)=.own j .int 0 ws.length:=by kernel_rfl) (hob:Ah ol j=some (.arr 3 .int ws):=by kernel_rfl) (hy:y.ev (Al tl)=.own q .int 0 1:=by kernel_rfl) (hq:Ah ol q=some (.arr 3 .int [z]):=by kernel_rfl):XW P G g k (⟨some d,none,.append 3 .int by_ x y⟩ :: xs) tl ol Kf:=rs2 _ _ _ _ (Abj (t:=.int) (ys:=[z]) hx hob rfl hy (Ahm hq rfl) rfl h) h3
theorem zV {x y:Opd} {by_:Nat} (o q p:Oid) (ws:List (List Int)) (cs:List AV) (h:ws.length+1<=1073741824∧(ws.length+1)*by_<=140737488355328) (h3:XW P G g (k+1) xs ((d,.own (o.1,g+k) (.slice .int) 0 (ws.length+1)) :: tl) (((o.1,g+k),some (.vec 35 1 (ws.length+1) (hdL p .int ws++cs))) :: (o,none) :: ol) Kf) (hc:cs.length=1:=by rfl) (hx:x.ev (Al tl)=.own o (.slice .int) 0 ws.length:=by kernel_rfl) (hob:Ah ol o=some (.vec 35 1 ws.length (hdL p .int ws)):=by kernel_rfl) (hy:y.ev (Al tl)=.own q (.slice .int) 0 1:=by kernel_rfl) (hq:Ah ol q=some (.vec 35 1 1 cs):=by kernel_rfl) (he:Ir (some (.vec 35 1 (ws.length+1) (hdL p .int ws++cs)))=true:=by rfl):XW P G g k (⟨some d,none,.appV 35 (.slice .int) by_ x y⟩ :: xs) tl ol Kf:=rs2 _ _ _ _ (Ai1 (t2:=.slice .int) hx hob rfl hy hq hc h) h3 he
theorem dzV {x y:Opd} {by_:Nat} (o q p:Oid) (ws:List (List Int)) (cs:List AV) (h:ws.length+1<=1073741824∧(ws.length+1)*by_<=140737488355328) (h3:XD P G bad g (k+1) xs ((d,.own (o.1,g+k) (.slice .int) 0 (ws.length+1)) :: tl) (((o.1,g+k),some (.vec 35 1 (ws.length+1) (hdL p .int ws++cs))) :: (o,none) :: ol) ((2,.own (o.1,g+k) (.slice .int) 0 (ws.length+1),[(o,none),((o.1,g+k),some (.vec 35 1 (ws.length+1) (hdL p .int ws++cs)))]) :: ra) ((rdX (Al tl) (Ah ol) ⟨some d,none,.appV 35 (.slice .int) by_ x y⟩) :: da) Kf) (hc:cs.length=1:=by rfl) (hx:x.ev (Al tl)=.own o (.slice .int) 0 ws.length:=by kernel_rfl) (hob:only (rdX (Al tl) (Ah ol) ⟨some d,none,.appV 35 (.slice .int) by_ x y⟩) (Ah ol) o=some (.vec 35 1 ws.length (hdL p .int ws)):=by kernel_rfl) (hy:y.ev (Al tl)=.own q (.slice .int) 0 1:=by kernel_rfl) (hq:only (rdX (Al tl) (Ah ol) ⟨some d,none,.appV 35 (.slice .int) by_ x y⟩) (Ah ol) q=some (.vec 35 1 1 cs):=by kernel_rfl) (he:Ir (some (.vec 35 1 (ws.length+1) (hdL p .int ws++cs)))=true:=by rfl):XD P G bad g k (⟨some d,none,.appV 35 (.slice .int) by_ x y⟩ :: xs) tl ol ra da Kf:=ds2 _ _ _ _ (Ai1 (t2:=.slice .int) hx hob rfl hy hq hc h) h3 he
theorem zA {x y:Opd} {j:Nat} (h:j+1<4611686018427387904) (h3:XW P G g (k+1) xs ((d,.int .i64 ((j+1:Nat):Int)) :: tl) ol Kf) (hx:x.ev (Al tl)=.int .i64 j:=by kernel_rfl) (hy:y.ev (Al tl)=.int .i64 1:=by kernel_rfl):XW P G g k (⟨some d,none,.i (.bin .add x y)⟩ :: xs) tl ol Kf:=rs0 _ (Aqi hx hy h) h3
end
section
variable {n:Nat} {d:Option Nat} {f:Nat->AV} {ob:Oid->Option Ob}
theorem zi {sz:Nat} {x i:Opd} {t:Ty} {xs:List t.D} {y:t.D} {k:IntKind} {m:Int} {j:Nat} (h0:0<=m) (hy:xs[j]? =some y) (hx:(x.ev f).un=.tree t xs:=by kernel_rfl) (hi:i.ev f=.int k m:=by kernel_rfl) (hs:sz=t.size:=by rfl) (hj:m.toNat=j:=by rfl) {e:Option (Nat->Prop)} (he:(x.ev f).tag=e:=by kernel_rfl):Ba n ⟨d,none,.i (.idx sz x i)⟩ f ob=some (0,.telt e t y 0,[]):=Ag3 hx hi hs h0 hj hy he
theorem zo {sz:Nat} {x i:Opd} {t:Ty} {o:Oid} {len:Nat} {k:IntKind} {m:Int} {j:Nat} (h0:0<=m) (hl:j<len) (hx:x.ev f=.own o t 0 len:=by kernel_rfl) (hi:i.ev f=.int k m:=by kernel_rfl) (hs:sz=t.size:=by rfl) (hj:m.toNat=j:=by rfl):Ba n ⟨d,none,.i (.idx sz x i)⟩ f ob=some (0,.elt o j 0,[]):=Ag2 hx hi hs h0 hj hl
theorem zg {s:Nat} {b c:Bool} {q:Q} {r:Option Rec} (hc:c=b) (hs:f s=.bool c:=by kernel_rfl) (h:Ba n ⟨d,none,q⟩ f ob=r:=by kernel_rfl):Ba n ⟨d,some (s,b),q⟩ f ob=r:=Nv hs hc h
theorem zT {c x y:Opd} {b:Bool} (hb:b=true) (h:c.ev f=.bool b:=by kernel_rfl):Ba n ⟨d,none,.i (.pick c x y)⟩ f ob=some (0,x.ev f,[]):=Ank h hb
theorem zF {c x y:Opd} {b:Bool} (hb:b=false) (h:c.ev f=.bool b:=by kernel_rfl):Ba n ⟨d,none,.i (.pick c x y)⟩ f ob=some (0,y.ev f,[]):=Anq h hb
theorem zl {vs:List Value} {c:AV} {l:RL} (h:Qu ob c=some l:=by kernel_rfl):LeafR vs ob c l:=Apr h
end
theorem zj {α:Type} {a b:α} (h:some a=some b):a=b:=osj h
theorem wr_ {G:World->Prop} {S:St} {K:St->Prop} (h:K S):∃ S',WeakG G S S'∧K S':=⟨S,WeakG.refl _,h⟩
end
section
open Go.RowKit Go.Deep
inductive Ctl (σ ρ:Type) where
 | next (s:σ)
 | out (r:ρ)
def Ctl.then {σ β:Type} (k:σ->Option β):Ctl σ β->Option β
 | .next t=>k t
 | .out r=>some r
section
variable {α β σ τ ρ:Type}
def og (c:Prop) [Decidable c] (k:Option α):Option α:=if c then k else none
theorem Ao {c:Prop} [Decidable c] {k:Option α} {r:α} (h:og c k=some r):c∧k=some r:=by
 unfold og at h;split at h
 ·rename_i hc; exact ⟨hc,h⟩
 ·cases h
theorem An {c:Prop} [Decidable c] (h:c) (k:Option α):og c k=k:=if_pos h
theorem Ag {o:Option α} {f:α->Option β} {b:β} (h:o.bind f=some b):∃ a,o=some a∧f a=some b:=Option.bind_eq_some_iff.1 h
theorem Ad {c:Bool} {a b:Option α} {r:α} (h:cond c a b=some r):(c=true∧a=some r)∨(c=false∧b=some r):=by
 cases c
 ·exact .inr ⟨rfl,h⟩
 ·exact .inl ⟨rfl,h⟩
def Lk (a:Option (Ctl τ β)) (k:τ->Option β):Option β :=
 a.bind (Ctl.then k)
theorem Ajy {a:Option (Ctl τ β)} {k:τ->Option β} {r:β} (h:Lk a k=some r):∃ v,a=some v∧Ctl.then k v=some r:=Ag h
def Ay (body:σ->Option (Ctl σ ρ)):Nat->σ->Option ρ
 | 0,_=>none
 | n+1,s=>(body s).bind (Ctl.then (Ay body n))
theorem Ah0 {body:σ->Option (Ctl σ ρ)} {n:Nat} {s:σ} {v:ρ} (h:Ay body (n+1) s=some v):∃ c,body s=some c∧Ctl.then (Ay body n) c=some v:=Ag h
theorem Ag5 {body:σ->Option (Ctl σ ρ)} {s:σ} {v:ρ} (h:Ay body 0 s=some v):False:=by cases h
def Tu (xs:List α) (n:Int):Option α:=if 0<=n then xs[n.toNat]? else none
theorem Au {xs:List α} {k:Nat} {x:α} (h:xs[k]? =some x):k<xs.length:=(gSi.1 h).1
theorem Ga {xs:List α} {n:Int} {x:α} (h:Tu xs n=some x):0<=n∧n<xs.length∧xs[n.toNat]? =some x:=by
 unfold Tu at h;split at h
 ·rename_i h0;have:=Au h;exact ⟨h0,by omega,h⟩
 ·cases h
theorem Jz {xs:List α} {n:Int} (h:0<=n):Tu xs n=xs[n.toNat]?:=if_pos h
end
section
variable {P:Program} {G:World->Prop} {σ τ β ρ:Type}
theorem Av {x y:AC} {R:AE->St->Prop} {S:St} {A:Option τ} {k:τ->Option β} {r:β} (h:A.bind k=some r) (J:τ->St->Prop) (h1:∀ t,A=some t->awp P G x (J5 (fun S'=>∃ S'',WeakG G S' S''∧J t S'') R) S) (h2:∀ t S'',J t S''->k t=some r->awp P G y R S''):awp P G (.seq x y) R S:=by
 obtain ⟨t,ha,hk⟩:=Ag h;exact Aax (J t) (h1 t ha) fun S'' hj=>h2 t S'' hj hk
theorem Cp {x y:AC} {R:AE->St->Prop} {S:St} {A:Option (Ctl τ β)} {k:τ->Option β} {r:β} (h:Lk A k=some r) (J:τ->St->Prop)
  (h1:∀ v,A=some v->Ctl.then k v=some r->awp P G x (J5 (fun S'=>∃ t S'',v=.next t∧WeakG G S' S''∧J t S'') R) S) (h2:∀ t S'',J t S''->k t=some r->awp P G y R S''):awp P G (.seq x y) R S:=by
 obtain ⟨v,ha,hk⟩:=Ajy h;refine Aax (fun S''=>∃ t,v=.next t∧J t S'') (Dl (fun e S' hq=>?_) (h1 v ha hk)) fun S'' ⟨t,hv,hj⟩=>?_
 ·cases e with
  | normal=>obtain ⟨t,S'',hv,hw,hj⟩:=hq; exact ⟨S'',hw,t,hv,hj⟩
  | exit id=>exact hq
  | ret=>exact hq
 ·subst hv; exact h2 t S'' hj hk
theorem Ax {a:AC} {R:AE->St->Prop} {S:St} {body:σ->Option (Ctl σ ρ)} {fuel:Nat} {s0:σ} {v:ρ} (h:Ay body fuel s0=some v) (J:σ->St->Prop) (h0:∃ S0,WeakG G S S0∧J s0 S0)
  (h1:∀ n s S1 c,J s S1->body s=some c->Ctl.then (Ay body n) c=some v->awp P G a (J5 (fun S2=>∃ s' S3,WeakG G S2 S3∧J s' S3∧Ay body n s'=some v) R) S1):awp P G (.loop a) R S:=by
 obtain ⟨S0,hw,hj⟩:=h0;refine Akb (fun (p:Nat×σ) S=>Ay body p.1 p.2=some v∧J p.2 S) (·.1) ⟨(fuel,s0),S0,hw,h,hj⟩ ?_;rintro ⟨n,s⟩ S1 ⟨hl,hj⟩;cases n with
 | zero=>exact (Ag5 hl).elim
 | succ n =>
  obtain ⟨c,hc,hn⟩:=Ah0 hl;refine Dl (fun e S2 hq=>?_) (h1 n s S1 c hj hc hn);cases e with
  | normal=>obtain ⟨s',S3,hw,hj,hl⟩:=hq; exact ⟨(n,s'),S3,hw,⟨hl,hj⟩,Nat.lt_succ_self n⟩
  | exit id=>exact hq
  | ret=>exact hq
end
theorem C6 (n:Nat):0<=(n:Int):=by omega
end

section
open Go.RowKit Go.Deep
def Kh (a0:Int):Option Bool:=some (isF a0)
def U6 (r:Bool):RV:=⟨false,[(false,[.sc (.bool r)])]⟩
theorem It {a0:Int} {r:Bool} (h:Kh a0=some r):A6 Tryd.prog Tab 55 [.int .i64 a0] (U6 r):=by
 obtain rfl:=osj h;intro w im vs hG hr;obtain ⟨u1,_,rfl,h1,h2⟩:=hr;obtain rfl:_=[]:=h2;obtain rfl:u1=.int .i64 a0:=h1;refine (Afz a0 w (hG w (Below.refl _ _))).mono ?_;rintro e w' ⟨rfl,rfl⟩;exact ⟨_,rfl,Below.refl _ _,[_],[],⟨_,[],rfl,rfl,rfl,rfl,rfl⟩,⟨trivial,fun _=>rfl⟩,rfl⟩
end
section
open Go.RowKit Go.Deep
set_option maxRecDepth 4000
def Qd:AC :=
 (.seq (rg [xo 4 (qm (ci 0))])
 (.seq (rg [xm 5 1,xm 6 0,xn1 7 6,xo 8 (qb .sub (tm 5) (tm 7)),xm 1 8])
 (.seq (.seq (rg [xm 9 1,xo 10 (qb .lss (tm 9) (ci 0))])
 (.cond (tm 10)
  (.seq (rg [xo 4 (qm (ci (-1)))])
  .ret)
  .skip))
 (.seq (rg [xm 11 1,xm 4 11])
 .ret))))
def Z5:List Res:=[.tmp 4]
theorem Zl:Aq Tryd.prog Tryd.f52=some (Qd,Z5):=by kernel_rfl
def Gp (a0:List Int) (a1:Int):Option Int :=
 cond (decide (wI (a1 - (a0.length:Int))<0))
 (some (-1))
 (some (wI (a1 - (a0.length:Int))))
def Yq (r:Int):RV:=⟨false,[(false,[.sc (.int .i64 r)])]⟩
theorem V3 {a0:List Int} {a1 r:Int} (h:Gp a0 a1=some r):A6 Tryd.prog Tab 52 [tI a0,ai a1] (Yq r):=by
 refine A1 (by kernel_rfl) Tryd.func52 Zl (n:=12) (by kernel_rfl) (by simp) rfl ?_;unfold Qd;unfold Gp at h;refine Am (Am (Ab (Am ?_)));rcases Ad h with ⟨q5,h⟩ | ⟨q5,h⟩
 ·have q5_:=of_decide_eq_true q5;refine Ae q5 (Am (Ak (tr_ ?_)));obtain rfl:=zj h;exact Bm [ai (-1)] (A8 rfl zl A7)
 have q5_:=of_decide_eq_false q5;refine Af q5 (Aj (tn_ (wr_ (Am (Ak ?_)))));obtain rfl:=zj h;exact Bm [ai (wI (a1 - (a0.length:Int)))] (A8 rfl zl A7)
def L6:AC :=
 (.seq (.seq (rg [xm 8 4,xm 9 0,xn1 10 9,xs1 11 8 10])
 (.cond (tm 11)
  .skip
  (.exit 0)))
 (.seq (.block 1 (rg [xm 14 3,xm 15 4,xm 16 0,xm 17 4,xx 18 1 16 17,xl 19 18,xx 20 1 14 15,xn (qs (tm 20) (tm 19))]))
 (rg [xm 12 4,xa 13 12,xm 4 13])))
def Qe:AC :=
 (.seq (rg [xo 2 (qm (.cst .nils))])
 (.seq (rg [xm 5 0,xn1 6 5,xo 7 (.make 3 .int 8 (tm 6) (tm 6)),xm 3 7])
 (.seq (.seq (rg [xo 4 (qm (ci 0))])
 (.block 0 (.loop L6)))
 (.seq (rg [xm 21 3,xm 2 21])
 .ret))))
def Zw:List Res:=[.tmp 2]
theorem Z9:Aq Tryd.prog Tryd.f16=some (Qe,Zw):=by kernel_rfl
def El (a0:List Int) (u0:Nat) (u1:List Int):Option (Ctl (Nat×List Int) (List Int)) :=
 cond (decide ((u0:Int)<(a0.length:Int)))
 ((a0[u0]?).bind fun x11 =>
 (u1[u0]?).bind fun x12 =>
 og (u0+1<4611686018427387904) <|
 some (Ctl.next (u0+1,u1.set u0 x11)))
 (some (Ctl.out u1))
def Gy (a0:List Int):Option (List Int) :=
 og (0<=(a0.length:Int)∧(a0.length:Int)<=(a0.length:Int)∧(a0.length:Int)<=1073741824∧(8:Int)*(a0.length:Int)<=140737488355328) <|
(Ay (fun s_:Nat×List Int=>El a0 s_.1 s_.2) 4611686018427387904 (0,List.replicate a0.length (0:Int))).bind fun u0 =>
some u0
def V0 (r:List Int):RV:=⟨false,[(false,[.new 3 .int r])]⟩
theorem Wz {a0 r:List Int} (h:Gy a0=some r):A6 Tryd.prog Tab 16 [tI a0] (V0 r):=by
 refine A1 (by kernel_rfl) Tryd.func16 Z9 (n:=22) (by kernel_rfl) (by simp) rfl ?_;unfold Qe;unfold Gy at h;refine Am (Ab ?_);obtain ⟨g3,h⟩:=Ao h;refine Aa 6 (rsB 2 (rs1 (oI 7 4 a0.length) (oi 7 4) (.arr 3 .int (List.replicate a0.length (0:Int))) (Ya (t:=.int) (k:=.i64) (k':=.i64) (m:=(a0.length:Int)) (m':=(a0.length:Int)) (by kernel_rfl) (by kernel_rfl) g3 rfl) (rsB 1 (As (tn_ (wr_ (Av h (fun (u2:List Int) S_=>S_=⟨Al [(3,oI 0 1 u2.length)],Ah (Ap [(oi 0 1,.arr 3 .int u2)]),2⟩) ?_ ?_)))))))
 ·intro v_ h;refine Am (Ai (Ax h (fun t_ S_=>∃ (u1:Nat),∃ (u0:List Int),t_=(u1,u0)∧S_=⟨Al [(0,tI a0),(3,oI 0 1 u0.length),(4,an u1)],Ah (Ap [(oi 0 1,.arr 3 .int u0)]),2⟩) ⟨_,(Bk 3 (oI 7 4 a0.length) (oI 7 4 ((List.replicate a0.length (0:Int)).length)) (by kernel_rfl) (congrArg (fun z_=>((oI 7 4 z_):AV)) (List.length_replicate.symm:a0.length=(List.replicate a0.length (0:Int)).length))).trans (Ac [(oi 0 1,oi 7 4)]),⟨0,List.replicate a0.length (0:Int),rfl,rfl⟩⟩ ?_));rintro n_ _ _ c_ ⟨u1,u0,rfl,rfl⟩ h hn6
  (try dsimp only at h);unfold El at h;unfold L6;refine Ab (Am ?_);rcases Ad h with ⟨q9,h⟩ | ⟨q9,h⟩
  ·have q9_:=of_decide_eq_true q9;refine Ae q9 (Aj (tn_ (wr_ (Ab (Ai ?_)))));obtain ⟨x11,e11,h⟩:=Ag h;obtain ⟨x12,e12,h⟩:=Ag h;refine Aa 14 (rsB 4 (zI .int e11 (rsB 1 (zO (oi 0 1) .int u0.length (Au e12) (zS (oi 0 1) (x11) e12 (As (bn_ (tn_ (wr_ ?_)))))))));obtain ⟨g13,h⟩:=Ao h;refine Aa 17 (rsB 1 (zA g13 (rsB 1 (As (tn_ ?_)))));obtain rfl:=zj h;exact ⟨(u1+1,u0.set u1 x11),_,(Bk 3 (oI 0 1 u0.length) (oI 0 1 ((u0.set u1 x11).length)) (by kernel_rfl) (congrArg (fun z_=>((oI 0 1 z_):AV)) (((rfl:u0.length=u0.length).trans List.length_set.symm):u0.length=(u0.set u1 x11).length))).trans (Ac []),⟨u1+1,u0.set u1 x11,rfl,rfl⟩,hn6⟩
  have q9_:=of_decide_eq_false q9;refine Af q9 (Aw (te_ (te_ (be_ (tn_ ?_)))));obtain rfl:=zj h;have h:=hn6
  (try dsimp only at h);obtain rfl:=zj h;exact ⟨_,Ac [],rfl⟩
 rintro u2 _ rfl h
 (try dsimp only at h);refine Am (Ak ?_);obtain rfl:=zj h;exact Bm [oI 0 1 u2.length] (A8 rfl (Ut (by kernel_rfl) rfl) A7)
def Lq:AC :=
 (.seq (.seq (rg [xm 11 5,xm 12 0,xn1 13 12,xs1 14 11 13])
 (.cond (tm 14)
  .skip
  (.exit 0)))
 (.seq (.block 1 (.seq (.region [xm 17 0,xm 18 5,xx 19 1 17 18,xl 20 19,xm 21 1,xm 22 5,xx 23 1 21 22,xl 24 23,xo 25 (qb .neq (tm 20) (tm 24))] true [])
 (.cond (tm 25)
  (.seq (rg [xo 4 (qm (cb false))])
  .ret)
  .skip)))
 (rg [xm 15 5,xa 16 15,xm 5 16])))
def Qa:AC :=
 (.seq (rg [xo 4 (qm (cb false))])
 (.seq (.seq (rg [xm 6 0,xn1 7 6,xm 8 1,xn1 9 8,xo 10 (qb .neq (tm 7) (tm 9))])
 (.cond (tm 10)
  (.seq (rg [xo 4 (qm (cb false))])
  .ret)
  .skip))
 (.seq (.seq (rg [xo 5 (qm (ci 0))])
 (.block 0 (.loop Lq)))
 (.seq (rg [xo 4 (qm (cb true))])
 .ret))))
def Aag:List Res:=[.tmp 4]
theorem Zq:Aq Tryd.prog Tryd.f19=some (Qa,Aag):=by kernel_rfl
def Es (a0 a1:List Int) (u0:Nat):Option (Ctl Nat (Ctl Unit Bool)) :=
 cond (decide ((u0:Int)<(a0.length:Int)))
 ((a0[u0]?).bind fun x14 =>
 (a1[u0]?).bind fun x15 =>
 cond (x14 !=x15)
  (some (Ctl.out (Ctl.out false)))
  (og (u0+1<4611686018427387904) <|
  some (Ctl.next (u0+1))))
 (some (Ctl.out (Ctl.next ())))
def Gm (a0 a1:List Int):Option Bool :=
 cond ((a0.length:Int) !=(a1.length:Int))
 (some false)
 (Lk (Ay (fun s_:Nat=>Es a0 a1 s_) 4611686018427387904 0) fun _ =>
 some true)
def Wy (r:Bool):RV:=⟨false,[(false,[.sc (.bool r)])]⟩
theorem X1 {a0 a1:List Int} {r:Bool} (h:Gm a0 a1=some r):A6 Tryd.prog Tab 19 [tI a0,tI a1] (Wy r):=by
 refine A1 (by kernel_rfl) Tryd.func19 Zq (n:=26) (by kernel_rfl) (by simp) rfl ?_;unfold Qa;unfold Gm at h;refine Am (Ab (Am ?_));rcases Ad h with ⟨q4,h⟩ | ⟨q4,h⟩
 ·refine Ae q4 (Am (Ak (tr_ ?_)));obtain rfl:=zj h;exact Bm [.bool false] (A8 rfl zl A7)
 refine Af q4 (Aj (tn_ (wr_ (Cp h (fun (_:Unit) S_=>S_=⟨Al [],Ah (Ap []),2⟩) ?_ ?_))))
 ·intro v_ h hk6;refine Am (Ai (Ax h (fun (u0:Nat) S_=>S_=⟨Al [(0,tI a0),(1,tI a1),(5,an u0)],Ah (Ap []),2⟩) ⟨_,Ac [],rfl⟩ ?_));rintro n_ u0 _ c_ rfl h hn8
  (try dsimp only at h);unfold Es at h;unfold Lq;refine Ab (Am ?_);rcases Ad h with ⟨q11,h⟩ | ⟨q11,h⟩
  ·have q11_:=of_decide_eq_true q11;refine Ae q11 (Aj (tn_ (wr_ (Ab (Ai (Ab ?_))))));obtain ⟨x14,e14,h⟩:=Ag h;obtain ⟨x15,e15,h⟩:=Ag h;refine Bb 15 (dz0 (tI a0) (dz0 (an u0) (dzI .int e14 (dz0 (ai x14) (dz0 (tI a1) (dz0 (an u0) (dzI .int e15 (dz0 (ai x15) (dz0 (.bool (x14 !=x15)) (Lz (Bv (by kernel_rfl)) (tn_ (wr_ ?_))))))))))));rcases Ad h with ⟨q16,h⟩ | ⟨q16,h⟩
   ·refine Ae q16 (Am (Ak (br_ (tr_ (tr_ (br_ (tr_ ?_)))))));obtain rfl:=zj h;have h:=hn8
    (try dsimp only at h);obtain rfl:=zj h;have h:=hk6
    (try dsimp only at h);obtain rfl:=zj h;exact Bm [.bool false] (A8 rfl zl A7)
   refine Af q16 (Aj (bn_ (tn_ (wr_ ?_))));obtain ⟨g18,h⟩:=Ao h;refine Aa 18 (rsB 1 (zA g18 (rsB 1 (As (tn_ ?_)))));obtain rfl:=zj h;exact ⟨u0+1,_,Ac [],rfl,hn8⟩
  have q11_:=of_decide_eq_false q11;refine Af q11 (Aw (te_ (te_ (be_ (tn_ ?_)))));obtain rfl:=zj h;have h:=hn8
  (try dsimp only at h);obtain rfl:=zj h;exact ⟨(),_,rfl,Ac [],rfl⟩
 rintro _ _ rfl h
 (try dsimp only at h);refine Am (Ak ?_);obtain rfl:=zj h;exact Bm [.bool true] (A8 rfl zl A7)
def Jr:AC :=
 (.seq (.seq (rg [xm 6 5,xm 7 0,xn1 8 7,xs1 9 6 8])
 (.cond (tm 9)
  .skip
  (.exit 0)))
 (.seq (.block 1 (.seq (rg [xm 12 0,xm 13 5,xm 14 1,xx 15 1 12 13,xn (qs (tm 15) (tm 14))])
 (rg [xm 16 1,xa 17 16,xm 1 17])))
 (rg [xm 10 5,xa 11 10,xm 5 11])))
def Nf:AC :=
 (.seq (rg [xo 4 (qm (ci 0))])
 (.seq (.seq (rg [xo 5 (qm (ci 0))])
 (.block 0 (.loop Jr)))
 (.seq (rg [xm 18 1,xm 4 18])
 .ret)))
def Vc:List Res:=[.tmp 4]
theorem U4:Aq Tryd.prog Tryd.f21=some (Nf,Vc):=by kernel_rfl
theorem Tl:A5 Tryd.prog 21=true:=by kernel_rfl
def Dm  (u2:Int) (u0:Nat) (u1:List Int):Option (Ctl (Int×Nat×List Int) (Int×List Int)) :=
 cond (decide ((u0:Int)<(u1.length:Int)))
 ((u1[u0]?).bind fun x11 =>
 og (u0+1<4611686018427387904) <|
 some (Ctl.next (wI (u2+1),u0+1,u1.set u0 u2)))
 (some (Ctl.out (u2,u1)))
def Fa (a0:List Int) (a1:Int):Option (List Int×Int) :=
 (Ay (fun s_:Int×Nat×List Int=>Dm s_.1 s_.2.1 s_.2.2) 4611686018427387904 (a1,0,a0)).bind fun (u0,l3_p0) =>
some (l3_p0,u0)
theorem Td {a0:List Int} {a1:Int} {r:List Int×Int} (h:Fa a0 a1=some r) {n_a0:Nat} (hn_a0:n_a0=a0.length):Dd Tryd.prog Tab 21 [oI 0 0 n_a0,ai a1] [(oi 0 0,.arr 3 .int a0)] (ai r.2) [(oi 0 0,.arr 3 .int r.1)]:=by
 refine Cd (by kernel_rfl) Tryd.func21 U4 (n:=19) (by kernel_rfl) (by simp) rfl (by kernel_rfl) ⟨trivial,trivial⟩ ⟨trivial,trivial⟩ ?_;unfold Nf;unfold Fa at h;refine Am (Av h (fun t_ S_=>∃ (u3:Int),∃ (l3_p0:List Int),t_=(u3,l3_p0)∧S_=⟨Al [(1,ai u3)],Ah (Ap [(oi 0 0,.arr 3 .int l3_p0)]),2⟩) ?_ ?_)
 ·intro v_ h;refine Am (Ai (Ax h (fun t_ S_=>∃ (u1:Int),∃ (u2:Nat),∃ (u0:List Int),t_=(u1,u2,u0)∧S_=⟨Al [(0,oI 0 0 u0.length),(1,ai u1),(5,an u2)],Ah (Ap [(oi 0 0,.arr 3 .int u0)]),2⟩) ⟨_,(Bk 0 (oI 0 0 n_a0) (oI 0 0 a0.length) (by kernel_rfl) (congrArg (fun z_=>((oI 0 0 z_):AV)) (hn_a0:n_a0=a0.length))).trans (Ac []),⟨a1,0,a0,rfl,rfl⟩⟩ ?_));rintro n_ _ _ c_ ⟨u1,u2,u0,rfl,rfl⟩ h hn5
  (try dsimp only at h);unfold Dm at h;unfold Jr;refine Ab (Am ?_);rcases Ad h with ⟨q8,h⟩ | ⟨q8,h⟩
  ·have q8_:=of_decide_eq_true q8;refine Ae q8 (Aj (tn_ (wr_ (Ab (Ai (Ab ?_))))));obtain ⟨x11,e11,h⟩:=Ag h;refine Aa 11 (rsB 3 (zO (oi 0 0) .int u0.length (Au e11) (zS (oi 0 0) (u1) e11 (As (tn_ (wr_ (Aa 14 (rsB 3 (As (bn_ (tn_ (wr_ ?_))))))))))));obtain ⟨g12,h⟩:=Ao h;refine Aa 17 (rsB 1 (zA g12 (rsB 1 (As (tn_ ?_)))));obtain rfl:=zj h;exact ⟨(wI (u1+1),u2+1,u0.set u2 u1),_,(Bk 0 (oI 0 0 u0.length) (oI 0 0 ((u0.set u2 u1).length)) (by kernel_rfl) (congrArg (fun z_=>((oI 0 0 z_):AV)) (((rfl:u0.length=u0.length).trans List.length_set.symm):u0.length=(u0.set u2 u1).length))).trans (Ac []),⟨wI (u1+1),u2+1,u0.set u2 u1,rfl,rfl⟩,hn5⟩
  have q8_:=of_decide_eq_false q8;refine Af q8 (Aw (te_ (te_ (be_ (tn_ ?_)))));obtain rfl:=zj h;have h:=hn5
  (try dsimp only at h);obtain rfl:=zj h;exact ⟨_,Ac [],⟨u1,u0,rfl,rfl⟩⟩
 rintro _ _ ⟨u3,l3_p0,rfl,rfl⟩ h
 (try dsimp only at h);refine Am (Ak ?_);obtain rfl:=zj h;exact Dw [ai u3] (Ac (tl:=[(4,ai u3)]) (g:=2) [])
def Jp:AC :=
 (.seq (.seq (rg [xm 6 5,xm 7 0,xn1 8 7,xs1 9 6 8])
 (.cond (tm 9)
  .skip
  (.exit 0)))
 (.seq (.block 1 (.seq (.seq (rg [xm 12 0,xm 13 5,xx 14 1 12 13,xl 15 14,xm 16 1,xo 17 (qb .neq (tm 15) (tm 16))])
 (.cond (tm 17)
  (.seq (rg [xo 4 (qm (ci (-1)))])
  .ret)
  .skip))
 (rg [xm 18 1,xa 19 18,xm 1 19])))
 (rg [xm 10 5,xa 11 10,xm 5 11])))
def M9:AC :=
 (.seq (rg [xo 4 (qm (ci 0))])
 (.seq (.seq (rg [xo 5 (qm (ci 0))])
 (.block 0 (.loop Jp)))
 (.seq (rg [xm 20 1,xm 4 20])
 .ret)))
def U9:List Res:=[.tmp 4]
theorem Vd:Aq Tryd.prog Tryd.f23=some (M9,U9):=by kernel_rfl
def Ds (a0:List Int) (u1:Int) (u0:Nat):Option (Ctl (Int×Nat) (Ctl Int Int)) :=
 cond (decide ((u0:Int)<(a0.length:Int)))
 ((a0[u0]?).bind fun x11 =>
 cond (x11 !=u1)
  (some (Ctl.out (Ctl.out (-1))))
  (og (u0+1<4611686018427387904) <|
  some (Ctl.next (wI (u1+1),u0+1))))
 (some (Ctl.out (Ctl.next u1)))
def E9 (a0:List Int) (a1:Int):Option Int :=
 Lk (Ay (fun s_:Int×Nat=>Ds a0 s_.1 s_.2) 4611686018427387904 (a1,0)) fun u0 =>
some u0
def Tv (r:Int):RV:=⟨false,[(false,[.sc (.int .i64 r)])]⟩
theorem Ta {a0:List Int} {a1 r:Int} (h:E9 a0 a1=some r):A6 Tryd.prog Tab 23 [tI a0,ai a1] (Tv r):=by
 refine A1 (by kernel_rfl) Tryd.func23 Vd (n:=21) (by kernel_rfl) (by simp) rfl ?_;unfold M9;unfold E9 at h;refine Am (Cp h (fun (u2:Int) S_=>S_=⟨Al [(1,ai u2)],Ah (Ap []),2⟩) ?_ ?_)
 ·intro v_ h hk2;refine Am (Ai (Ax h (fun t_ S_=>∃ (u0:Int),∃ (u1:Nat),t_=(u0,u1)∧S_=⟨Al [(0,tI a0),(1,ai u0),(5,an u1)],Ah (Ap []),2⟩) ⟨_,Ac [],⟨a1,0,rfl,rfl⟩⟩ ?_));rintro n_ _ _ c_ ⟨u0,u1,rfl,rfl⟩ h hn4
  (try dsimp only at h);unfold Ds at h;unfold Jp;refine Ab (Am ?_);rcases Ad h with ⟨q7,h⟩ | ⟨q7,h⟩
  ·have q7_:=of_decide_eq_true q7;refine Ae q7 (Aj (tn_ (wr_ (Ab (Ai (Ab (Ab ?_)))))));obtain ⟨x11,e11,h⟩:=Ag h;refine Aa 12 (rsB 2 (zI .int e11 (rsB 3 (As (tn_ (wr_ ?_))))));rcases Ad h with ⟨q12,h⟩ | ⟨q12,h⟩
   ·refine Ae q12 (Am (Ak (tr_ (br_ (tr_ (tr_ (br_ (tr_ ?_))))))));obtain rfl:=zj h;have h:=hn4
    (try dsimp only at h);obtain rfl:=zj h;have h:=hk2
    (try dsimp only at h);obtain rfl:=zj h;exact Bm [ai (-1)] (A8 rfl zl A7)
   refine Af q12 (Aj (tn_ (wr_ (Aa 15 (rsB 3 (As (bn_ (tn_ (wr_ ?_)))))))));obtain ⟨g14,h⟩:=Ao h;refine Aa 18 (rsB 1 (zA g14 (rsB 1 (As (tn_ ?_)))));obtain rfl:=zj h;exact ⟨(wI (u0+1),u1+1),_,Ac [],⟨wI (u0+1),u1+1,rfl,rfl⟩,hn4⟩
  have q7_:=of_decide_eq_false q7;refine Af q7 (Aw (te_ (te_ (be_ (tn_ ?_)))));obtain rfl:=zj h;have h:=hn4
  (try dsimp only at h);obtain rfl:=zj h;exact ⟨u0,_,rfl,Ac [],rfl⟩
 rintro u2 _ rfl h
 (try dsimp only at h);refine Am (Ak ?_);obtain rfl:=zj h;exact Bm [ai u2] (A8 rfl zl A7)
def Ui:AC :=
 (.seq (rg [xo 6 (qm (cb false))])
 (.seq (rg [xm 7 0,xm 8 1,xo 9 (qb .geq (tm 7) (tm 8)),xm 10 9,⟨some 11,some (10,true),qm (tm 0)⟩,⟨some 12,some (10,true),qm (tm 2)⟩,⟨some 13,some (10,true),qb .leq (tm 11) (tm 12)⟩,xo 14 (.i (.pick (tm 10) (tm 13) (cb false))),xm 6 14])
 .ret))
def Aev:List Res:=[.tmp 6]
theorem Adz:Aq Tryd.prog Tryd.f37=some (Ui,Aev):=by kernel_rfl
theorem F6:A5 Tryd.prog 37=true:=by kernel_rfl
def D5 (a0 a1 a2:Int):Option Bool :=
 (cond (decide (a1<=a0))
  (some (decide (a0<=a2)))
  (some false)).bind fun u0 =>
some u0
def Acb (r:Bool):RV:=⟨false,[(false,[.sc (.bool r)])]⟩
theorem B8 {a0 a1 a2:Int} {r:Bool} (h:D5 a0 a1 a2=some r):A6 Tryd.prog Tab 37 [ai a0,ai a1,ai a2] (Acb r):=by
 refine A1 (by kernel_rfl) Tryd.func37 Adz (n:=15) (by kernel_rfl) (by simp) rfl ?_;unfold Ui;unfold D5 at h;refine Am (Av h (fun (u0:Bool) S_=>S_=⟨Al [(6,.bool u0)],Ah (Ap []),2⟩) ?_ ?_)
 ·intro v_ h;rcases Ad h with ⟨q3,h⟩ | ⟨q3,h⟩
  ·have q3_:=of_decide_eq_true q3;refine Aa 11 (rsB 4 (rs0 (ai a0) (zg q3) (rs0 (ai a2) (zg q3) (rs0 (.bool (decide (a0<=a2))) (zg q3) (rs0 (.bool (decide (a0<=a2))) (zT q3) (rsB 1 (As (tn_ ?_))))))));obtain rfl:=zj h;exact ⟨_,Ac [],rfl⟩
  have q3_:=of_decide_eq_false q3;refine Aa 11 (rsB 4 (zs q3 (zs q3 (zs q3 (rs0 (.bool false) (zF q3) (rsB 1 (As (tn_ ?_))))))));obtain rfl:=zj h;exact ⟨_,Ac [],rfl⟩
 rintro u0 _ rfl h
 (try dsimp only at h);refine Ak ?_;obtain rfl:=zj h;exact Bm [.bool u0] (A8 rfl zl A7)
def Mj:AC :=
 (.seq (.seq (rg [xm 7 3,xm 8 3,xo 9 (qb .mul (tm 7) (tm 8)),xm 10 0,xo 11 (qb .leq (tm 9) (tm 10))])
 (.cond (tm 11)
  .skip
  (.exit 0)))
 (.seq (.block 1 (.seq (rg [xm 14 0,xm 15 3,xo 16 (qb .rem (tm 14) (tm 15)),xo 17 (qb .eql (tm 16) (ci 0))])
 (.cond (tm 17)
  (.seq (rg [xo 2 (qm (cb false))])
  .ret)
  .skip)))
 (rg [xm 12 3,xa 13 12,xm 3 13])))
def Pv:AC :=
 (.seq (rg [xo 2 (qm (cb false))])
 (.seq (.seq (rg [xm 4 0,xo 5 (qc 37 [tm 4,ci 2,ci 97] [[],[],[]]),xo 6 (.i (.not (tm 5)))])
 (.cond (tm 6)
  (.seq (rg [xo 2 (qm (cb false))])
  .ret)
  .skip))
 (.seq (.seq (rg [xo 3 (qm (ci 2))])
 (.block 0 (.loop Mj)))
 (.seq (rg [xo 2 (qm (cb true))])
 .ret))))
def Zs:List Res:=[.tmp 2]
theorem Y2:Aq Tryd.prog Tryd.f61=some (Pv,Zs):=by kernel_rfl
def Er (a0:Int) (u0:Nat):Option (Ctl Nat (Ctl Unit Bool)) :=
 cond (decide (wI ((u0:Int)*(u0:Int))<=a0))
 (og ((u0:Int)≠0) <|
 cond ((Int.tmod a0 (u0:Int))==0)
  (some (Ctl.out (Ctl.out false)))
  (og (u0+1<4611686018427387904) <|
  some (Ctl.next (u0+1))))
 (some (Ctl.out (Ctl.next ())))
def Gn (a0:Int):Option Bool :=
 (D5 a0 2 97).bind fun y4 =>
cond (!y4)
 (some false)
 (Lk (Ay (fun s_:Nat=>Er a0 s_) 4611686018427387904 2) fun _ =>
 some true)
def W3 (r:Bool):RV:=⟨false,[(false,[.sc (.bool r)])]⟩
theorem Fu {a0:Int} {r:Bool} (h:Gn a0=some r):A6 Tryd.prog Tab 61 [ai a0] (W3 r):=by
 refine A1 (by kernel_rfl) Tryd.func61 Y2 (n:=18) (by kernel_rfl) (by simp) rfl ?_;unfold Pv;unfold Gn at h;refine Am (Ab (Ab ?_));obtain ⟨y4,h4,h⟩:=Ag h;refine Aa 5 (rsB 1 (zc (.bool y4) [] [ai a0,ai 2,ai 97] (B8 h4) (rsB 1 (As (tn_ (wr_ ?_))))));rcases Ad h with ⟨q5,h⟩ | ⟨q5,h⟩
 ·refine Ae q5 (Am (Ak (tr_ ?_)));obtain rfl:=zj h;exact Bm [.bool false] (A8 rfl zl A7)
 refine Af q5 (Aj (tn_ (wr_ (Cp h (fun (_:Unit) S_=>S_=⟨Al [],Ah (Ap []),2⟩) ?_ ?_))))
 ·intro v_ h hk7;refine Am (Ai (Ax h (fun (u0:Nat) S_=>S_=⟨Al [(0,ai a0),(3,an u0)],Ah (Ap []),2⟩) ⟨_,Ac [],rfl⟩ ?_));rintro n_ u0 _ c_ rfl h hn9
  (try dsimp only at h);unfold Er at h;unfold Mj;refine Ab (Am ?_);rcases Ad h with ⟨q12,h⟩ | ⟨q12,h⟩
  ·have q12_:=of_decide_eq_true q12;refine Ae q12 (Aj (tn_ (wr_ (Ab (Ai (Ab ?_))))));obtain ⟨g15,h⟩:=Ao h;refine Aa 11 (rsB 2 (rs0 (ai (Int.tmod a0 (u0:Int))) (Qb (k:=.i64) (a:=a0) (b:=(u0:Int)) (by kernel_rfl) (by kernel_rfl) g15) (rsB 1 (As (tn_ (wr_ ?_))))));rcases Ad h with ⟨q16,h⟩ | ⟨q16,h⟩
   ·refine Ae q16 (Am (Ak (br_ (tr_ (tr_ (br_ (tr_ ?_)))))));obtain rfl:=zj h;have h:=hn9
    (try dsimp only at h);obtain rfl:=zj h;have h:=hk7
    (try dsimp only at h);obtain rfl:=zj h;exact Bm [.bool false] (A8 rfl zl A7)
   refine Af q16 (Aj (bn_ (tn_ (wr_ ?_))));obtain ⟨g18,h⟩:=Ao h;refine Aa 14 (rsB 1 (zA g18 (rsB 1 (As (tn_ ?_)))));obtain rfl:=zj h;exact ⟨u0+1,_,Ac [],rfl,hn9⟩
  have q12_:=of_decide_eq_false q12;refine Af q12 (Aw (te_ (te_ (be_ (tn_ ?_)))));obtain rfl:=zj h;have h:=hn9
  (try dsimp only at h);obtain rfl:=zj h;exact ⟨(),_,rfl,Ac [],rfl⟩
 rintro _ _ rfl h
 (try dsimp only at h);refine Am (Ak ?_);obtain rfl:=zj h;exact Bm [.bool true] (A8 rfl zl A7)
def Nb:AC :=
 (.seq (rg [xs1 12 11 10])
 (.seq (.cond (tm 12)
  .skip
  (.exit 0))
 (.seq (.block 1 (.seq (rg [xx 13 1 9 11,xl 14 13,xm 8 14])
 (.seq (rg [xm 15 8,xm 16 1,xm 17 2,xo 18 (qc 37 [tm 15,tm 16,tm 17] [[],[],[]]),xo 19 (.i (.not (tm 18)))])
 (.cond (tm 19)
  (.seq (rg [xo 6 (qm (cb false))])
  .ret)
  .skip))))
 (rg [xa 20 11,xm 11 20]))))
def Rb:AC :=
 (.seq (rg [xo 6 (qm (cb false))])
 (.seq (.seq (rg [xm 9 0,xn1 10 9,xo 11 (qm (ci 0))])
 (.block 0 (.loop Nb)))
 (.seq (rg [xo 6 (qm (cb true))])
 .ret)))
def Ack:List Res:=[.tmp 6]
theorem Ada:Aq Tryd.prog Tryd.f82=some (Rb,Ack):=by kernel_rfl
def G3 (a0:List Int) (a1 a2:Int) (u0:Nat):Option (Ctl Nat (Ctl Unit Bool)) :=
 cond (decide ((u0:Int)<(a0.length:Int)))
 ((a0[u0]?).bind fun x10 =>
 (D5 x10 a1 a2).bind fun y12 =>
 cond (!y12)
  (some (Ctl.out (Ctl.out false)))
  (og (u0+1<4611686018427387904) <|
  some (Ctl.next (u0+1))))
 (some (Ctl.out (Ctl.next ())))
def Hd (a0:List Int) (a1 a2:Int):Option Bool :=
 Lk (Ay (fun s_:Nat=>G3 a0 a1 a2 s_) 4611686018427387904 0) fun _ =>
some true
def Aad (r:Bool):RV:=⟨false,[(false,[.sc (.bool r)])]⟩
theorem Zj {a0:List Int} {a1 a2:Int} {r:Bool} (h:Hd a0 a1 a2=some r):A6 Tryd.prog Tab 82 [tI a0,ai a1,ai a2] (Aad r):=by
 refine A1 (by kernel_rfl) Tryd.func82 Ada (n:=21) (by kernel_rfl) (by simp) rfl ?_;unfold Rb;unfold Hd at h;refine Am (Cp h (fun (_:Unit) S_=>S_=⟨Al [],Ah (Ap []),2⟩) ?_ ?_)
 ·intro v_ h hk2;refine Am (Ai (Ax h (fun (u0:Nat) S_=>S_=⟨Al [(1,ai a1),(2,ai a2),(9,tI a0),(10,an a0.length),(11,an u0)],Ah (Ap []),2⟩) ⟨_,Ac [],rfl⟩ ?_));rintro n_ u0 _ c_ rfl h hn4
  (try dsimp only at h);unfold G3 at h;unfold Nb;refine Am (Ab ?_);rcases Ad h with ⟨q7,h⟩ | ⟨q7,h⟩
  ·have q7_:=of_decide_eq_true q7;refine Ae q7 (Aj (tn_ (wr_ (Ab (Ai (Ab ?_))))));obtain ⟨x10,e10,h⟩:=Ag h;refine Aa 6 (zI .int e10 (rsB 2 (As (tn_ (wr_ (Ab ?_))))));obtain ⟨y12,h12,h⟩:=Ag h;refine Aa 11 (rsB 3 (zc (.bool y12) [] [ai x10,ai a1,ai a2] (B8 h12) (rsB 1 (As (tn_ (wr_ ?_))))));rcases Ad h with ⟨q13,h⟩ | ⟨q13,h⟩
   ·refine Ae q13 (Am (Ak (br_ (tr_ (tr_ (br_ (tr_ ?_)))))));obtain rfl:=zj h;have h:=hn4
    (try dsimp only at h);obtain rfl:=zj h;have h:=hk2
    (try dsimp only at h);obtain rfl:=zj h;exact Bm [.bool false] (A8 rfl zl A7)
   refine Af q13 (Aj (bn_ (tn_ (wr_ ?_))));obtain ⟨g15,h⟩:=Ao h;refine Aa 13 (zA g15 (rsB 1 (As (tn_ ?_))));obtain rfl:=zj h;exact ⟨u0+1,_,Ac [],rfl,hn4⟩
  have q7_:=of_decide_eq_false q7;refine Af q7 (Aw (te_ (te_ (be_ (tn_ ?_)))));obtain rfl:=zj h;have h:=hn4
  (try dsimp only at h);obtain rfl:=zj h;exact ⟨(),_,rfl,Ac [],rfl⟩
 rintro _ _ rfl h
 (try dsimp only at h);refine Am (Ak ?_);obtain rfl:=zj h;exact Bm [.bool true] (A8 rfl zl A7)
def Nh:AC :=
 (.seq (rg [xs1 10 9 8])
 (.seq (.cond (tm 10)
  .skip
  (.exit 0))
 (.seq (.block 1 (.seq (rg [xx 11 1 7 9,xl 12 11,xm 6 12])
 (.seq (rg [xm 13 6,xm 14 1,xo 15 (qb .eql (tm 13) (tm 14))])
 (.cond (tm 15)
  (.seq (rg [xo 4 (qm (cb true))])
  .ret)
  .skip))))
 (rg [xa 16 9,xm 9 16]))))
def R1:AC :=
 (.seq (rg [xo 4 (qm (cb false))])
 (.seq (.seq (rg [xm 7 0,xn1 8 7,xo 9 (qm (ci 0))])
 (.block 0 (.loop Nh)))
 (.seq (rg [xo 4 (qm (cb false))])
 .ret)))
def Adn:List Res:=[.tmp 4]
theorem Aci:Aq Tryd.prog Tryd.f64=some (R1,Adn):=by kernel_rfl
def G0 (a0:List Int) (a1:Int) (u0:Nat):Option (Ctl Nat (Ctl Unit Bool)) :=
 cond (decide ((u0:Int)<(a0.length:Int)))
 ((a0[u0]?).bind fun x10 =>
 cond (x10==a1)
  (some (Ctl.out (Ctl.out true)))
  (og (u0+1<4611686018427387904) <|
  some (Ctl.next (u0+1))))
 (some (Ctl.out (Ctl.next ())))
def He (a0:List Int) (a1:Int):Option Bool :=
 Lk (Ay (fun s_:Nat=>G0 a0 a1 s_) 4611686018427387904 0) fun _ =>
some false
def Zd (r:Bool):RV:=⟨false,[(false,[.sc (.bool r)])]⟩
theorem Z4 {a0:List Int} {a1:Int} {r:Bool} (h:He a0 a1=some r):A6 Tryd.prog Tab 64 [tI a0,ai a1] (Zd r):=by
 refine A1 (by kernel_rfl) Tryd.func64 Aci (n:=17) (by kernel_rfl) (by simp) rfl ?_;unfold R1;unfold He at h;refine Am (Cp h (fun (_:Unit) S_=>S_=⟨Al [],Ah (Ap []),2⟩) ?_ ?_)
 ·intro v_ h hk2;refine Am (Ai (Ax h (fun (u0:Nat) S_=>S_=⟨Al [(1,ai a1),(7,tI a0),(8,an a0.length),(9,an u0)],Ah (Ap []),2⟩) ⟨_,Ac [],rfl⟩ ?_));rintro n_ u0 _ c_ rfl h hn4
  (try dsimp only at h);unfold G0 at h;unfold Nh;refine Am (Ab ?_);rcases Ad h with ⟨q7,h⟩ | ⟨q7,h⟩
  ·have q7_:=of_decide_eq_true q7;refine Ae q7 (Aj (tn_ (wr_ (Ab (Ai (Ab ?_))))));obtain ⟨x10,e10,h⟩:=Ag h;refine Aa 6 (zI .int e10 (rsB 2 (As (tn_ (wr_ (Am ?_))))));rcases Ad h with ⟨q12,h⟩ | ⟨q12,h⟩
   ·refine Ae q12 (Am (Ak (br_ (tr_ (tr_ (br_ (tr_ ?_)))))));obtain rfl:=zj h;have h:=hn4
    (try dsimp only at h);obtain rfl:=zj h;have h:=hk2
    (try dsimp only at h);obtain rfl:=zj h;exact Bm [.bool true] (A8 rfl zl A7)
   refine Af q12 (Aj (bn_ (tn_ (wr_ ?_))));obtain ⟨g14,h⟩:=Ao h;refine Aa 11 (zA g14 (rsB 1 (As (tn_ ?_))));obtain rfl:=zj h;exact ⟨u0+1,_,Ac [],rfl,hn4⟩
  have q7_:=of_decide_eq_false q7;refine Af q7 (Aw (te_ (te_ (be_ (tn_ ?_)))));obtain rfl:=zj h;have h:=hn4
  (try dsimp only at h);obtain rfl:=zj h;exact ⟨(),_,rfl,Ac [],rfl⟩
 rintro _ _ rfl h
 (try dsimp only at h);refine Am (Ak ?_);obtain rfl:=zj h;exact Bm [.bool false] (A8 rfl zl A7)
def R5:AC :=
 (.seq (rg [xo 2 (qm (.cst .nils))])
 (.seq (rg [xo 3 (.mkS 3 .int []),xm 4 0,xo 5 (.append 3 .int 8 (tm 3) (tm 4)),xm 2 5])
 .ret))
def Adg:List Res:=[.tmp 2]
theorem Ac1:Aq Tryd.prog Tryd.f54=some (R5,Adg):=by kernel_rfl
theorem Qc:A5 Tryd.prog 54=true:=by kernel_rfl
def D4 (a0:List Int):Option (List Int) :=
 og (0+a0.length<=1073741824∧(0+a0.length)*8<=140737488355328) <|
some a0
def Zk (r:List Int):RV:=⟨false,[(false,[.new 3 .int r])]⟩
theorem H1 {a0 r:List Int} (h:D4 a0=some r):A6 Tryd.prog Tab 54 [tI a0] (Zk r):=by
 refine A1 (by kernel_rfl) Tryd.func54 Ac1 (n:=6) (by kernel_rfl) (by simp) rfl ?_;unfold R5;unfold D4 at h;refine Am (Ab ?_);obtain ⟨g3,h⟩:=Ao h;refine Aa 6 (rsB 2 (rs2 (oI 3 4 a0.length) (oi 3 2) (oi 3 4) (.arr 3 .int a0) (Abj (t:=.int) (t':=.int) (xs:=[]) (ys:=a0) (zs:=a0) (j:=oi 3 2) (len:=0) (c:=tI a0) (by kernel_rfl) (by kernel_rfl) rfl (by kernel_rfl) Acz rfl g3) (rsB 1 (As (tn_ (wr_ (Ak ?_)))))));obtain rfl:=zj h;exact Bm [oI 3 4 a0.length] (A8 rfl (Ut (by kernel_rfl) rfl) A7)
def Ur:AC :=
 (.seq (rg [xo 4 (qm (cb false))])
 (.seq (rg [xm 5 1,xm 6 0,xo 7 (qb .sub (tm 6) (ci 1)),xo 8 (qc 82 [tm 5,ci 0,tm 7] [[some .int],[],[]]),xm 4 8])
 .ret))
def Afj:List Res:=[.tmp 4]
theorem Ael:Aq Tryd.prog Tryd.f62=some (Ur,Afj):=by kernel_rfl
theorem Adl:A5 Tryd.prog 62=true:=by kernel_rfl
def H8 (a0:Int) (a1:List Int):Option Bool :=
 (Hd a1 0 (wI (a0 - 1))).bind fun y3 =>
some y3
def Abl (r:Bool):RV:=⟨false,[(false,[.sc (.bool r)])]⟩
theorem Ac6 {a0:Int} {a1:List Int} {r:Bool} (h:H8 a0 a1=some r):A6 Tryd.prog Tab 62 [ai a0,tI a1] (Abl r):=by
 refine A1 (by kernel_rfl) Tryd.func62 Ael (n:=9) (by kernel_rfl) (by simp) rfl ?_;unfold Ur;unfold H8 at h;refine Am (Ab ?_);obtain ⟨y3,h3,h⟩:=Ag h;refine Aa 7 (rsB 3 (zc (.bool y3) [] [tI a1,ai 0,ai (wI (a0 - 1))] (Zj h3) (rsB 1 (As (tn_ (wr_ (Ak ?_)))))));obtain rfl:=zj h;exact Bm [.bool y3] (A8 rfl zl A7)
def Rz:AC :=
 (.seq (rg [xo 6 (qm (ci 0))])
 (.seq (rg [xm 7 1,xm 8 2,xo 9 (qb .mul (tm 7) (tm 8)),xm 10 0,xo 11 (qb .rem (tm 9) (tm 10)),xm 6 11])
 .ret))
def Acx:List Res:=[.tmp 6]
theorem Adb:Aq Tryd.prog Tryd.f84=some (Rz,Acx):=by kernel_rfl
def F5 (a0 a1 a2:Int):Option Int :=
 og (a0≠0) <|
some (Int.tmod (wI (a1*a2)) a0)
def Y4 (r:Int):RV:=⟨false,[(false,[.sc (.int .i64 r)])]⟩
theorem P9 {a0 a1:Int} {a2 r:Int} (h:F5 a0 a1 a2=some r):A6 Tryd.prog Tab 84 [ai a0,ai a1,ai a2] (Y4 r):=by
 refine A1 (by kernel_rfl) Tryd.func84 Adb (n:=12) (by kernel_rfl) (by simp) rfl ?_;unfold Rz;unfold F5 at h;refine Am (Ab ?_);obtain ⟨g3,h⟩:=Ao h;refine Aa 8 (rsB 4 (rs0 (ai (Int.tmod (wI (a1*a2)) a0)) (Qb (k:=.i64) (a:=wI (a1*a2)) (b:=a0) (by kernel_rfl) (by kernel_rfl) g3) (rsB 1 (As (tn_ (wr_ (Ak ?_)))))));obtain rfl:=zj h;exact Bm [ai (Int.tmod (wI (a1*a2)) a0)] (A8 rfl zl A7)
def Pu:AC :=
 (.seq (rg [xo 6 (qm (cb false))])
 (.seq (rg [xm 7 0,xm 8 1,xo 9 (qb .geq (tm 7) (tm 8)),xm 10 9,⟨some 11,some (10,true),qm (tm 0)⟩,⟨some 12,some (10,true),qm (tm 2)⟩,⟨some 13,some (10,true),qb .leq (tm 11) (tm 12)⟩,xo 14 (.i (.pick (tm 10) (tm 13) (cb false))),xm 6 14])
 .ret))
def Z8:List Res:=[.tmp 6]
theorem Zy:Aq Tryd.prog Tryd.f44=some (Pu,Z8):=by kernel_rfl
theorem N3:A5 Tryd.prog 44=true:=by kernel_rfl
def Fh (a0 a1 a2:Int):Option Bool :=
 (cond (decide (a1<=a0))
  (some (decide (a0<=a2)))
  (some false)).bind fun u0 =>
some u0
def Vz (r:Bool):RV:=⟨false,[(false,[.sc (.bool r)])]⟩
theorem F1 {a0 a1 a2:Int} {r:Bool} (h:Fh a0 a1 a2=some r):A6 Tryd.prog Tab 44 [ai a0,ai a1,ai a2] (Vz r):=by
 refine A1 (by kernel_rfl) Tryd.func44 Zy (n:=15) (by kernel_rfl) (by simp) rfl ?_;unfold Pu;unfold Fh at h;refine Am (Av h (fun (u0:Bool) S_=>S_=⟨Al [(6,.bool u0)],Ah (Ap []),2⟩) ?_ ?_)
 ·intro v_ h;rcases Ad h with ⟨q3,h⟩ | ⟨q3,h⟩
  ·have q3_:=of_decide_eq_true q3;refine Aa 11 (rsB 4 (rs0 (ai a0) (zg q3) (rs0 (ai a2) (zg q3) (rs0 (.bool (decide (a0<=a2))) (zg q3) (rs0 (.bool (decide (a0<=a2))) (zT q3) (rsB 1 (As (tn_ ?_))))))));obtain rfl:=zj h;exact ⟨_,Ac [],rfl⟩
  have q3_:=of_decide_eq_false q3;refine Aa 11 (rsB 4 (zs q3 (zs q3 (zs q3 (rs0 (.bool false) (zF q3) (rsB 1 (As (tn_ ?_))))))));obtain rfl:=zj h;exact ⟨_,Ac [],rfl⟩
 rintro u0 _ rfl h
 (try dsimp only at h);refine Ak ?_;obtain rfl:=zj h;exact Bm [.bool u0] (A8 rfl zl A7)
def Ls:AC :=
 (.seq (rg [xo 4 (qm (cb false))])
 (.seq (rg [xm 5 1,xo 6 (qb .geq (tm 5) (ci 0)),xm 7 6,⟨some 8,some (7,true),qm (tm 1)⟩,⟨some 9,some (7,true),qm (tm 0)⟩,⟨some 10,some (7,true),qb .lss (tm 8) (tm 9)⟩,xo 11 (.i (.pick (tm 7) (tm 10) (cb false))),xm 4 11])
 .ret))
def Su:List Res:=[.tmp 4]
theorem Ti:Aq Tryd.prog Tryd.f94=some (Ls,Su):=by kernel_rfl
def Eo (a0 a1:Int):Option Bool :=
 (cond (decide (0<=a1))
  (some (decide (a1<a0)))
  (some false)).bind fun u0 =>
some u0
def Rg (r:Bool):RV:=⟨false,[(false,[.sc (.bool r)])]⟩
theorem Rj {a0 a1:Int} {r:Bool} (h:Eo a0 a1=some r):A6 Tryd.prog Tab 94 [ai a0,ai a1] (Rg r):=by
 refine A1 (by kernel_rfl) Tryd.func94 Ti (n:=12) (by kernel_rfl) (by simp) rfl ?_;unfold Ls;unfold Eo at h;refine Am (Av h (fun (u0:Bool) S_=>S_=⟨Al [(4,.bool u0)],Ah (Ap []),2⟩) ?_ ?_)
 ·intro v_ h;rcases Ad h with ⟨q3,h⟩ | ⟨q3,h⟩
  ·have q3_:=of_decide_eq_true q3;refine Aa 10 (rsB 3 (rs0 (ai a1) (zg q3) (rs0 (ai a0) (zg q3) (rs0 (.bool (decide (a1<a0))) (zg q3) (rs0 (.bool (decide (a1<a0))) (zT q3) (rsB 1 (As (tn_ ?_))))))));obtain rfl:=zj h;exact ⟨_,Ac [],rfl⟩
  have q3_:=of_decide_eq_false q3;refine Aa 10 (rsB 3 (zs q3 (zs q3 (zs q3 (rs0 (.bool false) (zF q3) (rsB 1 (As (tn_ ?_))))))));obtain rfl:=zj h;exact ⟨_,Ac [],rfl⟩
 rintro u0 _ rfl h
 (try dsimp only at h);refine Ak ?_;obtain rfl:=zj h;exact Bm [.bool u0] (A8 rfl zl A7)
def Jt:AC :=
 (.seq (rg [xs1 16 15 14])
 (.seq (.cond (tm 16)
  .skip
  (.exit 0))
 (.seq (.block 1 (.seq (rg [xx 17 1 13 15,xl 18 17,xm 8 18])
 (.seq (rg [xm 19 0,xm 20 8,xo 21 (qc 94 [tm 19,tm 20] [[],[]]),xo 22 (.i (.not (tm 21)))])
 (.cond (tm 22)
  (.seq (rg [xo 6 (qm (cb false))])
  .ret)
  .skip))))
 (rg [xa 23 15,xm 15 23]))))
def Na:AC :=
 (.seq (rg [xo 6 (qm (cb false))])
 (.seq (.seq (rg [xm 9 1,xn1 10 9,xm 11 2,xo 12 (qb .neq (tm 10) (tm 11))])
 (.cond (tm 12)
  (.seq (rg [xo 6 (qm (cb false))])
  .ret)
  .skip))
 (.seq (.seq (rg [xm 13 1,xn1 14 13,xo 15 (qm (ci 0))])
 (.block 0 (.loop Jt)))
 (.seq (rg [xo 6 (qm (cb true))])
 .ret))))
def Vb:List Res:=[.tmp 6]
theorem U7:Aq Tryd.prog Tryd.f86=some (Na,Vb):=by kernel_rfl
def E6 (a1:List Int) (a0:Int) (u0:Nat):Option (Ctl Nat (Ctl Unit Bool)) :=
 cond (decide ((u0:Int)<(a1.length:Int)))
 ((a1[u0]?).bind fun x14 =>
 (Eo a0 x14).bind fun y16 =>
 cond (!y16)
  (some (Ctl.out (Ctl.out false)))
  (og (u0+1<4611686018427387904) <|
  some (Ctl.next (u0+1))))
 (some (Ctl.out (Ctl.next ())))
def Ff (a0:Int) (a1:List Int) (a2:Int):Option Bool :=
 cond ((a1.length:Int) !=a2)
 (some false)
 (Lk (Ay (fun s_:Nat=>E6 a1 a0 s_) 4611686018427387904 0) fun _ =>
 some true)
def Tj (r:Bool):RV:=⟨false,[(false,[.sc (.bool r)])]⟩
theorem T1 {a0:Int} {a1:List Int} {a2:Int} {r:Bool} (h:Ff a0 a1 a2=some r):A6 Tryd.prog Tab 86 [ai a0,tI a1,ai a2] (Tj r):=by
 refine A1 (by kernel_rfl) Tryd.func86 U7 (n:=24) (by kernel_rfl) (by simp) rfl ?_;unfold Na;unfold Ff at h;refine Am (Ab (Am ?_));rcases Ad h with ⟨q4,h⟩ | ⟨q4,h⟩
 ·refine Ae q4 (Am (Ak (tr_ ?_)));obtain rfl:=zj h;exact Bm [.bool false] (A8 rfl zl A7)
 refine Af q4 (Aj (tn_ (wr_ (Cp h (fun (_:Unit) S_=>S_=⟨Al [],Ah (Ap []),2⟩) ?_ ?_))))
 ·intro v_ h hk6;refine Am (Ai (Ax h (fun (u0:Nat) S_=>S_=⟨Al [(0,ai a0),(13,tI a1),(14,an a1.length),(15,an u0)],Ah (Ap []),2⟩) ⟨_,Ac [],rfl⟩ ?_));rintro n_ u0 _ c_ rfl h hn8
  (try dsimp only at h);unfold E6 at h;unfold Jt;refine Am (Ab ?_);rcases Ad h with ⟨q11,h⟩ | ⟨q11,h⟩
  ·have q11_:=of_decide_eq_true q11;refine Ae q11 (Aj (tn_ (wr_ (Ab (Ai (Ab ?_))))));obtain ⟨x14,e14,h⟩:=Ag h;refine Aa 6 (zI .int e14 (rsB 2 (As (tn_ (wr_ (Ab ?_))))));obtain ⟨y16,h16,h⟩:=Ag h;refine Aa 10 (rsB 2 (zc (.bool y16) [] [ai a0,ai x14] (Rj h16) (rsB 1 (As (tn_ (wr_ ?_))))));rcases Ad h with ⟨q17,h⟩ | ⟨q17,h⟩
   ·refine Ae q17 (Am (Ak (br_ (tr_ (tr_ (br_ (tr_ ?_)))))));obtain rfl:=zj h;have h:=hn8
    (try dsimp only at h);obtain rfl:=zj h;have h:=hk6
    (try dsimp only at h);obtain rfl:=zj h;exact Bm [.bool false] (A8 rfl zl A7)
   refine Af q17 (Aj (bn_ (tn_ (wr_ ?_))));obtain ⟨g19,h⟩:=Ao h;refine Aa 12 (zA g19 (rsB 1 (As (tn_ ?_))));obtain rfl:=zj h;exact ⟨u0+1,_,Ac [],rfl,hn8⟩
  have q11_:=of_decide_eq_false q11;refine Af q11 (Aw (te_ (te_ (be_ (tn_ ?_)))));obtain rfl:=zj h;have h:=hn8
  (try dsimp only at h);obtain rfl:=zj h;exact ⟨(),_,rfl,Ac [],rfl⟩
 rintro _ _ rfl h
 (try dsimp only at h);refine Am (Ak ?_);obtain rfl:=zj h;exact Bm [.bool true] (A8 rfl zl A7)
def R6:AC :=
 (.seq (rg [xo 2 (qm (.cst .nils))])
 (.seq (rg [xm 3 0,xo 4 (.make 3 .int 8 (tm 3) (tm 3)),xm 2 4])
 .ret))
def Ace:List Res:=[.tmp 2]
theorem Acy:Aq Tryd.prog Tryd.f69=some (R6,Ace):=by kernel_rfl
def Hj (a0:Int):Option (List Int) :=
 og (0<=a0∧a0<=a0∧a0<=1073741824∧(8:Int)*a0<=140737488355328) <|
some (List.replicate a0.toNat (0:Int))
def Y8 (r:List Int):RV:=⟨false,[(false,[.new 3 .int r])]⟩
theorem Y9 {a0:Int} {r:List Int} (h:Hj a0=some r):A6 Tryd.prog Tab 69 [ai a0] (Y8 r):=by
 refine A1 (by kernel_rfl) Tryd.func69 Acy (n:=5) (by kernel_rfl) (by simp) rfl ?_;unfold R6;unfold Hj at h;refine Am (Ab ?_);obtain ⟨g3,h⟩:=Ao h;refine Aa 5 (rsB 1 (rs1 (oI 4 3 a0.toNat) (oi 4 3) (.arr 3 .int (List.replicate a0.toNat (0:Int))) (Ya (t:=.int) (k:=.i64) (k':=.i64) (m:=a0) (m':=a0) (by kernel_rfl) (by kernel_rfl) g3 rfl) (rsB 1 (As (tn_ (wr_ (Ak ?_)))))));obtain rfl:=zj h;exact Bm [oI 4 3 a0.toNat] (A8 rfl (Ut (by kernel_rfl) List.length_replicate.symm) A7)
def Yo:AC :=
 (.seq (rg [xo 4 (qm (ci 0))])
 (.seq (rg [xm 5 1,xm 6 0,xo 7 (qb .rem (tm 5) (tm 6)),xm 1 7])
 (.seq (.seq (rg [xm 8 1,xo 9 (qb .lss (tm 8) (ci 0))])
 (.cond (tm 9)
  (rg [xm 10 1,xm 11 0,xo 12 (qb .add (tm 10) (tm 11)),xm 1 12])
  .skip))
 (.seq (rg [xm 13 1,xm 4 13])
 .ret))))
def Ahe:List Res:=[.tmp 4]
theorem Agy:Aq Tryd.prog Tryd.f72=some (Yo,Ahe):=by kernel_rfl
def Jy (a0 a1:Int):Option Int :=
 og (a0≠0) <|
(cond (decide (Int.tmod a1 a0<0))
  (some (wI (Int.tmod a1 a0+a0)))
  (some (Int.tmod a1 a0))).bind fun u0 =>
some u0
def Af5 (r:Int):RV:=⟨false,[(false,[.sc (.int .i64 r)])]⟩
theorem Ady {a0 a1 r:Int} (h:Jy a0 a1=some r):A6 Tryd.prog Tab 72 [ai a0,ai a1] (Af5 r):=by
 refine A1 (by kernel_rfl) Tryd.func72 Agy (n:=14) (by kernel_rfl) (by simp) rfl ?_;unfold Yo;unfold Jy at h;refine Am (Ab ?_);obtain ⟨g3,h⟩:=Ao h;refine Aa 6 (rsB 2 (rs0 (ai (Int.tmod a1 a0)) (Qb (k:=.i64) (a:=a1) (b:=a0) (by kernel_rfl) (by kernel_rfl) g3) (rsB 1 (As (tn_ (wr_ (Av h (fun (u0:Int) S_=>S_=⟨Al [(1,ai u0)],Ah (Ap []),2⟩) ?_ ?_)))))))
 ·intro v_ h;refine Am ?_;rcases Ad h with ⟨q6,h⟩ | ⟨q6,h⟩
  ·have q6_:=of_decide_eq_true q6;refine Ae q6 (Aa 12 (rsB 4 (As (tn_ ?_))));obtain rfl:=zj h;exact ⟨_,Ac [],rfl⟩
  have q6_:=of_decide_eq_false q6;refine Af q6 (Aj (tn_ ?_));obtain rfl:=zj h;exact ⟨_,Ac [],rfl⟩
 rintro u0 _ rfl h
 (try dsimp only at h);refine Am (Ak ?_);obtain rfl:=zj h;exact Bm [ai u0] (A8 rfl zl A7)
def R4:AC :=
 (.seq (rg [xo 2 (qm (.cst .nils))])
 (.seq (rg [xo 3 (.mkS 3 .int []),xm 4 0,xo 5 (.append 3 .int 8 (tm 3) (tm 4)),xm 2 5])
 .ret))
def Abh:List Res:=[.tmp 2]
theorem Adr:Aq Tryd.prog Tryd.f47=some (R4,Abh):=by kernel_rfl
def Hk (a0:List Int):Option (List Int) :=
 og (0+a0.length<=1073741824∧(0+a0.length)*8<=140737488355328) <|
some a0
def Zp (r:List Int):RV:=⟨false,[(false,[.new 3 .int r])]⟩
theorem Zf {a0 r:List Int} (h:Hk a0=some r):A6 Tryd.prog Tab 47 [tI a0] (Zp r):=by
 refine A1 (by kernel_rfl) Tryd.func47 Adr (n:=6) (by kernel_rfl) (by simp) rfl ?_;unfold R4;unfold Hk at h;refine Am (Ab ?_);obtain ⟨g3,h⟩:=Ao h;refine Aa 6 (rsB 2 (rs2 (oI 3 4 a0.length) (oi 3 2) (oi 3 4) (.arr 3 .int a0) (Abj (t:=.int) (t':=.int) (xs:=[]) (ys:=a0) (zs:=a0) (j:=oi 3 2) (len:=0) (c:=tI a0) (by kernel_rfl) (by kernel_rfl) rfl (by kernel_rfl) Acz rfl g3) (rsB 1 (As (tn_ (wr_ (Ak ?_)))))));obtain rfl:=zj h;exact Bm [oI 3 4 a0.length] (A8 rfl (Ut (by kernel_rfl) rfl) A7)
def Oi:AC :=
 (.seq (rg [xs1 10 9 8])
 (.seq (.cond (tm 10)
  .skip
  (.exit 0))
 (.seq (.block 1 (.seq (rg [xm 11 9,xm 4 11])
 (rg [xm 12 3,xm 13 4,xm 14 4,xx 15 1 12 13,xn (qs (tm 15) (tm 14))])))
 (rg [xa 16 9,xm 9 16]))))
def Us:AC :=
 (.seq (rg [xo 2 (qm (.cst .nils))])
 (.seq (rg [xm 5 0,xo 6 (qc 69 [tm 5] [[]]),xm 3 6])
 (.seq (.seq (rg [xm 7 3,xn1 8 7,xo 9 (qm (ci 0))])
 (.block 0 (.loop Oi)))
 (.seq (rg [xm 17 3,xm 2 17])
 .ret))))
def Afb:List Res:=[.tmp 2]
theorem Af2:Aq Tryd.prog Tryd.f46=some (Us,Afb):=by kernel_rfl
def Fr (y3:List Int) (u0:Nat) (u1:List Int):Option (Ctl (Nat×List Int) (List Int)) :=
 cond (decide ((u0:Int)<(y3.length:Int)))
 ((u1[u0]?).bind fun x12 =>
 og (u0+1<4611686018427387904) <|
 some (Ctl.next (u0+1,u1.set u0 (u0:Int))))
 (some (Ctl.out u1))
def H9 (a0:Int):Option (List Int) :=
 (Hj a0).bind fun y3 =>
(Ay (fun s_:Nat×List Int=>Fr y3 s_.1 s_.2) 4611686018427387904 (0,y3)).bind fun u0 =>
some u0
def Abn (r:List Int):RV:=⟨false,[(false,[.new 3 .int r])]⟩
theorem Abq {a0:Int} {r:List Int} (h:H9 a0=some r):A6 Tryd.prog Tab 46 [ai a0] (Abn r):=by
 refine A1 (by kernel_rfl) Tryd.func46 Af2 (n:=18) (by kernel_rfl) (by simp) rfl ?_;unfold Us;unfold H9 at h;refine Am (Ab ?_);obtain ⟨y3,h3,h⟩:=Ag h;refine Aa 5 (rsB 1 (zc (oI 96 3 y3.length) [nI 96 3 y3] [ai a0] (Y9 h3) (rsB 1 (As (tn_ (wr_ (Av h (fun (u2:List Int) S_=>S_=⟨Al [(3,oI 0 1 u2.length)],Ah (Ap [(oi 0 1,.arr 3 .int u2)]),2⟩) ?_ ?_)))))))
 ·intro v_ h;refine Am (Ai (Ax h (fun t_ S_=>∃ (u0:Nat),∃ (u1:List Int),t_=(u0,u1)∧S_=⟨Al [(3,oI 0 1 u1.length),(8,an y3.length),(9,an u0)],Ah (Ap [(oi 0 1,.arr 3 .int u1)]),2⟩) ⟨_,Ac [(oi 0 1,oi 96 3)],⟨0,y3,rfl,rfl⟩⟩ ?_));rintro n_ _ _ c_ ⟨u0,u1,rfl,rfl⟩ h hn6
  (try dsimp only at h);unfold Fr at h;unfold Oi;refine Am (Ab ?_);rcases Ad h with ⟨q9,h⟩ | ⟨q9,h⟩
  ·have q9_:=of_decide_eq_true q9;refine Ae q9 (Aj (tn_ (wr_ (Ab (Ai (Am ?_))))));obtain ⟨x12,e12,h⟩:=Ag h;refine Aa 10 (rsB 3 (zO (oi 0 1) .int u1.length (Au e12) (zS (oi 0 1) ((u0:Int)) e12 (As (bn_ (tn_ (wr_ ?_)))))));obtain ⟨g13,h⟩:=Ao h;refine Aa 12 (zA g13 (rsB 1 (As (tn_ ?_))));obtain rfl:=zj h;exact ⟨(u0+1,u1.set u0 (u0:Int)),_,(Bk 3 (oI 0 1 u1.length) (oI 0 1 ((u1.set u0 (u0:Int)).length)) (by kernel_rfl) (congrArg (fun z_=>((oI 0 1 z_):AV)) (((rfl:u1.length=u1.length).trans List.length_set.symm):u1.length=(u1.set u0 (u0:Int)).length))).trans (Ac []),⟨u0+1,u1.set u0 (u0:Int),rfl,rfl⟩,hn6⟩
  have q9_:=of_decide_eq_false q9;refine Af q9 (Aw (te_ (te_ (be_ (tn_ ?_)))));obtain rfl:=zj h;have h:=hn6
  (try dsimp only at h);obtain rfl:=zj h;exact ⟨_,Ac [],rfl⟩
 rintro u2 _ rfl h
 (try dsimp only at h);refine Am (Ak ?_);obtain rfl:=zj h;exact Bm [oI 0 1 u2.length] (A8 rfl (Ut (by kernel_rfl) rfl) A7)
def L8:AC :=
 (.seq (rg [xs1 14 13 12])
 (.seq (.cond (tm 14)
  .skip
  (.exit 0))
 (.seq (.block 1 (.seq (rg [xx 15 1 11 13,xl 16 15,xm 7 16])
 (rg [xm 17 5,xm 18 0,xm 19 7,xx 20 1 18 19,xl 21 20,xo 22 (.mkS 3 .int [tm 21]),xo 23 (.append 3 .int 8 (tm 17) (tm 22)),xm 5 23])))
 (rg [xa 24 13,xm 13 24]))))
def P3:AC :=
 (.seq (rg [xo 4 (qm (.cst .nils))])
 (.seq (rg [xm 8 1,xn1 9 8,xo 10 (.make 3 .int 8 (ci 0) (tm 9)),xm 5 10])
 (.seq (.seq (rg [xm 11 1,xn1 12 11,xo 13 (qm (ci 0))])
 (.block 0 (.loop L8)))
 (.seq (rg [xm 25 5,xm 4 25])
 .ret))))
def Za:List Res:=[.tmp 4]
theorem Aac:Aq Tryd.prog Tryd.f51=some (P3,Za):=by kernel_rfl
def Dh (a1 a0:List Int) (u0:Nat) (u1:List Int):Option (Ctl (Nat×List Int) (List Int)) :=
 cond (decide ((u0:Int)<(a1.length:Int)))
 ((a1[u0]?).bind fun x12 =>
 (Tu a0 x12).bind fun x13 =>
 og (u1.length+1<=1073741824∧(u1.length+1)*8<=140737488355328) <|
 og (u0+1<4611686018427387904) <|
 some (Ctl.next (u0+1,u1++([x13]))))
 (some (Ctl.out u1))
def Gz (a0 a1:List Int):Option (List Int) :=
 og (0<=(0:Int)∧(0:Int)<=(a1.length:Int)∧(a1.length:Int)<=1073741824∧(8:Int)*(a1.length:Int)<=140737488355328) <|
(Ay (fun s_:Nat×List Int=>Dh a1 a0 s_.1 s_.2) 4611686018427387904 (0,List.replicate 0 (0:Int))).bind fun u0 =>
some u0
def Wl (r:List Int):RV:=⟨false,[(false,[.new 3 .int r])]⟩
theorem V6 {a0 a1 r:List Int} (h:Gz a0 a1=some r):A6 Tryd.prog Tab 51 [tI a0,tI a1] (Wl r):=by
 refine A1 (by kernel_rfl) Tryd.func51 Aac (n:=26) (by kernel_rfl) (by simp) rfl ?_;unfold P3;unfold Gz at h;refine Am (Ab ?_);obtain ⟨g3,h⟩:=Ao h;refine Aa 6 (rsB 2 (rs1 (oI 10 4 0) (oi 10 4) (.arr 3 .int (List.replicate 0 (0:Int))) (Ya (t:=.int) (k:=.i64) (k':=.i64) (m:=0) (m':=(a1.length:Int)) (by kernel_rfl) (by kernel_rfl) g3 rfl) (rsB 1 (As (tn_ (wr_ (Av h (fun (u2:List Int) S_=>S_=⟨Al [(5,oI 0 1 u2.length)],Ah (Ap [(oi 0 1,.arr 3 .int u2)]),2⟩) ?_ ?_)))))))
 ·intro v_ h;refine Am (Ai (Ax h (fun t_ S_=>∃ (u1:Nat),∃ (u0:List Int),t_=(u1,u0)∧S_=⟨Al [(0,tI a0),(5,oI 0 1 u0.length),(11,tI a1),(12,an a1.length),(13,an u1)],Ah (Ap [(oi 0 1,.arr 3 .int u0)]),2⟩) ⟨_,(Bk 5 (oI 10 4 0) (oI 10 4 ((List.replicate 0 (0:Int)).length)) (by kernel_rfl) (congrArg (fun z_=>((oI 10 4 z_):AV)) (List.length_replicate.symm:0=(List.replicate 0 (0:Int)).length))).trans (Ac [(oi 0 1,oi 10 4)]),⟨0,List.replicate 0 (0:Int),rfl,rfl⟩⟩ ?_));rintro n_ _ _ c_ ⟨u1,u0,rfl,rfl⟩ h hn6
  (try dsimp only at h);unfold Dh at h;unfold L8;refine Am (Ab ?_);rcases Ad h with ⟨q9,h⟩ | ⟨q9,h⟩
  ·have q9_:=of_decide_eq_true q9;refine Ae q9 (Aj (tn_ (wr_ (Ab (Ai (Ab ?_))))));obtain ⟨x12,e12,h⟩:=Ag h;refine Aa 6 (zI .int e12 (rsB 2 (As (tn_ (wr_ ?_)))));obtain ⟨x13,f13,h⟩:=Ag h;obtain ⟨p13,b13,e13⟩:=Ga f13;obtain ⟨g14,h⟩:=Ao h;refine Aa 14 (rsB 3 (rs0 (.telt none .int x13 0) (zi (t:=.int) (xs:=a0) (k:=.i64) (m:=x12) p13 e13) (rsB 2 (zB (oi 0 1) (oi 22 11) u0 (x13) g14 (rsB 1 (As (bn_ (tn_ (wr_ ?_)))))))));obtain ⟨g15,h⟩:=Ao h;refine Aa 16 (zA g15 (rsB 1 (As (tn_ ?_))));obtain rfl:=zj h;exact ⟨(u1+1,u0++([x13])),_,Ac [(oi 0 1,oi 0 12)],⟨u1+1,u0++([x13]),rfl,rfl⟩,hn6⟩
  have q9_:=of_decide_eq_false q9;refine Af q9 (Aw (te_ (te_ (be_ (tn_ ?_)))));obtain rfl:=zj h;have h:=hn6
  (try dsimp only at h);obtain rfl:=zj h;exact ⟨_,Ac [],rfl⟩
 rintro u2 _ rfl h
 (try dsimp only at h);refine Am (Ak ?_);obtain rfl:=zj h;exact Bm [oI 0 1 u2.length] (A8 rfl (Ut (by kernel_rfl) rfl) A7)
end

section
open Go.RowKit Go.Deep
theorem Acf {G:World->Prop} {S:St} (s:Nat) (b:Oid) (k:Nat) (ty:TypeId) (z m:Nat) (cs:List AV) (e:TypeId) (t:Ty) (ht:t.flat=true) (hb:S.ob b=some (.vec ty z m cs)) (hk:cs[k]? =some .nils) :
  WeakG G S ⟨S.tm,upd (upd S.ob ((s,0),S.gen) (some (.arr e t []))) b (some (.vec ty z m (cs.set k (.own ((s,0),S.gen) t 0 0)))),S.gen+1⟩:=by
 intro w0 B N a w hr;obtain ⟨σ,hm,hf,hB⟩:=hr.ex;obtain ⟨hL,hM⟩:=Ah6 (e:=e) (i:=((s,0),S.gen)) hm rfl ht
 have hbn:b≠((s,0),S.gen):=fun h=>by
  have:=hr.obg b (by rw [hb]; simp);rw [h] at this;exact absurd this (Nat.lt_irrefl _)
 have him:∀ c,imm (upd S.ob ((s,0),S.gen) (some (.arr e t []))) (upd σ ((s,0),S.gen) (some .nil)) c->imm (upd (upd S.ob ((s,0),S.gen) (some (.arr e t []))) b (some (.vec ty z m (cs.set k (.own ((s,0),S.gen) t 0 0))))) (upd σ ((s,0),S.gen) (some .nil)) c:=by
  intro c hc i o c' s' ho;by_cases h:i=b
  ·subst h;exact hc i (.vec ty z m cs) c' s' (by rw [At _ _ _ _ hbn]; exact hb)
  ·rw [At _ _ _ _ h] at ho;exact hc i o c' s' ho
 have hL2:Later (upd σ ((s,0),S.gen) (some .nil)) (upd σ ((s,0),S.gen) (some .nil)) (imm (upd S.ob ((s,0),S.gen) (some (.arr e t []))) (upd σ ((s,0),S.gen) (some .nil))) (imm (upd (upd S.ob ((s,0),S.gen) (some (.arr e t []))) b (some (.vec ty z m (cs.set k (.own ((s,0),S.gen) t 0 0))))) (upd σ ((s,0),S.gen) (some .nil))) w w :=
  ⟨fun _ _ h=>h,fun c _ hc=>him c hc,fun _ _ _=>rfl,Nat.le_refl _⟩
 refine ⟨⟨upd σ ((s,0),S.gen) (some .nil),⟨hM.below,hM.inv,hM.gen,hM.lt,hM.cap,fun i j b' c' s' c2 s2 o o' hi hj h1 h2=>?_,fun i o l hi hl=>?_⟩,fun u=>AV.Rep.later hL2 _ _ (AV.Rep.later hL _ _ (hf u)),(hB.trans hL).trans hL2⟩,hr.size,hr.defers,fun i hi=>?_⟩
 ·have key:∀ i o,upd (upd S.ob ((s,0),S.gen) (some (.arr e t []))) b (some (.vec ty z m (cs.set k (.own ((s,0),S.gen) t 0 0)))) i=some o->∃ o',upd S.ob ((s,0),S.gen) (some (.arr e t [])) i=some o':=by
   intro i o ho;by_cases h:i=b
   ·subst h; exact ⟨_,by rw [At _ _ _ _ hbn]; exact hb⟩
   ·rw [At _ _ _ _ h] at ho; exact ⟨o,ho⟩
  obtain ⟨o1,k1⟩:=key i o hi;obtain ⟨o2,k2⟩:=key j o' hj;exact hM.inj i j b' c' s' c2 s2 o1 o2 k1 k2 h1 h2
 ·by_cases h:i=b
  ·subst h;have hi':some (Ob.vec ty z m (cs.set k (.own ((s,0),S.gen) t 0 0)))=some o:=by rw [← hi]; exact (A3 _ _ _).symm
   obtain rfl:=osj hi';have:=hM.obs i (.vec ty z m cs) l (by rw [At _ _ _ _ hbn]; exact hb) hl;obtain ⟨vs,g1,g2,g3⟩:=this;refine ⟨vs,g1,?_,g3⟩;refine AV.RepL.later hL2 _ _ ?_;obtain ⟨v,hv,hrv⟩:=g2.get hk;have hset:=g2.set (k:=k) (c:=.own ((s,0),S.gen) t 0 0) (v:=v) (.inl ⟨A3 _ _ _,rfl,rfl,hrv⟩)
   have hvs:vs.set k v=vs:=by
    apply List.ext_getElem?;intro j;rw [List.getElem?_set];split
    ·rename_i e'; subst e';split
     ·exact hv.symm
     ·rw [List.getElem?_eq_none (by omega)]
    ·rfl
   rw [hvs] at hset;exact hset
  ·have hi':upd S.ob ((s,0),S.gen) (some (.arr e t [])) i=some o:=by rw [← hi]; exact (At _ _ _ _ h).symm
   exact (hM.obs i o l hi' hl).later hL2 fun _ _ _ _=>rfl
 ·show i.2<S.gen+1;by_cases h:i=b
  ·subst h;have:=hr.obg i (by rw [hb]; simp);omega
  ·have hi':upd S.ob ((s,0),S.gen) (some (.arr e t [])) i≠none:=by
    intro hq; apply hi; rw [← hq]; exact At _ _ _ _ h
   by_cases h':i=((s,0),S.gen)
   ·subst h'; show S.gen<S.gen+1; omega
   ·rw [At _ _ _ _ h'] at hi';have:=hr.obg i hi';omega
theorem Z6 {G:World->Prop} {tl:List (Nat×AV)} {ol:List (Oid×Option Ob)} {g:Nat} (s:Nat) (c:Oid) (k:Nat) (ty:TypeId) (z m:Nat) (cs ds:List AV) (e:TypeId) (t:Ty) (ht:t.flat=true) (hb:Ah ol c=some (.vec ty z m cs)) (hk:cs[k]? =some .nils) (hd:cs.set k (.own ((s,0),g) t 0 0)=ds) :
  WeakG G ⟨Al tl,Ah ol,g⟩ ⟨Al tl,Ah ((c,some (.vec ty z m ds)) :: (((s,0),g),some (.arr e t [])) :: ol),g+1⟩:=by
 subst hd;have:=Acf (G:=G) (S:=⟨Al tl,Ah ol,g⟩) s c k ty z m cs e t ht hb hk;have e2:upd (upd (Ah ol) ((s,0),g) (some (.arr e t []))) c (some (.vec ty z m (cs.set k (.own ((s,0),g) t 0 0))))=Ah ((c,some (.vec ty z m (cs.set k (.own ((s,0),g) t 0 0)))) :: (((s,0),g),some (.arr e t [])) :: ol):=by rw [Fd rfl,Fd rfl]
 rw [← e2];exact this
theorem Aqd {f:Nat->AV} {ob:Oid->Option Ob} {d:Option Nat} {gd:Option (Nat×Bool)} {fo y:Opd} {ys:List Opd} {tys:List (List (Option Ty))} {i p:Oid} {t u:Ty} {off len z m k:Nat} {e1:TypeId} {xss:List (List u.D)} (n:Nat) (hy:ys[n]? =some y) (he:y.ev f=.own i t off len) (hob:ob i=some (.vec e1 z m (hdL p u xss))) (hk:k<xss.length):kid p k∈rdX f ob ⟨d,gd,.call fo ys tys⟩:=by
 refine List.mem_flatMap.2 ⟨y,List.mem_cons_of_mem _ (List.mem_of_getElem? hy),?_⟩;rw [he];show kid p k∈Df ob (7+1) (.own i t off len);unfold Df;dsimp only;rw [hob];refine List.mem_cons_of_mem _ (List.mem_flatMap.2 ⟨.own (kid p k) u 0 xss[k].length,List.mem_of_getElem? (i:=k) (by rw [Ea,gEg hk]; rfl),?_⟩);exact List.mem_singleton.2 rfl
theorem Ago {f:Nat->AV} {ob:Oid->Option Ob} {d:Option Nat} {gd:Option (Nat×Bool)} {fo y:Opd} {ys:List Opd} {tys:List (List (Option Ty))} {i p:Oid} {t u:Ty} {off len z m:Nat} {e e1:TypeId} {xss:List (List u.D)} (n:Nat) (hy:ys[n]? =some y) (he:y.ev f=.own i t off len) (hob:ob i=some (.vec e1 z m (hdL p u xss))) (hr:∀ (k:Nat) (row:List u.D),xss[k]? =some row->ob (kid p k)=some (.arr e u row)) (k:Nat) (row:List u.D) (h:xss[k]? =some row):only (rdX f ob ⟨d,gd,.call fo ys tys⟩) ob (kid p k)=some (.arr e u row):=(M6 (Aqd n hy he hob (gSi.1 h).1)).trans (hr k row h)
end
section
open Go.RowKit Go.Deep
theorem W6:∀ (n:Nat) (l:List Int),l.length=n+1->(tyA n).av (E7 n l)=l.map (AV.int .i64)
 | 0,[x],_=>rfl
 | 0,[],h=>by cases h
 | 0,_ :: _ :: _,h=>by simp at h
 | n+1,[],h=>by cases h
 | n+1,x :: l,h=>by
  have:=W6 n l (by simpa using h);simp only [tyA,E7,Ty.av,List.tail_cons,this]; rfl
theorem Aoi {f:Nat->AV} {ob:Oid->Option Ob} {d:Option Nat} {gd:Option (Nat×Bool)} {fo y:Opd} {ys:List Opd} {tys:List (List (Option Ty))} {az:List AV} {i p:Oid} {t u:Ty} {off len z m k:Nat} {e1:TypeId} {xss:List (List u.D)} (n j:Nat) (hy:ys[n]? =some y) (he:y.ev f=.agg az) (hj:az[j]? =some (.own i t off len)) (hob:ob i=some (.vec e1 z m (hdL p u xss))) (hk:k<xss.length):kid p k∈rdX f ob ⟨d,gd,.call fo ys tys⟩:=by
 refine List.mem_flatMap.2 ⟨y,List.mem_cons_of_mem _ (List.mem_of_getElem? hy),?_⟩;rw [he];show kid p k∈Df ob (7+1) (.agg az);unfold Df;dsimp only;refine List.mem_flatMap.2 ⟨_,List.mem_of_getElem? hj,?_⟩;show kid p k∈Df ob (6+1) (.own i t off len);unfold Df;dsimp only;rw [hob];refine List.mem_cons_of_mem _ (List.mem_flatMap.2 ⟨.own (kid p k) u 0 xss[k].length,List.mem_of_getElem? (i:=k) (by rw [Ea,gEg hk]; rfl),?_⟩);exact List.mem_singleton.2 rfl
theorem W9 {f:Nat->AV} {ob:Oid->Option Ob} {d:Option Nat} {gd:Option (Nat×Bool)} {fo y:Opd} {ys:List Opd} {tys:List (List (Option Ty))} (az:List AV) {i p:Oid} {t u:Ty} {off len z m:Nat} {e e1:TypeId} {xss:List (List u.D)} (n j:Nat) (hy:ys[n]? =some y) (he:y.ev f=.agg az) (hj:az[j]? =some (.own i t off len)) (hob:ob i=some (.vec e1 z m (hdL p u xss))) (hr:∀ (k:Nat) (row:List u.D),xss[k]? =some row->ob (kid p k)=some (.arr e u row)) (k:Nat) (row:List u.D) (h:xss[k]? =some row):only (rdX f ob ⟨d,gd,.call fo ys tys⟩) ob (kid p k)=some (.arr e u row):=(M6 (Aoi n j hy he hj hob (gSi.1 h).1)).trans (hr k row h)
theorem Ah9 {f:Nat->AV} {ob:Oid->Option Ob} {d:Option Nat} {gd:Option (Nat×Bool)} {fo y:Opd} {ys:List Opd} {tys:List (List (Option Ty))} (az:List AV) {i:Oid} {t:Ty} {off len:Nat} (n j:Nat) (hy:ys[n]? =some y) (he:y.ev f=.agg az) (hj:az[j]? =some (.own i t off len)):i∈rdX f ob ⟨d,gd,.call fo ys tys⟩:=by
 refine List.mem_flatMap.2 ⟨y,List.mem_cons_of_mem _ (List.mem_of_getElem? hy),?_⟩;rw [he];show i∈Df ob (7+1) (.agg az);unfold Df;dsimp only;refine List.mem_flatMap.2 ⟨_,List.mem_of_getElem? hj,?_⟩;show i∈Df ob (6+1) (.own i t off len);unfold Df;dsimp only;split <;> simp
theorem Ao7 {vs:List Value} {ob:Oid->Option Ob}:∀ (n:Nat) (l:List Int),LeavesR vs ob ((tyA n).av (E7 n l)) (((tyA n).av (E7 n l)).map .sc)
 | 0,_=>Ak2 (Apr rfl) Aq2
 | n+1,l=>Ak2 (Apr rfl) (Ao7 n l.tail)
section
variable {n:Nat} {d:Option Nat} {f:Nat->AV} {ob:Oid->Option Ob}
theorem Aqs {N:Nat} {x:Opd} {i:Oid} {j:Nat} {e:TypeId} {xs:List (tyA N).D} (hx:x.ev f=.elt i j 0) (hob:ob i=some (.arr e (tyA N) xs)) (hs:(tyA N).size=N+1):Ba n ⟨d,none,.slA (N+1) x⟩ f ob=some (1,.sla i j (N+1),[]):=by
 simp [Ba,ev,Aih,hx,hob,hs]
theorem Aov {N:Nat} {x y:Opd} {i:Oid} {e:TypeId} {l ys zs:List Int} (hx:x.ev f=.sla i 0 (N+1)) (hy:Eg ob .int (y.ev f)=some ys) (hob:ob i=some (.arr e (tyA N) [E7 N l])) (hs:(tyA N).size=N+1) (hl:l.length=N+1) (hz:ys.take (N+1)++l.drop (ys.take (N+1)).length=zs) :
  Ba n ⟨d,none,.copy x y⟩ f ob=some (2,.int .i64 ((ys.take (N+1)).length:Nat),[(i,none),(i,some (.arr e (tyA N) [E7 N zs]))]):=by
 subst hz
 have hzl:(ys.take (N+1)++l.drop (ys.take (N+1)).length).length=N+1:=by
  simp only [List.length_append,List.length_take,List.length_drop]; omega
 have h1:=W6 N l hl;have h2:=W6 N _ hzl;have h3:=Tr N (ys.take (N+1)++l.drop (ys.take (N+1)).length);have h4:(ys.take (N+1)).length<=N+1:=by rw [List.length_take]; omega
 have hc:G1 false (ys.take (N+1)).length 0 ((tyA N).av (E7 N l)) (.agg ((ys.take (N+1)).map (AV.int .i64)))=some ((tyA N).av (E7 N (ys.take (N+1)++l.drop (ys.take (N+1)).length))):=by
  rw [h1,h2];generalize ys.take (N+1)=z at h4 ⊢;have h5:(z.map (AV.int .i64)).all AV.one=true:=by rw [List.all_eq_true]; intro a ha; obtain ⟨b,_,rfl⟩:=List.mem_map.1 ha; rfl
  simp only [G1,Bool.false_eq_true,if_false,List.length_map,Nat.zero_add,List.take_zero,List.nil_append,List.map_append,List.map_drop];rw [if_pos (by first | exact ⟨rfl,by omega,h5⟩ | exact ⟨trivial,by omega,h5⟩)]
 have e1:Kg f ob x y=some (.int .i64 ((ys.take (N+1)).length:Nat),[(i,none),(i,some (.arr e (tyA N) [E7 N (ys.take (N+1)++l.drop (ys.take (N+1)).length)]))]):=by
  unfold Kg;rw [hx];dsimp only;rw [hy];dsimp only;rw [hob];dsimp only [List.getElem?_cons_zero];rw [hc];dsimp only;rw [h3];dsimp only;rw [if_pos hs];rfl
 simp only [Ba,ev,e1]
end
end
end Go.Proofs.YtkgjoabogcfgfaaDoor
