/- Lemmas on the program and on partial functions that stand in place of its code (part 4); no condition beyond those that each one states. -/
import Derived.Test.YtpnofkjgeokdhaaDoorZ3
import Derived.KernelRfl
import Derived.IntWalk
namespace Go.Proofs.YtpnofkjgeokdhaaDoor
open Go.RowKit Go.Deep
section
variable {P:Program} {G:World->Prop}
theorem Ab {x y:AC} {R:AE->St->Prop} {S:St} (h:awp P G x (P5 (fun S'=>∃ S'',WeakG G S' S''∧awp P G y R S'') R) S):awp P G (.seq x y) R S:=h
theorem Alf {x y:AC} {R:AE->St->Prop} {S:St} (K:St->Prop) (h:awp P G x (P5 (fun S'=>∃ S'',WeakG G S' S''∧K S'') R) S) (k:∀ S'',K S''->awp P G y R S''):awp P G (.seq x y) R S:=by
 unfold awp
 exact F1 (fun e S hq=>by
  cases e with
  | normal=>obtain ⟨S'',hw,hk⟩:=hq; exact ⟨S'',hw,k S'' hk⟩
  | exit id=>exact hq
  | ret=>exact hq) h
def Ayc (rs:List Rec) (ds:List (List Oid)):List (Nat×Nat)->Bool
 | []=>true
 | p :: ps=>(let ri:=rs.getD p.2 (0,.any,[]); let rj:=rs.getD p.1 (0,.any,[]); let di:=ds.getD p.2 []; let dj:=ds.getD p.1 []
   ((!(ri.1==2)||rj.1==0)&&(!(rj.1==2)||ri.1==0))||((!(ri.1==2)||ri.2.2.all fun u=> !dj.contains u.1)&&((!(rj.1==2)||rj.2.2.all fun u=> !di.contains u.1)&&ri.2.2.all fun u=>rj.2.2.all fun v=> !(u.1==v.1))))&&Ayc rs ds ps
theorem Bc {rs:List Rec} {ds:List (List Oid)}:∀ {bad:List (Nat×Nat)},Ayc rs ds bad=true->Ars rs ds bad
 | [],_=>trivial
 | p :: ps,h=>by
  simp only [Ayc,Bool.and_eq_true] at h;refine ⟨?_,Bc h.2⟩;have h1:=h.1;simp only [Bool.or_eq_true,Bool.and_eq_true,Bool.not_eq_true',beq_eq_false_iff_ne,beq_iff_eq,List.all_eq_true,List.contains_eq_mem,decide_eq_false_iff_not] at h1;unfold R1;rcases h1 with ⟨a,b⟩ | ⟨a,b,c⟩
  ·refine .inl ⟨fun e=>?_,fun e=>?_⟩
   ·rcases a with a | a
    ·exact absurd e a
    ·exact a
   ·rcases b with b | b
    ·exact absurd e b
    ·exact b
  ·refine .inr ⟨fun e=>?_,fun e=>?_,c⟩
   ·rcases a with a | a
    ·exact absurd e a
    ·exact a
   ·rcases b with b | b
    ·exact absurd e b
    ·exact b
def XW (P:Program) (G:World->Prop) (g k:Nat) (xs:List X) (tl:List (Nat×AV)) (ol:List (Oid×Option Ob)) (Kf:List (Nat×AV)->List (Oid×Option Ob)->Prop):Prop :=
 ∃ rs tl' ol',Ays P G g k xs (Ao tl) (Aj ol) rs (Ao tl') (Aj ol')∧Kf tl' ol'
def XD (P:Program) (G:World->Prop) (bad:List (Nat×Nat)) (g k:Nat) (xs:List X) (tl:List (Nat×AV)) (ol:List (Oid×Option Ob)) (ra:List Rec) (da:List (List Oid)) (Kf:List (Nat×AV)->List (Oid×Option Ob)->Prop):Prop :=
 ∃ rs ds tl' ol',Au1 P G g k xs (Ao tl) (Aj ol) rs ds (Ao tl') (Aj ol')∧Ars (ra.reverse++rs) (da.reverse++ds) bad∧Kf tl' ol'
theorem Aa {xs:List X} {bad:List (Nat×Nat)} {R:AE->St->Prop} {tl:List (Nat×AV)} {ol:List (Oid×Option Ob)} {g:Nat} (g':Nat) (h:XW P G g 0 xs tl ol fun tl' ol'=>R .normal ⟨Ao tl',Aj ol',g'⟩) (hn:g+xs.length=g':=by kernel_rfl):awp P G (.region xs false bad) R ⟨Ao tl,Aj ol,g⟩:=by
 obtain ⟨rs,tl',ol',h,hr⟩:=h;exact ⟨rs,_,_,h,by subst hn; exact hr⟩
theorem Ax {xs:List X} {bad:List (Nat×Nat)} {R:AE->St->Prop} {tl:List (Nat×AV)} {ol:List (Oid×Option Ob)} {g:Nat} (g':Nat) (h:XD P G bad g 0 xs tl ol [] [] fun tl' ol'=>R .normal ⟨Ao tl',Aj ol',g'⟩) (hn:g+xs.length=g':=by kernel_rfl):awp P G (.region xs true bad) R ⟨Ao tl,Aj ol,g⟩:=by
 obtain ⟨rs,ds,tl',ol',h,hb,hr⟩:=h;exact ⟨rs,ds,_,_,h,hb,by subst hn; exact hr⟩
theorem Wu (tl:List (Nat×AV)) (d:Nat) (v:AV):upd (Ao tl) d v=Ao ((d,v) :: tl):=by
 funext i;rfl
def Ql:Option Ob->Bool
 | some (.pool ..)=>false
 | some (.mat ..)=>false
 | some (.tv ..)=>false
 | _=>true
def Gy (us:List (Oid×Option Ob)):Bool:=us.all fun u=>Ql u.2
theorem Nk {ol:List (Oid×Option Ob)} {j:Oid} {o:Option Ob} (h:Ql o=true):upd (Aj ol) j o=Aj ((j,o) :: ol):=by
 cases o with
 | none=>funext i; rfl
 | some o=>cases o <;> first | (funext i; rfl) | cases h
theorem Lh:∀ (us ol:List (Oid×Option Ob)),Gy us=true->A3 us (Aj ol)=Aj (us.reverseAux ol)
 | [],_,_=>rfl
 | (j,o) :: us,ol,h=>by
  simp only [Gy,List.all_cons,Bool.and_eq_true] at h;show A3 us (upd (Aj ol) j o)=_;rw [Nk h.1];exact Lh us _ h.2
theorem K1 {p:Bool} {n:Nat} {x:X} {f:Nat->AV} {ob:Oid->Option Ob} {r:Rec} (h:Br n x f ob=some r):G2 P G p n x f ob r:=by
 unfold Br at h;unfold G2;split at h
 ·exact .inl (.inl (.inl h))
 ·split at h
  ·rename_i hc;exact ⟨true,hc,by rw [if_pos rfl]; exact .inl (.inl (.inl h))⟩
  ·rename_i hc;exact ⟨false,hc,by rw [if_neg (by simp)]; exact (osj h).symm⟩
  ·cases h
def Y7 (gd:Option (Nat×Bool)) (f:Nat->AV):Prop :=
 match gd with
 | none=>True
 | some (s,c)=>f s=.bool c
theorem Ahn {s:Nat} {b:Bool} {f:Nat->AV} (h:Y7 (some (s,b)) f):gdv (f s) b=some true:=by
 rw [show f s=.bool b from h]; simp [gdv]
theorem F8 {s:Nat} {b c:Bool} {f:Nat->AV} (h:f s=.bool c) (hc:c=b):Y7 (some (s,b)) f:=by subst hc; exact h
theorem Atb {p:Bool} {n:Nat} {d:Option Nat} {gd:Option (Nat×Bool)} {fo:Opd} {xs:List Opd} {tys:List (List (Option Ty))} {f:Nat->AV} {ob:Oid->Option Ob} {F:FuncId} {caps args0 args:List AV} {rv:RV} {r:AV×List (Oid×Option Ob)}
  (hgd:Y7 gd f) (hfo:fo.ev f=.fn F caps) (h1:T6 (gnd ob 8) ((xs++caps.map Opd.cst).map (Opd.ev f))=some args0) (hn:U2 tys args0=args) (hb:Be P F=true) (hc:A0 P G F args rv) (hni:rv.noI=true) (hr:rv.out (E1 ((d.getD 0,0),n)) ((xs++caps.map Opd.cst).map (Opd.ev f))=r) :
  G2 P G p n ⟨d,gd,.call fo xs tys⟩ f ob (1,r.1,r.2):=by
 subst hn;have key:EvR P G p f ob ((d.getD 0,0),n) (.call fo xs tys) (1,r.1,r.2):=.inr ⟨fo,xs,tys,F,caps,rfl,hfo,.inl ⟨rfl,hb,args0,rv,.inl ⟨h1,hni⟩,hc,hr⟩⟩;unfold G2;cases gd with
 | none=>exact key
 | some sb=>exact ⟨true,Ahn hgd,by rw [if_pos rfl]; exact key⟩
theorem Atj {n:Nat} {d:Option Nat} {gd:Option (Nat×Bool)} {fo:Opd} {xs:List Opd} {tys:List (List (Option Ty))} {f:Nat->AV} {ob:Oid->Option Ob} {F:FuncId} {caps zs args:List AV} {v:AV} {ol us:List (Oid×Ob)} (θ:Oid->Oid)
  (hgd:Y7 gd f) (hfo:fo.ev f=.fn F caps) (hz:(xs++caps.map Opd.cst).map (Opd.ev f)=zs) (h1:X9 θ (Ade ((nmL ol).map θ) ob) zs args) (h2:∀ q∈exL ol,ob (θ q.1)=some (q.2.ren θ)) (h3:∀ q∈exL ol,∀ q'∈exL ol,θ q.1=θ q'.1->q.1=q'.1) (h4:∀ j∈nmL ol,Reached zs ob (θ j))
  (h5:∀ q∈exL us,q.1.2=1∨(q.1.2=0∧q.1∈nmL ol)) (hb:Be P F=true) (hc:Kd P G F args ol v us) :
  G2 P G false n ⟨d,gd,.call fo xs tys⟩ f ob (2,v.ren (D5 θ ((d.getD 0,0),n)),Ox θ ((d.getD 0,0),n) ol us):=by
 have hN:Axq P G f ob ((d.getD 0,0),n) F (xs++caps.map Opd.cst) (v.ren (D5 θ ((d.getD 0,0),n)),Ox θ ((d.getD 0,0),n) ol us):=by
  rw [← hz] at h1 h4;refine ⟨hb,θ,args,ol,us,v,h1,h2,fun j k hj hk e=>?_,h4,hc,fun j hj=>?_,rfl⟩
  ·obtain ⟨q,hq,rfl⟩:=List.mem_map.1 hj;obtain ⟨q',hq',rfl⟩:=List.mem_map.1 hk;exact h3 q hq q' hq' e
  ·obtain ⟨q,hq,rfl⟩:=List.mem_map.1 hj;rcases h5 q hq with h | ⟨_,h⟩
   ·exact .inl (by rw [h]; decide)
   ·exact .inr h
 have key:EvR P G false f ob ((d.getD 0,0),n) (.call fo xs tys) (2,v.ren (D5 θ ((d.getD 0,0),n)),Ox θ ((d.getD 0,0),n) ol us):=.inr ⟨fo,xs,tys,F,caps,rfl,hfo,.inr ⟨rfl,rfl,hN⟩⟩;unfold G2;cases gd with
 | none=>exact key
 | some sb=>exact ⟨true,Ahn hgd,by rw [if_pos rfl]; exact key⟩
theorem Az8 {n:Nat} {d:Option Nat} {gd:Option (Nat×Bool)} {q:Q} {f:Nat->AV} {ob:Oid->Option Ob} {r:Rec} (hgd:Y7 gd f) (h:evL f ((d.getD 0,0),n) q=some r):G2 P G false n ⟨d,gd,q⟩ f ob r:=by
 have key:EvR P G false f ob ((d.getD 0,0),n) q r:=.inl (.inl (.inr h));unfold G2;cases gd with
 | none=>exact key
 | some sb=>exact ⟨true,Ahn hgd,by rw [if_pos rfl]; exact key⟩
theorem Aya {n:Nat} {d:Option Nat} {gd:Option (Nat×Bool)} {q:Q} {f:Nat->AV} {ob:Oid->Option Ob} {r:Rec} (hgd:Y7 gd f) (h:Aok f ((d.getD 0,0),n) q r):G2 P G false n ⟨d,gd,q⟩ f ob r:=by
 have key:EvR P G false f ob ((d.getD 0,0),n) q r:=.inl (.inr h);unfold G2;cases gd with
 | none=>exact key
 | some sb=>exact ⟨true,Ahn hgd,by rw [if_pos rfl]; exact key⟩
theorem Aq {g k:Nat} {tl:List (Nat×AV)} {ol:List (Oid×Option Ob)} {Kf:List (Nat×AV)->List (Oid×Option Ob)->Prop} (h:Kf tl ol):XW P G g k [] tl ol Kf:=⟨[],tl,ol,⟨rfl,rfl,rfl⟩,h⟩
theorem F5 {bad:List (Nat×Nat)} {g k:Nat} {tl:List (Nat×AV)} {ol:List (Oid×Option Ob)} {ra:List Rec} {da:List (List Oid)} {Kf:List (Nat×AV)->List (Oid×Option Ob)->Prop} (hb:Ars (ra.reverse++[]) (da.reverse++[]) bad) (h:Kf tl ol):XD P G bad g k [] tl ol ra da Kf:=⟨[],[],tl,ol,⟨rfl,rfl,rfl,rfl⟩,hb,h⟩
section
variable {g k d:Nat} {gd:Option (Nat×Bool)} {q:Q} {xs:List X} {tl:List (Nat×AV)} {ol:List (Oid×Option Ob)} {bad:List (Nat×Nat)} {ra:List Rec} {da:List (List Oid)} {Kf:List (Nat×AV)->List (Oid×Option Ob)->Prop}
theorem Ari (c:Nat) (v:AV) (us ol':List (Oid×Option Ob)) (h:G2 P G false (g+k) ⟨some d,gd,q⟩ (Ao tl) (Aj ol) (c,v,us)) (he:A3 us (Aj ol)=Aj ol') (h3:XW P G g (k+1) xs ((d,v) :: tl) ol' Kf):XW P G g k (⟨some d,gd,q⟩ :: xs) tl ol Kf :=
 by
 obtain ⟨rs,tl',ol',h3,hk⟩:=h3;exact ⟨_,tl',ol',⟨_,_,rfl,h,by simp only [Qj,Wu,he]; exact h3⟩,hk⟩
theorem Ax9 (c:Nat) (v:AV) (us ol':List (Oid×Option Ob)) (h:G2 P G false (g+k) ⟨none,gd,q⟩ (Ao tl) (Aj ol) (c,v,us)) (he:A3 us (Aj ol)=Aj ol') (h3:XW P G g (k+1) xs tl ol' Kf):XW P G g k (⟨none,gd,q⟩ :: xs) tl ol Kf :=
 by
 obtain ⟨rs,tl',ol',h3,hk⟩:=h3;exact ⟨_,tl',ol',⟨_,_,rfl,h,by simp only [Qj,he]; exact h3⟩,hk⟩
theorem Aw4 (c:Nat) (v:AV) (us ol':List (Oid×Option Ob)) (h:G2 P G false (g+k) ⟨some d,gd,q⟩ (Ao tl) (only (rdX (Ao tl) (Aj ol) ⟨some d,gd,q⟩) (Aj ol)) (c,v,us)) (he:A3 us (Aj ol)=Aj ol') (h3:XD P G bad g (k+1) xs ((d,v) :: tl) ol' ((c,v,us) :: ra) ((rdX (Ao tl) (Aj ol) ⟨some d,gd,q⟩) :: da) Kf):XD P G bad g k (⟨some d,gd,q⟩ :: xs) tl ol ra da Kf :=
 by
 obtain ⟨rs,ds,tl',ol',h3,hb,hk⟩:=h3;refine ⟨_,_,tl',ol',⟨_,rs,ds,rfl,rfl,h,by simp only [Qj,Wu,he]; exact h3⟩,?_,hk⟩
 simpa using hb
theorem Ayf (c:Nat) (v:AV) (us ol':List (Oid×Option Ob)) (h:G2 P G false (g+k) ⟨none,gd,q⟩ (Ao tl) (only (rdX (Ao tl) (Aj ol) ⟨none,gd,q⟩) (Aj ol)) (c,v,us)) (he:A3 us (Aj ol)=Aj ol') (h3:XD P G bad g (k+1) xs tl ol' ((c,v,us) :: ra) ((rdX (Ao tl) (Aj ol) ⟨none,gd,q⟩) :: da) Kf):XD P G bad g k (⟨none,gd,q⟩ :: xs) tl ol ra da Kf :=
 by
 obtain ⟨rs,ds,tl',ol',h3,hb,hk⟩:=h3;refine ⟨_,_,tl',ol',⟨_,rs,ds,rfl,rfl,h,by simp only [Qj,he]; exact h3⟩,?_,hk⟩
 simpa using hb
theorem Alc (c:Nat) (v:AV) (us:List (Oid×Option Ob)) (h:G2 P G false (g+k) ⟨some d,gd,q⟩ (Ao tl) (Aj ol) (c,v,us)) (h3:XW P G g (k+1) xs ((d,v) :: tl) (us.reverseAux ol) Kf) (hx:Gy us=true):XW P G g k (⟨some d,gd,q⟩ :: xs) tl ol Kf:=Ari c v us _ h (Lh us ol hx) h3
theorem A01 (c:Nat) (v:AV) (us:List (Oid×Option Ob)) (h:G2 P G false (g+k) ⟨none,gd,q⟩ (Ao tl) (Aj ol) (c,v,us)) (h3:XW P G g (k+1) xs tl (us.reverseAux ol) Kf) (hx:Gy us=true):XW P G g k (⟨none,gd,q⟩ :: xs) tl ol Kf:=Ax9 c v us _ h (Lh us ol hx) h3
theorem Adc (c:Nat) (v:AV) (us:List (Oid×Option Ob)) (h:G2 P G false (g+k) ⟨some d,gd,q⟩ (Ao tl) (only (rdX (Ao tl) (Aj ol) ⟨some d,gd,q⟩) (Aj ol)) (c,v,us)) (h3:XD P G bad g (k+1) xs ((d,v) :: tl) (us.reverseAux ol) ((c,v,us) :: ra) ((rdX (Ao tl) (Aj ol) ⟨some d,gd,q⟩) :: da) Kf) (hx:Gy us=true):XD P G bad g k (⟨some d,gd,q⟩ :: xs) tl ol ra da Kf:=Aw4 c v us _ h (Lh us ol hx) h3
theorem A1c (c:Nat) (v:AV) (us:List (Oid×Option Ob)) (h:G2 P G false (g+k) ⟨none,gd,q⟩ (Ao tl) (only (rdX (Ao tl) (Aj ol) ⟨none,gd,q⟩) (Aj ol)) (c,v,us)) (h3:XD P G bad g (k+1) xs tl (us.reverseAux ol) ((c,v,us) :: ra) ((rdX (Ao tl) (Aj ol) ⟨none,gd,q⟩) :: da) Kf) (hx:Gy us=true):XD P G bad g k (⟨none,gd,q⟩ :: xs) tl ol ra da Kf:=Ayf c v us _ h (Lh us ol hx) h3
theorem Atf {ol':List (Oid×Option Ob)} (he:Aj ol=Aj ol') (h:XD P G bad g k xs tl ol' ra da Kf):XD P G bad g k xs tl ol ra da Kf:=by
 obtain ⟨rs,ds,tl',ol2,h1,h2⟩:=h;exact ⟨rs,ds,tl',ol2,by rw [he]; exact h1,h2⟩
-- the shape of most steps: what the machine says is found by reckoning
theorem rs0 (v:AV) (h:Br (g+k) ⟨some d,gd,q⟩ (Ao tl) (Aj ol)=some (0,v,[])) (h3:XW P G g (k+1) xs ((d,v) :: tl) ol Kf):XW P G g k (⟨some d,gd,q⟩ :: xs) tl ol Kf:=Alc 0 v [] (K1 h) h3 rfl
theorem rsl (v:AV) (h:Br (g+k) ⟨some d,gd,q⟩ (Ao tl) (Aj ol)=some (1,v,[])) (h3:XW P G g (k+1) xs ((d,v) :: tl) ol Kf):XW P G g k (⟨some d,gd,q⟩ :: xs) tl ol Kf:=Alc 1 v [] (K1 h) h3 rfl
theorem rs1 (v:AV) (i:Oid) (o:Ob) (h:Br (g+k) ⟨some d,gd,q⟩ (Ao tl) (Aj ol)=some (1,v,[(i,some o)])) (h3:XW P G g (k+1) xs ((d,v) :: tl) ((i,some o) :: ol) Kf) (hx:Ql (some o)=true:=by rfl):XW P G g k (⟨some d,gd,q⟩ :: xs) tl ol Kf:=Alc 1 v _ (K1 h) h3 (by simp only [Gy,List.all_cons,List.all_nil,hx]; rfl)
theorem rs2 (v:AV) (j i:Oid) (o:Ob) (h:Br (g+k) ⟨some d,gd,q⟩ (Ao tl) (Aj ol)=some (2,v,[(j,none),(i,some o)])) (h3:XW P G g (k+1) xs ((d,v) :: tl) ((i,some o) :: (j,none) :: ol) Kf) (hx:Ql (some o)=true:=by rfl):XW P G g k (⟨some d,gd,q⟩ :: xs) tl ol Kf:=Alc 2 v _ (K1 h) h3 (by simp only [Gy,List.all_cons,List.all_nil,hx]; rfl)
theorem Ame (j i:Oid) (o:Ob) (h:Br (g+k) ⟨none,gd,q⟩ (Ao tl) (Aj ol)=some (2,.any,[(j,none),(i,some o)])) (h3:XW P G g (k+1) xs tl ((i,some o) :: (j,none) :: ol) Kf) (hx:Ql (some o)=true:=by rfl):XW P G g k (⟨none,gd,q⟩ :: xs) tl ol Kf:=A01 2 _ _ (K1 h) h3 (by simp only [Gy,List.all_cons,List.all_nil,hx]; rfl)
theorem ds0 (v:AV) (h:Br (g+k) ⟨some d,gd,q⟩ (Ao tl) (only (rdX (Ao tl) (Aj ol) ⟨some d,gd,q⟩) (Aj ol))=some (0,v,[])) (h3:XD P G bad g (k+1) xs ((d,v) :: tl) ol ((0,v,[]) :: ra) ((rdX (Ao tl) (Aj ol) ⟨some d,gd,q⟩) :: da) Kf):XD P G bad g k (⟨some d,gd,q⟩ :: xs) tl ol ra da Kf:=Adc 0 v [] (K1 h) h3 rfl
theorem dsl (v:AV) (h:Br (g+k) ⟨some d,gd,q⟩ (Ao tl) (only (rdX (Ao tl) (Aj ol) ⟨some d,gd,q⟩) (Aj ol))=some (1,v,[])) (h3:XD P G bad g (k+1) xs ((d,v) :: tl) ol ((1,v,[]) :: ra) ((rdX (Ao tl) (Aj ol) ⟨some d,gd,q⟩) :: da) Kf):XD P G bad g k (⟨some d,gd,q⟩ :: xs) tl ol ra da Kf:=Adc 1 v [] (K1 h) h3 rfl
theorem ds1 (v:AV) (i:Oid) (o:Ob) (h:Br (g+k) ⟨some d,gd,q⟩ (Ao tl) (only (rdX (Ao tl) (Aj ol) ⟨some d,gd,q⟩) (Aj ol))=some (1,v,[(i,some o)])) (h3:XD P G bad g (k+1) xs ((d,v) :: tl) ((i,some o) :: ol) ((1,v,[(i,some o)]) :: ra) ((rdX (Ao tl) (Aj ol) ⟨some d,gd,q⟩) :: da) Kf) (hx:Ql (some o)=true:=by rfl):XD P G bad g k (⟨some d,gd,q⟩ :: xs) tl ol ra da Kf:=Adc 1 v _ (K1 h) h3 (by simp only [Gy,List.all_cons,List.all_nil,hx]; rfl)
theorem ds2 (v:AV) (j i:Oid) (o:Ob) (h:Br (g+k) ⟨some d,gd,q⟩ (Ao tl) (only (rdX (Ao tl) (Aj ol) ⟨some d,gd,q⟩) (Aj ol))=some (2,v,[(j,none),(i,some o)])) (h3:XD P G bad g (k+1) xs ((d,v) :: tl) ((i,some o) :: (j,none) :: ol) ((2,v,[(j,none),(i,some o)]) :: ra) ((rdX (Ao tl) (Aj ol) ⟨some d,gd,q⟩) :: da) Kf) (hx:Ql (some o)=true:=by rfl):XD P G bad g k (⟨some d,gd,q⟩ :: xs) tl ol ra da Kf:=Adc 2 v _ (K1 h) h3 (by simp only [Gy,List.all_cons,List.all_nil,hx]; rfl)
theorem K7 (j i:Oid) (o:Ob) (h:Br (g+k) ⟨none,gd,q⟩ (Ao tl) (only (rdX (Ao tl) (Aj ol) ⟨none,gd,q⟩) (Aj ol))=some (2,.any,[(j,none),(i,some o)])) (h3:XD P G bad g (k+1) xs tl ((i,some o) :: (j,none) :: ol) ((2,.any,[(j,none),(i,some o)]) :: ra) ((rdX (Ao tl) (Aj ol) ⟨none,gd,q⟩) :: da) Kf) (hx:Ql (some o)=true:=by rfl):XD P G bad g k (⟨none,gd,q⟩ :: xs) tl ol ra da Kf:=A1c 2 _ _ (K1 h) h3 (by simp only [Gy,List.all_cons,List.all_nil,hx]; rfl)
section
variable {fo:Opd} {ys:List Opd} {tys:List (List (Option Ty))} {F:FuncId} {caps:List AV} {rv:RV} {args0:List AV}
theorem Cm (v:AV) (us:List (Oid×Option Ob)) (zs args:List AV) (hgd:Y7 gd (Ao tl)) (h1:T6 (gnd (Aj ol) 8) zs=some args0) (hc:A0 P G F args rv) (hb:Be P F=true) (h3:XW P G g (k+1) xs ((d,v) :: tl) (us.reverseAux ol) Kf) (hfo:fo.ev (Ao tl)=.fn F caps:=by kernel_rfl) (hz:(ys++caps.map Opd.cst).map (Opd.ev (Ao tl))=zs:=by kernel_rfl) (hn:U2 tys args0=args:=by kernel_rfl) (hr:rv.out (E1 ((d,0),g+k)) zs=(v,us):=by kernel_rfl) (hx:Gy us=true:=by rfl) (hni:rv.noI=true:=by kernel_rfl):XW P G g k (⟨some d,gd,.call fo ys tys⟩ :: xs) tl ol Kf:=by
 subst hz;exact Alc 1 v us (Atb (P:=P) (G:=G) (p:=false) (n:=g+k) (d:=some d) hgd hfo h1 hn hb hc hni hr) h3 hx
theorem Lg (v:AV) (us:List (Oid×Option Ob)) (zs args:List AV) (hgd:Y7 gd (Ao tl)) (h1:T6 (gnd (only (rdX (Ao tl) (Aj ol) ⟨some d,gd,.call fo ys tys⟩) (Aj ol)) 8) zs=some args0) (hc:A0 P G F args rv) (hb:Be P F=true) (h3:XD P G bad g (k+1) xs ((d,v) :: tl) (us.reverseAux ol) ((1,v,us) :: ra) ((rdX (Ao tl) (Aj ol) ⟨some d,gd,.call fo ys tys⟩) :: da) Kf) (hfo:fo.ev (Ao tl)=.fn F caps:=by kernel_rfl) (hz:(ys++caps.map Opd.cst).map (Opd.ev (Ao tl))=zs:=by kernel_rfl) (hn:U2 tys args0=args:=by kernel_rfl) (hr:rv.out (E1 ((d,0),g+k)) zs=(v,us):=by kernel_rfl) (hx:Gy us=true:=by rfl) (hni:rv.noI=true:=by kernel_rfl):XD P G bad g k (⟨some d,gd,.call fo ys tys⟩ :: xs) tl ol ra da Kf:=by
 subst hz;exact Adc 1 v us (Atb (P:=P) (G:=G) (p:=false) (n:=g+k) (d:=some d) hgd hfo h1 hn hb hc hni hr) h3 hx
def Asn (l:List (Oid×Oid)) (ol us:List (Oid×Ob)) (n:Nat) (ol0:List (Oid×Option Ob)):Bool:=Wh l&&(Ix ol&&(Azm (B1 l) ol&&(Aqf ol us&&Qe n ol0)))
theorem Api {l:List (Oid×Oid)} {ol us:List (Oid×Ob)} {n:Nat} {ol0:List (Oid×Option Ob)} (h:Asn l ol us n ol0=true) (hR:Amm ol0 (B1 l) ol) :
  (∀ q∈exL ol,Aj ol0 (B1 l q.1)=some (q.2.ren (B1 l)))∧(∀ q∈exL ol,∀ q'∈exL ol,B1 l q.1=B1 l q'.1->q.1=q'.1)∧(∀ q∈exL us,q.1.2=1∨(q.1.2=0∧q.1∈nmL ol))∧∀ i:Oid,i.2=n->A3 (Ox (B1 l) i ol us) (Aj ol0)=Aj (Ap (Wf (D5 (B1 l) i) us)++(Po (B1 l) ol++ol0)):=by
 simp only [Asn,Bool.and_eq_true] at h;obtain ⟨c1,c2,c3,c4,c5⟩:=h;refine ⟨Alk c1 hR (Ap4 c2),Avz (fun p e u xss hm k=>L2 c1 ?_ k) c3 c2,Am0 c4,fun i hi=>Avl c1 c2 hR c4 (by rw [hi]; exact c5) c3⟩;unfold Ix at c2;rw [List.all_eq_true] at c2;have:=c2 _ hm;simp only [Bool.and_eq_true,beq_iff_eq] at this;exact this.1
theorem Ic (v:AV) (ul:List (Oid×Option Ob)) (l:List (Oid×Oid)) (zs:List AV) {args:List AV} {ol0 us:List (Oid×Ob)} {v0:AV} (hgd:Y7 gd (Ao tl)) (hc:Kd P G F args ol0 v0 us) (hb:Be P F=true) (hR:Amm ol (B1 l) ol0) (h1:X9 (B1 l) (Ade ((nmL ol0).map (B1 l)) (Aj ol)) zs args) (h4:∀ j∈nmL ol0,Reached zs (Aj ol) (B1 l j)) (h3:XW P G g (k+1) xs ((d,v) :: tl) (ul++ol) Kf) (hfo:fo.ev (Ao tl)=.fn F caps:=by kernel_rfl) (hz:(ys++caps.map Opd.cst).map (Opd.ev (Ao tl))=zs:=by kernel_rfl) (hB:Asn l ol0 us (g+k) ol=true:=by kernel_rfl) (hv:v0.ren (D5 (B1 l) ((d,0),g+k))=v:=by kernel_rfl) (hu:Ap (Wf (D5 (B1 l) ((d,0),g+k)) us)++Po (B1 l) ol0=ul:=by kernel_rfl):XW P G g k (⟨some d,gd,.call fo ys tys⟩ :: xs) tl ol Kf:=by
 subst hv hu;obtain ⟨q1,q2,q3,q4⟩:=Api hB hR;exact Ari 2 _ _ _ (Atj (n:=g+k) (d:=some d) (B1 l) hgd hfo hz h1 q1 q2 h4 q3 hb hc) (q4 ((d,0),g+k) rfl) (by rw [List.append_assoc] at h3; exact h3)
theorem N6 (v:AV) (ul:List (Oid×Option Ob)) (l:List (Oid×Oid)) (zs:List AV) {args:List AV} {ol0 us:List (Oid×Ob)} {v0:AV} (hgd:Y7 gd (Ao tl)) (hc:Kd P G F args ol0 v0 us) (hb:Be P F=true) (hR:Amm ol (B1 l) ol0) (h1:X9 (B1 l) (Ade ((nmL ol0).map (B1 l)) (only (rdX (Ao tl) (Aj ol) ⟨some d,gd,.call fo ys tys⟩) (Aj ol))) zs args) (h4:∀ j∈nmL ol0,Reached zs (only (rdX (Ao tl) (Aj ol) ⟨some d,gd,.call fo ys tys⟩) (Aj ol)) (B1 l j)) (hd:∀ q∈exL ol0,B1 l q.1∈rdX (Ao tl) (Aj ol) ⟨some d,gd,.call fo ys tys⟩) (h3:XD P G bad g (k+1) xs ((d,v) :: tl) (ul++ol) ((2,v,Ox (B1 l) ((d,0),g+k) ol0 us) :: ra) ((rdX (Ao tl) (Aj ol) ⟨some d,gd,.call fo ys tys⟩) :: da) Kf) (hfo:fo.ev (Ao tl)=.fn F caps:=by kernel_rfl) (hz:(ys++caps.map Opd.cst).map (Opd.ev (Ao tl))=zs:=by kernel_rfl) (hB:Asn l ol0 us (g+k) ol=true:=by kernel_rfl) (hv:v0.ren (D5 (B1 l) ((d,0),g+k))=v:=by kernel_rfl) (hu:Ap (Wf (D5 (B1 l) ((d,0),g+k)) us)++Po (B1 l) ol0=ul:=by kernel_rfl):XD P G bad g k (⟨some d,gd,.call fo ys tys⟩ :: xs) tl ol ra da Kf:=by
 subst hv hu;obtain ⟨q1,q2,q3,q4⟩:=Api hB hR;exact Aw4 2 _ _ _ (Atj (n:=g+k) (d:=some d) (B1 l) hgd hfo hz h1 (fun q hq=>by unfold only; rw [if_pos (hd q hq)]; exact q1 q hq) q2 h4 q3 hb hc) (q4 ((d,0),g+k) rfl) (by rw [List.append_assoc] at h3; exact h3)
theorem dsU (v:AV) (us:List (Oid×Option Ob)) (h:Br (g+k) ⟨some d,gd,q⟩ (Ao tl) (only (rdX (Ao tl) (Aj ol) ⟨some d,gd,q⟩) (Aj ol))=some (2,v,us)) (h3:XD P G bad g (k+1) xs ((d,v) :: tl) (us.reverseAux ol) ((2,v,us) :: ra) ((rdX (Ao tl) (Aj ol) ⟨some d,gd,q⟩) :: da) Kf) (hx:Gy us=true:=by rfl):XD P G bad g k (⟨some d,gd,q⟩ :: xs) tl ol ra da Kf:=Adc 2 v us (K1 h) h3 hx
end
end
-- what arguments read as
theorem B9 {g:AV->Option AV}:T6 g []=some []:=rfl
theorem Ay {g:AV->Option AV} {c d:AV} {cs ds:List AV} (h:g c=some d) (hs:T6 g cs=some ds):T6 g (c :: cs)=some (d :: ds):=by simp only [T6,h,hs]
section
variable {ob:Oid->Option Ob} {n:Nat}
theorem Ca {i:Oid} {t u:Ty} {e:TypeId} {xs:List u.D} {len:Nat} (h:ob i=some (.arr e u xs)) (hl:len=xs.length):gnd ob (n+1) (.own i t 0 len)=some (.tree u xs):=by
 subst hl;simp only [gnd,h,Nat.zero_add,Nat.le_refl,if_true,List.drop_zero,List.take_length]
theorem Aie {cs ds:List AV} (h:T6 (gnd ob n) cs=some ds):gnd ob (n+1) (.agg cs)=some (.agg ds):=by simp only [gnd,h,Option.map_some]
theorem Abc {i:Oid} {k:Nat} {ty:TypeId} {cs es ds:List AV} (h:ob i=some (.cells ty cs)) (he:cs.drop k=es) (hs:T6 (gnd ob n) es=some ds):gnd ob (n+1) (.box i k)=some (.ref ds):=by simp only [gnd,h,he,hs,Option.map_some]
end
-- steps that hang on something
section
variable {n:Nat} {d:Option Nat} {f:Nat->AV} {ob:Oid->Option Ob}
theorem P3 {s:Nat} {b c:Bool} {q:Q} {r:Option Rec} (hs:f s=.bool c) (hc:c=b) (h:Br n ⟨d,none,q⟩ f ob=r):Br n ⟨d,some (s,b),q⟩ f ob=r:=by
 subst hc;simp only [Br,hs,gdv,beq_self_eq_true]; exact h
theorem A1b {s:Nat} {b c:Bool} {q:Q} (hs:f s=.bool c) (hc:c= !b):Br n ⟨d,some (s,b),q⟩ f ob=some (0,.tup [],[]):=by
 subst hc;cases b <;> simp [Br,hs,gdv]
theorem Amq {s:Nat} {b:Bool} {q:Q} (hs:f s=.tup []):Br n ⟨d,some (s,b),q⟩ f ob=some (0,.tup [],[]):=by
 simp [Br,hs,gdv]
theorem Ayt {c x y:Opd} {b:Bool} (h:c.ev f=.bool b) (hb:b=true):Br n ⟨d,none,.i (.pick c x y)⟩ f ob=some (0,x.ev f,[]):=by
 subst hb; simp [Br,ev,evN,h]
theorem Ayr {c x y:Opd} {b:Bool} (h:c.ev f=.bool b) (hb:b=false):Br n ⟨d,none,.i (.pick c x y)⟩ f ob=some (0,y.ev f,[]):=by
 subst hb; simp [Br,ev,evN,h]
theorem Aqq {sz:Nat} {x i:Opd} {t:Ty} {xs:List t.D} {y:t.D} {k:IntKind} {m:Int} {j:Nat} (hx:(x.ev f).un=.tree t xs) (hi:i.ev f=.int k m) (hs:sz=t.size) (h0:0<=m) (hj:m.toNat=j) (hy:xs[j]? =some y) {g:Option (Nat->Prop)} (hg:(x.ev f).tag=g:=by kernel_rfl):Br n ⟨d,none,.i (.idx sz x i)⟩ f ob=some (0,.telt g t y 0,[]):=by
 subst hs hj hg;simp [Br,ev,evN,hx,hi,h0,hy]
theorem Aq5 {sz:Nat} {x i:Opd} {t:Ty} {o:Oid} {len:Nat} {k:IntKind} {m:Int} {j:Nat} (hx:x.ev f=.own o t 0 len) (hi:i.ev f=.int k m) (hs:sz=t.size) (h0:0<=m) (hj:m.toNat=j) (hl:j<len):Br n ⟨d,none,.i (.idx sz x i)⟩ f ob=some (0,.elt o j 0,[]):=by
 subst hs hj;have:m<(len:Int):=by omega
 simp [Br,ev,evN,hx,hi,h0,AV.un,this]
theorem A1t {sz:Nat} {x i:Opd} {t:Ty} {o:Oid} {off len:Nat} {k:IntKind} {m:Int} {j:Nat} (hx:x.ev f=.own o t off len) (hi:i.ev f=.int k m) (hs:sz=t.size) (h0:0<=m) (hj:off+m.toNat=j) (hl:m.toNat<len):Br n ⟨d,none,.i (.idx sz x i)⟩ f ob=some (0,.elt o j 0,[]):=by
 subst hs hj;have:m<(len:Int):=by omega
 simp [Br,ev,evN,hx,hi,h0,AV.un,this]
theorem Anj {mt:TypeId} {ok:Bool} {x y:Opd} {t:Ty} {es:List (Int×t.D)} {k:Int} (hx:x.ev f=.mtree mt t es) (hy:y.ev f=.int .i64 k) (h:Lt k) (h3:k3 Tryd.prog mt=some false:=by kernel_rfl):Br n ⟨d,none,.i (.look mt ok x y)⟩ f ob=some (0,Ahc ok t es k,[]):=by
 simp [Br,ev,evN,hx,hy,Afg h h3]
theorem A14 {mt:TypeId} {x y:Opd} {i:Oid} {t:Ty} {es:List (Int×t.D)} {k:Int} (hx:x.ev f=.mp i) (hy:y.ev f=.int .i64 k) (hob:ob i=some (.map mt t es)) (h:Lt k) (h3:k3 Tryd.prog mt=some false:=by kernel_rfl):Br n ⟨d,none,.del mt x y⟩ f ob=some (2,.any,[(i,none),(i,some (.map mt t (Mf es k)))]):=by
 simp [Br,ev,Yc,hx,hy,hob,Afg h h3]
theorem A1u {mt:TypeId} {x y z:Opd} {i:Oid} {es:List (Int×Bool)} {k:Int} {nv:Bool} (hx:x.ev f=.mp i) (hy:y.ev f=.int .i64 k) (hz:z.ev f=.bool nv) (hob:ob i=some (.map mt .bool es)) (h:Lt k∧es.length<1073741824) (h3:k3 Tryd.prog mt=some false:=by kernel_rfl):Br n ⟨d,none,.upd mt x y z⟩ f ob=some (2,.any,[(i,none),(i,some (.map mt .bool (Xj es k nv)))]):=by
 simp [Br,ev,Xv,hx,hy,hz,hob,Afg h.1 h3,h.2]
theorem Mu {one:Bool} {m:Nat} {x:Opd} {i:Oid} {j k:Nat} {e:TypeId} {t:Ty} {xs:List t.D} {y:t.D} {c:AV} (hx:x.ev f=.elt i j k) (hob:ob i=some (.arr e t xs)) (hy:xs[j]? =some y) (hc:F3 one m k (t.av y)=some c):Br n ⟨d,none,.i (.ld one m x)⟩ f ob=some (1,c,[]):=by
 simp [Br,ev,evN,evR,hx,hob,hy,hc]
theorem Zm {one:Bool} {m:Nat} {x y:Opd} {i:Oid} {j k:Nat} {e:TypeId} {t:Ty} {xs:List t.D} {x0 x1:t.D} {cs:List AV} (hx:x.ev f=.elt i j k) (hob:ob i=some (.arr e t xs)) (hy:xs[j]? =some x0) (hc:Qt one m k (t.av x0) (y.ev f)=some cs) (hd:t.ofAV cs=some x1):Br n ⟨d,none,.st one m x y⟩ f ob=some (2,.any,[(i,none),(i,some (.arr e t (xs.set j x1)))]):=by
 simp [Br,ev,Any,hx,hob,hy,hc,hd]
theorem Lu {e:TypeId} {t:Ty} {by_:Nat} {l c:Opd} {k k':IntKind} {m m':Int} {j:Nat} (hl:l.ev f=.int k m) (hc:c.ev f=.int k' m') (h:0<=m∧m<=m'∧m'<=1073741824∧(by_:Int)*m'<=140737488355328) (hj:m.toNat=j):Br n ⟨d,none,.make e t by_ l c⟩ f ob=some (1,.own ((d.getD 0,0),n) t 0 j,[(((d.getD 0,0),n),some (.arr e t (List.replicate j t.dflt)))]):=by
 subst hj;simp only [Br,ev,Agw,hl,hc,if_pos h]
theorem Ma {t t':Ty} {i:Oid} {e:TypeId} {xs:List t.D} {len:Nat} (h:ob i=some (.arr e t xs)) (hl:len=xs.length):F7 ob t (.own i t' 0 len)=some xs:=by
 subst hl;simp only [F7,h,Nat.zero_add,Nat.le_refl,if_true,Ty.eq?_self,Cr,List.drop_zero,List.take_length]
theorem Am7 {t:Ty} {xs:List t.D}:F7 ob t (.tree t xs)=some xs:=by simp only [F7,Ty.eq?_self,Cr]
theorem Ay1 {t:Ty}:Aak f ob t []=some []:=rfl
theorem Au2 {t:Ty} {x:Opd} {c:AV} {xs:List Opd} {ys:List t.D} {yss:List (List t.D)} (hx:x.ev f=c) (hs:F7 ob t c=some ys) (h:Aak f ob t xs=some yss):Aak f ob t (x :: xs)=some (ys :: yss):=by
 simp only [Aak,hx,hs,h]
theorem A2b {t:Ty} {xs:List Opd} {yss:List (List t.D)} {us:List (Oid×Option Ob)} (h:Aak f ob t xs=some yss) {e:TypeId} (hu:(xs.flatMap fun x=>T3 (x.ev f))=us):Br n ⟨d,none,.mkV e (.slice t) 1 xs⟩ f ob=some (2,.tree (.slice t) yss,us):=by
 subst hu;simp only [Br,ev,Z7,h,if_true]
theorem I9 {e:TypeId} {t t':Ty} {by_:Nat} {x y:Opd} {c:AV} {ys xs zs:List t.D} {j:Oid} {len:Nat} (hx:x.ev f=.own j t' 0 len) (hob:ob j=some (.arr e t xs)) (hl:len=xs.length) (hy:y.ev f=c) (hs:F7 ob t c=some ys) (hz:zs=xs++ys) (h:xs.length+ys.length<=1073741824∧(xs.length+ys.length)*by_<=140737488355328) :
  Br n ⟨d,none,.append e t by_ x y⟩ f ob=some (2,.own (j.1,n) t 0 zs.length,[(j,none),((j.1,n),some (.arr e t zs))]):=by
 subst hl hz;simp only [Br,ev,Nx,hx,hy,hs,hob,Ty.eq?_self,Nat.le_refl,true_and,h.1,h.2,and_self,if_true,Cr,List.take_length,List.length_append]
theorem An9 {sz:Nat} {x:Opd} {lo hi:Option Opd} {t:Ty} {i:Oid} {off len o' j:Nat} {l h:Int} (hx:x.ev f=.own i t off len) (hl:Hw f 0 lo=some l) (hh:Hw f len hi=some h) (hs:t.size=sz) (hb:0<=l∧l<=h∧h<=len) (ho:off+l.toNat=o') (hj:(h - l).toNat=j) :
  Br n ⟨d,none,.slice sz x lo hi none⟩ f ob=some (0,.own i t o' j,[]):=by
 subst hs ho hj;simp only [Br,ev,Zy,hx,AV.un,hl,hh,true_and,hb.1,hb.2.1,hb.2.2,and_self,if_true]
theorem A1s {x y:Opd} {j:Nat} (hx:x.ev f=.int .i64 j) (hy:y.ev f=.int .i64 1) (h:j+1<4611686018427387904):Br n ⟨d,none,.i (.bin .add x y)⟩ f ob=some (0,.int .i64 ((j+1:Nat):Int),[]):=by
 have:IntKind.i64.wrap ((j:Int)+1)=((j+1:Nat):Int):=by rw [Go.IntWalk.i64_in _ (by omega)]; rfl
 simp [Br,ev,evN,Agy,hx,hy,this]
theorem A11 {x y:Opd} {k:IntKind} {a b:Int} (hx:x.ev f=.int k a) (hy:y.ev f=.int k b) (h:b≠0):Br n ⟨d,none,.i (.bin .quo x y)⟩ f ob=some (0,.int k (k.wrap (a.tdiv b)),[]):=by
 simp [Br,ev,evN,Agy,hx,hy,h]
theorem Sc {x y:Opd} {k:IntKind} {a b:Int} (hx:x.ev f=.int k a) (hy:y.ev f=.int k b) (h:b≠0):Br n ⟨d,none,.i (.bin .rem x y)⟩ f ob=some (0,.int k (a.tmod b),[]):=by
 simp [Br,ev,evN,Agy,hx,hy,h]
end
theorem Ah {c:Opd} {x y:AC} {R:AE->St->Prop} {S:St} {t:Bool} (ht:t=true) (h1:awp P G x R S) (h:c.ev S.tm=.bool t:=by kernel_rfl):awp P G (.cond c x y) R S:=by
 subst ht; exact .inl ⟨true,h,fun _=>h1,fun h=>(nomatch h)⟩
theorem Ag {c:Opd} {x y:AC} {R:AE->St->Prop} {S:St} {t:Bool} (ht:t=false) (h2:awp P G y R S) (h:c.ev S.tm=.bool t:=by kernel_rfl):awp P G (.cond c x y) R S:=by
 subst ht; exact .inl ⟨false,h,fun h=>(nomatch h),fun _=>h2⟩
theorem Ae {i:Nat} {a:AC} {R:AE->St->Prop} {S:St} (h:awp P G a (M4 i R) S):awp P G (.block i a) R S:=h
theorem Auy {a:AC} {R:AE->St->Prop} {S:St} {α:Type} (I:α->St->Prop) (μ:α->Nat) (h0:∃ s S0,WeakG G S S0∧I s S0) (h1:∀ s S1,I s S1->awp P G a (P5 (fun S2=>∃ s' S3,WeakG G S2 S3∧I s' S3∧μ s'<μ s) R) S1):awp P G (.loop a) R S:=⟨α,I,μ,h0,h1⟩
theorem Au {i:Nat} {R:AE->St->Prop} {S:St} (h:R (.exit i) S):awp P G (.exit i) R S:=h
theorem Ai {R:AE->St->Prop} {S:St} (h:R .normal S):awp P G .skip R S:=h
theorem An {R:AE->St->Prop} {S:St} (h:R .ret S):awp P G .ret R S:=h
end
section
variable {K:St->Prop} {R:AE->St->Prop} {S:St} {i j:Nat}
theorem tn_ (h:K S):P5 K R .normal S:=h
theorem te_ (h:R (.exit i) S):P5 K R (.exit i) S:=h
theorem tr_ (h:R .ret S):P5 K R .ret S:=h
theorem bn_ (h:R .normal S):M4 i R .normal S:=h
theorem be_ (h:R .normal S):M4 i R (.exit i) S:=by simpa [M4] using h
theorem br_ (h:R .ret S):M4 i R .ret S:=h
end
def tmL:Nat->List AV->List (Nat×AV)
 | _,[]=>[]
 | k,v :: r=>(k,v) :: tmL (k+1) r
theorem Ap5:∀ (l:List AV) (k i:Nat),Ao (tmL k l) (k+i)=l.getD i .any
 | [],k,i=>by simp [tmL,Ao]
 | v :: r,k,i=>by
  cases i with
  | zero=>simp [tmL,Ao]
  | succ i =>
   have:=Ap5 r (k+1) i;simp only [tmL,Ao];rw [if_neg (by omega),show k+(i+1)=k+1+i by omega,this];simp
theorem Asv (args:List AV):(fun i=>args.getD i .any)=Ao (tmL 0 args):=by
 funext i;have:=Ap5 args 0 i;rw [Nat.zero_add] at this;exact this.symm
theorem St.init_eq (args:List AV):St.init args=⟨Ao (tmL 0 args),Aj [],1⟩:=by
 unfold St.init;rw [Asv];rfl
theorem My {G:World->Prop} {tl:List (Nat×AV)} {ol:List (Oid×Option Ob)} {g:Nat} (s:Nat) (e:TypeId) (t:Ty) (ht:t.flat=true) (hs:Ao tl s=.nils):WeakG G ⟨Ao tl,Aj ol,g⟩ ⟨Ao ((s,.own ((s,0),g) t 0 0) :: tl),Aj ((((s,0),g),some (.arr e t [])) :: ol),g+1⟩:=by
 have:=Awe (G:=G) (S:=⟨Ao tl,Aj ol,g⟩) s e t ht hs;rw [Wu] at this;have e2:upd (Aj ol) ((s,0),g) (some (.arr e t []))=Aj ((((s,0),g),some (.arr e t [])) :: ol):=Nk rfl;rw [e2] at this;exact this
theorem A8 {G:World->Prop} {tl:List (Nat×AV)} {ol:List (Oid×Option Ob)} {g:Nat} (s:Nat) (v v':AV) (h:Ao tl s=v) (e:v=v'):WeakG G ⟨Ao tl,Aj ol,g⟩ ⟨Ao ((s,v') :: tl),Aj ol,g⟩:=by
 subst e
 have:Ao ((s,v) :: tl)=Ao tl:=by
  funext i;simp only [Ao];split
  ·rename_i e; rw [e]; exact h.symm
  ·rfl
 rw [this]; exact WeakG.refl _
theorem C7 {G:World->Prop} {tl:List (Nat×AV)} {ol:List (Oid×Option Ob)} {g:Nat} (j:Oid) (o o':Ob) (h:Aj ol j=some o) (e:o=o') (hx:Ql (some o)=true:=by rfl):WeakG G ⟨Ao tl,Aj ol,g⟩ ⟨Ao tl,Aj ((j,some o') :: ol),g⟩:=by
 subst e
 have:Aj ((j,some o) :: ol)=Aj ol:=by
  rw [← Nk hx,Axw _ _ _ h]
 rw [this]; exact WeakG.refl _
theorem Ug {G:World->Prop} {tl:List (Nat×AV)} {ol:List (Oid×Option Ob)} {g:Nat} (s:Nat) (e:TypeId) (t:Ty) (hs:Ao tl s=.nils):WeakG G ⟨Ao tl,Aj ol,g⟩ ⟨Ao ((s,.own ((s,0),g) t 0 0) :: tl),Aj ((((s,0),g),some (.vec e 1 0 [])) :: ol),g+1⟩:=by
 have:=Auh (G:=G) (S:=⟨Ao tl,Aj ol,g⟩) s e t hs;rw [Wu] at this;have e2:upd (Aj ol) ((s,0),g) (some (.vec e 1 0 []))=Aj ((((s,0),g),some (.vec e 1 0 [])) :: ol):=Nk rfl;rw [e2] at this;exact this
theorem Bt {G:World->Prop} {tl:List (Nat×AV)} {ol:List (Oid×Option Ob)} {g:Nat} (s:Nat) (c:Oid) (k:Nat) (ty:TypeId) (cs ds:List AV) (e:TypeId) (t:Ty) (hb:Aj ol c=some (.cells ty cs)) (hk:cs[k]? =some .nils) (hd:cs.set k (.own ((s,0),g) t 0 0)=ds) :
  WeakG G ⟨Ao tl,Aj ol,g⟩ ⟨Ao tl,Aj ((c,some (.cells ty ds)) :: (((s,0),g),some (.vec e 1 0 [])) :: ol),g+1⟩:=by
 subst hd;have:=Ahz (G:=G) (S:=⟨Ao tl,Aj ol,g⟩) s c k ty cs e t hb hk;have e2:upd (upd (Aj ol) ((s,0),g) (some (.vec e 1 0 []))) c (some (.cells ty (cs.set k (.own ((s,0),g) t 0 0))))=Aj ((c,some (.cells ty (cs.set k (.own ((s,0),g) t 0 0)))) :: (((s,0),g),some (.vec e 1 0 [])) :: ol):=by rw [Nk rfl,Nk rfl]
 rw [← e2];exact this
def A0a (ol us:List (Oid×Ob)) (args:List AV) (v:AV):Bool :=
 (Ix ol&&(Ix us&&((ol.all fun q=>q.1.2==0)&&((us.all fun q=>q.1.2==1||(!q.2.isPool&&(Cd ol).contains q.1))&&(ndB (Cd us)&&ndB (Cj us))))))&&((ol.all fun q=>q.2.clo1 (Cd ol))&&((us.all fun q=>q.2.hp1 (Cd us))&&(AV.cloL (Cd ol) args&&AV.hpB (Cd us) v)))
def Amd (ol:List (Oid×Ob)):List (Oid×Ob)->Prop
 | []=>True
 | q :: r=>(match q.2 with
  | .mat _ p u xss=>∃ e,(p,Ob.pool e u xss)∈ol
  | _=>True)∧Amd ol r
theorem Y4 {ol:List (Oid×Ob)}:∀ {l:List (Oid×Ob)},Amd ol l->∀ i e p u xss,(i,Ob.mat e p u xss)∈l->∃ e,(p,Ob.pool e u xss)∈ol
 | _ :: _,h,i,e,p,u,xss,hm=>by
  rcases List.mem_cons.1 hm with rfl | hm
  ·exact h.1
  ·exact Y4 h.2 i e p u xss hm
theorem As6 {ol:List (Oid×Ob)} {p:Oid} {e:TypeId} {u:Ty} {xss:List (List u.D)}:(p,Ob.pool e u xss)∈ol->∀ k,k<xss.length->kid p k∈nmL ol:=by
 induction ol with
 | nil=>intro h; cases h
 | cons x r ih =>
  obtain ⟨x1,x2⟩:=x;intro h k hk;rcases List.mem_cons.1 h with h | h
  ·cases h;simp only [nmL,exL,List.map_append,List.mem_append];refine .inl (List.mem_map.2 ⟨(kid p k,.arr e u xss[k]),List.mem_map.2 ⟨(xss[k],k),?_,rfl⟩,rfl⟩);rw [List.mem_zipIdx_iff_getElem?]; exact gEg hk
  ·have:=ih h k hk;cases x2 <;> simp only [nmL,exL,List.map_cons,List.map_append] at this⊢ <;> first | exact List.mem_cons_of_mem _ this | exact List.mem_append_right _ this
theorem Wb {ol:List (Oid×Ob)} {i:Oid} (h:i∈Cd ol):i∈nmL ol:=by
 obtain ⟨o,ho,hp⟩:=Axa h;exact List.mem_map.2 ⟨_,Aej ho hp,rfl⟩
theorem A08 {D:Oid->Prop} {p:Oid} {u:Ty} (xss:List (List u.D)) (h:∀ k,k<xss.length->D (kid p k)):AV.hpL D (hdL p u xss):=by
 have key:∀ l:List (List u.D×Nat),(∀ x∈l,D (kid p x.2))->AV.hpL D (l.map fun x=>.own (kid p x.2) u 0 x.1.length):=by
  intro l
  induction l with
  | nil=>intro _; trivial
  | cons x l ih=>intro h; exact ⟨h x (by simp),ih fun y hy=>h y (by simp [hy])⟩
 refine key _ fun x hx=>h _ ?_
 obtain ⟨row,k⟩:=x;rw [List.mem_zipIdx_iff_getElem?] at hx;exact (gSi.1 hx).1
theorem A1w {D:List Oid} (o:Ob) (h:o.clo1 D=true) (hp:o.isPool=false) (hm:∀ e p u xss,o≠.mat e p u xss):o.exp.cloP (·∈D):=by
 cases o with
 | cells _ cs=>exact AV.cloPL_of cs h
 | vec _ _ _ cs=>exact AV.cloPL_of cs h
 | mat e p u xss=>exact absurd rfl (hm _ _ _ _)
 | arr _ _ _=>trivial
 | map _ _ _=>trivial
 | pool _ _ _=>cases hp
 | tv e m t xs=>exact Aq8 xs
theorem A13 {D:List Oid} (o:Ob) (h:o.hp1 D=true) (hp:o.isPool=false) (hm:∀ e p u xss,o≠.mat e p u xss):o.exp.hp (·∈D):=by
 cases o with
 | cells _ cs=>exact AV.hpB_PL cs h
 | vec _ _ _ cs=>exact AV.hpB_PL cs h
 | mat e p u xss=>exact absurd rfl (hm _ _ _ _)
 | arr _ _ _=>trivial
 | map _ _ _=>trivial
 | pool _ _ _=>cases hp
 | tv e m t xs=>cases h
theorem cloP_mono {D E:Oid->Prop} (hd:∀ i,D i->E i) (o:Ob) (h:o.cloP D):o.cloP E:=by
 cases o <;> first | exact AV.cloPL_mono hd _ h | exact h
theorem hp_mono {D E:Oid->Prop} (hd:∀ i,D i->E i) (o:Ob) (h:o.hp D):o.hp E:=by
 cases o <;> first | exact AV.hpL_mono hd _ h | exact h
section
variable {P:Program} {G:World->Prop} (hfol:P.follows .mixedOrders=true) {g:FuncId} {fn:Func} (hf:P.funcs[g]? =some fn) {ac:AC} {rs:List Res} (hc:At P fn=some (ac,rs)) {args:List AV} {r:RV} {n:Nat} (hN:fn.ntmps=n) (hn:args.length<=n)
include hfol hf hc hN hn
theorem A1 [IsP P] {tl:List (Nat×AV)} (htl:tmL 0 args=tl) (h:awp P G ac (fun e S=>∃ S',WeakG G S S'∧(e=.normal∨e=.ret)∧RetOK [] rs S' r) ⟨Ao tl,Aj [],1⟩):A0 P G g args r:=by
 refine Ayz hfol hf hc hN hn ?_;rw [St.init_eq,htl];exact h
omit hN hn in
theorem Ga [IsP P] (hN:fn.ntmps=n) (hn:args.length<=n) {tl:List (Nat×AV)} (htl:tmL 0 args=tl) {ol us:List (Oid×Ob)} {v:AV} (hB:A0a ol us args v=true) (hm1:Amd ol ol) (hm2:Amd us us)
  (h:awp P G ac (fun e S=>∃ S',WeakG G S S'∧(e=.normal∨e=.ret)∧(∃ rvs,Res.evL S'.tm S'.ob rs=some rvs∧v=Ap6 rvs)∧∀ q∈exL us,S'.ob q.1=some q.2) ⟨Ao tl,Aj (Ap ol),1⟩):Kd P G g args ol v us:=by
 simp only [A0a,Bool.and_eq_true] at hB;obtain ⟨⟨a1,a2,a3,a4,a5,a6⟩,b1,b2,b3,b4⟩:=hB;rw [List.all_eq_true] at a3 a4 b1 b2
 have h0:∀ {l:List (Oid×Ob)},Ix l=true->∀ q∈l,q.1.1.2=0:=fun h q hq=>by
  unfold Ix at h;rw [List.all_eq_true] at h;have:=h q hq;simp only [Bool.and_eq_true,beq_iff_eq] at this;exact this.1
 refine Avv hfol hf hc hN hn (fun q hq=>?_) (A0n (Ik a5) (Ik a6) (h0 a2)) (fun q hq=>?_) (AV.cloPL_mono (fun i hi=>Wb hi) _ (AV.cloPL_of args b3)) (AV.hp_mono (fun i hi=>Wb hi) _ (AV.hpB_P v b4)) ?_
 ·rcases Jw hq with ⟨p,e,u,xss,k,row,m1,m2,rfl⟩ | ⟨o,m1,m2,m3⟩
  ·have:=a3 _ m1;rw [beq_iff_eq] at this;exact ⟨this,trivial⟩
  ·have:=a3 _ m1;refine ⟨by simpa using this,?_⟩;rw [m3];by_cases hmt:∃ e p u xss,o=.mat e p u xss
   ·obtain ⟨e,p,u,xss,rfl⟩:=hmt;obtain ⟨e',hp⟩:=Y4 hm1 _ _ _ _ _ m1;exact Awx xss fun k hk=>As6 hp k hk
   ·exact cloP_mono (fun i hi=>Wb hi) _ (A1w o (b1 _ m1) m2 fun e p u xss h=>hmt ⟨e,p,u,xss,h⟩)
 ·rcases Jw hq with ⟨p,e,u,xss,k,row,m1,m2,rfl⟩ | ⟨o,m1,m2,m3⟩
  ·have:=a4 _ m1;simp only [Ob.isPool,Bool.not_true,Bool.false_and,Bool.or_false,beq_iff_eq] at this;exact ⟨.inl this,trivial⟩
  ·have:=a4 _ m1;simp only [Bool.or_eq_true,Bool.and_eq_true,beq_iff_eq] at this;refine ⟨this.imp id fun h=>Wb (List.contains_iff_mem.1 h.2),?_⟩;rw [m3];by_cases hmt:∃ e p u xss,o=.mat e p u xss
   ·obtain ⟨e,p,u,xss,rfl⟩:=hmt;obtain ⟨e',hp⟩:=Y4 hm2 _ _ _ _ _ m1;exact A08 xss fun k hk=>As6 hp k hk
   ·exact hp_mono (fun i hi=>Wb hi) _ (A13 o (b2 _ m1) m2 fun e p u xss h=>hmt ⟨e,p,u,xss,h⟩)
 ·rw [Asv,htl];exact h
end
theorem Bo {G:World->Prop} {rs:List Res} {f:Nat->AV} {ob:Oid->Option Ob} {g:Nat} {r:RV} (avs:List AV) {vs:List Value} {e:AE} (h2:PartsR vs ob avs r.ps) (he:e=.normal∨e=.ret:=by simp) (h1:Res.evL f ob rs=some avs:=by kernel_rfl) (h3:ndB (Aj5 ob (Zu avs))=true:=by kernel_rfl) (h4:r.tup=decide (rs.length≠1):=by kernel_rfl):∃ S',WeakG G ⟨f,ob,g⟩ S'∧(e=.normal∨e=.ret)∧RetOK vs rs S' r :=
 ⟨_,WeakG.refl _,he,avs,r.ps,h1,h2,Ik h3,by cases r; cases h4; rfl⟩
theorem Oi {G:World->Prop} {rs:List Res} {S:St} {tl:List (Nat×AV)} {g:Nat} {v:AV} {us:List (Oid×Ob)} {e:AE} (rvs:List AV) (hw:WeakG G S ⟨Ao tl,Aj (Ap us),g⟩) (he:e=.normal∨e=.ret:=by simp) (h1:Res.evL (Ao tl) (Aj (Ap us)) rs=some rvs:=by kernel_rfl) (hv:v=Ap6 rvs:=by kernel_rfl) (h2:(Ix us&&(ndB (Cd us)&&ndB (Cj us)))=true:=by kernel_rfl) :
  ∃ S',WeakG G S S'∧(e=.normal∨e=.ret)∧(∃ rvs,Res.evL S'.tm S'.ob rs=some rvs∧v=Ap6 rvs)∧∀ q∈exL us,S'.ob q.1=some q.2:=by
 refine ⟨_,hw,he,⟨rvs,h1,hv⟩,fun q hq=>?_⟩;simp only [Bool.and_eq_true] at h2;obtain ⟨a1,a2,a3⟩:=h2
 have h0:∀ q∈us,q.1.1.2=0:=fun q hq=>by
  unfold Ix at a1;rw [List.all_eq_true] at a1;have:=a1 q hq;simp only [Bool.and_eq_true,beq_iff_eq] at this;exact this.1
 have:=T5 (rest:=[]) (Ik a2) (Ik a3) (fun p hp=>by obtain ⟨e,u,xss,hm⟩:=A0x hp; exact h0 _ hm) (fun i hi p hp k e=>by
  obtain ⟨o,ho,_⟩:=Axa hi;have:=h0 _ ho;rw [e] at this;simp [kid] at this) q hq
 rwa [List.append_nil] at this
section
variable {vs:List Value} {ob:Oid->Option Ob}
theorem A0m {cs r:List AV} {ls:List RL} {ps:List (Bool×List RL)} (h1:LeavesR vs ob cs ls) (h2:PartsR vs ob r ps):PartsR vs ob (.agg cs :: r) ((true,ls) :: ps):=⟨ls,ps,rfl,h1,h2⟩
theorem A2 {c:AV} {r:List AV} {l:RL} {ps:List (Bool×List RL)} (hc:c.one=true) (h1:LeafR vs ob c l) (h2:PartsR vs ob r ps):PartsR vs ob (c :: r) ((false,[l]) :: ps):=by
 rw [Ue (by rintro ⟨_,rfl⟩; cases hc)];exact ⟨l,ps,rfl,h1,h2⟩
theorem A5:PartsR vs ob [] []:=rfl
theorem Yr {c:AV} {cs:List AV} {l:RL} {ls:List RL} (h1:LeafR vs ob c l) (h2:LeavesR vs ob cs ls):LeavesR vs ob (c :: cs) (l :: ls):=⟨l,ls,rfl,h1,h2⟩
theorem Az6:LeavesR vs ob [] []:=rfl
theorem A2i {c:AV} {l:RL} (h:Za ob c=some l):LeafR vs ob c l:=.inl (.inl h)
theorem Fy {i:Oid} {t u:Ty} {e:TypeId} {xs:List u.D} {len:Nat} (h:ob i=some (.arr e u xs)) (hl:len=xs.length):LeafR vs ob (.own i t 0 len) (.new e u xs):=by
 subst hl;exact .inl (.inl (by simp only [Za,h,Nat.le_refl,and_self,if_true,List.take_length]))
theorem Al7 {e:TypeId} {t:Ty} (h:t.flat=true):LeafR vs ob .nils (.new e t []):=.inl (.inr (.inr ⟨e,t,rfl,rfl,h⟩))
end
end Go.Proofs.YtpnofkjgeokdhaaDoor
namespace Go.Proofs.YtpnofkjgeokdhaaDoor
open Go.RowKit Go.Deep
abbrev tm (n:Nat):Opd:=.tmp n
abbrev cb (b:Bool):Opd:=.cst (.bool b)
abbrev ci (n:Int):Opd:=.cst (.int .i64 n)
abbrev xo (d:Nat) (q:Q):X:=⟨some d,none,q⟩
abbrev xn (q:Q):X:=⟨none,none,q⟩
abbrev qm (x:Opd):Q:=.i (.mov x)
abbrev ql (x:Opd):Q:=.i (.ld true 1 x)
abbrev qs (x y:Opd):Q:=.st true 1 x y
abbrev qf (k:Nat) (x:Opd):Q:=.i (.fld k x)
abbrev qb (o:BinOp) (x y:Opd):Q:=.i (.bin o x y)
abbrev qx (sz:Nat) (x y:Opd):Q:=.i (.idx sz x y)
abbrev qc (f:FuncId) (xs:List Opd) (tys:List (List (Option Ty))):Q:=.call (.cst (.fn f [])) xs tys
abbrev rg (xs:List X):AC:=.region xs false []
abbrev ai (n:Int):AV:=.int .i64 n
abbrev oi (a b:Nat):Oid:=((a,0),b)
def A09 (d:Option Nat) (v:AV) (tl:List (Nat×AV)):List (Nat×AV) :=
 match d with
 | some d=>(d,v) :: tl
 | none=>tl
theorem A0v (d:Option Nat) (v:AV) (tl:List (Nat×AV)):Qj d v (Ao tl)=Ao (A09 d v tl):=by
 cases d with
 | none=>rfl
 | some d=>simp only [Qj,A09,Wu]
noncomputable def Al9 (g:Nat):Nat->Nat->List X->List (Nat×AV)->List (Oid×Option Ob)->Option (List (Nat×AV)×List (Oid×Option Ob))
 | 0,_,_,tl,ol=>some (tl,ol)
 | _+1,_,[],_,_=>none
 | n+1,k,x :: xs,tl,ol=>match Br (g+k) x (Ao tl) (Aj ol) with
  | some (_,v,us)=>if Gy us then Al9 g n (k+1) xs (A09 x.dst v tl) (us.reverseAux ol) else none
  | none=>none
theorem A17 {P:Program} {G:World->Prop} {g:Nat} {Kf:List (Nat×AV)->List (Oid×Option Ob)->Prop}:∀ (n k:Nat) (xs:List X) (tl:List (Nat×AV)) (ol:List (Oid×Option Ob)) (r:List (Nat×AV)×List (Oid×Option Ob)),Al9 g n k xs tl ol=some r->XW P G g (k+n) (xs.drop n) r.1 r.2 Kf->XW P G g k xs tl ol Kf
 | 0,k,xs,tl,ol,r,h,hk=>by
  obtain rfl:=osj h;exact hk
 | n+1,k,[],tl,ol,r,h,hk=>by cases h
 | n+1,k,x :: xs,tl,ol,r,h,hk=>by
  simp only [Al9] at h;split at h
  ·rename_i c v us hst;split at h
   ·rename_i hx;obtain ⟨rs,tl',ol',h1,h2⟩:=A17 (P:=P) (G:=G) n (k+1) xs _ _ r h (by rw [show k+1+n=k+(n+1) by omega]; exact hk);exact ⟨(c,v,us) :: rs,tl',ol',⟨_,_,rfl,K1 hst,by rw [A0v,Lh _ _ hx]; exact h1⟩,h2⟩
   ·cases h
  ·cases h
theorem rsB {P:Program} {G:World->Prop} {g k:Nat} {xs:List X} {tl:List (Nat×AV)} {ol:List (Oid×Option Ob)} {Kf:List (Nat×AV)->List (Oid×Option Ob)->Prop} (n:Nat) (hk:XW P G g (k+n) (xs.drop n) ((Al9 g n k xs tl ol).getD ([],[])).1 ((Al9 g n k xs tl ol).getD ([],[])).2 Kf) (h:(Al9 g n k xs tl ol).isSome=true:=by kernel_rfl):XW P G g k xs tl ol Kf:=by
 obtain ⟨r,hr⟩:=Option.isSome_iff_exists.1 h;rw [hr] at hk;exact A17 n k xs tl ol r hr hk
theorem Al {P:Program} {G:World->Prop} {g:Nat} {xs:List X} {bad:List (Nat×Nat)} {y:AC} {R:AE->St->Prop} {tl:List (Nat×AV)} {ol:List (Oid×Option Ob)} (h:awp P G y R ⟨Ao ((Al9 g xs.length 0 xs tl ol).getD ([],[])).1,Aj ((Al9 g xs.length 0 xs tl ol).getD ([],[])).2,g+xs.length⟩) (hs:(Al9 g xs.length 0 xs tl ol).isSome=true:=by kernel_rfl):awp P G (.seq (.region xs false bad) y) R ⟨Ao tl,Aj ol,g⟩:=by
 refine Ab (Aa (g+xs.length) (rsB xs.length (by rw [List.drop_length]; exact Aq (tn_ ⟨_,WeakG.refl _,h⟩)) hs) rfl)
theorem Ahx {i:Oid} {ob:Oid->Option Ob}:only [i] ob i=ob i:=if_pos (List.mem_singleton.2 rfl)
section
variable {n:Nat} {d:Option Nat} {f:Nat->AV} {ob:Oid->Option Ob} {ol:List (Oid×Option Ob)}
theorem Gu {x:Opd} {o p:Oid} {e1:TypeId} {u:Ty} {xss:List (List u.D)} {row:List u.D} {j:Nat} (hx:x.ev f=.elt o j 0) (hob:ob o=some (.vec e1 1 xss.length (hdL p u xss))) (hr:xss[j]? =some row):Br n ⟨d,none,.i (.ld true 1 x)⟩ f ob=some (1,.own (kid p j) u 0 row.length,[]):=by
 have h:(hdL p u xss)[j*1+0]? =some (.own (kid p j) u 0 row.length):=by rw [Ez]; simp [hr]
 simp only [Nat.mul_one,Nat.add_zero] at h;simp [Br,ev,evN,evR,hx,hob,F3,h]
theorem Ae5 {x y:Opd} {o:Oid} {e1:TypeId} {m:Nat} {cs:List AV} {v:AV} {j:Nat} (hx:x.ev f=.elt o j 0) (hob:ob o=some (.vec e1 1 m cs)) (hy:y.ev f=v) (hv:v.one=true) (hj:j<cs.length):Br n ⟨d,none,.st true 1 x y⟩ f ob=some (2,.any,[(o,none),(o,some (.vec e1 1 m (cs.set j v)))]):=by
 simp [Br,ev,Any,hx,hob,hy,Qt,hv,hj]
theorem Dd {x y:Opd} {o q:Oid} {e1 e2:TypeId} {u:Ty} {t':Ty} {b:Nat} {p:Oid} {xss:List (List u.D)} {cs:List AV} {len:Nat} (hx:x.ev f=.own o t' 0 len) (hob:ob o=some (.vec e1 1 xss.length (hdL p u xss))) (hl:len=xss.length) {t2:Ty} (hy:y.ev f=.own q t2 0 1) (hq:ob q=some (.vec e2 1 1 cs)) (hc:cs.length=1) (h:xss.length+1<=1073741824∧(xss.length+1)*b<=140737488355328) :
  Br n ⟨d,none,.appV e1 (.slice u) b x y⟩ f ob=some (2,.own (o.1,n) (.slice u) 0 (xss.length+1),[(o,none),((o.1,n),some (.vec e1 1 (xss.length+1) (hdL p u xss++cs)))]):=by
 subst hl;have h1:List.take (xss.length*1) (hdL p u xss)=hdL p u xss:=by rw [Nat.mul_one]; exact List.take_of_length_le (by rw [Df]; exact Nat.le_refl _)
 have h2:List.take (1*1) (List.drop (0*1) cs)=cs:=by simp only [Nat.zero_mul,List.drop_zero,Nat.mul_one]; exact List.take_of_length_le (by omega)
 simp only [Br,ev,Nz,hx,hy,Abi,hq,hob,Ty.size,true_and,Nat.zero_add,Nat.le_refl,if_true,h1,h2,h.1,h.2,and_self]
theorem G1 {i:Oid} {e:TypeId} {t:Ty} {sz:Nat} {xs:List Opd} {r:Rec} (h:(Akp f i e t sz xs).map (fun r=>((1:Nat),r.1,r.2))=some r):evL f i (.mkV e t sz xs)=some r:=by
 simp only [evL];cases hq:Akp f i e t sz xs with
 | none=>rw [hq] at h; cases h
 | some q=>rw [hq] at h; obtain ⟨v,us⟩:=q; exact h
theorem Aei {i:Oid} {e:TypeId} (e':TypeId) {u:Ty} {b:Nat} {x y:Opd} {k k':IntKind} {m c:Int} {j:Nat} (hx:x.ev f=.int k m) (hy:y.ev f=.int k' c) (h:0<=m∧m<=c∧c<=1073741824∧(b:Int)*c<=140737488355328) (hfl:u.flat=true) (hj:m.toNat=j) :
  Aok f i (.makeV e (.slice u) b [.nils] x y) (1,RV.out ⟨false,[(false,[.newM e e' u (List.replicate j [])])]⟩ (E1 i) []):=by
 subst hj;exact ⟨e,e',u,b,x,y,k,k',m,c,rfl,hx,hy,h,hfl,rfl⟩
theorem Ay2 {i:Oid} {e e':TypeId} {u:Ty} {xss:List (List u.D)} (h:Qe i.2 ol=true):A3 (RV.out ⟨false,[(false,[.newM e e' u xss])]⟩ (E1 i) []).2 (Aj ol)=Aj ((E1 i 0,some (.mat e (E1 i 0) u xss)) :: (E1 i 0,some (.pool e' u xss)) :: ol):=by
 have e0:(RV.out ⟨false,[(false,[.newM e e' u xss])]⟩ (E1 i) []).2=(E1 i 0,some (.vec e 1 xss.length (hdL (E1 i 0) u xss))) :: (Af2 (E1 i 0) e' u xss++[]):=rfl;rw [e0,List.append_nil];show A3 (Af2 (E1 i 0) e' u xss) (upd (Aj ol) (E1 i 0) (some (.vec e 1 xss.length (hdL (E1 i 0) u xss))))=_
 rw [Nk rfl,Anz (fun k=>by
  have:Aj ((E1 i 0,some (.vec e 1 xss.length (hdL (E1 i 0) u xss))) :: ol) (kid (E1 i 0) k)=if kid (E1 i 0) k=E1 i 0 then some (.vec e 1 xss.length (hdL (E1 i 0) u xss)) else Aj ol (kid (E1 i 0) k):=by simp only [Aj]
  rw [this,if_neg (fun e=>by have:=congrArg (fun i:Oid=>i.1.2) e; simp [kid,E1] at this)];exact Tt h _ rfl)]
 funext j;have h2:∀ j,Aj ((E1 i 0,some (.vec e 1 xss.length (hdL (E1 i 0) u xss))) :: ol) j=if j=E1 i 0 then some (.vec e 1 xss.length (hdL (E1 i 0) u xss)) else Aj ol j:=fun j=>by simp only [Aj]
 rw [Tp,Pa,Pa,h2];by_cases hj:j=E1 i 0
 ·subst hj;rw [if_pos rfl,if_neg (fun h=>h.2.2 rfl),if_pos rfl]
 ·rw [if_neg hj,if_neg hj]
end
section
variable {P:Program} {G:World->Prop} {g k d:Nat} {gd:Option (Nat×Bool)} {q:Q} {xs:List X} {tl:List (Nat×AV)} {ol:List (Oid×Option Ob)} {bad:List (Nat×Nat)} {ra:List Rec} {da:List (List Oid)} {Kf:List (Nat×AV)->List (Oid×Option Ob)->Prop}
theorem Zs (v:AV) (i:Oid) (o:Ob) (hgd:Y7 gd (Ao tl)) (h:evL (Ao tl) ((d,0),g+k) q=some (1,v,[(i,some o)])) (h3:XW P G g (k+1) xs ((d,v) :: tl) ((i,some o) :: ol) Kf) (hx:Ql (some o)=true:=by rfl):XW P G g k (⟨some d,gd,q⟩ :: xs) tl ol Kf:=Alc 1 v _ (Az8 (d:=some d) hgd h) h3 (by simp only [Gy,List.all_cons,List.all_nil,hx]; rfl)
theorem Aad (v:AV) (i:Oid) (o:Ob) (hgd:Y7 gd (Ao tl)) (h:evL (Ao tl) ((d,0),g+k) q=some (1,v,[(i,some o)])) (h3:XD P G bad g (k+1) xs ((d,v) :: tl) ((i,some o) :: ol) ((1,v,[(i,some o)]) :: ra) ((rdX (Ao tl) (Aj ol) ⟨some d,gd,q⟩) :: da) Kf) (hx:Ql (some o)=true:=by rfl):XD P G bad g k (⟨some d,gd,q⟩ :: xs) tl ol ra da Kf:=Adc 1 v _ (Az8 (d:=some d) hgd h) h3 (by simp only [Gy,List.all_cons,List.all_nil,hx]; rfl)
theorem Amx (v:AV) (i:Oid) (e e':TypeId) (u:Ty) (xss:List (List u.D)) (hgd:Y7 gd (Ao tl)) (h:Aok (Ao tl) ((d,0),g+k) q (1,RV.out ⟨false,[(false,[.newM e e' u xss])]⟩ (E1 ((d,0),g+k)) [])) (hi:E1 ((d,0),g+k) 0=i) (hv:AV.own i (.slice u) 0 xss.length=v) (hn:Qe (g+k) ol=true) (h3:XW P G g (k+1) xs ((d,v) :: tl) ((i,some (.mat e i u xss)) :: (i,some (.pool e' u xss)) :: ol) Kf):XW P G g k (⟨some d,gd,q⟩ :: xs) tl ol Kf:=by
 subst hi hv;exact Ari 1 _ _ _ (Aya (d:=some d) hgd h) (Ay2 hn) h3
end
-- what arguments read as
section
variable {ol:List (Oid×Option Ob)} {n:Nat}
theorem Tv {α:Type} {g:List AV->Option α}:∀ {cs:List AV} {xs:List α},cs.length=xs.length->(∀ (k:Nat) (c:AV) (x:α),cs[k]? =some c->xs[k]? =some x->g [c]=some x)->Ka g 1 xs.length cs=some xs
 | [],[],_,_=>rfl
 | c :: cs,x :: xs,hl,h=>by
  have h0:=h 0 c x rfl rfl;have ih:=Tv (g:=g) (cs:=cs) (xs:=xs) (by simpa using hl) (fun k c x h1 h2=>h (k+1) c x h1 h2);simp only [List.length_cons,Ka,List.take_succ_cons,List.take_zero,List.drop_succ_cons,List.drop_zero,h0,ih]
 | [],_ :: _,hl,_=>by simp at hl
 | _ :: _,[],hl,_=>by simp at hl
theorem Avm {ob:Oid->Option Ob} {o p:Oid} {e1 e:TypeId} {u:Ty} {xss:List (List u.D)} {m len:Nat} (ho:ob o=some (.vec e1 1 m (hdL p u xss))) (hm:m=xss.length) (hk:∀ k row,xss[k]? =some row->ob (kid p k)=some (.arr e u row)) {t':Ty} (hl:len<=xss.length):Ad2 ob 1 (rdC ob (.slice u)) (.own o t' 0 len)=some (xss.take len):=by
 have h1:(((hdL p u xss).drop (0*1)).take (len*1))=hdL p u (xss.take len):=by
  simp only [Nat.zero_mul,List.drop_zero,Nat.mul_one];apply List.ext_getElem?;intro j;rw [List.getElem?_take,Ez,Ez,List.getElem?_take];split <;> rfl
 have hlen:(xss.take len).length=len:=by rw [List.length_take]; omega
 simp only [Ad2,ho];rw [if_pos ⟨trivial,by omega⟩,h1]
 have:=Tv (g:=rdC ob (.slice u)) (cs:=hdL p u (xss.take len)) (xs:=xss.take len) Df (fun k c x hc hx=>by
  rw [Ez,hx] at hc;obtain rfl:=osj hc;rw [List.getElem?_take] at hx;split at hx
  ·have:=hk k x hx;simp only [rdC,F7,this,Nat.zero_add,Nat.le_refl,if_true,Ty.eq?_self,Cr,List.drop_zero,List.take_length]
  ·cases hx)
 rw [hlen] at this;exact this
theorem Wd {ob:Oid->Option Ob} {o p:Oid} {e1 e:TypeId} {u:Ty} {xss:List (List u.D)} {len:Nat} (ho:ob o=some (.vec e1 1 xss.length (hdL p u xss))) (hk:∀ k row,xss[k]? =some row->ob (kid p k)=some (.arr e u row)) (hl:len=xss.length):gnd ob (n+1) (.own o (.slice u) 0 len)=some (.tree (.slice u) xss):=by
 subst hl;have:=Avm (t':=.slice u) ho rfl hk (Nat.le_refl _);rw [List.take_length] at this;simp only [gnd,ho,Ty.size,this,Option.map_some]
theorem Bn {p:Oid} {e:TypeId} {u:Ty} {xss:List (List u.D)} (h:Gx ol p=some (.pool e u xss)):∀ k row,xss[k]? =some row->Aj ol (kid p k)=some (.arr e u row):=fun _ _ hx=>Bw h hx
def Ak0 (θ:Oid->Oid) (ol0:List (Oid×Ob)) (i:Oid):Bool:=ol0.all fun q=>if q.2.isPool then !(i.1.1==(θ q.1).1.1&&(i.2==(θ q.1).2&&i.1.2 !=0)) else i !=θ q.1
theorem G4 {l:List (Oid×Oid)} {ob:Oid->Option Ob} {ol0:List (Oid×Ob)} {i:Oid} (hl:Wh l=true) (h0:Ix ol0=true) (h:Ak0 (B1 l) ol0 i=true):Ade ((nmL ol0).map (B1 l)) ob i=ob i:=by
 unfold Ade;rw [if_neg];intro hm;obtain ⟨j,hj,rfl⟩:=List.mem_map.1 hm;obtain ⟨q,hq,rfl⟩:=List.mem_map.1 hj;unfold Ak0 at h;rw [List.all_eq_true] at h;unfold Ix at h0;rw [List.all_eq_true] at h0;rcases Jw hq with ⟨p,e,u,xss,k,row,m1,m2,rfl⟩ | ⟨o,m1,m2,m3⟩
 ·have:=h _ m1;have hz:=h0 _ m1;simp only [Bool.and_eq_true,beq_iff_eq] at hz;rw [L2 hl hz.1] at this;simp [Ob.isPool,kid] at this
 ·have:=h _ m1;simp [m2] at this
theorem Th {l:List (Oid×Oid)} {ob:Oid->Option Ob} {ol0:List (Oid×Ob)} {p:Oid} {e:TypeId} {u:Ty} {xss:List (List u.D)} (hl:Wh l=true) (h0:Ix ol0=true) (hk:∀ k row,xss[k]? =some row->ob (kid p k)=some (.arr e u row)) (hn:(ol0.all fun q=> !((B1 l q.1).1.1==p.1.1&&((B1 l q.1).2==p.2)))=true):∀ k row,xss[k]? =some row->Ade ((nmL ol0).map (B1 l)) ob (kid p k)=some (.arr e u row):=by
 intro k row hx;rw [G4 hl h0,hk k row hx];unfold Ak0;rw [List.all_eq_true] at hn ⊢;intro q hq;have:=hn q hq;simp only [Bool.not_eq_true',Bool.and_eq_false_iff,beq_eq_false_iff_ne,ne_eq] at this;split
 ·simp only [Bool.not_eq_true',Bool.and_eq_false_iff,beq_eq_false_iff_ne,ne_eq,kid];rcases this with h | h
  ·exact .inl fun e=>h e.symm
  ·exact .inr (.inl fun e=>h e.symm)
 ·simp only [bne_iff_ne,ne_eq];intro e;rw [← e] at this;rcases this with h | h <;> exact h rfl
theorem A0j {ri rj:Rec} {di dj:List Oid} (h:Ayc [rj,ri] [dj,di] [(0,1)]=true):R1 ri rj di dj:=(Bc h).1
theorem Ar6 {l:List (Oid×Oid)} {i:Oid} {ol us:List (Oid×Ob)} (hB:Aqf ol us=true):∀ u∈Ox (B1 l) i ol us,u.1.2=i.2∨u.1∈(nmL ol).map (B1 l):=by
 intro u hu;rcases List.mem_append.1 hu with hu | hu
 ·obtain ⟨q,hq,rfl⟩:=List.mem_map.1 hu;exact .inr (List.mem_map.2 ⟨q.1,List.mem_map.2 ⟨q,hq,rfl⟩,rfl⟩)
 ·obtain ⟨q,hq,rfl⟩:=List.mem_map.1 hu;rcases Am0 hB q hq with h | ⟨h,h'⟩
  ·exact .inl (by simp [D5,h])
  ·exact .inr (List.mem_map.2 ⟨q.1,h',by simp [D5,h]⟩)
def Atk (l:List (Oid×Oid)) (i:Oid) (ol us:List (Oid×Ob)) (r:Rec) (d:List Oid):Bool:=Wh l&&(Ix ol&&(Aqf ol us&&((d.all fun x=>x.2 !=i.2&&Ak0 (B1 l) ol x)&&((r.2.2.all fun u=>u.1.2 !=i.2&&Ak0 (B1 l) ol u.1)&&r.1 !=2))))
theorem Ao1 {l:List (Oid×Oid)} {ol:List (Oid×Ob)} {i:Oid} (hl:Wh l=true) (h0:Ix ol=true) (h:Ak0 (B1 l) ol i=true):i∉(nmL ol).map (B1 l):=by
 intro hm;have:=G4 (ob:=fun _=>some (.map 0 .int [])) hl h0 h;unfold Ade at this;rw [if_pos hm] at this;cases this
theorem Afp {l:List (Oid×Oid)} {i:Oid} {ol us:List (Oid×Ob)} {r:Rec} {d:List Oid} (h:Atk l i ol us r d=true):(∀ u∈Ox (B1 l) i ol us,u.1∉d)∧(∀ u∈Ox (B1 l) i ol us,∀ v∈r.2.2,u.1≠v.1)∧r.1≠2:=by
 simp only [Atk,Bool.and_eq_true,bne_iff_ne,ne_eq] at h;obtain ⟨h1,h2,h3,h4,h5,h6⟩:=h;rw [List.all_eq_true] at h4 h5;refine ⟨fun u hu hd=>?_,fun u hu v hv e=>?_,h6⟩
 ·have:=h4 _ hd;simp only [Bool.and_eq_true,bne_iff_ne,ne_eq] at this;rcases Ar6 h3 u hu with h | h
  ·exact this.1 h
  ·exact Ao1 h1 h2 this.2 h
 ·have:=h5 _ hv;simp only [Bool.and_eq_true,bne_iff_ne,ne_eq] at this;rcases Ar6 h3 u hu with h | h
  ·exact this.1 (by rw [← e]; exact h)
  ·exact Ao1 h1 h2 this.2 (by rw [← e]; exact h)
theorem Uj {l:List (Oid×Oid)} {i:Oid} {ol us:List (Oid×Ob)} {v:AV} {rj:Rec} {di dj:List Oid} (h:Atk l i ol us rj dj=true):R1 (2,v,Ox (B1 l) i ol us) rj di dj:=by
 obtain ⟨h1,h2,h3⟩:=Afp h;exact .inr ⟨fun _=>h1,fun e=>absurd e h3,h2⟩
theorem Ru {l:List (Oid×Oid)} {i:Oid} {ol us:List (Oid×Ob)} {v:AV} {ri:Rec} {di dj:List Oid} (h:Atk l i ol us ri di=true):R1 ri (2,v,Ox (B1 l) i ol us) di dj:=by
 obtain ⟨h1,h2,h3⟩:=Afp h;exact .inr ⟨fun e=>absurd e h3,fun _=>h1,fun u hu v hv e=>h2 v hv u hu e.symm⟩
def Av8 (zs:List AV) (ob:Oid->Option Ob) (θ:Oid->Oid):List (Oid×Ob)->Prop
 | []=>True
 | q :: r=>(match q.2 with
  | .pool _ _ xss=>∀ k,k<xss.length->Reached zs ob (kid (θ q.1) k)
  | _=>Reached zs ob (θ q.1))∧Av8 zs ob θ r
theorem Bj {zs:List AV} {ob:Oid->Option Ob} {l:List (Oid×Oid)} (hl:Wh l=true):∀ {ol:List (Oid×Ob)},Ix ol=true->Av8 zs ob (B1 l) ol->∀ j∈nmL ol,Reached zs ob (B1 l j)
 | [],_,_,j,hj=>by cases hj
 | (p,o) :: r,h0,h,j,hj=>by
  simp only [Ix,List.all_cons,Bool.and_eq_true,beq_iff_eq] at h0;obtain ⟨⟨h1,_⟩,h2⟩:=h0;have ih:j∈nmL r->Reached zs ob (B1 l j):=fun hm=>Bj hl (ol:=r) (by simpa [Ix] using h2) h.2 j hm
  cases o with
  | pool e u xss =>
   simp only [nmL,exL,List.map_append,List.mem_append] at hj;rcases hj with hj | hj
   ·obtain ⟨q,hq,rfl⟩:=List.mem_map.1 hj;obtain ⟨⟨row,k⟩,hx,rfl⟩:=List.mem_map.1 hq;rw [List.mem_zipIdx_iff_getElem?] at hx;show Reached zs ob (B1 l (kid p k));rw [L2 hl h1];exact h.1 k (gSi.1 hx).1
   ·exact ih hj
  | _ =>
   simp only [nmL,exL,List.map_cons,List.mem_cons] at hj;rcases hj with rfl | hj
   ·exact h.1
   ·exact ih hj
theorem Ck {zs:List AV} {ob:Oid->Option Ob} {i:Oid} (h:(AV.nmsL zs).contains i=true):Reached zs ob i:=.arg (List.contains_iff_mem.1 h)
theorem Ii {zs:List AV} {ob:Oid->Option Ob} {k i:Oid} {ty:TypeId} {cs:List AV} (h1:Reached zs ob k) (h2:ob k=some (.cells ty cs)) (h:(AV.nmsL cs).contains i=true):Reached zs ob i:=.cells h1 h2 (List.contains_iff_mem.1 h)
theorem Ayy {p:Oid} {u:Ty} {xss:List (List u.D)} {k:Nat} (h:k<xss.length):kid p k∈AV.nmsL (hdL p u xss):=by
 have key:∀ cs:List AV,∀ c∈cs,∀ i∈c.nms,i∈AV.nmsL cs:=by
  intro cs
  induction cs with
  | nil=>intro c h; cases h
  | cons x r ih =>
   intro c hc i hi;rcases List.mem_cons.1 hc with rfl | hc
   ·exact List.mem_append_left _ hi
   ·exact List.mem_append_right _ (ih c hc i hi)
 refine key _ (.own (kid p k) u 0 xss[k].length) ?_ _ (List.mem_singleton.2 rfl);apply List.mem_iff_getElem?.2;exact ⟨k,by rw [Ez,gEg h]; rfl⟩
theorem K0 {zs:List AV} {ob:Oid->Option Ob} {o p:Oid} {e1:TypeId} {m:Nat} {u:Ty} {xss:List (List u.D)} (h1:Reached zs ob o) (h2:ob o=some (.vec e1 1 m (hdL p u xss))):∀ k,k<xss.length->Reached zs ob (kid p k):=fun _ hk=>.vec h1 h2 (Ayy hk)
end
theorem Pp {L:List Oid} {l:List (Oid×Oid)} {xs:List (Oid×Ob)} (h:(xs.all fun q=>L.contains (B1 l q.1))=true):∀ q∈xs,B1 l q.1∈L:=fun q hq=>by
 have:=List.all_eq_true.1 h q hq
 simpa using this
end Go.Proofs.YtpnofkjgeokdhaaDoor
namespace Go.Proofs.YtpnofkjgeokdhaaDoor
open Go.RowKit Go.Deep
def NeL (i:Oid):List Oid->Prop
 | []=>True
 | x :: r=>x≠i∧NeL i r
theorem Aye {L M:List Oid} {ob:Oid->Option Ob} {i:Oid} (hL:M=L) (h:NeL i L):Ade M ob i=ob i:=by
 subst hL;unfold Ade;rw [if_neg];intro hm
 induction M with
 | nil=>cases hm
 | cons x r ih =>
  rcases List.mem_cons.1 hm with rfl | hm
  ·exact h.1 rfl
  ·exact ih h.2 hm
theorem A03 {p:Oid} {j k:Nat} (h:j≠k):kid p j≠kid p k:=fun e=>h (H7 e)
theorem O2 {L:List Oid} {ob:Oid->Option Ob} {i:Oid} (h:i∈L):only L ob i=ob i:=if_pos h
theorem Aqk {f:Nat->AV} {ob:Oid->Option Ob} {d:Option Nat} {gd:Option (Nat×Bool)} {fo y:Opd} {ys:List Opd} {tys:List (List (Option Ty))} {i:Oid} {t:Ty} {off len:Nat} (n:Nat) (hy:ys[n]? =some y) (he:y.ev f=.own i t off len):i∈rdX f ob ⟨d,gd,.call fo ys tys⟩:=by
 refine List.mem_flatMap.2 ⟨y,List.mem_cons_of_mem _ (List.mem_of_getElem? hy),?_⟩;rw [he];show i∈Lf ob (7+1) (.own i t off len);unfold Lf;dsimp only;split <;> simp
theorem A0o {L:List Oid} {l:List (Oid×Oid)}:∀ q∈exL [],B1 l q.1∈L:=fun _ h=>by cases h
theorem A0y {L:List Oid} {l:List (Oid×Oid)} {i:Oid} {e:TypeId} {t:Ty} {xs:List t.D} {r:List (Oid×Ob)} (h:B1 l i∈L) (hr:∀ q∈exL r,B1 l q.1∈L):∀ q∈exL ((i,.arr e t xs) :: r),B1 l q.1∈L:=fun q hq=>by
 rcases List.mem_cons.1 hq with rfl | hq
 ·exact h
 ·exact hr q hq
theorem A18 {ob:Oid->Option Ob} {o:Oid} {e1:TypeId} {sz m n:Nat} {cs:List AV} (h:ob o=some (.vec e1 sz n cs)) (e:m=n):ob o=some (.vec e1 sz m cs):=by rw [e]; exact h
theorem Atl {α:Type} {xs:List α} {k:Nat} (h:k<=xs.length):k=(xs.take k).length:=by rw [List.length_take]; omega
theorem Ats {G:World->Prop} {S:St} {o:Oid} {e1:TypeId} {sz n k:Nat} {cs:List AV} (ho:S.ob o=some (.vec e1 sz n cs)) (hk:k<=n):WeakG G S ⟨S.tm,upd S.ob o (some (.vec e1 sz k (cs.take (k*sz)))),S.gen⟩:=by
 intro w0 B N a w hr;obtain ⟨σ,hm,hf,hB⟩:=hr.ex
 have was:∀ i x,upd S.ob o (some (.vec e1 sz k (cs.take (k*sz)))) i=some x->∃ y,S.ob i=some y:=fun i x hx=>by
  by_cases h:i=o
  ·subst h; exact ⟨_,ho⟩
  ·rw [A9 _ _ _ _ h] at hx; exact ⟨x,hx⟩
 have hL:Later σ σ (imm S.ob σ) (imm (upd S.ob o (some (.vec e1 sz k (cs.take (k*sz))))) σ) w w:=⟨fun _ _ h=>h,fun b _ hb i x c s hx hs=>by obtain ⟨y,hy⟩:=was i x hx; exact hb i y c s hy hs,fun _ _ _=>rfl,Nat.le_refl _⟩
 refine ⟨⟨σ,⟨hm.below,hm.inv,hm.gen,hm.lt,hm.cap,fun i j b c s c' s' x y hx hy e1 e2=>?_,fun i x l hx hl=>?_⟩,fun t=>AV.Rep.later hL _ _ (hf t),hB.trans hL⟩,hr.size,hr.defers,fun i hi=>?_⟩
 ·obtain ⟨x',hx'⟩:=was i x hx;obtain ⟨y',hy'⟩:=was j y hy;exact hm.inj i j b c s c' s' x' y' hx' hy' e1 e2
 ·by_cases h:i=o
  ·subst h;have hx:upd S.ob i (some (.vec e1 sz k (cs.take (k*sz)))) i=some x:=hx;rw [Bk] at hx;obtain rfl:=osj hx;obtain ⟨vs,p1,p2,p3,p4⟩:=hm.obs i _ l ho hl;refine ⟨vs.take (k*sz),p1.take hk (fun g cap e=>?_) (fun e=>?_),(AV.RepL.later hL _ _ p2).take _,fun v hv=>p3 v (List.mem_of_mem_take hv),p4⟩
   ·cases l with
    | nil=>cases e
    | at_ b c s=>cases e; rfl
   ·cases l with
    | nil=>rfl
    | at_ b c s=>cases e
  ·have hx:upd S.ob o (some (.vec e1 sz k (cs.take (k*sz)))) i=some x:=hx;rw [A9 _ _ _ _ h] at hx;exact (hm.obs i x l hx hl).later hL fun _ _ _ _=>rfl
 ·by_cases h:i=o
  ·subst h; exact hr.obg i (by rw [ho]; simp)
  ·have hi:upd S.ob o (some (.vec e1 sz k (cs.take (k*sz)))) i≠none:=hi;rw [A9 _ _ _ _ h] at hi;exact hr.obg i hi
theorem Aqs {G:World->Prop} {tl:List (Nat×AV)} {ol:List (Oid×Option Ob)} {g:Nat} (s:Nat) (o p:Oid) {e1 e:TypeId} {u:Ty} {xss:List (List u.D)} {n k:Nat} (hfl:u.flat=true) (ho:Aj ol o=some (.vec e1 1 n (hdL p u xss))) (hn:n=xss.length) (hp:Gx ol p=some (.pool e u xss)) (hk:k<=n) (hpo:(o.1.1==p.1.1&&o.2==p.2&&o.1.2 !=0)=false) (hog:(o.2==g)=false) (hfr:Qe g ((p,some (.pool e u [])) :: ol)=true) :
  WeakG G ⟨Ao tl,Aj ol,g⟩ ⟨Ao tl,Aj ((o,some (.mat e1 ((s,0),g) u (xss.take k))) :: (((s,0),g),some (.pool e u (xss.take k))) :: (p,some (.pool e u [])) :: (o,some (.vec e1 1 k ((hdL p u xss).take k))) :: ol),g+1⟩:=by
 have h1:WeakG G ⟨Ao tl,Aj ol,g⟩ ⟨Ao tl,Aj ((o,some (.vec e1 1 k ((hdL p u xss).take k))) :: ol),g⟩:=by
  have:=Ats (G:=G) (S:=⟨Ao tl,Aj ol,g⟩) ho hk;rw [Nat.mul_one] at this;rw [← Nk rfl];exact this
 refine h1.trans ?_;have hok:∀ j,kid p j≠o:=fun j e=>by rw [← e] at hpo; simp [kid] at hpo
 have hpool:Gx ((o,some (.vec e1 1 k ((hdL p u xss).take k))) :: ol) p=some (.pool e u xss):=by
  show (if p.1.1=o.1.1∧p.2=o.2∧o.1.2≠0 then none else Gx ol p)=_;rw [if_neg,hp];rintro ⟨a1,a2,a3⟩;rw [a1,a2] at hpo;simp [a3] at hpo
 refine K6 s o (fun j=>kid p j) [(p,some (.pool e u []))] hfl (by show Aj _ o=_; simp only [Aj]; rw [if_pos trivial]) (by rw [List.length_take]; omega) (fun j row hj=>?_) (fun a b _ _ hab=>H7 hab) hog ?_ (fun i hi=>?_)
 ·rw [List.getElem?_take] at hj ⊢;split at hj
  ·rename_i hlt;rw [if_pos hlt,Ez,hj];exact ⟨rfl,row,Bw hpool hj,Nat.le_refl _,(List.take_length).symm⟩
  ·cases hj
 ·simp only [Qe,List.all_append,List.all_cons,List.all_nil,Bool.and_true,Bool.and_eq_true,bne_iff_ne] at hfr ⊢;exact ⟨hfr.1,by simpa using hog,hfr.2⟩
 ·simp only [List.cons_append,List.nil_append,Jr];split
  ·exact .inl rfl
  ·rename_i h2;exact .inr ⟨rfl,fun j _ e=>h2 (by rw [e]; exact ⟨rfl,rfl,by simp [kid]⟩)⟩
theorem Aqa {G:World->Prop} {tl:List (Nat×AV)} {ol:List (Oid×Option Ob)} {g:Nat} (s:Nat) (o p:Oid) {e1 e:TypeId} {u:Ty} {xss:List (List u.D)} {k:Nat} (hfl:u.flat=true) (ho:Aj ol o=some (.vec e1 1 k ((hdL p u xss).take k))) (hp:Gx ol p=some (.pool e u xss)) (hk:k<=xss.length) (hog:(o.2==g)=false) (hfr:Qe g ((p,some (.pool e u [])) :: ol)=true) :
  WeakG G ⟨Ao tl,Aj ol,g⟩ ⟨Ao tl,Aj ((o,some (.mat e1 ((s,0),g) u (xss.take k))) :: (((s,0),g),some (.pool e u (xss.take k))) :: (p,some (.pool e u [])) :: ol),g+1⟩:=by
 refine K6 s o (fun j=>kid p j) [(p,some (.pool e u []))] hfl ho (by rw [List.length_take]; omega) (fun j row hj=>?_) (fun a b _ _ hab=>H7 hab) hog hfr (fun i hi=>?_)
 ·rw [List.getElem?_take] at hj ⊢;split at hj
  ·rename_i hlt;rw [if_pos hlt,Ez,hj];exact ⟨rfl,row,Bw hp hj,Nat.le_refl _,(List.take_length).symm⟩
  ·cases hj
 ·simp only [List.cons_append,List.nil_append,Jr];split
  ·exact .inl rfl
  ·rename_i h2;exact .inr ⟨rfl,fun j _ e=>h2 (by rw [e]; exact ⟨rfl,rfl,by simp [kid]⟩)⟩
section
variable {f:Nat->AV} {ob:Oid->Option Ob} {n:Nat} {d:Option Nat}
theorem At7 {sz:Nat} {x hi mx:Opd} {i:Oid} {t:Ty} {len N:Nat} {e:TypeId} {cs:List AV} {kh km:IntKind} {h m:Int} {j:Nat} (hx:x.ev f=.own i t 0 len) (hob:ob i=some (.vec e 1 N cs)) (hh:hi.ev f=.int kh h) (hm:mx.ev f=.int km m) (hs:t.size=sz) (hb:0<=h∧h<=m∧m<=(len:Int)) (hj:h.toNat=j) (hk:j<=N) :
  Br n ⟨d,none,.slice sz x none (some hi) (some mx)⟩ f ob=some (2,.own ((d.getD 0,0),n) t 0 j,[(i,none),(((d.getD 0,0),n),some (.vec e 1 j (cs.take j)))]):=by
 subst hj;simp [Br,ev,Zy,Ly,Hw,hx,hob,hh,hm,hs,hb,Anq,hk,AV.un]
end
end Go.Proofs.YtpnofkjgeokdhaaDoor
namespace Go.Proofs.YtpnofkjgeokdhaaDoor
open Go.RowKit Go.Deep
abbrev T4:Ty:=.pair .int (.pair .int (.pair .int .int))
section
variable {P:Program} {G:World->Prop} {g k d:Nat} {gd:Option (Nat×Bool)} {q:Q} {xs:List X} {tl:List (Nat×AV)} {ol:List (Oid×Option Ob)} {bad:List (Nat×Nat)} {ra:List Rec} {da:List (List Oid)} {Kf:List (Nat×AV)->List (Oid×Option Ob)->Prop}
theorem dz0 (v:AV) (h3:XD P G bad g (k+1) xs ((d,v) :: tl) ol ((0,v,[]) :: ra) ((rdX (Ao tl) (Aj ol) ⟨some d,gd,q⟩) :: da) Kf) (h:Br (g+k) ⟨some d,gd,q⟩ (Ao tl) (only (rdX (Ao tl) (Aj ol) ⟨some d,gd,q⟩) (Aj ol))=some (0,v,[]):=by kernel_rfl):XD P G bad g k (⟨some d,gd,q⟩ :: xs) tl ol ra da Kf:=ds0 v h h3
theorem dzl (v:AV) (h3:XD P G bad g (k+1) xs ((d,v) :: tl) ol ((1,v,[]) :: ra) ((rdX (Ao tl) (Aj ol) ⟨some d,gd,q⟩) :: da) Kf) (h:Br (g+k) ⟨some d,gd,q⟩ (Ao tl) (only (rdX (Ao tl) (Aj ol) ⟨some d,gd,q⟩) (Aj ol))=some (1,v,[]):=by kernel_rfl):XD P G bad g k (⟨some d,gd,q⟩ :: xs) tl ol ra da Kf:=dsl v h h3
theorem zs {s:Nat} {b c:Bool} (hc:c= !b) (h3:XW P G g (k+1) xs ((d,.tup []) :: tl) ol Kf) (hs:Ao tl s=.bool c:=by kernel_rfl):XW P G g k (⟨some d,some (s,b),q⟩ :: xs) tl ol Kf:=rs0 (.tup []) (A1b hs hc) h3
theorem zc {fo:Opd} {ys:List Opd} {tys:List (List (Option Ty))} {F:FuncId} {rv:RV} {args:List AV} (v:AV) (us:List (Oid×Option Ob)) (zs:List AV) (hc:A0 P G F args rv) (h3:XW P G g (k+1) xs ((d,v) :: tl) (us.reverseAux ol) Kf) (h1:T6 (gnd (Aj ol) 8) zs=some zs:=by kernel_rfl) (hb:Be P F=true:=by kernel_rfl) (hfo:fo.ev (Ao tl)=.fn F []:=by kernel_rfl) (hz:(ys++([]:List AV).map Opd.cst).map (Opd.ev (Ao tl))=zs:=by kernel_rfl) (hn:U2 tys zs=args:=by kernel_rfl) (hr:rv.out (E1 ((d,0),g+k)) zs=(v,us):=by kernel_rfl) (hx:Gy us=true:=by rfl) (hni:rv.noI=true:=by kernel_rfl):XW P G g k (⟨some d,none,.call fo ys tys⟩ :: xs) tl ol Kf:=Cm (caps:=[]) (args0:=zs) v us zs args trivial h1 hc hb h3 hfo hz hn hr hx hni
end
abbrev sI:Ty:=.slice .int
abbrev LL:=List (List Int)
abbrev an (n:Nat):AV:=.int .i64 n
abbrev tI (x:List Int):AV:=.tree .int x
abbrev tS (x:List (List Int)):AV:=.tree (.slice .int) x
abbrev oI (a b n:Nat):AV:=.own (oi a b) .int 0 n
abbrev oS (a b n:Nat):AV:=.own (oi a b) (.slice .int) 0 n
abbrev nI (a b:Nat) (x:List Int):Oid×Option Ob:=(oi a b,some (.arr 3 .int x))
abbrev xm (d s:Nat):X:=⟨some d,none,.i (.mov (.tmp s))⟩
abbrev xl (d s:Nat):X:=⟨some d,none,.i (.ld true 1 (.tmp s))⟩
abbrev xf (d k s:Nat):X:=⟨some d,none,.i (.fld k (.tmp s))⟩
abbrev xx (d z a b:Nat):X:=⟨some d,none,.i (.idx z (.tmp a) (.tmp b))⟩
abbrev xn1 (d s:Nat):X:=⟨some d,none,.i (.len (.tmp s))⟩
abbrev xa (d s:Nat):X:=⟨some d,none,.i (.bin .add (.tmp s) (.cst (.int .i64 1)))⟩
abbrev xs1 (d a b:Nat):X:=⟨some d,none,.i (.bin .lss (.tmp a) (.tmp b))⟩
section
variable {P:Program} {G:World->Prop} {g k d:Nat} {gd:Option (Nat×Bool)} {q:Q} {xs:List X} {tl:List (Nat×AV)} {ol:List (Oid×Option Ob)} {bad:List (Nat×Nat)} {ra:List Rec} {da:List (List Oid)} {Kf:List (Nat×AV)->List (Oid×Option Ob)->Prop}
theorem dzc {fo:Opd} {ys:List Opd} {tys:List (List (Option Ty))} {F:FuncId} {rv:RV} {args:List AV} (v:AV) (us:List (Oid×Option Ob)) (zs:List AV) (hc:A0 P G F args rv) (h3:XD P G bad g (k+1) xs ((d,v) :: tl) (us.reverseAux ol) ((1,v,us) :: ra) ((rdX (Ao tl) (Aj ol) ⟨some d,none,.call fo ys tys⟩) :: da) Kf) (h1:T6 (gnd (only (rdX (Ao tl) (Aj ol) ⟨some d,none,.call fo ys tys⟩) (Aj ol)) 8) zs=some zs:=by kernel_rfl) (hb:Be P F=true:=by kernel_rfl) (hfo:fo.ev (Ao tl)=.fn F []:=by kernel_rfl) (hz:(ys++([]:List AV).map Opd.cst).map (Opd.ev (Ao tl))=zs:=by kernel_rfl) (hn:U2 tys zs=args:=by kernel_rfl) (hr:rv.out (E1 ((d,0),g+k)) zs=(v,us):=by kernel_rfl) (hx:Gy us=true:=by rfl) (hni:rv.noI=true:=by kernel_rfl):XD P G bad g k (⟨some d,none,.call fo ys tys⟩ :: xs) tl ol ra da Kf:=Lg (caps:=[]) (args0:=zs) v us zs args trivial h1 hc hb h3 hfo hz hn hr hx hni
theorem zI {sz:Nat} {x i:Opd} (t:Ty) {zs:List t.D} {y:t.D} {j:Nat} (hy:zs[j]? =some y) (h3:XW P G g (k+1) xs ((d,.telt none t y 0) :: tl) ol Kf) (hx:(x.ev (Ao tl)).un=.tree t zs:=by kernel_rfl) (hi:i.ev (Ao tl)=.int .i64 (j:Int):=by kernel_rfl) (hs:sz=t.size:=by rfl) (he:(x.ev (Ao tl)).tag=none:=by kernel_rfl):XW P G g k (⟨some d,none,.i (.idx sz x i)⟩ :: xs) tl ol Kf:=rs0 _ (Aqq hx hi hs (Int.natCast_nonneg _) rfl hy he) h3
theorem dzI {sz:Nat} {x i:Opd} (t:Ty) {zs:List t.D} {y:t.D} {j:Nat} (hy:zs[j]? =some y) (h3:XD P G bad g (k+1) xs ((d,.telt none t y 0) :: tl) ol ((0,.telt none t y 0,[]) :: ra) ((rdX (Ao tl) (Aj ol) ⟨some d,none,.i (.idx sz x i)⟩) :: da) Kf) (hx:(x.ev (Ao tl)).un=.tree t zs:=by kernel_rfl) (hi:i.ev (Ao tl)=.int .i64 (j:Int):=by kernel_rfl) (hs:sz=t.size:=by rfl) (he:(x.ev (Ao tl)).tag=none:=by kernel_rfl):XD P G bad g k (⟨some d,none,.i (.idx sz x i)⟩ :: xs) tl ol ra da Kf:=ds0 _ (Aqq hx hi hs (Int.natCast_nonneg _) rfl hy he) h3
theorem zO {sz:Nat} {x i:Opd} (o:Oid) (t:Ty) (len:Nat) {j:Nat} (hl:j<len) (h3:XW P G g (k+1) xs ((d,.elt o j 0) :: tl) ol Kf) (hx:x.ev (Ao tl)=.own o t 0 len:=by kernel_rfl) (hi:i.ev (Ao tl)=.int .i64 (j:Int):=by kernel_rfl) (hs:sz=t.size:=by rfl):XW P G g k (⟨some d,none,.i (.idx sz x i)⟩ :: xs) tl ol Kf:=rs0 _ (Aq5 hx hi hs (Int.natCast_nonneg _) rfl hl) h3
theorem dzO {sz:Nat} {x i:Opd} (o:Oid) (t:Ty) (len:Nat) {j:Nat} (hl:j<len) (h3:XD P G bad g (k+1) xs ((d,.elt o j 0) :: tl) ol ((0,.elt o j 0,[]) :: ra) ((rdX (Ao tl) (Aj ol) ⟨some d,none,.i (.idx sz x i)⟩) :: da) Kf) (hx:x.ev (Ao tl)=.own o t 0 len:=by kernel_rfl) (hi:i.ev (Ao tl)=.int .i64 (j:Int):=by kernel_rfl) (hs:sz=t.size:=by rfl):XD P G bad g k (⟨some d,none,.i (.idx sz x i)⟩ :: xs) tl ol ra da Kf:=ds0 _ (Aq5 hx hi hs (Int.natCast_nonneg _) rfl hl) h3
theorem zE {x:Opd} (i:Oid) {ws:List Int} {j:Nat} {z:Int} (hz:ws[j]? =some z) (h3:XW P G g (k+1) xs ((d,.int .i64 z) :: tl) ol Kf) (hx:x.ev (Ao tl)=.elt i j 0:=by kernel_rfl) (hob:Aj ol i=some (.arr 3 .int ws):=by kernel_rfl):XW P G g k (⟨some d,none,.i (.ld true 1 x)⟩ :: xs) tl ol Kf:=rsl _ (Mu (k:=0) (t:=.int) hx hob hz rfl) h3
theorem dzE {x:Opd} (i:Oid) {ws:List Int} {j:Nat} {z:Int} (hz:ws[j]? =some z) (h3:XD P G bad g (k+1) xs ((d,.int .i64 z) :: tl) ol ((1,.int .i64 z,[]) :: ra) ((rdX (Ao tl) (Aj ol) ⟨some d,none,.i (.ld true 1 x)⟩) :: da) Kf) (hx:x.ev (Ao tl)=.elt i j 0:=by kernel_rfl) (hob:only (rdX (Ao tl) (Aj ol) ⟨some d,none,.i (.ld true 1 x)⟩) (Aj ol) i=some (.arr 3 .int ws):=by kernel_rfl):XD P G bad g k (⟨some d,none,.i (.ld true 1 x)⟩ :: xs) tl ol ra da Kf:=dsl _ (Mu (k:=0) (t:=.int) hx hob hz rfl) h3
theorem zS {x y:Opd} (i:Oid) {ws:List Int} {j:Nat} {z:Int} (z1:Int) (hz:ws[j]? =some z) (h3:XW P G g (k+1) xs tl ((i,some (.arr 3 .int (ws.set j z1))) :: (i,none) :: ol) Kf) (hx:x.ev (Ao tl)=.elt i j 0:=by kernel_rfl) (hob:Aj ol i=some (.arr 3 .int ws):=by kernel_rfl) (hy:y.ev (Ao tl)=.int .i64 z1:=by kernel_rfl):XW P G g k (⟨none,none,.st true 1 x y⟩ :: xs) tl ol Kf:=Ame _ _ _ (Zm (k:=0) (t:=.int) (cs:=[.int .i64 z1]) (x1:=z1) hx hob hz (by rw [hy]; rfl) rfl) h3
theorem dzS {x y:Opd} (i:Oid) {ws:List Int} {j:Nat} {z:Int} (z1:Int) (hz:ws[j]? =some z) (h3:XD P G bad g (k+1) xs tl ((i,some (.arr 3 .int (ws.set j z1))) :: (i,none) :: ol) ((2,.any,[(i,none),(i,some (.arr 3 .int (ws.set j z1)))]) :: ra) ((rdX (Ao tl) (Aj ol) ⟨none,none,.st true 1 x y⟩) :: da) Kf) (hx:x.ev (Ao tl)=.elt i j 0:=by kernel_rfl) (hob:only (rdX (Ao tl) (Aj ol) ⟨none,none,.st true 1 x y⟩) (Aj ol) i=some (.arr 3 .int ws):=by kernel_rfl) (hy:y.ev (Ao tl)=.int .i64 z1:=by kernel_rfl):XD P G bad g k (⟨none,none,.st true 1 x y⟩ :: xs) tl ol ra da Kf:=K7 _ _ _ (Zm (k:=0) (t:=.int) (cs:=[.int .i64 z1]) (x1:=z1) hx hob hz (by rw [hy]; rfl) rfl) h3
theorem zA {x y:Opd} {j:Nat} (h:j+1<4611686018427387904) (h3:XW P G g (k+1) xs ((d,.int .i64 ((j+1:Nat):Int)) :: tl) ol Kf) (hx:x.ev (Ao tl)=.int .i64 j:=by kernel_rfl) (hy:y.ev (Ao tl)=.int .i64 1:=by kernel_rfl):XW P G g k (⟨some d,none,.i (.bin .add x y)⟩ :: xs) tl ol Kf:=rs0 _ (A1s hx hy h) h3
end
section
variable {n:Nat} {d:Option Nat} {f:Nat->AV} {ob:Oid->Option Ob}
theorem zi {sz:Nat} {x i:Opd} {t:Ty} {xs:List t.D} {y:t.D} {k:IntKind} {m:Int} {j:Nat} (h0:0<=m) (hy:xs[j]? =some y) (hx:(x.ev f).un=.tree t xs:=by kernel_rfl) (hi:i.ev f=.int k m:=by kernel_rfl) (hs:sz=t.size:=by rfl) (hj:m.toNat=j:=by rfl) {e:Option (Nat->Prop)} (he:(x.ev f).tag=e:=by kernel_rfl):Br n ⟨d,none,.i (.idx sz x i)⟩ f ob=some (0,.telt e t y 0,[]):=Aqq hx hi hs h0 hj hy he
theorem zo {sz:Nat} {x i:Opd} {t:Ty} {o:Oid} {len:Nat} {k:IntKind} {m:Int} {j:Nat} (h0:0<=m) (hl:j<len) (hx:x.ev f=.own o t 0 len:=by kernel_rfl) (hi:i.ev f=.int k m:=by kernel_rfl) (hs:sz=t.size:=by rfl) (hj:m.toNat=j:=by rfl):Br n ⟨d,none,.i (.idx sz x i)⟩ f ob=some (0,.elt o j 0,[]):=Aq5 hx hi hs h0 hj hl
theorem zg {s:Nat} {b c:Bool} {q:Q} {r:Option Rec} (hc:c=b) (hs:f s=.bool c:=by kernel_rfl) (h:Br n ⟨d,none,q⟩ f ob=r:=by kernel_rfl):Br n ⟨d,some (s,b),q⟩ f ob=r:=P3 hs hc h
theorem zT {c x y:Opd} {b:Bool} (hb:b=true) (h:c.ev f=.bool b:=by kernel_rfl):Br n ⟨d,none,.i (.pick c x y)⟩ f ob=some (0,x.ev f,[]):=Ayt h hb
theorem zF {c x y:Opd} {b:Bool} (hb:b=false) (h:c.ev f=.bool b:=by kernel_rfl):Br n ⟨d,none,.i (.pick c x y)⟩ f ob=some (0,y.ev f,[]):=Ayr h hb
theorem zl {vs:List Value} {c:AV} {l:RL} (h:Za ob c=some l:=by kernel_rfl):LeafR vs ob c l:=A2i h
end
theorem zj {α:Type} {a b:α} (h:some a=some b):a=b:=osj h
theorem wr_ {G:World->Prop} {S:St} {K:St->Prop} (h:K S):∃ S',WeakG G S S'∧K S':=⟨S,WeakG.refl _,h⟩
end Go.Proofs.YtpnofkjgeokdhaaDoor
namespace Go.Proofs.YtpnofkjgeokdhaaDoor
open Go.RowKit Go.Deep
inductive Ctl (σ ρ:Type) where
 | next (s:σ)
 | out (r:ρ)
def Ctl.then {σ β:Type} (k:σ->Option β):Ctl σ β->Option β
 | .next t=>k t
 | .out r=>some r
section
variable {α β σ τ ρ:Type}
def og (c:Prop) [Decidable c] (k:Option α):Option α:=if c then k else none
theorem Am {c:Prop} [Decidable c] {k:Option α} {r:α} (h:og c k=some r):c∧k=some r:=by
 unfold og at h;split at h
 ·rename_i hc; exact ⟨hc,h⟩
 ·cases h
theorem Ak {c:Prop} [Decidable c] (h:c) (k:Option α):og c k=k:=if_pos h
theorem Ad {o:Option α} {f:α->Option β} {b:β} (h:o.bind f=some b):∃ a,o=some a∧f a=some b:=Option.bind_eq_some_iff.1 h
theorem Af {c:Bool} {a b:Option α} {r:α} (h:cond c a b=some r):(c=true∧a=some r)∨(c=false∧b=some r):=by
 cases c
 ·exact .inr ⟨rfl,h⟩
 ·exact .inl ⟨rfl,h⟩
def Sn (a:Option (Ctl τ β)) (k:τ->Option β):Option β :=
 a.bind (Ctl.then k)
theorem Auc {a:Option (Ctl τ β)} {k:τ->Option β} {r:β} (h:Sn a k=some r):∃ v,a=some v∧Ctl.then k v=some r:=Ad h
def Aw (body:σ->Option (Ctl σ ρ)):Nat->σ->Option ρ
 | 0,_=>none
 | n+1,s=>(body s).bind (Ctl.then (Aw body n))
theorem Aqn {body:σ->Option (Ctl σ ρ)} {n:Nat} {s:σ} {v:ρ} (h:Aw body (n+1) s=some v):∃ c,body s=some c∧Ctl.then (Aw body n) c=some v:=Ad h
theorem Aqm {body:σ->Option (Ctl σ ρ)} {s:σ} {v:ρ} (h:Aw body 0 s=some v):False:=by cases h
def E2 (xs:List α) (n:Int):Option α:=if 0<=n then xs[n.toNat]? else none
theorem As {xs:List α} {k:Nat} {x:α} (h:xs[k]? =some x):k<xs.length:=(gSi.1 h).1
theorem Ba {xs:List α} {n:Int} {x:α} (h:E2 xs n=some x):0<=n∧n<xs.length∧xs[n.toNat]? =some x:=by
 unfold E2 at h;split at h
 ·rename_i h0;have:=As h;exact ⟨h0,by omega,h⟩
 ·cases h
theorem C5 {xs:List α} {n:Int} (h:0<=n):E2 xs n=xs[n.toNat]?:=if_pos h
end
section
variable {P:Program} {G:World->Prop} {σ τ β ρ:Type}
theorem Ar {x y:AC} {R:AE->St->Prop} {S:St} {A:Option τ} {k:τ->Option β} {r:β} (h:A.bind k=some r) (J:τ->St->Prop) (h1:∀ t,A=some t->awp P G x (P5 (fun S'=>∃ S'',WeakG G S' S''∧J t S'') R) S) (h2:∀ t S'',J t S''->k t=some r->awp P G y R S''):awp P G (.seq x y) R S:=by
 obtain ⟨t,ha,hk⟩:=Ad h;exact Alf (J t) (h1 t ha) fun S'' hj=>h2 t S'' hj hk
theorem Hz {x y:AC} {R:AE->St->Prop} {S:St} {A:Option (Ctl τ β)} {k:τ->Option β} {r:β} (h:Sn A k=some r) (J:τ->St->Prop)
  (h1:∀ v,A=some v->Ctl.then k v=some r->awp P G x (P5 (fun S'=>∃ t S'',v=.next t∧WeakG G S' S''∧J t S'') R) S) (h2:∀ t S'',J t S''->k t=some r->awp P G y R S''):awp P G (.seq x y) R S:=by
 obtain ⟨v,ha,hk⟩:=Auc h;refine Alf (fun S''=>∃ t,v=.next t∧J t S'') (F1 (fun e S' hq=>?_) (h1 v ha hk)) fun S'' ⟨t,hv,hj⟩=>?_
 ·cases e with
  | normal=>obtain ⟨t,S'',hv,hw,hj⟩:=hq; exact ⟨S'',hw,t,hv,hj⟩
  | exit id=>exact hq
  | ret=>exact hq
 ·subst hv; exact h2 t S'' hj hk
theorem Av {a:AC} {R:AE->St->Prop} {S:St} {body:σ->Option (Ctl σ ρ)} {fuel:Nat} {s0:σ} {v:ρ} (h:Aw body fuel s0=some v) (J:σ->St->Prop) (h0:∃ S0,WeakG G S S0∧J s0 S0)
  (h1:∀ n s S1 c,J s S1->body s=some c->Ctl.then (Aw body n) c=some v->awp P G a (P5 (fun S2=>∃ s' S3,WeakG G S2 S3∧J s' S3∧Aw body n s'=some v) R) S1):awp P G (.loop a) R S:=by
 obtain ⟨S0,hw,hj⟩:=h0;refine Auy (fun (p:Nat×σ) S=>Aw body p.1 p.2=some v∧J p.2 S) (·.1) ⟨(fuel,s0),S0,hw,h,hj⟩ ?_;rintro ⟨n,s⟩ S1 ⟨hl,hj⟩;cases n with
 | zero=>exact (Aqm hl).elim
 | succ n =>
  obtain ⟨c,hc,hn⟩:=Aqn hl;refine F1 (fun e S2 hq=>?_) (h1 n s S1 c hj hc hn);cases e with
  | normal=>obtain ⟨s',S3,hw,hj,hl⟩:=hq; exact ⟨(n,s'),S3,hw,⟨hl,hj⟩,Nat.lt_succ_self n⟩
  | exit id=>exact hq
  | ret=>exact hq
end
theorem Dp (n:Nat):0<=(n:Int):=by omega
end Go.Proofs.YtpnofkjgeokdhaaDoor

namespace Go.Proofs.YtpnofkjgeokdhaaDoor
open Go.RowKit Go.Deep
def Py (a0:Int):Option Bool:=some (isF a0)
def Aeb (r:Bool):RV:=⟨false,[(false,[.sc (.bool r)])]⟩
theorem Io {a0:Int} {r:Bool} (h:Py a0=some r):A0 Tryd.prog Tab 49 [.int .i64 a0] (Aeb r):=by
 obtain rfl:=osj h;intro w im vs hG hr;obtain ⟨u1,_,rfl,h1,h2⟩:=hr;obtain rfl:_=[]:=h2;obtain rfl:u1=.int .i64 a0:=h1;refine (Apl a0 w (hG w (Below.refl _ _))).mono ?_;rintro e w' ⟨rfl,rfl⟩;exact ⟨_,rfl,Below.refl _ _,[_],[],⟨_,[],rfl,rfl,rfl,rfl,rfl⟩,⟨trivial,fun _=>rfl⟩,rfl⟩
end Go.Proofs.YtpnofkjgeokdhaaDoor
namespace Go.Proofs.YtpnofkjgeokdhaaDoor
open Go.RowKit Go.Deep
set_option maxRecDepth 4000
def Xy:AC :=
 (.seq (rg [xo 4 (qm (ci 0))])
 (.seq (rg [xm 5 1,xm 6 0,xn1 7 6,xo 8 (qb .sub (tm 5) (tm 7)),xm 1 8])
 (.seq (.seq (rg [xm 9 1,xo 10 (qb .lss (tm 9) (ci 0))])
 (.cond (tm 10)
  (.seq (rg [xo 4 (qm (ci (-1)))])
  .ret)
  .skip))
 (.seq (rg [xm 11 1,xm 4 11])
 .ret))))
def Ait:List Res:=[.tmp 4]
theorem Aja:At Tryd.prog Tryd.f10=some (Xy,Ait):=by kernel_rfl
def Kb (a0:List Int) (a1:Int):Option Int :=
 cond (decide (wI (a1 - (a0.length:Int))<0))
 (some (-1))
 (some (wI (a1 - (a0.length:Int))))
def Af6 (r:Int):RV:=⟨false,[(false,[.sc (.int .i64 r)])]⟩
theorem Aev {a0:List Int} {a1 r:Int} (h:Kb a0 a1=some r):A0 Tryd.prog Tab 10 [tI a0,ai a1] (Af6 r):=by
 refine A1 (by kernel_rfl) Tryd.func10 Aja (n:=12) (by kernel_rfl) (by simp) (tl:=[(0,tI a0),(1,ai a1)]) rfl ?_;unfold Xy;unfold Kb at h;refine Al ?_;refine Al ?_;refine Ab ?_;refine Al ?_;rcases Af h with ⟨q5,h⟩ | ⟨q5,h⟩
 ·have q5_:=of_decide_eq_true q5;refine Ah q5 ?_;refine Al ?_;refine An (tr_ ?_);obtain rfl:=zj h;exact Bo [ai (-1)] (A2 rfl zl A5)
 have q5_:=of_decide_eq_false q5;refine Ag q5 ?_;refine Ai (tn_ ?_);refine wr_ ?_;refine Al ?_;refine An ?_;obtain rfl:=zj h;exact Bo [ai (wI (a1 - (a0.length:Int)))] (A2 rfl zl A5)
def Se:AC :=
 (.seq (.seq (rg [xm 8 4,xm 9 0,xn1 10 9,xs1 11 8 10])
 (.cond (tm 11)
  .skip
  (.exit 0)))
 (.seq (.block 1 (rg [xm 14 3,xm 15 4,xm 16 0,xm 17 4,xx 18 1 16 17,xl 19 18,xx 20 1 14 15,xn (qs (tm 20) (tm 19))]))
 (rg [xm 12 4,xa 13 12,xm 4 13])))
def Yd:AC :=
 (.seq (rg [xo 2 (qm (.cst .nils))])
 (.seq (rg [xm 5 0,xn1 6 5,xo 7 (.make 3 .int 8 (tm 6) (tm 6)),xm 3 7])
 (.seq (.seq (rg [xo 4 (qm (ci 0))])
 (.block 0 (.loop Se)))
 (.seq (rg [xm 21 3,xm 2 21])
 .ret))))
def Ajx:List Res:=[.tmp 2]
theorem Aj7:At Tryd.prog Tryd.f14=some (Yd,Ajx):=by kernel_rfl
def Hd (a0:List Int) (u0:Nat) (u1:List Int):Option (Ctl (Nat×List Int) (List Int)) :=
 cond (decide ((u0:Int)<(a0.length:Int)))
 (Option.bind (a0[u0]?) fun x11 =>
 Option.bind (u1[u0]?) fun x12 =>
 og (u0+1<4611686018427387904) <|
 some (Ctl.next (u0+1,u1.set u0 x11)))
 (some (Ctl.out u1))
def Kr (a0:List Int):Option (List Int) :=
 og (0<=(a0.length:Int)∧(a0.length:Int)<=(a0.length:Int)∧(a0.length:Int)<=1073741824∧(8:Int)*(a0.length:Int)<=140737488355328) <|
Option.bind (Aw (fun s_:Nat×List Int=>Hd a0 s_.1 s_.2) 4611686018427387904 (0,List.replicate a0.length (0:Int))) fun u0 =>
some u0
def Aik (r:List Int):RV:=⟨false,[(false,[.new 3 .int r])]⟩
theorem Aet {a0 r:List Int} (h:Kr a0=some r):A0 Tryd.prog Tab 14 [tI a0] (Aik r):=by
 refine A1 (by kernel_rfl) Tryd.func14 Aj7 (n:=22) (by kernel_rfl) (by simp) (tl:=[(0,tI a0)]) rfl ?_;unfold Yd;unfold Kr at h;refine Al ?_;refine Ab ?_;obtain ⟨g3,h⟩:=Am h;refine Aa 6 ?_;refine rsB 2 ?_;refine rs1 (oI 7 4 a0.length) (oi 7 4) (.arr 3 .int (List.replicate a0.length (0:Int))) (Lu (t:=.int) (k:=.i64) (k':=.i64) (m:=(a0.length:Int)) (m':=(a0.length:Int)) (by kernel_rfl) (by kernel_rfl) g3 rfl) ?_;refine rsB 1 ?_;refine Aq (tn_ ?_);refine wr_ ?_;refine Ar h (fun (u2:List Int) S_=>S_=⟨Ao [(3,oI 0 1 u2.length)],Aj (Ap [(oi 0 1,.arr 3 .int u2)]),2⟩) ?_ ?_
 ·intro v_ h;refine Al ?_;refine Ae ?_;refine Av h (fun t_ S_=>∃ (u1:Nat),∃ (u0:List Int),t_=(u1,u0)∧S_=⟨Ao [(0,tI a0),(3,oI 0 1 u0.length),(4,an u1)],Aj (Ap [(oi 0 1,.arr 3 .int u0)]),2⟩) ⟨_,(A8 3 (oI 7 4 a0.length) (oI 7 4 ((List.replicate a0.length (0:Int)).length)) (by kernel_rfl) (congrArg (fun z_=>((oI 7 4 z_):AV)) (List.length_replicate.symm:a0.length=(List.replicate a0.length (0:Int)).length))).trans (Ac [(oi 0 1,oi 7 4)]),⟨0,List.replicate a0.length (0:Int),rfl,rfl⟩⟩ ?_;rintro n_ _ _ c_ ⟨u1,u0,rfl,rfl⟩ h hn6
  (try dsimp only at h);unfold Hd at h;unfold Se;refine Ab ?_;refine Al ?_;rcases Af h with ⟨q9,h⟩ | ⟨q9,h⟩
  ·have q9_:=of_decide_eq_true q9;refine Ah q9 ?_;refine Ai (tn_ ?_);refine wr_ ?_;refine Ab ?_;refine Ae ?_;obtain ⟨x11,e11,h⟩:=Ad h;obtain ⟨x12,e12,h⟩:=Ad h;refine Aa 14 ?_;refine rsB 4 ?_;refine zI .int e11 ?_;refine rsB 1 ?_;refine zO (oi 0 1) .int u0.length (As e12) ?_;refine zS (oi 0 1) (x11) e12 ?_;refine Aq (bn_ (tn_ ?_));refine wr_ ?_;obtain ⟨g13,h⟩:=Am h;refine Aa 17 ?_;refine rsB 1 ?_;refine zA g13 ?_;refine rsB 1 ?_;refine Aq (tn_ ?_);obtain rfl:=zj h;exact ⟨(u1+1,u0.set u1 x11),_,(A8 3 (oI 0 1 u0.length) (oI 0 1 ((u0.set u1 x11).length)) (by kernel_rfl) (congrArg (fun z_=>((oI 0 1 z_):AV)) (((rfl:u0.length=u0.length).trans List.length_set.symm):u0.length=(u0.set u1 x11).length))).trans (Ac []),⟨u1+1,u0.set u1 x11,rfl,rfl⟩,hn6⟩
  have q9_:=of_decide_eq_false q9;refine Ag q9 ?_;refine Au (te_ (te_ (be_ (tn_ ?_))));obtain rfl:=zj h;have h:=hn6
  (try dsimp only at h);obtain rfl:=zj h;exact ⟨_,Ac [],rfl⟩
 rintro u2 _ rfl h
 (try dsimp only at h);refine Al ?_;refine An ?_;obtain rfl:=zj h;exact Bo [oI 0 1 u2.length] (A2 rfl (Fy (by kernel_rfl) rfl) A5)
def Si:AC :=
 (.seq (.seq (rg [xm 11 5,xm 12 0,xn1 13 12,xs1 14 11 13])
 (.cond (tm 14)
  .skip
  (.exit 0)))
 (.seq (.block 1 (.seq (.region [xm 17 0,xm 18 5,xx 19 1 17 18,xl 20 19,xm 21 1,xm 22 5,xx 23 1 21 22,xl 24 23,xo 25 (qb .neq (tm 20) (tm 24))] true [])
 (.cond (tm 25)
  (.seq (rg [xo 4 (qm (cb false))])
  .ret)
  .skip)))
 (rg [xm 15 5,xa 16 15,xm 5 16])))
def X0:AC :=
 (.seq (rg [xo 4 (qm (cb false))])
 (.seq (.seq (rg [xm 6 0,xn1 7 6,xm 8 1,xn1 9 8,xo 10 (qb .neq (tm 7) (tm 9))])
 (.cond (tm 10)
  (.seq (rg [xo 4 (qm (cb false))])
  .ret)
  .skip))
 (.seq (.seq (rg [xo 5 (qm (ci 0))])
 (.block 0 (.loop Si)))
 (.seq (rg [xo 4 (qm (cb true))])
 .ret))))
def Ai6:List Res:=[.tmp 4]
theorem Akh:At Tryd.prog Tryd.f18=some (X0,Ai6):=by kernel_rfl
def Ht (a0 a1:List Int) (u0:Nat):Option (Ctl Nat (Ctl Unit Bool)) :=
 cond (decide ((u0:Int)<(a0.length:Int)))
 (Option.bind (a0[u0]?) fun x14 =>
 Option.bind (a1[u0]?) fun x15 =>
 cond (x14 !=x15)
  (some (Ctl.out (Ctl.out false)))
  (og (u0+1<4611686018427387904) <|
  some (Ctl.next (u0+1))))
 (some (Ctl.out (Ctl.next ())))
def Kn (a0 a1:List Int):Option Bool :=
 cond ((a0.length:Int) !=(a1.length:Int))
 (some false)
 (Sn (Aw (fun s_:Nat=>Ht a0 a1 s_) 4611686018427387904 0) fun _ =>
 some true)
def Ahl (r:Bool):RV:=⟨false,[(false,[.sc (.bool r)])]⟩
theorem Afj {a0 a1:List Int} {r:Bool} (h:Kn a0 a1=some r):A0 Tryd.prog Tab 18 [tI a0,tI a1] (Ahl r):=by
 refine A1 (by kernel_rfl) Tryd.func18 Akh (n:=26) (by kernel_rfl) (by simp) (tl:=[(0,tI a0),(1,tI a1)]) rfl ?_;unfold X0;unfold Kn at h;refine Al ?_;refine Ab ?_;refine Al ?_;rcases Af h with ⟨q4,h⟩ | ⟨q4,h⟩
 ·refine Ah q4 ?_;refine Al ?_;refine An (tr_ ?_);obtain rfl:=zj h;exact Bo [.bool false] (A2 rfl zl A5)
 refine Ag q4 ?_;refine Ai (tn_ ?_);refine wr_ ?_;refine Hz h (fun (_:Unit) S_=>S_=⟨Ao [],Aj (Ap []),2⟩) ?_ ?_
 ·intro v_ h hk6;refine Al ?_;refine Ae ?_;refine Av h (fun (u0:Nat) S_=>S_=⟨Ao [(0,tI a0),(1,tI a1),(5,an u0)],Aj (Ap []),2⟩) ⟨_,Ac [],rfl⟩ ?_;rintro n_ u0 _ c_ rfl h hn8
  (try dsimp only at h);unfold Ht at h;unfold Si;refine Ab ?_;refine Al ?_;rcases Af h with ⟨q11,h⟩ | ⟨q11,h⟩
  ·have q11_:=of_decide_eq_true q11;refine Ah q11 ?_;refine Ai (tn_ ?_);refine wr_ ?_;refine Ab ?_;refine Ae ?_;refine Ab ?_;obtain ⟨x14,e14,h⟩:=Ad h;obtain ⟨x15,e15,h⟩:=Ad h;refine Ax 15 ?_;refine dz0 (tI a0) ?_;refine dz0 (an u0) ?_;refine dzI .int e14 ?_;refine dz0 (ai x14) ?_;refine dz0 (tI a1) ?_;refine dz0 (an u0) ?_;refine dzI .int e15 ?_;refine dz0 (ai x15) ?_;refine dz0 (.bool (x14 !=x15)) ?_;refine F5 (Bc (by kernel_rfl)) (tn_ ?_);refine wr_ ?_;rcases Af h with ⟨q16,h⟩ | ⟨q16,h⟩
   ·refine Ah q16 ?_;refine Al ?_;refine An (br_ (tr_ (tr_ (br_ (tr_ ?_)))));obtain rfl:=zj h;have h:=hn8
    (try dsimp only at h);obtain rfl:=zj h;have h:=hk6
    (try dsimp only at h);obtain rfl:=zj h;exact Bo [.bool false] (A2 rfl zl A5)
   refine Ag q16 ?_;refine Ai (bn_ (tn_ ?_));refine wr_ ?_;obtain ⟨g18,h⟩:=Am h;refine Aa 18 ?_;refine rsB 1 ?_;refine zA g18 ?_;refine rsB 1 ?_;refine Aq (tn_ ?_);obtain rfl:=zj h;exact ⟨u0+1,_,Ac [],rfl,hn8⟩
  have q11_:=of_decide_eq_false q11;refine Ag q11 ?_;refine Au (te_ (te_ (be_ (tn_ ?_))));obtain rfl:=zj h;have h:=hn8
  (try dsimp only at h);obtain rfl:=zj h;exact ⟨(),_,rfl,Ac [],rfl⟩
 rintro _ _ rfl h
 (try dsimp only at h);refine Al ?_;refine An ?_;obtain rfl:=zj h;exact Bo [.bool true] (A2 rfl zl A5)
def Ac6:AC :=
 (.seq (rg [xo 6 (qm (cb false))])
 (.seq (rg [xm 7 0,xm 8 1,xo 9 (qb .geq (tm 7) (tm 8)),xm 10 9,⟨some 11,some (10,true),qm (tm 0)⟩,⟨some 12,some (10,true),qm (tm 2)⟩,⟨some 13,some (10,true),qb .leq (tm 11) (tm 12)⟩,xo 14 (.i (.pick (tm 10) (tm 13) (cb false))),xm 6 14])
 .ret))
def Apw:List Res:=[.tmp 6]
theorem Aop:At Tryd.prog Tryd.f34=some (Ac6,Apw):=by kernel_rfl
theorem Ib:Be Tryd.prog 34=true:=by kernel_rfl
def Ff (a0 a1 a2:Int):Option Bool :=
 Option.bind (cond (decide (a1<=a0))
  (some (decide (a0<=a2)))
  (some false)) fun u0 =>
some u0
def Al6 (r:Bool):RV:=⟨false,[(false,[.sc (.bool r)])]⟩
theorem C1 {a0 a1 a2:Int} {r:Bool} (h:Ff a0 a1 a2=some r):A0 Tryd.prog Tab 34 [ai a0,ai a1,ai a2] (Al6 r):=by
 refine A1 (by kernel_rfl) Tryd.func34 Aop (n:=15) (by kernel_rfl) (by simp) (tl:=[(0,ai a0),(1,ai a1),(2,ai a2)]) rfl ?_;unfold Ac6;unfold Ff at h;refine Al ?_;refine Ar h (fun (u0:Bool) S_=>S_=⟨Ao [(6,.bool u0)],Aj (Ap []),2⟩) ?_ ?_
 ·intro v_ h;rcases Af h with ⟨q3,h⟩ | ⟨q3,h⟩
  ·have q3_:=of_decide_eq_true q3;refine Aa 11 ?_;refine rsB 4 ?_;refine rs0 (ai a0) (zg q3) ?_;refine rs0 (ai a2) (zg q3) ?_;refine rs0 (.bool (decide (a0<=a2))) (zg q3) ?_;refine rs0 (.bool (decide (a0<=a2))) (zT q3) ?_;refine rsB 1 ?_;refine Aq (tn_ ?_);obtain rfl:=zj h;exact ⟨_,Ac [],rfl⟩
  have q3_:=of_decide_eq_false q3;refine Aa 11 ?_;refine rsB 4 ?_;refine zs q3 ?_;refine zs q3 ?_;refine zs q3 ?_;refine rs0 (.bool false) (zF q3) ?_;refine rsB 1 ?_;refine Aq (tn_ ?_);obtain rfl:=zj h;exact ⟨_,Ac [],rfl⟩
 rintro u0 _ rfl h
 (try dsimp only at h);refine An ?_;obtain rfl:=zj h;exact Bo [.bool u0] (A2 rfl zl A5)
def Su:AC :=
 (.seq (.seq (rg [xm 7 3,xm 8 3,xo 9 (qb .mul (tm 7) (tm 8)),xm 10 0,xo 11 (qb .leq (tm 9) (tm 10))])
 (.cond (tm 11)
  .skip
  (.exit 0)))
 (.seq (.block 1 (.seq (rg [xm 14 0,xm 15 3,xo 16 (qb .rem (tm 14) (tm 15)),xo 17 (qb .eql (tm 16) (ci 0))])
 (.cond (tm 17)
  (.seq (rg [xo 2 (qm (cb false))])
  .ret)
  .skip)))
 (rg [xm 12 3,xa 13 12,xm 3 13])))
def X1:AC :=
 (.seq (rg [xo 2 (qm (cb false))])
 (.seq (.seq (rg [xm 4 0,xo 5 (qc 34 [tm 4,ci 2,ci 97] [[],[],[]]),xo 6 (.i (.not (tm 5)))])
 (.cond (tm 6)
  (.seq (rg [xo 2 (qm (cb false))])
  .ret)
  .skip))
 (.seq (.seq (rg [xo 3 (qm (ci 2))])
 (.block 0 (.loop Su)))
 (.seq (rg [xo 2 (qm (cb true))])
 .ret))))
def Ai5:List Res:=[.tmp 2]
theorem Ai7:At Tryd.prog Tryd.f33=some (X1,Ai5):=by kernel_rfl
def He (a0:Int) (u0:Nat):Option (Ctl Nat (Ctl Unit Bool)) :=
 cond (decide (wI ((u0:Int)*(u0:Int))<=a0))
 (og ((u0:Int)≠0) <|
 cond ((Int.tmod a0 (u0:Int))==0)
  (some (Ctl.out (Ctl.out false)))
  (og (u0+1<4611686018427387904) <|
  some (Ctl.next (u0+1))))
 (some (Ctl.out (Ctl.next ())))
def Kg (a0:Int):Option Bool :=
 Option.bind (Ff a0 2 97) fun y4 =>
cond (!y4)
 (some false)
 (Sn (Aw (fun s_:Nat=>He a0 s_) 4611686018427387904 2) fun _ =>
 some true)
def Aey (r:Bool):RV:=⟨false,[(false,[.sc (.bool r)])]⟩
theorem Ja {a0:Int} {r:Bool} (h:Kg a0=some r):A0 Tryd.prog Tab 33 [ai a0] (Aey r):=by
 refine A1 (by kernel_rfl) Tryd.func33 Ai7 (n:=18) (by kernel_rfl) (by simp) (tl:=[(0,ai a0)]) rfl ?_;unfold X1;unfold Kg at h;refine Al ?_;refine Ab ?_;refine Ab ?_;obtain ⟨y4,h4,h⟩:=Ad h;refine Aa 5 ?_;refine rsB 1 ?_;refine zc (.bool y4) [] [ai a0,ai 2,ai 97] (C1 h4) ?_;refine rsB 1 ?_;refine Aq (tn_ ?_);refine wr_ ?_;rcases Af h with ⟨q5,h⟩ | ⟨q5,h⟩
 ·refine Ah q5 ?_;refine Al ?_;refine An (tr_ ?_);obtain rfl:=zj h;exact Bo [.bool false] (A2 rfl zl A5)
 refine Ag q5 ?_;refine Ai (tn_ ?_);refine wr_ ?_;refine Hz h (fun (_:Unit) S_=>S_=⟨Ao [],Aj (Ap []),2⟩) ?_ ?_
 ·intro v_ h hk7;refine Al ?_;refine Ae ?_;refine Av h (fun (u0:Nat) S_=>S_=⟨Ao [(0,ai a0),(3,an u0)],Aj (Ap []),2⟩) ⟨_,Ac [],rfl⟩ ?_;rintro n_ u0 _ c_ rfl h hn9
  (try dsimp only at h);unfold He at h;unfold Su;refine Ab ?_;refine Al ?_;rcases Af h with ⟨q12,h⟩ | ⟨q12,h⟩
  ·have q12_:=of_decide_eq_true q12;refine Ah q12 ?_;refine Ai (tn_ ?_);refine wr_ ?_;refine Ab ?_;refine Ae ?_;refine Ab ?_;obtain ⟨g15,h⟩:=Am h;refine Aa 11 ?_;refine rsB 2 ?_;refine rs0 (ai (Int.tmod a0 (u0:Int))) (Sc (k:=.i64) (a:=a0) (b:=(u0:Int)) (by kernel_rfl) (by kernel_rfl) g15) ?_;refine rsB 1 ?_;refine Aq (tn_ ?_);refine wr_ ?_;rcases Af h with ⟨q16,h⟩ | ⟨q16,h⟩
   ·refine Ah q16 ?_;refine Al ?_;refine An (br_ (tr_ (tr_ (br_ (tr_ ?_)))));obtain rfl:=zj h;have h:=hn9
    (try dsimp only at h);obtain rfl:=zj h;have h:=hk7
    (try dsimp only at h);obtain rfl:=zj h;exact Bo [.bool false] (A2 rfl zl A5)
   refine Ag q16 ?_;refine Ai (bn_ (tn_ ?_));refine wr_ ?_;obtain ⟨g18,h⟩:=Am h;refine Aa 14 ?_;refine rsB 1 ?_;refine zA g18 ?_;refine rsB 1 ?_;refine Aq (tn_ ?_);obtain rfl:=zj h;exact ⟨u0+1,_,Ac [],rfl,hn9⟩
  have q12_:=of_decide_eq_false q12;refine Ag q12 ?_;refine Au (te_ (te_ (be_ (tn_ ?_))));obtain rfl:=zj h;have h:=hn9
  (try dsimp only at h);obtain rfl:=zj h;exact ⟨(),_,rfl,Ac [],rfl⟩
 rintro _ _ rfl h
 (try dsimp only at h);refine Al ?_;refine An ?_;obtain rfl:=zj h;exact Bo [.bool true] (A2 rfl zl A5)
def U7:AC :=
 (.seq (rg [xs1 12 11 10])
 (.seq (.cond (tm 12)
  .skip
  (.exit 0))
 (.seq (.block 1 (.seq (rg [xx 13 1 9 11,xl 14 13,xm 8 14])
 (.seq (rg [xm 15 8,xm 16 1,xm 17 2,xo 18 (qc 34 [tm 15,tm 16,tm 17] [[],[],[]]),xo 19 (.i (.not (tm 18)))])
 (.cond (tm 19)
  (.seq (rg [xo 6 (qm (cb false))])
  .ret)
  .skip))))
 (rg [xa 20 11,xm 11 20]))))
def Aay:AC :=
 (.seq (rg [xo 6 (qm (cb false))])
 (.seq (.seq (rg [xm 9 0,xn1 10 9,xo 11 (qm (ci 0))])
 (.block 0 (.loop U7)))
 (.seq (rg [xo 6 (qm (cb true))])
 .ret)))
def Am8:List Res:=[.tmp 6]
theorem Amo:At Tryd.prog Tryd.f35=some (Aay,Am8):=by kernel_rfl
theorem Na:Be Tryd.prog 35=true:=by kernel_rfl
def K3 (a0:List Int) (a1 a2:Int) (u0:Nat):Option (Ctl Nat (Ctl Unit Bool)) :=
 cond (decide ((u0:Int)<(a0.length:Int)))
 (Option.bind (a0[u0]?) fun x10 =>
 Option.bind (Ff x10 a1 a2) fun y12 =>
 cond (!y12)
  (some (Ctl.out (Ctl.out false)))
  (og (u0+1<4611686018427387904) <|
  some (Ctl.next (u0+1))))
 (some (Ctl.out (Ctl.next ())))
def J2 (a0:List Int) (a1 a2:Int):Option Bool :=
 Sn (Aw (fun s_:Nat=>K3 a0 a1 a2 s_) 4611686018427387904 0) fun _ =>
some true
def Akd (r:Bool):RV:=⟨false,[(false,[.sc (.bool r)])]⟩
theorem M7 {a0:List Int} {a1 a2:Int} {r:Bool} (h:J2 a0 a1 a2=some r):A0 Tryd.prog Tab 35 [tI a0,ai a1,ai a2] (Akd r):=by
 refine A1 (by kernel_rfl) Tryd.func35 Amo (n:=21) (by kernel_rfl) (by simp) (tl:=[(0,tI a0),(1,ai a1),(2,ai a2)]) rfl ?_;unfold Aay;unfold J2 at h;refine Al ?_;refine Hz h (fun (_:Unit) S_=>S_=⟨Ao [],Aj (Ap []),2⟩) ?_ ?_
 ·intro v_ h hk2;refine Al ?_;refine Ae ?_;refine Av h (fun (u0:Nat) S_=>S_=⟨Ao [(1,ai a1),(2,ai a2),(9,tI a0),(10,an a0.length),(11,an u0)],Aj (Ap []),2⟩) ⟨_,Ac [],rfl⟩ ?_;rintro n_ u0 _ c_ rfl h hn4
  (try dsimp only at h);unfold K3 at h;unfold U7;refine Al ?_;refine Ab ?_;rcases Af h with ⟨q7,h⟩ | ⟨q7,h⟩
  ·have q7_:=of_decide_eq_true q7;refine Ah q7 ?_;refine Ai (tn_ ?_);refine wr_ ?_;refine Ab ?_;refine Ae ?_;refine Ab ?_;obtain ⟨x10,e10,h⟩:=Ad h;refine Aa 6 ?_;refine zI .int e10 ?_;refine rsB 2 ?_;refine Aq (tn_ ?_);refine wr_ ?_;refine Ab ?_;obtain ⟨y12,h12,h⟩:=Ad h;refine Aa 11 ?_;refine rsB 3 ?_;refine zc (.bool y12) [] [ai x10,ai a1,ai a2] (C1 h12) ?_;refine rsB 1 ?_;refine Aq (tn_ ?_);refine wr_ ?_;rcases Af h with ⟨q13,h⟩ | ⟨q13,h⟩
   ·refine Ah q13 ?_;refine Al ?_;refine An (br_ (tr_ (tr_ (br_ (tr_ ?_)))));obtain rfl:=zj h;have h:=hn4
    (try dsimp only at h);obtain rfl:=zj h;have h:=hk2
    (try dsimp only at h);obtain rfl:=zj h;exact Bo [.bool false] (A2 rfl zl A5)
   refine Ag q13 ?_;refine Ai (bn_ (tn_ ?_));refine wr_ ?_;obtain ⟨g15,h⟩:=Am h;refine Aa 13 ?_;refine zA g15 ?_;refine rsB 1 ?_;refine Aq (tn_ ?_);obtain rfl:=zj h;exact ⟨u0+1,_,Ac [],rfl,hn4⟩
  have q7_:=of_decide_eq_false q7;refine Ag q7 ?_;refine Au (te_ (te_ (be_ (tn_ ?_))));obtain rfl:=zj h;have h:=hn4
  (try dsimp only at h);obtain rfl:=zj h;exact ⟨(),_,rfl,Ac [],rfl⟩
 rintro _ _ rfl h
 (try dsimp only at h);refine Al ?_;refine An ?_;obtain rfl:=zj h;exact Bo [.bool true] (A2 rfl zl A5)
def Zh:AC :=
 (.seq (rg [xo 2 (qm (.cst .nils))])
 (.seq (rg [xo 3 (.mkS 3 .int []),xm 4 0,xo 5 (.append 3 .int 8 (tm 3) (tm 4)),xm 2 5])
 .ret))
def Ami:List Res:=[.tmp 2]
theorem Anl:At Tryd.prog Tryd.f26=some (Zh,Ami):=by kernel_rfl
theorem Ku:Be Tryd.prog 26=true:=by kernel_rfl
def C2 (a0:List Int):Option (List Int) :=
 og (0+a0.length<=1073741824∧(0+a0.length)*8<=140737488355328) <|
some a0
def Aiy (r:List Int):RV:=⟨false,[(false,[.new 3 .int r])]⟩
theorem Fc {a0 r:List Int} (h:C2 a0=some r):A0 Tryd.prog Tab 26 [tI a0] (Aiy r):=by
 refine A1 (by kernel_rfl) Tryd.func26 Anl (n:=6) (by kernel_rfl) (by simp) (tl:=[(0,tI a0)]) rfl ?_;unfold Zh;unfold C2 at h;refine Al ?_;refine Ab ?_;obtain ⟨g3,h⟩:=Am h;refine Aa 6 ?_;refine rsB 2 ?_;refine rs2 (oI 3 4 a0.length) (oi 3 2) (oi 3 4) (.arr 3 .int a0) (I9 (t:=.int) (t':=.int) (xs:=[]) (ys:=a0) (zs:=a0) (j:=oi 3 2) (len:=0) (c:=tI a0) (by kernel_rfl) (by kernel_rfl) rfl (by kernel_rfl) Am7 rfl g3) ?_;refine rsB 1 ?_;refine Aq (tn_ ?_);refine wr_ ?_;refine An ?_;obtain rfl:=zj h;exact Bo [oI 3 4 a0.length] (A2 rfl (Fy (by kernel_rfl) rfl) A5)
def Aae:AC :=
 (.seq (rg [xo 6 (qm (ci 0))])
 (.seq (rg [xm 7 1,xm 8 2,xo 9 (qb .add (tm 7) (tm 8)),xm 10 0,xo 11 (qb .rem (tm 9) (tm 10)),xm 6 11])
 .ret))
def Alr:List Res:=[.tmp 6]
theorem Am4:At Tryd.prog Tryd.f70=some (Aae,Alr):=by kernel_rfl
def Lw (a0 a1 a2:Int):Option Int :=
 og (a0≠0) <|
some (Int.tmod (wI (a1+a2)) a0)
def Ajo (r:Int):RV:=⟨false,[(false,[.sc (.int .i64 r)])]⟩
theorem Aiz {a0 a1:Int} {a2 r:Int} (h:Lw a0 a1 a2=some r):A0 Tryd.prog Tab 70 [ai a0,ai a1,ai a2] (Ajo r):=by
 refine A1 (by kernel_rfl) Tryd.func70 Am4 (n:=12) (by kernel_rfl) (by simp) (tl:=[(0,ai a0),(1,ai a1),(2,ai a2)]) rfl ?_;unfold Aae;unfold Lw at h;refine Al ?_;refine Ab ?_;obtain ⟨g3,h⟩:=Am h;refine Aa 8 ?_;refine rsB 4 ?_;refine rs0 (ai (Int.tmod (wI (a1+a2)) a0)) (Sc (k:=.i64) (a:=wI (a1+a2)) (b:=a0) (by kernel_rfl) (by kernel_rfl) g3) ?_;refine rsB 1 ?_;refine Aq (tn_ ?_);refine wr_ ?_;refine An ?_;obtain rfl:=zj h;exact Bo [ai (Int.tmod (wI (a1+a2)) a0)] (A2 rfl zl A5)
def Zz:AC :=
 (.seq (rg [xo 6 (qm (ci 0))])
 (.seq (rg [xm 7 1,xm 8 2,xo 9 (qb .mul (tm 7) (tm 8)),xm 10 0,xo 11 (qb .rem (tm 9) (tm 10)),xm 6 11])
 .ret))
def Amw:List Res:=[.tmp 6]
theorem Anc:At Tryd.prog Tryd.f48=some (Zz,Amw):=by kernel_rfl
def Gr (a0 a1 a2:Int):Option Int :=
 og (a0≠0) <|
some (Int.tmod (wI (a1*a2)) a0)
def Akc (r:Int):RV:=⟨false,[(false,[.sc (.int .i64 r)])]⟩
theorem M8 {a0 a1:Int} {a2 r:Int} (h:Gr a0 a1 a2=some r):A0 Tryd.prog Tab 48 [ai a0,ai a1,ai a2] (Akc r):=by
 refine A1 (by kernel_rfl) Tryd.func48 Anc (n:=12) (by kernel_rfl) (by simp) (tl:=[(0,ai a0),(1,ai a1),(2,ai a2)]) rfl ?_;unfold Zz;unfold Gr at h;refine Al ?_;refine Ab ?_;obtain ⟨g3,h⟩:=Am h;refine Aa 8 ?_;refine rsB 4 ?_;refine rs0 (ai (Int.tmod (wI (a1*a2)) a0)) (Sc (k:=.i64) (a:=wI (a1*a2)) (b:=a0) (by kernel_rfl) (by kernel_rfl) g3) ?_;refine rsB 1 ?_;refine Aq (tn_ ?_);refine wr_ ?_;refine An ?_;obtain rfl:=zj h;exact Bo [ai (Int.tmod (wI (a1*a2)) a0)] (A2 rfl zl A5)
def Ye:AC :=
 (.seq (rg [xo 6 (qm (cb false))])
 (.seq (rg [xm 7 0,xm 8 1,xo 9 (qb .geq (tm 7) (tm 8)),xm 10 9,⟨some 11,some (10,true),qm (tm 0)⟩,⟨some 12,some (10,true),qm (tm 2)⟩,⟨some 13,some (10,true),qb .leq (tm 11) (tm 12)⟩,xo 14 (.i (.pick (tm 10) (tm 13) (cb false))),xm 6 14])
 .ret))
def Akj:List Res:=[.tmp 6]
theorem Ajc:At Tryd.prog Tryd.f50=some (Ye,Akj):=by kernel_rfl
theorem El:Be Tryd.prog 50=true:=by kernel_rfl
def Fd (a0 a1 a2:Int):Option Bool :=
 Option.bind (cond (decide (a1<=a0))
  (some (decide (a0<=a2)))
  (some false)) fun u0 =>
some u0
def Agm (r:Bool):RV:=⟨false,[(false,[.sc (.bool r)])]⟩
theorem De {a0 a1 a2:Int} {r:Bool} (h:Fd a0 a1 a2=some r):A0 Tryd.prog Tab 50 [ai a0,ai a1,ai a2] (Agm r):=by
 refine A1 (by kernel_rfl) Tryd.func50 Ajc (n:=15) (by kernel_rfl) (by simp) (tl:=[(0,ai a0),(1,ai a1),(2,ai a2)]) rfl ?_;unfold Ye;unfold Fd at h;refine Al ?_;refine Ar h (fun (u0:Bool) S_=>S_=⟨Ao [(6,.bool u0)],Aj (Ap []),2⟩) ?_ ?_
 ·intro v_ h;rcases Af h with ⟨q3,h⟩ | ⟨q3,h⟩
  ·have q3_:=of_decide_eq_true q3;refine Aa 11 ?_;refine rsB 4 ?_;refine rs0 (ai a0) (zg q3) ?_;refine rs0 (ai a2) (zg q3) ?_;refine rs0 (.bool (decide (a0<=a2))) (zg q3) ?_;refine rs0 (.bool (decide (a0<=a2))) (zT q3) ?_;refine rsB 1 ?_;refine Aq (tn_ ?_);obtain rfl:=zj h;exact ⟨_,Ac [],rfl⟩
  have q3_:=of_decide_eq_false q3;refine Aa 11 ?_;refine rsB 4 ?_;refine zs q3 ?_;refine zs q3 ?_;refine zs q3 ?_;refine rs0 (.bool false) (zF q3) ?_;refine rsB 1 ?_;refine Aq (tn_ ?_);obtain rfl:=zj h;exact ⟨_,Ac [],rfl⟩
 rintro u0 _ rfl h
 (try dsimp only at h);refine An ?_;obtain rfl:=zj h;exact Bo [.bool u0] (A2 rfl zl A5)
def Qk:AC :=
 (.seq (rg [xs1 10 9 8])
 (.seq (.cond (tm 10)
  .skip
  (.exit 0))
 (.seq (.block 1 (.seq (rg [xx 11 1 7 9,xl 12 11,xm 6 12])
 (.seq (rg [xm 13 6,xm 14 1,xo 15 (qb .sub (tm 14) (ci 1)),xo 16 (qc 50 [tm 13,ci 0,tm 15] [[],[],[]]),xo 17 (.i (.not (tm 16)))])
 (.cond (tm 17)
  (.seq (rg [xo 4 (qm (cb false))])
  .ret)
  .skip))))
 (rg [xa 18 9,xm 9 18]))))
def Uy:AC :=
 (.seq (rg [xo 4 (qm (cb false))])
 (.seq (.seq (rg [xm 7 0,xn1 8 7,xo 9 (qm (ci 0))])
 (.block 0 (.loop Qk)))
 (.seq (rg [xo 4 (qm (cb true))])
 .ret)))
def Adk:List Res:=[.tmp 4]
theorem Adi:At Tryd.prog Tryd.f51=some (Uy,Adk):=by kernel_rfl
theorem S6:Be Tryd.prog 51=true:=by kernel_rfl
def H5 (a0:List Int) (a1:Int) (u0:Nat):Option (Ctl Nat (Ctl Unit Bool)) :=
 cond (decide ((u0:Int)<(a0.length:Int)))
 (Option.bind (a0[u0]?) fun x10 =>
 Option.bind (Fd x10 0 (wI (a1 - 1))) fun y12 =>
 cond (!y12)
  (some (Ctl.out (Ctl.out false)))
  (og (u0+1<4611686018427387904) <|
  some (Ctl.next (u0+1))))
 (some (Ctl.out (Ctl.next ())))
def Gb (a0:List Int) (a1:Int):Option Bool :=
 Sn (Aw (fun s_:Nat=>H5 a0 a1 s_) 4611686018427387904 0) fun _ =>
some true
def Ab9 (r:Bool):RV:=⟨false,[(false,[.sc (.bool r)])]⟩
theorem S7 {a0:List Int} {a1:Int} {r:Bool} (h:Gb a0 a1=some r):A0 Tryd.prog Tab 51 [tI a0,ai a1] (Ab9 r):=by
 refine A1 (by kernel_rfl) Tryd.func51 Adi (n:=19) (by kernel_rfl) (by simp) (tl:=[(0,tI a0),(1,ai a1)]) rfl ?_;unfold Uy;unfold Gb at h;refine Al ?_;refine Hz h (fun (_:Unit) S_=>S_=⟨Ao [],Aj (Ap []),2⟩) ?_ ?_
 ·intro v_ h hk2;refine Al ?_;refine Ae ?_;refine Av h (fun (u0:Nat) S_=>S_=⟨Ao [(1,ai a1),(7,tI a0),(8,an a0.length),(9,an u0)],Aj (Ap []),2⟩) ⟨_,Ac [],rfl⟩ ?_;rintro n_ u0 _ c_ rfl h hn4
  (try dsimp only at h);unfold H5 at h;unfold Qk;refine Al ?_;refine Ab ?_;rcases Af h with ⟨q7,h⟩ | ⟨q7,h⟩
  ·have q7_:=of_decide_eq_true q7;refine Ah q7 ?_;refine Ai (tn_ ?_);refine wr_ ?_;refine Ab ?_;refine Ae ?_;refine Ab ?_;obtain ⟨x10,e10,h⟩:=Ad h;refine Aa 6 ?_;refine zI .int e10 ?_;refine rsB 2 ?_;refine Aq (tn_ ?_);refine wr_ ?_;refine Ab ?_;obtain ⟨y12,h12,h⟩:=Ad h;refine Aa 11 ?_;refine rsB 3 ?_;refine zc (.bool y12) [] [ai x10,ai 0,ai (wI (a1 - 1))] (De h12) ?_;refine rsB 1 ?_;refine Aq (tn_ ?_);refine wr_ ?_;rcases Af h with ⟨q13,h⟩ | ⟨q13,h⟩
   ·refine Ah q13 ?_;refine Al ?_;refine An (br_ (tr_ (tr_ (br_ (tr_ ?_)))));obtain rfl:=zj h;have h:=hn4
    (try dsimp only at h);obtain rfl:=zj h;have h:=hk2
    (try dsimp only at h);obtain rfl:=zj h;exact Bo [.bool false] (A2 rfl zl A5)
   refine Ag q13 ?_;refine Ai (bn_ (tn_ ?_));refine wr_ ?_;obtain ⟨g15,h⟩:=Am h;refine Aa 13 ?_;refine zA g15 ?_;refine rsB 1 ?_;refine Aq (tn_ ?_);obtain rfl:=zj h;exact ⟨u0+1,_,Ac [],rfl,hn4⟩
  have q7_:=of_decide_eq_false q7;refine Ag q7 ?_;refine Au (te_ (te_ (be_ (tn_ ?_))));obtain rfl:=zj h;have h:=hn4
  (try dsimp only at h);obtain rfl:=zj h;exact ⟨(),_,rfl,Ac [],rfl⟩
 rintro _ _ rfl h
 (try dsimp only at h);refine Al ?_;refine An ?_;obtain rfl:=zj h;exact Bo [.bool true] (A2 rfl zl A5)
def Aar:AC :=
 (.seq (rg [xo 2 (qm (.cst .nils))])
 (.seq (rg [xm 3 0,xo 4 (.make 3 .int 8 (tm 3) (tm 3)),xm 2 4])
 .ret))
def Amy:List Res:=[.tmp 2]
theorem Anw:At Tryd.prog Tryd.f57=some (Aar,Amy):=by kernel_rfl
def Ed (a0:Int):Option (List Int) :=
 og (0<=a0∧a0<=a0∧a0<=1073741824∧(8:Int)*a0<=140737488355328) <|
some (List.replicate a0.toNat (0:Int))
def Akb (r:List Int):RV:=⟨false,[(false,[.new 3 .int r])]⟩
theorem Is {a0:Int} {r:List Int} (h:Ed a0=some r):A0 Tryd.prog Tab 57 [ai a0] (Akb r):=by
 refine A1 (by kernel_rfl) Tryd.func57 Anw (n:=5) (by kernel_rfl) (by simp) (tl:=[(0,ai a0)]) rfl ?_;unfold Aar;unfold Ed at h;refine Al ?_;refine Ab ?_;obtain ⟨g3,h⟩:=Am h;refine Aa 5 ?_;refine rsB 1 ?_;refine rs1 (oI 4 3 a0.toNat) (oi 4 3) (.arr 3 .int (List.replicate a0.toNat (0:Int))) (Lu (t:=.int) (k:=.i64) (k':=.i64) (m:=a0) (m':=a0) (by kernel_rfl) (by kernel_rfl) g3 rfl) ?_;refine rsB 1 ?_;refine Aq (tn_ ?_);refine wr_ ?_;refine An ?_;obtain rfl:=zj h;exact Bo [oI 4 3 a0.toNat] (A2 rfl (Fy (by kernel_rfl) List.length_replicate.symm) A5)
def Af5:AC :=
 (.seq (rg [xo 4 (qm (ci 0))])
 (.seq (rg [xm 5 1,xm 6 0,xo 7 (qb .rem (tm 5) (tm 6)),xm 1 7])
 (.seq (.seq (rg [xm 8 1,xo 9 (qb .lss (tm 8) (ci 0))])
 (.cond (tm 9)
  (rg [xm 10 1,xm 11 0,xo 12 (qb .add (tm 10) (tm 11)),xm 1 12])
  .skip))
 (.seq (rg [xm 13 1,xm 4 13])
 .ret))))
def Arn:List Res:=[.tmp 4]
theorem Aq9:At Tryd.prog Tryd.f84=some (Af5,Arn):=by kernel_rfl
def La (a0 a1:Int):Option Int :=
 og (a0≠0) <|
Option.bind (cond (decide (Int.tmod a1 a0<0))
  (some (wI (Int.tmod a1 a0+a0)))
  (some (Int.tmod a1 a0))) fun u0 =>
some u0
def Apz (r:Int):RV:=⟨false,[(false,[.sc (.int .i64 r)])]⟩
theorem W1 {a0 a1 r:Int} (h:La a0 a1=some r):A0 Tryd.prog Tab 84 [ai a0,ai a1] (Apz r):=by
 refine A1 (by kernel_rfl) Tryd.func84 Aq9 (n:=14) (by kernel_rfl) (by simp) (tl:=[(0,ai a0),(1,ai a1)]) rfl ?_;unfold Af5;unfold La at h;refine Al ?_;refine Ab ?_;obtain ⟨g3,h⟩:=Am h;refine Aa 6 ?_;refine rsB 2 ?_;refine rs0 (ai (Int.tmod a1 a0)) (Sc (k:=.i64) (a:=a1) (b:=a0) (by kernel_rfl) (by kernel_rfl) g3) ?_;refine rsB 1 ?_;refine Aq (tn_ ?_);refine wr_ ?_;refine Ar h (fun (u0:Int) S_=>S_=⟨Ao [(1,ai u0)],Aj (Ap []),2⟩) ?_ ?_
 ·intro v_ h;refine Al ?_;rcases Af h with ⟨q6,h⟩ | ⟨q6,h⟩
  ·have q6_:=of_decide_eq_true q6;refine Ah q6 ?_;refine Aa 12 ?_;refine rsB 4 ?_;refine Aq (tn_ ?_);obtain rfl:=zj h;exact ⟨_,Ac [],rfl⟩
  have q6_:=of_decide_eq_false q6;refine Ag q6 ?_;refine Ai (tn_ ?_);obtain rfl:=zj h;exact ⟨_,Ac [],rfl⟩
 rintro u0 _ rfl h
 (try dsimp only at h);refine Al ?_;refine An ?_;obtain rfl:=zj h;exact Bo [ai u0] (A2 rfl zl A5)
def Sq:AC :=
 (.seq (rg [xo 4 (qm (cb false))])
 (.seq (rg [xm 5 1,xo 6 (qb .geq (tm 5) (ci 0)),xm 7 6,⟨some 8,some (7,true),qm (tm 1)⟩,⟨some 9,some (7,true),qm (tm 0)⟩,⟨some 10,some (7,true),qb .lss (tm 8) (tm 9)⟩,xo 11 (.i (.pick (tm 7) (tm 10) (cb false))),xm 4 11])
 .ret))
def Abw:List Res:=[.tmp 4]
theorem Ab3:At Tryd.prog Tryd.f77=some (Sq,Abw):=by kernel_rfl
theorem Aa3:Be Tryd.prog 77=true:=by kernel_rfl
def Hj (a0 a1:Int):Option Bool :=
 Option.bind (cond (decide (0<=a1))
  (some (decide (a1<a0)))
  (some false)) fun u0 =>
some u0
def Aas (r:Bool):RV:=⟨false,[(false,[.sc (.bool r)])]⟩
theorem Aa1 {a0 a1:Int} {r:Bool} (h:Hj a0 a1=some r):A0 Tryd.prog Tab 77 [ai a0,ai a1] (Aas r):=by
 refine A1 (by kernel_rfl) Tryd.func77 Ab3 (n:=12) (by kernel_rfl) (by simp) (tl:=[(0,ai a0),(1,ai a1)]) rfl ?_;unfold Sq;unfold Hj at h;refine Al ?_;refine Ar h (fun (u0:Bool) S_=>S_=⟨Ao [(4,.bool u0)],Aj (Ap []),2⟩) ?_ ?_
 ·intro v_ h;rcases Af h with ⟨q3,h⟩ | ⟨q3,h⟩
  ·have q3_:=of_decide_eq_true q3;refine Aa 10 ?_;refine rsB 3 ?_;refine rs0 (ai a1) (zg q3) ?_;refine rs0 (ai a0) (zg q3) ?_;refine rs0 (.bool (decide (a1<a0))) (zg q3) ?_;refine rs0 (.bool (decide (a1<a0))) (zT q3) ?_;refine rsB 1 ?_;refine Aq (tn_ ?_);obtain rfl:=zj h;exact ⟨_,Ac [],rfl⟩
  have q3_:=of_decide_eq_false q3;refine Aa 10 ?_;refine rsB 3 ?_;refine zs q3 ?_;refine zs q3 ?_;refine zs q3 ?_;refine rs0 (.bool false) (zF q3) ?_;refine rsB 1 ?_;refine Aq (tn_ ?_);obtain rfl:=zj h;exact ⟨_,Ac [],rfl⟩
 rintro u0 _ rfl h
 (try dsimp only at h);refine An ?_;obtain rfl:=zj h;exact Bo [.bool u0] (A2 rfl zl A5)
def Zn:AC :=
 (.seq (rg [xo 2 (qm (.cst .nils))])
 (.seq (rg [xo 3 (.mkS 3 .int []),xm 4 0,xo 5 (.append 3 .int 8 (tm 3) (tm 4)),xm 2 5])
 .ret))
def Ans:List Res:=[.tmp 2]
theorem Al1:At Tryd.prog Tryd.f66=some (Zn,Ans):=by kernel_rfl
def Gf (a0:List Int):Option (List Int) :=
 og (0+a0.length<=1073741824∧(0+a0.length)*8<=140737488355328) <|
some a0
def Aiw (r:List Int):RV:=⟨false,[(false,[.new 3 .int r])]⟩
theorem M6 {a0 r:List Int} (h:Gf a0=some r):A0 Tryd.prog Tab 66 [tI a0] (Aiw r):=by
 refine A1 (by kernel_rfl) Tryd.func66 Al1 (n:=6) (by kernel_rfl) (by simp) (tl:=[(0,tI a0)]) rfl ?_;unfold Zn;unfold Gf at h;refine Al ?_;refine Ab ?_;obtain ⟨g3,h⟩:=Am h;refine Aa 6 ?_;refine rsB 2 ?_;refine rs2 (oI 3 4 a0.length) (oi 3 2) (oi 3 4) (.arr 3 .int a0) (I9 (t:=.int) (t':=.int) (xs:=[]) (ys:=a0) (zs:=a0) (j:=oi 3 2) (len:=0) (c:=tI a0) (by kernel_rfl) (by kernel_rfl) rfl (by kernel_rfl) Am7 rfl g3) ?_;refine rsB 1 ?_;refine Aq (tn_ ?_);refine wr_ ?_;refine An ?_;obtain rfl:=zj h;exact Bo [oI 3 4 a0.length] (A2 rfl (Fy (by kernel_rfl) rfl) A5)
def V8:AC :=
 (.seq (rg [xs1 10 9 8])
 (.seq (.cond (tm 10)
  .skip
  (.exit 0))
 (.seq (.block 1 (.seq (rg [xm 11 9,xm 4 11])
 (rg [xm 12 3,xm 13 4,xm 14 4,xx 15 1 12 13,xn (qs (tm 15) (tm 14))])))
 (rg [xa 16 9,xm 9 16]))))
def Ac3:AC :=
 (.seq (rg [xo 2 (qm (.cst .nils))])
 (.seq (rg [xm 5 0,xo 6 (qc 57 [tm 5] [[]]),xm 3 6])
 (.seq (.seq (rg [xm 7 3,xn1 8 7,xo 9 (qm (ci 0))])
 (.block 0 (.loop V8)))
 (.seq (rg [xm 17 3,xm 2 17])
 .ret))))
def An0:List Res:=[.tmp 2]
theorem Aov:At Tryd.prog Tryd.f80=some (Ac3,An0):=by kernel_rfl
def Jh (y3:List Int) (u0:Nat) (u1:List Int):Option (Ctl (Nat×List Int) (List Int)) :=
 cond (decide ((u0:Int)<(y3.length:Int)))
 (Option.bind (u1[u0]?) fun x12 =>
 og (u0+1<4611686018427387904) <|
 some (Ctl.next (u0+1,u1.set u0 (u0:Int))))
 (some (Ctl.out u1))
def Nf (a0:Int):Option (List Int) :=
 Option.bind (Ed a0) fun y3 =>
Option.bind (Aw (fun s_:Nat×List Int=>Jh y3 s_.1 s_.2) 4611686018427387904 (0,y3)) fun u0 =>
some u0
def Amz (r:List Int):RV:=⟨false,[(false,[.new 3 .int r])]⟩
theorem Al0 {a0:Int} {r:List Int} (h:Nf a0=some r):A0 Tryd.prog Tab 80 [ai a0] (Amz r):=by
 refine A1 (by kernel_rfl) Tryd.func80 Aov (n:=18) (by kernel_rfl) (by simp) (tl:=[(0,ai a0)]) rfl ?_;unfold Ac3;unfold Nf at h;refine Al ?_;refine Ab ?_;obtain ⟨y3,h3,h⟩:=Ad h;refine Aa 5 ?_;refine rsB 1 ?_;refine zc (oI 96 3 y3.length) [nI 96 3 y3] [ai a0] (Is h3) ?_;refine rsB 1 ?_;refine Aq (tn_ ?_);refine wr_ ?_;refine Ar h (fun (u2:List Int) S_=>S_=⟨Ao [(3,oI 0 1 u2.length)],Aj (Ap [(oi 0 1,.arr 3 .int u2)]),2⟩) ?_ ?_
 ·intro v_ h;refine Al ?_;refine Ae ?_;refine Av h (fun t_ S_=>∃ (u0:Nat),∃ (u1:List Int),t_=(u0,u1)∧S_=⟨Ao [(3,oI 0 1 u1.length),(8,an y3.length),(9,an u0)],Aj (Ap [(oi 0 1,.arr 3 .int u1)]),2⟩) ⟨_,Ac [(oi 0 1,oi 96 3)],⟨0,y3,rfl,rfl⟩⟩ ?_;rintro n_ _ _ c_ ⟨u0,u1,rfl,rfl⟩ h hn6
  (try dsimp only at h);unfold Jh at h;unfold V8;refine Al ?_;refine Ab ?_;rcases Af h with ⟨q9,h⟩ | ⟨q9,h⟩
  ·have q9_:=of_decide_eq_true q9;refine Ah q9 ?_;refine Ai (tn_ ?_);refine wr_ ?_;refine Ab ?_;refine Ae ?_;refine Al ?_;obtain ⟨x12,e12,h⟩:=Ad h;refine Aa 10 ?_;refine rsB 3 ?_;refine zO (oi 0 1) .int u1.length (As e12) ?_;refine zS (oi 0 1) ((u0:Int)) e12 ?_;refine Aq (bn_ (tn_ ?_));refine wr_ ?_;obtain ⟨g13,h⟩:=Am h;refine Aa 12 ?_;refine zA g13 ?_;refine rsB 1 ?_;refine Aq (tn_ ?_);obtain rfl:=zj h;exact ⟨(u0+1,u1.set u0 (u0:Int)),_,(A8 3 (oI 0 1 u1.length) (oI 0 1 ((u1.set u0 (u0:Int)).length)) (by kernel_rfl) (congrArg (fun z_=>((oI 0 1 z_):AV)) (((rfl:u1.length=u1.length).trans List.length_set.symm):u1.length=(u1.set u0 (u0:Int)).length))).trans (Ac []),⟨u0+1,u1.set u0 (u0:Int),rfl,rfl⟩,hn6⟩
  have q9_:=of_decide_eq_false q9;refine Ag q9 ?_;refine Au (te_ (te_ (be_ (tn_ ?_))));obtain rfl:=zj h;have h:=hn6
  (try dsimp only at h);obtain rfl:=zj h;exact ⟨_,Ac [],rfl⟩
 rintro u2 _ rfl h
 (try dsimp only at h);refine Al ?_;refine An ?_;obtain rfl:=zj h;exact Bo [oI 0 1 u2.length] (A2 rfl (Fy (by kernel_rfl) rfl) A5)
def Sz:AC :=
 (.seq (rg [xs1 11 10 9])
 (.seq (.cond (tm 11)
  .skip
  (.exit 0))
 (.seq (.block 1 (.seq (rg [xx 12 1 8 10,xl 13 12,xm 7 13])
 (rg [xm 14 5,xm 15 1,xm 16 7,xx 17 1 15 16,xl 18 17,xo 19 (.mkS 3 .int [tm 18]),xo 20 (.append 3 .int 8 (tm 14) (tm 19)),xm 5 20])))
 (rg [xa 21 10,xm 10 21]))))
def X2:AC :=
 (.seq (rg [xo 4 (qm (.cst .nils))])
 (.seq (rg [xo 5 (qm (.cst .nils))])
 (.seq (.seq (rg [xm 8 0,xn1 9 8,xo 10 (qm (ci 0))])
 (.block 0 (.loop Sz)))
 (.seq (rg [xm 22 5,xm 4 22])
 .ret))))
def Ai2:List Res:=[.tmp 4]
theorem Aji:At Tryd.prog Tryd.f71=some (X2,Ai2):=by kernel_rfl
theorem Ae3:Be Tryd.prog 71=true:=by kernel_rfl
def Hh (a0 a1:List Int) (u0:Nat) (u1:List Int):Option (Ctl (Nat×List Int) (List Int)) :=
 cond (decide ((u0:Int)<(a0.length:Int)))
 (Option.bind (a0[u0]?) fun x11 =>
 Option.bind (E2 a1 x11) fun x12 =>
 og (u1.length+1<=1073741824∧(u1.length+1)*8<=140737488355328) <|
 og (u0+1<4611686018427387904) <|
 some (Ctl.next (u0+1,u1++([x12]))))
 (some (Ctl.out u1))
def Ke (a0 a1:List Int):Option (List Int) :=
 Option.bind (Aw (fun s_:Nat×List Int=>Hh a0 a1 s_.1 s_.2) 4611686018427387904 (0,[])) fun u0 =>
some u0
def Ag6 (r:List Int):RV:=⟨false,[(false,[.new 3 .int r])]⟩
theorem Agk {a0 a1 r:List Int} (h:Ke a0 a1=some r):A0 Tryd.prog Tab 71 [tI a0,tI a1] (Ag6 r):=by
 refine A1 (by kernel_rfl) Tryd.func71 Aji (n:=23) (by kernel_rfl) (by simp) (tl:=[(0,tI a0),(1,tI a1)]) rfl ?_;unfold X2;unfold Ke at h;refine Al ?_;refine Al ?_;refine Ar h (fun (u2:List Int) S_=>S_=⟨Ao [(5,oI 0 1 u2.length)],Aj (Ap [(oi 0 1,.arr 3 .int u2)]),2⟩) ?_ ?_
 ·intro v_ h;refine Al ?_;refine Ae ?_;refine Av h (fun t_ S_=>∃ (u1:Nat),∃ (u0:List Int),t_=(u1,u0)∧S_=⟨Ao [(1,tI a1),(5,oI 0 1 u0.length),(8,tI a0),(9,an a0.length),(10,an u1)],Aj (Ap [(oi 0 1,.arr 3 .int u0)]),2⟩) ⟨_,(My 5 3 .int rfl (by kernel_rfl)).trans (Ac [(oi 0 1,oi 5 6)]),⟨0,[],rfl,rfl⟩⟩ ?_;rintro n_ _ _ c_ ⟨u1,u0,rfl,rfl⟩ h hn5
  (try dsimp only at h);unfold Hh at h;unfold Sz;refine Al ?_;refine Ab ?_;rcases Af h with ⟨q8,h⟩ | ⟨q8,h⟩
  ·have q8_:=of_decide_eq_true q8;refine Ah q8 ?_;refine Ai (tn_ ?_);refine wr_ ?_;refine Ab ?_;refine Ae ?_;refine Ab ?_;obtain ⟨x11,e11,h⟩:=Ad h;refine Aa 6 ?_;refine zI .int e11 ?_;refine rsB 2 ?_;refine Aq (tn_ ?_);refine wr_ ?_;obtain ⟨x12,f12,h⟩:=Ad h;obtain ⟨p12,b12,e12⟩:=Ba f12;obtain ⟨g13,h⟩:=Am h;refine Aa 14 ?_;refine rsB 3 ?_;refine rs0 (.telt none .int x12 0) (zi (t:=.int) (xs:=a1) (k:=.i64) (m:=x11) p12 e12) ?_;refine rsB 2 ?_;refine rs2 (oI 0 12 ((u0++([x12])).length)) (oi 0 1) (oi 0 12) (.arr 3 .int (u0++([x12]))) (I9 (t:=.int) (t':=.int) (xs:=u0) (ys:=[x12]) (zs:=u0++([x12])) (j:=oi 0 1) (len:=u0.length) (c:=oI 19 11 1) (by kernel_rfl) (by kernel_rfl) rfl (by kernel_rfl) (Ma (e:=3) (by kernel_rfl) rfl) rfl g13) ?_;refine rsB 1 ?_;refine Aq (bn_ (tn_ ?_));refine wr_ ?_;obtain ⟨g14,h⟩:=Am h;refine Aa 16 ?_;refine zA g14 ?_;refine rsB 1 ?_;refine Aq (tn_ ?_);obtain rfl:=zj h;exact ⟨(u1+1,u0++([x12])),_,Ac [(oi 0 1,oi 0 12)],⟨u1+1,u0++([x12]),rfl,rfl⟩,hn5⟩
  have q8_:=of_decide_eq_false q8;refine Ag q8 ?_;refine Au (te_ (te_ (be_ (tn_ ?_))));obtain rfl:=zj h;have h:=hn5
  (try dsimp only at h);obtain rfl:=zj h;exact ⟨_,Ac [],rfl⟩
 rintro u2 _ rfl h
 (try dsimp only at h);refine Al ?_;refine An ?_;obtain rfl:=zj h;exact Bo [oI 0 1 u2.length] (A2 rfl (Fy (by kernel_rfl) rfl) A5)
def Sr:AC :=
 (.seq (rg [xs1 14 13 12])
 (.seq (.cond (tm 14)
  .skip
  (.exit 0))
 (.seq (.block 1 (.seq (rg [xx 15 1 11 13,xl 16 15,xm 7 16])
 (rg [xm 17 5,xm 18 0,xm 19 7,xx 20 1 18 19,xl 21 20,xo 22 (.mkS 3 .int [tm 21]),xo 23 (.append 3 .int 8 (tm 17) (tm 22)),xm 5 23])))
 (rg [xa 24 13,xm 13 24]))))
def X3:AC :=
 (.seq (rg [xo 4 (qm (.cst .nils))])
 (.seq (rg [xm 8 1,xn1 9 8,xo 10 (.make 3 .int 8 (ci 0) (tm 9)),xm 5 10])
 (.seq (.seq (rg [xm 11 1,xn1 12 11,xo 13 (qm (ci 0))])
 (.block 0 (.loop Sr)))
 (.seq (rg [xm 25 5,xm 4 25])
 .ret))))
def Ajb:List Res:=[.tmp 4]
theorem Ajs:At Tryd.prog Tryd.f68=some (X3,Ajb):=by kernel_rfl
theorem V2:Be Tryd.prog 68=true:=by kernel_rfl
def Co (a1 a0:List Int) (u0:Nat) (u1:List Int):Option (Ctl (Nat×List Int) (List Int)) :=
 cond (decide ((u0:Int)<(a1.length:Int)))
 (Option.bind (a1[u0]?) fun x12 =>
 Option.bind (E2 a0 x12) fun x13 =>
 og (u1.length+1<=1073741824∧(u1.length+1)*8<=140737488355328) <|
 og (u0+1<4611686018427387904) <|
 some (Ctl.next (u0+1,u1++([x13]))))
 (some (Ctl.out u1))
def Fb (a0 a1:List Int):Option (List Int) :=
 og (0<=(0:Int)∧(0:Int)<=(a1.length:Int)∧(a1.length:Int)<=1073741824∧(8:Int)*(a1.length:Int)<=140737488355328) <|
Option.bind (Aw (fun s_:Nat×List Int=>Co a1 a0 s_.1 s_.2) 4611686018427387904 (0,List.replicate 0 (0:Int))) fun u0 =>
some u0
def Agb (r:List Int):RV:=⟨false,[(false,[.new 3 .int r])]⟩
theorem Vq {a0 a1 r:List Int} (h:Fb a0 a1=some r):A0 Tryd.prog Tab 68 [tI a0,tI a1] (Agb r):=by
 refine A1 (by kernel_rfl) Tryd.func68 Ajs (n:=26) (by kernel_rfl) (by simp) (tl:=[(0,tI a0),(1,tI a1)]) rfl ?_;unfold X3;unfold Fb at h;refine Al ?_;refine Ab ?_;obtain ⟨g3,h⟩:=Am h;refine Aa 6 ?_;refine rsB 2 ?_;refine rs1 (oI 10 4 0) (oi 10 4) (.arr 3 .int (List.replicate 0 (0:Int))) (Lu (t:=.int) (k:=.i64) (k':=.i64) (m:=0) (m':=(a1.length:Int)) (by kernel_rfl) (by kernel_rfl) g3 rfl) ?_;refine rsB 1 ?_;refine Aq (tn_ ?_);refine wr_ ?_;refine Ar h (fun (u2:List Int) S_=>S_=⟨Ao [(5,oI 0 1 u2.length)],Aj (Ap [(oi 0 1,.arr 3 .int u2)]),2⟩) ?_ ?_
 ·intro v_ h;refine Al ?_;refine Ae ?_;refine Av h (fun t_ S_=>∃ (u1:Nat),∃ (u0:List Int),t_=(u1,u0)∧S_=⟨Ao [(0,tI a0),(5,oI 0 1 u0.length),(11,tI a1),(12,an a1.length),(13,an u1)],Aj (Ap [(oi 0 1,.arr 3 .int u0)]),2⟩) ⟨_,(A8 5 (oI 10 4 0) (oI 10 4 ((List.replicate 0 (0:Int)).length)) (by kernel_rfl) (congrArg (fun z_=>((oI 10 4 z_):AV)) (List.length_replicate.symm:0=(List.replicate 0 (0:Int)).length))).trans (Ac [(oi 0 1,oi 10 4)]),⟨0,List.replicate 0 (0:Int),rfl,rfl⟩⟩ ?_;rintro n_ _ _ c_ ⟨u1,u0,rfl,rfl⟩ h hn6
  (try dsimp only at h);unfold Co at h;unfold Sr;refine Al ?_;refine Ab ?_;rcases Af h with ⟨q9,h⟩ | ⟨q9,h⟩
  ·have q9_:=of_decide_eq_true q9;refine Ah q9 ?_;refine Ai (tn_ ?_);refine wr_ ?_;refine Ab ?_;refine Ae ?_;refine Ab ?_;obtain ⟨x12,e12,h⟩:=Ad h;refine Aa 6 ?_;refine zI .int e12 ?_;refine rsB 2 ?_;refine Aq (tn_ ?_);refine wr_ ?_;obtain ⟨x13,f13,h⟩:=Ad h;obtain ⟨p13,b13,e13⟩:=Ba f13;obtain ⟨g14,h⟩:=Am h;refine Aa 14 ?_;refine rsB 3 ?_;refine rs0 (.telt none .int x13 0) (zi (t:=.int) (xs:=a0) (k:=.i64) (m:=x12) p13 e13) ?_;refine rsB 2 ?_;refine rs2 (oI 0 12 ((u0++([x13])).length)) (oi 0 1) (oi 0 12) (.arr 3 .int (u0++([x13]))) (I9 (t:=.int) (t':=.int) (xs:=u0) (ys:=[x13]) (zs:=u0++([x13])) (j:=oi 0 1) (len:=u0.length) (c:=oI 22 11 1) (by kernel_rfl) (by kernel_rfl) rfl (by kernel_rfl) (Ma (e:=3) (by kernel_rfl) rfl) rfl g14) ?_;refine rsB 1 ?_;refine Aq (bn_ (tn_ ?_));refine wr_ ?_;obtain ⟨g15,h⟩:=Am h;refine Aa 16 ?_;refine zA g15 ?_;refine rsB 1 ?_;refine Aq (tn_ ?_);obtain rfl:=zj h;exact ⟨(u1+1,u0++([x13])),_,Ac [(oi 0 1,oi 0 12)],⟨u1+1,u0++([x13]),rfl,rfl⟩,hn6⟩
  have q9_:=of_decide_eq_false q9;refine Ag q9 ?_;refine Au (te_ (te_ (be_ (tn_ ?_))));obtain rfl:=zj h;have h:=hn6
  (try dsimp only at h);obtain rfl:=zj h;exact ⟨_,Ac [],rfl⟩
 rintro u2 _ rfl h
 (try dsimp only at h);refine Al ?_;refine An ?_;obtain rfl:=zj h;exact Bo [oI 0 1 u2.length] (A2 rfl (Fy (by kernel_rfl) rfl) A5)
end Go.Proofs.YtpnofkjgeokdhaaDoor

namespace Go.Proofs.YtpnofkjgeokdhaaDoor
open Go.RowKit Go.Deep
set_option maxRecDepth 4000
def Wr:AC :=
 (.seq (rg [xo 4 (qm (ci 0))])
 (.seq (rg [xm 5 1,xm 6 0,xn1 7 6,xo 8 (qb .sub (tm 5) (tm 7)),xm 1 8])
 (.seq (.seq (rg [xm 9 1,xo 10 (qb .lss (tm 9) (ci 0))])
 (.cond (tm 10)
  (.seq (rg [xo 4 (qm (ci (-1)))])
  .ret)
  .skip))
 (.seq (rg [xm 11 1,xm 4 11])
 .ret))))
def Afy:List Res:=[.tmp 4]
theorem Ah1:At Tryd.prog Tryd.f9=some (Wr,Afy):=by kernel_rfl
def Je (a0:List (Int×Int×Int×Int)) (a1:Int):Option Int :=
 cond (decide (wI (a1 - (a0.length:Int))<0))
 (some (-1))
 (some (wI (a1 - (a0.length:Int))))
def Add (r:Int):RV:=⟨false,[(false,[.sc (.int .i64 r)])]⟩
theorem Adq {a0:List (Int×Int×Int×Int)} {a1 r:Int} (h:Je a0 a1=some r):A0 Tryd.prog Tab 9 [.tree T4 a0,ai a1] (Add r):=by
 refine A1 (by kernel_rfl) Tryd.func9 Ah1 (n:=12) (by kernel_rfl) (by simp) (tl:=[(0,.tree T4 a0),(1,ai a1)]) rfl ?_;unfold Wr;unfold Je at h;refine Al ?_;refine Al ?_;refine Ab ?_;refine Al ?_;rcases Af h with ⟨q5,h⟩ | ⟨q5,h⟩
 ·have q5_:=of_decide_eq_true q5;refine Ah q5 ?_;refine Al ?_;refine An (tr_ ?_);obtain rfl:=zj h;exact Bo [ai (-1)] (A2 rfl zl A5)
 have q5_:=of_decide_eq_false q5;refine Ag q5 ?_;refine Ai (tn_ ?_);refine wr_ ?_;refine Al ?_;refine An ?_;obtain rfl:=zj h;exact Bo [ai (wI (a1 - (a0.length:Int)))] (A2 rfl zl A5)
def R6:AC :=
 (.seq (rg [xo 2 (.i (.box 25 (tm 0))),xo 4 (qm (ci 0))])
 (.seq (rg [xf 5 1 2,xl 6 5,xm 7 1,⟨some 8,none,qc 9 [tm 6,tm 7] [[some T4],[]]⟩,xm 1 8])
 (.seq (.seq (rg [xm 9 1,xo 10 (qb .lss (tm 9) (ci 0))])
 (.cond (tm 10)
  (.seq (rg [xo 4 (qm (ci (-1)))])
  .ret)
  .skip))
 (.seq (rg [xf 11 2 2,xl 12 11,xm 13 1,xo 14 (qc 10 [tm 12,tm 13] [[some .int],[]]),xm 1 14])
 (.seq (.seq (rg [xm 15 1,xo 16 (qb .lss (tm 15) (ci 0))])
 (.cond (tm 16)
  (.seq (rg [xo 4 (qm (ci (-1)))])
  .ret)
  .skip))
 (.seq (rg [xm 17 1,xm 4 17])
 .ret))))))
def Ack:List Res:=[.tmp 4]
theorem Abd:At Tryd.prog Tryd.f4=some (R6,Ack):=by kernel_rfl
def Hv (u2:Int) (u0:List (Int×Int×Int×Int)) (u1:List Int) (a1:Int):Option Int :=
 Option.bind (Je u0 a1) fun y3 =>
cond (decide (y3<0))
 (some (-1))
 (Option.bind (Kb u1 y3) fun y9 =>
 cond (decide (y9<0))
  (some (-1))
  (some y9))
def Aac (r:Int):RV:=⟨false,[(false,[.sc (.int .i64 r)])]⟩
theorem Zv {u2:Int} {u0:List (Int×Int×Int×Int)} {u1:List Int} {a1 r:Int} (h:Hv u2 u0 u1 a1=some r):A0 Tryd.prog Tab 4 [.agg [ai u2,.tree T4 u0,tI u1],ai a1] (Aac r):=by
 refine A1 (by kernel_rfl) Tryd.func4 Abd (n:=18) (by kernel_rfl) (by simp) (tl:=[(0,.agg [ai u2,.tree T4 u0,tI u1]),(1,ai a1)]) rfl ?_;unfold R6;unfold Hv at h;refine Al ?_;refine Ab ?_;obtain ⟨y3,h3,h⟩:=Ad h;refine Aa 8 ?_;refine rsB 3 ?_;refine zc (ai y3) [] [.tree T4 u0,ai a1] (Adq h3) ?_;refine rsB 1 ?_;refine Aq (tn_ ?_);refine wr_ ?_;refine Ab ?_;refine Al ?_;rcases Af h with ⟨q6,h⟩ | ⟨q6,h⟩
 ·have q6_:=of_decide_eq_true q6;refine Ah q6 ?_;refine Al ?_;refine An (tr_ ?_);obtain rfl:=zj h;exact Bo [ai (-1)] (A2 rfl zl A5)
 have q6_:=of_decide_eq_false q6;refine Ag q6 ?_;refine Ai (tn_ ?_);refine wr_ ?_;refine Ab ?_;obtain ⟨y9,h9,h⟩:=Ad h;refine Aa 15 ?_;refine rsB 3 ?_;refine zc (ai y9) [] [tI u1,ai y3] (Aev h9) ?_;refine rsB 1 ?_;refine Aq (tn_ ?_);refine wr_ ?_;refine Ab ?_;refine Al ?_;rcases Af h with ⟨q12,h⟩ | ⟨q12,h⟩
 ·have q12_:=of_decide_eq_true q12;refine Ah q12 ?_;refine Al ?_;refine An (tr_ ?_);obtain rfl:=zj h;exact Bo [ai (-1)] (A2 rfl zl A5)
 have q12_:=of_decide_eq_false q12;refine Ag q12 ?_;refine Ai (tn_ ?_);refine wr_ ?_;refine Al ?_;refine An ?_;obtain rfl:=zj h;exact Bo [ai y9] (A2 rfl zl A5)
def Yg:AC :=
 (.seq (rg [xo 1 (.i (.box 57 (tm 0))),xo 2 (.i (.alloc 55 [.int .i64 0,.int .i64 0,.int .i64 0,.int .i64 0]))])
 (.seq (rg [xo 3 (.i (.alloc 55 [.int .i64 0,.int .i64 0,.int .i64 0,.int .i64 0]))])
 (.seq (rg [xf 4 0 1,xl 5 4,xf 6 0 3,xn (qs (tm 6) (tm 5))])
 (.seq (rg [xf 7 1 1,xl 8 7,xf 9 1 3,xn (qs (tm 9) (tm 8))])
 (.seq (rg [xf 10 2 1,xl 11 10,xf 12 2 3,xn (qs (tm 12) (tm 11))])
 (.seq (rg [xf 13 3 1,xl 14 13,xf 15 3 3,xn (qs (tm 15) (tm 14))])
 (.seq (rg [xo 16 (.i (.ld false 4 (tm 3))),xn (.st false 4 (tm 2) (tm 16))])
 .ret)))))))
def Aki:List Res:=[.cell 2 false 4]
theorem Ai9:At Tryd.prog Tryd.f27=some (Yg,Aki):=by kernel_rfl
def M5 (u0 u1:Int) (u2 u3:Int):Option (Int×Int×Int×Int) :=
 some (u0,u1,u2,u3)
def Ahy (r:Int×Int×Int×Int):RV:=⟨false,[(true,[.sc (.int .i64 r.1),.sc (.int .i64 r.2.1),.sc (.int .i64 r.2.2.1),.sc (.int .i64 r.2.2.2)])]⟩
theorem Ag3 {u0 u1:Int} {u2 u3:Int} {r:Int×Int×Int×Int} (h:M5 u0 u1 u2 u3=some r):A0 Tryd.prog Tab 27 [.agg [ai u0,ai u1,ai u2,ai u3]] (Ahy r):=by
 refine A1 (by kernel_rfl) Tryd.func27 Ai9 (n:=17) (by kernel_rfl) (by simp) (tl:=[(0,.agg [ai u0,ai u1,ai u2,ai u3])]) rfl ?_;unfold Yg;unfold M5 at h;refine Al ?_;refine Al ?_;refine Al ?_;refine Al ?_;refine Al ?_;refine Al ?_;refine Al ?_;refine An ?_;obtain rfl:=zj h;exact Bo [.agg [ai u0,ai u1,ai u2,ai u3]] (A0m (Yr zl (Yr zl (Yr zl (Yr zl Az6)))) A5)
def Rd:AC :=
 (.seq (.seq (rg [xm 8 4,xm 9 0,xn1 10 9,xs1 11 8 10])
 (.cond (tm 11)
  .skip
  (.exit 0)))
 (.seq (.block 1 (rg [xm 14 3,xm 15 4,xm 16 0,xm 17 4,xx 18 4 16 17,xo 19 (.i (.ld false 4 (tm 18))),xo 20 (qc 27 [tm 19] [[none,none,none,none]]),xx 21 4 14 15,xn (.st false 4 (tm 21) (tm 20))]))
 (rg [xm 12 4,xa 13 12,xm 4 13])))
def Vy:AC :=
 (.seq (rg [xo 2 (qm (.cst .nils))])
 (.seq (rg [xm 5 0,xn1 6 5,⟨some 7,none,.make 55 T4 32 (tm 6) (tm 6)⟩,xm 3 7])
 (.seq (.seq (rg [xo 4 (qm (ci 0))])
 (.block 0 (.loop Rd)))
 (.seq (rg [xm 22 3,xm 2 22])
 .ret))))
def Aip:List Res:=[.tmp 2]
theorem Ae2:At Tryd.prog Tryd.f13=some (Vy,Aip):=by kernel_rfl
def Gj (a0:List (Int×Int×Int×Int)) (u0:Nat) (u1:List (Int×Int×Int×Int)):Option (Ctl (Nat×(List (Int×Int×Int×Int))) (List (Int×Int×Int×Int))) :=
 cond (decide ((u0:Int)<(a0.length:Int)))
 (Option.bind (a0[u0]?) fun x11 =>
 Option.bind (M5 x11.1 x11.2.1 x11.2.2.1 x11.2.2.2) fun y12 =>
 Option.bind (u1[u0]?) fun x13 =>
 og (u0+1<4611686018427387904) <|
 some (Ctl.next (u0+1,u1.set u0 y12)))
 (some (Ctl.out u1))
def I5 (a0:List (Int×Int×Int×Int)):Option (List (Int×Int×Int×Int)) :=
 og (0<=(a0.length:Int)∧(a0.length:Int)<=(a0.length:Int)∧(a0.length:Int)<=1073741824∧(32:Int)*(a0.length:Int)<=140737488355328) <|
Option.bind (Aw (fun s_:Nat×(List (Int×Int×Int×Int))=>Gj a0 s_.1 s_.2) 4611686018427387904 (0,List.replicate a0.length ((0,0,0,0):Int×Int×Int×Int))) fun u0 =>
some u0
def Adu (r:List (Int×Int×Int×Int)):RV:=⟨false,[(false,[.new 55 T4 r])]⟩
theorem Adg {a0:List (Int×Int×Int×Int)} {r:List (Int×Int×Int×Int)} (h:I5 a0=some r):A0 Tryd.prog Tab 13 [.tree T4 a0] (Adu r):=by
 refine A1 (by kernel_rfl) Tryd.func13 Ae2 (n:=23) (by kernel_rfl) (by simp) (tl:=[(0,.tree T4 a0)]) rfl ?_;unfold Vy;unfold I5 at h;refine Al ?_;refine Ab ?_;obtain ⟨g3,h⟩:=Am h;refine Aa 6 ?_;refine rsB 2 ?_;refine rs1 (.own (oi 7 4) T4 0 a0.length) (oi 7 4) (.arr 55 T4 (List.replicate a0.length ((0,0,0,0):Int×Int×Int×Int))) (Lu (t:=T4) (k:=.i64) (k':=.i64) (m:=(a0.length:Int)) (m':=(a0.length:Int)) (by kernel_rfl) (by kernel_rfl) g3 rfl) ?_;refine rsB 1 ?_;refine Aq (tn_ ?_);refine wr_ ?_;refine Ar h (fun (u2:List (Int×Int×Int×Int)) S_=>S_=⟨Ao [(3,.own (oi 0 1) T4 0 u2.length)],Aj (Ap [(oi 0 1,.arr 55 T4 u2)]),2⟩) ?_ ?_
 ·intro v_ h;refine Al ?_;refine Ae ?_;refine Av h (fun t_ S_=>∃ (u1:Nat),∃ (u0:List (Int×Int×Int×Int)),t_=(u1,u0)∧S_=⟨Ao [(0,.tree T4 a0),(3,.own (oi 0 1) T4 0 u0.length),(4,an u1)],Aj (Ap [(oi 0 1,.arr 55 T4 u0)]),2⟩) ⟨_,(A8 3 (.own (oi 7 4) T4 0 a0.length) (.own (oi 7 4) T4 0 ((List.replicate a0.length ((0,0,0,0):Int×Int×Int×Int)).length)) (by kernel_rfl) (congrArg (fun z_=>((.own (oi 7 4) T4 0 z_):AV)) (List.length_replicate.symm:a0.length=(List.replicate a0.length ((0,0,0,0):Int×Int×Int×Int)).length))).trans (Ac [(oi 0 1,oi 7 4)]),⟨0,List.replicate a0.length ((0,0,0,0):Int×Int×Int×Int),rfl,rfl⟩⟩ ?_;rintro n_ _ _ c_ ⟨u1,u0,rfl,rfl⟩ h hn6
  (try dsimp only at h);unfold Gj at h;unfold Rd;refine Ab ?_;refine Al ?_;rcases Af h with ⟨q9,h⟩ | ⟨q9,h⟩
  ·have q9_:=of_decide_eq_true q9;refine Ah q9 ?_;refine Ai (tn_ ?_);refine wr_ ?_;refine Ab ?_;refine Ae ?_;obtain ⟨x11,e11,h⟩:=Ad h;obtain ⟨y12,h12,h⟩:=Ad h;obtain ⟨x13,e13,h⟩:=Ad h;refine Aa 15 ?_;refine rsB 4 ?_;refine zI T4 e11 ?_;refine rsB 1 ?_;refine zc (.agg [ai y12.1,ai y12.2.1,ai y12.2.2.1,ai y12.2.2.2]) [] [.agg [ai x11.1,ai x11.2.1,ai x11.2.2.1,ai x11.2.2.2]] (Ag3 h12) ?_;refine zO (oi 0 1) T4 u0.length (As e13) ?_;refine Ame (oi 0 1) (oi 0 1) (.arr 55 T4 (u0.set u1 y12)) (Zm (i:=oi 0 1) (j:=u1) (k:=0) (e:=55) (t:=T4) (xs:=u0) (cs:=[ai y12.1,ai y12.2.1,ai y12.2.2.1,ai y12.2.2.2]) (x1:=y12) (by kernel_rfl) (by kernel_rfl) e13 (by kernel_rfl) (by kernel_rfl)) ?_;refine Aq (bn_ (tn_ ?_));refine wr_ ?_;obtain ⟨g14,h⟩:=Am h;refine Aa 18 ?_;refine rsB 1 ?_;refine zA g14 ?_;refine rsB 1 ?_;refine Aq (tn_ ?_);obtain rfl:=zj h;exact ⟨(u1+1,u0.set u1 y12),_,(A8 3 (.own (oi 0 1) T4 0 u0.length) (.own (oi 0 1) T4 0 ((u0.set u1 y12).length)) (by kernel_rfl) (congrArg (fun z_=>((.own (oi 0 1) T4 0 z_):AV)) (((rfl:u0.length=u0.length).trans List.length_set.symm):u0.length=(u0.set u1 y12).length))).trans (Ac []),⟨u1+1,u0.set u1 y12,rfl,rfl⟩,hn6⟩
  have q9_:=of_decide_eq_false q9;refine Ag q9 ?_;refine Au (te_ (te_ (be_ (tn_ ?_))));obtain rfl:=zj h;have h:=hn6
  (try dsimp only at h);obtain rfl:=zj h;exact ⟨_,Ac [],rfl⟩
 rintro u2 _ rfl h
 (try dsimp only at h);refine Al ?_;refine An ?_;obtain rfl:=zj h;exact Bo [.own (oi 0 1) T4 0 u2.length] (A2 rfl (Fy (by kernel_rfl) rfl) A5)
def Sa:AC :=
 (.seq (rg [xo 1 (.i (.box 25 (tm 0))),xo 2 (.i (.alloc 31 [.int .i64 0,.nils,.nils]))])
 (.seq (rg [xo 3 (.i (.alloc 31 [.int .i64 0,.nils,.nils]))])
 (.seq (rg [xf 4 0 1,xl 5 4,xf 6 0 3,xn (qs (tm 6) (tm 5))])
 (.seq (rg [xf 7 1 1,xl 8 7,⟨some 9,none,qc 13 [tm 8] [[some T4]]⟩,xf 10 1 3,xn (qs (tm 10) (tm 9))])
 (.seq (rg [xf 11 2 1,xl 12 11,xo 13 (qc 14 [tm 12] [[some .int]]),xf 14 2 3,xn (qs (tm 14) (tm 13))])
 (.seq (rg [xo 15 (.i (.ld false 3 (tm 3))),xn (.st false 3 (tm 2) (tm 15))])
 .ret))))))
def Abe:List Res:=[.cell 2 false 3]
theorem Abf:At Tryd.prog Tryd.f6=some (Sa,Abe):=by kernel_rfl
def D8 (u0:Int) (u1:List (Int×Int×Int×Int)) (u2:List Int):Option (Int×(List (Int×Int×Int×Int))×List Int) :=
 Option.bind (I5 u1) fun y5 =>
Option.bind (Kr u2) fun y7 =>
some (u0,y5,y7)
def Aaz (r:Int×(List (Int×Int×Int×Int))×List Int):RV:=⟨false,[(true,[.sc (.int .i64 r.1),.new 55 T4 r.2.1,.new 3 .int r.2.2])]⟩
theorem L4 {u0:Int} {u1:List (Int×Int×Int×Int)} {u2:List Int} {r:Int×(List (Int×Int×Int×Int))×List Int} (h:D8 u0 u1 u2=some r):A0 Tryd.prog Tab 6 [.agg [ai u0,.tree T4 u1,tI u2]] (Aaz r):=by
 refine A1 (by kernel_rfl) Tryd.func6 Abf (n:=16) (by kernel_rfl) (by simp) (tl:=[(0,.agg [ai u0,.tree T4 u1,tI u2])]) rfl ?_;unfold Sa;unfold D8 at h;refine Al ?_;refine Al ?_;refine Al ?_;refine Ab ?_;obtain ⟨y5,h5,h⟩:=Ad h;refine Aa 13 ?_;refine rsB 2 ?_;refine zc (.own (oi 144 10) T4 0 y5.length) [(oi 144 10,some (.arr 55 T4 y5))] [.tree T4 u1] (Adg h5) ?_;refine rsB 2 ?_;refine Aq (tn_ ?_);refine wr_ ?_;refine Ab ?_;obtain ⟨y7,h7,h⟩:=Ad h;refine Aa 18 ?_;refine rsB 2 ?_;refine zc (oI 208 15 y7.length) [nI 208 15 y7] [tI u2] (Aet h7) ?_;refine rsB 2 ?_;refine Aq (tn_ ?_);refine wr_ ?_;refine Al ?_;refine An ?_;obtain rfl:=zj h;exact Bo [.agg [ai u0,.own (oi 144 10) T4 0 y5.length,oI 208 15 y7.length]] (A0m (Yr zl (Yr (Fy (by kernel_rfl) rfl) (Yr (Fy (by kernel_rfl) rfl) Az6))) A5)
def Xs:AC :=
 (.seq (rg [xo 2 (.i (.box 55 (tm 0))),xo 3 (.i (.box 55 (tm 1))),xo 4 (qm (cb false))])
 (.seq (.seq (rg [xf 5 0 2,xl 6 5,xf 7 0 3,xl 8 7,xo 9 (qb .neq (tm 6) (tm 8))])
 (.cond (tm 9)
  (.seq (rg [xo 4 (qm (cb false))])
  .ret)
  .skip))
 (.seq (.seq (rg [xf 10 1 2,xl 11 10,xf 12 1 3,xl 13 12,xo 14 (qb .neq (tm 11) (tm 13))])
 (.cond (tm 14)
  (.seq (rg [xo 4 (qm (cb false))])
  .ret)
  .skip))
 (.seq (.seq (rg [xf 15 2 2,xl 16 15,xf 17 2 3,xl 18 17,xo 19 (qb .neq (tm 16) (tm 18))])
 (.cond (tm 19)
  (.seq (rg [xo 4 (qm (cb false))])
  .ret)
  .skip))
 (.seq (.seq (rg [xf 20 3 2,xl 21 20,xf 22 3 3,xl 23 22,xo 24 (qb .neq (tm 21) (tm 23))])
 (.cond (tm 24)
  (.seq (rg [xo 4 (qm (cb false))])
  .ret)
  .skip))
 (.seq (rg [xo 4 (qm (cb true))])
 .ret))))))
def Ajl:List Res:=[.tmp 4]
theorem Ai8:At Tryd.prog Tryd.f32=some (Xs,Ajl):=by kernel_rfl
def Nb (u0 u1:Int) (u2 u3:Int) (u4 u5:Int) (u6 u7:Int):Option Bool :=
 cond (u0 !=u4)
 (some false)
 (cond (u1 !=u5)
  (some false)
  (cond (u2 !=u6)
   (some false)
   (cond (u3 !=u7)
    (some false)
    (some true))))
def Aga (r:Bool):RV:=⟨false,[(false,[.sc (.bool r)])]⟩
theorem Aff {u0 u1:Int} {u2 u3:Int} {u4 u5:Int} {u6 u7:Int} {r:Bool} (h:Nb u0 u1 u2 u3 u4 u5 u6 u7=some r):A0 Tryd.prog Tab 32 [.agg [ai u0,ai u1,ai u2,ai u3],.agg [ai u4,ai u5,ai u6,ai u7]] (Aga r):=by
 refine A1 (by kernel_rfl) Tryd.func32 Ai8 (n:=25) (by kernel_rfl) (by simp) (tl:=[(0,.agg [ai u0,ai u1,ai u2,ai u3]),(1,.agg [ai u4,ai u5,ai u6,ai u7])]) rfl ?_;unfold Xs;unfold Nb at h;refine Al ?_;refine Ab ?_;refine Al ?_;rcases Af h with ⟨q4,h⟩ | ⟨q4,h⟩
 ·refine Ah q4 ?_;refine Al ?_;refine An (tr_ ?_);obtain rfl:=zj h;exact Bo [.bool false] (A2 rfl zl A5)
 refine Ag q4 ?_;refine Ai (tn_ ?_);refine wr_ ?_;refine Ab ?_;refine Al ?_;rcases Af h with ⟨q8,h⟩ | ⟨q8,h⟩
 ·refine Ah q8 ?_;refine Al ?_;refine An (tr_ ?_);obtain rfl:=zj h;exact Bo [.bool false] (A2 rfl zl A5)
 refine Ag q8 ?_;refine Ai (tn_ ?_);refine wr_ ?_;refine Ab ?_;refine Al ?_;rcases Af h with ⟨q12,h⟩ | ⟨q12,h⟩
 ·refine Ah q12 ?_;refine Al ?_;refine An (tr_ ?_);obtain rfl:=zj h;exact Bo [.bool false] (A2 rfl zl A5)
 refine Ag q12 ?_;refine Ai (tn_ ?_);refine wr_ ?_;refine Ab ?_;refine Al ?_;rcases Af h with ⟨q16,h⟩ | ⟨q16,h⟩
 ·refine Ah q16 ?_;refine Al ?_;refine An (tr_ ?_);obtain rfl:=zj h;exact Bo [.bool false] (A2 rfl zl A5)
 refine Ag q16 ?_;refine Ai (tn_ ?_);refine wr_ ?_;refine Al ?_;refine An ?_;obtain rfl:=zj h;exact Bo [.bool true] (A2 rfl zl A5)
def Rh:AC :=
 (.seq (.seq (rg [xm 11 5,xm 12 0,xn1 13 12,xs1 14 11 13])
 (.cond (tm 14)
  .skip
  (.exit 0)))
 (.seq (.block 1 (.seq (.region [xm 17 0,xm 18 5,xx 19 4 17 18,xo 20 (.i (.ld false 4 (tm 19))),xm 21 1,xm 22 5,xx 23 4 21 22,xo 24 (.i (.ld false 4 (tm 23))),xo 25 (qc 32 [tm 20,tm 24] [[none,none,none,none],[none,none,none,none]]),xo 26 (.i (.not (tm 25)))] true [])
 (.cond (tm 26)
  (.seq (rg [xo 4 (qm (cb false))])
  .ret)
  .skip)))
 (rg [xm 15 5,xa 16 15,xm 5 16])))
def Ww:AC :=
 (.seq (rg [xo 4 (qm (cb false))])
 (.seq (.seq (rg [xm 6 0,xn1 7 6,xm 8 1,xn1 9 8,xo 10 (qb .neq (tm 7) (tm 9))])
 (.cond (tm 10)
  (.seq (rg [xo 4 (qm (cb false))])
  .ret)
  .skip))
 (.seq (.seq (rg [xo 5 (qm (ci 0))])
 (.block 0 (.loop Rh)))
 (.seq (rg [xo 4 (qm (cb true))])
 .ret))))
def Aeu:List Res:=[.tmp 4]
theorem Aew:At Tryd.prog Tryd.f17=some (Ww,Aeu):=by kernel_rfl
def Ge (a0:List (Int×Int×Int×Int)) (a1:List (Int×Int×Int×Int)) (u0:Nat):Option (Ctl Nat (Ctl Unit Bool)) :=
 cond (decide ((u0:Int)<(a0.length:Int)))
 (Option.bind (a0[u0]?) fun x14 =>
 Option.bind (a1[u0]?) fun x15 =>
 Option.bind (Nb x14.1 x14.2.1 x14.2.2.1 x14.2.2.2 x15.1 x15.2.1 x15.2.2.1 x15.2.2.2) fun y16 =>
 cond (!y16)
  (some (Ctl.out (Ctl.out false)))
  (og (u0+1<4611686018427387904) <|
  some (Ctl.next (u0+1))))
 (some (Ctl.out (Ctl.next ())))
def I3 (a0:List (Int×Int×Int×Int)) (a1:List (Int×Int×Int×Int)):Option Bool :=
 cond ((a0.length:Int) !=(a1.length:Int))
 (some false)
 (Sn (Aw (fun s_:Nat=>Ge a0 a1 s_) 4611686018427387904 0) fun _ =>
 some true)
def Ad7 (r:Bool):RV:=⟨false,[(false,[.sc (.bool r)])]⟩
theorem Ad5 {a0:List (Int×Int×Int×Int)} {a1:List (Int×Int×Int×Int)} {r:Bool} (h:I3 a0 a1=some r):A0 Tryd.prog Tab 17 [.tree T4 a0,.tree T4 a1] (Ad7 r):=by
 refine A1 (by kernel_rfl) Tryd.func17 Aew (n:=27) (by kernel_rfl) (by simp) (tl:=[(0,.tree T4 a0),(1,.tree T4 a1)]) rfl ?_;unfold Ww;unfold I3 at h;refine Al ?_;refine Ab ?_;refine Al ?_;rcases Af h with ⟨q4,h⟩ | ⟨q4,h⟩
 ·refine Ah q4 ?_;refine Al ?_;refine An (tr_ ?_);obtain rfl:=zj h;exact Bo [.bool false] (A2 rfl zl A5)
 refine Ag q4 ?_;refine Ai (tn_ ?_);refine wr_ ?_;refine Hz h (fun (_:Unit) S_=>S_=⟨Ao [],Aj (Ap []),2⟩) ?_ ?_
 ·intro v_ h hk6;refine Al ?_;refine Ae ?_;refine Av h (fun (u0:Nat) S_=>S_=⟨Ao [(0,.tree T4 a0),(1,.tree T4 a1),(5,an u0)],Aj (Ap []),2⟩) ⟨_,Ac [],rfl⟩ ?_;rintro n_ u0 _ c_ rfl h hn8
  (try dsimp only at h);unfold Ge at h;unfold Rh;refine Ab ?_;refine Al ?_;rcases Af h with ⟨q11,h⟩ | ⟨q11,h⟩
  ·have q11_:=of_decide_eq_true q11;refine Ah q11 ?_;refine Ai (tn_ ?_);refine wr_ ?_;refine Ab ?_;refine Ae ?_;refine Ab ?_;obtain ⟨x14,e14,h⟩:=Ad h;obtain ⟨x15,e15,h⟩:=Ad h;obtain ⟨y16,h16,h⟩:=Ad h;refine Ax 16 ?_;refine dz0 (.tree T4 a0) ?_;refine dz0 (an u0) ?_;refine dzI T4 e14 ?_;refine dz0 (.agg [ai x14.1,ai x14.2.1,ai x14.2.2.1,ai x14.2.2.2]) ?_;refine dz0 (.tree T4 a1) ?_;refine dz0 (an u0) ?_;refine dzI T4 e15 ?_;refine dz0 (.agg [ai x15.1,ai x15.2.1,ai x15.2.2.1,ai x15.2.2.2]) ?_;refine dzc (.bool y16) [] [.agg [ai x14.1,ai x14.2.1,ai x14.2.2.1,ai x14.2.2.2],.agg [ai x15.1,ai x15.2.1,ai x15.2.2.1,ai x15.2.2.2]] (Aff h16) ?_;refine dz0 (.bool (!y16)) ?_;refine F5 (Bc (by kernel_rfl)) (tn_ ?_);refine wr_ ?_;rcases Af h with ⟨q17,h⟩ | ⟨q17,h⟩
   ·refine Ah q17 ?_;refine Al ?_;refine An (br_ (tr_ (tr_ (br_ (tr_ ?_)))));obtain rfl:=zj h;have h:=hn8
    (try dsimp only at h);obtain rfl:=zj h;have h:=hk6
    (try dsimp only at h);obtain rfl:=zj h;exact Bo [.bool false] (A2 rfl zl A5)
   refine Ag q17 ?_;refine Ai (bn_ (tn_ ?_));refine wr_ ?_;obtain ⟨g19,h⟩:=Am h;refine Aa 19 ?_;refine rsB 1 ?_;refine zA g19 ?_;refine rsB 1 ?_;refine Aq (tn_ ?_);obtain rfl:=zj h;exact ⟨u0+1,_,Ac [],rfl,hn8⟩
  have q11_:=of_decide_eq_false q11;refine Ag q11 ?_;refine Au (te_ (te_ (be_ (tn_ ?_))));obtain rfl:=zj h;have h:=hn8
  (try dsimp only at h);obtain rfl:=zj h;exact ⟨(),_,rfl,Ac [],rfl⟩
 rintro _ _ rfl h
 (try dsimp only at h);refine Al ?_;refine An ?_;obtain rfl:=zj h;exact Bo [.bool true] (A2 rfl zl A5)
def S4:AC :=
 (.seq (rg [xo 2 (.i (.box 31 (tm 0))),xo 3 (.i (.box 31 (tm 1))),xo 4 (qm (cb false))])
 (.seq (.seq (rg [xf 5 0 2,xl 6 5,xf 7 0 3,xl 8 7,xo 9 (qb .neq (tm 6) (tm 8))])
 (.cond (tm 9)
  (.seq (rg [xo 4 (qm (cb false))])
  .ret)
  .skip))
 (.seq (.seq (rg [xf 10 1 2,xl 11 10,xf 12 1 3,xl 13 12,⟨some 14,none,qc 17 [tm 11,tm 13] [[some T4],[some T4]]⟩,xo 15 (.i (.not (tm 14)))])
 (.cond (tm 15)
  (.seq (rg [xo 4 (qm (cb false))])
  .ret)
  .skip))
 (.seq (.seq (rg [xf 16 2 2,xl 17 16,xf 18 2 3,xl 19 18,xo 20 (qc 18 [tm 17,tm 19] [[some .int],[some .int]]),xo 21 (.i (.not (tm 20)))])
 (.cond (tm 21)
  (.seq (rg [xo 4 (qm (cb false))])
  .ret)
  .skip))
 (.seq (rg [xo 4 (qm (cb true))])
 .ret)))))
def Abq:List Res:=[.tmp 4]
theorem Abs:At Tryd.prog Tryd.f8=some (S4,Abq):=by kernel_rfl
theorem Zl:Be Tryd.prog 8=true:=by kernel_rfl
def G6 (u0:Int) (u1:List (Int×Int×Int×Int)) (u2:List Int) (u3:Int) (u4:List (Int×Int×Int×Int)) (u5:List Int):Option Bool :=
 cond (u0 !=u3)
 (some false)
 (Option.bind (I3 u1 u4) fun y8 =>
 cond (!y8)
  (some false)
  (Option.bind (Kn u2 u5) fun y13 =>
  cond (!y13)
   (some false)
   (some true)))
def Zw (r:Bool):RV:=⟨false,[(false,[.sc (.bool r)])]⟩
theorem Zj {u4:Int} {u0:List (Int×Int×Int×Int)} {u1:List Int} {u5:Int} {u2:List (Int×Int×Int×Int)} {u3:List Int} {r:Bool} (h:G6 u4 u0 u1 u5 u2 u3=some r):A0 Tryd.prog Tab 8 [.agg [ai u4,.tree T4 u0,tI u1],.agg [ai u5,.tree T4 u2,tI u3]] (Zw r):=by
 refine A1 (by kernel_rfl) Tryd.func8 Abs (n:=22) (by kernel_rfl) (by simp) (tl:=[(0,.agg [ai u4,.tree T4 u0,tI u1]),(1,.agg [ai u5,.tree T4 u2,tI u3])]) rfl ?_;unfold S4;unfold G6 at h;refine Al ?_;refine Ab ?_;refine Al ?_;rcases Af h with ⟨q4,h⟩ | ⟨q4,h⟩
 ·refine Ah q4 ?_;refine Al ?_;refine An (tr_ ?_);obtain rfl:=zj h;exact Bo [.bool false] (A2 rfl zl A5)
 refine Ag q4 ?_;refine Ai (tn_ ?_);refine wr_ ?_;refine Ab ?_;refine Ab ?_;obtain ⟨y8,h8,h⟩:=Ad h;refine Aa 15 ?_;refine rsB 4 ?_;refine zc (.bool y8) [] [.tree T4 u0,.tree T4 u2] (Ad5 h8) ?_;refine rsB 1 ?_;refine Aq (tn_ ?_);refine wr_ ?_;rcases Af h with ⟨q9,h⟩ | ⟨q9,h⟩
 ·refine Ah q9 ?_;refine Al ?_;refine An (tr_ ?_);obtain rfl:=zj h;exact Bo [.bool false] (A2 rfl zl A5)
 refine Ag q9 ?_;refine Ai (tn_ ?_);refine wr_ ?_;refine Ab ?_;refine Ab ?_;obtain ⟨y13,h13,h⟩:=Ad h;refine Aa 21 ?_;refine rsB 4 ?_;refine zc (.bool y13) [] [tI u1,tI u3] (Afj h13) ?_;refine rsB 1 ?_;refine Aq (tn_ ?_);refine wr_ ?_;rcases Af h with ⟨q14,h⟩ | ⟨q14,h⟩
 ·refine Ah q14 ?_;refine Al ?_;refine An (tr_ ?_);obtain rfl:=zj h;exact Bo [.bool false] (A2 rfl zl A5)
 refine Ag q14 ?_;refine Ai (tn_ ?_);refine wr_ ?_;refine Al ?_;refine An ?_;obtain rfl:=zj h;exact Bo [.bool true] (A2 rfl zl A5)
end Go.Proofs.YtpnofkjgeokdhaaDoor

