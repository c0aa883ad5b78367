/- Lemmas on the program and on partial functions that stand in place of its code (part 4); no condition beyond those that each one states. -/
import Derived.Test.YtodopnonpadpfaaGreatDoorZ3
import Derived.KernelRfl
import Derived.IntWalk
namespace Go.Proofs.YtodopnonpadpfaaGreatDoor
section
open Go.RowKit Go.Deep
section
variable {P:Program} {G:World->Prop}
theorem Ab {x y:AC} {R:AE->St->Prop} {S:St} (h:awp P G x (J9 (fun S'=>∃ S'',Weak S' S''∧awp P G y R S'') R) S):awp P G (.seq x y) R S:=h
theorem Agc {x y:AC} {R:AE->St->Prop} {S:St} (K:St->Prop) (h:awp P G x (J9 (fun S'=>∃ S'',Weak S' S''∧K S'') R) S) (k:∀ S'',K S''->awp P G y R S''):awp P G (.seq x y) R S:=by
 unfold awp
 exact Dl (fun e S hq=>by
  cases e with
  | normal=>obtain ⟨S'',hw,hk⟩:=hq; exact ⟨S'',hw,k S'' hk⟩
  | exit id=>exact hq
  | ret=>exact hq) h
def Av5 (rs:List Rec) (ds:List (List Oid)):List (Nat×Nat)->Bool
 | []=>true
 | p :: ps=>(let ri:=rs.getD p.2 (0,.any,[]); let rj:=rs.getD p.1 (0,.any,[]); let di:=ds.getD p.2 []; let dj:=ds.getD p.1 []
   ((!(ri.1==2)||rj.1==0)&&(!(rj.1==2)||ri.1==0))||((!(ri.1==2)||ri.2.2.all fun u=> !dj.contains u.1)&&((!(rj.1==2)||rj.2.2.all fun u=> !di.contains u.1)&&ri.2.2.all fun u=>rj.2.2.all fun v=> !(u.1==v.1))))&&Av5 rs ds ps
theorem Bc {rs:List Rec} {ds:List (List Oid)}:∀ {bad:List (Nat×Nat)},Av5 rs ds bad=true->Al9 rs ds bad
 | [],_=>trivial
 | p :: ps,h=>by
  simp only [Av5,Bool.and_eq_true] at h;refine ⟨?_,Bc h.2⟩;have h1:=h.1;simp only [Bool.or_eq_true,Bool.and_eq_true,Bool.not_eq_true',beq_eq_false_iff_ne,beq_iff_eq,List.all_eq_true,List.contains_eq_mem,decide_eq_false_iff_not] at h1;unfold O2;rcases h1 with ⟨a,b⟩ | ⟨a,b,c⟩
  ·refine .inl ⟨fun e=>?_,fun e=>?_⟩
   ·rcases a with a | a
    ·exact absurd e a
    ·exact a
   ·rcases b with b | b
    ·exact absurd e b
    ·exact b
  ·refine .inr ⟨fun e=>?_,fun e=>?_,c⟩
   ·rcases a with a | a
    ·exact absurd e a
    ·exact a
   ·rcases b with b | b
    ·exact absurd e b
    ·exact b
def XW (P:Program) (G:World->Prop) (g k:Nat) (xs:List X) (tl:List (Nat×AV)) (ol:List (Oid×Option Ob)) (Kf:List (Nat×AV)->List (Oid×Option Ob)->Prop):Prop :=
 ∃ rs tl' ol',As8 P G g k xs (Ao tl) (Ak ol) rs (Ao tl') (Ak ol')∧Kf tl' ol'
def XD (P:Program) (G:World->Prop) (bad:List (Nat×Nat)) (g k:Nat) (xs:List X) (tl:List (Nat×AV)) (ol:List (Oid×Option Ob)) (ra:List Rec) (da:List (List Oid)) (Kf:List (Nat×AV)->List (Oid×Option Ob)->Prop):Prop :=
 ∃ rs ds tl' ol',Apj P G g k xs (Ao tl) (Ak ol) rs ds (Ao tl') (Ak ol')∧Al9 (ra.reverse++rs) (da.reverse++ds) bad∧Kf tl' ol'
theorem Aa {xs:List X} {bad:List (Nat×Nat)} {R:AE->St->Prop} {tl:List (Nat×AV)} {ol:List (Oid×Option Ob)} {g:Nat} (g':Nat) (h:XW P G g 0 xs tl ol fun tl' ol'=>R .normal ⟨Ao tl',Ak ol',g'⟩) (hn:g+xs.length=g':=by kernel_rfl):awp P G (.region xs false bad) R ⟨Ao tl,Ak ol,g⟩:=by
 obtain ⟨rs,tl',ol',h,hr⟩:=h;exact ⟨rs,_,_,h,by subst hn; exact hr⟩
theorem A1 {xs:List X} {bad:List (Nat×Nat)} {R:AE->St->Prop} {tl:List (Nat×AV)} {ol:List (Oid×Option Ob)} {g:Nat} (g':Nat) (h:XD P G bad g 0 xs tl ol [] [] fun tl' ol'=>R .normal ⟨Ao tl',Ak ol',g'⟩) (hn:g+xs.length=g':=by kernel_rfl):awp P G (.region xs true bad) R ⟨Ao tl,Ak ol,g⟩:=by
 obtain ⟨rs,ds,tl',ol',h,hb,hr⟩:=h;exact ⟨rs,ds,_,_,h,hb,by subst hn; exact hr⟩
theorem Pr (tl:List (Nat×AV)) (d:Nat) (v:AV):upd (Ao tl) d v=Ao ((d,v) :: tl):=by
 funext i;rfl
def Mf:Option Ob->Bool
 | some (.pool ..)=>false
 | some (.mat ..)=>false
 | some (.tv ..)=>false
 | _=>true
def E9 (us:List (Oid×Option Ob)):Bool:=us.all fun u=>Mf u.2
theorem Jk {ol:List (Oid×Option Ob)} {j:Oid} {o:Option Ob} (h:Mf o=true):upd (Ak ol) j o=Ak ((j,o) :: ol):=by
 cases o with
 | none=>funext i; rfl
 | some o=>cases o <;> first | (funext i; rfl) | cases h
theorem Gb:∀ (us ol:List (Oid×Option Ob)),E9 us=true->A2 us (Ak ol)=Ak (us.reverseAux ol)
 | [],_,_=>rfl
 | (j,o) :: us,ol,h=>by
  simp only [E9,List.all_cons,Bool.and_eq_true] at h;show A2 us (upd (Ak ol) j o)=_;rw [Jk h.1];exact Gb us _ h.2
theorem Hz {p:Bool} {n:Nat} {x:X} {f:Nat->AV} {ob:Oid->Option Ob} {r:Rec} (h:Be n x f ob=some r):Ea P G p n x f ob r:=by
 unfold Be at h;unfold Ea;split at h
 ·exact .inl (.inl (.inl h))
 ·split at h
  ·rename_i hc;exact ⟨true,hc,by rw [if_pos rfl]; exact .inl (.inl (.inl h))⟩
  ·rename_i hc;exact ⟨false,hc,by rw [if_neg (by simp)]; exact (osj h).symm⟩
  ·cases h
def Wl (gd:Option (Nat×Bool)) (f:Nat->AV):Prop :=
 match gd with
 | none=>True
 | some (s,c)=>f s=.bool c
theorem Abg {s:Nat} {b:Bool} {f:Nat->AV} (h:Wl (some (s,b)) f):gdv (f s) b=some true:=by
 rw [show f s=.bool b from h]; simp [gdv]
theorem Bf {s:Nat} {b c:Bool} {f:Nat->AV} (h:f s=.bool c) (hc:c=b):Wl (some (s,b)) f:=by subst hc; exact h
theorem An7 {p:Bool} {n:Nat} {d:Option Nat} {gd:Option (Nat×Bool)} {fo:Opd} {xs:List Opd} {tys:List (List (Option Ty))} {f:Nat->AV} {ob:Oid->Option Ob} {F:FuncId} {caps args0 args:List AV} {rv:RV} {r:AV×List (Oid×Option Ob)}
  (hgd:Wl gd f) (hfo:fo.ev f=.fn F caps) (h1:Qy (gnd ob 8) ((xs++caps.map Opd.cst).map (Opd.ev f))=some args0) (hn:O4 tys args0=args) (hb:A5 P F=true) (hc:Ax P G F args rv) (hni:rv.noI=true) (hr:rv.out (C5 ((d.getD 0,0),n)) ((xs++caps.map Opd.cst).map (Opd.ev f))=r) :
  Ea P G p n ⟨d,gd,.call fo xs tys⟩ f ob (1,r.1,r.2):=by
 subst hn;have key:EvR P G p f ob ((d.getD 0,0),n) (.call fo xs tys) (1,r.1,r.2):=.inr ⟨fo,xs,tys,F,caps,rfl,hfo,.inl ⟨rfl,hb,args0,rv,.inl ⟨h1,hni⟩,hc,hr⟩⟩;unfold Ea;cases gd with
 | none=>exact key
 | some sb=>exact ⟨true,Abg hgd,by rw [if_pos rfl]; exact key⟩
theorem Anu {n:Nat} {d:Option Nat} {gd:Option (Nat×Bool)} {fo:Opd} {xs:List Opd} {tys:List (List (Option Ty))} {f:Nat->AV} {ob:Oid->Option Ob} {F:FuncId} {caps zs args:List AV} {v:AV} {ol us:List (Oid×Ob)} (θ:Oid->Oid)
  (hgd:Wl gd f) (hfo:fo.ev f=.fn F caps) (hz:(xs++caps.map Opd.cst).map (Opd.ev f)=zs) (h1:R8 θ (Acr ((nmL ol).map θ) ob) zs args) (h2:∀ q∈exL ol,ob (θ q.1)=some (q.2.ren θ)) (h3:∀ q∈exL ol,∀ q'∈exL ol,θ q.1=θ q'.1->q.1=q'.1) (h4:∀ j∈nmL ol,Reached zs ob (θ j))
  (h5:∀ q∈exL us,q.1.2=1∨(q.1.2=0∧q.1∈nmL ol)) (hb:A5 P F=true) (hc:Ir P G F args ol v us) :
  Ea P G false n ⟨d,gd,.call fo xs tys⟩ f ob (2,v.ren (Cq θ ((d.getD 0,0),n)),K9 θ ((d.getD 0,0),n) ol us):=by
 have hN:Arf P G f ob ((d.getD 0,0),n) F (xs++caps.map Opd.cst) (v.ren (Cq θ ((d.getD 0,0),n)),K9 θ ((d.getD 0,0),n) ol us):=by
  rw [← hz] at h1 h4;refine ⟨hb,θ,args,ol,us,v,h1,h2,fun j k hj hk e=>?_,h4,hc,fun j hj=>?_,rfl⟩
  ·obtain ⟨q,hq,rfl⟩:=List.mem_map.1 hj;obtain ⟨q',hq',rfl⟩:=List.mem_map.1 hk;exact h3 q hq q' hq' e
  ·obtain ⟨q,hq,rfl⟩:=List.mem_map.1 hj;rcases h5 q hq with h | ⟨_,h⟩
   ·exact .inl (by rw [h]; decide)
   ·exact .inr h
 have key:EvR P G false f ob ((d.getD 0,0),n) (.call fo xs tys) (2,v.ren (Cq θ ((d.getD 0,0),n)),K9 θ ((d.getD 0,0),n) ol us):=.inr ⟨fo,xs,tys,F,caps,rfl,hfo,.inr ⟨rfl,rfl,hN⟩⟩;unfold Ea;cases gd with
 | none=>exact key
 | some sb=>exact ⟨true,Abg hgd,by rw [if_pos rfl]; exact key⟩
theorem Aww {n:Nat} {d:Option Nat} {gd:Option (Nat×Bool)} {q:Q} {f:Nat->AV} {ob:Oid->Option Ob} {r:Rec} (hgd:Wl gd f) (h:evL f ((d.getD 0,0),n) q=some r):Ea P G false n ⟨d,gd,q⟩ f ob r:=by
 have key:EvR P G false f ob ((d.getD 0,0),n) q r:=.inl (.inl (.inr h));unfold Ea;cases gd with
 | none=>exact key
 | some sb=>exact ⟨true,Abg hgd,by rw [if_pos rfl]; exact key⟩
theorem At3 {n:Nat} {d:Option Nat} {gd:Option (Nat×Bool)} {q:Q} {f:Nat->AV} {ob:Oid->Option Ob} {r:Rec} (hgd:Wl gd f) (h:Aka f ((d.getD 0,0),n) q r):Ea P G false n ⟨d,gd,q⟩ f ob r:=by
 have key:EvR P G false f ob ((d.getD 0,0),n) q r:=.inl (.inr h);unfold Ea;cases gd with
 | none=>exact key
 | some sb=>exact ⟨true,Abg hgd,by rw [if_pos rfl]; exact key⟩
theorem An {g k:Nat} {tl:List (Nat×AV)} {ol:List (Oid×Option Ob)} {Kf:List (Nat×AV)->List (Oid×Option Ob)->Prop} (h:Kf tl ol):XW P G g k [] tl ol Kf:=⟨[],tl,ol,⟨rfl,rfl,rfl⟩,h⟩
theorem F2 {bad:List (Nat×Nat)} {g k:Nat} {tl:List (Nat×AV)} {ol:List (Oid×Option Ob)} {ra:List Rec} {da:List (List Oid)} {Kf:List (Nat×AV)->List (Oid×Option Ob)->Prop} (hb:Al9 (ra.reverse++[]) (da.reverse++[]) bad) (h:Kf tl ol):XD P G bad g k [] tl ol ra da Kf:=⟨[],[],tl,ol,⟨rfl,rfl,rfl,rfl⟩,hb,h⟩
section
variable {g k d:Nat} {gd:Option (Nat×Bool)} {q:Q} {xs:List X} {tl:List (Nat×AV)} {ol:List (Oid×Option Ob)} {bad:List (Nat×Nat)} {ra:List Rec} {da:List (List Oid)} {Kf:List (Nat×AV)->List (Oid×Option Ob)->Prop}
theorem Amq (c:Nat) (v:AV) (us ol':List (Oid×Option Ob)) (h:Ea P G false (g+k) ⟨some d,gd,q⟩ (Ao tl) (Ak ol) (c,v,us)) (he:A2 us (Ak ol)=Ak ol') (h3:XW P G g (k+1) xs ((d,v) :: tl) ol' Kf):XW P G g k (⟨some d,gd,q⟩ :: xs) tl ol Kf :=
 by
 obtain ⟨rs,tl',ol',h3,hk⟩:=h3;exact ⟨_,tl',ol',⟨_,_,rfl,h,by simp only [Kh,Pr,he]; exact h3⟩,hk⟩
theorem Asp (c:Nat) (v:AV) (us ol':List (Oid×Option Ob)) (h:Ea P G false (g+k) ⟨none,gd,q⟩ (Ao tl) (Ak ol) (c,v,us)) (he:A2 us (Ak ol)=Ak ol') (h3:XW P G g (k+1) xs tl ol' Kf):XW P G g k (⟨none,gd,q⟩ :: xs) tl ol Kf :=
 by
 obtain ⟨rs,tl',ol',h3,hk⟩:=h3;exact ⟨_,tl',ol',⟨_,_,rfl,h,by simp only [Kh,he]; exact h3⟩,hk⟩
theorem Ara (c:Nat) (v:AV) (us ol':List (Oid×Option Ob)) (h:Ea P G false (g+k) ⟨some d,gd,q⟩ (Ao tl) (only (rdX (Ao tl) (Ak ol) ⟨some d,gd,q⟩) (Ak ol)) (c,v,us)) (he:A2 us (Ak ol)=Ak ol') (h3:XD P G bad g (k+1) xs ((d,v) :: tl) ol' ((c,v,us) :: ra) ((rdX (Ao tl) (Ak ol) ⟨some d,gd,q⟩) :: da) Kf):XD P G bad g k (⟨some d,gd,q⟩ :: xs) tl ol ra da Kf :=
 by
 obtain ⟨rs,ds,tl',ol',h3,hb,hk⟩:=h3;refine ⟨_,_,tl',ol',⟨_,rs,ds,rfl,rfl,h,by simp only [Kh,Pr,he]; exact h3⟩,?_,hk⟩
 simpa using hb
theorem Aua (c:Nat) (v:AV) (us ol':List (Oid×Option Ob)) (h:Ea P G false (g+k) ⟨none,gd,q⟩ (Ao tl) (only (rdX (Ao tl) (Ak ol) ⟨none,gd,q⟩) (Ak ol)) (c,v,us)) (he:A2 us (Ak ol)=Ak ol') (h3:XD P G bad g (k+1) xs tl ol' ((c,v,us) :: ra) ((rdX (Ao tl) (Ak ol) ⟨none,gd,q⟩) :: da) Kf):XD P G bad g k (⟨none,gd,q⟩ :: xs) tl ol ra da Kf :=
 by
 obtain ⟨rs,ds,tl',ol',h3,hb,hk⟩:=h3;refine ⟨_,_,tl',ol',⟨_,rs,ds,rfl,rfl,h,by simp only [Kh,he]; exact h3⟩,?_,hk⟩
 simpa using hb
theorem Aab (c:Nat) (v:AV) (us:List (Oid×Option Ob)) (h:Ea P G false (g+k) ⟨some d,gd,q⟩ (Ao tl) (Ak ol) (c,v,us)) (h3:XW P G g (k+1) xs ((d,v) :: tl) (us.reverseAux ol) Kf) (hx:E9 us=true):XW P G g k (⟨some d,gd,q⟩ :: xs) tl ol Kf:=Amq c v us _ h (Gb us ol hx) h3
theorem Avi (c:Nat) (v:AV) (us:List (Oid×Option Ob)) (h:Ea P G false (g+k) ⟨none,gd,q⟩ (Ao tl) (Ak ol) (c,v,us)) (h3:XW P G g (k+1) xs tl (us.reverseAux ol) Kf) (hx:E9 us=true):XW P G g k (⟨none,gd,q⟩ :: xs) tl ol Kf:=Asp c v us _ h (Gb us ol hx) h3
theorem Ala (c:Nat) (v:AV) (us:List (Oid×Option Ob)) (h:Ea P G false (g+k) ⟨some d,gd,q⟩ (Ao tl) (only (rdX (Ao tl) (Ak ol) ⟨some d,gd,q⟩) (Ak ol)) (c,v,us)) (h3:XD P G bad g (k+1) xs ((d,v) :: tl) (us.reverseAux ol) ((c,v,us) :: ra) ((rdX (Ao tl) (Ak ol) ⟨some d,gd,q⟩) :: da) Kf) (hx:E9 us=true):XD P G bad g k (⟨some d,gd,q⟩ :: xs) tl ol ra da Kf:=Ara c v us _ h (Gb us ol hx) h3
theorem Avu (c:Nat) (v:AV) (us:List (Oid×Option Ob)) (h:Ea P G false (g+k) ⟨none,gd,q⟩ (Ao tl) (only (rdX (Ao tl) (Ak ol) ⟨none,gd,q⟩) (Ak ol)) (c,v,us)) (h3:XD P G bad g (k+1) xs tl (us.reverseAux ol) ((c,v,us) :: ra) ((rdX (Ao tl) (Ak ol) ⟨none,gd,q⟩) :: da) Kf) (hx:E9 us=true):XD P G bad g k (⟨none,gd,q⟩ :: xs) tl ol ra da Kf:=Aua c v us _ h (Gb us ol hx) h3
theorem Anx {ol':List (Oid×Option Ob)} (he:Ak ol=Ak ol') (h:XD P G bad g k xs tl ol' ra da Kf):XD P G bad g k xs tl ol ra da Kf:=by
 obtain ⟨rs,ds,tl',ol2,h1,h2⟩:=h;exact ⟨rs,ds,tl',ol2,by rw [he]; exact h1,h2⟩
-- the shape of most steps: what the machine says is found by reckoning
theorem rs0 (v:AV) (h:Be (g+k) ⟨some d,gd,q⟩ (Ao tl) (Ak ol)=some (0,v,[])) (h3:XW P G g (k+1) xs ((d,v) :: tl) ol Kf):XW P G g k (⟨some d,gd,q⟩ :: xs) tl ol Kf:=Aab 0 v [] (Hz h) h3 rfl
theorem rsl (v:AV) (h:Be (g+k) ⟨some d,gd,q⟩ (Ao tl) (Ak ol)=some (1,v,[])) (h3:XW P G g (k+1) xs ((d,v) :: tl) ol Kf):XW P G g k (⟨some d,gd,q⟩ :: xs) tl ol Kf:=Aab 1 v [] (Hz h) h3 rfl
theorem rs1 (v:AV) (i:Oid) (o:Ob) (h:Be (g+k) ⟨some d,gd,q⟩ (Ao tl) (Ak ol)=some (1,v,[(i,some o)])) (h3:XW P G g (k+1) xs ((d,v) :: tl) ((i,some o) :: ol) Kf) (hx:Mf (some o)=true:=by rfl):XW P G g k (⟨some d,gd,q⟩ :: xs) tl ol Kf:=Aab 1 v _ (Hz h) h3 (by simp only [E9,List.all_cons,List.all_nil,hx]; rfl)
theorem rs2 (v:AV) (j i:Oid) (o:Ob) (h:Be (g+k) ⟨some d,gd,q⟩ (Ao tl) (Ak ol)=some (2,v,[(j,none),(i,some o)])) (h3:XW P G g (k+1) xs ((d,v) :: tl) ((i,some o) :: (j,none) :: ol) Kf) (hx:Mf (some o)=true:=by rfl):XW P G g k (⟨some d,gd,q⟩ :: xs) tl ol Kf:=Aab 2 v _ (Hz h) h3 (by simp only [E9,List.all_cons,List.all_nil,hx]; rfl)
theorem Al5 (j i:Oid) (o:Ob) (h:Be (g+k) ⟨none,gd,q⟩ (Ao tl) (Ak ol)=some (2,.any,[(j,none),(i,some o)])) (h3:XW P G g (k+1) xs tl ((i,some o) :: (j,none) :: ol) Kf) (hx:Mf (some o)=true:=by rfl):XW P G g k (⟨none,gd,q⟩ :: xs) tl ol Kf:=Avi 2 _ _ (Hz h) h3 (by simp only [E9,List.all_cons,List.all_nil,hx]; rfl)
theorem ds0 (v:AV) (h:Be (g+k) ⟨some d,gd,q⟩ (Ao tl) (only (rdX (Ao tl) (Ak ol) ⟨some d,gd,q⟩) (Ak ol))=some (0,v,[])) (h3:XD P G bad g (k+1) xs ((d,v) :: tl) ol ((0,v,[]) :: ra) ((rdX (Ao tl) (Ak ol) ⟨some d,gd,q⟩) :: da) Kf):XD P G bad g k (⟨some d,gd,q⟩ :: xs) tl ol ra da Kf:=Ala 0 v [] (Hz h) h3 rfl
theorem dsl (v:AV) (h:Be (g+k) ⟨some d,gd,q⟩ (Ao tl) (only (rdX (Ao tl) (Ak ol) ⟨some d,gd,q⟩) (Ak ol))=some (1,v,[])) (h3:XD P G bad g (k+1) xs ((d,v) :: tl) ol ((1,v,[]) :: ra) ((rdX (Ao tl) (Ak ol) ⟨some d,gd,q⟩) :: da) Kf):XD P G bad g k (⟨some d,gd,q⟩ :: xs) tl ol ra da Kf:=Ala 1 v [] (Hz h) h3 rfl
theorem ds1 (v:AV) (i:Oid) (o:Ob) (h:Be (g+k) ⟨some d,gd,q⟩ (Ao tl) (only (rdX (Ao tl) (Ak ol) ⟨some d,gd,q⟩) (Ak ol))=some (1,v,[(i,some o)])) (h3:XD P G bad g (k+1) xs ((d,v) :: tl) ((i,some o) :: ol) ((1,v,[(i,some o)]) :: ra) ((rdX (Ao tl) (Ak ol) ⟨some d,gd,q⟩) :: da) Kf) (hx:Mf (some o)=true:=by rfl):XD P G bad g k (⟨some d,gd,q⟩ :: xs) tl ol ra da Kf:=Ala 1 v _ (Hz h) h3 (by simp only [E9,List.all_cons,List.all_nil,hx]; rfl)
theorem ds2 (v:AV) (j i:Oid) (o:Ob) (h:Be (g+k) ⟨some d,gd,q⟩ (Ao tl) (only (rdX (Ao tl) (Ak ol) ⟨some d,gd,q⟩) (Ak ol))=some (2,v,[(j,none),(i,some o)])) (h3:XD P G bad g (k+1) xs ((d,v) :: tl) ((i,some o) :: (j,none) :: ol) ((2,v,[(j,none),(i,some o)]) :: ra) ((rdX (Ao tl) (Ak ol) ⟨some d,gd,q⟩) :: da) Kf) (hx:Mf (some o)=true:=by rfl):XD P G bad g k (⟨some d,gd,q⟩ :: xs) tl ol ra da Kf:=Ala 2 v _ (Hz h) h3 (by simp only [E9,List.all_cons,List.all_nil,hx]; rfl)
theorem Y0 (j i:Oid) (o:Ob) (h:Be (g+k) ⟨none,gd,q⟩ (Ao tl) (only (rdX (Ao tl) (Ak ol) ⟨none,gd,q⟩) (Ak ol))=some (2,.any,[(j,none),(i,some o)])) (h3:XD P G bad g (k+1) xs tl ((i,some o) :: (j,none) :: ol) ((2,.any,[(j,none),(i,some o)]) :: ra) ((rdX (Ao tl) (Ak ol) ⟨none,gd,q⟩) :: da) Kf) (hx:Mf (some o)=true:=by rfl):XD P G bad g k (⟨none,gd,q⟩ :: xs) tl ol ra da Kf:=Avu 2 _ _ (Hz h) h3 (by simp only [E9,List.all_cons,List.all_nil,hx]; rfl)
section
variable {fo:Opd} {ys:List Opd} {tys:List (List (Option Ty))} {F:FuncId} {caps:List AV} {rv:RV} {args0:List AV}
theorem Bs (v:AV) (us:List (Oid×Option Ob)) (zs args:List AV) (hgd:Wl gd (Ao tl)) (h1:Qy (gnd (Ak ol) 8) zs=some args0) (hc:Ax P G F args rv) (hb:A5 P F=true) (h3:XW P G g (k+1) xs ((d,v) :: tl) (us.reverseAux ol) Kf) (hfo:fo.ev (Ao tl)=.fn F caps:=by kernel_rfl) (hz:(ys++caps.map Opd.cst).map (Opd.ev (Ao tl))=zs:=by kernel_rfl) (hn:O4 tys args0=args:=by kernel_rfl) (hr:rv.out (C5 ((d,0),g+k)) zs=(v,us):=by kernel_rfl) (hx:E9 us=true:=by rfl) (hni:rv.noI=true:=by kernel_rfl):XW P G g k (⟨some d,gd,.call fo ys tys⟩ :: xs) tl ol Kf:=by
 subst hz;exact Aab 1 v us (An7 (P:=P) (G:=G) (p:=false) (n:=g+k) (d:=some d) hgd hfo h1 hn hb hc hni hr) h3 hx
theorem Da (v:AV) (us:List (Oid×Option Ob)) (zs args:List AV) (hgd:Wl gd (Ao tl)) (h1:Qy (gnd (only (rdX (Ao tl) (Ak ol) ⟨some d,gd,.call fo ys tys⟩) (Ak ol)) 8) zs=some args0) (hc:Ax P G F args rv) (hb:A5 P F=true) (h3:XD P G bad g (k+1) xs ((d,v) :: tl) (us.reverseAux ol) ((1,v,us) :: ra) ((rdX (Ao tl) (Ak ol) ⟨some d,gd,.call fo ys tys⟩) :: da) Kf) (hfo:fo.ev (Ao tl)=.fn F caps:=by kernel_rfl) (hz:(ys++caps.map Opd.cst).map (Opd.ev (Ao tl))=zs:=by kernel_rfl) (hn:O4 tys args0=args:=by kernel_rfl) (hr:rv.out (C5 ((d,0),g+k)) zs=(v,us):=by kernel_rfl) (hx:E9 us=true:=by rfl) (hni:rv.noI=true:=by kernel_rfl):XD P G bad g k (⟨some d,gd,.call fo ys tys⟩ :: xs) tl ol ra da Kf:=by
 subst hz;exact Ala 1 v us (An7 (P:=P) (G:=G) (p:=false) (n:=g+k) (d:=some d) hgd hfo h1 hn hb hc hni hr) h3 hx
def Aok (l:List (Oid×Oid)) (ol us:List (Oid×Ob)) (n:Nat) (ol0:List (Oid×Option Ob)):Bool:=Sd l&&(Ga ol&&(Ass (Bl l) ol&&(Amr ol us&&Mb n ol0)))
theorem Aj7 {l:List (Oid×Oid)} {ol us:List (Oid×Ob)} {n:Nat} {ol0:List (Oid×Option Ob)} (h:Aok l ol us n ol0=true) (hR:Ahl ol0 (Bl l) ol) :
  (∀ q∈exL ol,Ak ol0 (Bl l q.1)=some (q.2.ren (Bl l)))∧(∀ q∈exL ol,∀ q'∈exL ol,Bl l q.1=Bl l q'.1->q.1=q'.1)∧(∀ q∈exL us,q.1.2=1∨(q.1.2=0∧q.1∈nmL ol))∧∀ i:Oid,i.2=n->A2 (K9 (Bl l) i ol us) (Ak ol0)=Ak (Aq (Pi (Cq (Bl l) i) us)++(Lf (Bl l) ol++ol0)):=by
 simp only [Aok,Bool.and_eq_true] at h;obtain ⟨c1,c2,c3,c4,c5⟩:=h;refine ⟨Ahw c1 hR (Ak5 c2),Ar0 (fun p e u xss hm k=>H8 c1 ?_ k) c3 c2,Ai1 c4,fun i hi=>Arj c1 c2 hR c4 (by rw [hi]; exact c5) c3⟩;unfold Ga at c2;rw [List.all_eq_true] at c2;have:=c2 _ hm;simp only [Bool.and_eq_true,beq_iff_eq] at this;exact this.1
theorem Jq (v:AV) (ul:List (Oid×Option Ob)) (l:List (Oid×Oid)) (zs:List AV) {args:List AV} {ol0 us:List (Oid×Ob)} {v0:AV} (hgd:Wl gd (Ao tl)) (hc:Ir P G F args ol0 v0 us) (hb:A5 P F=true) (hR:Ahl ol (Bl l) ol0) (h1:R8 (Bl l) (Acr ((nmL ol0).map (Bl l)) (Ak ol)) zs args) (h4:∀ j∈nmL ol0,Reached zs (Ak ol) (Bl l j)) (h3:XW P G g (k+1) xs ((d,v) :: tl) (ul++ol) Kf) (hfo:fo.ev (Ao tl)=.fn F caps:=by kernel_rfl) (hz:(ys++caps.map Opd.cst).map (Opd.ev (Ao tl))=zs:=by kernel_rfl) (hB:Aok l ol0 us (g+k) ol=true:=by kernel_rfl) (hv:v0.ren (Cq (Bl l) ((d,0),g+k))=v:=by kernel_rfl) (hu:Aq (Pi (Cq (Bl l) ((d,0),g+k)) us)++Lf (Bl l) ol0=ul:=by kernel_rfl):XW P G g k (⟨some d,gd,.call fo ys tys⟩ :: xs) tl ol Kf:=by
 subst hv hu;obtain ⟨q1,q2,q3,q4⟩:=Aj7 hB hR;exact Amq 2 _ _ _ (Anu (n:=g+k) (d:=some d) (Bl l) hgd hfo hz h1 q1 q2 h4 q3 hb hc) (q4 ((d,0),g+k) rfl) (by rw [List.append_assoc] at h3; exact h3)
theorem Aq1 (v:AV) (ul:List (Oid×Option Ob)) (l:List (Oid×Oid)) (zs:List AV) {args:List AV} {ol0 us:List (Oid×Ob)} {v0:AV} (hgd:Wl gd (Ao tl)) (hc:Ir P G F args ol0 v0 us) (hb:A5 P F=true) (hR:Ahl ol (Bl l) ol0) (h1:R8 (Bl l) (Acr ((nmL ol0).map (Bl l)) (only (rdX (Ao tl) (Ak ol) ⟨some d,gd,.call fo ys tys⟩) (Ak ol))) zs args) (h4:∀ j∈nmL ol0,Reached zs (only (rdX (Ao tl) (Ak ol) ⟨some d,gd,.call fo ys tys⟩) (Ak ol)) (Bl l j)) (hd:∀ q∈exL ol0,Bl l q.1∈rdX (Ao tl) (Ak ol) ⟨some d,gd,.call fo ys tys⟩) (h3:XD P G bad g (k+1) xs ((d,v) :: tl) (ul++ol) ((2,v,K9 (Bl l) ((d,0),g+k) ol0 us) :: ra) ((rdX (Ao tl) (Ak ol) ⟨some d,gd,.call fo ys tys⟩) :: da) Kf) (hfo:fo.ev (Ao tl)=.fn F caps:=by kernel_rfl) (hz:(ys++caps.map Opd.cst).map (Opd.ev (Ao tl))=zs:=by kernel_rfl) (hB:Aok l ol0 us (g+k) ol=true:=by kernel_rfl) (hv:v0.ren (Cq (Bl l) ((d,0),g+k))=v:=by kernel_rfl) (hu:Aq (Pi (Cq (Bl l) ((d,0),g+k)) us)++Lf (Bl l) ol0=ul:=by kernel_rfl):XD P G bad g k (⟨some d,gd,.call fo ys tys⟩ :: xs) tl ol ra da Kf:=by
 subst hv hu;obtain ⟨q1,q2,q3,q4⟩:=Aj7 hB hR;exact Ara 2 _ _ _ (Anu (n:=g+k) (d:=some d) (Bl l) hgd hfo hz h1 (fun q hq=>by unfold only; rw [if_pos (hd q hq)]; exact q1 q hq) q2 h4 q3 hb hc) (q4 ((d,0),g+k) rfl) (by rw [List.append_assoc] at h3; exact h3)
end
end
-- what arguments read as
theorem Xi {g:AV->Option AV}:Qy g []=some []:=rfl
theorem Hy {g:AV->Option AV} {c d:AV} {cs ds:List AV} (h:g c=some d) (hs:Qy g cs=some ds):Qy g (c :: cs)=some (d :: ds):=by simp only [Qy,h,hs]
section
variable {ob:Oid->Option Ob} {n:Nat}
theorem Th {i:Oid} {t u:Ty} {e:TypeId} {xs:List u.D} {len:Nat} (h:ob i=some (.arr e u xs)) (hl:len=xs.length):gnd ob (n+1) (.own i t 0 len)=some (.tree u xs):=by
 subst hl;simp only [gnd,h,Nat.zero_add,Nat.le_refl,if_true,List.drop_zero,List.take_length]
end
-- steps that hang on something
section
variable {n:Nat} {d:Option Nat} {f:Nat->AV} {ob:Oid->Option Ob}
theorem Fv {s:Nat} {b c:Bool} {q:Q} {r:Option Rec} (hs:f s=.bool c) (hc:c=b) (h:Be n ⟨d,none,q⟩ f ob=r):Be n ⟨d,some (s,b),q⟩ f ob=r:=by
 subst hc;simp only [Be,hs,gdv,beq_self_eq_true]; exact h
theorem C1 {s:Nat} {b c:Bool} {q:Q} (hs:f s=.bool c) (hc:c= !b):Be n ⟨d,some (s,b),q⟩ f ob=some (0,.tup [],[]):=by
 subst hc;cases b <;> simp [Be,hs,gdv]
theorem Zn {s:Nat} {b:Bool} {q:Q} (hs:f s=.tup []):Be n ⟨d,some (s,b),q⟩ f ob=some (0,.tup [],[]):=by
 simp [Be,hs,gdv]
theorem Atk {c x y:Opd} {b:Bool} (h:c.ev f=.bool b) (hb:b=true):Be n ⟨d,none,.i (.pick c x y)⟩ f ob=some (0,x.ev f,[]):=by
 subst hb; simp [Be,ev,evN,h]
theorem Asn {c x y:Opd} {b:Bool} (h:c.ev f=.bool b) (hb:b=false):Be n ⟨d,none,.i (.pick c x y)⟩ f ob=some (0,y.ev f,[]):=by
 subst hb; simp [Be,ev,evN,h]
theorem Au9 {sz:Nat} {x i:Opd} {t:Ty} {xs:List t.D} {y:t.D} {k:IntKind} {m:Int} {j:Nat} (hx:(x.ev f).un=.tree t xs) (hi:i.ev f=.int k m) (hs:sz=t.size) (h0:0<=m) (hj:m.toNat=j) (hy:xs[j]? =some y) {g:Option (Nat->Prop)} (hg:(x.ev f).tag=g:=by kernel_rfl):Be n ⟨d,none,.i (.idx sz x i)⟩ f ob=some (0,.telt g t y 0,[]):=by
 subst hs hj hg;simp [Be,ev,evN,hx,hi,h0,hy]
theorem Aqx {sz:Nat} {x i:Opd} {t:Ty} {o:Oid} {len:Nat} {k:IntKind} {m:Int} {j:Nat} (hx:x.ev f=.own o t 0 len) (hi:i.ev f=.int k m) (hs:sz=t.size) (h0:0<=m) (hj:m.toNat=j) (hl:j<len):Be n ⟨d,none,.i (.idx sz x i)⟩ f ob=some (0,.elt o j 0,[]):=by
 subst hs hj;have:m<(len:Int):=by omega
 simp [Be,ev,evN,hx,hi,h0,AV.un,this]
theorem Avz {sz:Nat} {x i:Opd} {t:Ty} {o:Oid} {off len:Nat} {k:IntKind} {m:Int} {j:Nat} (hx:x.ev f=.own o t off len) (hi:i.ev f=.int k m) (hs:sz=t.size) (h0:0<=m) (hj:off+m.toNat=j) (hl:m.toNat<len):Be n ⟨d,none,.i (.idx sz x i)⟩ f ob=some (0,.elt o j 0,[]):=by
 subst hs hj;have:m<(len:Int):=by omega
 simp [Be,ev,evN,hx,hi,h0,AV.un,this]
def tyA:Nat->Ty
 | 0=>.int
 | n+1=>.pair .int (tyA n)
def Fa:(n:Nat)->List Int->(tyA n).D
 | 0,l=>l.getD 0 0
 | n+1,l=>(l.getD 0 0,Fa n l.tail)
theorem Qa:∀ (n:Nat) (l:List Int),((tyA n).av (Fa n l)).length=n+1
 | 0,_=>rfl
 | n+1,l=>by simp [tyA,Fa,Ty.av,Qa n]
theorem Xm:∀ (n:Nat) (l:List Int),(tyA n).ofAV ((tyA n).av (Fa n l))=some (Fa n l)
 | 0,_=>rfl
 | n+1,l=>by
  have:=Xm n l.tail;simp only [tyA,Fa,Ty.av,List.cons_append,List.nil_append,Ty.ofAV,Ty.size,List.take_succ_cons,List.take_zero,List.drop_succ_cons,List.drop_zero,this,ofI,obs,Option.map_some]
theorem Awl {m N:Nat} {x:Opd} {i:Oid} {e:Nat} {ty:TypeId} {xs:List (tyA N).D} {l:List Int} (hx:x.ev f=.elt i e 0) (hob:ob i=some (.arr ty (tyA N) xs)) (hl:xs[e]? =some (Fa N l)) (hm:m=N+1):Be n ⟨d,none,.i (.ld false m x)⟩ f ob=some (1,.agg ((tyA N).av (Fa N l)),[]):=by
 subst hm;have h1:=Qa N l;simp [Be,ev,evN,evR,hx,hob,hl,C8,h1];rw [List.take_of_length_le (by omega)]
theorem Aji:∀ (n:Nat) (l:List Int),((tyA n).av (Fa n l)).all AV.one=true
 | 0,_=>rfl
 | n+1,l=>by simp [tyA,Fa,Ty.av,AV.one,Aji n,← List.all_eq_true]
theorem Awu {m N:Nat} {x y:Opd} {i:Oid} {e:Nat} {ty:TypeId} {xs ys:List (tyA N).D} {l l2:List Int} (hx:x.ev f=.elt i e 0) (hob:ob i=some (.arr ty (tyA N) xs)) (hl:xs[e]? =some (Fa N l)) (hm:m=N+1) (hv:y.ev f=.agg ((tyA N).av (Fa N l2))) (hs:xs.set e (Fa N l2)=ys) :
  Be n ⟨d,none,.st false m x y⟩ f ob=some (2,.any,[(i,none),(i,some (.arr ty (tyA N) ys))]):=by
 subst hs hm;have h1:=Qa N l;have h2:=Qa N l2;have h3:=Aji N l2
 have h4:Hx false (N+1) 0 ((tyA N).av (Fa N l)) (.agg ((tyA N).av (Fa N l2)))=some ((tyA N).av (Fa N l2)):=by
  simp only [Hx,h2,h1,h3,Nat.zero_add,Nat.le_refl,and_self,if_true,List.take_zero,List.nil_append,Bool.false_eq_true,if_false];rw [List.drop_of_length_le (by omega),List.append_nil]
 simp [Be,ev,Ael,hx,hob,hl,hv,h4,Xm]
theorem C0 {one:Bool} {m:Nat} {x:Opd} {i:Oid} {j k:Nat} {e:TypeId} {t:Ty} {xs:List t.D} {y:t.D} {c:AV} (hx:x.ev f=.elt i j k) (hob:ob i=some (.arr e t xs)) (hy:xs[j]? =some y) (hc:C8 one m k (t.av y)=some c):Be n ⟨d,none,.i (.ld one m x)⟩ f ob=some (1,c,[]):=by
 simp [Be,ev,evN,evR,hx,hob,hy,hc]
theorem Adb {one:Bool} {m:Nat} {x y:Opd} {i:Oid} {j k:Nat} {e:TypeId} {t:Ty} {xs:List t.D} {x0 x1:t.D} {cs:List AV} (hx:x.ev f=.elt i j k) (hob:ob i=some (.arr e t xs)) (hy:xs[j]? =some x0) (hc:Hx one m k (t.av x0) (y.ev f)=some cs) (hd:t.ofAV cs=some x1):Be n ⟨d,none,.st one m x y⟩ f ob=some (2,.any,[(i,none),(i,some (.arr e t (xs.set j x1)))]):=by
 simp [Be,ev,Ael,hx,hob,hy,hc,hd]
theorem Alx {e:TypeId} {t:Ty} {by_:Nat} {l c:Opd} {k k':IntKind} {m m':Int} {j:Nat} (hl:l.ev f=.int k m) (hc:c.ev f=.int k' m') (h:0<=m∧m<=m'∧m'<=1073741824∧(by_:Int)*m'<=140737488355328) (hj:m.toNat=j):Be n ⟨d,none,.make e t by_ l c⟩ f ob=some (1,.own ((d.getD 0,0),n) t 0 j,[(((d.getD 0,0),n),some (.arr e t (List.replicate j t.dflt)))]):=by
 subst hj;simp only [Be,ev,Aap,hl,hc,if_pos h]
theorem Mj {t t':Ty} {i:Oid} {e:TypeId} {xs:List t.D} {len:Nat} (h:ob i=some (.arr e t xs)) (hl:len=xs.length):E1 ob t (.own i t' 0 len)=some xs:=by
 subst hl;simp only [E1,h,Nat.zero_add,Nat.le_refl,if_true,Ty.eq?_self,C2,List.drop_zero,List.take_length]
theorem Aix {t:Ty} {xs:List t.D}:E1 ob t (.tree t xs)=some xs:=by simp only [E1,Ty.eq?_self,C2]
theorem K8 {e:TypeId} {t t':Ty} {by_:Nat} {x y:Opd} {c:AV} {ys xs zs:List t.D} {j:Oid} {len:Nat} (hx:x.ev f=.own j t' 0 len) (hob:ob j=some (.arr e t xs)) (hl:len=xs.length) (hy:y.ev f=c) (hs:E1 ob t c=some ys) (hz:zs=xs++ys) (h:xs.length+ys.length<=1073741824∧(xs.length+ys.length)*by_<=140737488355328) :
  Be n ⟨d,none,.append e t by_ x y⟩ f ob=some (2,.own (j.1,n) t 0 zs.length,[(j,none),((j.1,n),some (.arr e t zs))]):=by
 subst hl hz;simp only [Be,ev,Ii,hx,hy,hs,hob,Ty.eq?_self,Nat.le_refl,true_and,h.1,h.2,and_self,if_true,C2,List.take_length,List.length_append]
theorem Av0 {e:TypeId} {t t':Ty} {by_:Nat} {x y:Opd} {c:AV} {ys xs zs:List t.D} {j:Oid} {len:Nat} (hx:x.ev f=.own j t' 0 len) (hob:ob j=some (.arr e t xs)) (hl:len<=xs.length) (hy:y.ev f=c) (hs:E1 ob t c=some ys) (hz:zs=xs.take len++ys) (h:(xs.take len).length+ys.length<=1073741824∧((xs.take len).length+ys.length)*by_<=140737488355328) :
  Be n ⟨d,none,.append e t by_ x y⟩ f ob=some (2,.own (j.1,n) t 0 zs.length,[(j,none),((j.1,n),some (.arr e t zs))]):=by
 subst hz;have hl':(xs.take len).length=len:=by rw [List.length_take]; omega
 rw [hl'] at h;simp only [Be,ev,Ii,hx,hy,hs,hob,Ty.eq?_self,hl,true_and,h.1,h.2,and_self,if_true,C2,List.length_append,hl']
theorem Ajg {sz:Nat} {x:Opd} {lo hi:Option Opd} {t:Ty} {i:Oid} {off len o' j:Nat} {l h:Int} (hx:x.ev f=.own i t off len) (hl:Ei f 0 lo=some l) (hh:Ei f len hi=some h) (hs:t.size=sz) (hb:0<=l∧l<=h∧h<=len) (ho:off+l.toNat=o') (hj:(h - l).toNat=j) :
  Be n ⟨d,none,.slice sz x lo hi none⟩ f ob=some (0,.own i t o' j,[]):=by
 subst hs ho hj;simp only [Be,ev,Vi,hx,AV.un,hl,hh,true_and,hb.1,hb.2.1,hb.2.2,and_self,if_true]
theorem Avm {x y:Opd} {j:Nat} (hx:x.ev f=.int .i64 j) (hy:y.ev f=.int .i64 1) (h:j+1<4611686018427387904):Be n ⟨d,none,.i (.bin .add x y)⟩ f ob=some (0,.int .i64 ((j+1:Nat):Int),[]):=by
 have:IntKind.i64.wrap ((j:Int)+1)=((j+1:Nat):Int):=by rw [Go.IntWalk.i64_in _ (by omega)]; rfl
 simp [Be,ev,evN,Abb,hx,hy,this]
theorem Awx {x y:Opd} {k:IntKind} {a b:Int} (hx:x.ev f=.int k a) (hy:y.ev f=.int k b) (h:b≠0):Be n ⟨d,none,.i (.bin .quo x y)⟩ f ob=some (0,.int k (k.wrap (a.tdiv b)),[]):=by
 simp [Be,ev,evN,Abb,hx,hy,h]
theorem Pz {x y:Opd} {k:IntKind} {a b:Int} (hx:x.ev f=.int k a) (hy:y.ev f=.int k b) (h:b≠0):Be n ⟨d,none,.i (.bin .rem x y)⟩ f ob=some (0,.int k (a.tmod b),[]):=by
 simp [Be,ev,evN,Abb,hx,hy,h]
theorem Dn {x i:Opd} {s:ByteArray} {k:IntKind} {m:Int} {j:Nat} {b:UInt8} (hx:x.ev f=.str s) (hi:i.ev f=.int k m) (h0:0<=m) (hj:m.toNat=j) (hy:s[j]? =some b):Be n ⟨d,none,.i (.char x i)⟩ f ob=some (0,.int .u8 b.toNat,[]):=by
 subst hj;simp [Be,ev,evN,hx,hi,h0,hy]
end
theorem Af {c:Opd} {x y:AC} {R:AE->St->Prop} {S:St} {t:Bool} (ht:t=true) (h1:awp P G x R S) (h:c.ev S.tm=.bool t:=by kernel_rfl):awp P G (.cond c x y) R S:=by
 subst ht; exact .inl ⟨true,h,fun _=>h1,fun h=>(nomatch h)⟩
theorem Ag {c:Opd} {x y:AC} {R:AE->St->Prop} {S:St} {t:Bool} (ht:t=false) (h2:awp P G y R S) (h:c.ev S.tm=.bool t:=by kernel_rfl):awp P G (.cond c x y) R S:=by
 subst ht; exact .inl ⟨false,h,fun h=>(nomatch h),fun _=>h2⟩
theorem Al {i:Nat} {a:AC} {R:AE->St->Prop} {S:St} (h:awp P G a (Iv i R) S):awp P G (.block i a) R S:=h
theorem Apn {a:AC} {R:AE->St->Prop} {S:St} {α:Type} (I:α->St->Prop) (μ:α->Nat) (h0:∃ s S0,Weak S S0∧I s S0) (h1:∀ s S1,I s S1->awp P G a (J9 (fun S2=>∃ s' S3,Weak S2 S3∧I s' S3∧μ s'<μ s) R) S1):awp P G (.loop a) R S:=⟨α,I,μ,h0,h1⟩
theorem Az {i:Nat} {R:AE->St->Prop} {S:St} (h:R (.exit i) S):awp P G (.exit i) R S:=h
theorem Ai {R:AE->St->Prop} {S:St} (h:R .normal S):awp P G .skip R S:=h
theorem Ah {R:AE->St->Prop} {S:St} (h:R .ret S):awp P G .ret R S:=h
end
section
variable {K:St->Prop} {R:AE->St->Prop} {S:St} {i j:Nat}
theorem tn_ (h:K S):J9 K R .normal S:=h
theorem te_ (h:R (.exit i) S):J9 K R (.exit i) S:=h
theorem tr_ (h:R .ret S):J9 K R .ret S:=h
theorem bn_ (h:R .normal S):Iv i R .normal S:=h
theorem be_ (h:R .normal S):Iv i R (.exit i) S:=by simpa [Iv] using h
theorem br_ (h:R .ret S):Iv i R .ret S:=h
end
def tmL:Nat->List AV->List (Nat×AV)
 | _,[]=>[]
 | k,v :: r=>(k,v) :: tmL (k+1) r
theorem Ak9:∀ (l:List AV) (k i:Nat),Ao (tmL k l) (k+i)=l.getD i .any
 | [],k,i=>by simp [tmL,Ao]
 | v :: r,k,i=>by
  cases i with
  | zero=>simp [tmL,Ao]
  | succ i =>
   have:=Ak9 r (k+1) i;simp only [tmL,Ao];rw [if_neg (by omega),show k+(i+1)=k+1+i by omega,this];simp
theorem Anm (args:List AV):(fun i=>args.getD i .any)=Ao (tmL 0 args):=by
 funext i;have:=Ak9 args 0 i;rw [Nat.zero_add] at this;exact this.symm
theorem St.init_eq (args:List AV):St.init args=⟨Ao (tmL 0 args),Ak [],1⟩:=by
 unfold St.init;rw [Anm];rfl
theorem Ao9 {tl:List (Nat×AV)} {ol:List (Oid×Option Ob)} {g:Nat} (s:Nat) (e:TypeId) (t:Ty) (ht:t.flat=true) (hs:Ao tl s=.nils):Weak ⟨Ao tl,Ak ol,g⟩ ⟨Ao ((s,.own ((s,0),g) t 0 0) :: tl),Ak ((((s,0),g),some (.arr e t [])) :: ol),g+1⟩:=by
 have:=Arm (S:=⟨Ao tl,Ak ol,g⟩) s e t ht hs;rw [Pr] at this;have e2:upd (Ak ol) ((s,0),g) (some (.arr e t []))=Ak ((((s,0),g),some (.arr e t [])) :: ol):=Jk rfl;rw [e2] at this;exact this
theorem B2 {tl:List (Nat×AV)} {ol:List (Oid×Option Ob)} {g:Nat} (s:Nat) (v v':AV) (h:Ao tl s=v) (e:v=v'):Weak ⟨Ao tl,Ak ol,g⟩ ⟨Ao ((s,v') :: tl),Ak ol,g⟩:=by
 subst e
 have:Ao ((s,v) :: tl)=Ao tl:=by
  funext i;simp only [Ao];split
  ·rename_i e; rw [e]; exact h.symm
  ·rfl
 rw [this]; exact Weak.refl _
theorem V1 {tl:List (Nat×AV)} {ol:List (Oid×Option Ob)} {g:Nat} (j:Oid) (o o':Ob) (h:Ak ol j=some o) (e:o=o') (hx:Mf (some o)=true:=by rfl):Weak ⟨Ao tl,Ak ol,g⟩ ⟨Ao tl,Ak ((j,some o') :: ol),g⟩:=by
 subst e
 have:Ak ((j,some o) :: ol)=Ak ol:=by
  rw [← Jk hx,Arb _ _ _ h]
 rw [this]; exact Weak.refl _
theorem Ku {tl:List (Nat×AV)} {ol:List (Oid×Option Ob)} {g:Nat} (s:Nat) (c:Oid) (k:Nat) (ty:TypeId) (cs ds:List AV) (e:TypeId) (t:Ty) (ht:t.flat=true) (hb:Ak ol c=some (.cells ty cs)) (hk:cs[k]? =some .nils) (hd:cs.set k (.own ((s,0),g) t 0 0)=ds) :
  Weak ⟨Ao tl,Ak ol,g⟩ ⟨Ao tl,Ak ((c,some (.cells ty ds)) :: (((s,0),g),some (.arr e t [])) :: ol),g+1⟩:=by
 subst hd;have:=Aeq (S:=⟨Ao tl,Ak ol,g⟩) s c k ty cs e t ht hb hk;have e2:upd (upd (Ak ol) ((s,0),g) (some (.arr e t []))) c (some (.cells ty (cs.set k (.own ((s,0),g) t 0 0))))=Ak ((c,some (.cells ty (cs.set k (.own ((s,0),g) t 0 0)))) :: (((s,0),g),some (.arr e t [])) :: ol):=by rw [Jk rfl,Jk rfl]
 rw [← e2];exact this
theorem Ane {tl:List (Nat×AV)} {ol:List (Oid×Option Ob)} {g:Nat} (s:Nat) (e:TypeId) (t:Ty) (hs:Ao tl s=.nils):Weak ⟨Ao tl,Ak ol,g⟩ ⟨Ao ((s,.own ((s,0),g) t 0 0) :: tl),Ak ((((s,0),g),some (.vec e 1 0 [])) :: ol),g+1⟩:=by
 have:=Apu (S:=⟨Ao tl,Ak ol,g⟩) s e t hs;rw [Pr] at this;have e2:upd (Ak ol) ((s,0),g) (some (.vec e 1 0 []))=Ak ((((s,0),g),some (.vec e 1 0 [])) :: ol):=Jk rfl;rw [e2] at this;exact this
def Auj (ol us:List (Oid×Ob)) (args:List AV) (v:AV):Bool :=
 (Ga ol&&(Ga us&&((ol.all fun q=>q.1.2==0)&&((us.all fun q=>q.1.2==1||(!q.2.isPool&&(Br ol).contains q.1))&&(ndB (Br us)&&ndB (Bt us))))))&&((ol.all fun q=>q.2.clo1 (Br ol))&&((us.all fun q=>q.2.hp1 (Br us))&&(AV.cloL (Br ol) args&&AV.hpB (Br us) v)))
def Ajd (ol:List (Oid×Ob)):List (Oid×Ob)->Prop
 | []=>True
 | q :: r=>(match q.2 with
  | .mat _ p u xss=>∃ e,(p,Ob.pool e u xss)∈ol
  | _=>True)∧Ajd ol r
theorem Ud {ol:List (Oid×Ob)}:∀ {l:List (Oid×Ob)},Ajd ol l->∀ i e p u xss,(i,Ob.mat e p u xss)∈l->∃ e,(p,Ob.pool e u xss)∈ol
 | _ :: _,h,i,e,p,u,xss,hm=>by
  rcases List.mem_cons.1 hm with rfl | hm
  ·exact h.1
  ·exact Ud h.2 i e p u xss hm
theorem Anp {ol:List (Oid×Ob)} {p:Oid} {e:TypeId} {u:Ty} {xss:List (List u.D)}:(p,Ob.pool e u xss)∈ol->∀ k,k<xss.length->kid p k∈nmL ol:=by
 induction ol with
 | nil=>intro h; cases h
 | cons x r ih =>
  obtain ⟨x1,x2⟩:=x;intro h k hk;rcases List.mem_cons.1 h with h | h
  ·cases h;simp only [nmL,exL,List.map_append,List.mem_append];refine .inl (List.mem_map.2 ⟨(kid p k,.arr e u xss[k]),List.mem_map.2 ⟨(xss[k],k),?_,rfl⟩,rfl⟩);rw [List.mem_zipIdx_iff_getElem?]; exact gEg hk
  ·have:=ih h k hk;cases x2 <;> simp only [nmL,exL,List.map_cons,List.map_append] at this⊢ <;> first | exact List.mem_cons_of_mem _ this | exact List.mem_append_right _ this
theorem O6 {ol:List (Oid×Ob)} {i:Oid} (h:i∈Br ol):i∈nmL ol:=by
 obtain ⟨o,ho,hp⟩:=Ap8 h;exact List.mem_map.2 ⟨_,Zo ho hp,rfl⟩
theorem Avc {D:Oid->Prop} {p:Oid} {u:Ty} (xss:List (List u.D)) (h:∀ k,k<xss.length->D (kid p k)):AV.hpL D (hdL p u xss):=by
 have key:∀ l:List (List u.D×Nat),(∀ x∈l,D (kid p x.2))->AV.hpL D (l.map fun x=>.own (kid p x.2) u 0 x.1.length):=by
  intro l
  induction l with
  | nil=>intro _; trivial
  | cons x l ih=>intro h; exact ⟨h x (by simp),ih fun y hy=>h y (by simp [hy])⟩
 refine key _ fun x hx=>h _ ?_
 obtain ⟨row,k⟩:=x;rw [List.mem_zipIdx_iff_getElem?] at hx;exact (gSi.1 hx).1
theorem Av9 {D:List Oid} (o:Ob) (h:o.clo1 D=true) (hp:o.isPool=false) (hm:∀ e p u xss,o≠.mat e p u xss):o.exp.cloP (·∈D):=by
 cases o with
 | cells _ cs=>exact AV.cloPL_of cs h
 | vec _ _ _ cs=>exact AV.cloPL_of cs h
 | mat e p u xss=>exact absurd rfl (hm _ _ _ _)
 | arr _ _ _=>trivial
 | map _ _ _=>trivial
 | pool _ _ _=>cases hp
 | tv e m t xs=>exact Alq xs
theorem Aw1 {D:List Oid} (o:Ob) (h:o.hp1 D=true) (hp:o.isPool=false) (hm:∀ e p u xss,o≠.mat e p u xss):o.exp.hp (·∈D):=by
 cases o with
 | cells _ cs=>exact AV.hpB_PL cs h
 | vec _ _ _ cs=>exact AV.hpB_PL cs h
 | mat e p u xss=>exact absurd rfl (hm _ _ _ _)
 | arr _ _ _=>trivial
 | map _ _ _=>trivial
 | pool _ _ _=>cases hp
 | tv e m t xs=>cases h
theorem cloP_mono {D E:Oid->Prop} (hd:∀ i,D i->E i) (o:Ob) (h:o.cloP D):o.cloP E:=by
 cases o <;> first | exact AV.cloPL_mono hd _ h | exact h
theorem hp_mono {D E:Oid->Prop} (hd:∀ i,D i->E i) (o:Ob) (h:o.hp D):o.hp E:=by
 cases o <;> first | exact AV.hpL_mono hd _ h | exact h
section
variable {P:Program} {G:World->Prop} (hfol:P.follows .mixedOrders=true) {g:FuncId} {fn:Func} (hf:P.funcs[g]? =some fn) {ac:AC} {rs:List Res} (hc:Am P fn=some (ac,rs)) {args:List AV} {r:RV} {n:Nat} (hN:fn.ntmps=n) (hn:args.length<=n)
include hfol hf hc hN hn
theorem Ar [IsP P] {tl:List (Nat×AV)} (htl:tmL 0 args=tl) (h:awp P G ac (fun e S=>∃ S',Weak S S'∧(e=.normal∨e=.ret)∧RetOK [] rs S' r) ⟨Ao tl,Ak [],1⟩):Ax P G g args r:=by
 refine As5 hfol hf hc hN hn ?_;rw [St.init_eq,htl];exact h
omit hN hn in
theorem Gt [IsP P] (hN:fn.ntmps=n) (hn:args.length<=n) {tl:List (Nat×AV)} (htl:tmL 0 args=tl) {ol us:List (Oid×Ob)} {v:AV} (hB:Auj ol us args v=true) (hm1:Ajd ol ol) (hm2:Ajd us us)
  (h:awp P G ac (fun e S=>∃ S',Weak S S'∧(e=.normal∨e=.ret)∧(∃ rvs,Res.evL S'.tm S'.ob rs=some rvs∧v=Ak3 rvs)∧∀ q∈exL us,S'.ob q.1=some q.2) ⟨Ao tl,Ak (Aq ol),1⟩):Ir P G g args ol v us:=by
 simp only [Auj,Bool.and_eq_true] at hB;obtain ⟨⟨a1,a2,a3,a4,a5,a6⟩,b1,b2,b3,b4⟩:=hB;rw [List.all_eq_true] at a3 a4 b1 b2
 have h0:∀ {l:List (Oid×Ob)},Ga l=true->∀ q∈l,q.1.1.2=0:=fun h q hq=>by
  unfold Ga at h;rw [List.all_eq_true] at h;have:=h q hq;simp only [Bool.and_eq_true,beq_iff_eq] at this;exact this.1
 refine Asc hfol hf hc hN hn (fun q hq=>?_) (Auy (Fp a5) (Fp a6) (h0 a2)) (fun q hq=>?_) (AV.cloPL_mono (fun i hi=>O6 hi) _ (AV.cloPL_of args b3)) (AV.hp_mono (fun i hi=>O6 hi) _ (AV.hpB_P v b4)) ?_
 ·rcases Gy hq with ⟨p,e,u,xss,k,row,m1,m2,rfl⟩ | ⟨o,m1,m2,m3⟩
  ·have:=a3 _ m1;rw [beq_iff_eq] at this;exact ⟨this,trivial⟩
  ·have:=a3 _ m1;refine ⟨by simpa using this,?_⟩;rw [m3];by_cases hmt:∃ e p u xss,o=.mat e p u xss
   ·obtain ⟨e,p,u,xss,rfl⟩:=hmt;obtain ⟨e',hp⟩:=Ud hm1 _ _ _ _ _ m1;exact Aqp xss fun k hk=>Anp hp k hk
   ·exact cloP_mono (fun i hi=>O6 hi) _ (Av9 o (b1 _ m1) m2 fun e p u xss h=>hmt ⟨e,p,u,xss,h⟩)
 ·rcases Gy hq with ⟨p,e,u,xss,k,row,m1,m2,rfl⟩ | ⟨o,m1,m2,m3⟩
  ·have:=a4 _ m1;simp only [Ob.isPool,Bool.not_true,Bool.false_and,Bool.or_false,beq_iff_eq] at this;exact ⟨.inl this,trivial⟩
  ·have:=a4 _ m1;simp only [Bool.or_eq_true,Bool.and_eq_true,beq_iff_eq] at this;refine ⟨this.imp id fun h=>O6 (List.contains_iff_mem.1 h.2),?_⟩;rw [m3];by_cases hmt:∃ e p u xss,o=.mat e p u xss
   ·obtain ⟨e,p,u,xss,rfl⟩:=hmt;obtain ⟨e',hp⟩:=Ud hm2 _ _ _ _ _ m1;exact Avc xss fun k hk=>Anp hp k hk
   ·exact hp_mono (fun i hi=>O6 hi) _ (Aw1 o (b2 _ m1) m2 fun e p u xss h=>hmt ⟨e,p,u,xss,h⟩)
 ·rw [Anm,htl];exact h
end
theorem A0 {rs:List Res} {f:Nat->AV} {ob:Oid->Option Ob} {g:Nat} {r:RV} (avs:List AV) {vs:List Value} {e:AE} (h2:PartsR vs ob avs r.ps) (he:e=.normal∨e=.ret:=by simp) (h1:Res.evL f ob rs=some avs:=by kernel_rfl) (h3:ndB (Afu ob (U3 avs))=true:=by kernel_rfl) (h4:r.tup=decide (rs.length≠1):=by kernel_rfl):∃ S',Weak ⟨f,ob,g⟩ S'∧(e=.normal∨e=.ret)∧RetOK vs rs S' r :=
 ⟨_,Weak.refl _,he,avs,r.ps,h1,h2,Fp h3,by cases r; cases h4; rfl⟩
theorem Nn {rs:List Res} {S:St} {tl:List (Nat×AV)} {g:Nat} {v:AV} {us:List (Oid×Ob)} {e:AE} (rvs:List AV) (hw:Weak S ⟨Ao tl,Ak (Aq us),g⟩) (he:e=.normal∨e=.ret:=by simp) (h1:Res.evL (Ao tl) (Ak (Aq us)) rs=some rvs:=by kernel_rfl) (hv:v=Ak3 rvs:=by kernel_rfl) (h2:(Ga us&&(ndB (Br us)&&ndB (Bt us)))=true:=by kernel_rfl) :
  ∃ S',Weak S S'∧(e=.normal∨e=.ret)∧(∃ rvs,Res.evL S'.tm S'.ob rs=some rvs∧v=Ak3 rvs)∧∀ q∈exL us,S'.ob q.1=some q.2:=by
 refine ⟨_,hw,he,⟨rvs,h1,hv⟩,fun q hq=>?_⟩;simp only [Bool.and_eq_true] at h2;obtain ⟨a1,a2,a3⟩:=h2
 have h0:∀ q∈us,q.1.1.2=0:=fun q hq=>by
  unfold Ga at a1;rw [List.all_eq_true] at a1;have:=a1 q hq;simp only [Bool.and_eq_true,beq_iff_eq] at this;exact this.1
 have:=N9 (rest:=[]) (Fp a2) (Fp a3) (fun p hp=>by obtain ⟨e,u,xss,hm⟩:=Avh hp; exact h0 _ hm) (fun i hi p hp k e=>by
  obtain ⟨o,ho,_⟩:=Ap8 hi;have:=h0 _ ho;rw [e] at this;simp [kid] at this) q hq
 rwa [List.append_nil] at this
section
variable {vs:List Value} {ob:Oid->Option Ob}
theorem Gm {cs r:List AV} {ls:List RL} {ps:List (Bool×List RL)} (h1:LeavesR vs ob cs ls) (h2:PartsR vs ob r ps):PartsR vs ob (.agg cs :: r) ((true,ls) :: ps):=⟨ls,ps,rfl,h1,h2⟩
theorem Ap {c:AV} {r:List AV} {l:RL} {ps:List (Bool×List RL)} (hc:c.one=true) (h1:LeafR vs ob c l) (h2:PartsR vs ob r ps):PartsR vs ob (c :: r) ((false,[l]) :: ps):=by
 rw [Ny (by rintro ⟨_,rfl⟩; cases hc)];exact ⟨l,ps,rfl,h1,h2⟩
theorem As:PartsR vs ob [] []:=rfl
theorem Bg {c:AV} {cs:List AV} {l:RL} {ls:List RL} (h1:LeafR vs ob c l) (h2:LeavesR vs ob cs ls):LeavesR vs ob (c :: cs) (l :: ls):=⟨l,ls,rfl,h1,h2⟩
theorem Gd:LeavesR vs ob [] []:=rfl
theorem Avb {c:AV} {l:RL} (h:Tk ob c=some l):LeafR vs ob c l:=.inl (.inl h)
theorem Eb {i:Oid} {t u:Ty} {e:TypeId} {xs:List u.D} {len:Nat} (h:ob i=some (.arr e u xs)) (hl:len=xs.length):LeafR vs ob (.own i t 0 len) (.new e u xs):=by
 subst hl;exact .inl (.inl (by simp only [Tk,h,Nat.le_refl,and_self,if_true,List.take_length]))
theorem Amz {e:TypeId} {t:Ty} (h:t.flat=true):LeafR vs ob .nils (.new e t []):=.inl (.inr (.inr ⟨e,t,rfl,rfl,h⟩))
end
end
section
open Go.RowKit Go.Deep
abbrev tm (n:Nat):Opd:=.tmp n
abbrev cb (b:Bool):Opd:=.cst (.bool b)
abbrev ci (n:Int):Opd:=.cst (.int .i64 n)
abbrev xo (d:Nat) (q:Q):X:=⟨some d,none,q⟩
abbrev xn (q:Q):X:=⟨none,none,q⟩
abbrev qm (x:Opd):Q:=.i (.mov x)
abbrev ql (x:Opd):Q:=.i (.ld true 1 x)
abbrev qs (x y:Opd):Q:=.st true 1 x y
abbrev qf (k:Nat) (x:Opd):Q:=.i (.fld k x)
abbrev qb (o:BinOp) (x y:Opd):Q:=.i (.bin o x y)
abbrev qx (sz:Nat) (x y:Opd):Q:=.i (.idx sz x y)
abbrev qc (f:FuncId) (xs:List Opd) (tys:List (List (Option Ty))):Q:=.call (.cst (.fn f [])) xs tys
abbrev rg (xs:List X):AC:=.region xs false []
abbrev ai (n:Int):AV:=.int .i64 n
abbrev oi (a b:Nat):Oid:=((a,0),b)
def Asu (d:Option Nat) (v:AV) (tl:List (Nat×AV)):List (Nat×AV) :=
 match d with
 | some d=>(d,v) :: tl
 | none=>tl
theorem Aqv (d:Option Nat) (v:AV) (tl:List (Nat×AV)):Kh d v (Ao tl)=Ao (Asu d v tl):=by
 cases d with
 | none=>rfl
 | some d=>simp only [Kh,Asu,Pr]
noncomputable def Aiq (g:Nat):Nat->Nat->List X->List (Nat×AV)->List (Oid×Option Ob)->Option (List (Nat×AV)×List (Oid×Option Ob))
 | 0,_,_,tl,ol=>some (tl,ol)
 | _+1,_,[],_,_=>none
 | n+1,k,x :: xs,tl,ol=>match Be (g+k) x (Ao tl) (Ak ol) with
  | some (_,v,us)=>if E9 us then Aiq g n (k+1) xs (Asu x.dst v tl) (us.reverseAux ol) else none
  | none=>none
noncomputable def Akk (g:Nat):Nat->Nat->List X->List (Nat×AV)->List (Oid×Option Ob)->List Rec->List (List Oid)->Option (List (Nat×AV)×List (Oid×Option Ob)×List Rec×List (List Oid))
 | 0,_,_,tl,ol,ra,da=>some (tl,ol,ra,da)
 | _+1,_,[],_,_,_,_=>none
 | n+1,k,x :: xs,tl,ol,ra,da=>match Be (g+k) x (Ao tl) (only (rdX (Ao tl) (Ak ol) x) (Ak ol)) with
  | some (c,v,us)=>if E9 us then Akk g n (k+1) xs (Asu x.dst v tl) (us.reverseAux ol) ((c,v,us) :: ra) (rdX (Ao tl) (Ak ol) x :: da) else none
  | none=>none
theorem Awq {P:Program} {G:World->Prop} {g:Nat} {Kf:List (Nat×AV)->List (Oid×Option Ob)->Prop}:∀ (n k:Nat) (xs:List X) (tl:List (Nat×AV)) (ol:List (Oid×Option Ob)) (r:List (Nat×AV)×List (Oid×Option Ob)),Aiq g n k xs tl ol=some r->XW P G g (k+n) (xs.drop n) r.1 r.2 Kf->XW P G g k xs tl ol Kf
 | 0,k,xs,tl,ol,r,h,hk=>by
  obtain rfl:=osj h;exact hk
 | n+1,k,[],tl,ol,r,h,hk=>by cases h
 | n+1,k,x :: xs,tl,ol,r,h,hk=>by
  simp only [Aiq] at h;split at h
  ·rename_i c v us hst;split at h
   ·rename_i hx;obtain ⟨rs,tl',ol',h1,h2⟩:=Awq (P:=P) (G:=G) n (k+1) xs _ _ r h (by rw [show k+1+n=k+(n+1) by omega]; exact hk);exact ⟨(c,v,us) :: rs,tl',ol',⟨_,_,rfl,Hz hst,by rw [Aqv,Gb _ _ hx]; exact h1⟩,h2⟩
   ·cases h
  ·cases h
theorem rsB {P:Program} {G:World->Prop} {g k:Nat} {xs:List X} {tl:List (Nat×AV)} {ol:List (Oid×Option Ob)} {Kf:List (Nat×AV)->List (Oid×Option Ob)->Prop} (n:Nat) (hk:XW P G g (k+n) (xs.drop n) ((Aiq g n k xs tl ol).getD ([],[])).1 ((Aiq g n k xs tl ol).getD ([],[])).2 Kf) (h:(Aiq g n k xs tl ol).isSome=true:=by kernel_rfl):XW P G g k xs tl ol Kf:=by
 obtain ⟨r,hr⟩:=Option.isSome_iff_exists.1 h;rw [hr] at hk;exact Awq n k xs tl ol r hr hk
theorem Awy {P:Program} {G:World->Prop} {g:Nat} {bad:List (Nat×Nat)} {Kf:List (Nat×AV)->List (Oid×Option Ob)->Prop}:∀ (n k:Nat) (xs:List X) (tl:List (Nat×AV)) (ol:List (Oid×Option Ob)) (ra:List Rec) (da:List (List Oid)) (r:List (Nat×AV)×List (Oid×Option Ob)×List Rec×List (List Oid)),Akk g n k xs tl ol ra da=some r->XD P G bad g (k+n) (xs.drop n) r.1 r.2.1 r.2.2.1 r.2.2.2 Kf->XD P G bad g k xs tl ol ra da Kf
 | 0,k,xs,tl,ol,ra,da,r,h,hk=>by
  obtain rfl:=osj h;exact hk
 | n+1,k,[],tl,ol,ra,da,r,h,hk=>by cases h
 | n+1,k,x :: xs,tl,ol,ra,da,r,h,hk=>by
  simp only [Akk] at h;split at h
  ·rename_i c v us hst;split at h
   ·rename_i hx;obtain ⟨rs,ds,tl',ol',h1,hb,h2⟩:=Awy (P:=P) (G:=G) n (k+1) xs _ _ _ _ r h (by rw [show k+1+n=k+(n+1) by omega]; exact hk);refine ⟨(c,v,us) :: rs,rdX (Ao tl) (Ak ol) x :: ds,tl',ol',⟨_,_,_,rfl,rfl,Hz hst,by rw [Aqv,Gb _ _ hx]; exact h1⟩,?_,h2⟩
    simpa using hb
   ·cases h
  ·cases h
theorem dsB {P:Program} {G:World->Prop} {g k:Nat} {xs:List X} {tl:List (Nat×AV)} {ol:List (Oid×Option Ob)} {bad:List (Nat×Nat)} {ra:List Rec} {da:List (List Oid)} {Kf:List (Nat×AV)->List (Oid×Option Ob)->Prop} (n:Nat) (hk:XD P G bad g (k+n) (xs.drop n) ((Akk g n k xs tl ol ra da).getD ([],[],[],[])).1 ((Akk g n k xs tl ol ra da).getD ([],[],[],[])).2.1 ((Akk g n k xs tl ol ra da).getD ([],[],[],[])).2.2.1 ((Akk g n k xs tl ol ra da).getD ([],[],[],[])).2.2.2 Kf) (h:(Akk g n k xs tl ol ra da).isSome=true:=by kernel_rfl):XD P G bad g k xs tl ol ra da Kf:=by
 obtain ⟨r,hr⟩:=Option.isSome_iff_exists.1 h;rw [hr] at hk;exact Awy n k xs tl ol ra da r hr hk
theorem Aj {P:Program} {G:World->Prop} {g:Nat} {xs:List X} {bad:List (Nat×Nat)} {y:AC} {R:AE->St->Prop} {tl:List (Nat×AV)} {ol:List (Oid×Option Ob)} (h:awp P G y R ⟨Ao ((Aiq g xs.length 0 xs tl ol).getD ([],[])).1,Ak ((Aiq g xs.length 0 xs tl ol).getD ([],[])).2,g+xs.length⟩) (hs:(Aiq g xs.length 0 xs tl ol).isSome=true:=by kernel_rfl):awp P G (.seq (.region xs false bad) y) R ⟨Ao tl,Ak ol,g⟩:=by
 refine Ab (Aa (g+xs.length) (rsB xs.length (by rw [List.drop_length]; exact An (tn_ ⟨_,Weak.refl _,h⟩)) hs) rfl)
theorem Ago {i:Oid} {ob:Oid->Option Ob}:only [i] ob i=ob i:=if_pos (List.mem_singleton.2 rfl)
section
variable {n:Nat} {d:Option Nat} {f:Nat->AV} {ob:Oid->Option Ob} {ol:List (Oid×Option Ob)}
theorem F0 {x:Opd} {o p:Oid} {e1:TypeId} {u:Ty} {xss:List (List u.D)} {row:List u.D} {j:Nat} (hx:x.ev f=.elt o j 0) (hob:ob o=some (.vec e1 1 xss.length (hdL p u xss))) (hr:xss[j]? =some row):Be n ⟨d,none,.i (.ld true 1 x)⟩ f ob=some (1,.own (kid p j) u 0 row.length,[]):=by
 have h:(hdL p u xss)[j*1+0]? =some (.own (kid p j) u 0 row.length):=by rw [E6]; simp [hr]
 simp only [Nat.mul_one,Nat.add_zero] at h;simp [Be,ev,evN,evR,hx,hob,C8,h]
theorem Akv {x y:Opd} {o:Oid} {e1:TypeId} {m:Nat} {cs:List AV} {v:AV} {j:Nat} (hx:x.ev f=.elt o j 0) (hob:ob o=some (.vec e1 1 m cs)) (hy:y.ev f=v) (hv:v.one=true) (hj:j<cs.length):Be n ⟨d,none,.st true 1 x y⟩ f ob=some (2,.any,[(o,none),(o,some (.vec e1 1 m (cs.set j v)))]):=by
 simp [Be,ev,Ael,hx,hob,hy,Hx,hv,hj]
theorem Ant {x y:Opd} {o q:Oid} {e1 e2:TypeId} {u:Ty} {t':Ty} {b:Nat} {p:Oid} {xss:List (List u.D)} {cs:List AV} {len:Nat} (hx:x.ev f=.own o t' 0 len) (hob:ob o=some (.vec e1 1 xss.length (hdL p u xss))) (hl:len=xss.length) {t2:Ty} (hy:y.ev f=.own q t2 0 1) (hq:ob q=some (.vec e2 1 1 cs)) (hc:cs.length=1) (h:xss.length+1<=1073741824∧(xss.length+1)*b<=140737488355328) :
  Be n ⟨d,none,.appV e1 (.slice u) b x y⟩ f ob=some (2,.own (o.1,n) (.slice u) 0 (xss.length+1),[(o,none),((o.1,n),some (.vec e1 1 (xss.length+1) (hdL p u xss++cs)))]):=by
 subst hl;have h1:List.take (xss.length*1) (hdL p u xss)=hdL p u xss:=by rw [Nat.mul_one]; exact List.take_of_length_le (by rw [E7]; exact Nat.le_refl _)
 have h2:List.take (1*1) (List.drop (0*1) cs)=cs:=by simp only [Nat.zero_mul,List.drop_zero,Nat.mul_one]; exact List.take_of_length_le (by omega)
 simp only [Be,ev,Mg,hx,hy,Amp,hq,hob,Ty.size,true_and,Nat.zero_add,Nat.le_refl,if_true,h1,h2,h.1,h.2,and_self]
theorem Auw {i:Oid} {e:TypeId} {t:Ty} {sz:Nat} {xs:List Opd} {r:Rec} (h:(Agf f i e t sz xs).map (fun r=>((1:Nat),r.1,r.2))=some r):evL f i (.mkV e t sz xs)=some r:=by
 simp only [evL];cases hq:Agf f i e t sz xs with
 | none=>rw [hq] at h; cases h
 | some q=>rw [hq] at h; obtain ⟨v,us⟩:=q; exact h
theorem Ah2 {i:Oid} {e:TypeId} (e':TypeId) {u:Ty} {b:Nat} {x y:Opd} {k k':IntKind} {m c:Int} {j:Nat} (hx:x.ev f=.int k m) (hy:y.ev f=.int k' c) (h:0<=m∧m<=c∧c<=1073741824∧(b:Int)*c<=140737488355328) (hfl:u.flat=true) (hj:m.toNat=j) :
  Aka f i (.makeV e (.slice u) b [.nils] x y) (1,RV.out ⟨false,[(false,[.newM e e' u (List.replicate j [])])]⟩ (C5 i) []):=by
 subst hj;exact ⟨e,e',u,b,x,y,k,k',m,c,rfl,hx,hy,h,hfl,rfl⟩
theorem As0 {i:Oid} {e e':TypeId} {u:Ty} {xss:List (List u.D)} (h:Mb i.2 ol=true):A2 (RV.out ⟨false,[(false,[.newM e e' u xss])]⟩ (C5 i) []).2 (Ak ol)=Ak ((C5 i 0,some (.mat e (C5 i 0) u xss)) :: (C5 i 0,some (.pool e' u xss)) :: ol):=by
 have e0:(RV.out ⟨false,[(false,[.newM e e' u xss])]⟩ (C5 i) []).2=(C5 i 0,some (.vec e 1 xss.length (hdL (C5 i 0) u xss))) :: (Aaq (C5 i 0) e' u xss++[]):=rfl;rw [e0,List.append_nil];show A2 (Aaq (C5 i 0) e' u xss) (upd (Ak ol) (C5 i 0) (some (.vec e 1 xss.length (hdL (C5 i 0) u xss))))=_
 rw [Jk rfl,Ajv (fun k=>by
  have:Ak ((C5 i 0,some (.vec e 1 xss.length (hdL (C5 i 0) u xss))) :: ol) (kid (C5 i 0) k)=if kid (C5 i 0) k=C5 i 0 then some (.vec e 1 xss.length (hdL (C5 i 0) u xss)) else Ak ol (kid (C5 i 0) k):=by simp only [Ak]
  rw [this,if_neg (fun e=>by have:=congrArg (fun i:Oid=>i.1.2) e; simp [kid,C5] at this)];exact N7 h _ rfl)]
 funext j;have h2:∀ j,Ak ((C5 i 0,some (.vec e 1 xss.length (hdL (C5 i 0) u xss))) :: ol) j=if j=C5 i 0 then some (.vec e 1 xss.length (hdL (C5 i 0) u xss)) else Ak ol j:=fun j=>by simp only [Ak]
 rw [Ng,J4,J4,h2];by_cases hj:j=C5 i 0
 ·subst hj;rw [if_pos rfl,if_neg (fun h=>h.2.2 rfl),if_pos rfl]
 ·rw [if_neg hj,if_neg hj]
end
section
variable {P:Program} {G:World->Prop} {g k d:Nat} {gd:Option (Nat×Bool)} {q:Q} {xs:List X} {tl:List (Nat×AV)} {ol:List (Oid×Option Ob)} {bad:List (Nat×Nat)} {ra:List Rec} {da:List (List Oid)} {Kf:List (Nat×AV)->List (Oid×Option Ob)->Prop}
theorem Awt (v:AV) (i:Oid) (o:Ob) (hgd:Wl gd (Ao tl)) (h:evL (Ao tl) ((d,0),g+k) q=some (1,v,[(i,some o)])) (h3:XW P G g (k+1) xs ((d,v) :: tl) ((i,some o) :: ol) Kf) (hx:Mf (some o)=true:=by rfl):XW P G g k (⟨some d,gd,q⟩ :: xs) tl ol Kf:=Aab 1 v _ (Aww (d:=some d) hgd h) h3 (by simp only [E9,List.all_cons,List.all_nil,hx]; rfl)
theorem Am9 (v:AV) (i:Oid) (e e':TypeId) (u:Ty) (xss:List (List u.D)) (hgd:Wl gd (Ao tl)) (h:Aka (Ao tl) ((d,0),g+k) q (1,RV.out ⟨false,[(false,[.newM e e' u xss])]⟩ (C5 ((d,0),g+k)) [])) (hi:C5 ((d,0),g+k) 0=i) (hv:AV.own i (.slice u) 0 xss.length=v) (hn:Mb (g+k) ol=true) (h3:XW P G g (k+1) xs ((d,v) :: tl) ((i,some (.mat e i u xss)) :: (i,some (.pool e' u xss)) :: ol) Kf):XW P G g k (⟨some d,gd,q⟩ :: xs) tl ol Kf:=by
 subst hi hv;exact Amq 1 _ _ _ (At3 (d:=some d) hgd h) (As0 hn) h3
end
-- what arguments read as
section
variable {ol:List (Oid×Option Ob)} {n:Nat}
theorem Add {α:Type} {g:List AV->Option α}:∀ {cs:List AV} {xs:List α},cs.length=xs.length->(∀ (k:Nat) (c:AV) (x:α),cs[k]? =some c->xs[k]? =some x->g [c]=some x)->P9 g 1 xs.length cs=some xs
 | [],[],_,_=>rfl
 | c :: cs,x :: xs,hl,h=>by
  have h0:=h 0 c x rfl rfl;have ih:=Add (g:=g) (cs:=cs) (xs:=xs) (by simpa using hl) (fun k c x h1 h2=>h (k+1) c x h1 h2);simp only [List.length_cons,P9,List.take_succ_cons,List.take_zero,List.drop_succ_cons,List.drop_zero,h0,ih]
 | [],_ :: _,hl,_=>by simp at hl
 | _ :: _,[],hl,_=>by simp at hl
theorem Ar7 {ob:Oid->Option Ob} {o p:Oid} {e1 e:TypeId} {u:Ty} {xss:List (List u.D)} {m len:Nat} (ho:ob o=some (.vec e1 1 m (hdL p u xss))) (hm:m=xss.length) (hk:∀ k row,xss[k]? =some row->ob (kid p k)=some (.arr e u row)) {t':Ty} (hl:len<=xss.length):Akn ob 1 (rdC ob (.slice u)) (.own o t' 0 len)=some (xss.take len):=by
 have h1:(((hdL p u xss).drop (0*1)).take (len*1))=hdL p u (xss.take len):=by
  simp only [Nat.zero_mul,List.drop_zero,Nat.mul_one];apply List.ext_getElem?;intro j;rw [List.getElem?_take,E6,E6,List.getElem?_take];split <;> rfl
 have hlen:(xss.take len).length=len:=by rw [List.length_take]; omega
 simp only [Akn,ho];rw [if_pos ⟨trivial,by omega⟩,h1]
 have:=Add (g:=rdC ob (.slice u)) (cs:=hdL p u (xss.take len)) (xs:=xss.take len) E7 (fun k c x hc hx=>by
  rw [E6,hx] at hc;obtain rfl:=osj hc;rw [List.getElem?_take] at hx;split at hx
  ·have:=hk k x hx;simp only [rdC,E1,this,Nat.zero_add,Nat.le_refl,if_true,Ty.eq?_self,C2,List.drop_zero,List.take_length]
  ·cases hx)
 rw [hlen] at this;exact this
theorem Aqy {ob:Oid->Option Ob} {o p:Oid} {e1 e:TypeId} {u:Ty} {xss:List (List u.D)} {len:Nat} (ho:ob o=some (.vec e1 1 xss.length (hdL p u xss))) (hk:∀ k row,xss[k]? =some row->ob (kid p k)=some (.arr e u row)) (hl:len=xss.length):gnd ob (n+1) (.own o (.slice u) 0 len)=some (.tree (.slice u) xss):=by
 subst hl;have:=Ar7 (t':=.slice u) ho rfl hk (Nat.le_refl _);rw [List.take_length] at this;simp only [gnd,ho,Ty.size,this,Option.map_some]
theorem Agj {p:Oid} {e:TypeId} {u:Ty} {xss:List (List u.D)} (h:Er ol p=some (.pool e u xss)):∀ k row,xss[k]? =some row->Ak ol (kid p k)=some (.arr e u row):=fun _ _ hx=>Bo h hx
def Akp (θ:Oid->Oid) (ol0:List (Oid×Ob)) (i:Oid):Bool:=ol0.all fun q=>if q.2.isPool then !(i.1.1==(θ q.1).1.1&&(i.2==(θ q.1).2&&i.1.2 !=0)) else i !=θ q.1
theorem Asy {l:List (Oid×Oid)} {ob:Oid->Option Ob} {ol0:List (Oid×Ob)} {i:Oid} (hl:Sd l=true) (h0:Ga ol0=true) (h:Akp (Bl l) ol0 i=true):Acr ((nmL ol0).map (Bl l)) ob i=ob i:=by
 unfold Acr;rw [if_neg];intro hm;obtain ⟨j,hj,rfl⟩:=List.mem_map.1 hm;obtain ⟨q,hq,rfl⟩:=List.mem_map.1 hj;unfold Akp at h;rw [List.all_eq_true] at h;unfold Ga at h0;rw [List.all_eq_true] at h0;rcases Gy hq with ⟨p,e,u,xss,k,row,m1,m2,rfl⟩ | ⟨o,m1,m2,m3⟩
 ·have:=h _ m1;have hz:=h0 _ m1;simp only [Bool.and_eq_true,beq_iff_eq] at hz;rw [H8 hl hz.1] at this;simp [Ob.isPool,kid] at this
 ·have:=h _ m1;simp [m2] at this
theorem Aob {l:List (Oid×Oid)} {i:Oid} {ol us:List (Oid×Ob)} (hB:Amr ol us=true):∀ u∈K9 (Bl l) i ol us,u.1.2=i.2∨u.1∈(nmL ol).map (Bl l):=by
 intro u hu;rcases List.mem_append.1 hu with hu | hu
 ·obtain ⟨q,hq,rfl⟩:=List.mem_map.1 hu;exact .inr (List.mem_map.2 ⟨q.1,List.mem_map.2 ⟨q,hq,rfl⟩,rfl⟩)
 ·obtain ⟨q,hq,rfl⟩:=List.mem_map.1 hu;rcases Ai1 hB q hq with h | ⟨h,h'⟩
  ·exact .inl (by simp [Cq,h])
  ·exact .inr (List.mem_map.2 ⟨q.1,h',by simp [Cq,h]⟩)
def Aqe (l:List (Oid×Oid)) (i:Oid) (ol us:List (Oid×Ob)) (r:Rec) (d:List Oid):Bool:=Sd l&&(Ga ol&&(Amr ol us&&((d.all fun x=>x.2 !=i.2&&Akp (Bl l) ol x)&&((r.2.2.all fun u=>u.1.2 !=i.2&&Akp (Bl l) ol u.1)&&r.1 !=2))))
theorem Ajq {l:List (Oid×Oid)} {ol:List (Oid×Ob)} {i:Oid} (hl:Sd l=true) (h0:Ga ol=true) (h:Akp (Bl l) ol i=true):i∉(nmL ol).map (Bl l):=by
 intro hm;have:=Asy (ob:=fun _=>some (.map 0 .int [])) hl h0 h;unfold Acr at this;rw [if_pos hm] at this;cases this
theorem Alv {l:List (Oid×Oid)} {i:Oid} {ol us:List (Oid×Ob)} {r:Rec} {d:List Oid} (h:Aqe l i ol us r d=true):(∀ u∈K9 (Bl l) i ol us,u.1∉d)∧(∀ u∈K9 (Bl l) i ol us,∀ v∈r.2.2,u.1≠v.1)∧r.1≠2:=by
 simp only [Aqe,Bool.and_eq_true,bne_iff_ne,ne_eq] at h;obtain ⟨h1,h2,h3,h4,h5,h6⟩:=h;rw [List.all_eq_true] at h4 h5;refine ⟨fun u hu hd=>?_,fun u hu v hv e=>?_,h6⟩
 ·have:=h4 _ hd;simp only [Bool.and_eq_true,bne_iff_ne,ne_eq] at this;rcases Aob h3 u hu with h | h
  ·exact this.1 h
  ·exact Ajq h1 h2 this.2 h
 ·have:=h5 _ hv;simp only [Bool.and_eq_true,bne_iff_ne,ne_eq] at this;rcases Aob h3 u hu with h | h
  ·exact this.1 (by rw [← e]; exact h)
  ·exact Ajq h1 h2 this.2 (by rw [← e]; exact h)
theorem Avx {l:List (Oid×Oid)} {i:Oid} {ol us:List (Oid×Ob)} {v:AV} {ri:Rec} {di dj:List Oid} (h:Aqe l i ol us ri di=true):O2 ri (2,v,K9 (Bl l) i ol us) di dj:=by
 obtain ⟨h1,h2,h3⟩:=Alv h;exact .inr ⟨fun e=>absurd e h3,fun _=>h1,fun u hu v hv e=>h2 v hv u hu e.symm⟩
def Aro (zs:List AV) (ob:Oid->Option Ob) (θ:Oid->Oid):List (Oid×Ob)->Prop
 | []=>True
 | q :: r=>(match q.2 with
  | .pool _ _ xss=>∀ k,k<xss.length->Reached zs ob (kid (θ q.1) k)
  | _=>Reached zs ob (θ q.1))∧Aro zs ob θ r
theorem B8 {zs:List AV} {ob:Oid->Option Ob} {l:List (Oid×Oid)} (hl:Sd l=true):∀ {ol:List (Oid×Ob)},Ga ol=true->Aro zs ob (Bl l) ol->∀ j∈nmL ol,Reached zs ob (Bl l j)
 | [],_,_,j,hj=>by cases hj
 | (p,o) :: r,h0,h,j,hj=>by
  simp only [Ga,List.all_cons,Bool.and_eq_true,beq_iff_eq] at h0;obtain ⟨⟨h1,_⟩,h2⟩:=h0;have ih:j∈nmL r->Reached zs ob (Bl l j):=fun hm=>B8 hl (ol:=r) (by simpa [Ga] using h2) h.2 j hm
  cases o with
  | pool e u xss =>
   simp only [nmL,exL,List.map_append,List.mem_append] at hj;rcases hj with hj | hj
   ·obtain ⟨q,hq,rfl⟩:=List.mem_map.1 hj;obtain ⟨⟨row,k⟩,hx,rfl⟩:=List.mem_map.1 hq;rw [List.mem_zipIdx_iff_getElem?] at hx;show Reached zs ob (Bl l (kid p k));rw [H8 hl h1];exact h.1 k (gSi.1 hx).1
   ·exact ih hj
  | _ =>
   simp only [nmL,exL,List.map_cons,List.mem_cons] at hj;rcases hj with rfl | hj
   ·exact h.1
   ·exact ih hj
theorem Ca {zs:List AV} {ob:Oid->Option Ob} {i:Oid} (h:(AV.nmsL zs).contains i=true):Reached zs ob i:=.arg (List.contains_iff_mem.1 h)
theorem Fm {zs:List AV} {ob:Oid->Option Ob} {k i:Oid} {ty:TypeId} {cs:List AV} (h1:Reached zs ob k) (h2:ob k=some (.cells ty cs)) (h:(AV.nmsL cs).contains i=true):Reached zs ob i:=.cells h1 h2 (List.contains_iff_mem.1 h)
theorem Ath {p:Oid} {u:Ty} {xss:List (List u.D)} {k:Nat} (h:k<xss.length):kid p k∈AV.nmsL (hdL p u xss):=by
 have key:∀ cs:List AV,∀ c∈cs,∀ i∈c.nms,i∈AV.nmsL cs:=by
  intro cs
  induction cs with
  | nil=>intro c h; cases h
  | cons x r ih =>
   intro c hc i hi;rcases List.mem_cons.1 hc with rfl | hc
   ·exact List.mem_append_left _ hi
   ·exact List.mem_append_right _ (ih c hc i hi)
 refine key _ (.own (kid p k) u 0 xss[k].length) ?_ _ (List.mem_singleton.2 rfl);apply List.mem_iff_getElem?.2;exact ⟨k,by rw [E6,gEg h]; rfl⟩
theorem I2 {zs:List AV} {ob:Oid->Option Ob} {o p:Oid} {e1:TypeId} {m:Nat} {u:Ty} {xss:List (List u.D)} (h1:Reached zs ob o) (h2:ob o=some (.vec e1 1 m (hdL p u xss))):∀ k,k<xss.length->Reached zs ob (kid p k):=fun _ hk=>.vec h1 h2 (Ath hk)
end
theorem Av7 {L:List Oid} {l:List (Oid×Oid)} {xs:List (Oid×Ob)} (h:(xs.all fun q=>L.contains (Bl l q.1))=true):∀ q∈xs,Bl l q.1∈L:=fun q hq=>by
 have:=List.all_eq_true.1 h q hq
 simpa using this
end
section
open Go.RowKit Go.Deep
def NeL (i:Oid):List Oid->Prop
 | []=>True
 | x :: r=>x≠i∧NeL i r
theorem Auf {L M:List Oid} {ob:Oid->Option Ob} {i:Oid} (hL:M=L) (h:NeL i L):Acr M ob i=ob i:=by
 subst hL;unfold Acr;rw [if_neg];intro hm
 induction M with
 | nil=>cases hm
 | cons x r ih =>
  rcases List.mem_cons.1 hm with rfl | hm
  ·exact h.1 rfl
  ·exact ih h.2 hm
theorem Avt {p:Oid} {j k:Nat} (h:j≠k):kid p j≠kid p k:=fun e=>h (G3 e)
theorem Ail {L:List Oid} {ob:Oid->Option Ob} {i:Oid} (h:i∈L):only L ob i=ob i:=if_pos h
theorem Anf {f:Nat->AV} {ob:Oid->Option Ob} {d:Option Nat} {gd:Option (Nat×Bool)} {fo y:Opd} {ys:List Opd} {tys:List (List (Option Ty))} {i:Oid} {t:Ty} {off len:Nat} (n:Nat) (hy:ys[n]? =some y) (he:y.ev f=.own i t off len):i∈rdX f ob ⟨d,gd,.call fo ys tys⟩:=by
 refine List.mem_flatMap.2 ⟨y,List.mem_cons_of_mem _ (List.mem_of_getElem? hy),?_⟩;rw [he];show i∈Sb ob (7+1) (.own i t off len);unfold Sb;dsimp only;split <;> simp
theorem Ava {L:List Oid} {l:List (Oid×Oid)}:∀ q∈exL [],Bl l q.1∈L:=fun _ h=>by cases h
theorem Av6 {L:List Oid} {l:List (Oid×Oid)} {i:Oid} {e:TypeId} {t:Ty} {xs:List t.D} {r:List (Oid×Ob)} (h:Bl l i∈L) (hr:∀ q∈exL r,Bl l q.1∈L):∀ q∈exL ((i,.arr e t xs) :: r),Bl l q.1∈L:=fun q hq=>by
 rcases List.mem_cons.1 hq with rfl | hq
 ·exact h
 ·exact hr q hq
theorem Awo {ob:Oid->Option Ob} {o:Oid} {e1:TypeId} {sz m n:Nat} {cs:List AV} (h:ob o=some (.vec e1 sz n cs)) (e:m=n):ob o=some (.vec e1 sz m cs):=by rw [e]; exact h
theorem Anl {α:Type} {xs:List α} {k:Nat} (h:k<=xs.length):k=(xs.take k).length:=by rw [List.length_take]; omega
theorem Aps {S:St} {o:Oid} {e1:TypeId} {sz n k:Nat} {cs:List AV} (ho:S.ob o=some (.vec e1 sz n cs)) (hk:k<=n):Weak S ⟨S.tm,upd S.ob o (some (.vec e1 sz k (cs.take (k*sz)))),S.gen⟩:=by
 intro G w0 B N a w hr;obtain ⟨σ,hm,hf,hB⟩:=hr.ex
 have was:∀ i x,upd S.ob o (some (.vec e1 sz k (cs.take (k*sz)))) i=some x->∃ y,S.ob i=some y:=fun i x hx=>by
  by_cases h:i=o
  ·subst h; exact ⟨_,ho⟩
  ·rw [A6 _ _ _ _ h] at hx; exact ⟨x,hx⟩
 have hL:Later σ σ (imm S.ob σ) (imm (upd S.ob o (some (.vec e1 sz k (cs.take (k*sz))))) σ) w w:=⟨fun _ _ h=>h,fun b _ hb i x c s hx hs=>by obtain ⟨y,hy⟩:=was i x hx; exact hb i y c s hy hs,fun _ _ _=>rfl,Nat.le_refl _⟩
 refine ⟨⟨σ,⟨hm.below,hm.inv,hm.gen,hm.lt,hm.cap,fun i j b c s c' s' x y hx hy e1 e2=>?_,fun i x l hx hl=>?_⟩,fun t=>AV.Rep.later hL _ _ (hf t),hB.trans hL⟩,hr.size,hr.defers,fun i hi=>?_⟩
 ·obtain ⟨x',hx'⟩:=was i x hx;obtain ⟨y',hy'⟩:=was j y hy;exact hm.inj i j b c s c' s' x' y' hx' hy' e1 e2
 ·by_cases h:i=o
  ·subst h;have hx:upd S.ob i (some (.vec e1 sz k (cs.take (k*sz)))) i=some x:=hx;rw [Ba] at hx;obtain rfl:=osj hx;obtain ⟨vs,p1,p2,p3,p4⟩:=hm.obs i _ l ho hl;refine ⟨vs.take (k*sz),p1.take hk (fun g cap e=>?_) (fun e=>?_),(AV.RepL.later hL _ _ p2).take _,fun v hv=>p3 v (List.mem_of_mem_take hv),p4⟩
   ·cases l with
    | nil=>cases e
    | at_ b c s=>cases e; rfl
   ·cases l with
    | nil=>rfl
    | at_ b c s=>cases e
  ·have hx:upd S.ob o (some (.vec e1 sz k (cs.take (k*sz)))) i=some x:=hx;rw [A6 _ _ _ _ h] at hx;exact (hm.obs i x l hx hl).later hL fun _ _ _ _=>rfl
 ·by_cases h:i=o
  ·subst h; exact hr.obg i (by rw [ho]; simp)
  ·have hi:upd S.ob o (some (.vec e1 sz k (cs.take (k*sz)))) i≠none:=hi;rw [A6 _ _ _ _ h] at hi;exact hr.obg i hi
theorem Ame {tl:List (Nat×AV)} {ol:List (Oid×Option Ob)} {g:Nat} (s:Nat) (o p:Oid) {e1 e:TypeId} {u:Ty} {xss:List (List u.D)} {n k:Nat} (hfl:u.flat=true) (ho:Ak ol o=some (.vec e1 1 n (hdL p u xss))) (hn:n=xss.length) (hp:Er ol p=some (.pool e u xss)) (hk:k<=n) (hpo:(o.1.1==p.1.1&&o.2==p.2&&o.1.2 !=0)=false) (hog:(o.2==g)=false) (hfr:Mb g ((p,some (.pool e u [])) :: ol)=true) :
  Weak ⟨Ao tl,Ak ol,g⟩ ⟨Ao tl,Ak ((o,some (.mat e1 ((s,0),g) u (xss.take k))) :: (((s,0),g),some (.pool e u (xss.take k))) :: (p,some (.pool e u [])) :: (o,some (.vec e1 1 k ((hdL p u xss).take k))) :: ol),g+1⟩:=by
 have h1:Weak ⟨Ao tl,Ak ol,g⟩ ⟨Ao tl,Ak ((o,some (.vec e1 1 k ((hdL p u xss).take k))) :: ol),g⟩:=by
  have:=Aps (S:=⟨Ao tl,Ak ol,g⟩) ho hk;rw [Nat.mul_one] at this;rw [← Jk rfl];exact this
 refine h1.trans ?_;have hok:∀ j,kid p j≠o:=fun j e=>by rw [← e] at hpo; simp [kid] at hpo
 have hpool:Er ((o,some (.vec e1 1 k ((hdL p u xss).take k))) :: ol) p=some (.pool e u xss):=by
  show (if p.1.1=o.1.1∧p.2=o.2∧o.1.2≠0 then none else Er ol p)=_;rw [if_neg,hp];rintro ⟨a1,a2,a3⟩;rw [a1,a2] at hpo;simp [a3] at hpo
 refine It s o (fun j=>kid p j) [(p,some (.pool e u []))] hfl (by show Ak _ o=_; simp only [Ak]; rw [if_pos trivial]) (by rw [List.length_take]; omega) (fun j row hj=>?_) (fun a b _ _ hab=>G3 hab) hog ?_ (fun i hi=>?_)
 ·rw [List.getElem?_take] at hj ⊢;split at hj
  ·rename_i hlt;rw [if_pos hlt,E6,hj];exact ⟨rfl,row,Bo hpool hj,Nat.le_refl _,(List.take_length).symm⟩
  ·cases hj
 ·simp only [Mb,List.all_append,List.all_cons,List.all_nil,Bool.and_true,Bool.and_eq_true,bne_iff_ne] at hfr ⊢;exact ⟨hfr.1,by simpa using hog,hfr.2⟩
 ·simp only [List.cons_append,List.nil_append,J3];split
  ·exact .inl rfl
  ·rename_i h2;exact .inr ⟨rfl,fun j _ e=>h2 (by rw [e]; exact ⟨rfl,rfl,by simp [kid]⟩)⟩
theorem Amh {tl:List (Nat×AV)} {ol:List (Oid×Option Ob)} {g:Nat} (s:Nat) (o p:Oid) {e1 e:TypeId} {u:Ty} {xss:List (List u.D)} {k:Nat} (hfl:u.flat=true) (ho:Ak ol o=some (.vec e1 1 k ((hdL p u xss).take k))) (hp:Er ol p=some (.pool e u xss)) (hk:k<=xss.length) (hog:(o.2==g)=false) (hfr:Mb g ((p,some (.pool e u [])) :: ol)=true) :
  Weak ⟨Ao tl,Ak ol,g⟩ ⟨Ao tl,Ak ((o,some (.mat e1 ((s,0),g) u (xss.take k))) :: (((s,0),g),some (.pool e u (xss.take k))) :: (p,some (.pool e u [])) :: ol),g+1⟩:=by
 refine It s o (fun j=>kid p j) [(p,some (.pool e u []))] hfl ho (by rw [List.length_take]; omega) (fun j row hj=>?_) (fun a b _ _ hab=>G3 hab) hog hfr (fun i hi=>?_)
 ·rw [List.getElem?_take] at hj ⊢;split at hj
  ·rename_i hlt;rw [if_pos hlt,E6,hj];exact ⟨rfl,row,Bo hp hj,Nat.le_refl _,(List.take_length).symm⟩
  ·cases hj
 ·simp only [List.cons_append,List.nil_append,J3];split
  ·exact .inl rfl
  ·rename_i h2;exact .inr ⟨rfl,fun j _ e=>h2 (by rw [e]; exact ⟨rfl,rfl,by simp [kid]⟩)⟩
section
variable {f:Nat->AV} {ob:Oid->Option Ob} {n:Nat} {d:Option Nat}
theorem Apy {sz:Nat} {x hi mx:Opd} {i:Oid} {t:Ty} {len N:Nat} {e:TypeId} {cs:List AV} {kh km:IntKind} {h m:Int} {j:Nat} (hx:x.ev f=.own i t 0 len) (hob:ob i=some (.vec e 1 N cs)) (hh:hi.ev f=.int kh h) (hm:mx.ev f=.int km m) (hs:t.size=sz) (hb:0<=h∧h<=m∧m<=(len:Int)) (hj:h.toNat=j) (hk:j<=N) :
  Be n ⟨d,none,.slice sz x none (some hi) (some mx)⟩ f ob=some (2,.own ((d.getD 0,0),n) t 0 j,[(i,none),(((d.getD 0,0),n),some (.vec e 1 j (cs.take j)))]):=by
 subst hj;simp [Be,ev,Vi,H9,Ei,hx,hob,hh,hm,hs,hb,Ahd,hk,AV.un]
theorem Xu:∀ (n:Nat) (l:List Int),l.length=n+1->Te ((tyA n).av (Fa n l))=some l
 | 0,[x],_=>rfl
 | 0,[],h=>by cases h
 | 0,_ :: _ :: _,h=>by simp at h
 | n+1,[],h=>by cases h
 | n+1,x :: l,h=>by
  have:=Xu n l (by simpa using h);simp only [tyA,Fa,Ty.av,List.cons_append,List.nil_append,List.tail_cons,List.getD_cons_zero,Te,this]
theorem Awf {neg:Bool} {N:Nat} {x y:Opd} {l l':List Int} (hx:x.ev f=.agg ((tyA N).av (Fa N l))) (hy:y.ev f=.agg ((tyA N).av (Fa N l'))) (h1:l.length=N+1∧l'.length=N+1) :
  Be n ⟨d,none,.i (.cmp neg (N+4) x y)⟩ f ob=some (0,.bool (if neg then !(l==l') else l==l'),[]):=by
 have e1:=Xu N l h1.1;have e2:=Xu N l' h1.2;have e3:=Qa N l;simp [Be,ev,evN,Xz,Aha,hx,hy,AV.un,e1,e2,e3,h1]
end
end
section
open Go.RowKit Go.Deep
abbrev T5:Ty:=.pair .int (.pair .int (.pair .int (.pair .int .int)))
section
variable {P:Program} {G:World->Prop} {g k d:Nat} {gd:Option (Nat×Bool)} {q:Q} {xs:List X} {tl:List (Nat×AV)} {ol:List (Oid×Option Ob)} {bad:List (Nat×Nat)} {ra:List Rec} {da:List (List Oid)} {Kf:List (Nat×AV)->List (Oid×Option Ob)->Prop}
theorem rz0 (v:AV) (h3:XW P G g (k+1) xs ((d,v) :: tl) ol Kf) (h:Be (g+k) ⟨some d,gd,q⟩ (Ao tl) (Ak ol)=some (0,v,[]):=by kernel_rfl):XW P G g k (⟨some d,gd,q⟩ :: xs) tl ol Kf:=rs0 v h h3
theorem rzl (v:AV) (h3:XW P G g (k+1) xs ((d,v) :: tl) ol Kf) (h:Be (g+k) ⟨some d,gd,q⟩ (Ao tl) (Ak ol)=some (1,v,[]):=by kernel_rfl):XW P G g k (⟨some d,gd,q⟩ :: xs) tl ol Kf:=rsl v h h3
theorem dz0 (v:AV) (h3:XD P G bad g (k+1) xs ((d,v) :: tl) ol ((0,v,[]) :: ra) ((rdX (Ao tl) (Ak ol) ⟨some d,gd,q⟩) :: da) Kf) (h:Be (g+k) ⟨some d,gd,q⟩ (Ao tl) (only (rdX (Ao tl) (Ak ol) ⟨some d,gd,q⟩) (Ak ol))=some (0,v,[]):=by kernel_rfl):XD P G bad g k (⟨some d,gd,q⟩ :: xs) tl ol ra da Kf:=ds0 v h h3
theorem dzl (v:AV) (h3:XD P G bad g (k+1) xs ((d,v) :: tl) ol ((1,v,[]) :: ra) ((rdX (Ao tl) (Ak ol) ⟨some d,gd,q⟩) :: da) Kf) (h:Be (g+k) ⟨some d,gd,q⟩ (Ao tl) (only (rdX (Ao tl) (Ak ol) ⟨some d,gd,q⟩) (Ak ol))=some (1,v,[]):=by kernel_rfl):XD P G bad g k (⟨some d,gd,q⟩ :: xs) tl ol ra da Kf:=dsl v h h3
theorem zs {s:Nat} {b c:Bool} (hc:c= !b) (h3:XW P G g (k+1) xs ((d,.tup []) :: tl) ol Kf) (hs:Ao tl s=.bool c:=by kernel_rfl):XW P G g k (⟨some d,some (s,b),q⟩ :: xs) tl ol Kf:=rs0 (.tup []) (C1 hs hc) h3
theorem zc {fo:Opd} {ys:List Opd} {tys:List (List (Option Ty))} {F:FuncId} {rv:RV} {args:List AV} (v:AV) (us:List (Oid×Option Ob)) (zs:List AV) (hc:Ax P G F args rv) (h3:XW P G g (k+1) xs ((d,v) :: tl) (us.reverseAux ol) Kf) (h1:Qy (gnd (Ak ol) 8) zs=some zs:=by kernel_rfl) (hb:A5 P F=true:=by kernel_rfl) (hfo:fo.ev (Ao tl)=.fn F []:=by kernel_rfl) (hz:(ys++([]:List AV).map Opd.cst).map (Opd.ev (Ao tl))=zs:=by kernel_rfl) (hn:O4 tys zs=args:=by kernel_rfl) (hr:rv.out (C5 ((d,0),g+k)) zs=(v,us):=by kernel_rfl) (hx:E9 us=true:=by rfl) (hni:rv.noI=true:=by kernel_rfl):XW P G g k (⟨some d,none,.call fo ys tys⟩ :: xs) tl ol Kf:=Bs (caps:=[]) (args0:=zs) v us zs args trivial h1 hc hb h3 hfo hz hn hr hx hni
end
section
variable {n:Nat} {d:Option Nat} {f:Nat->AV} {ob:Oid->Option Ob}
theorem zi {sz:Nat} {x i:Opd} {t:Ty} {xs:List t.D} {y:t.D} {k:IntKind} {m:Int} {j:Nat} (h0:0<=m) (hy:xs[j]? =some y) (hx:(x.ev f).un=.tree t xs:=by kernel_rfl) (hi:i.ev f=.int k m:=by kernel_rfl) (hs:sz=t.size:=by rfl) (hj:m.toNat=j:=by rfl) {e:Option (Nat->Prop)} (he:(x.ev f).tag=e:=by kernel_rfl):Be n ⟨d,none,.i (.idx sz x i)⟩ f ob=some (0,.telt e t y 0,[]):=Au9 hx hi hs h0 hj hy he
theorem zo {sz:Nat} {x i:Opd} {t:Ty} {o:Oid} {len:Nat} {k:IntKind} {m:Int} {j:Nat} (h0:0<=m) (hl:j<len) (hx:x.ev f=.own o t 0 len:=by kernel_rfl) (hi:i.ev f=.int k m:=by kernel_rfl) (hs:sz=t.size:=by rfl) (hj:m.toNat=j:=by rfl):Be n ⟨d,none,.i (.idx sz x i)⟩ f ob=some (0,.elt o j 0,[]):=Aqx hx hi hs h0 hj hl
theorem zg {s:Nat} {b c:Bool} {q:Q} {r:Option Rec} (hc:c=b) (hs:f s=.bool c:=by kernel_rfl) (h:Be n ⟨d,none,q⟩ f ob=r:=by kernel_rfl):Be n ⟨d,some (s,b),q⟩ f ob=r:=Fv hs hc h
theorem zT {c x y:Opd} {b:Bool} (hb:b=true) (h:c.ev f=.bool b:=by kernel_rfl):Be n ⟨d,none,.i (.pick c x y)⟩ f ob=some (0,x.ev f,[]):=Atk h hb
theorem zF {c x y:Opd} {b:Bool} (hb:b=false) (h:c.ev f=.bool b:=by kernel_rfl):Be n ⟨d,none,.i (.pick c x y)⟩ f ob=some (0,y.ev f,[]):=Asn h hb
theorem za {x y:Opd} {j:Nat} (h:j+1<4611686018427387904) (hx:x.ev f=.int .i64 j:=by kernel_rfl) (hy:y.ev f=.int .i64 1:=by kernel_rfl):Be n ⟨d,none,.i (.bin .add x y)⟩ f ob=some (0,.int .i64 ((j+1:Nat):Int),[]):=Avm hx hy h
theorem zl {vs:List Value} {c:AV} {l:RL} (h:Tk ob c=some l:=by kernel_rfl):LeafR vs ob c l:=Avb h
end
theorem zj {α:Type} {a b:α} (h:some a=some b):a=b:=osj h
theorem wr_ {S:St} {K:St->Prop} (h:K S):∃ S',Weak S S'∧K S':=⟨S,Weak.refl _,h⟩
end
section
open Go.RowKit Go.Deep
inductive Ctl (σ ρ:Type) where
 | next (s:σ)
 | out (r:ρ)
def Ctl.then {σ β:Type} (k:σ->Option β):Ctl σ β->Option β
 | .next t=>k t
 | .out r=>some r
section
variable {α β σ τ ρ:Type}
def og (c:Prop) [Decidable c] (k:Option α):Option α:=if c then k else none
theorem Au {c:Prop} [Decidable c] {k:Option α} {r:α} (h:og c k=some r):c∧k=some r:=by
 unfold og at h;split at h
 ·rename_i hc; exact ⟨hc,h⟩
 ·cases h
theorem At {c:Prop} [Decidable c] (h:c) (k:Option α):og c k=k:=if_pos h
theorem Ae {o:Option α} {f:α->Option β} {b:β} (h:o.bind f=some b):∃ a,o=some a∧f a=some b:=Option.bind_eq_some_iff.1 h
theorem Ad {c:Bool} {a b:Option α} {r:α} (h:cond c a b=some r):(c=true∧a=some r)∨(c=false∧b=some r):=by
 cases c
 ·exact .inr ⟨rfl,h⟩
 ·exact .inl ⟨rfl,h⟩
def Do (a:Option (Ctl τ β)) (k:τ->Option β):Option β :=
 a.bind (Ctl.then k)
theorem Apl {a:Option (Ctl τ β)} {k:τ->Option β} {r:β} (h:Do a k=some r):∃ v,a=some v∧Ctl.then k v=some r:=Ae h
def A4 (body:σ->Option (Ctl σ ρ)):Nat->σ->Option ρ
 | 0,_=>none
 | n+1,s=>(body s).bind (Ctl.then (A4 body n))
theorem Aln {body:σ->Option (Ctl σ ρ)} {n:Nat} {s:σ} {v:ρ} (h:A4 body (n+1) s=some v):∃ c,body s=some c∧Ctl.then (A4 body n) c=some v:=Ae h
theorem Amu {body:σ->Option (Ctl σ ρ)} {s:σ} {v:ρ} (h:A4 body 0 s=some v):False:=by cases h
def Fe (xs:List α) (n:Int):Option α:=if 0<=n then xs[n.toNat]? else none
theorem Av {xs:List α} {k:Nat} {x:α} (h:xs[k]? =some x):k<xs.length:=(gSi.1 h).1
theorem Bd {xs:List α} {n:Int} {x:α} (h:Fe xs n=some x):0<=n∧n<xs.length∧xs[n.toNat]? =some x:=by
 unfold Fe at h;split at h
 ·rename_i h0;have:=Av h;exact ⟨h0,by omega,h⟩
 ·cases h
theorem Dk {xs:List α} {n:Int} (h:0<=n):Fe xs n=xs[n.toNat]?:=if_pos h
end
section
variable {P:Program} {G:World->Prop} {σ τ β ρ:Type}
theorem Aw {x y:AC} {R:AE->St->Prop} {S:St} {A:Option τ} {k:τ->Option β} {r:β} (h:A.bind k=some r) (J:τ->St->Prop) (h1:∀ t,A=some t->awp P G x (J9 (fun S'=>∃ S'',Weak S' S''∧J t S'') R) S) (h2:∀ t S'',J t S''->k t=some r->awp P G y R S''):awp P G (.seq x y) R S:=by
 obtain ⟨t,ha,hk⟩:=Ae h;exact Agc (J t) (h1 t ha) fun S'' hj=>h2 t S'' hj hk
theorem Bh {x y:AC} {R:AE->St->Prop} {S:St} {A:Option (Ctl τ β)} {k:τ->Option β} {r:β} (h:Do A k=some r) (J:τ->St->Prop)
  (h1:∀ v,A=some v->Ctl.then k v=some r->awp P G x (J9 (fun S'=>∃ t S'',v=.next t∧Weak S' S''∧J t S'') R) S) (h2:∀ t S'',J t S''->k t=some r->awp P G y R S''):awp P G (.seq x y) R S:=by
 obtain ⟨v,ha,hk⟩:=Apl h;refine Agc (fun S''=>∃ t,v=.next t∧J t S'') (Dl (fun e S' hq=>?_) (h1 v ha hk)) fun S'' ⟨t,hv,hj⟩=>?_
 ·cases e with
  | normal=>obtain ⟨t,S'',hv,hw,hj⟩:=hq; exact ⟨S'',hw,t,hv,hj⟩
  | exit id=>exact hq
  | ret=>exact hq
 ·subst hv; exact h2 t S'' hj hk
theorem A3 {a:AC} {R:AE->St->Prop} {S:St} {body:σ->Option (Ctl σ ρ)} {fuel:Nat} {s0:σ} {v:ρ} (h:A4 body fuel s0=some v) (J:σ->St->Prop) (h0:∃ S0,Weak S S0∧J s0 S0)
  (h1:∀ n s S1 c,J s S1->body s=some c->Ctl.then (A4 body n) c=some v->awp P G a (J9 (fun S2=>∃ s' S3,Weak S2 S3∧J s' S3∧A4 body n s'=some v) R) S1):awp P G (.loop a) R S:=by
 obtain ⟨S0,hw,hj⟩:=h0;refine Apn (fun (p:Nat×σ) S=>A4 body p.1 p.2=some v∧J p.2 S) (·.1) ⟨(fuel,s0),S0,hw,h,hj⟩ ?_;rintro ⟨n,s⟩ S1 ⟨hl,hj⟩;cases n with
 | zero=>exact (Amu hl).elim
 | succ n =>
  obtain ⟨c,hc,hn⟩:=Aln hl;refine Dl (fun e S2 hq=>?_) (h1 n s S1 c hj hc hn);cases e with
  | normal=>obtain ⟨s',S3,hw,hj,hl⟩:=hq; exact ⟨(n,s'),S3,hw,⟨hl,hj⟩,Nat.lt_succ_self n⟩
  | exit id=>exact hq
  | ret=>exact hq
end
theorem Ay (n:Nat):0<=(n:Int):=by omega
end
section
open Go.RowKit Go.Deep
def F9 (a0:Int):Option Bool:=some (isF a0)
def Yh (r:Bool):RV:=⟨false,[(false,[.sc (.bool r)])]⟩
theorem Fl {a0:Int} {r:Bool} (h:F9 a0=some r):Ax Tryz.prog Tab 55 [.int .i64 a0] (Yh r):=by
 obtain rfl:=osj h;intro w im vs hG hr;obtain ⟨u1,_,rfl,h1,h2⟩:=hr;obtain rfl:_=[]:=h2;obtain rfl:u1=.int .i64 a0:=h1;refine (Akr a0 w (hG w (Below.refl _ _))).mono ?_;rintro e w' ⟨rfl,rfl⟩;exact ⟨_,rfl,Below.refl _ _,[_],[],⟨_,[],rfl,rfl,rfl,rfl,rfl⟩,⟨trivial,fun _=>rfl⟩,rfl⟩
end
section
open Go.RowKit Go.Deep
set_option maxRecDepth 4000
def Se:AC :=
 (.seq (rg [xo 4 (qm (ci 0))])
 (.seq (rg [xo 5 (qm (tm 1)),xo 6 (qm (tm 0)),xo 7 (.i (.len (tm 6))),xo 8 (qb .sub (tm 5) (tm 7)),xo 1 (qm (tm 8))])
 (.seq (.seq (rg [xo 9 (qm (tm 1)),xo 10 (qb .lss (tm 9) (ci 0))])
 (.cond (tm 10)
  (.seq (rg [xo 4 (qm (ci (-1)))])
  .ret)
  .skip))
 (.seq (rg [xo 11 (qm (tm 1)),xo 4 (qm (tm 11))])
 .ret))))
def Afy:List Res:=[.tmp 4]
theorem Aen:Am Tryz.prog Tryz.f37=some (Se,Afy):=by kernel_rfl
def Hl (a0:List Int) (a1:Int):Option Int :=
 cond (decide (wI (a1 - ((a0.length:Nat):Int))<0))
 (some (-1))
 (some (wI (a1 - ((a0.length:Nat):Int))))
def Adq (r:Int):RV:=⟨false,[(false,[.sc (.int .i64 r)])]⟩
theorem Aaw {a0:List Int} {a1:Int} {r:Int} (h:Hl a0 a1=some r):Ax Tryz.prog Tab 37 [.tree .int a0,ai a1] (Adq r):=by
 refine Ar (by kernel_rfl) Tryz.func37 Aen (n:=12) (by kernel_rfl) (by simp) (tl:=[(0,.tree .int a0),(1,ai a1)]) rfl ?_;unfold Se;unfold Hl at h;refine Aj ?_;refine Aj ?_;refine Ab ?_;refine Aj ?_;rcases Ad h with ⟨q5,h⟩ | ⟨q5,h⟩
 ·have q5_:=of_decide_eq_true q5;refine Af q5 ?_;refine Aj ?_;refine Ah (tr_ ?_);obtain rfl:=zj h;exact A0 [ai (-1)] (Ap rfl zl As)
 have q5_:=of_decide_eq_false q5;refine Ag q5 ?_;refine Ai (tn_ ?_);refine wr_ ?_;refine Aj ?_;refine Ah ?_;obtain rfl:=zj h;exact A0 [ai (wI (a1 - ((a0.length:Nat):Int)))] (Ap rfl zl As)
def M4:AC :=
 (.seq (.seq (rg [xo 8 (qm (tm 4)),xo 9 (qm (tm 0)),xo 10 (.i (.len (tm 9))),xo 11 (qb .lss (tm 8) (tm 10))])
 (.cond (tm 11)
  .skip
  (.exit 0)))
 (.seq (.block 1 (rg [xo 14 (qm (tm 3)),xo 15 (qm (tm 4)),xo 16 (qm (tm 0)),xo 17 (qm (tm 4)),xo 18 (qx 1 (tm 16) (tm 17)),xo 19 (ql (tm 18)),xo 20 (qx 1 (tm 14) (tm 15)),xn (qs (tm 20) (tm 19))]))
 (rg [xo 12 (qm (tm 4)),xo 13 (qb .add (tm 12) (ci 1)),xo 4 (qm (tm 13))])))
def Rr:AC :=
 (.seq (rg [xo 2 (qm (.cst .nils))])
 (.seq (rg [xo 5 (qm (tm 0)),xo 6 (.i (.len (tm 5))),xo 7 (.make 3 .int 8 (tm 6) (tm 6)),xo 3 (qm (tm 7))])
 (.seq (.seq (rg [xo 4 (qm (ci 0))])
 (.block 0 (.loop M4)))
 (.seq (rg [xo 21 (qm (tm 3)),xo 2 (qm (tm 21))])
 .ret))))
def Afx:List Res:=[.tmp 2]
theorem Af2:Am Tryz.prog Tryz.f48=some (Rr,Afx):=by kernel_rfl
def Ew (a0:List Int) (l6_m4:Nat) (l6_m3:List Int):Option (Ctl (Nat×List Int) (List Int)) :=
 cond (decide (((l6_m4:Nat):Int)<((a0.length:Nat):Int)))
 (Option.bind (a0[l6_m4]?) fun x11 =>
 Option.bind (l6_m3[l6_m4]?) fun x12 =>
 og (l6_m4+1<4611686018427387904) <|
 some (Ctl.next (l6_m4+1,l6_m3.set l6_m4 x11)))
 (some (Ctl.out l6_m3))
def Hs (a0:List Int):Option (List Int) :=
 og (0<=((a0.length:Nat):Int)∧((a0.length:Nat):Int)<=((a0.length:Nat):Int)∧((a0.length:Nat):Int)<=1073741824∧(8:Int)*((a0.length:Nat):Int)<=140737488355328) <|
Option.bind (A4 (fun s_:Nat×List Int=>Ew a0 s_.1 s_.2) 4611686018427387904 (0,List.replicate a0.length (0:Int))) fun l4_m3 =>
some l4_m3
def Abm (r:List Int):RV:=⟨false,[(false,[.new 3 .int r])]⟩
theorem Acu {a0:List Int} {r:List Int} (h:Hs a0=some r):Ax Tryz.prog Tab 48 [.tree .int a0] (Abm r):=by
 refine Ar (by kernel_rfl) Tryz.func48 Af2 (n:=22) (by kernel_rfl) (by simp) (tl:=[(0,.tree .int a0)]) rfl ?_;unfold Rr;unfold Hs at h;refine Aj ?_;refine Ab ?_;obtain ⟨g3,h⟩:=Au h;refine Aa 6 ?_;refine rz0 (.tree .int a0) ?_;refine rz0 (ai ((a0.length:Nat):Int)) ?_;refine rs1 (.own (oi 7 4) .int 0 a0.length) (oi 7 4) (.arr 3 .int (List.replicate a0.length (0:Int))) (Alx (t:=.int) (k:=.i64) (k':=.i64) (m:=((a0.length:Nat):Int)) (m':=((a0.length:Nat):Int)) (by kernel_rfl) (by kernel_rfl) g3 rfl) ?_;refine rsB 1 ?_;refine An (tn_ ?_);refine wr_ ?_;refine Aw h (fun (l4_m3:List Int) S_=>S_=⟨Ao [(3,.own (oi 0 1) .int 0 l4_m3.length)],Ak (Aq [(oi 0 1,.arr 3 .int l4_m3)]),2⟩) ?_ ?_
 ·intro v_ h;refine Aj ?_;refine Al ?_;refine A3 h (fun t_ S_=>∃ (l6_m4:Nat),∃ (l6_m3:List Int),t_=(l6_m4,l6_m3)∧S_=⟨Ao [(0,.tree .int a0),(3,.own (oi 0 1) .int 0 l6_m3.length),(4,ai ((l6_m4:Nat):Int))],Ak (Aq [(oi 0 1,.arr 3 .int l6_m3)]),2⟩) ⟨_,(B2 3 (.own (oi 7 4) .int 0 a0.length) (.own (oi 7 4) .int 0 ((List.replicate a0.length (0:Int)).length)) (by kernel_rfl) (congrArg (fun z_=>((.own (oi 7 4) .int 0 z_):AV)) (List.length_replicate.symm:a0.length=(List.replicate a0.length (0:Int)).length))).trans (Ac [(oi 0 1,oi 7 4)]),⟨0,List.replicate a0.length (0:Int),rfl,rfl⟩⟩ ?_;rintro n_ _ _ c_ ⟨l6_m4,l6_m3,rfl,rfl⟩ h hn6
  (try dsimp only at h);unfold Ew at h;unfold M4;refine Ab ?_;refine Aj ?_;rcases Ad h with ⟨q9,h⟩ | ⟨q9,h⟩
  ·have q9_:=of_decide_eq_true q9;refine Af q9 ?_;refine Ai (tn_ ?_);refine wr_ ?_;refine Ab ?_;refine Al ?_;obtain ⟨x11,e11,h⟩:=Ae h;obtain ⟨x12,e12,h⟩:=Ae h;refine Aa 14 ?_;refine rz0 (.own (oi 0 1) .int 0 l6_m3.length) ?_;refine rz0 (ai ((l6_m4:Nat):Int)) ?_;refine rz0 (.tree .int a0) ?_;refine rz0 (ai ((l6_m4:Nat):Int)) ?_;refine rs0 (.telt none .int x11 0) (zi (t:=.int) (xs:=a0) (k:=.i64) (m:=((l6_m4:Nat):Int)) (Ay _) e11) ?_;refine rz0 (ai x11) ?_;refine rs0 (.elt (oi 0 1) l6_m4 0) (zo (t:=.int) (o:=oi 0 1) (len:=l6_m3.length) (k:=.i64) (m:=((l6_m4:Nat):Int)) (Ay _) (Av e12)) ?_;refine Al5 (oi 0 1) (oi 0 1) (.arr 3 .int (l6_m3.set l6_m4 x11)) (Adb (i:=oi 0 1) (j:=l6_m4) (k:=0) (e:=3) (t:=.int) (xs:=l6_m3) (cs:=[ai x11]) (x1:=x11) (by kernel_rfl) (by kernel_rfl) e12 (by kernel_rfl) (by kernel_rfl)) ?_;refine An (bn_ (tn_ ?_));refine wr_ ?_;obtain ⟨g13,h⟩:=Au h;refine Aa 17 ?_;refine rz0 (ai ((l6_m4:Nat):Int)) ?_;refine rs0 (ai ((l6_m4+1:Nat):Int)) (za g13) ?_;refine rsB 1 ?_;refine An (tn_ ?_);obtain rfl:=zj h;exact ⟨(l6_m4+1,l6_m3.set l6_m4 x11),_,(B2 3 (.own (oi 0 1) .int 0 l6_m3.length) (.own (oi 0 1) .int 0 ((l6_m3.set l6_m4 x11).length)) (by kernel_rfl) (congrArg (fun z_=>((.own (oi 0 1) .int 0 z_):AV)) (((rfl:l6_m3.length=l6_m3.length).trans List.length_set.symm):l6_m3.length=(l6_m3.set l6_m4 x11).length))).trans (Ac []),⟨l6_m4+1,l6_m3.set l6_m4 x11,rfl,rfl⟩,hn6⟩
  have q9_:=of_decide_eq_false q9;refine Ag q9 ?_;refine Az (te_ (te_ (be_ (tn_ ?_))));obtain rfl:=zj h;have h:=hn6
  (try dsimp only at h);obtain rfl:=zj h;exact ⟨_,Ac [],rfl⟩
 rintro l4_m3 _ rfl h
 (try dsimp only at h);refine Aj ?_;refine Ah ?_;obtain rfl:=zj h;exact A0 [.own (oi 0 1) .int 0 l4_m3.length] (Ap rfl (Eb (by kernel_rfl) rfl) As)
def Ns:AC :=
 (.seq (.seq (rg [xo 11 (qm (tm 5)),xo 12 (qm (tm 0)),xo 13 (.i (.len (tm 12))),xo 14 (qb .lss (tm 11) (tm 13))])
 (.cond (tm 14)
  .skip
  (.exit 0)))
 (.seq (.block 1 (.seq (.region [xo 17 (qm (tm 0)),xo 18 (qm (tm 5)),xo 19 (qx 1 (tm 17) (tm 18)),xo 20 (ql (tm 19)),xo 21 (qm (tm 1)),xo 22 (qm (tm 5)),xo 23 (qx 1 (tm 21) (tm 22)),xo 24 (ql (tm 23)),xo 25 (qb .neq (tm 20) (tm 24))] true [])
 (.cond (tm 25)
  (.seq (rg [xo 4 (qm (cb false))])
  .ret)
  .skip)))
 (rg [xo 15 (qm (tm 5)),xo 16 (qb .add (tm 15) (ci 1)),xo 5 (qm (tm 16))])))
def Rk:AC :=
 (.seq (rg [xo 4 (qm (cb false))])
 (.seq (.seq (rg [xo 6 (qm (tm 0)),xo 7 (.i (.len (tm 6))),xo 8 (qm (tm 1)),xo 9 (.i (.len (tm 8))),xo 10 (qb .neq (tm 7) (tm 9))])
 (.cond (tm 10)
  (.seq (rg [xo 4 (qm (cb false))])
  .ret)
  .skip))
 (.seq (.seq (rg [xo 5 (qm (ci 0))])
 (.block 0 (.loop Ns)))
 (.seq (rg [xo 4 (qm (cb true))])
 .ret))))
def Aeh:List Res:=[.tmp 4]
theorem Ad7:Am Tryz.prog Tryz.f62=some (Rk,Aeh):=by kernel_rfl
theorem Acn:A5 Tryz.prog 62=true:=by kernel_rfl
def E0 (a0:List Int) (a1:List Int) (l8_m5:Nat):Option (Ctl Nat (Ctl Unit Bool)) :=
 cond (decide (((l8_m5:Nat):Int)<((a0.length:Nat):Int)))
 (Option.bind (a0[l8_m5]?) fun x14 =>
 Option.bind (a1[l8_m5]?) fun x15 =>
 cond (x14 !=x15)
  (some (Ctl.out (Ctl.out false)))
  (og (l8_m5+1<4611686018427387904) <|
  some (Ctl.next (l8_m5+1))))
 (some (Ctl.out (Ctl.next ())))
def Ho (a0:List Int) (a1:List Int):Option Bool :=
 cond (((a0.length:Nat):Int) !=((a1.length:Nat):Int))
 (some false)
 (Do (A4 (fun s_:Nat=>E0 a0 a1 s_) 4611686018427387904 0) fun _ =>
 some true)
def Aa9 (r:Bool):RV:=⟨false,[(false,[.sc (.bool r)])]⟩
theorem Ack {a0:List Int} {a1:List Int} {r:Bool} (h:Ho a0 a1=some r):Ax Tryz.prog Tab 62 [.tree .int a0,.tree .int a1] (Aa9 r):=by
 refine Ar (by kernel_rfl) Tryz.func62 Ad7 (n:=26) (by kernel_rfl) (by simp) (tl:=[(0,.tree .int a0),(1,.tree .int a1)]) rfl ?_;unfold Rk;unfold Ho at h;refine Aj ?_;refine Ab ?_;refine Aj ?_;rcases Ad h with ⟨q4,h⟩ | ⟨q4,h⟩
 ·refine Af q4 ?_;refine Aj ?_;refine Ah (tr_ ?_);obtain rfl:=zj h;exact A0 [.bool false] (Ap rfl zl As)
 refine Ag q4 ?_;refine Ai (tn_ ?_);refine wr_ ?_;refine Bh h (fun (_:Unit) S_=>S_=⟨Ao [],Ak (Aq []),2⟩) ?_ ?_
 ·intro v_ h hk6;refine Aj ?_;refine Al ?_;refine A3 h (fun (l8_m5:Nat) S_=>S_=⟨Ao [(0,.tree .int a0),(1,.tree .int a1),(5,ai ((l8_m5:Nat):Int))],Ak (Aq []),2⟩) ⟨_,Ac [],rfl⟩ ?_;rintro n_ l8_m5 _ c_ rfl h hn8
  (try dsimp only at h);unfold E0 at h;unfold Ns;refine Ab ?_;refine Aj ?_;rcases Ad h with ⟨q11,h⟩ | ⟨q11,h⟩
  ·have q11_:=of_decide_eq_true q11;refine Af q11 ?_;refine Ai (tn_ ?_);refine wr_ ?_;refine Ab ?_;refine Al ?_;refine Ab ?_;obtain ⟨x14,e14,h⟩:=Ae h;obtain ⟨x15,e15,h⟩:=Ae h;refine A1 15 ?_;refine dz0 (.tree .int a0) ?_;refine dz0 (ai ((l8_m5:Nat):Int)) ?_;refine ds0 (.telt none .int x14 0) (zi (t:=.int) (xs:=a0) (k:=.i64) (m:=((l8_m5:Nat):Int)) (Ay _) e14) ?_;refine dz0 (ai x14) ?_;refine dz0 (.tree .int a1) ?_;refine dz0 (ai ((l8_m5:Nat):Int)) ?_;refine ds0 (.telt none .int x15 0) (zi (t:=.int) (xs:=a1) (k:=.i64) (m:=((l8_m5:Nat):Int)) (Ay _) e15) ?_;refine dz0 (ai x15) ?_;refine dz0 (.bool (x14 !=x15)) ?_;refine F2 (Bc (by kernel_rfl)) (tn_ ?_);refine wr_ ?_;rcases Ad h with ⟨q16,h⟩ | ⟨q16,h⟩
   ·refine Af q16 ?_;refine Aj ?_;refine Ah (br_ (tr_ (tr_ (br_ (tr_ ?_)))));obtain rfl:=zj h;have h:=hn8
    (try dsimp only at h);obtain rfl:=zj h;have h:=hk6
    (try dsimp only at h);obtain rfl:=zj h;exact A0 [.bool false] (Ap rfl zl As)
   refine Ag q16 ?_;refine Ai (bn_ (tn_ ?_));refine wr_ ?_;obtain ⟨g18,h⟩:=Au h;refine Aa 18 ?_;refine rz0 (ai ((l8_m5:Nat):Int)) ?_;refine rs0 (ai ((l8_m5+1:Nat):Int)) (za g18) ?_;refine rsB 1 ?_;refine An (tn_ ?_);obtain rfl:=zj h;exact ⟨l8_m5+1,_,Ac [],rfl,hn8⟩
  have q11_:=of_decide_eq_false q11;refine Ag q11 ?_;refine Az (te_ (te_ (be_ (tn_ ?_))));obtain rfl:=zj h;have h:=hn8
  (try dsimp only at h);obtain rfl:=zj h;exact ⟨(),_,rfl,Ac [],rfl⟩
 rintro _ _ rfl h
 (try dsimp only at h);refine Aj ?_;refine Ah ?_;obtain rfl:=zj h;exact A0 [.bool true] (Ap rfl zl As)
def X9:AC :=
 (.seq (rg [xo 6 (qm (cb false))])
 (.seq (rg [xo 7 (qm (tm 0)),xo 8 (qm (tm 1)),xo 9 (qb .geq (tm 7) (tm 8)),xo 10 (qm (tm 9)),⟨some 11,some (10,true),qm (tm 0)⟩,⟨some 12,some (10,true),qm (tm 2)⟩,⟨some 13,some (10,true),qb .leq (tm 11) (tm 12)⟩,xo 14 (.i (.pick (tm 10) (tm 13) (cb false))),xo 6 (qm (tm 14))])
 .ret))
def Alg:List Res:=[.tmp 6]
theorem Ak0:Am Tryz.prog Tryz.f44=some (X9,Alg):=by kernel_rfl
theorem Ff:A5 Tryz.prog 44=true:=by kernel_rfl
def Bz (a0:Int) (a1:Int) (a2:Int):Option Bool :=
 Option.bind (cond (decide (a1<=a0))
  (some (decide (a0<=a2)))
  (some false)) fun l2_m6 =>
some l2_m6
def Aio (r:Bool):RV:=⟨false,[(false,[.sc (.bool r)])]⟩
theorem Bk {a0:Int} {a1:Int} {a2:Int} {r:Bool} (h:Bz a0 a1 a2=some r):Ax Tryz.prog Tab 44 [ai a0,ai a1,ai a2] (Aio r):=by
 refine Ar (by kernel_rfl) Tryz.func44 Ak0 (n:=15) (by kernel_rfl) (by simp) (tl:=[(0,ai a0),(1,ai a1),(2,ai a2)]) rfl ?_;unfold X9;unfold Bz at h;refine Aj ?_;refine Aw h (fun (l2_m6:Bool) S_=>S_=⟨Ao [(6,.bool l2_m6)],Ak (Aq []),2⟩) ?_ ?_
 ·intro v_ h;rcases Ad h with ⟨q3,h⟩ | ⟨q3,h⟩
  ·have q3_:=of_decide_eq_true q3;refine Aa 11 ?_;refine rz0 (ai a0) ?_;refine rz0 (ai a1) ?_;refine rz0 (.bool (decide (a1<=a0))) ?_;refine rz0 (.bool (decide (a1<=a0))) ?_;refine rs0 (ai a0) (zg q3) ?_;refine rs0 (ai a2) (zg q3) ?_;refine rs0 (.bool (decide (a0<=a2))) (zg q3) ?_;refine rs0 (.bool (decide (a0<=a2))) (zT q3) ?_;refine rsB 1 ?_;refine An (tn_ ?_);obtain rfl:=zj h;exact ⟨_,Ac [],rfl⟩
  have q3_:=of_decide_eq_false q3;refine Aa 11 ?_;refine rz0 (ai a0) ?_;refine rz0 (ai a1) ?_;refine rz0 (.bool (decide (a1<=a0))) ?_;refine rz0 (.bool (decide (a1<=a0))) ?_;refine zs q3 ?_;refine zs q3 ?_;refine zs q3 ?_;refine rs0 (.bool false) (zF q3) ?_;refine rsB 1 ?_;refine An (tn_ ?_);obtain rfl:=zj h;exact ⟨_,Ac [],rfl⟩
 rintro l2_m6 _ rfl h
 (try dsimp only at h);refine Ah ?_;obtain rfl:=zj h;exact A0 [.bool l2_m6] (Ap rfl zl As)
def M1:AC :=
 (.seq (.seq (rg [xo 7 (qm (tm 3)),xo 8 (qm (tm 3)),xo 9 (qb .mul (tm 7) (tm 8)),xo 10 (qm (tm 0)),xo 11 (qb .leq (tm 9) (tm 10))])
 (.cond (tm 11)
  .skip
  (.exit 0)))
 (.seq (.block 1 (.seq (rg [xo 14 (qm (tm 0)),xo 15 (qm (tm 3)),xo 16 (qb .rem (tm 14) (tm 15)),xo 17 (qb .eql (tm 16) (ci 0))])
 (.cond (tm 17)
  (.seq (rg [xo 2 (qm (cb false))])
  .ret)
  .skip)))
 (rg [xo 12 (qm (tm 3)),xo 13 (qb .add (tm 12) (ci 1)),xo 3 (qm (tm 13))])))
def R5:AC :=
 (.seq (rg [xo 2 (qm (cb false))])
 (.seq (.seq (rg [xo 4 (qm (tm 0)),xo 5 (qc 44 [tm 4,ci 2,ci 97] [[],[],[]]),xo 6 (.i (.not (tm 5)))])
 (.cond (tm 6)
  (.seq (rg [xo 2 (qm (cb false))])
  .ret)
  .skip))
 (.seq (.seq (rg [xo 3 (qm (ci 2))])
 (.block 0 (.loop M1)))
 (.seq (rg [xo 2 (qm (cb true))])
 .ret))))
def Aed:List Res:=[.tmp 2]
theorem Afe:Am Tryz.prog Tryz.f42=some (R5,Aed):=by kernel_rfl
theorem Ex:A5 Tryz.prog 42=true:=by kernel_rfl
def E3 (a0:Int) (l9_m3:Nat):Option (Ctl Nat (Ctl Unit Bool)) :=
 cond (decide (wI (((l9_m3:Nat):Int)*((l9_m3:Nat):Int))<=a0))
 (og (((l9_m3:Nat):Int)≠0) <|
 cond ((Int.tmod a0 ((l9_m3:Nat):Int))==0)
  (some (Ctl.out (Ctl.out false)))
  (og (l9_m3+1<4611686018427387904) <|
  some (Ctl.next (l9_m3+1))))
 (some (Ctl.out (Ctl.next ())))
def Ft (a0:Int):Option Bool :=
 Option.bind (Bz a0 2 97) fun y4 =>
cond (!y4)
 (some false)
 (Do (A4 (fun s_:Nat=>E3 a0 s_) 4611686018427387904 2) fun _ =>
 some true)
def Acx (r:Bool):RV:=⟨false,[(false,[.sc (.bool r)])]⟩
theorem E2 {a0:Int} {r:Bool} (h:Ft a0=some r):Ax Tryz.prog Tab 42 [ai a0] (Acx r):=by
 refine Ar (by kernel_rfl) Tryz.func42 Afe (n:=18) (by kernel_rfl) (by simp) (tl:=[(0,ai a0)]) rfl ?_;unfold R5;unfold Ft at h;refine Aj ?_;refine Ab ?_;refine Ab ?_;obtain ⟨y4,h4,h⟩:=Ae h;refine Aa 5 ?_;refine rz0 (ai a0) ?_;refine zc (.bool y4) [] [ai a0,ai 2,ai 97] (Bk h4) ?_;refine rsB 1 ?_;refine An (tn_ ?_);refine wr_ ?_;rcases Ad h with ⟨q5,h⟩ | ⟨q5,h⟩
 ·refine Af q5 ?_;refine Aj ?_;refine Ah (tr_ ?_);obtain rfl:=zj h;exact A0 [.bool false] (Ap rfl zl As)
 refine Ag q5 ?_;refine Ai (tn_ ?_);refine wr_ ?_;refine Bh h (fun (_:Unit) S_=>S_=⟨Ao [],Ak (Aq []),2⟩) ?_ ?_
 ·intro v_ h hk7;refine Aj ?_;refine Al ?_;refine A3 h (fun (l9_m3:Nat) S_=>S_=⟨Ao [(0,ai a0),(3,ai ((l9_m3:Nat):Int))],Ak (Aq []),2⟩) ⟨_,Ac [],rfl⟩ ?_;rintro n_ l9_m3 _ c_ rfl h hn9
  (try dsimp only at h);unfold E3 at h;unfold M1;refine Ab ?_;refine Aj ?_;rcases Ad h with ⟨q12,h⟩ | ⟨q12,h⟩
  ·have q12_:=of_decide_eq_true q12;refine Af q12 ?_;refine Ai (tn_ ?_);refine wr_ ?_;refine Ab ?_;refine Al ?_;refine Ab ?_;obtain ⟨g15,h⟩:=Au h;refine Aa 11 ?_;refine rz0 (ai a0) ?_;refine rz0 (ai ((l9_m3:Nat):Int)) ?_;refine rs0 (ai (Int.tmod a0 ((l9_m3:Nat):Int))) (Pz (k:=.i64) (a:=a0) (b:=((l9_m3:Nat):Int)) (by kernel_rfl) (by kernel_rfl) g15) ?_;refine rsB 1 ?_;refine An (tn_ ?_);refine wr_ ?_;rcases Ad h with ⟨q16,h⟩ | ⟨q16,h⟩
   ·refine Af q16 ?_;refine Aj ?_;refine Ah (br_ (tr_ (tr_ (br_ (tr_ ?_)))));obtain rfl:=zj h;have h:=hn9
    (try dsimp only at h);obtain rfl:=zj h;have h:=hk7
    (try dsimp only at h);obtain rfl:=zj h;exact A0 [.bool false] (Ap rfl zl As)
   refine Ag q16 ?_;refine Ai (bn_ (tn_ ?_));refine wr_ ?_;obtain ⟨g18,h⟩:=Au h;refine Aa 14 ?_;refine rz0 (ai ((l9_m3:Nat):Int)) ?_;refine rs0 (ai ((l9_m3+1:Nat):Int)) (za g18) ?_;refine rsB 1 ?_;refine An (tn_ ?_);obtain rfl:=zj h;exact ⟨l9_m3+1,_,Ac [],rfl,hn9⟩
  have q12_:=of_decide_eq_false q12;refine Ag q12 ?_;refine Az (te_ (te_ (be_ (tn_ ?_))));obtain rfl:=zj h;have h:=hn9
  (try dsimp only at h);obtain rfl:=zj h;exact ⟨(),_,rfl,Ac [],rfl⟩
 rintro _ _ rfl h
 (try dsimp only at h);refine Aj ?_;refine Ah ?_;obtain rfl:=zj h;exact A0 [.bool true] (Ap rfl zl As)
def Om:AC :=
 (.seq (rg [xo 12 (qb .lss (tm 11) (tm 10))])
 (.seq (.cond (tm 12)
  .skip
  (.exit 0))
 (.seq (.block 1 (.seq (rg [xo 13 (qx 1 (tm 9) (tm 11)),xo 14 (ql (tm 13)),xo 8 (qm (tm 14))])
 (.seq (rg [xo 15 (qm (tm 8)),xo 16 (qm (tm 1)),xo 17 (qm (tm 2)),xo 18 (qc 44 [tm 15,tm 16,tm 17] [[],[],[]]),xo 19 (.i (.not (tm 18)))])
 (.cond (tm 19)
  (.seq (rg [xo 6 (qm (cb false))])
  .ret)
  .skip))))
 (rg [xo 20 (qb .add (tm 11) (ci 1)),xo 11 (qm (tm 20))]))))
def U9:AC :=
 (.seq (rg [xo 6 (qm (cb false))])
 (.seq (.seq (rg [xo 9 (qm (tm 0)),xo 10 (.i (.len (tm 9))),xo 11 (qm (ci 0))])
 (.block 0 (.loop Om)))
 (.seq (rg [xo 6 (qm (cb true))])
 .ret)))
def Ahf:List Res:=[.tmp 6]
theorem Ai5:Am Tryz.prog Tryz.f99=some (U9,Ahf):=by kernel_rfl
def Hw (a0:List Int) (a1:Int) (a2:Int) (l4_m11:Nat):Option (Ctl Nat (Ctl Unit Bool)) :=
 cond (decide (((l4_m11:Nat):Int)<((a0.length:Nat):Int)))
 (Option.bind (a0[l4_m11]?) fun x10 =>
 Option.bind (Bz x10 a1 a2) fun y12 =>
 cond (!y12)
  (some (Ctl.out (Ctl.out false)))
  (og (l4_m11+1<4611686018427387904) <|
  some (Ctl.next (l4_m11+1))))
 (some (Ctl.out (Ctl.next ())))
def Ih (a0:List Int) (a1:Int) (a2:Int):Option Bool :=
 Do (A4 (fun s_:Nat=>Hw a0 a1 a2 s_) 4611686018427387904 0) fun _ =>
some true
def Afj (r:Bool):RV:=⟨false,[(false,[.sc (.bool r)])]⟩
theorem Ae9 {a0:List Int} {a1:Int} {a2:Int} {r:Bool} (h:Ih a0 a1 a2=some r):Ax Tryz.prog Tab 99 [.tree .int a0,ai a1,ai a2] (Afj r):=by
 refine Ar (by kernel_rfl) Tryz.func99 Ai5 (n:=21) (by kernel_rfl) (by simp) (tl:=[(0,.tree .int a0),(1,ai a1),(2,ai a2)]) rfl ?_;unfold U9;unfold Ih at h;refine Aj ?_;refine Bh h (fun (_:Unit) S_=>S_=⟨Ao [],Ak (Aq []),2⟩) ?_ ?_
 ·intro v_ h hk2;refine Aj ?_;refine Al ?_;refine A3 h (fun (l4_m11:Nat) S_=>S_=⟨Ao [(1,ai a1),(2,ai a2),(9,.tree .int a0),(10,ai ((a0.length:Nat):Int)),(11,ai ((l4_m11:Nat):Int))],Ak (Aq []),2⟩) ⟨_,Ac [],rfl⟩ ?_;rintro n_ l4_m11 _ c_ rfl h hn4
  (try dsimp only at h);unfold Hw at h;unfold Om;refine Aj ?_;refine Ab ?_;rcases Ad h with ⟨q7,h⟩ | ⟨q7,h⟩
  ·have q7_:=of_decide_eq_true q7;refine Af q7 ?_;refine Ai (tn_ ?_);refine wr_ ?_;refine Ab ?_;refine Al ?_;refine Ab ?_;obtain ⟨x10,e10,h⟩:=Ae h;refine Aa 6 ?_;refine rs0 (.telt none .int x10 0) (zi (t:=.int) (xs:=a0) (k:=.i64) (m:=((l4_m11:Nat):Int)) (Ay _) e10) ?_;refine rsB 2 ?_;refine An (tn_ ?_);refine wr_ ?_;refine Ab ?_;obtain ⟨y12,h12,h⟩:=Ae h;refine Aa 11 ?_;refine rz0 (ai x10) ?_;refine rz0 (ai a1) ?_;refine rz0 (ai a2) ?_;refine zc (.bool y12) [] [ai x10,ai a1,ai a2] (Bk h12) ?_;refine rsB 1 ?_;refine An (tn_ ?_);refine wr_ ?_;rcases Ad h with ⟨q13,h⟩ | ⟨q13,h⟩
   ·refine Af q13 ?_;refine Aj ?_;refine Ah (br_ (tr_ (tr_ (br_ (tr_ ?_)))));obtain rfl:=zj h;have h:=hn4
    (try dsimp only at h);obtain rfl:=zj h;have h:=hk2
    (try dsimp only at h);obtain rfl:=zj h;exact A0 [.bool false] (Ap rfl zl As)
   refine Ag q13 ?_;refine Ai (bn_ (tn_ ?_));refine wr_ ?_;obtain ⟨g15,h⟩:=Au h;refine Aa 13 ?_;refine rs0 (ai ((l4_m11+1:Nat):Int)) (za g15) ?_;refine rsB 1 ?_;refine An (tn_ ?_);obtain rfl:=zj h;exact ⟨l4_m11+1,_,Ac [],rfl,hn4⟩
  have q7_:=of_decide_eq_false q7;refine Ag q7 ?_;refine Az (te_ (te_ (be_ (tn_ ?_))));obtain rfl:=zj h;have h:=hn4
  (try dsimp only at h);obtain rfl:=zj h;exact ⟨(),_,rfl,Ac [],rfl⟩
 rintro _ _ rfl h
 (try dsimp only at h);refine Aj ?_;refine Ah ?_;obtain rfl:=zj h;exact A0 [.bool true] (Ap rfl zl As)
def Ux:AC :=
 (.seq (rg [xo 2 (qm (.cst .nils))])
 (.seq (rg [xo 3 (.mkS 3 .int []),xo 4 (qm (tm 0)),xo 5 (.append 3 .int 8 (tm 3) (tm 4)),xo 2 (qm (tm 5))])
 .ret))
def Ah4:List Res:=[.tmp 2]
theorem Aid:Am Tryz.prog Tryz.f85=some (Ux,Ah4):=by kernel_rfl
def H6 (a0:List Int):Option (List Int) :=
 og (0+a0.length<=1073741824∧(0+a0.length)*8<=140737488355328) <|
some a0
def Aek (r:List Int):RV:=⟨false,[(false,[.new 3 .int r])]⟩
theorem Aem {a0:List Int} {r:List Int} (h:H6 a0=some r):Ax Tryz.prog Tab 85 [.tree .int a0] (Aek r):=by
 refine Ar (by kernel_rfl) Tryz.func85 Aid (n:=6) (by kernel_rfl) (by simp) (tl:=[(0,.tree .int a0)]) rfl ?_;unfold Ux;unfold H6 at h;refine Aj ?_;refine Ab ?_;obtain ⟨g3,h⟩:=Au h;refine Aa 6 ?_;refine rs1 (.own (oi 3 2) .int 0 0) (oi 3 2) (.arr 3 .int []) (by kernel_rfl) ?_;refine rz0 (.tree .int a0) ?_;refine rs2 (.own (oi 3 4) .int 0 a0.length) (oi 3 2) (oi 3 4) (.arr 3 .int a0) (K8 (t:=.int) (t':=.int) (xs:=[]) (ys:=a0) (zs:=a0) (j:=oi 3 2) (len:=0) (c:=.tree .int a0) (by kernel_rfl) (by kernel_rfl) rfl (by kernel_rfl) Aix rfl g3) ?_;refine rsB 1 ?_;refine An (tn_ ?_);refine wr_ ?_;refine Ah ?_;obtain rfl:=zj h;exact A0 [.own (oi 3 4) .int 0 a0.length] (Ap rfl (Eb (by kernel_rfl) rfl) As)
def Xx:AC :=
 (.seq (rg [xo 4 (qm (cb false))])
 (.seq (rg [xo 5 (qm (tm 1)),xo 6 (qm (tm 0)),xo 7 (qb .sub (tm 6) (ci 1)),xo 8 (qc 99 [tm 5,ci 0,tm 7] [[some .int],[],[]]),xo 4 (qm (tm 8))])
 .ret))
def Ali:List Res:=[.tmp 4]
theorem Akw:Am Tryz.prog Tryz.f84=some (Xx,Ali):=by kernel_rfl
theorem Aii:A5 Tryz.prog 84=true:=by kernel_rfl
def Ja (a0:Int) (a1:List Int):Option Bool :=
 Option.bind (Ih a1 0 (wI (a0 - 1))) fun y3 =>
some y3
def Ahy (r:Bool):RV:=⟨false,[(false,[.sc (.bool r)])]⟩
theorem Ahs {a0:Int} {a1:List Int} {r:Bool} (h:Ja a0 a1=some r):Ax Tryz.prog Tab 84 [ai a0,.tree .int a1] (Ahy r):=by
 refine Ar (by kernel_rfl) Tryz.func84 Akw (n:=9) (by kernel_rfl) (by simp) (tl:=[(0,ai a0),(1,.tree .int a1)]) rfl ?_;unfold Xx;unfold Ja at h;refine Aj ?_;refine Ab ?_;obtain ⟨y3,h3,h⟩:=Ae h;refine Aa 7 ?_;refine rz0 (.tree .int a1) ?_;refine rz0 (ai a0) ?_;refine rz0 (ai (wI (a0 - 1))) ?_;refine zc (.bool y3) [] [.tree .int a1,ai 0,ai (wI (a0 - 1))] (Ae9 h3) ?_;refine rsB 1 ?_;refine An (tn_ ?_);refine wr_ ?_;refine Ah ?_;obtain rfl:=zj h;exact A0 [.bool y3] (Ap rfl zl As)
def Uq:AC :=
 (.seq (rg [xo 6 (qm (ci 0))])
 (.seq (rg [xo 7 (qm (tm 1)),xo 8 (qm (tm 2)),xo 9 (qb .mul (tm 7) (tm 8)),xo 10 (qm (tm 0)),xo 11 (qb .rem (tm 9) (tm 10)),xo 6 (qm (tm 11))])
 .ret))
def Ag7:List Res:=[.tmp 6]
theorem Ah1:Am Tryz.prog Tryz.f87=some (Uq,Ag7):=by kernel_rfl
theorem Rh:A5 Tryz.prog 87=true:=by kernel_rfl
def Gv (a0:Int) (a1:Int) (a2:Int):Option Int :=
 og (a0≠0) <|
some (Int.tmod (wI (a1*a2)) a0)
def Afr (r:Int):RV:=⟨false,[(false,[.sc (.int .i64 r)])]⟩
theorem Ry {a0:Int} {a1:Int} {a2:Int} {r:Int} (h:Gv a0 a1 a2=some r):Ax Tryz.prog Tab 87 [ai a0,ai a1,ai a2] (Afr r):=by
 refine Ar (by kernel_rfl) Tryz.func87 Ah1 (n:=12) (by kernel_rfl) (by simp) (tl:=[(0,ai a0),(1,ai a1),(2,ai a2)]) rfl ?_;unfold Uq;unfold Gv at h;refine Aj ?_;refine Ab ?_;obtain ⟨g3,h⟩:=Au h;refine Aa 8 ?_;refine rz0 (ai a1) ?_;refine rz0 (ai a2) ?_;refine rz0 (ai (wI (a1*a2))) ?_;refine rz0 (ai a0) ?_;refine rs0 (ai (Int.tmod (wI (a1*a2)) a0)) (Pz (k:=.i64) (a:=wI (a1*a2)) (b:=a0) (by kernel_rfl) (by kernel_rfl) g3) ?_;refine rsB 1 ?_;refine An (tn_ ?_);refine wr_ ?_;refine Ah ?_;obtain rfl:=zj h;exact A0 [ai (Int.tmod (wI (a1*a2)) a0)] (Ap rfl zl As)
def R3:AC :=
 (.seq (rg [xo 6 (qm (cb false))])
 (.seq (rg [xo 7 (qm (tm 0)),xo 8 (qm (tm 1)),xo 9 (qb .geq (tm 7) (tm 8)),xo 10 (qm (tm 9)),⟨some 11,some (10,true),qm (tm 0)⟩,⟨some 12,some (10,true),qm (tm 2)⟩,⟨some 13,some (10,true),qb .leq (tm 11) (tm 12)⟩,xo 14 (.i (.pick (tm 10) (tm 13) (cb false))),xo 6 (qm (tm 14))])
 .ret))
def Afh:List Res:=[.tmp 6]
theorem Aga:Am Tryz.prog Tryz.f49=some (R3,Afh):=by kernel_rfl
theorem Kp:A5 Tryz.prog 49=true:=by kernel_rfl
def B3 (a0:Int) (a1:Int) (a2:Int):Option Bool :=
 Option.bind (cond (decide (a1<=a0))
  (some (decide (a0<=a2)))
  (some false)) fun l2_m6 =>
some l2_m6
def Aaa (r:Bool):RV:=⟨false,[(false,[.sc (.bool r)])]⟩
theorem Bp {a0:Int} {a1:Int} {a2:Int} {r:Bool} (h:B3 a0 a1 a2=some r):Ax Tryz.prog Tab 49 [ai a0,ai a1,ai a2] (Aaa r):=by
 refine Ar (by kernel_rfl) Tryz.func49 Aga (n:=15) (by kernel_rfl) (by simp) (tl:=[(0,ai a0),(1,ai a1),(2,ai a2)]) rfl ?_;unfold R3;unfold B3 at h;refine Aj ?_;refine Aw h (fun (l2_m6:Bool) S_=>S_=⟨Ao [(6,.bool l2_m6)],Ak (Aq []),2⟩) ?_ ?_
 ·intro v_ h;rcases Ad h with ⟨q3,h⟩ | ⟨q3,h⟩
  ·have q3_:=of_decide_eq_true q3;refine Aa 11 ?_;refine rz0 (ai a0) ?_;refine rz0 (ai a1) ?_;refine rz0 (.bool (decide (a1<=a0))) ?_;refine rz0 (.bool (decide (a1<=a0))) ?_;refine rs0 (ai a0) (zg q3) ?_;refine rs0 (ai a2) (zg q3) ?_;refine rs0 (.bool (decide (a0<=a2))) (zg q3) ?_;refine rs0 (.bool (decide (a0<=a2))) (zT q3) ?_;refine rsB 1 ?_;refine An (tn_ ?_);obtain rfl:=zj h;exact ⟨_,Ac [],rfl⟩
  have q3_:=of_decide_eq_false q3;refine Aa 11 ?_;refine rz0 (ai a0) ?_;refine rz0 (ai a1) ?_;refine rz0 (.bool (decide (a1<=a0))) ?_;refine rz0 (.bool (decide (a1<=a0))) ?_;refine zs q3 ?_;refine zs q3 ?_;refine zs q3 ?_;refine rs0 (.bool false) (zF q3) ?_;refine rsB 1 ?_;refine An (tn_ ?_);obtain rfl:=zj h;exact ⟨_,Ac [],rfl⟩
 rintro l2_m6 _ rfl h
 (try dsimp only at h);refine Ah ?_;obtain rfl:=zj h;exact A0 [.bool l2_m6] (Ap rfl zl As)
def M9:AC :=
 (.seq (rg [xo 4 (qm (cb false))])
 (.seq (rg [xo 5 (qm (tm 1)),xo 6 (qb .geq (tm 5) (ci 0)),xo 7 (qm (tm 6)),⟨some 8,some (7,true),qm (tm 1)⟩,⟨some 9,some (7,true),qm (tm 0)⟩,⟨some 10,some (7,true),qb .lss (tm 8) (tm 9)⟩,xo 11 (.i (.pick (tm 7) (tm 10) (cb false))),xo 4 (qm (tm 11))])
 .ret))
def Xq:List Res:=[.tmp 4]
theorem Xn:Am Tryz.prog Tryz.f100=some (M9,Xq):=by kernel_rfl
def Es (a0:Int) (a1:Int):Option Bool :=
 Option.bind (cond (decide (0<=a1))
  (some (decide (a1<a0)))
  (some false)) fun l2_m4 =>
some l2_m4
def Wk (r:Bool):RV:=⟨false,[(false,[.sc (.bool r)])]⟩
theorem Uu {a0:Int} {a1:Int} {r:Bool} (h:Es a0 a1=some r):Ax Tryz.prog Tab 100 [ai a0,ai a1] (Wk r):=by
 refine Ar (by kernel_rfl) Tryz.func100 Xn (n:=12) (by kernel_rfl) (by simp) (tl:=[(0,ai a0),(1,ai a1)]) rfl ?_;unfold M9;unfold Es at h;refine Aj ?_;refine Aw h (fun (l2_m4:Bool) S_=>S_=⟨Ao [(4,.bool l2_m4)],Ak (Aq []),2⟩) ?_ ?_
 ·intro v_ h;rcases Ad h with ⟨q3,h⟩ | ⟨q3,h⟩
  ·have q3_:=of_decide_eq_true q3;refine Aa 10 ?_;refine rz0 (ai a1) ?_;refine rz0 (.bool (decide (0<=a1))) ?_;refine rz0 (.bool (decide (0<=a1))) ?_;refine rs0 (ai a1) (zg q3) ?_;refine rs0 (ai a0) (zg q3) ?_;refine rs0 (.bool (decide (a1<a0))) (zg q3) ?_;refine rs0 (.bool (decide (a1<a0))) (zT q3) ?_;refine rsB 1 ?_;refine An (tn_ ?_);obtain rfl:=zj h;exact ⟨_,Ac [],rfl⟩
  have q3_:=of_decide_eq_false q3;refine Aa 10 ?_;refine rz0 (ai a1) ?_;refine rz0 (.bool (decide (0<=a1))) ?_;refine rz0 (.bool (decide (0<=a1))) ?_;refine zs q3 ?_;refine zs q3 ?_;refine zs q3 ?_;refine rs0 (.bool false) (zF q3) ?_;refine rsB 1 ?_;refine An (tn_ ?_);obtain rfl:=zj h;exact ⟨_,Ac [],rfl⟩
 rintro l2_m4 _ rfl h
 (try dsimp only at h);refine Ah ?_;obtain rfl:=zj h;exact A0 [.bool l2_m4] (Ap rfl zl As)
def Ko:AC :=
 (.seq (rg [xo 16 (qb .lss (tm 15) (tm 14))])
 (.seq (.cond (tm 16)
  .skip
  (.exit 0))
 (.seq (.block 1 (.seq (rg [xo 17 (qx 1 (tm 13) (tm 15)),xo 18 (ql (tm 17)),xo 8 (qm (tm 18))])
 (.seq (rg [xo 19 (qm (tm 0)),xo 20 (qm (tm 8)),xo 21 (qc 100 [tm 19,tm 20] [[],[]]),xo 22 (.i (.not (tm 21)))])
 (.cond (tm 22)
  (.seq (rg [xo 6 (qm (cb false))])
  .ret)
  .skip))))
 (rg [xo 23 (qb .add (tm 15) (ci 1)),xo 15 (qm (tm 23))]))))
def Oi:AC :=
 (.seq (rg [xo 6 (qm (cb false))])
 (.seq (.seq (rg [xo 9 (qm (tm 1)),xo 10 (.i (.len (tm 9))),xo 11 (qm (tm 2)),xo 12 (qb .neq (tm 10) (tm 11))])
 (.cond (tm 12)
  (.seq (rg [xo 6 (qm (cb false))])
  .ret)
  .skip))
 (.seq (.seq (rg [xo 13 (qm (tm 1)),xo 14 (.i (.len (tm 13))),xo 15 (qm (ci 0))])
 (.block 0 (.loop Ko)))
 (.seq (rg [xo 6 (qm (cb true))])
 .ret))))
def Ze:List Res:=[.tmp 6]
theorem Ys:Am Tryz.prog Tryz.f90=some (Oi,Ze):=by kernel_rfl
def Fg (a1:List Int) (a0:Int) (l8_m15:Nat):Option (Ctl Nat (Ctl Unit Bool)) :=
 cond (decide (((l8_m15:Nat):Int)<((a1.length:Nat):Int)))
 (Option.bind (a1[l8_m15]?) fun x14 =>
 Option.bind (Es a0 x14) fun y16 =>
 cond (!y16)
  (some (Ctl.out (Ctl.out false)))
  (og (l8_m15+1<4611686018427387904) <|
  some (Ctl.next (l8_m15+1))))
 (some (Ctl.out (Ctl.next ())))
def Fk (a0:Int) (a1:List Int) (a2:Int):Option Bool :=
 cond (((a1.length:Nat):Int) !=a2)
 (some false)
 (Do (A4 (fun s_:Nat=>Fg a1 a0 s_) 4611686018427387904 0) fun _ =>
 some true)
def Xp (r:Bool):RV:=⟨false,[(false,[.sc (.bool r)])]⟩
theorem Wq {a0:Int} {a1:List Int} {a2:Int} {r:Bool} (h:Fk a0 a1 a2=some r):Ax Tryz.prog Tab 90 [ai a0,.tree .int a1,ai a2] (Xp r):=by
 refine Ar (by kernel_rfl) Tryz.func90 Ys (n:=24) (by kernel_rfl) (by simp) (tl:=[(0,ai a0),(1,.tree .int a1),(2,ai a2)]) rfl ?_;unfold Oi;unfold Fk at h;refine Aj ?_;refine Ab ?_;refine Aj ?_;rcases Ad h with ⟨q4,h⟩ | ⟨q4,h⟩
 ·refine Af q4 ?_;refine Aj ?_;refine Ah (tr_ ?_);obtain rfl:=zj h;exact A0 [.bool false] (Ap rfl zl As)
 refine Ag q4 ?_;refine Ai (tn_ ?_);refine wr_ ?_;refine Bh h (fun (_:Unit) S_=>S_=⟨Ao [],Ak (Aq []),2⟩) ?_ ?_
 ·intro v_ h hk6;refine Aj ?_;refine Al ?_;refine A3 h (fun (l8_m15:Nat) S_=>S_=⟨Ao [(0,ai a0),(13,.tree .int a1),(14,ai ((a1.length:Nat):Int)),(15,ai ((l8_m15:Nat):Int))],Ak (Aq []),2⟩) ⟨_,Ac [],rfl⟩ ?_;rintro n_ l8_m15 _ c_ rfl h hn8
  (try dsimp only at h);unfold Fg at h;unfold Ko;refine Aj ?_;refine Ab ?_;rcases Ad h with ⟨q11,h⟩ | ⟨q11,h⟩
  ·have q11_:=of_decide_eq_true q11;refine Af q11 ?_;refine Ai (tn_ ?_);refine wr_ ?_;refine Ab ?_;refine Al ?_;refine Ab ?_;obtain ⟨x14,e14,h⟩:=Ae h;refine Aa 6 ?_;refine rs0 (.telt none .int x14 0) (zi (t:=.int) (xs:=a1) (k:=.i64) (m:=((l8_m15:Nat):Int)) (Ay _) e14) ?_;refine rsB 2 ?_;refine An (tn_ ?_);refine wr_ ?_;refine Ab ?_;obtain ⟨y16,h16,h⟩:=Ae h;refine Aa 10 ?_;refine rz0 (ai a0) ?_;refine rz0 (ai x14) ?_;refine zc (.bool y16) [] [ai a0,ai x14] (Uu h16) ?_;refine rsB 1 ?_;refine An (tn_ ?_);refine wr_ ?_;rcases Ad h with ⟨q17,h⟩ | ⟨q17,h⟩
   ·refine Af q17 ?_;refine Aj ?_;refine Ah (br_ (tr_ (tr_ (br_ (tr_ ?_)))));obtain rfl:=zj h;have h:=hn8
    (try dsimp only at h);obtain rfl:=zj h;have h:=hk6
    (try dsimp only at h);obtain rfl:=zj h;exact A0 [.bool false] (Ap rfl zl As)
   refine Ag q17 ?_;refine Ai (bn_ (tn_ ?_));refine wr_ ?_;obtain ⟨g19,h⟩:=Au h;refine Aa 12 ?_;refine rs0 (ai ((l8_m15+1:Nat):Int)) (za g19) ?_;refine rsB 1 ?_;refine An (tn_ ?_);obtain rfl:=zj h;exact ⟨l8_m15+1,_,Ac [],rfl,hn8⟩
  have q11_:=of_decide_eq_false q11;refine Ag q11 ?_;refine Az (te_ (te_ (be_ (tn_ ?_))));obtain rfl:=zj h;have h:=hn8
  (try dsimp only at h);obtain rfl:=zj h;exact ⟨(),_,rfl,Ac [],rfl⟩
 rintro _ _ rfl h
 (try dsimp only at h);refine Aj ?_;refine Ah ?_;obtain rfl:=zj h;exact A0 [.bool true] (Ap rfl zl As)
def Ab1:AC :=
 (.seq (rg [xo 4 (qm (ci 0))])
 (.seq (rg [xo 5 (qm (tm 1)),xo 6 (qm (tm 0)),xo 7 (qb .rem (tm 5) (tm 6)),xo 1 (qm (tm 7))])
 (.seq (.seq (rg [xo 8 (qm (tm 1)),xo 9 (qb .lss (tm 8) (ci 0))])
 (.cond (tm 9)
  (rg [xo 10 (qm (tm 1)),xo 11 (qm (tm 0)),xo 12 (qb .add (tm 10) (tm 11)),xo 1 (qm (tm 12))])
  .skip))
 (.seq (rg [xo 13 (qm (tm 1)),xo 4 (qm (tm 13))])
 .ret))))
def Ams:List Res:=[.tmp 4]
theorem Amn:Am Tryz.prog Tryz.f103=some (Ab1,Ams):=by kernel_rfl
def Lc (a0:Int) (a1:Int):Option Int :=
 og (a0≠0) <|
Option.bind (cond (decide (Int.tmod a1 a0<0))
  (some (wI (Int.tmod a1 a0+a0)))
  (some (Int.tmod a1 a0))) fun l4_m1 =>
some l4_m1
def Alj (r:Int):RV:=⟨false,[(false,[.sc (.int .i64 r)])]⟩
theorem Akd {a0:Int} {a1:Int} {r:Int} (h:Lc a0 a1=some r):Ax Tryz.prog Tab 103 [ai a0,ai a1] (Alj r):=by
 refine Ar (by kernel_rfl) Tryz.func103 Amn (n:=14) (by kernel_rfl) (by simp) (tl:=[(0,ai a0),(1,ai a1)]) rfl ?_;unfold Ab1;unfold Lc at h;refine Aj ?_;refine Ab ?_;obtain ⟨g3,h⟩:=Au h;refine Aa 6 ?_;refine rz0 (ai a1) ?_;refine rz0 (ai a0) ?_;refine rs0 (ai (Int.tmod a1 a0)) (Pz (k:=.i64) (a:=a1) (b:=a0) (by kernel_rfl) (by kernel_rfl) g3) ?_;refine rsB 1 ?_;refine An (tn_ ?_);refine wr_ ?_;refine Aw h (fun (l4_m1:Int) S_=>S_=⟨Ao [(1,ai l4_m1)],Ak (Aq []),2⟩) ?_ ?_
 ·intro v_ h;refine Aj ?_;rcases Ad h with ⟨q6,h⟩ | ⟨q6,h⟩
  ·have q6_:=of_decide_eq_true q6;refine Af q6 ?_;refine Aa 12 ?_;refine rsB 4 ?_;refine An (tn_ ?_);obtain rfl:=zj h;exact ⟨_,Ac [],rfl⟩
  have q6_:=of_decide_eq_false q6;refine Ag q6 ?_;refine Ai (tn_ ?_);obtain rfl:=zj h;exact ⟨_,Ac [],rfl⟩
 rintro l4_m1 _ rfl h
 (try dsimp only at h);refine Aj ?_;refine Ah ?_;obtain rfl:=zj h;exact A0 [ai l4_m1] (Ap rfl zl As)
def V8:AC :=
 (.seq (rg [xo 2 (qm (.cst .nils))])
 (.seq (rg [xo 3 (.mkS 3 .int []),xo 4 (qm (tm 0)),xo 5 (.append 3 .int 8 (tm 3) (tm 4)),xo 2 (qm (tm 5))])
 .ret))
def Ai8:List Res:=[.tmp 2]
theorem Ahx:Am Tryz.prog Tryz.f94=some (V8,Ai8):=by kernel_rfl
def G0 (a0:List Int):Option (List Int) :=
 og (0+a0.length<=1073741824∧(0+a0.length)*8<=140737488355328) <|
some a0
def Afs (r:List Int):RV:=⟨false,[(false,[.new 3 .int r])]⟩
theorem Sa {a0:List Int} {r:List Int} (h:G0 a0=some r):Ax Tryz.prog Tab 94 [.tree .int a0] (Afs r):=by
 refine Ar (by kernel_rfl) Tryz.func94 Ahx (n:=6) (by kernel_rfl) (by simp) (tl:=[(0,.tree .int a0)]) rfl ?_;unfold V8;unfold G0 at h;refine Aj ?_;refine Ab ?_;obtain ⟨g3,h⟩:=Au h;refine Aa 6 ?_;refine rs1 (.own (oi 3 2) .int 0 0) (oi 3 2) (.arr 3 .int []) (by kernel_rfl) ?_;refine rz0 (.tree .int a0) ?_;refine rs2 (.own (oi 3 4) .int 0 a0.length) (oi 3 2) (oi 3 4) (.arr 3 .int a0) (K8 (t:=.int) (t':=.int) (xs:=[]) (ys:=a0) (zs:=a0) (j:=oi 3 2) (len:=0) (c:=.tree .int a0) (by kernel_rfl) (by kernel_rfl) rfl (by kernel_rfl) Aix rfl g3) ?_;refine rsB 1 ?_;refine An (tn_ ?_);refine wr_ ?_;refine Ah ?_;obtain rfl:=zj h;exact A0 [.own (oi 3 4) .int 0 a0.length] (Ap rfl (Eb (by kernel_rfl) rfl) As)
end
section
open Go.RowKit Go.Deep
theorem Av2 {f:Nat->AV} {ob:Oid->Option Ob} {d:Option Nat} {gd:Option (Nat×Bool)} {fo y:Opd} {ys:List Opd} {tys:List (List (Option Ty))} {i p:Oid} {t u:Ty} {off len z m k:Nat} {e1:TypeId} {xss:List (List u.D)} (n:Nat) (hy:ys[n]? =some y) (he:y.ev f=.own i t off len) (hob:ob i=some (.vec e1 z m (hdL p u xss))) (hk:k<xss.length):kid p k∈rdX f ob ⟨d,gd,.call fo ys tys⟩:=by
 refine List.mem_flatMap.2 ⟨y,List.mem_cons_of_mem _ (List.mem_of_getElem? hy),?_⟩;rw [he];show kid p k∈Sb ob (7+1) (.own i t off len);unfold Sb;dsimp only;rw [hob];refine List.mem_cons_of_mem _ (List.mem_flatMap.2 ⟨.own (kid p k) u 0 xss[k].length,List.mem_of_getElem? (i:=k) (by rw [E6,gEg hk]; rfl),?_⟩);exact List.mem_singleton.2 rfl
theorem Alz {f:Nat->AV} {ob:Oid->Option Ob} {d:Option Nat} {gd:Option (Nat×Bool)} {fo y:Opd} {ys:List Opd} {tys:List (List (Option Ty))} {i p:Oid} {t u:Ty} {off len z m:Nat} {e e1:TypeId} {xss:List (List u.D)} (n:Nat) (hy:ys[n]? =some y) (he:y.ev f=.own i t off len) (hob:ob i=some (.vec e1 z m (hdL p u xss))) (hr:∀ (k:Nat) (row:List u.D),xss[k]? =some row->ob (kid p k)=some (.arr e u row)) (k:Nat) (row:List u.D) (h:xss[k]? =some row):only (rdX f ob ⟨d,gd,.call fo ys tys⟩) ob (kid p k)=some (.arr e u row):=(Ail (Av2 n hy he hob (gSi.1 h).1)).trans (hr k row h)
end
section
open Go.RowKit Go.Deep
theorem Acs:∀ (n:Nat) (l:List Int),l.length=n+1->(tyA n).av (Fa n l)=l.map (AV.int .i64)
 | 0,[x],_=>rfl
 | 0,[],h=>by cases h
 | 0,_ :: _ :: _,h=>by simp at h
 | n+1,[],h=>by cases h
 | n+1,x :: l,h=>by
  have:=Acs n l (by simpa using h);simp only [tyA,Fa,Ty.av,List.tail_cons,this]; rfl
theorem Auo {vs:List Value} {ob:Oid->Option Ob}:∀ (n:Nat) (l:List Int),LeavesR vs ob ((tyA n).av (Fa n l)) (((tyA n).av (Fa n l)).map .sc)
 | 0,_=>Bg (Avb rfl) Gd
 | n+1,l=>Bg (Avb rfl) (Auo n l.tail)
section
variable {n:Nat} {d:Option Nat} {f:Nat->AV} {ob:Oid->Option Ob}
theorem Awn {N:Nat} {x:Opd} {i:Oid} {j:Nat} {e:TypeId} {xs:List (tyA N).D} (hx:x.ev f=.elt i j 0) (hob:ob i=some (.arr e (tyA N) xs)) (hs:(tyA N).size=N+1):Be n ⟨d,none,.slA (N+1) x⟩ f ob=some (1,.sla i j (N+1),[]):=by
 simp [Be,ev,Anq,hx,hob,hs]
theorem As2 {N:Nat} {x y:Opd} {i:Oid} {e:TypeId} {l ys zs:List Int} (hx:x.ev f=.sla i 0 (N+1)) (hy:E1 ob .int (y.ev f)=some ys) (hob:ob i=some (.arr e (tyA N) [Fa N l])) (hs:(tyA N).size=N+1) (hl:l.length=N+1) (hz:ys.take (N+1)++l.drop (ys.take (N+1)).length=zs) :
  Be n ⟨d,none,.copy x y⟩ f ob=some (2,.int .i64 ((ys.take (N+1)).length:Nat),[(i,none),(i,some (.arr e (tyA N) [Fa N zs]))]):=by
 subst hz
 have hzl:(ys.take (N+1)++l.drop (ys.take (N+1)).length).length=N+1:=by
  simp only [List.length_append,List.length_take,List.length_drop]; omega
 have h1:=Acs N l hl;have h2:=Acs N _ hzl;have h3:=Xm N (ys.take (N+1)++l.drop (ys.take (N+1)).length);have h4:(ys.take (N+1)).length<=N+1:=by rw [List.length_take]; omega
 have hc:Hx false (ys.take (N+1)).length 0 ((tyA N).av (Fa N l)) (.agg ((ys.take (N+1)).map (AV.int .i64)))=some ((tyA N).av (Fa N (ys.take (N+1)++l.drop (ys.take (N+1)).length))):=by
  rw [h1,h2];generalize ys.take (N+1)=z at h4 ⊢;have h5:(z.map (AV.int .i64)).all AV.one=true:=by rw [List.all_eq_true]; intro a ha; obtain ⟨b,_,rfl⟩:=List.mem_map.1 ha; rfl
  simp only [Hx,Bool.false_eq_true,if_false,List.length_map,Nat.zero_add,List.take_zero,List.nil_append,List.map_append,List.map_drop];rw [if_pos (by first | exact ⟨rfl,by omega,h5⟩ | exact ⟨trivial,by omega,h5⟩)]
 have e1:Oc f ob x y=some (.int .i64 ((ys.take (N+1)).length:Nat),[(i,none),(i,some (.arr e (tyA N) [Fa N (ys.take (N+1)++l.drop (ys.take (N+1)).length)]))]):=by
  unfold Oc;rw [hx];dsimp only;rw [hy];dsimp only;rw [hob];dsimp only [List.getElem?_cons_zero];rw [hc];dsimp only;rw [h3];dsimp only;rw [if_pos hs];rfl
 simp only [Be,ev,e1]
end
end
end Go.Proofs.YtodopnonpadpfaaGreatDoor
