/- Lemmas on the program and on partial functions that stand in place of its code (part 4); no condition beyond those that each one states. -/
import Derived.Test.YtjnaikadmjocbaaDoorZ3
import Derived.KernelRfl
import Derived.IntWalk
namespace Go.Proofs.YtjnaikadmjocbaaDoor
open Go.RowKit Go.Deep
section
variable {P:Program} {G:World->Prop}
theorem Ab {x y:AC} {R:AE->St->Prop} {S:St} (h:awp P G x (Is (fun S'=>∃ S'',WeakG G S' S''∧awp P G y R S'') R) S):awp P G (.seq x y) R S:=h
theorem X5 {x y:AC} {R:AE->St->Prop} {S:St} (K:St->Prop) (h:awp P G x (Is (fun S'=>∃ S'',WeakG G S' S''∧K S'') R) S) (k:∀ S'',K S''->awp P G y R S''):awp P G (.seq x y) R S:=by
 unfold awp
 exact Do (fun e S hq=>by
  cases e with
  | normal=>obtain ⟨S'',hw,hk⟩:=hq; exact ⟨S'',hw,k S'' hk⟩
  | exit id=>exact hq
  | ret=>exact hq) h
def Ajq (rs:List Rec) (ds:List (List Oid)):List (Nat×Nat)->Bool
 | []=>true
 | p :: ps=>(let ri:=rs.getD p.2 (0,.any,[]); let rj:=rs.getD p.1 (0,.any,[]); let di:=ds.getD p.2 []; let dj:=ds.getD p.1 []
   ((!(ri.1==2)||rj.1==0)&&(!(rj.1==2)||ri.1==0))||((!(ri.1==2)||ri.2.2.all fun u=> !dj.contains u.1)&&((!(rj.1==2)||rj.2.2.all fun u=> !di.contains u.1)&&ri.2.2.all fun u=>rj.2.2.all fun v=> !(u.1==v.1))))&&Ajq rs ds ps
theorem Cn {rs:List Rec} {ds:List (List Oid)}:∀ {bad:List (Nat×Nat)},Ajq rs ds bad=true->Aep rs ds bad
 | [],_=>trivial
 | p :: ps,h=>by
  simp only [Ajq,Bool.and_eq_true] at h;refine ⟨?_,Cn h.2⟩;have h1:=h.1;simp only [Bool.or_eq_true,Bool.and_eq_true,Bool.not_eq_true',beq_eq_false_iff_ne,beq_iff_eq,List.all_eq_true,List.contains_eq_mem,decide_eq_false_iff_not] at h1;unfold Kb;rcases h1 with ⟨a,b⟩ | ⟨a,b,c⟩
  ·refine .inl ⟨fun e=>?_,fun e=>?_⟩
   ·rcases a with a | a
    ·exact absurd e a
    ·exact a
   ·rcases b with b | b
    ·exact absurd e b
    ·exact b
  ·refine .inr ⟨fun e=>?_,fun e=>?_,c⟩
   ·rcases a with a | a
    ·exact absurd e a
    ·exact a
   ·rcases b with b | b
    ·exact absurd e b
    ·exact b
def XW (P:Program) (G:World->Prop) (g k:Nat) (xs:List X) (tl:List (Nat×AV)) (ol:List (Oid×Option Ob)) (Kf:List (Nat×AV)->List (Oid×Option Ob)->Prop):Prop :=
 ∃ rs tl' ol',Ajp P G g k xs (Am tl) (Ah ol) rs (Am tl') (Ah ol')∧Kf tl' ol'
def XD (P:Program) (G:World->Prop) (bad:List (Nat×Nat)) (g k:Nat) (xs:List X) (tl:List (Nat×AV)) (ol:List (Oid×Option Ob)) (ra:List Rec) (da:List (List Oid)) (Kf:List (Nat×AV)->List (Oid×Option Ob)->Prop):Prop :=
 ∃ rs ds tl' ol',Agz P G g k xs (Am tl) (Ah ol) rs ds (Am tl') (Ah ol')∧Aep (ra.reverse++rs) (da.reverse++ds) bad∧Kf tl' ol'
theorem Aa {xs:List X} {bad:List (Nat×Nat)} {R:AE->St->Prop} {tl:List (Nat×AV)} {ol:List (Oid×Option Ob)} {g:Nat} (g':Nat) (h:XW P G g 0 xs tl ol fun tl' ol'=>R .normal ⟨Am tl',Ah ol',g'⟩) (hn:g+xs.length=g':=by kernel_rfl):awp P G (.region xs false bad) R ⟨Am tl,Ah ol,g⟩:=by
 obtain ⟨rs,tl',ol',h,hr⟩:=h;exact ⟨rs,_,_,h,by subst hn; exact hr⟩
theorem Bi {xs:List X} {bad:List (Nat×Nat)} {R:AE->St->Prop} {tl:List (Nat×AV)} {ol:List (Oid×Option Ob)} {g:Nat} (g':Nat) (h:XD P G bad g 0 xs tl ol [] [] fun tl' ol'=>R .normal ⟨Am tl',Ah ol',g'⟩) (hn:g+xs.length=g':=by kernel_rfl):awp P G (.region xs true bad) R ⟨Am tl,Ah ol,g⟩:=by
 obtain ⟨rs,ds,tl',ol',h,hb,hr⟩:=h;exact ⟨rs,ds,_,_,h,hb,by subst hn; exact hr⟩
theorem Mw (tl:List (Nat×AV)) (d:Nat) (v:AV):upd (Am tl) d v=Am ((d,v) :: tl):=by
 funext i;rfl
def Hg:Option Ob->Bool
 | some (.pool ..)=>false
 | some (.mat ..)=>false
 | some (.tv ..)=>false
 | _=>true
def Eg (us:List (Oid×Option Ob)):Bool:=us.all fun u=>Hg u.2
theorem Hz {ol:List (Oid×Option Ob)} {j:Oid} {o:Option Ob} (h:Hg o=true):upd (Ah ol) j o=Ah ((j,o) :: ol):=by
 cases o with
 | none=>funext i; rfl
 | some o=>cases o <;> first | (funext i; rfl) | cases h
theorem Fi:∀ (us ol:List (Oid×Option Ob)),Eg us=true->Av us (Ah ol)=Ah (us.reverseAux ol)
 | [],_,_=>rfl
 | (j,o) :: us,ol,h=>by
  simp only [Eg,List.all_cons,Bool.and_eq_true] at h;show Av us (upd (Ah ol) j o)=_;rw [Hz h.1];exact Fi us _ h.2
theorem Gm {p:Bool} {n:Nat} {x:X} {f:Nat->AV} {ob:Oid->Option Ob} {r:Rec} (h:Bd n x f ob=some r):Ep P G p n x f ob r:=by
 unfold Bd at h;unfold Ep;split at h
 ·exact .inl (.inl (.inl h))
 ·split at h
  ·rename_i hc;exact ⟨true,hc,by rw [if_pos rfl]; exact .inl (.inl (.inl h))⟩
  ·rename_i hc;exact ⟨false,hc,by rw [if_neg (by simp)]; exact (osj h).symm⟩
  ·cases h
def Qy (gd:Option (Nat×Bool)) (f:Nat->AV):Prop :=
 match gd with
 | none=>True
 | some (s,c)=>f s=.bool c
theorem Aaa {s:Nat} {b:Bool} {f:Nat->AV} (h:Qy (some (s,b)) f):gdv (f s) b=some true:=by
 rw [show f s=.bool b from h]; simp [gdv]
theorem Cf {s:Nat} {b c:Bool} {f:Nat->AV} (h:f s=.bool c) (hc:c=b):Qy (some (s,b)) f:=by subst hc; exact h
theorem Afw {p:Bool} {n:Nat} {d:Option Nat} {gd:Option (Nat×Bool)} {fo:Opd} {xs:List Opd} {tys:List (List (Option Ty))} {f:Nat->AV} {ob:Oid->Option Ob} {F:FuncId} {caps args0 args:List AV} {rv:RV} {r:AV×List (Oid×Option Ob)}
  (hgd:Qy gd f) (hfo:fo.ev f=.fn F caps) (h1:Ma (gnd ob 8) ((xs++caps.map Opd.cst).map (Opd.ev f))=some args0) (hn:N7 tys args0=args) (hb:A9 P F=true) (hc:A7 P G F args rv) (hni:rv.noI=true) (hr:rv.out (Dc ((d.getD 0,0),n)) ((xs++caps.map Opd.cst).map (Opd.ev f))=r) :
  Ep P G p n ⟨d,gd,.call fo xs tys⟩ f ob (1,r.1,r.2):=by
 subst hn;have key:EvR P G p f ob ((d.getD 0,0),n) (.call fo xs tys) (1,r.1,r.2):=.inr ⟨fo,xs,tys,F,caps,rfl,hfo,.inl ⟨rfl,hb,args0,rv,.inl ⟨h1,hni⟩,hc,hr⟩⟩;unfold Ep;cases gd with
 | none=>exact key
 | some sb=>exact ⟨true,Aaa hgd,by rw [if_pos rfl]; exact key⟩
theorem Ae9 {n:Nat} {d:Option Nat} {gd:Option (Nat×Bool)} {fo:Opd} {xs:List Opd} {tys:List (List (Option Ty))} {f:Nat->AV} {ob:Oid->Option Ob} {F:FuncId} {caps zs args:List AV} {v:AV} {ol us:List (Oid×Ob)} (θ:Oid->Oid)
  (hgd:Qy gd f) (hfo:fo.ev f=.fn F caps) (hz:(xs++caps.map Opd.cst).map (Opd.ev f)=zs) (h1:Oa θ (Wc ((nmL ol).map θ) ob) zs args) (h2:∀ q∈exL ol,ob (θ q.1)=some (q.2.ren θ)) (h3:∀ q∈exL ol,∀ q'∈exL ol,θ q.1=θ q'.1->q.1=q'.1) (h4:∀ j∈nmL ol,Reached zs ob (θ j))
  (h5:∀ q∈exL us,q.1.2=1∨(q.1.2=0∧q.1∈nmL ol)) (hb:A9 P F=true) (hc:G7 P G F args ol v us) :
  Ep P G false n ⟨d,gd,.call fo xs tys⟩ f ob (2,v.ren (Cs θ ((d.getD 0,0),n)),Ij θ ((d.getD 0,0),n) ol us):=by
 have hN:Ahr P G f ob ((d.getD 0,0),n) F (xs++caps.map Opd.cst) (v.ren (Cs θ ((d.getD 0,0),n)),Ij θ ((d.getD 0,0),n) ol us):=by
  rw [← hz] at h1 h4;refine ⟨hb,θ,args,ol,us,v,h1,h2,fun j k hj hk e=>?_,h4,hc,fun j hj=>?_,rfl⟩
  ·obtain ⟨q,hq,rfl⟩:=List.mem_map.1 hj;obtain ⟨q',hq',rfl⟩:=List.mem_map.1 hk;exact h3 q hq q' hq' e
  ·obtain ⟨q,hq,rfl⟩:=List.mem_map.1 hj;rcases h5 q hq with h | ⟨_,h⟩
   ·exact .inl (by rw [h]; decide)
   ·exact .inr h
 have key:EvR P G false f ob ((d.getD 0,0),n) (.call fo xs tys) (2,v.ren (Cs θ ((d.getD 0,0),n)),Ij θ ((d.getD 0,0),n) ol us):=.inr ⟨fo,xs,tys,F,caps,rfl,hfo,.inr ⟨rfl,rfl,hN⟩⟩;unfold Ep;cases gd with
 | none=>exact key
 | some sb=>exact ⟨true,Aaa hgd,by rw [if_pos rfl]; exact key⟩
theorem Ak8 {n:Nat} {d:Option Nat} {gd:Option (Nat×Bool)} {q:Q} {f:Nat->AV} {ob:Oid->Option Ob} {r:Rec} (hgd:Qy gd f) (h:evL f ((d.getD 0,0),n) q=some r):Ep P G false n ⟨d,gd,q⟩ f ob r:=by
 have key:EvR P G false f ob ((d.getD 0,0),n) q r:=.inl (.inl (.inr h));unfold Ep;cases gd with
 | none=>exact key
 | some sb=>exact ⟨true,Aaa hgd,by rw [if_pos rfl]; exact key⟩
theorem Ajg {n:Nat} {d:Option Nat} {gd:Option (Nat×Bool)} {q:Q} {f:Nat->AV} {ob:Oid->Option Ob} {r:Rec} (hgd:Qy gd f) (h:Acn f ((d.getD 0,0),n) q r):Ep P G false n ⟨d,gd,q⟩ f ob r:=by
 have key:EvR P G false f ob ((d.getD 0,0),n) q r:=.inl (.inr h);unfold Ep;cases gd with
 | none=>exact key
 | some sb=>exact ⟨true,Aaa hgd,by rw [if_pos rfl]; exact key⟩
theorem Ar {g k:Nat} {tl:List (Nat×AV)} {ol:List (Oid×Option Ob)} {Kf:List (Nat×AV)->List (Oid×Option Ob)->Prop} (h:Kf tl ol):XW P G g k [] tl ol Kf:=⟨[],tl,ol,⟨rfl,rfl,rfl⟩,h⟩
theorem Nm {bad:List (Nat×Nat)} {g k:Nat} {tl:List (Nat×AV)} {ol:List (Oid×Option Ob)} {ra:List Rec} {da:List (List Oid)} {Kf:List (Nat×AV)->List (Oid×Option Ob)->Prop} (hb:Aep (ra.reverse++[]) (da.reverse++[]) bad) (h:Kf tl ol):XD P G bad g k [] tl ol ra da Kf:=⟨[],[],tl,ol,⟨rfl,rfl,rfl,rfl⟩,hb,h⟩
section
variable {g k d:Nat} {gd:Option (Nat×Bool)} {q:Q} {xs:List X} {tl:List (Nat×AV)} {ol:List (Oid×Option Ob)} {bad:List (Nat×Nat)} {ra:List Rec} {da:List (List Oid)} {Kf:List (Nat×AV)->List (Oid×Option Ob)->Prop}
theorem Adj (c:Nat) (v:AV) (us ol':List (Oid×Option Ob)) (h:Ep P G false (g+k) ⟨some d,gd,q⟩ (Am tl) (Ah ol) (c,v,us)) (he:Av us (Ah ol)=Ah ol') (h3:XW P G g (k+1) xs ((d,v) :: tl) ol' Kf):XW P G g k (⟨some d,gd,q⟩ :: xs) tl ol Kf :=
 by
 obtain ⟨rs,tl',ol',h3,hk⟩:=h3;exact ⟨_,tl',ol',⟨_,_,rfl,h,by simp only [I9,Mw,he]; exact h3⟩,hk⟩
theorem Ajn (c:Nat) (v:AV) (us ol':List (Oid×Option Ob)) (h:Ep P G false (g+k) ⟨none,gd,q⟩ (Am tl) (Ah ol) (c,v,us)) (he:Av us (Ah ol)=Ah ol') (h3:XW P G g (k+1) xs tl ol' Kf):XW P G g k (⟨none,gd,q⟩ :: xs) tl ol Kf :=
 by
 obtain ⟨rs,tl',ol',h3,hk⟩:=h3;exact ⟨_,tl',ol',⟨_,_,rfl,h,by simp only [I9,he]; exact h3⟩,hk⟩
theorem Ain (c:Nat) (v:AV) (us ol':List (Oid×Option Ob)) (h:Ep P G false (g+k) ⟨some d,gd,q⟩ (Am tl) (only (rdX (Am tl) (Ah ol) ⟨some d,gd,q⟩) (Ah ol)) (c,v,us)) (he:Av us (Ah ol)=Ah ol') (h3:XD P G bad g (k+1) xs ((d,v) :: tl) ol' ((c,v,us) :: ra) ((rdX (Am tl) (Ah ol) ⟨some d,gd,q⟩) :: da) Kf):XD P G bad g k (⟨some d,gd,q⟩ :: xs) tl ol ra da Kf :=
 by
 obtain ⟨rs,ds,tl',ol',h3,hb,hk⟩:=h3;refine ⟨_,_,tl',ol',⟨_,rs,ds,rfl,rfl,h,by simp only [I9,Mw,he]; exact h3⟩,?_,hk⟩
 simpa using hb
theorem Akd (c:Nat) (v:AV) (us ol':List (Oid×Option Ob)) (h:Ep P G false (g+k) ⟨none,gd,q⟩ (Am tl) (only (rdX (Am tl) (Ah ol) ⟨none,gd,q⟩) (Ah ol)) (c,v,us)) (he:Av us (Ah ol)=Ah ol') (h3:XD P G bad g (k+1) xs tl ol' ((c,v,us) :: ra) ((rdX (Am tl) (Ah ol) ⟨none,gd,q⟩) :: da) Kf):XD P G bad g k (⟨none,gd,q⟩ :: xs) tl ol ra da Kf :=
 by
 obtain ⟨rs,ds,tl',ol',h3,hb,hk⟩:=h3;refine ⟨_,_,tl',ol',⟨_,rs,ds,rfl,rfl,h,by simp only [I9,he]; exact h3⟩,?_,hk⟩
 simpa using hb
theorem Ye (c:Nat) (v:AV) (us:List (Oid×Option Ob)) (h:Ep P G false (g+k) ⟨some d,gd,q⟩ (Am tl) (Ah ol) (c,v,us)) (h3:XW P G g (k+1) xs ((d,v) :: tl) (us.reverseAux ol) Kf) (hx:Eg us=true):XW P G g k (⟨some d,gd,q⟩ :: xs) tl ol Kf:=Adj c v us _ h (Fi us ol hx) h3
theorem Alc (c:Nat) (v:AV) (us:List (Oid×Option Ob)) (h:Ep P G false (g+k) ⟨none,gd,q⟩ (Am tl) (Ah ol) (c,v,us)) (h3:XW P G g (k+1) xs tl (us.reverseAux ol) Kf) (hx:Eg us=true):XW P G g k (⟨none,gd,q⟩ :: xs) tl ol Kf:=Ajn c v us _ h (Fi us ol hx) h3
theorem Xr (c:Nat) (v:AV) (us:List (Oid×Option Ob)) (h:Ep P G false (g+k) ⟨some d,gd,q⟩ (Am tl) (only (rdX (Am tl) (Ah ol) ⟨some d,gd,q⟩) (Ah ol)) (c,v,us)) (h3:XD P G bad g (k+1) xs ((d,v) :: tl) (us.reverseAux ol) ((c,v,us) :: ra) ((rdX (Am tl) (Ah ol) ⟨some d,gd,q⟩) :: da) Kf) (hx:Eg us=true):XD P G bad g k (⟨some d,gd,q⟩ :: xs) tl ol ra da Kf:=Ain c v us _ h (Fi us ol hx) h3
theorem Al0 (c:Nat) (v:AV) (us:List (Oid×Option Ob)) (h:Ep P G false (g+k) ⟨none,gd,q⟩ (Am tl) (only (rdX (Am tl) (Ah ol) ⟨none,gd,q⟩) (Ah ol)) (c,v,us)) (h3:XD P G bad g (k+1) xs tl (us.reverseAux ol) ((c,v,us) :: ra) ((rdX (Am tl) (Ah ol) ⟨none,gd,q⟩) :: da) Kf) (hx:Eg us=true):XD P G bad g k (⟨none,gd,q⟩ :: xs) tl ol ra da Kf:=Akd c v us _ h (Fi us ol hx) h3
theorem Ame {ol':List (Oid×Option Ob)} (he:Ah ol=Ah ol') (h:XW P G g k xs tl ol' Kf):XW P G g k xs tl ol Kf:=by
 obtain ⟨rs,tl',ol2,h1,h2⟩:=h;exact ⟨rs,tl',ol2,by rw [he]; exact h1,h2⟩
theorem Aio {ol':List (Oid×Option Ob)} (he:Ah ol=Ah ol') (h:XD P G bad g k xs tl ol' ra da Kf):XD P G bad g k xs tl ol ra da Kf:=by
 obtain ⟨rs,ds,tl',ol2,h1,h2⟩:=h;exact ⟨rs,ds,tl',ol2,by rw [he]; exact h1,h2⟩
-- the shape of most steps: what the machine says is found by reckoning
theorem rs0 (v:AV) (h:Bd (g+k) ⟨some d,gd,q⟩ (Am tl) (Ah ol)=some (0,v,[])) (h3:XW P G g (k+1) xs ((d,v) :: tl) ol Kf):XW P G g k (⟨some d,gd,q⟩ :: xs) tl ol Kf:=Ye 0 v [] (Gm h) h3 rfl
theorem rsl (v:AV) (h:Bd (g+k) ⟨some d,gd,q⟩ (Am tl) (Ah ol)=some (1,v,[])) (h3:XW P G g (k+1) xs ((d,v) :: tl) ol Kf):XW P G g k (⟨some d,gd,q⟩ :: xs) tl ol Kf:=Ye 1 v [] (Gm h) h3 rfl
theorem rs1 (v:AV) (i:Oid) (o:Ob) (h:Bd (g+k) ⟨some d,gd,q⟩ (Am tl) (Ah ol)=some (1,v,[(i,some o)])) (h3:XW P G g (k+1) xs ((d,v) :: tl) ((i,some o) :: ol) Kf) (hx:Hg (some o)=true:=by rfl):XW P G g k (⟨some d,gd,q⟩ :: xs) tl ol Kf:=Ye 1 v _ (Gm h) h3 (by simp only [Eg,List.all_cons,List.all_nil,hx]; rfl)
theorem rs2 (v:AV) (j i:Oid) (o:Ob) (h:Bd (g+k) ⟨some d,gd,q⟩ (Am tl) (Ah ol)=some (2,v,[(j,none),(i,some o)])) (h3:XW P G g (k+1) xs ((d,v) :: tl) ((i,some o) :: (j,none) :: ol) Kf) (hx:Hg (some o)=true:=by rfl):XW P G g k (⟨some d,gd,q⟩ :: xs) tl ol Kf:=Ye 2 v _ (Gm h) h3 (by simp only [Eg,List.all_cons,List.all_nil,hx]; rfl)
theorem Akm (j i:Oid) (o:Ob) (h:Bd (g+k) ⟨none,gd,q⟩ (Am tl) (Ah ol)=some (2,.any,[(j,none),(i,some o)])) (h3:XW P G g (k+1) xs tl ((i,some o) :: (j,none) :: ol) Kf) (hx:Hg (some o)=true:=by rfl):XW P G g k (⟨none,gd,q⟩ :: xs) tl ol Kf:=Alc 2 _ _ (Gm h) h3 (by simp only [Eg,List.all_cons,List.all_nil,hx]; rfl)
theorem ds0 (v:AV) (h:Bd (g+k) ⟨some d,gd,q⟩ (Am tl) (only (rdX (Am tl) (Ah ol) ⟨some d,gd,q⟩) (Ah ol))=some (0,v,[])) (h3:XD P G bad g (k+1) xs ((d,v) :: tl) ol ((0,v,[]) :: ra) ((rdX (Am tl) (Ah ol) ⟨some d,gd,q⟩) :: da) Kf):XD P G bad g k (⟨some d,gd,q⟩ :: xs) tl ol ra da Kf:=Xr 0 v [] (Gm h) h3 rfl
theorem dsl (v:AV) (h:Bd (g+k) ⟨some d,gd,q⟩ (Am tl) (only (rdX (Am tl) (Ah ol) ⟨some d,gd,q⟩) (Ah ol))=some (1,v,[])) (h3:XD P G bad g (k+1) xs ((d,v) :: tl) ol ((1,v,[]) :: ra) ((rdX (Am tl) (Ah ol) ⟨some d,gd,q⟩) :: da) Kf):XD P G bad g k (⟨some d,gd,q⟩ :: xs) tl ol ra da Kf:=Xr 1 v [] (Gm h) h3 rfl
theorem ds1 (v:AV) (i:Oid) (o:Ob) (h:Bd (g+k) ⟨some d,gd,q⟩ (Am tl) (only (rdX (Am tl) (Ah ol) ⟨some d,gd,q⟩) (Ah ol))=some (1,v,[(i,some o)])) (h3:XD P G bad g (k+1) xs ((d,v) :: tl) ((i,some o) :: ol) ((1,v,[(i,some o)]) :: ra) ((rdX (Am tl) (Ah ol) ⟨some d,gd,q⟩) :: da) Kf) (hx:Hg (some o)=true:=by rfl):XD P G bad g k (⟨some d,gd,q⟩ :: xs) tl ol ra da Kf:=Xr 1 v _ (Gm h) h3 (by simp only [Eg,List.all_cons,List.all_nil,hx]; rfl)
theorem ds2 (v:AV) (j i:Oid) (o:Ob) (h:Bd (g+k) ⟨some d,gd,q⟩ (Am tl) (only (rdX (Am tl) (Ah ol) ⟨some d,gd,q⟩) (Ah ol))=some (2,v,[(j,none),(i,some o)])) (h3:XD P G bad g (k+1) xs ((d,v) :: tl) ((i,some o) :: (j,none) :: ol) ((2,v,[(j,none),(i,some o)]) :: ra) ((rdX (Am tl) (Ah ol) ⟨some d,gd,q⟩) :: da) Kf) (hx:Hg (some o)=true:=by rfl):XD P G bad g k (⟨some d,gd,q⟩ :: xs) tl ol ra da Kf:=Xr 2 v _ (Gm h) h3 (by simp only [Eg,List.all_cons,List.all_nil,hx]; rfl)
theorem Aa9 (j i:Oid) (o:Ob) (h:Bd (g+k) ⟨none,gd,q⟩ (Am tl) (only (rdX (Am tl) (Ah ol) ⟨none,gd,q⟩) (Ah ol))=some (2,.any,[(j,none),(i,some o)])) (h3:XD P G bad g (k+1) xs tl ((i,some o) :: (j,none) :: ol) ((2,.any,[(j,none),(i,some o)]) :: ra) ((rdX (Am tl) (Ah ol) ⟨none,gd,q⟩) :: da) Kf) (hx:Hg (some o)=true:=by rfl):XD P G bad g k (⟨none,gd,q⟩ :: xs) tl ol ra da Kf:=Al0 2 _ _ (Gm h) h3 (by simp only [Eg,List.all_cons,List.all_nil,hx]; rfl)
section
variable {fo:Opd} {ys:List Opd} {tys:List (List (Option Ty))} {F:FuncId} {caps:List AV} {rv:RV} {args0:List AV}
theorem Bq (v:AV) (us:List (Oid×Option Ob)) (zs args:List AV) (hgd:Qy gd (Am tl)) (h1:Ma (gnd (Ah ol) 8) zs=some args0) (hc:A7 P G F args rv) (hb:A9 P F=true) (h3:XW P G g (k+1) xs ((d,v) :: tl) (us.reverseAux ol) Kf) (hfo:fo.ev (Am tl)=.fn F caps:=by kernel_rfl) (hz:(ys++caps.map Opd.cst).map (Opd.ev (Am tl))=zs:=by kernel_rfl) (hn:N7 tys args0=args:=by kernel_rfl) (hr:rv.out (Dc ((d,0),g+k)) zs=(v,us):=by kernel_rfl) (hx:Eg us=true:=by rfl) (hni:rv.noI=true:=by kernel_rfl):XW P G g k (⟨some d,gd,.call fo ys tys⟩ :: xs) tl ol Kf:=by
 subst hz;exact Ye 1 v us (Afw (P:=P) (G:=G) (p:=false) (n:=g+k) (d:=some d) hgd hfo h1 hn hb hc hni hr) h3 hx
theorem Rv (v:AV) (us:List (Oid×Option Ob)) (zs args:List AV) (hgd:Qy gd (Am tl)) (h1:Ma (gnd (only (rdX (Am tl) (Ah ol) ⟨some d,gd,.call fo ys tys⟩) (Ah ol)) 8) zs=some args0) (hc:A7 P G F args rv) (hb:A9 P F=true) (h3:XD P G bad g (k+1) xs ((d,v) :: tl) (us.reverseAux ol) ((1,v,us) :: ra) ((rdX (Am tl) (Ah ol) ⟨some d,gd,.call fo ys tys⟩) :: da) Kf) (hfo:fo.ev (Am tl)=.fn F caps:=by kernel_rfl) (hz:(ys++caps.map Opd.cst).map (Opd.ev (Am tl))=zs:=by kernel_rfl) (hn:N7 tys args0=args:=by kernel_rfl) (hr:rv.out (Dc ((d,0),g+k)) zs=(v,us):=by kernel_rfl) (hx:Eg us=true:=by rfl) (hni:rv.noI=true:=by kernel_rfl):XD P G bad g k (⟨some d,gd,.call fo ys tys⟩ :: xs) tl ol ra da Kf:=by
 subst hz;exact Xr 1 v us (Afw (P:=P) (G:=G) (p:=false) (n:=g+k) (d:=some d) hgd hfo h1 hn hb hc hni hr) h3 hx
def Ae6 (l:List (Oid×Oid)) (ol us:List (Oid×Ob)) (n:Nat) (ol0:List (Oid×Option Ob)):Bool:=Mi l&&(Fa ol&&(Ajm (Bf l) ol&&(Ado ol us&&Kw n ol0)))
theorem Acm {l:List (Oid×Oid)} {ol us:List (Oid×Ob)} {n:Nat} {ol0:List (Oid×Option Ob)} (h:Ae6 l ol us n ol0=true) (hR:Yp ol0 (Bf l) ol) :
  (∀ q∈exL ol,Ah ol0 (Bf l q.1)=some (q.2.ren (Bf l)))∧(∀ q∈exL ol,∀ q'∈exL ol,Bf l q.1=Bf l q'.1->q.1=q'.1)∧(∀ q∈exL us,q.1.2=1∨(q.1.2=0∧q.1∈nmL ol))∧∀ i:Oid,i.2=n->Av (Ij (Bf l) i ol us) (Ah ol0)=Ah (Aq (Mk (Cs (Bf l) i) us)++(I8 (Bf l) ol++ol0)):=by
 simp only [Ae6,Bool.and_eq_true] at h;obtain ⟨c1,c2,c3,c4,c5⟩:=h;refine ⟨Z4 c1 hR (Abh c2),Air (fun p e u xss hm k=>Gz c1 ?_ k) c3 c2,Aab c4,fun i hi=>Aia c1 c2 hR c4 (by rw [hi]; exact c5) c3⟩;unfold Fa at c2;rw [List.all_eq_true] at c2;have:=c2 _ hm;simp only [Bool.and_eq_true,beq_iff_eq] at this;exact this.1
theorem Hf (v:AV) (ul:List (Oid×Option Ob)) (l:List (Oid×Oid)) (zs:List AV) {args:List AV} {ol0 us:List (Oid×Ob)} {v0:AV} (hgd:Qy gd (Am tl)) (hc:G7 P G F args ol0 v0 us) (hb:A9 P F=true) (hR:Yp ol (Bf l) ol0) (h1:Oa (Bf l) (Wc ((nmL ol0).map (Bf l)) (Ah ol)) zs args) (h4:∀ j∈nmL ol0,Reached zs (Ah ol) (Bf l j)) (h3:XW P G g (k+1) xs ((d,v) :: tl) (ul++ol) Kf) (hfo:fo.ev (Am tl)=.fn F caps:=by kernel_rfl) (hz:(ys++caps.map Opd.cst).map (Opd.ev (Am tl))=zs:=by kernel_rfl) (hB:Ae6 l ol0 us (g+k) ol=true:=by kernel_rfl) (hv:v0.ren (Cs (Bf l) ((d,0),g+k))=v:=by kernel_rfl) (hu:Aq (Mk (Cs (Bf l) ((d,0),g+k)) us)++I8 (Bf l) ol0=ul:=by kernel_rfl):XW P G g k (⟨some d,gd,.call fo ys tys⟩ :: xs) tl ol Kf:=by
 subst hv hu;obtain ⟨q1,q2,q3,q4⟩:=Acm hB hR;exact Adj 2 _ _ _ (Ae9 (n:=g+k) (d:=some d) (Bf l) hgd hfo hz h1 q1 q2 h4 q3 hb hc) (q4 ((d,0),g+k) rfl) (by rw [List.append_assoc] at h3; exact h3)
theorem Vu (v:AV) (ul:List (Oid×Option Ob)) (l:List (Oid×Oid)) (zs:List AV) {args:List AV} {ol0 us:List (Oid×Ob)} {v0:AV} (hgd:Qy gd (Am tl)) (hc:G7 P G F args ol0 v0 us) (hb:A9 P F=true) (hR:Yp ol (Bf l) ol0) (h1:Oa (Bf l) (Wc ((nmL ol0).map (Bf l)) (only (rdX (Am tl) (Ah ol) ⟨some d,gd,.call fo ys tys⟩) (Ah ol))) zs args) (h4:∀ j∈nmL ol0,Reached zs (only (rdX (Am tl) (Ah ol) ⟨some d,gd,.call fo ys tys⟩) (Ah ol)) (Bf l j)) (hd:∀ q∈exL ol0,Bf l q.1∈rdX (Am tl) (Ah ol) ⟨some d,gd,.call fo ys tys⟩) (h3:XD P G bad g (k+1) xs ((d,v) :: tl) (ul++ol) ((2,v,Ij (Bf l) ((d,0),g+k) ol0 us) :: ra) ((rdX (Am tl) (Ah ol) ⟨some d,gd,.call fo ys tys⟩) :: da) Kf) (hfo:fo.ev (Am tl)=.fn F caps:=by kernel_rfl) (hz:(ys++caps.map Opd.cst).map (Opd.ev (Am tl))=zs:=by kernel_rfl) (hB:Ae6 l ol0 us (g+k) ol=true:=by kernel_rfl) (hv:v0.ren (Cs (Bf l) ((d,0),g+k))=v:=by kernel_rfl) (hu:Aq (Mk (Cs (Bf l) ((d,0),g+k)) us)++I8 (Bf l) ol0=ul:=by kernel_rfl):XD P G bad g k (⟨some d,gd,.call fo ys tys⟩ :: xs) tl ol ra da Kf:=by
 subst hv hu;obtain ⟨q1,q2,q3,q4⟩:=Acm hB hR;exact Ain 2 _ _ _ (Ae9 (n:=g+k) (d:=some d) (Bf l) hgd hfo hz h1 (fun q hq=>by unfold only; rw [if_pos (hd q hq)]; exact q1 q hq) q2 h4 q3 hb hc) (q4 ((d,0),g+k) rfl) (by rw [List.append_assoc] at h3; exact h3)
end
end
-- what arguments read as
theorem Ba {g:AV->Option AV}:Ma g []=some []:=rfl
theorem Ao {g:AV->Option AV} {c d:AV} {cs ds:List AV} (h:g c=some d) (hs:Ma g cs=some ds):Ma g (c :: cs)=some (d :: ds):=by simp only [Ma,h,hs]
section
variable {ob:Oid->Option Ob} {n:Nat}
theorem Bj {i:Oid} {t u:Ty} {e:TypeId} {xs:List u.D} {len:Nat} (h:ob i=some (.arr e u xs)) (hl:len=xs.length):gnd ob (n+1) (.own i t 0 len)=some (.tree u xs):=by
 subst hl;simp only [gnd,h,Nat.zero_add,Nat.le_refl,if_true,List.drop_zero,List.take_length]
theorem Ald {i:Oid} {t u:Ty} {e:TypeId} {xs ys:List u.D} {off len:Nat} (h:ob i=some (.arr e u xs)) (hl:off+len<=xs.length) (hy:ys=(xs.drop off).take len):gnd ob (n+1) (.own i t off len)=some (.tree u ys):=by
 subst hy;simp only [gnd,h,if_pos hl]
theorem F1 {cs ds:List AV} (h:Ma (gnd ob n) cs=some ds):gnd ob (n+1) (.agg cs)=some (.agg ds):=by simp only [gnd,h,Option.map_some]
end
-- steps that hang on something
section
variable {n:Nat} {d:Option Nat} {f:Nat->AV} {ob:Oid->Option Ob}
theorem Js {s:Nat} {b c:Bool} {q:Q} {r:Option Rec} (hs:f s=.bool c) (hc:c=b) (h:Bd n ⟨d,none,q⟩ f ob=r):Bd n ⟨d,some (s,b),q⟩ f ob=r:=by
 subst hc;simp only [Bd,hs,gdv,beq_self_eq_true]; exact h
theorem Ala {s:Nat} {b c:Bool} {q:Q} (hs:f s=.bool c) (hc:c= !b):Bd n ⟨d,some (s,b),q⟩ f ob=some (0,.tup [],[]):=by
 subst hc;cases b <;> simp [Bd,hs,gdv]
theorem E9 {s:Nat} {b:Bool} {q:Q} (hs:f s=.tup []):Bd n ⟨d,some (s,b),q⟩ f ob=some (0,.tup [],[]):=by
 simp [Bd,hs,gdv]
theorem Ajd {c x y:Opd} {b:Bool} (h:c.ev f=.bool b) (hb:b=true):Bd n ⟨d,none,.i (.pick c x y)⟩ f ob=some (0,x.ev f,[]):=by
 subst hb; simp [Bd,ev,evN,h]
theorem Ajk {c x y:Opd} {b:Bool} (h:c.ev f=.bool b) (hb:b=false):Bd n ⟨d,none,.i (.pick c x y)⟩ f ob=some (0,y.ev f,[]):=by
 subst hb; simp [Bd,ev,evN,h]
theorem Ad3 {sz:Nat} {x i:Opd} {t:Ty} {xs:List t.D} {y:t.D} {k:IntKind} {m:Int} {j:Nat} (hx:(x.ev f).un=.tree t xs) (hi:i.ev f=.int k m) (hs:sz=t.size) (h0:0<=m) (hj:m.toNat=j) (hy:xs[j]? =some y) {g:Option (Nat->Prop)} (hg:(x.ev f).tag=g:=by kernel_rfl):Bd n ⟨d,none,.i (.idx sz x i)⟩ f ob=some (0,.telt g t y 0,[]):=by
 subst hs hj hg;simp [Bd,ev,evN,hx,hi,h0,hy]
theorem Ac2 {sz:Nat} {x i:Opd} {t:Ty} {o:Oid} {len:Nat} {k:IntKind} {m:Int} {j:Nat} (hx:x.ev f=.own o t 0 len) (hi:i.ev f=.int k m) (hs:sz=t.size) (h0:0<=m) (hj:m.toNat=j) (hl:j<len):Bd n ⟨d,none,.i (.idx sz x i)⟩ f ob=some (0,.elt o j 0,[]):=by
 subst hs hj;have:m<(len:Int):=by omega
 simp [Bd,ev,evN,hx,hi,h0,AV.un,this]
theorem O4 {one:Bool} {m:Nat} {x:Opd} {i:Oid} {j k:Nat} {e:TypeId} {t:Ty} {xs:List t.D} {y:t.D} {c:AV} (hx:x.ev f=.elt i j k) (hob:ob i=some (.arr e t xs)) (hy:xs[j]? =some y) (hc:Dq one m k (t.av y)=some c):Bd n ⟨d,none,.i (.ld one m x)⟩ f ob=some (1,c,[]):=by
 simp [Bd,ev,evN,evR,hx,hob,hy,hc]
theorem Aa4 {one:Bool} {m:Nat} {x y:Opd} {i:Oid} {j k:Nat} {e:TypeId} {t:Ty} {xs:List t.D} {x0 x1:t.D} {cs:List AV} (hx:x.ev f=.elt i j k) (hob:ob i=some (.arr e t xs)) (hy:xs[j]? =some x0) (hc:Jt one m k (t.av x0) (y.ev f)=some cs) (hd:t.ofAV cs=some x1):Bd n ⟨d,none,.st one m x y⟩ f ob=some (2,.any,[(i,none),(i,some (.arr e t (xs.set j x1)))]):=by
 simp [Bd,ev,Z0,hx,hob,hy,hc,hd]
theorem Zw {e:TypeId} {t:Ty} {by_:Nat} {l c:Opd} {k k':IntKind} {m m':Int} {j:Nat} (hl:l.ev f=.int k m) (hc:c.ev f=.int k' m') (h:0<=m∧m<=m'∧m'<=1073741824∧(by_:Int)*m'<=140737488355328) (hj:m.toNat=j):Bd n ⟨d,none,.make e t by_ l c⟩ f ob=some (1,.own ((d.getD 0,0),n) t 0 j,[(((d.getD 0,0),n),some (.arr e t (List.replicate j t.dflt)))]):=by
 subst hj;simp only [Bd,ev,T6,hl,hc,if_pos h]
theorem Ac8 {t t':Ty} {i:Oid} {e:TypeId} {xs:List t.D} {len:Nat} (h:ob i=some (.arr e t xs)) (hl:len=xs.length):Fb ob t (.own i t' 0 len)=some xs:=by
 subst hl;simp only [Fb,h,Nat.zero_add,Nat.le_refl,if_true,Ty.eq?_self,D2,List.drop_zero,List.take_length]
theorem Tc {t:Ty} {xs:List t.D}:Fb ob t (.tree t xs)=some xs:=by simp only [Fb,Ty.eq?_self,D2]
theorem Ok {e:TypeId} {t t':Ty} {by_:Nat} {x y:Opd} {c:AV} {ys xs zs:List t.D} {j:Oid} {len:Nat} (hx:x.ev f=.own j t' 0 len) (hob:ob j=some (.arr e t xs)) (hl:len=xs.length) (hy:y.ev f=c) (hs:Fb ob t c=some ys) (hz:zs=xs++ys) (h:xs.length+ys.length<=1073741824∧(xs.length+ys.length)*by_<=140737488355328) :
  Bd n ⟨d,none,.append e t by_ x y⟩ f ob=some (2,.own (j.1,n) t 0 zs.length,[(j,none),((j.1,n),some (.arr e t zs))]):=by
 subst hl hz;simp only [Bd,ev,Hl,hx,hy,hs,hob,Ty.eq?_self,Nat.le_refl,true_and,h.1,h.2,and_self,if_true,D2,List.take_length,List.length_append]
theorem Abi {sz:Nat} {x:Opd} {lo hi mx:Option Opd} {t:Ty} {xs zs:List t.D} {l h m:Int} (hx:(x.ev f).un=.tree t xs) (hl:Dr f 0 lo=some l) (hh:Dr f xs.length hi=some h) (hm:Dr f xs.length mx=some m) (hs:t.size=sz) (hb:0<=l∧l<=h∧h<=m∧m<=xs.length) (hz:(xs.take h.toNat).drop l.toNat=zs) (htag:(x.ev f).tag=none:=by kernel_rfl) :
  Bd n ⟨d,none,.slice sz x lo hi mx⟩ f ob=some (0,.tree t zs,[]):=by
 subst hs hz;simp only [Bd,ev,O7,hx,htag,trM,hl,hh,hm,true_and,hb.1,hb.2.1,hb.2.2.1,hb.2.2.2,and_self,if_true]
theorem Ab1 {sz:Nat} {x:Opd} {lo hi:Option Opd} {t:Ty} {i:Oid} {off len o' j:Nat} {l h:Int} (hx:x.ev f=.own i t off len) (hl:Dr f 0 lo=some l) (hh:Dr f len hi=some h) (hs:t.size=sz) (hb:0<=l∧l<=h∧h<=len) (ho:off+l.toNat=o') (hj:(h - l).toNat=j) :
  Bd n ⟨d,none,.slice sz x lo hi none⟩ f ob=some (0,.own i t o' j,[]):=by
 subst hs ho hj;simp only [Bd,ev,O7,hx,AV.un,hl,hh,true_and,hb.1,hb.2.1,hb.2.2,and_self,if_true]
theorem Alr {x y:Opd} {j:Nat} (hx:x.ev f=.int .i64 j) (hy:y.ev f=.int .i64 1) (h:j+1<4611686018427387904):Bd n ⟨d,none,.i (.bin .add x y)⟩ f ob=some (0,.int .i64 ((j+1:Nat):Int),[]):=by
 have:IntKind.i64.wrap ((j:Int)+1)=((j+1:Nat):Int):=by rw [Go.IntWalk.i64_in _ (by omega)]; rfl
 simp [Bd,ev,evN,Ub,hx,hy,this]
theorem Al7 {x y:Opd} {k:IntKind} {a b:Int} (hx:x.ev f=.int k a) (hy:y.ev f=.int k b) (h:b≠0):Bd n ⟨d,none,.i (.bin .quo x y)⟩ f ob=some (0,.int k (k.wrap (a.tdiv b)),[]):=by
 simp [Bd,ev,evN,Ub,hx,hy,h]
theorem P8 {x y:Opd} {k:IntKind} {a b:Int} (hx:x.ev f=.int k a) (hy:y.ev f=.int k b) (h:b≠0):Bd n ⟨d,none,.i (.bin .rem x y)⟩ f ob=some (0,.int k (a.tmod b),[]):=by
 simp [Bd,ev,evN,Ub,hx,hy,h]
end
theorem Ag {c:Opd} {x y:AC} {R:AE->St->Prop} {S:St} {t:Bool} (ht:t=true) (h1:awp P G x R S) (h:c.ev S.tm=.bool t:=by kernel_rfl):awp P G (.cond c x y) R S:=by
 subst ht; exact .inl ⟨true,h,fun _=>h1,fun h=>(nomatch h)⟩
theorem Af {c:Opd} {x y:AC} {R:AE->St->Prop} {S:St} {t:Bool} (ht:t=false) (h2:awp P G y R S) (h:c.ev S.tm=.bool t:=by kernel_rfl):awp P G (.cond c x y) R S:=by
 subst ht; exact .inl ⟨false,h,fun h=>(nomatch h),fun _=>h2⟩
theorem Aj {i:Nat} {a:AC} {R:AE->St->Prop} {S:St} (h:awp P G a (Hd i R) S):awp P G (.block i a) R S:=h
theorem Agx {a:AC} {R:AE->St->Prop} {S:St} {α:Type} (I:α->St->Prop) (μ:α->Nat) (h0:∃ s S0,WeakG G S S0∧I s S0) (h1:∀ s S1,I s S1->awp P G a (Is (fun S2=>∃ s' S3,WeakG G S2 S3∧I s' S3∧μ s'<μ s) R) S1):awp P G (.loop a) R S:=⟨α,I,μ,h0,h1⟩
theorem Az {i:Nat} {R:AE->St->Prop} {S:St} (h:R (.exit i) S):awp P G (.exit i) R S:=h
theorem Ak {R:AE->St->Prop} {S:St} (h:R .normal S):awp P G .skip R S:=h
theorem Al {R:AE->St->Prop} {S:St} (h:R .ret S):awp P G .ret R S:=h
end
section
variable {K:St->Prop} {R:AE->St->Prop} {S:St} {i j:Nat}
theorem tn_ (h:K S):Is K R .normal S:=h
theorem te_ (h:R (.exit i) S):Is K R (.exit i) S:=h
theorem tr_ (h:R .ret S):Is K R .ret S:=h
theorem bn_ (h:R .normal S):Hd i R .normal S:=h
theorem be_ (h:R .normal S):Hd i R (.exit i) S:=by simpa [Hd] using h
theorem br_ (h:R .ret S):Hd i R .ret S:=h
end
def tmL:Nat->List AV->List (Nat×AV)
 | _,[]=>[]
 | k,v :: r=>(k,v) :: tmL (k+1) r
theorem Acj:∀ (l:List AV) (k i:Nat),Am (tmL k l) (k+i)=l.getD i .any
 | [],k,i=>by simp [tmL,Am]
 | v :: r,k,i=>by
  cases i with
  | zero=>simp [tmL,Am]
  | succ i =>
   have:=Acj r (k+1) i;simp only [tmL,Am];rw [if_neg (by omega),show k+(i+1)=k+1+i by omega,this];simp
theorem Afx (args:List AV):(fun i=>args.getD i .any)=Am (tmL 0 args):=by
 funext i;have:=Acj args 0 i;rw [Nat.zero_add] at this;exact this.symm
theorem St.init_eq (args:List AV):St.init args=⟨Am (tmL 0 args),Ah [],1⟩:=by
 unfold St.init;rw [Afx];rfl
theorem Il {G:World->Prop} {tl:List (Nat×AV)} {ol:List (Oid×Option Ob)} {g:Nat} (s:Nat) (e:TypeId) (t:Ty) (ht:t.flat=true) (hs:Am tl s=.nils):WeakG G ⟨Am tl,Ah ol,g⟩ ⟨Am ((s,.own ((s,0),g) t 0 0) :: tl),Ah ((((s,0),g),some (.arr e t [])) :: ol),g+1⟩:=by
 have:=Aih (G:=G) (S:=⟨Am tl,Ah ol,g⟩) s e t ht hs;rw [Mw] at this;have e2:upd (Ah ol) ((s,0),g) (some (.arr e t []))=Ah ((((s,0),g),some (.arr e t [])) :: ol):=Hz rfl;rw [e2] at this;exact this
theorem Br {G:World->Prop} {tl:List (Nat×AV)} {ol:List (Oid×Option Ob)} {g:Nat} (s:Nat) (v v':AV) (h:Am tl s=v) (e:v=v'):WeakG G ⟨Am tl,Ah ol,g⟩ ⟨Am ((s,v') :: tl),Ah ol,g⟩:=by
 subst e
 have:Am ((s,v) :: tl)=Am tl:=by
  funext i;simp only [Am];split
  ·rename_i e; rw [e]; exact h.symm
  ·rfl
 rw [this]; exact WeakG.refl _
theorem Ms {G:World->Prop} {tl:List (Nat×AV)} {ol:List (Oid×Option Ob)} {g:Nat} (j:Oid) (o o':Ob) (h:Ah ol j=some o) (e:o=o') (hx:Hg (some o)=true:=by rfl):WeakG G ⟨Am tl,Ah ol,g⟩ ⟨Am tl,Ah ((j,some o') :: ol),g⟩:=by
 subst e
 have:Ah ((j,some o) :: ol)=Ah ol:=by
  rw [← Hz hx,Ahp _ _ _ h]
 rw [this]; exact WeakG.refl _
theorem Ol {G:World->Prop} {tl:List (Nat×AV)} {ol:List (Oid×Option Ob)} {g:Nat} (s:Nat) (e:TypeId) (t:Ty) (hs:Am tl s=.nils):WeakG G ⟨Am tl,Ah ol,g⟩ ⟨Am ((s,.own ((s,0),g) t 0 0) :: tl),Ah ((((s,0),g),some (.vec e 1 0 [])) :: ol),g+1⟩:=by
 have:=Agd (G:=G) (S:=⟨Am tl,Ah ol,g⟩) s e t hs;rw [Mw] at this;have e2:upd (Ah ol) ((s,0),g) (some (.vec e 1 0 []))=Ah ((((s,0),g),some (.vec e 1 0 [])) :: ol):=Hz rfl;rw [e2] at this;exact this
theorem C6 {G:World->Prop} {tl:List (Nat×AV)} {ol:List (Oid×Option Ob)} {g:Nat} (s:Nat) (c:Oid) (k:Nat) (ty:TypeId) (cs ds:List AV) (e:TypeId) (t:Ty) (hb:Ah ol c=some (.cells ty cs)) (hk:cs[k]? =some .nils) (hd:cs.set k (.own ((s,0),g) t 0 0)=ds) :
  WeakG G ⟨Am tl,Ah ol,g⟩ ⟨Am tl,Ah ((c,some (.cells ty ds)) :: (((s,0),g),some (.vec e 1 0 [])) :: ol),g+1⟩:=by
 subst hd;have:=Vh (G:=G) (S:=⟨Am tl,Ah ol,g⟩) s c k ty cs e t hb hk;have e2:upd (upd (Ah ol) ((s,0),g) (some (.vec e 1 0 []))) c (some (.cells ty (cs.set k (.own ((s,0),g) t 0 0))))=Ah ((c,some (.cells ty (cs.set k (.own ((s,0),g) t 0 0)))) :: (((s,0),g),some (.vec e 1 0 [])) :: ol):=by rw [Hz rfl,Hz rfl]
 rw [← e2];exact this
def Ak1 (ol us:List (Oid×Ob)) (args:List AV) (v:AV):Bool :=
 (Fa ol&&(Fa us&&((ol.all fun q=>q.1.2==0)&&((us.all fun q=>q.1.2==1||(!q.2.isPool&&(Bo ol).contains q.1))&&(ndB (Bo us)&&ndB (Bt us))))))&&((ol.all fun q=>q.2.clo1 (Bo ol))&&((us.all fun q=>q.2.hp1 (Bo us))&&(AV.cloL (Bo ol) args&&AV.hpB (Bo us) v)))
def Zo (ol:List (Oid×Ob)):List (Oid×Ob)->Prop
 | []=>True
 | q :: r=>(match q.2 with
  | .mat _ p u xss=>∃ e,(p,Ob.pool e u xss)∈ol
  | _=>True)∧Zo ol r
theorem O0 {ol:List (Oid×Ob)}:∀ {l:List (Oid×Ob)},Zo ol l->∀ i e p u xss,(i,Ob.mat e p u xss)∈l->∃ e,(p,Ob.pool e u xss)∈ol
 | _ :: _,h,i,e,p,u,xss,hm=>by
  rcases List.mem_cons.1 hm with rfl | hm
  ·exact h.1
  ·exact O0 h.2 i e p u xss hm
theorem Ae4 {ol:List (Oid×Ob)} {p:Oid} {e:TypeId} {u:Ty} {xss:List (List u.D)}:(p,Ob.pool e u xss)∈ol->∀ k,k<xss.length->kid p k∈nmL ol:=by
 induction ol with
 | nil=>intro h; cases h
 | cons x r ih =>
  obtain ⟨x1,x2⟩:=x;intro h k hk;rcases List.mem_cons.1 h with h | h
  ·cases h;simp only [nmL,exL,List.map_append,List.mem_append];refine .inl (List.mem_map.2 ⟨(kid p k,.arr e u xss[k]),List.mem_map.2 ⟨(xss[k],k),?_,rfl⟩,rfl⟩);rw [List.mem_zipIdx_iff_getElem?]; exact gEg hk
  ·have:=ih h k hk;cases x2 <;> simp only [nmL,exL,List.map_cons,List.map_append] at this⊢ <;> first | exact List.mem_cons_of_mem _ this | exact List.mem_append_right _ this
theorem Mc {ol:List (Oid×Ob)} {i:Oid} (h:i∈Bo ol):i∈nmL ol:=by
 obtain ⟨o,ho,hp⟩:=Ag7 h;exact List.mem_map.2 ⟨_,S9 ho hp,rfl⟩
theorem All {D:Oid->Prop} {p:Oid} {u:Ty} (xss:List (List u.D)) (h:∀ k,k<xss.length->D (kid p k)):AV.hpL D (hdL p u xss):=by
 have key:∀ l:List (List u.D×Nat),(∀ x∈l,D (kid p x.2))->AV.hpL D (l.map fun x=>.own (kid p x.2) u 0 x.1.length):=by
  intro l
  induction l with
  | nil=>intro _; trivial
  | cons x l ih=>intro h; exact ⟨h x (by simp),ih fun y hy=>h y (by simp [hy])⟩
 refine key _ fun x hx=>h _ ?_
 obtain ⟨row,k⟩:=x;rw [List.mem_zipIdx_iff_getElem?] at hx;exact (gSi.1 hx).1
theorem Aly {D:List Oid} (o:Ob) (h:o.clo1 D=true) (hp:o.isPool=false) (hm:∀ e p u xss,o≠.mat e p u xss):o.exp.cloP (·∈D):=by
 cases o with
 | cells _ cs=>exact AV.cloPL_of cs h
 | vec _ _ _ cs=>exact AV.cloPL_of cs h
 | mat e p u xss=>exact absurd rfl (hm _ _ _ _)
 | arr _ _ _=>trivial
 | map _ _ _=>trivial
 | pool _ _ _=>cases hp
 | tv e m t xs=>exact Aeq xs
theorem Ama {D:List Oid} (o:Ob) (h:o.hp1 D=true) (hp:o.isPool=false) (hm:∀ e p u xss,o≠.mat e p u xss):o.exp.hp (·∈D):=by
 cases o with
 | cells _ cs=>exact AV.hpB_PL cs h
 | vec _ _ _ cs=>exact AV.hpB_PL cs h
 | mat e p u xss=>exact absurd rfl (hm _ _ _ _)
 | arr _ _ _=>trivial
 | map _ _ _=>trivial
 | pool _ _ _=>cases hp
 | tv e m t xs=>cases h
theorem cloP_mono {D E:Oid->Prop} (hd:∀ i,D i->E i) (o:Ob) (h:o.cloP D):o.cloP E:=by
 cases o <;> first | exact AV.cloPL_mono hd _ h | exact h
theorem hp_mono {D E:Oid->Prop} (hd:∀ i,D i->E i) (o:Ob) (h:o.hp D):o.hp E:=by
 cases o <;> first | exact AV.hpL_mono hd _ h | exact h
section
variable {P:Program} {G:World->Prop} (hfol:P.follows .mixedOrders=true) {g:FuncId} {fn:Func} (hf:P.funcs[g]? =some fn) {ac:AC} {rs:List Res} (hc:At P fn=some (ac,rs)) {args:List AV} {r:RV} {n:Nat} (hN:fn.ntmps=n) (hn:args.length<=n)
include hfol hf hc hN hn
theorem A3 [IsP P] {tl:List (Nat×AV)} (htl:tmL 0 args=tl) (h:awp P G ac (fun e S=>∃ S',WeakG G S S'∧(e=.normal∨e=.ret)∧RetOK [] rs S' r) ⟨Am tl,Ah [],1⟩):A7 P G g args r:=by
 refine Ajw hfol hf hc hN hn ?_;rw [St.init_eq,htl];exact h
theorem Adk [IsP P] (h:∀ (im:Nat->Prop) (w:World) (vs:List Value),AV.RepL (fun _=>none) im w args vs->awp P G ac (fun e S=>∃ S',WeakG G S S'∧(e=.normal∨e=.ret)∧RetOK vs rs S' r) ⟨Am (tmL 0 (Wd args vs)),Ah [],1⟩):A7 P G g args r:=by
 refine Agh hfol hf hc hN hn fun im w vs hr=>?_
 rw [St.init_eq];exact h im w vs hr
omit hN hn in
theorem Eb [IsP P] (hN:fn.ntmps=n) (hn:args.length<=n) {tl:List (Nat×AV)} (htl:tmL 0 args=tl) {ol us:List (Oid×Ob)} {v:AV} (hB:Ak1 ol us args v=true) (hm1:Zo ol ol) (hm2:Zo us us)
  (h:awp P G ac (fun e S=>∃ S',WeakG G S S'∧(e=.normal∨e=.ret)∧(∃ rvs,Res.evL S'.tm S'.ob rs=some rvs∧v=Aby rvs)∧∀ q∈exL us,S'.ob q.1=some q.2) ⟨Am tl,Ah (Aq ol),1⟩):G7 P G g args ol v us:=by
 simp only [Ak1,Bool.and_eq_true] at hB;obtain ⟨⟨a1,a2,a3,a4,a5,a6⟩,b1,b2,b3,b4⟩:=hB;rw [List.all_eq_true] at a3 a4 b1 b2
 have h0:∀ {l:List (Oid×Ob)},Fa l=true->∀ q∈l,q.1.1.2=0:=fun h q hq=>by
  unfold Fa at h;rw [List.all_eq_true] at h;have:=h q hq;simp only [Bool.and_eq_true,beq_iff_eq] at this;exact this.1
 refine Ai0 hfol hf hc hN hn (fun q hq=>?_) (Ak4 (E0 a5) (E0 a6) (h0 a2)) (fun q hq=>?_) (AV.cloPL_mono (fun i hi=>Mc hi) _ (AV.cloPL_of args b3)) (AV.hp_mono (fun i hi=>Mc hi) _ (AV.hpB_P v b4)) ?_
 ·rcases Fx hq with ⟨p,e,u,xss,k,row,m1,m2,rfl⟩ | ⟨o,m1,m2,m3⟩
  ·have:=a3 _ m1;rw [beq_iff_eq] at this;exact ⟨this,trivial⟩
  ·have:=a3 _ m1;refine ⟨by simpa using this,?_⟩;rw [m3];by_cases hmt:∃ e p u xss,o=.mat e p u xss
   ·obtain ⟨e,p,u,xss,rfl⟩:=hmt;obtain ⟨e',hp⟩:=O0 hm1 _ _ _ _ _ m1;exact Aic xss fun k hk=>Ae4 hp k hk
   ·exact cloP_mono (fun i hi=>Mc hi) _ (Aly o (b1 _ m1) m2 fun e p u xss h=>hmt ⟨e,p,u,xss,h⟩)
 ·rcases Fx hq with ⟨p,e,u,xss,k,row,m1,m2,rfl⟩ | ⟨o,m1,m2,m3⟩
  ·have:=a4 _ m1;simp only [Ob.isPool,Bool.not_true,Bool.false_and,Bool.or_false,beq_iff_eq] at this;exact ⟨.inl this,.inl trivial⟩
  ·have:=a4 _ m1;simp only [Bool.or_eq_true,Bool.and_eq_true,beq_iff_eq] at this;refine ⟨this.imp id fun h=>Mc (List.contains_iff_mem.1 h.2),.inl ?_⟩;rw [m3];by_cases hmt:∃ e p u xss,o=.mat e p u xss
   ·obtain ⟨e,p,u,xss,rfl⟩:=hmt;obtain ⟨e',hp⟩:=O0 hm2 _ _ _ _ _ m1;exact All xss fun k hk=>Ae4 hp k hk
   ·exact hp_mono (fun i hi=>Mc hi) _ (Ama o (b2 _ m1) m2 fun e p u xss h=>hmt ⟨e,p,u,xss,h⟩)
 ·rw [Afx,htl];exact h
end
theorem Bh {G:World->Prop} {rs:List Res} {f:Nat->AV} {ob:Oid->Option Ob} {g:Nat} {r:RV} (avs:List AV) {vs:List Value} {e:AE} (h2:PartsR vs ob avs r.ps) (he:e=.normal∨e=.ret:=by simp) (h1:Res.evL f ob rs=some avs:=by kernel_rfl) (h3:ndB (W1 ob (O5 avs))=true:=by kernel_rfl) (h4:r.tup=decide (rs.length≠1):=by kernel_rfl):∃ S',WeakG G ⟨f,ob,g⟩ S'∧(e=.normal∨e=.ret)∧RetOK vs rs S' r :=
 ⟨_,WeakG.refl _,he,avs,r.ps,h1,h2,E0 h3,by cases r; cases h4; rfl⟩
theorem H7 {G:World->Prop} {rs:List Res} {S:St} {tl:List (Nat×AV)} {g:Nat} {v:AV} {us:List (Oid×Ob)} {e:AE} (rvs:List AV) (hw:WeakG G S ⟨Am tl,Ah (Aq us),g⟩) (he:e=.normal∨e=.ret:=by simp) (h1:Res.evL (Am tl) (Ah (Aq us)) rs=some rvs:=by kernel_rfl) (hv:v=Aby rvs:=by kernel_rfl) (h2:(Fa us&&(ndB (Bo us)&&ndB (Bt us)))=true:=by kernel_rfl) :
  ∃ S',WeakG G S S'∧(e=.normal∨e=.ret)∧(∃ rvs,Res.evL S'.tm S'.ob rs=some rvs∧v=Aby rvs)∧∀ q∈exL us,S'.ob q.1=some q.2:=by
 refine ⟨_,hw,he,⟨rvs,h1,hv⟩,fun q hq=>?_⟩;simp only [Bool.and_eq_true] at h2;obtain ⟨a1,a2,a3⟩:=h2
 have h0:∀ q∈us,q.1.1.2=0:=fun q hq=>by
  unfold Fa at a1;rw [List.all_eq_true] at a1;have:=a1 q hq;simp only [Bool.and_eq_true,beq_iff_eq] at this;exact this.1
 have:=Ld (rest:=[]) (E0 a2) (E0 a3) (fun p hp=>by obtain ⟨e,u,xss,hm⟩:=Alj hp; exact h0 _ hm) (fun i hi p hp k e=>by
  obtain ⟨o,ho,_⟩:=Ag7 hi;have:=h0 _ ho;rw [e] at this;simp [kid] at this) q hq
 rwa [List.append_nil] at this
section
variable {vs:List Value} {ob:Oid->Option Ob}
theorem A5 {c:AV} {r:List AV} {l:RL} {ps:List (Bool×List RL)} (hc:c.one=true) (h1:LeafR vs ob c l) (h2:PartsR vs ob r ps):PartsR vs ob (c :: r) ((false,[l]) :: ps):=by
 rw [Li (by rintro ⟨_,rfl⟩; cases hc)];exact ⟨l,ps,rfl,h1,h2⟩
theorem A4:PartsR vs ob [] []:=rfl
theorem Amj {c:AV} {l:RL} (h:Oq ob c=some l):LeafR vs ob c l:=.inl (.inl h)
theorem Md {i:Oid} {t u:Ty} {e:TypeId} {xs:List u.D} {len:Nat} (h:ob i=some (.arr e u xs)) (hl:len=xs.length):LeafR vs ob (.own i t 0 len) (.new e u xs):=by
 subst hl;exact .inl (.inl (by simp only [Oq,h,Nat.le_refl,and_self,if_true,List.take_length]))
theorem Amg {v:Value} {t:Ty} {xs:List t.D} {i:Nat} {k:Option Nat} (h:Uw vs i k=some v):LeafR vs ob (.giv v t xs) (.arg i k):=.inl (.inr (.inl ⟨v,t,xs,i,k,rfl,rfl,h⟩))
end
end Go.Proofs.YtjnaikadmjocbaaDoor
namespace Go.Proofs.YtjnaikadmjocbaaDoor
open Go.RowKit Go.Deep
abbrev tm (n:Nat):Opd:=.tmp n
abbrev cb (b:Bool):Opd:=.cst (.bool b)
abbrev ci (n:Int):Opd:=.cst (.int .i64 n)
abbrev xo (d:Nat) (q:Q):X:=⟨some d,none,q⟩
abbrev xn (q:Q):X:=⟨none,none,q⟩
abbrev qm (x:Opd):Q:=.i (.mov x)
abbrev ql (x:Opd):Q:=.i (.ld true 1 x)
abbrev qs (x y:Opd):Q:=.st true 1 x y
abbrev qf (k:Nat) (x:Opd):Q:=.i (.fld k x)
abbrev qb (o:BinOp) (x y:Opd):Q:=.i (.bin o x y)
abbrev qx (sz:Nat) (x y:Opd):Q:=.i (.idx sz x y)
abbrev qc (f:FuncId) (xs:List Opd) (tys:List (List (Option Ty))):Q:=.call (.cst (.fn f [])) xs tys
abbrev rg (xs:List X):AC:=.region xs false []
abbrev ai (n:Int):AV:=.int .i64 n
abbrev oi (a b:Nat):Oid:=((a,0),b)
def Aj4 (d:Option Nat) (v:AV) (tl:List (Nat×AV)):List (Nat×AV) :=
 match d with
 | some d=>(d,v) :: tl
 | none=>tl
theorem Ai5 (d:Option Nat) (v:AV) (tl:List (Nat×AV)):I9 d v (Am tl)=Am (Aj4 d v tl):=by
 cases d with
 | none=>rfl
 | some d=>simp only [I9,Aj4,Mw]
noncomputable def Yr (g:Nat):Nat->Nat->List X->List (Nat×AV)->List (Oid×Option Ob)->Option (List (Nat×AV)×List (Oid×Option Ob))
 | 0,_,_,tl,ol=>some (tl,ol)
 | _+1,_,[],_,_=>none
 | n+1,k,x :: xs,tl,ol=>match Bd (g+k) x (Am tl) (Ah ol) with
  | some (_,v,us)=>if Eg us then Yr g n (k+1) xs (Aj4 x.dst v tl) (us.reverseAux ol) else none
  | none=>none
noncomputable def Ab5 (g:Nat):Nat->Nat->List X->List (Nat×AV)->List (Oid×Option Ob)->List Rec->List (List Oid)->Option (List (Nat×AV)×List (Oid×Option Ob)×List Rec×List (List Oid))
 | 0,_,_,tl,ol,ra,da=>some (tl,ol,ra,da)
 | _+1,_,[],_,_,_,_=>none
 | n+1,k,x :: xs,tl,ol,ra,da=>match Bd (g+k) x (Am tl) (only (rdX (Am tl) (Ah ol) x) (Ah ol)) with
  | some (c,v,us)=>if Eg us then Ab5 g n (k+1) xs (Aj4 x.dst v tl) (us.reverseAux ol) ((c,v,us) :: ra) (rdX (Am tl) (Ah ol) x :: da) else none
  | none=>none
theorem Amd {P:Program} {G:World->Prop} {g:Nat} {Kf:List (Nat×AV)->List (Oid×Option Ob)->Prop}:∀ (n k:Nat) (xs:List X) (tl:List (Nat×AV)) (ol:List (Oid×Option Ob)) (r:List (Nat×AV)×List (Oid×Option Ob)),Yr g n k xs tl ol=some r->XW P G g (k+n) (xs.drop n) r.1 r.2 Kf->XW P G g k xs tl ol Kf
 | 0,k,xs,tl,ol,r,h,hk=>by
  obtain rfl:=osj h;exact hk
 | n+1,k,[],tl,ol,r,h,hk=>by cases h
 | n+1,k,x :: xs,tl,ol,r,h,hk=>by
  simp only [Yr] at h;split at h
  ·rename_i c v us hst;split at h
   ·rename_i hx;obtain ⟨rs,tl',ol',h1,h2⟩:=Amd (P:=P) (G:=G) n (k+1) xs _ _ r h (by rw [show k+1+n=k+(n+1) by omega]; exact hk);exact ⟨(c,v,us) :: rs,tl',ol',⟨_,_,rfl,Gm hst,by rw [Ai5,Fi _ _ hx]; exact h1⟩,h2⟩
   ·cases h
  ·cases h
theorem rsB {P:Program} {G:World->Prop} {g k:Nat} {xs:List X} {tl:List (Nat×AV)} {ol:List (Oid×Option Ob)} {Kf:List (Nat×AV)->List (Oid×Option Ob)->Prop} (n:Nat) (hk:XW P G g (k+n) (xs.drop n) ((Yr g n k xs tl ol).getD ([],[])).1 ((Yr g n k xs tl ol).getD ([],[])).2 Kf) (h:(Yr g n k xs tl ol).isSome=true:=by kernel_rfl):XW P G g k xs tl ol Kf:=by
 obtain ⟨r,hr⟩:=Option.isSome_iff_exists.1 h;rw [hr] at hk;exact Amd n k xs tl ol r hr hk
theorem Al8 {P:Program} {G:World->Prop} {g:Nat} {bad:List (Nat×Nat)} {Kf:List (Nat×AV)->List (Oid×Option Ob)->Prop}:∀ (n k:Nat) (xs:List X) (tl:List (Nat×AV)) (ol:List (Oid×Option Ob)) (ra:List Rec) (da:List (List Oid)) (r:List (Nat×AV)×List (Oid×Option Ob)×List Rec×List (List Oid)),Ab5 g n k xs tl ol ra da=some r->XD P G bad g (k+n) (xs.drop n) r.1 r.2.1 r.2.2.1 r.2.2.2 Kf->XD P G bad g k xs tl ol ra da Kf
 | 0,k,xs,tl,ol,ra,da,r,h,hk=>by
  obtain rfl:=osj h;exact hk
 | n+1,k,[],tl,ol,ra,da,r,h,hk=>by cases h
 | n+1,k,x :: xs,tl,ol,ra,da,r,h,hk=>by
  simp only [Ab5] at h;split at h
  ·rename_i c v us hst;split at h
   ·rename_i hx;obtain ⟨rs,ds,tl',ol',h1,hb,h2⟩:=Al8 (P:=P) (G:=G) n (k+1) xs _ _ _ _ r h (by rw [show k+1+n=k+(n+1) by omega]; exact hk);refine ⟨(c,v,us) :: rs,rdX (Am tl) (Ah ol) x :: ds,tl',ol',⟨_,_,_,rfl,rfl,Gm hst,by rw [Ai5,Fi _ _ hx]; exact h1⟩,?_,h2⟩
    simpa using hb
   ·cases h
  ·cases h
theorem dsB {P:Program} {G:World->Prop} {g k:Nat} {xs:List X} {tl:List (Nat×AV)} {ol:List (Oid×Option Ob)} {bad:List (Nat×Nat)} {ra:List Rec} {da:List (List Oid)} {Kf:List (Nat×AV)->List (Oid×Option Ob)->Prop} (n:Nat) (hk:XD P G bad g (k+n) (xs.drop n) ((Ab5 g n k xs tl ol ra da).getD ([],[],[],[])).1 ((Ab5 g n k xs tl ol ra da).getD ([],[],[],[])).2.1 ((Ab5 g n k xs tl ol ra da).getD ([],[],[],[])).2.2.1 ((Ab5 g n k xs tl ol ra da).getD ([],[],[],[])).2.2.2 Kf) (h:(Ab5 g n k xs tl ol ra da).isSome=true:=by kernel_rfl):XD P G bad g k xs tl ol ra da Kf:=by
 obtain ⟨r,hr⟩:=Option.isSome_iff_exists.1 h;rw [hr] at hk;exact Al8 n k xs tl ol ra da r hr hk
theorem An {P:Program} {G:World->Prop} {g:Nat} {xs:List X} {bad:List (Nat×Nat)} {y:AC} {R:AE->St->Prop} {tl:List (Nat×AV)} {ol:List (Oid×Option Ob)} (h:awp P G y R ⟨Am ((Yr g xs.length 0 xs tl ol).getD ([],[])).1,Ah ((Yr g xs.length 0 xs tl ol).getD ([],[])).2,g+xs.length⟩) (hs:(Yr g xs.length 0 xs tl ol).isSome=true:=by kernel_rfl):awp P G (.seq (.region xs false bad) y) R ⟨Am tl,Ah ol,g⟩:=by
 refine Ab (Aa (g+xs.length) (rsB xs.length (by rw [List.drop_length]; exact Ar (tn_ ⟨_,WeakG.refl _,h⟩)) hs) rfl)
theorem X2 {i:Oid} {ob:Oid->Option Ob}:only [i] ob i=ob i:=if_pos (List.mem_singleton.2 rfl)
section
variable {n:Nat} {d:Option Nat} {f:Nat->AV} {ob:Oid->Option Ob} {ol:List (Oid×Option Ob)}
theorem Hk {x:Opd} {o p:Oid} {e1:TypeId} {u:Ty} {xss:List (List u.D)} {row:List u.D} {j:Nat} (hx:x.ev f=.elt o j 0) (hob:ob o=some (.vec e1 1 xss.length (hdL p u xss))) (hr:xss[j]? =some row):Bd n ⟨d,none,.i (.ld true 1 x)⟩ f ob=some (1,.own (kid p j) u 0 row.length,[]):=by
 have h:(hdL p u xss)[j*1+0]? =some (.own (kid p j) u 0 row.length):=by rw [E7]; simp [hr]
 simp only [Nat.mul_one,Nat.add_zero] at h;simp [Bd,ev,evN,evR,hx,hob,Dq,h]
theorem Aiv {x y:Opd} {o:Oid} {e1:TypeId} {m:Nat} {cs:List AV} {v:AV} {j:Nat} (hx:x.ev f=.elt o j 0) (hob:ob o=some (.vec e1 1 m cs)) (hy:y.ev f=v) (hv:v.one=true) (hj:j<cs.length):Bd n ⟨d,none,.st true 1 x y⟩ f ob=some (2,.any,[(o,none),(o,some (.vec e1 1 m (cs.set j v)))]):=by
 simp [Bd,ev,Z0,hx,hob,hy,Jt,hv,hj]
theorem Afd {x y:Opd} {o q:Oid} {e1 e2:TypeId} {u:Ty} {t':Ty} {b:Nat} {p:Oid} {xss:List (List u.D)} {cs:List AV} {len:Nat} (hx:x.ev f=.own o t' 0 len) (hob:ob o=some (.vec e1 1 xss.length (hdL p u xss))) (hl:len=xss.length) {t2:Ty} (hy:y.ev f=.own q t2 0 1) (hq:ob q=some (.vec e2 1 1 cs)) (hc:cs.length=1) (h:xss.length+1<=1073741824∧(xss.length+1)*b<=140737488355328) :
  Bd n ⟨d,none,.appV e1 (.slice u) b x y⟩ f ob=some (2,.own (o.1,n) (.slice u) 0 (xss.length+1),[(o,none),((o.1,n),some (.vec e1 1 (xss.length+1) (hdL p u xss++cs)))]):=by
 subst hl;have h1:List.take (xss.length*1) (hdL p u xss)=hdL p u xss:=by rw [Nat.mul_one]; exact List.take_of_length_le (by rw [Ft]; exact Nat.le_refl _)
 have h2:List.take (1*1) (List.drop (0*1) cs)=cs:=by simp only [Nat.zero_mul,List.drop_zero,Nat.mul_one]; exact List.take_of_length_le (by omega)
 simp only [Bd,ev,J7,hx,hy,Ael,hq,hob,Ty.size,true_and,Nat.zero_add,Nat.le_refl,if_true,h1,h2,h.1,h.2,and_self]
theorem X3 {i:Oid} {e:TypeId} {t:Ty} {sz:Nat} {xs:List Opd} {r:Rec} (h:(Yc f i e t sz xs).map (fun r=>((1:Nat),r.1,r.2))=some r):evL f i (.mkV e t sz xs)=some r:=by
 simp only [evL];cases hq:Yc f i e t sz xs with
 | none=>rw [hq] at h; cases h
 | some q=>rw [hq] at h; obtain ⟨v,us⟩:=q; exact h
theorem Afc {i:Oid} {e:TypeId} (e':TypeId) {u:Ty} {b:Nat} {x y:Opd} {k k':IntKind} {m c:Int} {j:Nat} (hx:x.ev f=.int k m) (hy:y.ev f=.int k' c) (h:0<=m∧m<=c∧c<=1073741824∧(b:Int)*c<=140737488355328) (hfl:u.flat=true) (hj:m.toNat=j) :
  Acn f i (.makeV e (.slice u) b [.nils] x y) (1,RV.out ⟨false,[(false,[.newM e e' u (List.replicate j [])])]⟩ (Dc i) []):=by
 subst hj;exact ⟨e,e',u,b,x,y,k,k',m,c,rfl,hx,hy,h,hfl,rfl⟩
theorem Aj7 {i:Oid} {e e':TypeId} {u:Ty} {xss:List (List u.D)} (h:Kw i.2 ol=true):Av (RV.out ⟨false,[(false,[.newM e e' u xss])]⟩ (Dc i) []).2 (Ah ol)=Ah ((Dc i 0,some (.mat e (Dc i 0) u xss)) :: (Dc i 0,some (.pool e' u xss)) :: ol):=by
 have e0:(RV.out ⟨false,[(false,[.newM e e' u xss])]⟩ (Dc i) []).2=(Dc i 0,some (.vec e 1 xss.length (hdL (Dc i 0) u xss))) :: (Ue (Dc i 0) e' u xss++[]):=rfl;rw [e0,List.append_nil];show Av (Ue (Dc i 0) e' u xss) (upd (Ah ol) (Dc i 0) (some (.vec e 1 xss.length (hdL (Dc i 0) u xss))))=_
 rw [Hz rfl,Abk (fun k=>by
  have:Ah ((Dc i 0,some (.vec e 1 xss.length (hdL (Dc i 0) u xss))) :: ol) (kid (Dc i 0) k)=if kid (Dc i 0) k=Dc i 0 then some (.vec e 1 xss.length (hdL (Dc i 0) u xss)) else Ah ol (kid (Dc i 0) k):=by simp only [Ah]
  rw [this,if_neg (fun e=>by have:=congrArg (fun i:Oid=>i.1.2) e; simp [kid,Dc] at this)];exact Lc h _ rfl)]
 funext j;have h2:∀ j,Ah ((Dc i 0,some (.vec e 1 xss.length (hdL (Dc i 0) u xss))) :: ol) j=if j=Dc i 0 then some (.vec e 1 xss.length (hdL (Dc i 0) u xss)) else Ah ol j:=fun j=>by simp only [Ah]
 rw [K7,Iq,Iq,h2];by_cases hj:j=Dc i 0
 ·subst hj;rw [if_pos rfl,if_neg (fun h=>h.2.2 rfl),if_pos rfl]
 ·rw [if_neg hj,if_neg hj]
end
section
variable {P:Program} {G:World->Prop} {g k d:Nat} {gd:Option (Nat×Bool)} {q:Q} {xs:List X} {tl:List (Nat×AV)} {ol:List (Oid×Option Ob)} {bad:List (Nat×Nat)} {ra:List Rec} {da:List (List Oid)} {Kf:List (Nat×AV)->List (Oid×Option Ob)->Prop}
theorem Ajf (v:AV) (i:Oid) (o:Ob) (hgd:Qy gd (Am tl)) (h:evL (Am tl) ((d,0),g+k) q=some (1,v,[(i,some o)])) (h3:XW P G g (k+1) xs ((d,v) :: tl) ((i,some o) :: ol) Kf) (hx:Hg (some o)=true:=by rfl):XW P G g k (⟨some d,gd,q⟩ :: xs) tl ol Kf:=Ye 1 v _ (Ak8 (d:=some d) hgd h) h3 (by simp only [Eg,List.all_cons,List.all_nil,hx]; rfl)
theorem Al9 (v:AV) (i:Oid) (o:Ob) (hgd:Qy gd (Am tl)) (h:evL (Am tl) ((d,0),g+k) q=some (1,v,[(i,some o)])) (h3:XD P G bad g (k+1) xs ((d,v) :: tl) ((i,some o) :: ol) ((1,v,[(i,some o)]) :: ra) ((rdX (Am tl) (Ah ol) ⟨some d,gd,q⟩) :: da) Kf) (hx:Hg (some o)=true:=by rfl):XD P G bad g k (⟨some d,gd,q⟩ :: xs) tl ol ra da Kf:=Xr 1 v _ (Ak8 (d:=some d) hgd h) h3 (by simp only [Eg,List.all_cons,List.all_nil,hx]; rfl)
theorem Aie (v:AV) (i:Oid) (e e':TypeId) (u:Ty) (xss:List (List u.D)) (hgd:Qy gd (Am tl)) (h:Acn (Am tl) ((d,0),g+k) q (1,RV.out ⟨false,[(false,[.newM e e' u xss])]⟩ (Dc ((d,0),g+k)) [])) (hi:Dc ((d,0),g+k) 0=i) (hv:AV.own i (.slice u) 0 xss.length=v) (hn:Kw (g+k) ol=true) (h3:XW P G g (k+1) xs ((d,v) :: tl) ((i,some (.mat e i u xss)) :: (i,some (.pool e' u xss)) :: ol) Kf):XW P G g k (⟨some d,gd,q⟩ :: xs) tl ol Kf:=by
 subst hi hv;exact Adj 1 _ _ _ (Ajg (d:=some d) hgd h) (Aj7 hn) h3
end
-- what arguments read as
section
variable {ol:List (Oid×Option Ob)} {n:Nat}
theorem V0 {α:Type} {g:List AV->Option α}:∀ {cs:List AV} {xs:List α},cs.length=xs.length->(∀ (k:Nat) (c:AV) (x:α),cs[k]? =some c->xs[k]? =some x->g [c]=some x)->Q9 g 1 xs.length cs=some xs
 | [],[],_,_=>rfl
 | c :: cs,x :: xs,hl,h=>by
  have h0:=h 0 c x rfl rfl;have ih:=V0 (g:=g) (cs:=cs) (xs:=xs) (by simpa using hl) (fun k c x h1 h2=>h (k+1) c x h1 h2);simp only [List.length_cons,Q9,List.take_succ_cons,List.take_zero,List.drop_succ_cons,List.drop_zero,h0,ih]
 | [],_ :: _,hl,_=>by simp at hl
 | _ :: _,[],hl,_=>by simp at hl
theorem Ai1 {ob:Oid->Option Ob} {o p:Oid} {e1 e:TypeId} {u:Ty} {xss:List (List u.D)} {m len:Nat} (ho:ob o=some (.vec e1 1 m (hdL p u xss))) (hm:m=xss.length) (hk:∀ k row,xss[k]? =some row->ob (kid p k)=some (.arr e u row)) {t':Ty} (hl:len<=xss.length):Af6 ob 1 (rdC ob (.slice u)) (.own o t' 0 len)=some (xss.take len):=by
 have h1:(((hdL p u xss).drop (0*1)).take (len*1))=hdL p u (xss.take len):=by
  simp only [Nat.zero_mul,List.drop_zero,Nat.mul_one];apply List.ext_getElem?;intro j;rw [List.getElem?_take,E7,E7,List.getElem?_take];split <;> rfl
 have hlen:(xss.take len).length=len:=by rw [List.length_take]; omega
 simp only [Af6,ho];rw [if_pos ⟨trivial,by omega⟩,h1]
 have:=V0 (g:=rdC ob (.slice u)) (cs:=hdL p u (xss.take len)) (xs:=xss.take len) Ft (fun k c x hc hx=>by
  rw [E7,hx] at hc;obtain rfl:=osj hc;rw [List.getElem?_take] at hx;split at hx
  ·have:=hk k x hx;simp only [rdC,Fb,this,Nat.zero_add,Nat.le_refl,if_true,Ty.eq?_self,D2,List.drop_zero,List.take_length]
  ·cases hx)
 rw [hlen] at this;exact this
theorem D4 {ob:Oid->Option Ob} {o p:Oid} {e1 e:TypeId} {u:Ty} {xss:List (List u.D)} {len:Nat} (ho:ob o=some (.vec e1 1 xss.length (hdL p u xss))) (hk:∀ k row,xss[k]? =some row->ob (kid p k)=some (.arr e u row)) (hl:len=xss.length):gnd ob (n+1) (.own o (.slice u) 0 len)=some (.tree (.slice u) xss):=by
 subst hl;have:=Ai1 (t':=.slice u) ho rfl hk (Nat.le_refl _);rw [List.take_length] at this;simp only [gnd,ho,Ty.size,this,Option.map_some]
theorem Bn {p:Oid} {e:TypeId} {u:Ty} {xss:List (List u.D)} (h:Eu ol p=some (.pool e u xss)):∀ k row,xss[k]? =some row->Ah ol (kid p k)=some (.arr e u row):=fun _ _ hx=>B4 h hx
def Xt (θ:Oid->Oid) (ol0:List (Oid×Ob)) (i:Oid):Bool:=ol0.all fun q=>if q.2.isPool then !(i.1.1==(θ q.1).1.1&&(i.2==(θ q.1).2&&i.1.2 !=0)) else i !=θ q.1
theorem G3 {l:List (Oid×Oid)} {ob:Oid->Option Ob} {ol0:List (Oid×Ob)} {i:Oid} (hl:Mi l=true) (h0:Fa ol0=true) (h:Xt (Bf l) ol0 i=true):Wc ((nmL ol0).map (Bf l)) ob i=ob i:=by
 unfold Wc;rw [if_neg];intro hm;obtain ⟨j,hj,rfl⟩:=List.mem_map.1 hm;obtain ⟨q,hq,rfl⟩:=List.mem_map.1 hj;unfold Xt at h;rw [List.all_eq_true] at h;unfold Fa at h0;rw [List.all_eq_true] at h0;rcases Fx hq with ⟨p,e,u,xss,k,row,m1,m2,rfl⟩ | ⟨o,m1,m2,m3⟩
 ·have:=h _ m1;have hz:=h0 _ m1;simp only [Bool.and_eq_true,beq_iff_eq] at hz;rw [Gz hl hz.1] at this;simp [Ob.isPool,kid] at this
 ·have:=h _ m1;simp [m2] at this
theorem Kx {l:List (Oid×Oid)} {ob:Oid->Option Ob} {ol0:List (Oid×Ob)} {p:Oid} {e:TypeId} {u:Ty} {xss:List (List u.D)} (hl:Mi l=true) (h0:Fa ol0=true) (hk:∀ k row,xss[k]? =some row->ob (kid p k)=some (.arr e u row)) (hn:(ol0.all fun q=> !((Bf l q.1).1.1==p.1.1&&((Bf l q.1).2==p.2)))=true):∀ k row,xss[k]? =some row->Wc ((nmL ol0).map (Bf l)) ob (kid p k)=some (.arr e u row):=by
 intro k row hx;rw [G3 hl h0,hk k row hx];unfold Xt;rw [List.all_eq_true] at hn ⊢;intro q hq;have:=hn q hq;simp only [Bool.not_eq_true',Bool.and_eq_false_iff,beq_eq_false_iff_ne,ne_eq] at this;split
 ·simp only [Bool.not_eq_true',Bool.and_eq_false_iff,beq_eq_false_iff_ne,ne_eq,kid];rcases this with h | h
  ·exact .inl fun e=>h e.symm
  ·exact .inr (.inl fun e=>h e.symm)
 ·simp only [bne_iff_ne,ne_eq];intro e;rw [← e] at this;rcases this with h | h <;> exact h rfl
theorem Afy {ri rj:Rec} {di dj:List Oid} (h:Ajq [rj,ri] [dj,di] [(0,1)]=true):Kb ri rj di dj:=(Cn h).1
theorem Afl {l:List (Oid×Oid)} {i:Oid} {ol us:List (Oid×Ob)} (hB:Ado ol us=true):∀ u∈Ij (Bf l) i ol us,u.1.2=i.2∨u.1∈(nmL ol).map (Bf l):=by
 intro u hu;rcases List.mem_append.1 hu with hu | hu
 ·obtain ⟨q,hq,rfl⟩:=List.mem_map.1 hu;exact .inr (List.mem_map.2 ⟨q.1,List.mem_map.2 ⟨q,hq,rfl⟩,rfl⟩)
 ·obtain ⟨q,hq,rfl⟩:=List.mem_map.1 hu;rcases Aab hB q hq with h | ⟨h,h'⟩
  ·exact .inl (by simp [Cs,h])
  ·exact .inr (List.mem_map.2 ⟨q.1,h',by simp [Cs,h]⟩)
def Ae0 (l:List (Oid×Oid)) (i:Oid) (ol us:List (Oid×Ob)) (r:Rec) (d:List Oid):Bool:=Mi l&&(Fa ol&&(Ado ol us&&((d.all fun x=>x.2 !=i.2&&Xt (Bf l) ol x)&&((r.2.2.all fun u=>u.1.2 !=i.2&&Xt (Bf l) ol u.1)&&r.1 !=2))))
theorem Ach {l:List (Oid×Oid)} {ol:List (Oid×Ob)} {i:Oid} (hl:Mi l=true) (h0:Fa ol=true) (h:Xt (Bf l) ol i=true):i∉(nmL ol).map (Bf l):=by
 intro hm;have:=G3 (ob:=fun _=>some (.map 0 .int [])) hl h0 h;unfold Wc at this;rw [if_pos hm] at this;cases this
theorem T3 {l:List (Oid×Oid)} {i:Oid} {ol us:List (Oid×Ob)} {r:Rec} {d:List Oid} (h:Ae0 l i ol us r d=true):(∀ u∈Ij (Bf l) i ol us,u.1∉d)∧(∀ u∈Ij (Bf l) i ol us,∀ v∈r.2.2,u.1≠v.1)∧r.1≠2:=by
 simp only [Ae0,Bool.and_eq_true,bne_iff_ne,ne_eq] at h;obtain ⟨h1,h2,h3,h4,h5,h6⟩:=h;rw [List.all_eq_true] at h4 h5;refine ⟨fun u hu hd=>?_,fun u hu v hv e=>?_,h6⟩
 ·have:=h4 _ hd;simp only [Bool.and_eq_true,bne_iff_ne,ne_eq] at this;rcases Afl h3 u hu with h | h
  ·exact this.1 h
  ·exact Ach h1 h2 this.2 h
 ·have:=h5 _ hv;simp only [Bool.and_eq_true,bne_iff_ne,ne_eq] at this;rcases Afl h3 u hu with h | h
  ·exact this.1 (by rw [← e]; exact h)
  ·exact Ach h1 h2 this.2 (by rw [← e]; exact h)
theorem Al2 {l:List (Oid×Oid)} {i:Oid} {ol us:List (Oid×Ob)} {v:AV} {rj:Rec} {di dj:List Oid} (h:Ae0 l i ol us rj dj=true):Kb (2,v,Ij (Bf l) i ol us) rj di dj:=by
 obtain ⟨h1,h2,h3⟩:=T3 h;exact .inr ⟨fun _=>h1,fun e=>absurd e h3,h2⟩
theorem Y2 {l:List (Oid×Oid)} {i:Oid} {ol us:List (Oid×Ob)} {v:AV} {ri:Rec} {di dj:List Oid} (h:Ae0 l i ol us ri di=true):Kb ri (2,v,Ij (Bf l) i ol us) di dj:=by
 obtain ⟨h1,h2,h3⟩:=T3 h;exact .inr ⟨fun e=>absurd e h3,fun _=>h1,fun u hu v hv e=>h2 v hv u hu e.symm⟩
def Ahl (zs:List AV) (ob:Oid->Option Ob) (θ:Oid->Oid):List (Oid×Ob)->Prop
 | []=>True
 | q :: r=>(match q.2 with
  | .pool _ _ xss=>∀ k,k<xss.length->Reached zs ob (kid (θ q.1) k)
  | _=>Reached zs ob (θ q.1))∧Ahl zs ob θ r
theorem Bl {zs:List AV} {ob:Oid->Option Ob} {l:List (Oid×Oid)} (hl:Mi l=true):∀ {ol:List (Oid×Ob)},Fa ol=true->Ahl zs ob (Bf l) ol->∀ j∈nmL ol,Reached zs ob (Bf l j)
 | [],_,_,j,hj=>by cases hj
 | (p,o) :: r,h0,h,j,hj=>by
  simp only [Fa,List.all_cons,Bool.and_eq_true,beq_iff_eq] at h0;obtain ⟨⟨h1,_⟩,h2⟩:=h0;have ih:j∈nmL r->Reached zs ob (Bf l j):=fun hm=>Bl hl (ol:=r) (by simpa [Fa] using h2) h.2 j hm
  cases o with
  | pool e u xss =>
   simp only [nmL,exL,List.map_append,List.mem_append] at hj;rcases hj with hj | hj
   ·obtain ⟨q,hq,rfl⟩:=List.mem_map.1 hj;obtain ⟨⟨row,k⟩,hx,rfl⟩:=List.mem_map.1 hq;rw [List.mem_zipIdx_iff_getElem?] at hx;show Reached zs ob (Bf l (kid p k));rw [Gz hl h1];exact h.1 k (gSi.1 hx).1
   ·exact ih hj
  | _ =>
   simp only [nmL,exL,List.map_cons,List.mem_cons] at hj;rcases hj with rfl | hj
   ·exact h.1
   ·exact ih hj
theorem Mz {zs:List AV} {ob:Oid->Option Ob} {i:Oid} (h:(AV.nmsL zs).contains i=true):Reached zs ob i:=.arg (List.contains_iff_mem.1 h)
theorem Akk {p:Oid} {u:Ty} {xss:List (List u.D)} {k:Nat} (h:k<xss.length):kid p k∈AV.nmsL (hdL p u xss):=by
 have key:∀ cs:List AV,∀ c∈cs,∀ i∈c.nms,i∈AV.nmsL cs:=by
  intro cs
  induction cs with
  | nil=>intro c h; cases h
  | cons x r ih =>
   intro c hc i hi;rcases List.mem_cons.1 hc with rfl | hc
   ·exact List.mem_append_left _ hi
   ·exact List.mem_append_right _ (ih c hc i hi)
 refine key _ (.own (kid p k) u 0 xss[k].length) ?_ _ (List.mem_singleton.2 rfl);apply List.mem_iff_getElem?.2;exact ⟨k,by rw [E7,gEg h]; rfl⟩
theorem Aah {zs:List AV} {ob:Oid->Option Ob} {o p:Oid} {e1:TypeId} {m:Nat} {u:Ty} {xss:List (List u.D)} (h1:Reached zs ob o) (h2:ob o=some (.vec e1 1 m (hdL p u xss))):∀ k,k<xss.length->Reached zs ob (kid p k):=fun _ hk=>.vec h1 h2 (Akk hk)
end
theorem Vv {L:List Oid} {l:List (Oid×Oid)} {xs:List (Oid×Ob)} (h:(xs.all fun q=>L.contains (Bf l q.1))=true):∀ q∈xs,Bf l q.1∈L:=fun q hq=>by
 have:=List.all_eq_true.1 h q hq
 simpa using this
end Go.Proofs.YtjnaikadmjocbaaDoor
namespace Go.Proofs.YtjnaikadmjocbaaDoor
open Go.RowKit Go.Deep
theorem Na {L:List Oid} {ob:Oid->Option Ob} {i:Oid} (h:i∈L):only L ob i=ob i:=if_pos h
theorem Aei {f:Nat->AV} {ob:Oid->Option Ob} {d:Option Nat} {gd:Option (Nat×Bool)} {fo y:Opd} {ys:List Opd} {tys:List (List (Option Ty))} {i:Oid} {t:Ty} {off len:Nat} (n:Nat) (hy:ys[n]? =some y) (he:y.ev f=.own i t off len):i∈rdX f ob ⟨d,gd,.call fo ys tys⟩:=by
 refine List.mem_flatMap.2 ⟨y,List.mem_cons_of_mem _ (List.mem_of_getElem? hy),?_⟩;rw [he];show i∈Ic ob (7+1) (.own i t off len);unfold Ic;dsimp only;split <;> simp
theorem Ako {α:Type} {xs:List α} {k:Nat} (h:k<=xs.length):k=(xs.take k).length:=by rw [List.length_take]; omega
theorem Af7 {G:World->Prop} {S:St} {o:Oid} {e1:TypeId} {sz n k:Nat} {cs:List AV} (ho:S.ob o=some (.vec e1 sz n cs)) (hk:k<=n):WeakG G S ⟨S.tm,upd S.ob o (some (.vec e1 sz k (cs.take (k*sz)))),S.gen⟩:=by
 intro w0 B N a w hr;obtain ⟨σ,hm,hf,hB⟩:=hr.ex
 have was:∀ i x,upd S.ob o (some (.vec e1 sz k (cs.take (k*sz)))) i=some x->∃ y,S.ob i=some y:=fun i x hx=>by
  by_cases h:i=o
  ·subst h; exact ⟨_,ho⟩
  ·rw [Ay _ _ _ _ h] at hx; exact ⟨x,hx⟩
 have hL:Later σ σ (imm S.ob σ) (imm (upd S.ob o (some (.vec e1 sz k (cs.take (k*sz))))) σ) w w:=⟨fun _ _ h=>h,fun b _ hb i x c s hx hs=>by obtain ⟨y,hy⟩:=was i x hx; exact hb i y c s hy hs,fun _ _ _=>rfl,Nat.le_refl _⟩
 refine ⟨⟨σ,⟨hm.below,hm.inv,hm.gen,hm.lt,hm.cap,fun i j b c s c' s' x y hx hy e1 e2=>?_,fun i x l hx hl=>?_⟩,fun t=>AV.Rep.later hL _ _ (hf t),hB.trans hL⟩,hr.size,hr.defers,fun i hi=>?_⟩
 ·obtain ⟨x',hx'⟩:=was i x hx;obtain ⟨y',hy'⟩:=was j y hy;exact hm.inj i j b c s c' s' x' y' hx' hy' e1 e2
 ·by_cases h:i=o
  ·subst h;have hx:upd S.ob i (some (.vec e1 sz k (cs.take (k*sz)))) i=some x:=hx;rw [A6] at hx;obtain rfl:=osj hx;obtain ⟨vs,p1,p2,p3,p4⟩:=hm.obs i _ l ho hl;refine ⟨vs.take (k*sz),p1.take hk (fun g cap e=>?_) (fun e=>?_),(AV.RepL.later hL _ _ p2).take _,fun v hv=>p3 v (List.mem_of_mem_take hv),p4⟩
   ·cases l with
    | nil=>cases e
    | at_ b c s=>cases e; rfl
   ·cases l with
    | nil=>rfl
    | at_ b c s=>cases e
  ·have hx:upd S.ob o (some (.vec e1 sz k (cs.take (k*sz)))) i=some x:=hx;rw [Ay _ _ _ _ h] at hx;exact (hm.obs i x l hx hl).later hL fun _ _ _ _=>rfl
 ·by_cases h:i=o
  ·subst h; exact hr.obg i (by rw [ho]; simp)
  ·have hi:upd S.ob o (some (.vec e1 sz k (cs.take (k*sz)))) i≠none:=hi;rw [Ay _ _ _ _ h] at hi;exact hr.obg i hi
theorem Aeb {G:World->Prop} {tl:List (Nat×AV)} {ol:List (Oid×Option Ob)} {g:Nat} (s:Nat) (o p:Oid) {e1 e:TypeId} {u:Ty} {xss:List (List u.D)} {n k:Nat} (hfl:u.flat=true) (ho:Ah ol o=some (.vec e1 1 n (hdL p u xss))) (hn:n=xss.length) (hp:Eu ol p=some (.pool e u xss)) (hk:k<=n) (hpo:(o.1.1==p.1.1&&o.2==p.2&&o.1.2 !=0)=false) (hog:(o.2==g)=false) (hfr:Kw g ((p,some (.pool e u [])) :: ol)=true) :
  WeakG G ⟨Am tl,Ah ol,g⟩ ⟨Am tl,Ah ((o,some (.mat e1 ((s,0),g) u (xss.take k))) :: (((s,0),g),some (.pool e u (xss.take k))) :: (p,some (.pool e u [])) :: (o,some (.vec e1 1 k ((hdL p u xss).take k))) :: ol),g+1⟩:=by
 have h1:WeakG G ⟨Am tl,Ah ol,g⟩ ⟨Am tl,Ah ((o,some (.vec e1 1 k ((hdL p u xss).take k))) :: ol),g⟩:=by
  have:=Af7 (G:=G) (S:=⟨Am tl,Ah ol,g⟩) ho hk;rw [Nat.mul_one] at this;rw [← Hz rfl];exact this
 refine h1.trans ?_;have hok:∀ j,kid p j≠o:=fun j e=>by rw [← e] at hpo; simp [kid] at hpo
 have hpool:Eu ((o,some (.vec e1 1 k ((hdL p u xss).take k))) :: ol) p=some (.pool e u xss):=by
  show (if p.1.1=o.1.1∧p.2=o.2∧o.1.2≠0 then none else Eu ol p)=_;rw [if_neg,hp];rintro ⟨a1,a2,a3⟩;rw [a1,a2] at hpo;simp [a3] at hpo
 refine Je s o (fun j=>kid p j) [(p,some (.pool e u []))] hfl (by show Ah _ o=_; simp only [Ah]; rw [if_pos trivial]) (by rw [List.length_take]; omega) (fun j row hj=>?_) (fun a b _ _ hab=>G2 hab) hog ?_ (fun i hi=>?_)
 ·rw [List.getElem?_take] at hj ⊢;split at hj
  ·rename_i hlt;rw [if_pos hlt,E7,hj];exact ⟨rfl,row,B4 hpool hj,Nat.le_refl _,(List.take_length).symm⟩
  ·cases hj
 ·simp only [Kw,List.all_append,List.all_cons,List.all_nil,Bool.and_true,Bool.and_eq_true,bne_iff_ne] at hfr ⊢;exact ⟨hfr.1,by simpa using hog,hfr.2⟩
 ·simp only [List.cons_append,List.nil_append,Kr];split
  ·exact .inl rfl
  ·rename_i h2;exact .inr ⟨rfl,fun j _ e=>h2 (by rw [e]; exact ⟨rfl,rfl,by simp [kid]⟩)⟩
section
variable {f:Nat->AV} {ob:Oid->Option Ob} {n:Nat} {d:Option Nat}
end
end Go.Proofs.YtjnaikadmjocbaaDoor
namespace Go.Proofs.YtjnaikadmjocbaaDoor
open Go.RowKit Go.Deep
section
variable {P:Program} {G:World->Prop} {g k d:Nat} {gd:Option (Nat×Bool)} {q:Q} {xs:List X} {tl:List (Nat×AV)} {ol:List (Oid×Option Ob)} {bad:List (Nat×Nat)} {ra:List Rec} {da:List (List Oid)} {Kf:List (Nat×AV)->List (Oid×Option Ob)->Prop}
theorem dz0 (v:AV) (h3:XD P G bad g (k+1) xs ((d,v) :: tl) ol ((0,v,[]) :: ra) ((rdX (Am tl) (Ah ol) ⟨some d,gd,q⟩) :: da) Kf) (h:Bd (g+k) ⟨some d,gd,q⟩ (Am tl) (only (rdX (Am tl) (Ah ol) ⟨some d,gd,q⟩) (Ah ol))=some (0,v,[]):=by kernel_rfl):XD P G bad g k (⟨some d,gd,q⟩ :: xs) tl ol ra da Kf:=ds0 v h h3
theorem dzl (v:AV) (h3:XD P G bad g (k+1) xs ((d,v) :: tl) ol ((1,v,[]) :: ra) ((rdX (Am tl) (Ah ol) ⟨some d,gd,q⟩) :: da) Kf) (h:Bd (g+k) ⟨some d,gd,q⟩ (Am tl) (only (rdX (Am tl) (Ah ol) ⟨some d,gd,q⟩) (Ah ol))=some (1,v,[]):=by kernel_rfl):XD P G bad g k (⟨some d,gd,q⟩ :: xs) tl ol ra da Kf:=dsl v h h3
theorem zs {s:Nat} {b c:Bool} (hc:c= !b) (h3:XW P G g (k+1) xs ((d,.tup []) :: tl) ol Kf) (hs:Am tl s=.bool c:=by kernel_rfl):XW P G g k (⟨some d,some (s,b),q⟩ :: xs) tl ol Kf:=rs0 (.tup []) (Ala hs hc) h3
theorem zc {fo:Opd} {ys:List Opd} {tys:List (List (Option Ty))} {F:FuncId} {rv:RV} {args:List AV} (v:AV) (us:List (Oid×Option Ob)) (zs:List AV) (hc:A7 P G F args rv) (h3:XW P G g (k+1) xs ((d,v) :: tl) (us.reverseAux ol) Kf) (h1:Ma (gnd (Ah ol) 8) zs=some zs:=by kernel_rfl) (hb:A9 P F=true:=by kernel_rfl) (hfo:fo.ev (Am tl)=.fn F []:=by kernel_rfl) (hz:(ys++([]:List AV).map Opd.cst).map (Opd.ev (Am tl))=zs:=by kernel_rfl) (hn:N7 tys zs=args:=by kernel_rfl) (hr:rv.out (Dc ((d,0),g+k)) zs=(v,us):=by kernel_rfl) (hx:Eg us=true:=by rfl) (hni:rv.noI=true:=by kernel_rfl):XW P G g k (⟨some d,none,.call fo ys tys⟩ :: xs) tl ol Kf:=Bq (caps:=[]) (args0:=zs) v us zs args trivial h1 hc hb h3 hfo hz hn hr hx hni
end
abbrev sI:Ty:=.slice .int
abbrev LL:=List (List Int)
abbrev an (n:Nat):AV:=.int .i64 n
abbrev tI (x:List Int):AV:=.tree .int x
abbrev tS (x:List (List Int)):AV:=.tree (.slice .int) x
abbrev oI (a b n:Nat):AV:=.own (oi a b) .int 0 n
abbrev oS (a b n:Nat):AV:=.own (oi a b) (.slice .int) 0 n
abbrev nI (a b:Nat) (x:List Int):Oid×Option Ob:=(oi a b,some (.arr 3 .int x))
abbrev xm (d s:Nat):X:=⟨some d,none,.i (.mov (.tmp s))⟩
abbrev xl (d s:Nat):X:=⟨some d,none,.i (.ld true 1 (.tmp s))⟩
abbrev xf (d k s:Nat):X:=⟨some d,none,.i (.fld k (.tmp s))⟩
abbrev xx (d z a b:Nat):X:=⟨some d,none,.i (.idx z (.tmp a) (.tmp b))⟩
abbrev xn1 (d s:Nat):X:=⟨some d,none,.i (.len (.tmp s))⟩
abbrev xa (d s:Nat):X:=⟨some d,none,.i (.bin .add (.tmp s) (.cst (.int .i64 1)))⟩
abbrev xs1 (d a b:Nat):X:=⟨some d,none,.i (.bin .lss (.tmp a) (.tmp b))⟩
section
variable {P:Program} {G:World->Prop} {g k d:Nat} {gd:Option (Nat×Bool)} {q:Q} {xs:List X} {tl:List (Nat×AV)} {ol:List (Oid×Option Ob)} {bad:List (Nat×Nat)} {ra:List Rec} {da:List (List Oid)} {Kf:List (Nat×AV)->List (Oid×Option Ob)->Prop}
theorem dzc {fo:Opd} {ys:List Opd} {tys:List (List (Option Ty))} {F:FuncId} {rv:RV} {args:List AV} (v:AV) (us:List (Oid×Option Ob)) (zs:List AV) (hc:A7 P G F args rv) (h3:XD P G bad g (k+1) xs ((d,v) :: tl) (us.reverseAux ol) ((1,v,us) :: ra) ((rdX (Am tl) (Ah ol) ⟨some d,none,.call fo ys tys⟩) :: da) Kf) (h1:Ma (gnd (only (rdX (Am tl) (Ah ol) ⟨some d,none,.call fo ys tys⟩) (Ah ol)) 8) zs=some zs:=by kernel_rfl) (hb:A9 P F=true:=by kernel_rfl) (hfo:fo.ev (Am tl)=.fn F []:=by kernel_rfl) (hz:(ys++([]:List AV).map Opd.cst).map (Opd.ev (Am tl))=zs:=by kernel_rfl) (hn:N7 tys zs=args:=by kernel_rfl) (hr:rv.out (Dc ((d,0),g+k)) zs=(v,us):=by kernel_rfl) (hx:Eg us=true:=by rfl) (hni:rv.noI=true:=by kernel_rfl):XD P G bad g k (⟨some d,none,.call fo ys tys⟩ :: xs) tl ol ra da Kf:=Rv (caps:=[]) (args0:=zs) v us zs args trivial h1 hc hb h3 hfo hz hn hr hx hni
theorem zI {sz:Nat} {x i:Opd} (t:Ty) {zs:List t.D} {y:t.D} {j:Nat} (hy:zs[j]? =some y) (h3:XW P G g (k+1) xs ((d,.telt none t y 0) :: tl) ol Kf) (hx:(x.ev (Am tl)).un=.tree t zs:=by kernel_rfl) (hi:i.ev (Am tl)=.int .i64 (j:Int):=by kernel_rfl) (hs:sz=t.size:=by rfl) (he:(x.ev (Am tl)).tag=none:=by kernel_rfl):XW P G g k (⟨some d,none,.i (.idx sz x i)⟩ :: xs) tl ol Kf:=rs0 _ (Ad3 hx hi hs (Int.natCast_nonneg _) rfl hy he) h3
theorem dzI {sz:Nat} {x i:Opd} (t:Ty) {zs:List t.D} {y:t.D} {j:Nat} (hy:zs[j]? =some y) (h3:XD P G bad g (k+1) xs ((d,.telt none t y 0) :: tl) ol ((0,.telt none t y 0,[]) :: ra) ((rdX (Am tl) (Ah ol) ⟨some d,none,.i (.idx sz x i)⟩) :: da) Kf) (hx:(x.ev (Am tl)).un=.tree t zs:=by kernel_rfl) (hi:i.ev (Am tl)=.int .i64 (j:Int):=by kernel_rfl) (hs:sz=t.size:=by rfl) (he:(x.ev (Am tl)).tag=none:=by kernel_rfl):XD P G bad g k (⟨some d,none,.i (.idx sz x i)⟩ :: xs) tl ol ra da Kf:=ds0 _ (Ad3 hx hi hs (Int.natCast_nonneg _) rfl hy he) h3
theorem zO {sz:Nat} {x i:Opd} (o:Oid) (t:Ty) (len:Nat) {j:Nat} (hl:j<len) (h3:XW P G g (k+1) xs ((d,.elt o j 0) :: tl) ol Kf) (hx:x.ev (Am tl)=.own o t 0 len:=by kernel_rfl) (hi:i.ev (Am tl)=.int .i64 (j:Int):=by kernel_rfl) (hs:sz=t.size:=by rfl):XW P G g k (⟨some d,none,.i (.idx sz x i)⟩ :: xs) tl ol Kf:=rs0 _ (Ac2 hx hi hs (Int.natCast_nonneg _) rfl hl) h3
theorem dzO {sz:Nat} {x i:Opd} (o:Oid) (t:Ty) (len:Nat) {j:Nat} (hl:j<len) (h3:XD P G bad g (k+1) xs ((d,.elt o j 0) :: tl) ol ((0,.elt o j 0,[]) :: ra) ((rdX (Am tl) (Ah ol) ⟨some d,none,.i (.idx sz x i)⟩) :: da) Kf) (hx:x.ev (Am tl)=.own o t 0 len:=by kernel_rfl) (hi:i.ev (Am tl)=.int .i64 (j:Int):=by kernel_rfl) (hs:sz=t.size:=by rfl):XD P G bad g k (⟨some d,none,.i (.idx sz x i)⟩ :: xs) tl ol ra da Kf:=ds0 _ (Ac2 hx hi hs (Int.natCast_nonneg _) rfl hl) h3
theorem zE {x:Opd} (i:Oid) {ws:List Int} {j:Nat} {z:Int} (hz:ws[j]? =some z) (h3:XW P G g (k+1) xs ((d,.int .i64 z) :: tl) ol Kf) (hx:x.ev (Am tl)=.elt i j 0:=by kernel_rfl) (hob:Ah ol i=some (.arr 3 .int ws):=by kernel_rfl):XW P G g k (⟨some d,none,.i (.ld true 1 x)⟩ :: xs) tl ol Kf:=rsl _ (O4 (k:=0) (t:=.int) hx hob hz rfl) h3
theorem dzE {x:Opd} (i:Oid) {ws:List Int} {j:Nat} {z:Int} (hz:ws[j]? =some z) (h3:XD P G bad g (k+1) xs ((d,.int .i64 z) :: tl) ol ((1,.int .i64 z,[]) :: ra) ((rdX (Am tl) (Ah ol) ⟨some d,none,.i (.ld true 1 x)⟩) :: da) Kf) (hx:x.ev (Am tl)=.elt i j 0:=by kernel_rfl) (hob:only (rdX (Am tl) (Ah ol) ⟨some d,none,.i (.ld true 1 x)⟩) (Ah ol) i=some (.arr 3 .int ws):=by kernel_rfl):XD P G bad g k (⟨some d,none,.i (.ld true 1 x)⟩ :: xs) tl ol ra da Kf:=dsl _ (O4 (k:=0) (t:=.int) hx hob hz rfl) h3
theorem zS {x y:Opd} (i:Oid) {ws:List Int} {j:Nat} {z:Int} (z1:Int) (hz:ws[j]? =some z) (h3:XW P G g (k+1) xs tl ((i,some (.arr 3 .int (ws.set j z1))) :: (i,none) :: ol) Kf) (hx:x.ev (Am tl)=.elt i j 0:=by kernel_rfl) (hob:Ah ol i=some (.arr 3 .int ws):=by kernel_rfl) (hy:y.ev (Am tl)=.int .i64 z1:=by kernel_rfl):XW P G g k (⟨none,none,.st true 1 x y⟩ :: xs) tl ol Kf:=Akm _ _ _ (Aa4 (k:=0) (t:=.int) (cs:=[.int .i64 z1]) (x1:=z1) hx hob hz (by rw [hy]; rfl) rfl) h3
theorem dzS {x y:Opd} (i:Oid) {ws:List Int} {j:Nat} {z:Int} (z1:Int) (hz:ws[j]? =some z) (h3:XD P G bad g (k+1) xs tl ((i,some (.arr 3 .int (ws.set j z1))) :: (i,none) :: ol) ((2,.any,[(i,none),(i,some (.arr 3 .int (ws.set j z1)))]) :: ra) ((rdX (Am tl) (Ah ol) ⟨none,none,.st true 1 x y⟩) :: da) Kf) (hx:x.ev (Am tl)=.elt i j 0:=by kernel_rfl) (hob:only (rdX (Am tl) (Ah ol) ⟨none,none,.st true 1 x y⟩) (Ah ol) i=some (.arr 3 .int ws):=by kernel_rfl) (hy:y.ev (Am tl)=.int .i64 z1:=by kernel_rfl):XD P G bad g k (⟨none,none,.st true 1 x y⟩ :: xs) tl ol ra da Kf:=Aa9 _ _ _ (Aa4 (k:=0) (t:=.int) (cs:=[.int .i64 z1]) (x1:=z1) hx hob hz (by rw [hy]; rfl) rfl) h3
theorem zB {x y:Opd} {by_:Nat} (j q:Oid) (ws:List Int) (z:Int) (h:ws.length+1<=1073741824∧(ws.length+1)*by_<=140737488355328) (h3:XW P G g (k+1) xs ((d,.own (j.1,g+k) .int 0 (ws++[z]).length) :: tl) (((j.1,g+k),some (.arr 3 .int (ws++[z]))) :: (j,none) :: ol) Kf) (hx:x.ev (Am tl)=.own j .int 0 ws.length:=by kernel_rfl) (hob:Ah ol j=some (.arr 3 .int ws):=by kernel_rfl) (hy:y.ev (Am tl)=.own q .int 0 1:=by kernel_rfl) (hq:Ah ol q=some (.arr 3 .int [z]):=by kernel_rfl):XW P G g k (⟨some d,none,.append 3 .int by_ x y⟩ :: xs) tl ol Kf:=rs2 _ _ _ _ (Ok (t:=.int) (ys:=[z]) hx hob rfl hy (Ac8 hq rfl) rfl h) h3
theorem zV {x y:Opd} {by_:Nat} (o q p:Oid) (ws:List (List Int)) (cs:List AV) (h:ws.length+1<=1073741824∧(ws.length+1)*by_<=140737488355328) (h3:XW P G g (k+1) xs ((d,.own (o.1,g+k) (.slice .int) 0 (ws.length+1)) :: tl) (((o.1,g+k),some (.vec 35 1 (ws.length+1) (hdL p .int ws++cs))) :: (o,none) :: ol) Kf) (hc:cs.length=1:=by rfl) (hx:x.ev (Am tl)=.own o (.slice .int) 0 ws.length:=by kernel_rfl) (hob:Ah ol o=some (.vec 35 1 ws.length (hdL p .int ws)):=by kernel_rfl) (hy:y.ev (Am tl)=.own q (.slice .int) 0 1:=by kernel_rfl) (hq:Ah ol q=some (.vec 35 1 1 cs):=by kernel_rfl) (he:Hg (some (.vec 35 1 (ws.length+1) (hdL p .int ws++cs)))=true:=by rfl):XW P G g k (⟨some d,none,.appV 35 (.slice .int) by_ x y⟩ :: xs) tl ol Kf:=rs2 _ _ _ _ (Afd (t2:=.slice .int) hx hob rfl hy hq hc h) h3 he
theorem dzV {x y:Opd} {by_:Nat} (o q p:Oid) (ws:List (List Int)) (cs:List AV) (h:ws.length+1<=1073741824∧(ws.length+1)*by_<=140737488355328) (h3:XD P G bad g (k+1) xs ((d,.own (o.1,g+k) (.slice .int) 0 (ws.length+1)) :: tl) (((o.1,g+k),some (.vec 35 1 (ws.length+1) (hdL p .int ws++cs))) :: (o,none) :: ol) ((2,.own (o.1,g+k) (.slice .int) 0 (ws.length+1),[(o,none),((o.1,g+k),some (.vec 35 1 (ws.length+1) (hdL p .int ws++cs)))]) :: ra) ((rdX (Am tl) (Ah ol) ⟨some d,none,.appV 35 (.slice .int) by_ x y⟩) :: da) Kf) (hc:cs.length=1:=by rfl) (hx:x.ev (Am tl)=.own o (.slice .int) 0 ws.length:=by kernel_rfl) (hob:only (rdX (Am tl) (Ah ol) ⟨some d,none,.appV 35 (.slice .int) by_ x y⟩) (Ah ol) o=some (.vec 35 1 ws.length (hdL p .int ws)):=by kernel_rfl) (hy:y.ev (Am tl)=.own q (.slice .int) 0 1:=by kernel_rfl) (hq:only (rdX (Am tl) (Ah ol) ⟨some d,none,.appV 35 (.slice .int) by_ x y⟩) (Ah ol) q=some (.vec 35 1 1 cs):=by kernel_rfl) (he:Hg (some (.vec 35 1 (ws.length+1) (hdL p .int ws++cs)))=true:=by rfl):XD P G bad g k (⟨some d,none,.appV 35 (.slice .int) by_ x y⟩ :: xs) tl ol ra da Kf:=ds2 _ _ _ _ (Afd (t2:=.slice .int) hx hob rfl hy hq hc h) h3 he
theorem zA {x y:Opd} {j:Nat} (h:j+1<4611686018427387904) (h3:XW P G g (k+1) xs ((d,.int .i64 ((j+1:Nat):Int)) :: tl) ol Kf) (hx:x.ev (Am tl)=.int .i64 j:=by kernel_rfl) (hy:y.ev (Am tl)=.int .i64 1:=by kernel_rfl):XW P G g k (⟨some d,none,.i (.bin .add x y)⟩ :: xs) tl ol Kf:=rs0 _ (Alr hx hy h) h3
end
section
variable {n:Nat} {d:Option Nat} {f:Nat->AV} {ob:Oid->Option Ob}
theorem zi {sz:Nat} {x i:Opd} {t:Ty} {xs:List t.D} {y:t.D} {k:IntKind} {m:Int} {j:Nat} (h0:0<=m) (hy:xs[j]? =some y) (hx:(x.ev f).un=.tree t xs:=by kernel_rfl) (hi:i.ev f=.int k m:=by kernel_rfl) (hs:sz=t.size:=by rfl) (hj:m.toNat=j:=by rfl) {e:Option (Nat->Prop)} (he:(x.ev f).tag=e:=by kernel_rfl):Bd n ⟨d,none,.i (.idx sz x i)⟩ f ob=some (0,.telt e t y 0,[]):=Ad3 hx hi hs h0 hj hy he
theorem zo {sz:Nat} {x i:Opd} {t:Ty} {o:Oid} {len:Nat} {k:IntKind} {m:Int} {j:Nat} (h0:0<=m) (hl:j<len) (hx:x.ev f=.own o t 0 len:=by kernel_rfl) (hi:i.ev f=.int k m:=by kernel_rfl) (hs:sz=t.size:=by rfl) (hj:m.toNat=j:=by rfl):Bd n ⟨d,none,.i (.idx sz x i)⟩ f ob=some (0,.elt o j 0,[]):=Ac2 hx hi hs h0 hj hl
theorem zg {s:Nat} {b c:Bool} {q:Q} {r:Option Rec} (hc:c=b) (hs:f s=.bool c:=by kernel_rfl) (h:Bd n ⟨d,none,q⟩ f ob=r:=by kernel_rfl):Bd n ⟨d,some (s,b),q⟩ f ob=r:=Js hs hc h
theorem zT {c x y:Opd} {b:Bool} (hb:b=true) (h:c.ev f=.bool b:=by kernel_rfl):Bd n ⟨d,none,.i (.pick c x y)⟩ f ob=some (0,x.ev f,[]):=Ajd h hb
theorem zF {c x y:Opd} {b:Bool} (hb:b=false) (h:c.ev f=.bool b:=by kernel_rfl):Bd n ⟨d,none,.i (.pick c x y)⟩ f ob=some (0,y.ev f,[]):=Ajk h hb
theorem zl {vs:List Value} {c:AV} {l:RL} (h:Oq ob c=some l:=by kernel_rfl):LeafR vs ob c l:=Amj h
end
theorem zj {α:Type} {a b:α} (h:some a=some b):a=b:=osj h
theorem wr_ {G:World->Prop} {S:St} {K:St->Prop} (h:K S):∃ S',WeakG G S S'∧K S':=⟨S,WeakG.refl _,h⟩
end Go.Proofs.YtjnaikadmjocbaaDoor
namespace Go.Proofs.YtjnaikadmjocbaaDoor
open Go.RowKit Go.Deep
inductive Ctl (σ ρ:Type) where
 | next (s:σ)
 | out (r:ρ)
def Ctl.then {σ β:Type} (k:σ->Option β):Ctl σ β->Option β
 | .next t=>k t
 | .out r=>some r
section
variable {α β σ τ ρ:Type}
def og (c:Prop) [Decidable c] (k:Option α):Option α:=if c then k else none
theorem As {c:Prop} [Decidable c] {k:Option α} {r:α} (h:og c k=some r):c∧k=some r:=by
 unfold og at h;split at h
 ·rename_i hc; exact ⟨hc,h⟩
 ·cases h
theorem Ap {c:Prop} [Decidable c] (h:c) (k:Option α):og c k=k:=if_pos h
theorem Ae {o:Option α} {f:α->Option β} {b:β} (h:o.bind f=some b):∃ a,o=some a∧f a=some b:=Option.bind_eq_some_iff.1 h
theorem Ad {c:Bool} {a b:Option α} {r:α} (h:cond c a b=some r):(c=true∧a=some r)∨(c=false∧b=some r):=by
 cases c
 ·exact .inr ⟨rfl,h⟩
 ·exact .inl ⟨rfl,h⟩
def Km (a:Option (Ctl τ β)) (k:τ->Option β):Option β :=
 a.bind (Ctl.then k)
theorem Af0 {a:Option (Ctl τ β)} {k:τ->Option β} {r:β} (h:Km a k=some r):∃ v,a=some v∧Ctl.then k v=some r:=Ae h
def A0 (body:σ->Option (Ctl σ ρ)):Nat->σ->Option ρ
 | 0,_=>none
 | n+1,s=>(body s).bind (Ctl.then (A0 body n))
theorem Ad9 {body:σ->Option (Ctl σ ρ)} {n:Nat} {s:σ} {v:ρ} (h:A0 body (n+1) s=some v):∃ c,body s=some c∧Ctl.then (A0 body n) c=some v:=Ae h
theorem Ad1 {body:σ->Option (Ctl σ ρ)} {s:σ} {v:ρ} (h:A0 body 0 s=some v):False:=by cases h
def F4 (xs:List α) (n:Int):Option α:=if 0<=n then xs[n.toNat]? else none
theorem Ax {xs:List α} {k:Nat} {x:α} (h:xs[k]? =some x):k<xs.length:=(gSi.1 h).1
theorem Bv {xs:List α} {n:Int} {x:α} (h:F4 xs n=some x):0<=n∧n<xs.length∧xs[n.toNat]? =some x:=by
 unfold F4 at h;split at h
 ·rename_i h0;have:=Ax h;exact ⟨h0,by omega,h⟩
 ·cases h
theorem Fn {xs:List α} {n:Int} (h:0<=n):F4 xs n=xs[n.toNat]?:=if_pos h
end
section
variable {P:Program} {G:World->Prop} {σ τ β ρ:Type}
theorem Aw {x y:AC} {R:AE->St->Prop} {S:St} {A:Option τ} {k:τ->Option β} {r:β} (h:A.bind k=some r) (J:τ->St->Prop) (h1:∀ t,A=some t->awp P G x (Is (fun S'=>∃ S'',WeakG G S' S''∧J t S'') R) S) (h2:∀ t S'',J t S''->k t=some r->awp P G y R S''):awp P G (.seq x y) R S:=by
 obtain ⟨t,ha,hk⟩:=Ae h;exact X5 (J t) (h1 t ha) fun S'' hj=>h2 t S'' hj hk
theorem C7 {x y:AC} {R:AE->St->Prop} {S:St} {A:Option (Ctl τ β)} {k:τ->Option β} {r:β} (h:Km A k=some r) (J:τ->St->Prop)
  (h1:∀ v,A=some v->Ctl.then k v=some r->awp P G x (Is (fun S'=>∃ t S'',v=.next t∧WeakG G S' S''∧J t S'') R) S) (h2:∀ t S'',J t S''->k t=some r->awp P G y R S''):awp P G (.seq x y) R S:=by
 obtain ⟨v,ha,hk⟩:=Af0 h;refine X5 (fun S''=>∃ t,v=.next t∧J t S'') (Do (fun e S' hq=>?_) (h1 v ha hk)) fun S'' ⟨t,hv,hj⟩=>?_
 ·cases e with
  | normal=>obtain ⟨t,S'',hv,hw,hj⟩:=hq; exact ⟨S'',hw,t,hv,hj⟩
  | exit id=>exact hq
  | ret=>exact hq
 ·subst hv; exact h2 t S'' hj hk
theorem A1 {a:AC} {R:AE->St->Prop} {S:St} {body:σ->Option (Ctl σ ρ)} {fuel:Nat} {s0:σ} {v:ρ} (h:A0 body fuel s0=some v) (J:σ->St->Prop) (h0:∃ S0,WeakG G S S0∧J s0 S0)
  (h1:∀ n s S1 c,J s S1->body s=some c->Ctl.then (A0 body n) c=some v->awp P G a (Is (fun S2=>∃ s' S3,WeakG G S2 S3∧J s' S3∧A0 body n s'=some v) R) S1):awp P G (.loop a) R S:=by
 obtain ⟨S0,hw,hj⟩:=h0;refine Agx (fun (p:Nat×σ) S=>A0 body p.1 p.2=some v∧J p.2 S) (·.1) ⟨(fuel,s0),S0,hw,h,hj⟩ ?_;rintro ⟨n,s⟩ S1 ⟨hl,hj⟩;cases n with
 | zero=>exact (Ad1 hl).elim
 | succ n =>
  obtain ⟨c,hc,hn⟩:=Ad9 hl;refine Do (fun e S2 hq=>?_) (h1 n s S1 c hj hc hn);cases e with
  | normal=>obtain ⟨s',S3,hw,hj,hl⟩:=hq; exact ⟨(n,s'),S3,hw,⟨hl,hj⟩,Nat.lt_succ_self n⟩
  | exit id=>exact hq
  | ret=>exact hq
end
theorem E5 (n:Nat):0<=(n:Int):=by omega
end Go.Proofs.YtjnaikadmjocbaaDoor

namespace Go.Proofs.YtjnaikadmjocbaaDoor
open Go.RowKit Go.Deep
def Jd (a0:Int):Option Bool:=some (isF a0)
def Si (r:Bool):RV:=⟨false,[(false,[.sc (.bool r)])]⟩
theorem Gg {a0:Int} {r:Bool} (h:Jd a0=some r):A7 Tryd.prog Tab 55 [.int .i64 a0] (Si r):=by
 obtain rfl:=osj h;intro w im vs hG hr;obtain ⟨u1,_,rfl,h1,h2⟩:=hr;obtain rfl:_=[]:=h2;obtain rfl:u1=.int .i64 a0:=h1;refine (Ab7 a0 w (hG w (Below.refl _ _))).mono ?_;rintro e w' ⟨rfl,rfl⟩;exact ⟨_,rfl,Below.refl _ _,[_],[],⟨_,[],rfl,rfl,rfl,rfl,rfl⟩,⟨trivial,fun _=>rfl⟩,rfl⟩
end Go.Proofs.YtjnaikadmjocbaaDoor
namespace Go.Proofs.YtjnaikadmjocbaaDoor
open Go.RowKit Go.Deep
set_option maxRecDepth 4000
def Nr:AC :=
 (.seq (rg [xo 4 (qm (ci 0))])
 (.seq (rg [xm 5 1,xm 6 0,xn1 7 6,xo 8 (qb .sub (tm 5) (tm 7)),xm 1 8])
 (.seq (.seq (rg [xm 9 1,xo 10 (qb .lss (tm 9) (ci 0))])
 (.cond (tm 10)
  (.seq (rg [xo 4 (qm (ci (-1)))])
  .ret)
  .skip))
 (.seq (rg [xm 11 1,xm 4 11])
 .ret))))
def Xf:List Res:=[.tmp 4]
theorem Wt:At Tryd.prog Tryd.f52=some (Nr,Xf):=by kernel_rfl
def F9 (a0:List Int) (a1:Int):Option Int :=
 cond (decide (wI (a1 - (a0.length:Int))<0))
 (some (-1))
 (some (wI (a1 - (a0.length:Int))))
def Vg (r:Int):RV:=⟨false,[(false,[.sc (.int .i64 r)])]⟩
theorem Ux {a0:List Int} {a1 r:Int} (h:F9 a0 a1=some r):A7 Tryd.prog Tab 52 [tI a0,ai a1] (Vg r):=by
 refine A3 (by kernel_rfl) Tryd.func52 Wt (n:=12) (by kernel_rfl) (by simp) rfl ?_;unfold Nr;unfold F9 at h;refine An (An (Ab (An ?_)));rcases Ad h with ⟨q5,h⟩ | ⟨q5,h⟩
 ·have q5_:=of_decide_eq_true q5;refine Ag q5 (An (Al (tr_ ?_)));obtain rfl:=zj h;exact Bh [ai (-1)] (A5 rfl zl A4)
 have q5_:=of_decide_eq_false q5;refine Af q5 (Ak (tn_ (wr_ (An (Al ?_)))));obtain rfl:=zj h;exact Bh [ai (wI (a1 - (a0.length:Int)))] (A5 rfl zl A4)
def Ke:AC :=
 (.seq (.seq (rg [xm 8 4,xm 9 0,xn1 10 9,xs1 11 8 10])
 (.cond (tm 11)
  .skip
  (.exit 0)))
 (.seq (.block 1 (rg [xm 14 3,xm 15 4,xm 16 0,xm 17 4,xx 18 1 16 17,xl 19 18,xx 20 1 14 15,xn (qs (tm 20) (tm 19))]))
 (rg [xm 12 4,xa 13 12,xm 4 13])))
def Nv:AC :=
 (.seq (rg [xo 2 (qm (.cst .nils))])
 (.seq (rg [xm 5 0,xn1 6 5,xo 7 (.make 3 .int 8 (tm 6) (tm 6)),xm 3 7])
 (.seq (.seq (rg [xo 4 (qm (ci 0))])
 (.block 0 (.loop Ke)))
 (.seq (rg [xm 21 3,xm 2 21])
 .ret))))
def Wv:List Res:=[.tmp 2]
theorem Xj:At Tryd.prog Tryd.f16=some (Nv,Wv):=by kernel_rfl
def Ej (a0:List Int) (u0:Nat) (u1:List Int):Option (Ctl (Nat×List Int) (List Int)) :=
 cond (decide ((u0:Int)<(a0.length:Int)))
 ((a0[u0]?).bind fun x11 =>
 (u1[u0]?).bind fun x12 =>
 og (u0+1<4611686018427387904) <|
 some (Ctl.next (u0+1,u1.set u0 x11)))
 (some (Ctl.out u1))
def Cy (a0:List Int):Option (List Int) :=
 og (0<=(a0.length:Int)∧(a0.length:Int)<=(a0.length:Int)∧(a0.length:Int)<=1073741824∧(8:Int)*(a0.length:Int)<=140737488355328) <|
(A0 (fun s_:Nat×List Int=>Ej a0 s_.1 s_.2) 4611686018427387904 (0,List.replicate a0.length (0:Int))).bind fun u0 =>
some u0
def Vp (r:List Int):RV:=⟨false,[(false,[.new 3 .int r])]⟩
theorem Fg {a0 r:List Int} (h:Cy a0=some r):A7 Tryd.prog Tab 16 [tI a0] (Vp r):=by
 refine A3 (by kernel_rfl) Tryd.func16 Xj (n:=22) (by kernel_rfl) (by simp) rfl ?_;unfold Nv;unfold Cy at h;refine An (Ab ?_);obtain ⟨g3,h⟩:=As h;refine Aa 6 (rsB 2 (rs1 (oI 7 4 a0.length) (oi 7 4) (.arr 3 .int (List.replicate a0.length (0:Int))) (Zw (t:=.int) (k:=.i64) (k':=.i64) (m:=(a0.length:Int)) (m':=(a0.length:Int)) (by kernel_rfl) (by kernel_rfl) g3 rfl) (rsB 1 (Ar (tn_ (wr_ (Aw h (fun (u2:List Int) S_=>S_=⟨Am [(3,oI 0 1 u2.length)],Ah (Aq [(oi 0 1,.arr 3 .int u2)]),2⟩) ?_ ?_)))))))
 ·intro v_ h;refine An (Aj (A1 h (fun t_ S_=>∃ (u1:Nat),∃ (u0:List Int),t_=(u1,u0)∧S_=⟨Am [(0,tI a0),(3,oI 0 1 u0.length),(4,an u1)],Ah (Aq [(oi 0 1,.arr 3 .int u0)]),2⟩) ⟨_,(Br 3 (oI 7 4 a0.length) (oI 7 4 ((List.replicate a0.length (0:Int)).length)) (by kernel_rfl) (congrArg (fun z_=>((oI 7 4 z_):AV)) (List.length_replicate.symm:a0.length=(List.replicate a0.length (0:Int)).length))).trans (Ac [(oi 0 1,oi 7 4)]),⟨0,List.replicate a0.length (0:Int),rfl,rfl⟩⟩ ?_));rintro n_ _ _ c_ ⟨u1,u0,rfl,rfl⟩ h hn6
  (try dsimp only at h);unfold Ej at h;unfold Ke;refine Ab (An ?_);rcases Ad h with ⟨q9,h⟩ | ⟨q9,h⟩
  ·have q9_:=of_decide_eq_true q9;refine Ag q9 (Ak (tn_ (wr_ (Ab (Aj ?_)))));obtain ⟨x11,e11,h⟩:=Ae h;obtain ⟨x12,e12,h⟩:=Ae h;refine Aa 14 (rsB 4 (zI .int e11 (rsB 1 (zO (oi 0 1) .int u0.length (Ax e12) (zS (oi 0 1) (x11) e12 (Ar (bn_ (tn_ (wr_ ?_)))))))));obtain ⟨g13,h⟩:=As h;refine Aa 17 (rsB 1 (zA g13 (rsB 1 (Ar (tn_ ?_)))));obtain rfl:=zj h;exact ⟨(u1+1,u0.set u1 x11),_,(Br 3 (oI 0 1 u0.length) (oI 0 1 ((u0.set u1 x11).length)) (by kernel_rfl) (congrArg (fun z_=>((oI 0 1 z_):AV)) (((rfl:u0.length=u0.length).trans List.length_set.symm):u0.length=(u0.set u1 x11).length))).trans (Ac []),⟨u1+1,u0.set u1 x11,rfl,rfl⟩,hn6⟩
  have q9_:=of_decide_eq_false q9;refine Af q9 (Az (te_ (te_ (be_ (tn_ ?_)))));obtain rfl:=zj h;have h:=hn6
  (try dsimp only at h);obtain rfl:=zj h;exact ⟨_,Ac [],rfl⟩
 rintro u2 _ rfl h
 (try dsimp only at h);refine An (Al ?_);obtain rfl:=zj h;exact Bh [oI 0 1 u2.length] (A5 rfl (Md (by kernel_rfl) rfl) A4)
def Ky:AC :=
 (.seq (.seq (rg [xm 11 5,xm 12 0,xn1 13 12,xs1 14 11 13])
 (.cond (tm 14)
  .skip
  (.exit 0)))
 (.seq (.block 1 (.seq (.region [xm 17 0,xm 18 5,xx 19 1 17 18,xl 20 19,xm 21 1,xm 22 5,xx 23 1 21 22,xl 24 23,xo 25 (qb .neq (tm 20) (tm 24))] true [])
 (.cond (tm 25)
  (.seq (rg [xo 4 (qm (cb false))])
  .ret)
  .skip)))
 (rg [xm 15 5,xa 16 15,xm 5 16])))
def Ns:AC :=
 (.seq (rg [xo 4 (qm (cb false))])
 (.seq (.seq (rg [xm 6 0,xn1 7 6,xm 8 1,xn1 9 8,xo 10 (qb .neq (tm 7) (tm 9))])
 (.cond (tm 10)
  (.seq (rg [xo 4 (qm (cb false))])
  .ret)
  .skip))
 (.seq (.seq (rg [xo 5 (qm (ci 0))])
 (.block 0 (.loop Ky)))
 (.seq (rg [xo 4 (qm (cb true))])
 .ret))))
def Xe:List Res:=[.tmp 4]
theorem W4:At Tryd.prog Tryd.f19=some (Ns,Xe):=by kernel_rfl
theorem B3:A9 Tryd.prog 19=true:=by kernel_rfl
def Ee (a0 a1:List Int) (u0:Nat):Option (Ctl Nat (Ctl Unit Bool)) :=
 cond (decide ((u0:Int)<(a0.length:Int)))
 ((a0[u0]?).bind fun x14 =>
 (a1[u0]?).bind fun x15 =>
 cond (x14 !=x15)
  (some (Ctl.out (Ctl.out false)))
  (og (u0+1<4611686018427387904) <|
  some (Ctl.next (u0+1))))
 (some (Ctl.out (Ctl.next ())))
def Cv (a0 a1:List Int):Option Bool :=
 cond ((a0.length:Int) !=(a1.length:Int))
 (some false)
 (Km (A0 (fun s_:Nat=>Ee a0 a1 s_) 4611686018427387904 0) fun _ =>
 some true)
def Ve (r:Bool):RV:=⟨false,[(false,[.sc (.bool r)])]⟩
theorem B0 {a0 a1:List Int} {r:Bool} (h:Cv a0 a1=some r):A7 Tryd.prog Tab 19 [tI a0,tI a1] (Ve r):=by
 refine A3 (by kernel_rfl) Tryd.func19 W4 (n:=26) (by kernel_rfl) (by simp) rfl ?_;unfold Ns;unfold Cv at h;refine An (Ab (An ?_));rcases Ad h with ⟨q4,h⟩ | ⟨q4,h⟩
 ·refine Ag q4 (An (Al (tr_ ?_)));obtain rfl:=zj h;exact Bh [.bool false] (A5 rfl zl A4)
 refine Af q4 (Ak (tn_ (wr_ (C7 h (fun (_:Unit) S_=>S_=⟨Am [],Ah (Aq []),2⟩) ?_ ?_))))
 ·intro v_ h hk6;refine An (Aj (A1 h (fun (u0:Nat) S_=>S_=⟨Am [(0,tI a0),(1,tI a1),(5,an u0)],Ah (Aq []),2⟩) ⟨_,Ac [],rfl⟩ ?_));rintro n_ u0 _ c_ rfl h hn8
  (try dsimp only at h);unfold Ee at h;unfold Ky;refine Ab (An ?_);rcases Ad h with ⟨q11,h⟩ | ⟨q11,h⟩
  ·have q11_:=of_decide_eq_true q11;refine Ag q11 (Ak (tn_ (wr_ (Ab (Aj (Ab ?_))))));obtain ⟨x14,e14,h⟩:=Ae h;obtain ⟨x15,e15,h⟩:=Ae h;refine Bi 15 (dz0 (tI a0) (dz0 (an u0) (dzI .int e14 (dz0 (ai x14) (dz0 (tI a1) (dz0 (an u0) (dzI .int e15 (dz0 (ai x15) (dz0 (.bool (x14 !=x15)) (Nm (Cn (by kernel_rfl)) (tn_ (wr_ ?_))))))))))));rcases Ad h with ⟨q16,h⟩ | ⟨q16,h⟩
   ·refine Ag q16 (An (Al (br_ (tr_ (tr_ (br_ (tr_ ?_)))))));obtain rfl:=zj h;have h:=hn8
    (try dsimp only at h);obtain rfl:=zj h;have h:=hk6
    (try dsimp only at h);obtain rfl:=zj h;exact Bh [.bool false] (A5 rfl zl A4)
   refine Af q16 (Ak (bn_ (tn_ (wr_ ?_))));obtain ⟨g18,h⟩:=As h;refine Aa 18 (rsB 1 (zA g18 (rsB 1 (Ar (tn_ ?_)))));obtain rfl:=zj h;exact ⟨u0+1,_,Ac [],rfl,hn8⟩
  have q11_:=of_decide_eq_false q11;refine Af q11 (Az (te_ (te_ (be_ (tn_ ?_)))));obtain rfl:=zj h;have h:=hn8
  (try dsimp only at h);obtain rfl:=zj h;exact ⟨(),_,rfl,Ac [],rfl⟩
 rintro _ _ rfl h
 (try dsimp only at h);refine An (Al ?_);obtain rfl:=zj h;exact Bh [.bool true] (A5 rfl zl A4)
def Ix:AC :=
 (.seq (.seq (rg [xm 6 5,xm 7 0,xn1 8 7,xs1 9 6 8])
 (.cond (tm 9)
  .skip
  (.exit 0)))
 (.seq (.block 1 (.seq (rg [xm 12 0,xm 13 5,xm 14 1,xx 15 1 12 13,xn (qs (tm 15) (tm 14))])
 (rg [xm 16 1,xa 17 16,xm 1 17])))
 (rg [xm 10 5,xa 11 10,xm 5 11])))
def L0:AC :=
 (.seq (rg [xo 4 (qm (ci 0))])
 (.seq (.seq (rg [xo 5 (qm (ci 0))])
 (.block 0 (.loop Ix)))
 (.seq (rg [xm 18 1,xm 4 18])
 .ret)))
def Su:List Res:=[.tmp 4]
theorem Sv:At Tryd.prog Tryd.f21=some (L0,Su):=by kernel_rfl
theorem Hh:A9 Tryd.prog 21=true:=by kernel_rfl
def Bx  (u2:Int) (u0:Nat) (u1:List Int):Option (Ctl (Int×Nat×List Int) (Int×List Int)) :=
 cond (decide ((u0:Int)<(u1.length:Int)))
 ((u1[u0]?).bind fun x11 =>
 og (u0+1<4611686018427387904) <|
 some (Ctl.next (wI (u2+1),u0+1,u1.set u0 u2)))
 (some (Ctl.out (u2,u1)))
def B7 (a0:List Int) (a1:Int):Option (List Int×Int) :=
 (A0 (fun s_:Int×Nat×List Int=>Bx s_.1 s_.2.1 s_.2.2) 4611686018427387904 (a1,0,a0)).bind fun (u0,l3_p0) =>
some (l3_p0,u0)
theorem Hc {a0:List Int} {a1:Int} {r:List Int×Int} (h:B7 a0 a1=some r) {n_a0:Nat} (hn_a0:n_a0=a0.length):G7 Tryd.prog Tab 21 [oI 0 0 n_a0,ai a1] [(oi 0 0,.arr 3 .int a0)] (ai r.2) [(oi 0 0,.arr 3 .int r.1)]:=by
 refine Eb (by kernel_rfl) Tryd.func21 Sv (n:=19) (by kernel_rfl) (by simp) rfl (by kernel_rfl) ⟨trivial,trivial⟩ ⟨trivial,trivial⟩ ?_;unfold L0;unfold B7 at h;refine An (Aw h (fun t_ S_=>∃ (u3:Int),∃ (l3_p0:List Int),t_=(u3,l3_p0)∧S_=⟨Am [(1,ai u3)],Ah (Aq [(oi 0 0,.arr 3 .int l3_p0)]),2⟩) ?_ ?_)
 ·intro v_ h;refine An (Aj (A1 h (fun t_ S_=>∃ (u1:Int),∃ (u2:Nat),∃ (u0:List Int),t_=(u1,u2,u0)∧S_=⟨Am [(0,oI 0 0 u0.length),(1,ai u1),(5,an u2)],Ah (Aq [(oi 0 0,.arr 3 .int u0)]),2⟩) ⟨_,(Br 0 (oI 0 0 n_a0) (oI 0 0 a0.length) (by kernel_rfl) (congrArg (fun z_=>((oI 0 0 z_):AV)) (hn_a0:n_a0=a0.length))).trans (Ac []),⟨a1,0,a0,rfl,rfl⟩⟩ ?_));rintro n_ _ _ c_ ⟨u1,u2,u0,rfl,rfl⟩ h hn5
  (try dsimp only at h);unfold Bx at h;unfold Ix;refine Ab (An ?_);rcases Ad h with ⟨q8,h⟩ | ⟨q8,h⟩
  ·have q8_:=of_decide_eq_true q8;refine Ag q8 (Ak (tn_ (wr_ (Ab (Aj (Ab ?_))))));obtain ⟨x11,e11,h⟩:=Ae h;refine Aa 11 (rsB 3 (zO (oi 0 0) .int u0.length (Ax e11) (zS (oi 0 0) (u1) e11 (Ar (tn_ (wr_ (Aa 14 (rsB 3 (Ar (bn_ (tn_ (wr_ ?_))))))))))));obtain ⟨g12,h⟩:=As h;refine Aa 17 (rsB 1 (zA g12 (rsB 1 (Ar (tn_ ?_)))));obtain rfl:=zj h;exact ⟨(wI (u1+1),u2+1,u0.set u2 u1),_,(Br 0 (oI 0 0 u0.length) (oI 0 0 ((u0.set u2 u1).length)) (by kernel_rfl) (congrArg (fun z_=>((oI 0 0 z_):AV)) (((rfl:u0.length=u0.length).trans List.length_set.symm):u0.length=(u0.set u2 u1).length))).trans (Ac []),⟨wI (u1+1),u2+1,u0.set u2 u1,rfl,rfl⟩,hn5⟩
  have q8_:=of_decide_eq_false q8;refine Af q8 (Az (te_ (te_ (be_ (tn_ ?_)))));obtain rfl:=zj h;have h:=hn5
  (try dsimp only at h);obtain rfl:=zj h;exact ⟨_,Ac [],⟨u1,u0,rfl,rfl⟩⟩
 rintro _ _ ⟨u3,l3_p0,rfl,rfl⟩ h
 (try dsimp only at h);refine An (Al ?_);obtain rfl:=zj h;exact H7 [ai u3] (Ac (tl:=[(4,ai u3)]) (g:=2) [])
def Iu:AC :=
 (.seq (.seq (rg [xm 6 5,xm 7 0,xn1 8 7,xs1 9 6 8])
 (.cond (tm 9)
  .skip
  (.exit 0)))
 (.seq (.block 1 (.seq (.seq (rg [xm 12 0,xm 13 5,xx 14 1 12 13,xl 15 14,xm 16 1,xo 17 (qb .neq (tm 15) (tm 16))])
 (.cond (tm 17)
  (.seq (rg [xo 4 (qm (ci (-1)))])
  .ret)
  .skip))
 (rg [xm 18 1,xa 19 18,xm 1 19])))
 (rg [xm 10 5,xa 11 10,xm 5 11])))
def Lw:AC :=
 (.seq (rg [xo 4 (qm (ci 0))])
 (.seq (.seq (rg [xo 5 (qm (ci 0))])
 (.block 0 (.loop Iu)))
 (.seq (rg [xm 20 1,xm 4 20])
 .ret)))
def R8:List Res:=[.tmp 4]
theorem Sy:At Tryd.prog Tryd.f23=some (Lw,R8):=by kernel_rfl
theorem Kz:A9 Tryd.prog 23=true:=by kernel_rfl
def Bw (a0:List Int) (u1:Int) (u0:Nat):Option (Ctl (Int×Nat) (Ctl Int Int)) :=
 cond (decide ((u0:Int)<(a0.length:Int)))
 ((a0[u0]?).bind fun x11 =>
 cond (x11 !=u1)
  (some (Ctl.out (Ctl.out (-1))))
  (og (u0+1<4611686018427387904) <|
  some (Ctl.next (wI (u1+1),u0+1))))
 (some (Ctl.out (Ctl.next u1)))
def B6 (a0:List Int) (a1:Int):Option Int :=
 Km (A0 (fun s_:Int×Nat=>Bw a0 s_.1 s_.2) 4611686018427387904 (a1,0)) fun u0 =>
some u0
def Q1 (r:Int):RV:=⟨false,[(false,[.sc (.int .i64 r)])]⟩
theorem He {a0:List Int} {a1 r:Int} (h:B6 a0 a1=some r):A7 Tryd.prog Tab 23 [tI a0,ai a1] (Q1 r):=by
 refine A3 (by kernel_rfl) Tryd.func23 Sy (n:=21) (by kernel_rfl) (by simp) rfl ?_;unfold Lw;unfold B6 at h;refine An (C7 h (fun (u2:Int) S_=>S_=⟨Am [(1,ai u2)],Ah (Aq []),2⟩) ?_ ?_)
 ·intro v_ h hk2;refine An (Aj (A1 h (fun t_ S_=>∃ (u0:Int),∃ (u1:Nat),t_=(u0,u1)∧S_=⟨Am [(0,tI a0),(1,ai u0),(5,an u1)],Ah (Aq []),2⟩) ⟨_,Ac [],⟨a1,0,rfl,rfl⟩⟩ ?_));rintro n_ _ _ c_ ⟨u0,u1,rfl,rfl⟩ h hn4
  (try dsimp only at h);unfold Bw at h;unfold Iu;refine Ab (An ?_);rcases Ad h with ⟨q7,h⟩ | ⟨q7,h⟩
  ·have q7_:=of_decide_eq_true q7;refine Ag q7 (Ak (tn_ (wr_ (Ab (Aj (Ab (Ab ?_)))))));obtain ⟨x11,e11,h⟩:=Ae h;refine Aa 12 (rsB 2 (zI .int e11 (rsB 3 (Ar (tn_ (wr_ ?_))))));rcases Ad h with ⟨q12,h⟩ | ⟨q12,h⟩
   ·refine Ag q12 (An (Al (tr_ (br_ (tr_ (tr_ (br_ (tr_ ?_))))))));obtain rfl:=zj h;have h:=hn4
    (try dsimp only at h);obtain rfl:=zj h;have h:=hk2
    (try dsimp only at h);obtain rfl:=zj h;exact Bh [ai (-1)] (A5 rfl zl A4)
   refine Af q12 (Ak (tn_ (wr_ (Aa 15 (rsB 3 (Ar (bn_ (tn_ (wr_ ?_)))))))));obtain ⟨g14,h⟩:=As h;refine Aa 18 (rsB 1 (zA g14 (rsB 1 (Ar (tn_ ?_)))));obtain rfl:=zj h;exact ⟨(wI (u0+1),u1+1),_,Ac [],⟨wI (u0+1),u1+1,rfl,rfl⟩,hn4⟩
  have q7_:=of_decide_eq_false q7;refine Af q7 (Az (te_ (te_ (be_ (tn_ ?_)))));obtain rfl:=zj h;have h:=hn4
  (try dsimp only at h);obtain rfl:=zj h;exact ⟨u0,_,rfl,Ac [],rfl⟩
 rintro u2 _ rfl h
 (try dsimp only at h);refine An (Al ?_);obtain rfl:=zj h;exact Bh [ai u2] (A5 rfl zl A4)
def Rz:AC :=
 (.seq (rg [xo 6 (qm (cb false))])
 (.seq (rg [xm 7 0,xm 8 1,xo 9 (qb .geq (tm 7) (tm 8)),xm 10 9,⟨some 11,some (10,true),qm (tm 0)⟩,⟨some 12,some (10,true),qm (tm 2)⟩,⟨some 13,some (10,true),qb .leq (tm 11) (tm 12)⟩,xo 14 (.i (.pick (tm 10) (tm 13) (cb false))),xm 6 14])
 .ret))
def Abn:List Res:=[.tmp 6]
theorem Acw:At Tryd.prog Tryd.f37=some (Rz,Abn):=by kernel_rfl
theorem Es:A9 Tryd.prog 37=true:=by kernel_rfl
def Df (a0 a1 a2:Int):Option Bool :=
 (cond (decide (a1<=a0))
  (some (decide (a0<=a2)))
  (some false)).bind fun u0 =>
some u0
def Zi (r:Bool):RV:=⟨false,[(false,[.sc (.bool r)])]⟩
theorem B5 {a0 a1 a2:Int} {r:Bool} (h:Df a0 a1 a2=some r):A7 Tryd.prog Tab 37 [ai a0,ai a1,ai a2] (Zi r):=by
 refine A3 (by kernel_rfl) Tryd.func37 Acw (n:=15) (by kernel_rfl) (by simp) rfl ?_;unfold Rz;unfold Df at h;refine An (Aw h (fun (u0:Bool) S_=>S_=⟨Am [(6,.bool u0)],Ah (Aq []),2⟩) ?_ ?_)
 ·intro v_ h;rcases Ad h with ⟨q3,h⟩ | ⟨q3,h⟩
  ·have q3_:=of_decide_eq_true q3;refine Aa 11 (rsB 4 (rs0 (ai a0) (zg q3) (rs0 (ai a2) (zg q3) (rs0 (.bool (decide (a0<=a2))) (zg q3) (rs0 (.bool (decide (a0<=a2))) (zT q3) (rsB 1 (Ar (tn_ ?_))))))));obtain rfl:=zj h;exact ⟨_,Ac [],rfl⟩
  have q3_:=of_decide_eq_false q3;refine Aa 11 (rsB 4 (zs q3 (zs q3 (zs q3 (rs0 (.bool false) (zF q3) (rsB 1 (Ar (tn_ ?_))))))));obtain rfl:=zj h;exact ⟨_,Ac [],rfl⟩
 rintro u0 _ rfl h
 (try dsimp only at h);refine Al ?_;obtain rfl:=zj h;exact Bh [.bool u0] (A5 rfl zl A4)
def Kg:AC :=
 (.seq (.seq (rg [xm 7 3,xm 8 3,xo 9 (qb .mul (tm 7) (tm 8)),xm 10 0,xo 11 (qb .leq (tm 9) (tm 10))])
 (.cond (tm 11)
  .skip
  (.exit 0)))
 (.seq (.block 1 (.seq (rg [xm 14 0,xm 15 3,xo 16 (qb .rem (tm 14) (tm 15)),xo 17 (qb .eql (tm 16) (ci 0))])
 (.cond (tm 17)
  (.seq (rg [xo 2 (qm (cb false))])
  .ret)
  .skip)))
 (rg [xm 12 3,xa 13 12,xm 3 13])))
def N9:AC :=
 (.seq (rg [xo 2 (qm (cb false))])
 (.seq (.seq (rg [xm 4 0,xo 5 (qc 37 [tm 4,ci 2,ci 97] [[],[],[]]),xo 6 (.i (.not (tm 5)))])
 (.cond (tm 6)
  (.seq (rg [xo 2 (qm (cb false))])
  .ret)
  .skip))
 (.seq (.seq (rg [xo 3 (qm (ci 2))])
 (.block 0 (.loop Kg)))
 (.seq (rg [xo 2 (qm (cb true))])
 .ret))))
def Xh:List Res:=[.tmp 2]
theorem W0:At Tryd.prog Tryd.f61=some (N9,Xh):=by kernel_rfl
def D8 (a0:Int) (u0:Nat):Option (Ctl Nat (Ctl Unit Bool)) :=
 cond (decide (wI ((u0:Int)*(u0:Int))<=a0))
 (og ((u0:Int)≠0) <|
 cond ((Int.tmod a0 (u0:Int))==0)
  (some (Ctl.out (Ctl.out false)))
  (og (u0+1<4611686018427387904) <|
  some (Ctl.next (u0+1))))
 (some (Ctl.out (Ctl.next ())))
def Ge (a0:Int):Option Bool :=
 (Df a0 2 97).bind fun y4 =>
cond (!y4)
 (some false)
 (Km (A0 (fun s_:Nat=>D8 a0 s_) 4611686018427387904 2) fun _ =>
 some true)
def T8 (r:Bool):RV:=⟨false,[(false,[.sc (.bool r)])]⟩
theorem Jg {a0:Int} {r:Bool} (h:Ge a0=some r):A7 Tryd.prog Tab 61 [ai a0] (T8 r):=by
 refine A3 (by kernel_rfl) Tryd.func61 W0 (n:=18) (by kernel_rfl) (by simp) rfl ?_;unfold N9;unfold Ge at h;refine An (Ab (Ab ?_));obtain ⟨y4,h4,h⟩:=Ae h;refine Aa 5 (rsB 1 (zc (.bool y4) [] [ai a0,ai 2,ai 97] (B5 h4) (rsB 1 (Ar (tn_ (wr_ ?_))))));rcases Ad h with ⟨q5,h⟩ | ⟨q5,h⟩
 ·refine Ag q5 (An (Al (tr_ ?_)));obtain rfl:=zj h;exact Bh [.bool false] (A5 rfl zl A4)
 refine Af q5 (Ak (tn_ (wr_ (C7 h (fun (_:Unit) S_=>S_=⟨Am [],Ah (Aq []),2⟩) ?_ ?_))))
 ·intro v_ h hk7;refine An (Aj (A1 h (fun (u0:Nat) S_=>S_=⟨Am [(0,ai a0),(3,an u0)],Ah (Aq []),2⟩) ⟨_,Ac [],rfl⟩ ?_));rintro n_ u0 _ c_ rfl h hn9
  (try dsimp only at h);unfold D8 at h;unfold Kg;refine Ab (An ?_);rcases Ad h with ⟨q12,h⟩ | ⟨q12,h⟩
  ·have q12_:=of_decide_eq_true q12;refine Ag q12 (Ak (tn_ (wr_ (Ab (Aj (Ab ?_))))));obtain ⟨g15,h⟩:=As h;refine Aa 11 (rsB 2 (rs0 (ai (Int.tmod a0 (u0:Int))) (P8 (k:=.i64) (a:=a0) (b:=(u0:Int)) (by kernel_rfl) (by kernel_rfl) g15) (rsB 1 (Ar (tn_ (wr_ ?_))))));rcases Ad h with ⟨q16,h⟩ | ⟨q16,h⟩
   ·refine Ag q16 (An (Al (br_ (tr_ (tr_ (br_ (tr_ ?_)))))));obtain rfl:=zj h;have h:=hn9
    (try dsimp only at h);obtain rfl:=zj h;have h:=hk7
    (try dsimp only at h);obtain rfl:=zj h;exact Bh [.bool false] (A5 rfl zl A4)
   refine Af q16 (Ak (bn_ (tn_ (wr_ ?_))));obtain ⟨g18,h⟩:=As h;refine Aa 14 (rsB 1 (zA g18 (rsB 1 (Ar (tn_ ?_)))));obtain rfl:=zj h;exact ⟨u0+1,_,Ac [],rfl,hn9⟩
  have q12_:=of_decide_eq_false q12;refine Af q12 (Az (te_ (te_ (be_ (tn_ ?_)))));obtain rfl:=zj h;have h:=hn9
  (try dsimp only at h);obtain rfl:=zj h;exact ⟨(),_,rfl,Ac [],rfl⟩
 rintro _ _ rfl h
 (try dsimp only at h);refine An (Al ?_);obtain rfl:=zj h;exact Bh [.bool true] (A5 rfl zl A4)
def Ly:AC :=
 (.seq (rg [xs1 12 11 10])
 (.seq (.cond (tm 12)
  .skip
  (.exit 0))
 (.seq (.block 1 (.seq (rg [xx 13 1 9 11,xl 14 13,xm 8 14])
 (.seq (rg [xm 15 8,xm 16 1,xm 17 2,xo 18 (qc 37 [tm 15,tm 16,tm 17] [[],[],[]]),xo 19 (.i (.not (tm 18)))])
 (.cond (tm 19)
  (.seq (rg [xo 6 (qm (cb false))])
  .ret)
  .skip))))
 (rg [xa 20 11,xm 11 20]))))
def P7:AC :=
 (.seq (rg [xo 6 (qm (cb false))])
 (.seq (.seq (rg [xm 9 0,xn1 10 9,xo 11 (qm (ci 0))])
 (.block 0 (.loop Ly)))
 (.seq (rg [xo 6 (qm (cb true))])
 .ret)))
def Zr:List Res:=[.tmp 6]
theorem Aat:At Tryd.prog Tryd.f82=some (P7,Zr):=by kernel_rfl
def Gk (a0:List Int) (a1 a2:Int) (u0:Nat):Option (Ctl Nat (Ctl Unit Bool)) :=
 cond (decide ((u0:Int)<(a0.length:Int)))
 ((a0[u0]?).bind fun x10 =>
 (Df x10 a1 a2).bind fun y12 =>
 cond (!y12)
  (some (Ctl.out (Ctl.out false)))
  (og (u0+1<4611686018427387904) <|
  some (Ctl.next (u0+1))))
 (some (Ctl.out (Ctl.next ())))
def Gw (a0:List Int) (a1 a2:Int):Option Bool :=
 Km (A0 (fun s_:Nat=>Gk a0 a1 a2 s_) 4611686018427387904 0) fun _ =>
some true
def Wu (r:Bool):RV:=⟨false,[(false,[.sc (.bool r)])]⟩
theorem Xa {a0:List Int} {a1 a2:Int} {r:Bool} (h:Gw a0 a1 a2=some r):A7 Tryd.prog Tab 82 [tI a0,ai a1,ai a2] (Wu r):=by
 refine A3 (by kernel_rfl) Tryd.func82 Aat (n:=21) (by kernel_rfl) (by simp) rfl ?_;unfold P7;unfold Gw at h;refine An (C7 h (fun (_:Unit) S_=>S_=⟨Am [],Ah (Aq []),2⟩) ?_ ?_)
 ·intro v_ h hk2;refine An (Aj (A1 h (fun (u0:Nat) S_=>S_=⟨Am [(1,ai a1),(2,ai a2),(9,tI a0),(10,an a0.length),(11,an u0)],Ah (Aq []),2⟩) ⟨_,Ac [],rfl⟩ ?_));rintro n_ u0 _ c_ rfl h hn4
  (try dsimp only at h);unfold Gk at h;unfold Ly;refine An (Ab ?_);rcases Ad h with ⟨q7,h⟩ | ⟨q7,h⟩
  ·have q7_:=of_decide_eq_true q7;refine Ag q7 (Ak (tn_ (wr_ (Ab (Aj (Ab ?_))))));obtain ⟨x10,e10,h⟩:=Ae h;refine Aa 6 (zI .int e10 (rsB 2 (Ar (tn_ (wr_ (Ab ?_))))));obtain ⟨y12,h12,h⟩:=Ae h;refine Aa 11 (rsB 3 (zc (.bool y12) [] [ai x10,ai a1,ai a2] (B5 h12) (rsB 1 (Ar (tn_ (wr_ ?_))))));rcases Ad h with ⟨q13,h⟩ | ⟨q13,h⟩
   ·refine Ag q13 (An (Al (br_ (tr_ (tr_ (br_ (tr_ ?_)))))));obtain rfl:=zj h;have h:=hn4
    (try dsimp only at h);obtain rfl:=zj h;have h:=hk2
    (try dsimp only at h);obtain rfl:=zj h;exact Bh [.bool false] (A5 rfl zl A4)
   refine Af q13 (Ak (bn_ (tn_ (wr_ ?_))));obtain ⟨g15,h⟩:=As h;refine Aa 13 (zA g15 (rsB 1 (Ar (tn_ ?_))));obtain rfl:=zj h;exact ⟨u0+1,_,Ac [],rfl,hn4⟩
  have q7_:=of_decide_eq_false q7;refine Af q7 (Az (te_ (te_ (be_ (tn_ ?_)))));obtain rfl:=zj h;have h:=hn4
  (try dsimp only at h);obtain rfl:=zj h;exact ⟨(),_,rfl,Ac [],rfl⟩
 rintro _ _ rfl h
 (try dsimp only at h);refine An (Al ?_);obtain rfl:=zj h;exact Bh [.bool true] (A5 rfl zl A4)
def L4:AC :=
 (.seq (rg [xs1 10 9 8])
 (.seq (.cond (tm 10)
  .skip
  (.exit 0))
 (.seq (.block 1 (.seq (rg [xx 11 1 7 9,xl 12 11,xm 6 12])
 (.seq (rg [xm 13 6,xm 14 1,xo 15 (qb .eql (tm 13) (tm 14))])
 (.cond (tm 15)
  (.seq (rg [xo 4 (qm (cb true))])
  .ret)
  .skip))))
 (rg [xa 16 9,xm 9 16]))))
def Pi:AC :=
 (.seq (rg [xo 4 (qm (cb false))])
 (.seq (.seq (rg [xm 7 0,xn1 8 7,xo 9 (qm (ci 0))])
 (.block 0 (.loop L4)))
 (.seq (rg [xo 4 (qm (cb false))])
 .ret)))
def Zd:List Res:=[.tmp 4]
theorem Zu:At Tryd.prog Tryd.f64=some (Pi,Zd):=by kernel_rfl
def Gl (a0:List Int) (a1:Int) (u0:Nat):Option (Ctl Nat (Ctl Unit Bool)) :=
 cond (decide ((u0:Int)<(a0.length:Int)))
 ((a0[u0]?).bind fun x10 =>
 cond (x10==a1)
  (some (Ctl.out (Ctl.out true)))
  (og (u0+1<4611686018427387904) <|
  some (Ctl.next (u0+1))))
 (some (Ctl.out (Ctl.next ())))
def Fw (a0:List Int) (a1:Int):Option Bool :=
 Km (A0 (fun s_:Nat=>Gl a0 a1 s_) 4611686018427387904 0) fun _ =>
some false
def Wf (r:Bool):RV:=⟨false,[(false,[.sc (.bool r)])]⟩
theorem N0 {a0:List Int} {a1:Int} {r:Bool} (h:Fw a0 a1=some r):A7 Tryd.prog Tab 64 [tI a0,ai a1] (Wf r):=by
 refine A3 (by kernel_rfl) Tryd.func64 Zu (n:=17) (by kernel_rfl) (by simp) rfl ?_;unfold Pi;unfold Fw at h;refine An (C7 h (fun (_:Unit) S_=>S_=⟨Am [],Ah (Aq []),2⟩) ?_ ?_)
 ·intro v_ h hk2;refine An (Aj (A1 h (fun (u0:Nat) S_=>S_=⟨Am [(1,ai a1),(7,tI a0),(8,an a0.length),(9,an u0)],Ah (Aq []),2⟩) ⟨_,Ac [],rfl⟩ ?_));rintro n_ u0 _ c_ rfl h hn4
  (try dsimp only at h);unfold Gl at h;unfold L4;refine An (Ab ?_);rcases Ad h with ⟨q7,h⟩ | ⟨q7,h⟩
  ·have q7_:=of_decide_eq_true q7;refine Ag q7 (Ak (tn_ (wr_ (Ab (Aj (Ab ?_))))));obtain ⟨x10,e10,h⟩:=Ae h;refine Aa 6 (zI .int e10 (rsB 2 (Ar (tn_ (wr_ (An ?_))))));rcases Ad h with ⟨q12,h⟩ | ⟨q12,h⟩
   ·refine Ag q12 (An (Al (br_ (tr_ (tr_ (br_ (tr_ ?_)))))));obtain rfl:=zj h;have h:=hn4
    (try dsimp only at h);obtain rfl:=zj h;have h:=hk2
    (try dsimp only at h);obtain rfl:=zj h;exact Bh [.bool true] (A5 rfl zl A4)
   refine Af q12 (Ak (bn_ (tn_ (wr_ ?_))));obtain ⟨g14,h⟩:=As h;refine Aa 11 (zA g14 (rsB 1 (Ar (tn_ ?_))));obtain rfl:=zj h;exact ⟨u0+1,_,Ac [],rfl,hn4⟩
  have q7_:=of_decide_eq_false q7;refine Af q7 (Az (te_ (te_ (be_ (tn_ ?_)))));obtain rfl:=zj h;have h:=hn4
  (try dsimp only at h);obtain rfl:=zj h;exact ⟨(),_,rfl,Ac [],rfl⟩
 rintro _ _ rfl h
 (try dsimp only at h);refine An (Al ?_);obtain rfl:=zj h;exact Bh [.bool false] (A5 rfl zl A4)
def Pk:AC :=
 (.seq (rg [xo 2 (qm (.cst .nils))])
 (.seq (rg [xo 3 (.mkS 3 .int []),xm 4 0,xo 5 (.append 3 .int 8 (tm 3) (tm 4)),xm 2 5])
 .ret))
def Yt:List Res:=[.tmp 2]
theorem Yv:At Tryd.prog Tryd.f54=some (Pk,Yt):=by kernel_rfl
theorem W2:A9 Tryd.prog 54=true:=by kernel_rfl
def Ew (a0:List Int):Option (List Int) :=
 og (0+a0.length<=1073741824∧(0+a0.length)*8<=140737488355328) <|
some a0
def Xb (r:List Int):RV:=⟨false,[(false,[.new 3 .int r])]⟩
theorem Ka {a0 r:List Int} (h:Ew a0=some r):A7 Tryd.prog Tab 54 [tI a0] (Xb r):=by
 refine A3 (by kernel_rfl) Tryd.func54 Yv (n:=6) (by kernel_rfl) (by simp) rfl ?_;unfold Pk;unfold Ew at h;refine An (Ab ?_);obtain ⟨g3,h⟩:=As h;refine Aa 6 (rsB 2 (rs2 (oI 3 4 a0.length) (oi 3 2) (oi 3 4) (.arr 3 .int a0) (Ok (t:=.int) (t':=.int) (xs:=[]) (ys:=a0) (zs:=a0) (j:=oi 3 2) (len:=0) (c:=tI a0) (by kernel_rfl) (by kernel_rfl) rfl (by kernel_rfl) Tc rfl g3) (rsB 1 (Ar (tn_ (wr_ (Al ?_)))))));obtain rfl:=zj h;exact Bh [oI 3 4 a0.length] (A5 rfl (Md (by kernel_rfl) rfl) A4)
def Rx:AC :=
 (.seq (rg [xo 4 (qm (cb false))])
 (.seq (rg [xm 5 1,xm 6 0,xo 7 (qb .sub (tm 6) (ci 1)),xo 8 (qc 82 [tm 5,ci 0,tm 7] [[some .int],[],[]]),xm 4 8])
 .ret))
def Acr:List Res:=[.tmp 4]
theorem Aaz:At Tryd.prog Tryd.f62=some (Rx,Acr):=by kernel_rfl
theorem Aai:A9 Tryd.prog 62=true:=by kernel_rfl
def Hm (a0:Int) (a1:List Int):Option Bool :=
 (Gw a1 0 (wI (a0 - 1))).bind fun y3 =>
some y3
def Aag (r:Bool):RV:=⟨false,[(false,[.sc (.bool r)])]⟩
theorem Aav {a0:Int} {a1:List Int} {r:Bool} (h:Hm a0 a1=some r):A7 Tryd.prog Tab 62 [ai a0,tI a1] (Aag r):=by
 refine A3 (by kernel_rfl) Tryd.func62 Aaz (n:=9) (by kernel_rfl) (by simp) rfl ?_;unfold Rx;unfold Hm at h;refine An (Ab ?_);obtain ⟨y3,h3,h⟩:=Ae h;refine Aa 7 (rsB 3 (zc (.bool y3) [] [tI a1,ai 0,ai (wI (a0 - 1))] (Xa h3) (rsB 1 (Ar (tn_ (wr_ (Al ?_)))))));obtain rfl:=zj h;exact Bh [.bool y3] (A5 rfl zl A4)
def Pf:AC :=
 (.seq (rg [xo 6 (qm (ci 0))])
 (.seq (rg [xm 7 1,xm 8 2,xo 9 (qb .mul (tm 7) (tm 8)),xm 10 0,xo 11 (qb .rem (tm 9) (tm 10)),xm 6 11])
 .ret))
def Yw:List Res:=[.tmp 6]
theorem Ym:At Tryd.prog Tryd.f84=some (Pf,Yw):=by kernel_rfl
def Fv (a0 a1 a2:Int):Option Int :=
 og (a0≠0) <|
some (Int.tmod (wI (a1*a2)) a0)
def Wl (r:Int):RV:=⟨false,[(false,[.sc (.int .i64 r)])]⟩
theorem Nu {a0 a1:Int} {a2 r:Int} (h:Fv a0 a1 a2=some r):A7 Tryd.prog Tab 84 [ai a0,ai a1,ai a2] (Wl r):=by
 refine A3 (by kernel_rfl) Tryd.func84 Ym (n:=12) (by kernel_rfl) (by simp) rfl ?_;unfold Pf;unfold Fv at h;refine An (Ab ?_);obtain ⟨g3,h⟩:=As h;refine Aa 8 (rsB 4 (rs0 (ai (Int.tmod (wI (a1*a2)) a0)) (P8 (k:=.i64) (a:=wI (a1*a2)) (b:=a0) (by kernel_rfl) (by kernel_rfl) g3) (rsB 1 (Ar (tn_ (wr_ (Al ?_)))))));obtain rfl:=zj h;exact Bh [ai (Int.tmod (wI (a1*a2)) a0)] (A5 rfl zl A4)
def Ny:AC :=
 (.seq (rg [xo 6 (qm (cb false))])
 (.seq (rg [xm 7 0,xm 8 1,xo 9 (qb .geq (tm 7) (tm 8)),xm 10 9,⟨some 11,some (10,true),qm (tm 0)⟩,⟨some 12,some (10,true),qm (tm 2)⟩,⟨some 13,some (10,true),qb .leq (tm 11) (tm 12)⟩,xo 14 (.i (.pick (tm 10) (tm 13) (cb false))),xm 6 14])
 .ret))
def Xg:List Res:=[.tmp 6]
theorem Wy:At Tryd.prog Tryd.f44=some (Ny,Xg):=by kernel_rfl
theorem C1:A9 Tryd.prog 44=true:=by kernel_rfl
def Dg (a0 a1 a2:Int):Option Bool :=
 (cond (decide (a1<=a0))
  (some (decide (a0<=a2)))
  (some false)).bind fun u0 =>
some u0
def Vq (r:Bool):RV:=⟨false,[(false,[.sc (.bool r)])]⟩
theorem Bz {a0 a1 a2:Int} {r:Bool} (h:Dg a0 a1 a2=some r):A7 Tryd.prog Tab 44 [ai a0,ai a1,ai a2] (Vq r):=by
 refine A3 (by kernel_rfl) Tryd.func44 Wy (n:=15) (by kernel_rfl) (by simp) rfl ?_;unfold Ny;unfold Dg at h;refine An (Aw h (fun (u0:Bool) S_=>S_=⟨Am [(6,.bool u0)],Ah (Aq []),2⟩) ?_ ?_)
 ·intro v_ h;rcases Ad h with ⟨q3,h⟩ | ⟨q3,h⟩
  ·have q3_:=of_decide_eq_true q3;refine Aa 11 (rsB 4 (rs0 (ai a0) (zg q3) (rs0 (ai a2) (zg q3) (rs0 (.bool (decide (a0<=a2))) (zg q3) (rs0 (.bool (decide (a0<=a2))) (zT q3) (rsB 1 (Ar (tn_ ?_))))))));obtain rfl:=zj h;exact ⟨_,Ac [],rfl⟩
  have q3_:=of_decide_eq_false q3;refine Aa 11 (rsB 4 (zs q3 (zs q3 (zs q3 (rs0 (.bool false) (zF q3) (rsB 1 (Ar (tn_ ?_))))))));obtain rfl:=zj h;exact ⟨_,Ac [],rfl⟩
 rintro u0 _ rfl h
 (try dsimp only at h);refine Al ?_;obtain rfl:=zj h;exact Bh [.bool u0] (A5 rfl zl A4)
def Kk:AC :=
 (.seq (rg [xo 4 (qm (cb false))])
 (.seq (rg [xm 5 1,xo 6 (qb .geq (tm 5) (ci 0)),xm 7 6,⟨some 8,some (7,true),qm (tm 1)⟩,⟨some 9,some (7,true),qm (tm 0)⟩,⟨some 10,some (7,true),qb .lss (tm 8) (tm 9)⟩,xo 11 (.i (.pick (tm 7) (tm 10) (cb false))),xm 4 11])
 .ret))
def Rf:List Res:=[.tmp 4]
theorem Qk:At Tryd.prog Tryd.f94=some (Kk,Rf):=by kernel_rfl
def Ei (a0 a1:Int):Option Bool :=
 (cond (decide (0<=a1))
  (some (decide (a1<a0)))
  (some false)).bind fun u0 =>
some u0
def Ph (r:Bool):RV:=⟨false,[(false,[.sc (.bool r)])]⟩
theorem Py {a0 a1:Int} {r:Bool} (h:Ei a0 a1=some r):A7 Tryd.prog Tab 94 [ai a0,ai a1] (Ph r):=by
 refine A3 (by kernel_rfl) Tryd.func94 Qk (n:=12) (by kernel_rfl) (by simp) rfl ?_;unfold Kk;unfold Ei at h;refine An (Aw h (fun (u0:Bool) S_=>S_=⟨Am [(4,.bool u0)],Ah (Aq []),2⟩) ?_ ?_)
 ·intro v_ h;rcases Ad h with ⟨q3,h⟩ | ⟨q3,h⟩
  ·have q3_:=of_decide_eq_true q3;refine Aa 10 (rsB 3 (rs0 (ai a1) (zg q3) (rs0 (ai a0) (zg q3) (rs0 (.bool (decide (a1<a0))) (zg q3) (rs0 (.bool (decide (a1<a0))) (zT q3) (rsB 1 (Ar (tn_ ?_))))))));obtain rfl:=zj h;exact ⟨_,Ac [],rfl⟩
  have q3_:=of_decide_eq_false q3;refine Aa 10 (rsB 3 (zs q3 (zs q3 (zs q3 (rs0 (.bool false) (zF q3) (rsB 1 (Ar (tn_ ?_))))))));obtain rfl:=zj h;exact ⟨_,Ac [],rfl⟩
 rintro u0 _ rfl h
 (try dsimp only at h);refine Al ?_;obtain rfl:=zj h;exact Bh [.bool u0] (A5 rfl zl A4)
def Jh:AC :=
 (.seq (rg [xs1 16 15 14])
 (.seq (.cond (tm 16)
  .skip
  (.exit 0))
 (.seq (.block 1 (.seq (rg [xx 17 1 13 15,xl 18 17,xm 8 18])
 (.seq (rg [xm 19 0,xm 20 8,xo 21 (qc 94 [tm 19,tm 20] [[],[]]),xo 22 (.i (.not (tm 21)))])
 (.cond (tm 22)
  (.seq (rg [xo 6 (qm (cb false))])
  .ret)
  .skip))))
 (rg [xa 23 15,xm 15 23]))))
def Ls:AC :=
 (.seq (rg [xo 6 (qm (cb false))])
 (.seq (.seq (rg [xm 9 1,xn1 10 9,xm 11 2,xo 12 (qb .neq (tm 10) (tm 11))])
 (.cond (tm 12)
  (.seq (rg [xo 6 (qm (cb false))])
  .ret)
  .skip))
 (.seq (.seq (rg [xm 13 1,xn1 14 13,xo 15 (qm (ci 0))])
 (.block 0 (.loop Jh)))
 (.seq (rg [xo 6 (qm (cb true))])
 .ret))))
def Sa:List Res:=[.tmp 6]
theorem Sg:At Tryd.prog Tryd.f86=some (Ls,Sa):=by kernel_rfl
def Et (a1:List Int) (a0:Int) (u0:Nat):Option (Ctl Nat (Ctl Unit Bool)) :=
 cond (decide ((u0:Int)<(a1.length:Int)))
 ((a1[u0]?).bind fun x14 =>
 (Ei a0 x14).bind fun y16 =>
 cond (!y16)
  (some (Ctl.out (Ctl.out false)))
  (og (u0+1<4611686018427387904) <|
  some (Ctl.next (u0+1))))
 (some (Ctl.out (Ctl.next ())))
def Ey (a0:Int) (a1:List Int) (a2:Int):Option Bool :=
 cond ((a1.length:Int) !=a2)
 (some false)
 (Km (A0 (fun s_:Nat=>Et a1 a0 s_) 4611686018427387904 0) fun _ =>
 some true)
def Ra (r:Bool):RV:=⟨false,[(false,[.sc (.bool r)])]⟩
theorem Rc {a0:Int} {a1:List Int} {a2:Int} {r:Bool} (h:Ey a0 a1 a2=some r):A7 Tryd.prog Tab 86 [ai a0,tI a1,ai a2] (Ra r):=by
 refine A3 (by kernel_rfl) Tryd.func86 Sg (n:=24) (by kernel_rfl) (by simp) rfl ?_;unfold Ls;unfold Ey at h;refine An (Ab (An ?_));rcases Ad h with ⟨q4,h⟩ | ⟨q4,h⟩
 ·refine Ag q4 (An (Al (tr_ ?_)));obtain rfl:=zj h;exact Bh [.bool false] (A5 rfl zl A4)
 refine Af q4 (Ak (tn_ (wr_ (C7 h (fun (_:Unit) S_=>S_=⟨Am [],Ah (Aq []),2⟩) ?_ ?_))))
 ·intro v_ h hk6;refine An (Aj (A1 h (fun (u0:Nat) S_=>S_=⟨Am [(0,ai a0),(13,tI a1),(14,an a1.length),(15,an u0)],Ah (Aq []),2⟩) ⟨_,Ac [],rfl⟩ ?_));rintro n_ u0 _ c_ rfl h hn8
  (try dsimp only at h);unfold Et at h;unfold Jh;refine An (Ab ?_);rcases Ad h with ⟨q11,h⟩ | ⟨q11,h⟩
  ·have q11_:=of_decide_eq_true q11;refine Ag q11 (Ak (tn_ (wr_ (Ab (Aj (Ab ?_))))));obtain ⟨x14,e14,h⟩:=Ae h;refine Aa 6 (zI .int e14 (rsB 2 (Ar (tn_ (wr_ (Ab ?_))))));obtain ⟨y16,h16,h⟩:=Ae h;refine Aa 10 (rsB 2 (zc (.bool y16) [] [ai a0,ai x14] (Py h16) (rsB 1 (Ar (tn_ (wr_ ?_))))));rcases Ad h with ⟨q17,h⟩ | ⟨q17,h⟩
   ·refine Ag q17 (An (Al (br_ (tr_ (tr_ (br_ (tr_ ?_)))))));obtain rfl:=zj h;have h:=hn8
    (try dsimp only at h);obtain rfl:=zj h;have h:=hk6
    (try dsimp only at h);obtain rfl:=zj h;exact Bh [.bool false] (A5 rfl zl A4)
   refine Af q17 (Ak (bn_ (tn_ (wr_ ?_))));obtain ⟨g19,h⟩:=As h;refine Aa 12 (zA g19 (rsB 1 (Ar (tn_ ?_))));obtain rfl:=zj h;exact ⟨u0+1,_,Ac [],rfl,hn8⟩
  have q11_:=of_decide_eq_false q11;refine Af q11 (Az (te_ (te_ (be_ (tn_ ?_)))));obtain rfl:=zj h;have h:=hn8
  (try dsimp only at h);obtain rfl:=zj h;exact ⟨(),_,rfl,Ac [],rfl⟩
 rintro _ _ rfl h
 (try dsimp only at h);refine An (Al ?_);obtain rfl:=zj h;exact Bh [.bool true] (A5 rfl zl A4)
def Pz:AC :=
 (.seq (rg [xo 2 (qm (.cst .nils))])
 (.seq (rg [xm 3 0,xo 4 (.make 3 .int 8 (tm 3) (tm 3)),xm 2 4])
 .ret))
def Zt:List Res:=[.tmp 2]
theorem Yj:At Tryd.prog Tryd.f69=some (Pz,Zt):=by kernel_rfl
def G4 (a0:Int):Option (List Int) :=
 og (0<=a0∧a0<=a0∧a0<=1073741824∧(8:Int)*a0<=140737488355328) <|
some (List.replicate a0.toNat (0:Int))
def Wh (r:List Int):RV:=⟨false,[(false,[.new 3 .int r])]⟩
theorem Wn {a0:Int} {r:List Int} (h:G4 a0=some r):A7 Tryd.prog Tab 69 [ai a0] (Wh r):=by
 refine A3 (by kernel_rfl) Tryd.func69 Yj (n:=5) (by kernel_rfl) (by simp) rfl ?_;unfold Pz;unfold G4 at h;refine An (Ab ?_);obtain ⟨g3,h⟩:=As h;refine Aa 5 (rsB 1 (rs1 (oI 4 3 a0.toNat) (oi 4 3) (.arr 3 .int (List.replicate a0.toNat (0:Int))) (Zw (t:=.int) (k:=.i64) (k':=.i64) (m:=a0) (m':=a0) (by kernel_rfl) (by kernel_rfl) g3 rfl) (rsB 1 (Ar (tn_ (wr_ (Al ?_)))))));obtain rfl:=zj h;exact Bh [oI 4 3 a0.toNat] (A5 rfl (Md (by kernel_rfl) List.length_replicate.symm) A4)
def Tl:AC :=
 (.seq (rg [xo 4 (qm (ci 0))])
 (.seq (rg [xm 5 1,xm 6 0,xo 7 (qb .rem (tm 5) (tm 6)),xm 1 7])
 (.seq (.seq (rg [xm 8 1,xo 9 (qb .lss (tm 8) (ci 0))])
 (.cond (tm 9)
  (rg [xm 10 1,xm 11 0,xo 12 (qb .add (tm 10) (tm 11)),xm 1 12])
  .skip))
 (.seq (rg [xm 13 1,xm 4 13])
 .ret))))
def Adz:List Res:=[.tmp 4]
theorem Ac0:At Tryd.prog Tryd.f72=some (Tl,Adz):=by kernel_rfl
def D3 (a0 a1:Int):Option Int :=
 og (a0≠0) <|
(cond (decide (Int.tmod a1 a0<0))
  (some (wI (Int.tmod a1 a0+a0)))
  (some (Int.tmod a1 a0))).bind fun u0 =>
some u0
def Aa5 (r:Int):RV:=⟨false,[(false,[.sc (.int .i64 r)])]⟩
theorem Rt {a0 a1 r:Int} (h:D3 a0 a1=some r):A7 Tryd.prog Tab 72 [ai a0,ai a1] (Aa5 r):=by
 refine A3 (by kernel_rfl) Tryd.func72 Ac0 (n:=14) (by kernel_rfl) (by simp) rfl ?_;unfold Tl;unfold D3 at h;refine An (Ab ?_);obtain ⟨g3,h⟩:=As h;refine Aa 6 (rsB 2 (rs0 (ai (Int.tmod a1 a0)) (P8 (k:=.i64) (a:=a1) (b:=a0) (by kernel_rfl) (by kernel_rfl) g3) (rsB 1 (Ar (tn_ (wr_ (Aw h (fun (u0:Int) S_=>S_=⟨Am [(1,ai u0)],Ah (Aq []),2⟩) ?_ ?_)))))))
 ·intro v_ h;refine An ?_;rcases Ad h with ⟨q6,h⟩ | ⟨q6,h⟩
  ·have q6_:=of_decide_eq_true q6;refine Ag q6 (Aa 12 (rsB 4 (Ar (tn_ ?_))));obtain rfl:=zj h;exact ⟨_,Ac [],rfl⟩
  have q6_:=of_decide_eq_false q6;refine Af q6 (Ak (tn_ ?_));obtain rfl:=zj h;exact ⟨_,Ac [],rfl⟩
 rintro u0 _ rfl h
 (try dsimp only at h);refine An (Al ?_);obtain rfl:=zj h;exact Bh [ai u0] (A5 rfl zl A4)
def Po:AC :=
 (.seq (rg [xo 2 (qm (.cst .nils))])
 (.seq (rg [xo 3 (.mkS 3 .int []),xm 4 0,xo 5 (.append 3 .int 8 (tm 3) (tm 4)),xm 2 5])
 .ret))
def Aaq:List Res:=[.tmp 2]
theorem Aau:At Tryd.prog Tryd.f47=some (Po,Aaq):=by kernel_rfl
theorem We:A9 Tryd.prog 47=true:=by kernel_rfl
def Ev (a0:List Int):Option (List Int) :=
 og (0+a0.length<=1073741824∧(0+a0.length)*8<=140737488355328) <|
some a0
def Wa (r:List Int):RV:=⟨false,[(false,[.new 3 .int r])]⟩
theorem J9 {a0 r:List Int} (h:Ev a0=some r):A7 Tryd.prog Tab 47 [tI a0] (Wa r):=by
 refine A3 (by kernel_rfl) Tryd.func47 Aau (n:=6) (by kernel_rfl) (by simp) rfl ?_;unfold Po;unfold Ev at h;refine An (Ab ?_);obtain ⟨g3,h⟩:=As h;refine Aa 6 (rsB 2 (rs2 (oI 3 4 a0.length) (oi 3 2) (oi 3 4) (.arr 3 .int a0) (Ok (t:=.int) (t':=.int) (xs:=[]) (ys:=a0) (zs:=a0) (j:=oi 3 2) (len:=0) (c:=tI a0) (by kernel_rfl) (by kernel_rfl) rfl (by kernel_rfl) Tc rfl g3) (rsB 1 (Ar (tn_ (wr_ (Al ?_)))))));obtain rfl:=zj h;exact Bh [oI 3 4 a0.length] (A5 rfl (Md (by kernel_rfl) rfl) A4)
def M1:AC :=
 (.seq (rg [xs1 10 9 8])
 (.seq (.cond (tm 10)
  .skip
  (.exit 0))
 (.seq (.block 1 (.seq (rg [xm 11 9,xm 4 11])
 (rg [xm 12 3,xm 13 4,xm 14 4,xx 15 1 12 13,xn (qs (tm 15) (tm 14))])))
 (rg [xa 16 9,xm 9 16]))))
def Rs:AC :=
 (.seq (rg [xo 2 (qm (.cst .nils))])
 (.seq (rg [xm 5 0,xo 6 (qc 69 [tm 5] [[]]),xm 3 6])
 (.seq (.seq (rg [xm 7 3,xn1 8 7,xo 9 (qm (ci 0))])
 (.block 0 (.loop M1)))
 (.seq (rg [xm 17 3,xm 2 17])
 .ret))))
def Abx:List Res:=[.tmp 2]
theorem Acu:At Tryd.prog Tryd.f46=some (Rs,Abx):=by kernel_rfl
def Fl (y3:List Int) (u0:Nat) (u1:List Int):Option (Ctl (Nat×List Int) (List Int)) :=
 cond (decide ((u0:Int)<(y3.length:Int)))
 ((u1[u0]?).bind fun x12 =>
 og (u0+1<4611686018427387904) <|
 some (Ctl.next (u0+1,u1.set u0 (u0:Int))))
 (some (Ctl.out u1))
def H1 (a0:Int):Option (List Int) :=
 (G4 a0).bind fun y3 =>
(A0 (fun s_:Nat×List Int=>Fl y3 s_.1 s_.2) 4611686018427387904 (0,y3)).bind fun u0 =>
some u0
def Zj (r:List Int):RV:=⟨false,[(false,[.new 3 .int r])]⟩
theorem Zh {a0:Int} {r:List Int} (h:H1 a0=some r):A7 Tryd.prog Tab 46 [ai a0] (Zj r):=by
 refine A3 (by kernel_rfl) Tryd.func46 Acu (n:=18) (by kernel_rfl) (by simp) rfl ?_;unfold Rs;unfold H1 at h;refine An (Ab ?_);obtain ⟨y3,h3,h⟩:=Ae h;refine Aa 5 (rsB 1 (zc (oI 96 3 y3.length) [nI 96 3 y3] [ai a0] (Wn h3) (rsB 1 (Ar (tn_ (wr_ (Aw h (fun (u2:List Int) S_=>S_=⟨Am [(3,oI 0 1 u2.length)],Ah (Aq [(oi 0 1,.arr 3 .int u2)]),2⟩) ?_ ?_)))))))
 ·intro v_ h;refine An (Aj (A1 h (fun t_ S_=>∃ (u0:Nat),∃ (u1:List Int),t_=(u0,u1)∧S_=⟨Am [(3,oI 0 1 u1.length),(8,an y3.length),(9,an u0)],Ah (Aq [(oi 0 1,.arr 3 .int u1)]),2⟩) ⟨_,Ac [(oi 0 1,oi 96 3)],⟨0,y3,rfl,rfl⟩⟩ ?_));rintro n_ _ _ c_ ⟨u0,u1,rfl,rfl⟩ h hn6
  (try dsimp only at h);unfold Fl at h;unfold M1;refine An (Ab ?_);rcases Ad h with ⟨q9,h⟩ | ⟨q9,h⟩
  ·have q9_:=of_decide_eq_true q9;refine Ag q9 (Ak (tn_ (wr_ (Ab (Aj (An ?_))))));obtain ⟨x12,e12,h⟩:=Ae h;refine Aa 10 (rsB 3 (zO (oi 0 1) .int u1.length (Ax e12) (zS (oi 0 1) ((u0:Int)) e12 (Ar (bn_ (tn_ (wr_ ?_)))))));obtain ⟨g13,h⟩:=As h;refine Aa 12 (zA g13 (rsB 1 (Ar (tn_ ?_))));obtain rfl:=zj h;exact ⟨(u0+1,u1.set u0 (u0:Int)),_,(Br 3 (oI 0 1 u1.length) (oI 0 1 ((u1.set u0 (u0:Int)).length)) (by kernel_rfl) (congrArg (fun z_=>((oI 0 1 z_):AV)) (((rfl:u1.length=u1.length).trans List.length_set.symm):u1.length=(u1.set u0 (u0:Int)).length))).trans (Ac []),⟨u0+1,u1.set u0 (u0:Int),rfl,rfl⟩,hn6⟩
  have q9_:=of_decide_eq_false q9;refine Af q9 (Az (te_ (te_ (be_ (tn_ ?_)))));obtain rfl:=zj h;have h:=hn6
  (try dsimp only at h);obtain rfl:=zj h;exact ⟨_,Ac [],rfl⟩
 rintro u2 _ rfl h
 (try dsimp only at h);refine An (Al ?_);obtain rfl:=zj h;exact Bh [oI 0 1 u2.length] (A5 rfl (Md (by kernel_rfl) rfl) A4)
def K1:AC :=
 (.seq (rg [xs1 14 13 12])
 (.seq (.cond (tm 14)
  .skip
  (.exit 0))
 (.seq (.block 1 (.seq (rg [xx 15 1 11 13,xl 16 15,xm 7 16])
 (rg [xm 17 5,xm 18 0,xm 19 7,xx 20 1 18 19,xl 21 20,xo 22 (.mkS 3 .int [tm 21]),xo 23 (.append 3 .int 8 (tm 17) (tm 22)),xm 5 23])))
 (rg [xa 24 13,xm 13 24]))))
def N4:AC :=
 (.seq (rg [xo 4 (qm (.cst .nils))])
 (.seq (rg [xm 8 1,xn1 9 8,xo 10 (.make 3 .int 8 (ci 0) (tm 9)),xm 5 10])
 (.seq (.seq (rg [xm 11 1,xn1 12 11,xo 13 (qm (ci 0))])
 (.block 0 (.loop K1)))
 (.seq (rg [xm 25 5,xm 4 25])
 .ret))))
def Wj:List Res:=[.tmp 4]
theorem Xc:At Tryd.prog Tryd.f51=some (N4,Wj):=by kernel_rfl
theorem Vw:A9 Tryd.prog 51=true:=by kernel_rfl
def Dh (a1 a0:List Int) (u0:Nat) (u1:List Int):Option (Ctl (Nat×List Int) (List Int)) :=
 cond (decide ((u0:Int)<(a1.length:Int)))
 ((a1[u0]?).bind fun x12 =>
 (F4 a0 x12).bind fun x13 =>
 og (u1.length+1<=1073741824∧(u1.length+1)*8<=140737488355328) <|
 og (u0+1<4611686018427387904) <|
 some (Ctl.next (u0+1,u1++([x13]))))
 (some (Ctl.out u1))
def Gc (a0 a1:List Int):Option (List Int) :=
 og (0<=(0:Int)∧(0:Int)<=(a1.length:Int)∧(a1.length:Int)<=1073741824∧(8:Int)*(a1.length:Int)<=140737488355328) <|
(A0 (fun s_:Nat×List Int=>Dh a1 a0 s_.1 s_.2) 4611686018427387904 (0,[])).bind fun u0 =>
some u0
def V7 (r:List Int):RV:=⟨false,[(false,[.new 3 .int r])]⟩
theorem Tn {a0 a1 r:List Int} (h:Gc a0 a1=some r):A7 Tryd.prog Tab 51 [tI a0,tI a1] (V7 r):=by
 refine A3 (by kernel_rfl) Tryd.func51 Xc (n:=26) (by kernel_rfl) (by simp) rfl ?_;unfold N4;unfold Gc at h;refine An (Ab ?_);obtain ⟨g3,h⟩:=As h;refine Aa 6 (rsB 2 (rs1 (oI 10 4 0) (oi 10 4) (.arr 3 .int []) (Zw (t:=.int) (k:=.i64) (k':=.i64) (m:=0) (m':=(a1.length:Int)) (by kernel_rfl) (by kernel_rfl) g3 rfl) (rsB 1 (Ar (tn_ (wr_ (Aw h (fun (u2:List Int) S_=>S_=⟨Am [(5,oI 0 1 u2.length)],Ah (Aq [(oi 0 1,.arr 3 .int u2)]),2⟩) ?_ ?_)))))))
 ·intro v_ h;refine An (Aj (A1 h (fun t_ S_=>∃ (u1:Nat),∃ (u0:List Int),t_=(u1,u0)∧S_=⟨Am [(0,tI a0),(5,oI 0 1 u0.length),(11,tI a1),(12,an a1.length),(13,an u1)],Ah (Aq [(oi 0 1,.arr 3 .int u0)]),2⟩) ⟨_,Ac [(oi 0 1,oi 10 4)],⟨0,[],rfl,rfl⟩⟩ ?_));rintro n_ _ _ c_ ⟨u1,u0,rfl,rfl⟩ h hn6
  (try dsimp only at h);unfold Dh at h;unfold K1;refine An (Ab ?_);rcases Ad h with ⟨q9,h⟩ | ⟨q9,h⟩
  ·have q9_:=of_decide_eq_true q9;refine Ag q9 (Ak (tn_ (wr_ (Ab (Aj (Ab ?_))))));obtain ⟨x12,e12,h⟩:=Ae h;refine Aa 6 (zI .int e12 (rsB 2 (Ar (tn_ (wr_ ?_)))));obtain ⟨x13,f13,h⟩:=Ae h;obtain ⟨p13,b13,e13⟩:=Bv f13;obtain ⟨g14,h⟩:=As h;refine Aa 14 (rsB 3 (rs0 (.telt none .int x13 0) (zi (t:=.int) (xs:=a0) (k:=.i64) (m:=x12) p13 e13) (rsB 2 (zB (oi 0 1) (oi 22 11) u0 (x13) g14 (rsB 1 (Ar (bn_ (tn_ (wr_ ?_)))))))));obtain ⟨g15,h⟩:=As h;refine Aa 16 (zA g15 (rsB 1 (Ar (tn_ ?_))));obtain rfl:=zj h;exact ⟨(u1+1,u0++([x13])),_,Ac [(oi 0 1,oi 0 12)],⟨u1+1,u0++([x13]),rfl,rfl⟩,hn6⟩
  have q9_:=of_decide_eq_false q9;refine Af q9 (Az (te_ (te_ (be_ (tn_ ?_)))));obtain rfl:=zj h;have h:=hn6
  (try dsimp only at h);obtain rfl:=zj h;exact ⟨_,Ac [],rfl⟩
 rintro u2 _ rfl h
 (try dsimp only at h);refine An (Al ?_);obtain rfl:=zj h;exact Bh [oI 0 1 u2.length] (A5 rfl (Md (by kernel_rfl) rfl) A4)
end Go.Proofs.YtjnaikadmjocbaaDoor

namespace Go.Proofs.YtjnaikadmjocbaaDoor
open Go.RowKit Go.Deep
end Go.Proofs.YtjnaikadmjocbaaDoor
namespace Go.Proofs.YtjnaikadmjocbaaDoor
open Go.RowKit Go.Deep
theorem Aki {f:Nat->AV} {ob:Oid->Option Ob} {d:Option Nat} {gd:Option (Nat×Bool)} {fo y:Opd} {ys:List Opd} {tys:List (List (Option Ty))} {az:List AV} {i p:Oid} {t u:Ty} {off len z m k:Nat} {e1:TypeId} {xss:List (List u.D)} (n j:Nat) (hy:ys[n]? =some y) (he:y.ev f=.agg az) (hj:az[j]? =some (.own i t off len)) (hob:ob i=some (.vec e1 z m (hdL p u xss))) (hk:k<xss.length):kid p k∈rdX f ob ⟨d,gd,.call fo ys tys⟩:=by
 refine List.mem_flatMap.2 ⟨y,List.mem_cons_of_mem _ (List.mem_of_getElem? hy),?_⟩;rw [he];show kid p k∈Ic ob (7+1) (.agg az);unfold Ic;dsimp only;refine List.mem_flatMap.2 ⟨_,List.mem_of_getElem? hj,?_⟩;show kid p k∈Ic ob (6+1) (.own i t off len);unfold Ic;dsimp only;rw [hob];refine List.mem_cons_of_mem _ (List.mem_flatMap.2 ⟨.own (kid p k) u 0 xss[k].length,List.mem_of_getElem? (i:=k) (by rw [E7,gEg hk]; rfl),?_⟩);exact List.mem_singleton.2 rfl
theorem Lf {f:Nat->AV} {ob:Oid->Option Ob} {d:Option Nat} {gd:Option (Nat×Bool)} {fo y:Opd} {ys:List Opd} {tys:List (List (Option Ty))} (az:List AV) {i p:Oid} {t u:Ty} {off len z m:Nat} {e e1:TypeId} {xss:List (List u.D)} (n j:Nat) (hy:ys[n]? =some y) (he:y.ev f=.agg az) (hj:az[j]? =some (.own i t off len)) (hob:ob i=some (.vec e1 z m (hdL p u xss))) (hr:∀ (k:Nat) (row:List u.D),xss[k]? =some row->ob (kid p k)=some (.arr e u row)) (k:Nat) (row:List u.D) (h:xss[k]? =some row):only (rdX f ob ⟨d,gd,.call fo ys tys⟩) ob (kid p k)=some (.arr e u row):=(Na (Aki n j hy he hj hob (gSi.1 h).1)).trans (hr k row h)
theorem Aet {f:Nat->AV} {ob:Oid->Option Ob} {d:Option Nat} {gd:Option (Nat×Bool)} {fo y:Opd} {ys:List Opd} {tys:List (List (Option Ty))} (az:List AV) {i:Oid} {t:Ty} {off len:Nat} (n j:Nat) (hy:ys[n]? =some y) (he:y.ev f=.agg az) (hj:az[j]? =some (.own i t off len)):i∈rdX f ob ⟨d,gd,.call fo ys tys⟩:=by
 refine List.mem_flatMap.2 ⟨y,List.mem_cons_of_mem _ (List.mem_of_getElem? hy),?_⟩;rw [he];show i∈Ic ob (7+1) (.agg az);unfold Ic;dsimp only;refine List.mem_flatMap.2 ⟨_,List.mem_of_getElem? hj,?_⟩;show i∈Ic ob (6+1) (.own i t off len);unfold Ic;dsimp only;split <;> simp
section
variable {n:Nat} {d:Option Nat} {f:Nat->AV} {ob:Oid->Option Ob}
end
end Go.Proofs.YtjnaikadmjocbaaDoor
namespace Go.Proofs.YtjnaikadmjocbaaDoor
open Go.RowKit Go.Deep
set_option maxRecDepth 4000
def L5:AC :=
 (.seq (.seq (rg [xm 6 5,xm 7 0,xs1 8 6 7])
 (.cond (tm 8)
  .skip
  (.exit 0)))
 (.seq (.block 1 (.seq (rg [xm 11 1,xm 12 5,xo 13 (qb .mul (tm 11) (tm 12)),xm 14 0,xo 15 (qb .rem (tm 13) (tm 14)),xo 16 (qb .eql (tm 15) (ci 1))])
 (.cond (tm 16)
  (.seq (rg [xm 17 5,xm 4 17])
  .ret)
  .skip)))
 (rg [xm 9 5,xa 10 9,xm 5 10])))
def P1:AC :=
 (.seq (rg [xo 4 (qm (ci 0))])
 (.seq (.seq (rg [xo 5 (qm (ci 1))])
 (.block 0 (.loop L5)))
 (.seq (rg [xo 4 (qm (ci 0))])
 .ret)))
def Y3:List Res:=[.tmp 4]
theorem Y0:At Tryd.prog Tryd.f83=some (P1,Y3):=by kernel_rfl
def Lu (a0 a1:Int) (u0:Nat):Option (Ctl Nat (Ctl Unit Int)) :=
 cond (decide ((u0:Int)<a0))
 (og (a0≠0) <|
 cond ((Int.tmod (wI (a1*(u0:Int))) a0)==1)
  (some (Ctl.out (Ctl.out (u0:Int))))
  (og (u0+1<4611686018427387904) <|
  some (Ctl.next (u0+1))))
 (some (Ctl.out (Ctl.next ())))
def Gv (a0 a1:Int):Option Int :=
 Km (A0 (fun s_:Nat=>Lu a0 a1 s_) 4611686018427387904 1) fun _ =>
some 0
def Wq (r:Int):RV:=⟨false,[(false,[.sc (.int .i64 r)])]⟩
theorem Ws {a0 a1 r:Int} (h:Gv a0 a1=some r):A7 Tryd.prog Tab 83 [ai a0,ai a1] (Wq r):=by
 refine A3 (by kernel_rfl) Tryd.func83 Y0 (n:=18) (by kernel_rfl) (by simp) rfl ?_;unfold P1;unfold Gv at h;refine An (C7 h (fun (_:Unit) S_=>S_=⟨Am [],Ah (Aq []),2⟩) ?_ ?_)
 ·intro v_ h hk2;refine An (Aj (A1 h (fun (u0:Nat) S_=>S_=⟨Am [(0,ai a0),(1,ai a1),(5,an u0)],Ah (Aq []),2⟩) ⟨_,Ac [],rfl⟩ ?_));rintro n_ u0 _ c_ rfl h hn4
  (try dsimp only at h);unfold Lu at h;unfold L5;refine Ab (An ?_);rcases Ad h with ⟨q7,h⟩ | ⟨q7,h⟩
  ·have q7_:=of_decide_eq_true q7;refine Ag q7 (Ak (tn_ (wr_ (Ab (Aj (Ab ?_))))));obtain ⟨g10,h⟩:=As h;refine Aa 11 (rsB 4 (rs0 (ai (Int.tmod (wI (a1*(u0:Int))) a0)) (P8 (k:=.i64) (a:=wI (a1*(u0:Int))) (b:=a0) (by kernel_rfl) (by kernel_rfl) g10) (rsB 1 (Ar (tn_ (wr_ ?_))))));rcases Ad h with ⟨q11,h⟩ | ⟨q11,h⟩
   ·refine Ag q11 (An (Al (br_ (tr_ (tr_ (br_ (tr_ ?_)))))));obtain rfl:=zj h;have h:=hn4
    (try dsimp only at h);obtain rfl:=zj h;have h:=hk2
    (try dsimp only at h);obtain rfl:=zj h;exact Bh [an u0] (A5 rfl zl A4)
   refine Af q11 (Ak (bn_ (tn_ (wr_ ?_))));obtain ⟨g13,h⟩:=As h;refine Aa 14 (rsB 1 (zA g13 (rsB 1 (Ar (tn_ ?_)))));obtain rfl:=zj h;exact ⟨u0+1,_,Ac [],rfl,hn4⟩
  have q7_:=of_decide_eq_false q7;refine Af q7 (Az (te_ (te_ (be_ (tn_ ?_)))));obtain rfl:=zj h;have h:=hn4
  (try dsimp only at h);obtain rfl:=zj h;exact ⟨(),_,rfl,Ac [],rfl⟩
 rintro _ _ rfl h
 (try dsimp only at h);refine An (Al ?_);obtain rfl:=zj h;exact Bh [ai 0] (A5 rfl zl A4)
def Qe:AC :=
 (.seq (rg [xo 6 (qm (ci 0))])
 (.seq (rg [xm 7 1,xm 8 0,xo 9 (qb .add (tm 7) (tm 8)),xm 10 2,xo 11 (qb .sub (tm 9) (tm 10)),xm 12 0,xo 13 (qb .rem (tm 11) (tm 12)),xm 6 13])
 .ret))
def Aad:List Res:=[.tmp 6]
theorem Aak:At Tryd.prog Tryd.f85=some (Qe,Aad):=by kernel_rfl
def Gx (a0 a1 a2:Int):Option Int :=
 og (a0≠0) <|
some (Int.tmod (wI ((wI (a1+a0)) - a2)) a0)
def Wx (r:Int):RV:=⟨false,[(false,[.sc (.int .i64 r)])]⟩
theorem Wk {a0 a1:Int} {a2 r:Int} (h:Gx a0 a1 a2=some r):A7 Tryd.prog Tab 85 [ai a0,ai a1,ai a2] (Wx r):=by
 refine A3 (by kernel_rfl) Tryd.func85 Aak (n:=14) (by kernel_rfl) (by simp) rfl ?_;unfold Qe;unfold Gx at h;refine An (Ab ?_);obtain ⟨g3,h⟩:=As h;refine Aa 10 (rsB 6 (rs0 (ai (Int.tmod (wI ((wI (a1+a0)) - a2)) a0)) (P8 (k:=.i64) (a:=wI ((wI (a1+a0)) - a2)) (b:=a0) (by kernel_rfl) (by kernel_rfl) g3) (rsB 1 (Ar (tn_ (wr_ (Al ?_)))))));obtain rfl:=zj h;exact Bh [ai (Int.tmod (wI ((wI (a1+a0)) - a2)) a0)] (A5 rfl zl A4)
def Jo:AC :=
 (.seq (rg [xs1 143 142 141])
 (.seq (.cond (tm 143)
  .skip
  (.exit 10))
 (.seq (.block 11 (.seq (rg [xm 144 142,xm 18 144])
 (.region [xm 145 7,xm 146 16,xx 147 1 145 146,xl 148 147,xm 149 18,xm 150 0,xm 151 7,xm 152 16,xx 153 1 151 152,xl 154 153,xm 155 18,xx 156 1 154 155,xl 157 156,xm 158 0,xm 159 17,xm 160 7,xm 161 10,xx 162 1 160 161,xl 163 162,xm 164 18,xx 165 1 163 164,xl 166 165,xo 167 (qc 84 [tm 158,tm 159,tm 166] [[],[],[]]),xo 168 (qc 85 [tm 150,tm 157,tm 167] [[],[],[]]),xx 169 1 148 149,xn (qs (tm 169) (tm 168))] true [(3,22),(9,22),(12,22),(3,23)])))
 (rg [xa 170 142,xm 142 170]))))
def Iw:AC :=
 (.seq (rg [xs1 115 114 113])
 (.seq (.cond (tm 115)
  .skip
  (.exit 8))
 (.seq (.block 9 (.seq (rg [xm 116 114,xm 16 116])
 (.seq (.seq (rg [xm 117 16,xm 118 10,xo 119 (qb .eql (tm 117) (tm 118)),xm 120 119,⟨some 121,some (120,false),qm (tm 7)⟩,⟨some 122,some (120,false),qm (tm 16)⟩,⟨some 123,some (120,false),qx 1 (tm 121) (tm 122)⟩,⟨some 124,some (120,false),ql (tm 123)⟩,⟨some 125,some (120,false),qm (tm 11)⟩,⟨some 126,some (120,false),qx 1 (tm 124) (tm 125)⟩,⟨some 127,some (120,false),ql (tm 126)⟩,⟨some 128,some (120,false),qb .eql (tm 127) (ci 0)⟩,xo 129 (.i (.pick (tm 120) (cb true) (tm 128)))])
 (.cond (tm 129)
  (.exit 9)
  .skip))
 (.seq (rg [xm 130 7,xm 131 16,xx 132 1 130 131,xl 133 132,xm 134 11,xx 135 1 133 134,xl 136 135,xm 17 136])
 (.seq (rg [xm 137 7,xm 138 16,xx 139 1 137 138,xl 140 139,xn1 141 140,xo 142 (qm (ci 0))])
 (.block 10 (.loop Jo)))))))
 (rg [xa 171 114,xm 114 171]))))
def Jp:AC :=
 (.seq (rg [xs1 93 92 91])
 (.seq (.cond (tm 93)
  .skip
  (.exit 6))
 (.seq (.block 7 (.seq (rg [xm 94 92,xm 15 94])
 (.region [xm 95 7,xm 96 10,xx 97 1 95 96,xl 98 97,xm 99 15,xm 100 0,xm 101 7,xm 102 10,xx 103 1 101 102,xl 104 103,xm 105 15,xx 106 1 104 105,xl 107 106,xm 108 14,xo 109 (qc 84 [tm 100,tm 107,tm 108] [[],[],[]]),xx 110 1 98 99,xn (qs (tm 110) (tm 109))] true [(3,14)])))
 (rg [xa 111 92,xm 92 111]))))
def I5:AC :=
 (.seq (.seq (rg [xm 43 12,xm 44 7,xn1 45 44,xs1 46 43 45,xm 47 46,⟨some 48,some (47,true),qm (tm 7)⟩,⟨some 49,some (47,true),qm (tm 12)⟩,⟨some 50,some (47,true),qx 1 (tm 48) (tm 49)⟩,⟨some 51,some (47,true),ql (tm 50)⟩,⟨some 52,some (47,true),qm (tm 11)⟩,⟨some 53,some (47,true),qx 1 (tm 51) (tm 52)⟩,⟨some 54,some (47,true),ql (tm 53)⟩,⟨some 55,some (47,true),qb .eql (tm 54) (ci 0)⟩,xo 56 (.i (.pick (tm 47) (tm 55) (cb false)))])
 (.cond (tm 56)
  .skip
  (.exit 4)))
 (.block 5 (rg [xm 57 12,xa 58 57,xm 12 58])))
def Jm:AC :=
 (.seq (.seq (rg [xm 31 11,xm 32 1,xs1 33 31 32,xm 34 33,⟨some 35,some (34,true),qm (tm 10)⟩,⟨some 36,some (34,true),qm (tm 7)⟩,⟨some 37,some (34,true),.i (.len (tm 36))⟩,⟨some 38,some (34,true),qb .lss (tm 35) (tm 37)⟩,xo 39 (.i (.pick (tm 34) (tm 38) (cb false)))])
 (.cond (tm 39)
  .skip
  (.exit 2)))
 (.seq (.block 3 (.seq (rg [xm 42 10,xm 12 42])
 (.seq (.block 4 (.loop I5))
 (.seq (.seq (rg [xm 59 12,xm 60 7,xn1 61 60,xo 62 (qb .eql (tm 59) (tm 61))])
 (.cond (tm 62)
  (.exit 3)
  .skip))
 (.seq (rg [xm 63 7,xm 64 10,xx 65 1 63 64,xl 66 65,xm 13 66])
 (.seq (rg [xm 67 7,xm 68 10,xm 69 7,xm 70 12,xx 71 1 69 70,xl 72 71,xx 73 1 67 68,xn (qs (tm 73) (tm 72))])
 (.seq (rg [xm 74 7,xm 75 12,xm 76 13,xx 77 1 74 75,xn (qs (tm 77) (tm 76))])
 (.seq (rg [xm 78 0,xm 79 7,xm 80 10,xx 81 1 79 80,xl 82 81,xm 83 11,xx 84 1 82 83,xl 85 84,xo 86 (qc 83 [tm 78,tm 85] [[],[]]),xm 14 86])
 (.seq (.seq (rg [xm 87 7,xm 88 10,xx 89 1 87 88,xl 90 89,xn1 91 90,xo 92 (qm (ci 0))])
 (.block 6 (.loop Jp)))
 (.seq (.seq (rg [xm 112 7,xn1 113 112,xo 114 (qm (ci 0))])
 (.block 8 (.loop Iw)))
 (rg [xm 172 10,xa 173 172,xm 10 173])))))))))))
 (rg [xm 40 11,xa 41 40,xm 11 41])))
def Jc:AC :=
 (.seq (rg [xs1 22 21 20])
 (.seq (.cond (tm 22)
  .skip
  (.exit 0))
 (.seq (.block 1 (.seq (rg [xx 23 1 19 21,xl 24 23,xm 9 24])
 (rg [xm 25 7,xm 26 9,xo 27 (qc 54 [tm 26] [[some .int]]),xo 28 (.mkV 35 sI 1 [tm 27]),xo 29 (.appV 35 sI 24 (tm 25) (tm 28)),xm 7 29])))
 (rg [xa 30 21,xm 21 30]))))
def L3:AC :=
 (.seq (rg [xo 6 (qm (.cst .nils))])
 (.seq (rg [xo 7 (qm (.cst .nils))])
 (.seq (.seq (rg [xm 19 2,xn1 20 19,xo 21 (qm (ci 0))])
 (.block 0 (.loop Jc)))
 (.seq (rg [xo 10 (qm (ci 0))])
 (.seq (.seq (rg [xo 11 (qm (ci 0))])
 (.block 2 (.loop Jm)))
 (.seq (rg [xm 174 7,xm 175 10,xo 176 (.slice 1 (tm 174) none (some (tm 175)) none),xm 6 176])
 .ret))))))
def Sb:List Res:=[.tmp 6]
theorem Sc:At Tryd.prog Tryd.f65=some (L3,Sb):=by kernel_rfl
theorem Ri:A9 Tryd.prog 65=true:=by kernel_rfl
def Cu (a2:LL) (u0:Nat) (u1:LL):Option (Ctl (Nat×LL) (LL)) :=
 cond (decide ((u0:Int)<(a2.length:Int)))
 ((a2[u0]?).bind fun x12 =>
 (Ew x12).bind fun y13 =>
 og (u1.length+1<=1073741824∧(u1.length+1)*24<=140737488355328) <|
 og (u0+1<4611686018427387904) <|
 some (Ctl.next (u0+1,u1++[y13])))
 (some (Ctl.out u1))
def Ct (u1:LL) (u2 u0:Nat):Option (Ctl Nat Nat) :=
 (cond (decide ((u0:Int)<(u1.length:Int)))
  ((u1[u0]?).bind fun x31 =>
  (x31[u2]?).bind fun x32 =>
  some (x32==0))
  (some false)).bind fun u3 =>
cond u3
 (og (u0+1<4611686018427387904) <|
 some (Ctl.next (u0+1)))
 (some (Ctl.out u0))
def Dj (x44:List Int) (u2:Nat) (a0 y46:Int) (u0:Nat) (u1:LL):Option (Ctl (Nat×LL) (LL)) :=
 cond (decide ((u0:Int)<(x44.length:Int)))
 ((u1[u2]?).bind fun x55 =>
 (x55[u0]?).bind fun x56 =>
 (Fv a0 x56 y46).bind fun y57 =>
 og (u0+1<4611686018427387904) <|
 some (Ctl.next (u0+1,u1.set u2 (x55.set u0 y57))))
 (some (Ctl.out u1))
def Dn (x74:List Int) (u2 u3:Nat) (a0 x75:Int) (u0:Nat) (u1:LL):Option (Ctl (Nat×LL) (LL)) :=
 cond (decide ((u0:Int)<(x74.length:Int)))
 ((u1[u2]?).bind fun x83 =>
 (x83[u0]?).bind fun x84 =>
 (u1[u3]?).bind fun x85 =>
 (x85[u0]?).bind fun x86 =>
 (Fv a0 x75 x86).bind fun y87 =>
 (Gx a0 x84 y87).bind fun y88 =>
 og (u0+1<4611686018427387904) <|
 some (Ctl.next (u0+1,u1.set u2 (x83.set u0 y88))))
 (some (Ctl.out u1))
def Dl (u4:LL) (u2 u3:Nat) (a0:Int) (u0:Nat) (u1:LL):Option (Ctl (Nat×LL) (LL)) :=
 cond (decide ((u0:Int)<(u4.length:Int)))
 (((cond ((u0:Int)==(u2:Int))
       (some true)
       ((u1[u0]?).bind fun x70 =>
       (x70[u3]?).bind fun x71 =>
       some (x71==0))).bind fun u5 =>
  cond u5
   (some u1)
   ((u1[u0]?).bind fun x74 =>
   (x74[u3]?).bind fun x75 =>
   A0 (fun s_:Nat×LL=>Dn x74 u0 u2 a0 x75 s_.1 s_.2) 4611686018427387904 (0,u1))).bind fun u6 =>
 og (u0+1<4611686018427387904) <|
 some (Ctl.next (u0+1,u6)))
 (some (Ctl.out u1))
def B9 (a1 a0:Int) (u0 u2:Nat) (u1:LL):Option (Ctl (Nat×Nat×LL) (Nat×LL)) :=
 (cond (decide ((u2:Int)<a1))
  (some (decide ((u0:Int)<(u1.length:Int))))
  (some false)).bind fun u5 =>
cond u5
 (((A0 (fun s_:Nat=>Ct u1 u2 s_) 4611686018427387904 u0).bind fun u3 =>
  cond ((u3:Int)==(u1.length:Int))
   (some (u0,u1))
   ((u1[u0]?).bind fun x39 =>
   (u1[u3]?).bind fun x41 =>
   (((u1.set u0 x41).set u3 x39)[u0]?).bind fun x44 =>
   (x44[u2]?).bind fun x45 =>
   (Gv a0 x45).bind fun y46 =>
   (A0 (fun s_:Nat×LL=>Dj x44 u0 a0 y46 s_.1 s_.2) 4611686018427387904 (0,(u1.set u0 x41).set u3 x39)).bind fun u4 =>
   (A0 (fun s_:Nat×LL=>Dl u4 u0 u2 a0 s_.1 s_.2) 4611686018427387904 (0,u4)).bind fun u6 =>
   og (u0+1<4611686018427387904) <|
   some (u0+1,u6))).bind fun (u7,u8) =>
 og (u2+1<4611686018427387904) <|
 some (Ctl.next (u7,u2+1,u8)))
 (some (Ctl.out (u0,u1)))
def E1 (a0 a1:Int) (a2:LL):Option (LL) :=
 (A0 (fun s_:Nat×LL=>Cu a2 s_.1 s_.2) 4611686018427387904 (0,([]:LL))).bind fun u2 =>
(A0 (fun s_:Nat×Nat×LL=>B9 a1 a0 s_.1 s_.2.1 s_.2.2) 4611686018427387904 (0,0,u2)).bind fun (u0,u1) =>
og ((0:Int)<=0∧0<=(u0:Int)∧(u0:Int)<=(u1.length:Int)) <|
some (u1.take u0)
theorem Q0 {a0 a1:Int} {a2 r:LL} (h:E1 a0 a1 a2=some r):G7 Tryd.prog Tab 65 [ai a0,ai a1,tS a2] [] (oS 0 1 r.length) [(oi 0 1,.mat 35 (oi 1 1) .int r),(oi 1 1,.pool 3 .int r)]:=by
 refine Eb (by kernel_rfl) Tryd.func65 Sc (n:=177) (by kernel_rfl) (by simp) rfl (by kernel_rfl) trivial ⟨⟨3,.tail _ (.head _)⟩,⟨trivial,trivial⟩⟩ ?_;unfold L3;unfold E1 at h;refine An (An (Aw h (fun (uh:LL) S_=>S_=⟨Am [(0,ai a0),(1,ai a1),(7,oS 0 1 uh.length)],Ah (Aq [(oi 0 1,.mat 35 (oi 1 1) .int uh),(oi 1 1,.pool 3 .int uh)]),2⟩) ?_ ?_))
 ·intro v_ h;refine An (Aj (A1 h (fun t_ S_=>∃ (ui:Nat),∃ (ua:LL),t_=(ui,ua)∧S_=⟨Am [(0,ai a0),(1,ai a1),(7,oS 0 1 ua.length),(19,tS a2),(20,an a2.length),(21,an ui)],Ah (Aq [(oi 0 1,.mat 35 (oi 1 1) .int ua),(oi 1 1,.pool 3 .int ua)]),2⟩) ⟨_,(Ol 7 35 sI (by kernel_rfl)).trans ((D5 (e1:=35) (n:=0) 9000 (oi 7 6) 3 .int (by kernel_rfl) (by kernel_rfl) rfl (by kernel_rfl) (by kernel_rfl)).trans (Ac [(oi 0 1,oi 7 6),(oi 1 1,oi 9000 7)])),⟨0,([]:LL),rfl,rfl⟩⟩ ?_));rintro n_ _ _ c_ ⟨ui,ua,rfl,rfl⟩ h hn6
  (try dsimp only at h);unfold Cu at h;unfold Jc;refine An (Ab ?_);rcases Ad h with ⟨q9,h⟩ | ⟨q9,h⟩
  ·have q9_:=of_decide_eq_true q9;refine Ag q9 (Ak (tn_ (wr_ (Ab (Aj (Ab ?_))))));obtain ⟨x12,e12,h⟩:=Ae h;refine Aa 6 (zI sI e12 (rsB 2 (Ar (tn_ (wr_ ?_)))));obtain ⟨y13,h13,h⟩:=Ae h;obtain ⟨g14,h⟩:=As h;refine Aa 12 (rsB 2 (zc (oI 432 8 y13.length) [nI 432 8 y13] [tI x12] (Ka h13) (Ajf (oS 28 9 1) (oi 28 9) (.vec 35 1 1 ([oI 432 8 y13.length])) trivial (X3 (by kernel_rfl)) (zV (oi 0 1) (oi 28 9) (oi 1 1) ua [oI 432 8 y13.length] g14 (rsB 1 (Ar (bn_ (tn_ ⟨_,Ir (e1:=35) (e:=3) (u:=.int) (n:=ua.length+1) (len:=y13.length) (row:=y13) (ys:=y13) (xss:=ua) 9000 (oi 0 10) (oi 1 1) (oi 432 8) (by kernel_rfl) (by kernel_rfl) rfl (by kernel_rfl) (by kernel_rfl) (Uf rfl) (T7 rfl) (by kernel_rfl) (by kernel_rfl) (by kernel_rfl),?_⟩))))))));obtain ⟨g15,h⟩:=As h;refine Aa 15 (zA g15 (rsB 1 (Ar (tn_ ?_))));obtain rfl:=zj h;exact ⟨(ui+1,ua++[y13]),_,(Br 7 (oS 0 10 (ua.length+1)) (oS 0 10 ((ua++[y13]).length)) (by kernel_rfl) (congrArg (fun z_=>((oS 0 10 z_):AV)) ((by simp):ua.length+1=(ua++[y13]).length))).trans (Ac [(oi 0 1,oi 0 10),(oi 1 1,oi 9000 12)]),⟨ui+1,ua++[y13],rfl,rfl⟩,hn6⟩
  have q9_:=of_decide_eq_false q9;refine Af q9 (Az (te_ (te_ (be_ (tn_ ?_)))));obtain rfl:=zj h;have h:=hn6
  (try dsimp only at h);obtain rfl:=zj h;exact ⟨_,Ac [],rfl⟩
 rintro uh _ rfl h
 (try dsimp only at h);refine An (Aw h (fun t_ S_=>∃ (ub:Nat),∃ (uc:LL),t_=(ub,uc)∧S_=⟨Am [(7,oS 0 1 uc.length),(10,an ub)],Ah (Aq [(oi 0 1,.mat 35 (oi 1 1) .int uc),(oi 1 1,.pool 3 .int uc)]),2⟩) ?_ ?_)
 ·intro v_ h;refine An (Aj (A1 h (fun t_ S_=>∃ (u0:Nat),∃ (u3:Nat),∃ (u1:LL),t_=(u0,u3,u1)∧S_=⟨Am [(0,ai a0),(1,ai a1),(7,oS 0 1 u1.length),(10,an u0),(11,an u3)],Ah (Aq [(oi 0 1,.mat 35 (oi 1 1) .int u1),(oi 1 1,.pool 3 .int u1)]),2⟩) ⟨_,Ac [],⟨0,0,uh,rfl,rfl⟩⟩ ?_));rintro n_ _ _ c_ ⟨u0,u3,u1,rfl,rfl⟩ h hn19
  (try dsimp only at h);unfold B9 at h;unfold Jm;refine Ab (Aw h (fun (ul:Bool) S_=>S_=⟨Am [(0,ai a0),(1,ai a1),(7,oS 0 1 u1.length),(10,an u0),(11,an u3),(39,.bool ul)],Ah (Aq [(oi 0 1,.mat 35 (oi 1 1) .int u1),(oi 1 1,.pool 3 .int u1)]),2⟩) ?_ ?_)
  ·intro v_ h;rcases Ad h with ⟨q22,h⟩ | ⟨q22,h⟩
   ·have q22_:=of_decide_eq_true q22;refine Aa 11 (rsB 4 (rs0 (an u0) (zg q22) (rs0 (oS 0 1 u1.length) (zg q22) (rs0 (an u1.length) (zg q22) (rs0 (.bool (decide ((u0:Int)<(u1.length:Int)))) (zg q22) (rs0 (.bool (decide ((u0:Int)<(u1.length:Int)))) (zT q22) (Ar (tn_ ?_))))))));obtain rfl:=zj h;exact ⟨_,Ac [],rfl⟩
   have q22_:=of_decide_eq_false q22;refine Aa 11 (rsB 4 (zs q22 (zs q22 (zs q22 (zs q22 (rs0 (.bool false) (zF q22) (Ar (tn_ ?_))))))));obtain rfl:=zj h;exact ⟨_,Ac [],rfl⟩
  rintro ul _ rfl h
  (try dsimp only at h);rcases Ad h with ⟨q23,h⟩ | ⟨q23,h⟩
  ·refine Ag q23 (Ak (tn_ (wr_ (Aw h (fun t_ S_=>∃ (uj:Nat),∃ (uf:LL),t_=(uj,uf)∧S_=⟨Am [(0,ai a0),(1,ai a1),(7,oS 0 1 uf.length),(10,an uj),(11,an u3)],Ah (Aq [(oi 0 1,.mat 35 (oi 1 1) .int uf),(oi 1 1,.pool 3 .int uf)]),2⟩) ?_ ?_))))
   ·intro v_ h;refine Aj (An (Aw h (fun (u8:Nat) S_=>S_=⟨Am [(0,ai a0),(1,ai a1),(7,oS 0 1 u1.length),(10,an u0),(11,an u3),(12,an u8)],Ah (Aq [(oi 0 1,.mat 35 (oi 1 1) .int u1),(oi 1 1,.pool 3 .int u1)]),2⟩) ?_ ?_))
    ·intro v_ h;refine Aj (A1 h (fun (ud:Nat) S_=>S_=⟨Am [(0,ai a0),(1,ai a1),(7,oS 0 1 u1.length),(10,an u0),(11,an u3),(12,an ud)],Ah (Aq [(oi 0 1,.mat 35 (oi 1 1) .int u1),(oi 1 1,.pool 3 .int u1)]),2⟩) ⟨_,Ac [],rfl⟩ ?_);rintro n_ ud _ c_ rfl h hn27
     (try dsimp only at h);unfold Ct at h;unfold I5;refine Ab (Aw h (fun (um:Bool) S_=>S_=⟨Am [(0,ai a0),(1,ai a1),(7,oS 0 1 u1.length),(10,an u0),(11,an u3),(12,an ud),(56,.bool um)],Ah (Aq [(oi 0 1,.mat 35 (oi 1 1) .int u1),(oi 1 1,.pool 3 .int u1)]),2⟩) ?_ ?_)
     ·intro v_ h;rcases Ad h with ⟨q30,h⟩ | ⟨q30,h⟩
      ·have q30_:=of_decide_eq_true q30;obtain ⟨x31,e31,h⟩:=Ae h;obtain ⟨x32,e32,h⟩:=Ae h;refine Aa 16 (rsB 5 (rs0 (oS 0 1 u1.length) (zg q30) (rs0 (an ud) (zg q30) (rs0 (.elt (oi 0 1) ud 0) (Js (by kernel_rfl) q30 (zo (t:=sI) (o:=oi 0 1) (len:=u1.length) (k:=.i64) (m:=(ud:Int)) (E5 _) (Ax e31))) (rsl (.own (kid (oi 1 1) ud) .int 0 x31.length) (Js (by kernel_rfl) q30 (Hk (o:=oi 0 1) (p:=oi 1 1) (e1:=35) (u:=.int) (xss:=u1) (row:=x31) (j:=ud) (by kernel_rfl) (by kernel_rfl) e31)) (rs0 (an u3) (zg q30) (rs0 (.elt (kid (oi 1 1) ud) u3 0) (Js (by kernel_rfl) q30 (zo (t:=.int) (o:=kid (oi 1 1) ud) (len:=x31.length) (k:=.i64) (m:=(u3:Int)) (E5 _) (Ax e32))) (rsl (ai x32) (Js (by kernel_rfl) q30 (O4 (i:=kid (oi 1 1) ud) (j:=u3) (k:=0) (e:=3) (t:=.int) (xs:=x31) (by kernel_rfl) (B4 (by kernel_rfl) e31) e32 (by kernel_rfl))) (rs0 (.bool (x32==0)) (zg q30) (rs0 (.bool (x32==0)) (zT q30) (Ar (tn_ ?_))))))))))));obtain rfl:=zj h;exact ⟨_,Ac [],rfl⟩
      have q30_:=of_decide_eq_false q30;refine Aa 16 (rsB 5 (zs q30 (zs q30 (zs q30 (zs q30 (zs q30 (zs q30 (zs q30 (zs q30 (rs0 (.bool false) (zF q30) (Ar (tn_ ?_))))))))))));obtain rfl:=zj h;exact ⟨_,Ac [],rfl⟩
     rintro um _ rfl h
     (try dsimp only at h);rcases Ad h with ⟨q33,h⟩ | ⟨q33,h⟩
     ·refine Ag q33 (Ak (tn_ (wr_ (Aj ?_))));obtain ⟨g34,h⟩:=As h;refine Aa 5 (rsB 1 (zA g34 (rsB 1 (Ar (bn_ (tn_ ?_))))));obtain rfl:=zj h;exact ⟨ud+1,_,Ac [],rfl,hn27⟩
     refine Af q33 (Az (te_ (te_ (be_ (tn_ ?_)))));obtain rfl:=zj h;have h:=hn27
     (try dsimp only at h);obtain rfl:=zj h;exact ⟨_,Ac [],rfl⟩
    rintro u8 _ rfl h
    (try dsimp only at h);refine Ab (An ?_);rcases Ad h with ⟨q37,h⟩ | ⟨q37,h⟩
    ·refine Ag q37 (Az (te_ (be_ (tn_ ?_))));obtain rfl:=zj h;exact ⟨_,Ac [],⟨u0,u1,rfl,rfl⟩⟩
    refine Af q37 (Ak (tn_ (wr_ (Ab ?_))));obtain ⟨x39,e39,h⟩:=Ae h;refine Aa 11 (rsB 2 (zO (oi 0 1) sI u1.length (Ax e39) (rsl (.own (kid (oi 1 1) u0) .int 0 x39.length) (Hk (o:=oi 0 1) (p:=oi 1 1) (e1:=35) (u:=.int) (xss:=u1) (row:=x39) (j:=u0) (by kernel_rfl) (by kernel_rfl) e39) (rsB 1 (Ar (tn_ (wr_ (Ab ?_))))))));obtain ⟨x41,e41,h⟩:=Ae h;refine Aa 19 (rsB 4 (zO (oi 0 1) sI u1.length (Ax e41) (rsl (.own (kid (oi 1 1) u8) .int 0 x41.length) (Hk (o:=oi 0 1) (p:=oi 1 1) (e1:=35) (u:=.int) (xss:=u1) (row:=x41) (j:=u8) (by kernel_rfl) (by kernel_rfl) e41) (zO (oi 0 1) sI u1.length (Ax e39) (Akm (oi 0 1) (oi 0 1) (.vec 35 1 u1.length ((hdL (oi 1 1) .int u1).set u0 (.own (kid (oi 1 1) u8) .int 0 x41.length))) (Aiv (o:=oi 0 1) (e1:=35) (m:=u1.length) (cs:=hdL (oi 1 1) .int u1) (v:=.own (kid (oi 1 1) u8) .int 0 x41.length) (j:=u0) (by kernel_rfl) (by kernel_rfl) (by kernel_rfl) rfl (by rw [Ft]; exact Ax e39)) (Ar (tn_ (wr_ (Ab (Aa 24 (rsB 3 (zO (oi 0 1) sI u1.length (Ax e41) (Akm (oi 0 1) (oi 0 1) (.vec 35 1 u1.length (((hdL (oi 1 1) .int u1).set u0 (.own (kid (oi 1 1) u8) .int 0 x41.length)).set u8 (.own (kid (oi 1 1) u0) .int 0 x39.length))) (Aiv (o:=oi 0 1) (e1:=35) (m:=u1.length) (cs:=(hdL (oi 1 1) .int u1).set u0 (.own (kid (oi 1 1) u8) .int 0 x41.length)) (v:=.own (kid (oi 1 1) u0) .int 0 x39.length) (j:=u8) (by kernel_rfl) (by kernel_rfl) (by kernel_rfl) rfl (by rw [List.length_set,Ft]; exact Ax e41)) (Ar (tn_ ⟨_,Adh (e1:=35) (e:=3) (u:=.int) (xss:=u1) (i:=u0) (j:=u8) (n:=u1.length) (li:=x39.length) (lj:=x41.length) (ri:=x39) (rj:=x41) 9000 (oi 0 1) (oi 1 1) (by kernel_rfl) (by kernel_rfl) rfl (by kernel_rfl) e39 e41 rfl rfl (by kernel_rfl) (by kernel_rfl),Ab ?_⟩)))))))))))))));obtain ⟨x44,e44,h⟩:=Ae h;obtain ⟨x45,e45,h⟩:=Ae h;obtain ⟨y46,h46,h⟩:=Ae h;refine Aa 35 (rsB 3 (rs0 (.elt (oi 0 1) u0 0) (zo (t:=sI) (o:=oi 0 1) (len:=u1.length) (k:=.i64) (m:=(u0:Int)) (E5 _) (Nat.lt_of_lt_of_le (Ax e44) (Nat.le_of_eq (Eq.symm (Eq.trans (b:=u1.length) rfl (by simp)))))) (rsl (.own (kid (oi 9000 24) u0) .int 0 x44.length) (Hk (o:=oi 0 1) (p:=oi 9000 24) (e1:=35) (u:=.int) (xss:=(u1.set u0 x41).set u8 x39) (row:=x44) (j:=u0) (by kernel_rfl) (by kernel_rfl) e44) (rsB 1 (rs0 (.elt (kid (oi 9000 24) u0) u3 0) (zo (t:=.int) (o:=kid (oi 9000 24) u0) (len:=x44.length) (k:=.i64) (m:=(u3:Int)) (E5 _) (Ax e45)) (rsl (ai x45) (O4 (i:=kid (oi 9000 24) u0) (j:=u3) (k:=0) (e:=3) (t:=.int) (xs:=x44) (by kernel_rfl) (B4 (by kernel_rfl) e44) e45 (by kernel_rfl)) (zc (ai y46) [] [ai a0,ai x45] (Ws h46) (rsB 1 (Ar (tn_ (wr_ (Aw h (fun (ue:LL) S_=>S_=⟨Am [(0,ai a0),(1,ai a1),(7,oS 0 1 ue.length),(10,an u0),(11,an u3)],Ah (Aq [(oi 0 1,.mat 35 (oi 1 1) .int ue),(oi 1 1,.pool 3 .int ue)]),2⟩) ?_ ?_))))))))))))
    ·intro v_ h;refine Ab (Aa 41 (rsB 2 (rs0 (.elt (oi 0 1) u0 0) (zo (t:=sI) (o:=oi 0 1) (len:=u1.length) (k:=.i64) (m:=(u0:Int)) (E5 _) (Nat.lt_of_lt_of_le (Ax e44) (Nat.le_of_eq (Eq.symm (Eq.trans (b:=u1.length) rfl (by simp)))))) (rsl (.own (kid (oi 9000 24) u0) .int 0 x44.length) (Hk (o:=oi 0 1) (p:=oi 9000 24) (e1:=35) (u:=.int) (xss:=(u1.set u0 x41).set u8 x39) (row:=x44) (j:=u0) (by kernel_rfl) (by kernel_rfl) e44) (rsB 2 (Ar (tn_ (wr_ (Aj (A1 h (fun t_ S_=>∃ (u6:Nat),∃ (u7:LL),t_=(u6,u7)∧S_=⟨Am [(0,ai a0),(1,ai a1),(7,oS 0 1 u7.length),(10,an u0),(11,an u3),(14,ai y46),(91,an x44.length),(92,an u6)],Ah (Aq [(oi 0 1,.mat 35 (oi 1 1) .int u7),(oi 1 1,.pool 3 .int u7)]),2⟩) ⟨_,(Br 7 (oS 0 1 u1.length) (oS 0 1 (((u1.set u0 x41).set u8 x39).length)) (by kernel_rfl) (congrArg (fun z_=>((oS 0 1 z_):AV)) ((Eq.trans (b:=u1.length) rfl (by simp)):u1.length=((u1.set u0 x41).set u8 x39).length))).trans (Ac [(oi 1 1,oi 9000 24)]),⟨0,(u1.set u0 x41).set u8 x39,rfl,rfl⟩⟩ ?_))))))))));rintro n_ _ _ c_ ⟨u6,u7,rfl,rfl⟩ h hn49
     (try dsimp only at h);unfold Dj at h;unfold Jp;refine An (Ab ?_);rcases Ad h with ⟨q52,h⟩ | ⟨q52,h⟩
     ·have q52_:=of_decide_eq_true q52;refine Ag q52 (Ak (tn_ (wr_ (Ab (Aj (An ?_))))));obtain ⟨x55,e55,h⟩:=Ae h;obtain ⟨x56,e56,h⟩:=Ae h;obtain ⟨y57,h57,h⟩:=Ae h;refine Bi 22 (dz0 (oS 0 1 u7.length) (dz0 (an u0) (dzO (oi 0 1) sI u7.length (Ax e55) (dsl (.own (kid (oi 1 1) u0) .int 0 x55.length) (Hk (o:=oi 0 1) (p:=oi 1 1) (e1:=35) (u:=.int) (xss:=u7) (row:=x55) (j:=u0) (by kernel_rfl) (by kernel_rfl) e55) (dz0 (an u6) (dz0 (ai a0) (dz0 (oS 0 1 u7.length) (dz0 (an u0) (dzO (oi 0 1) sI u7.length (Ax e55) (dsl (.own (kid (oi 1 1) u0) .int 0 x55.length) (Hk (o:=oi 0 1) (p:=oi 1 1) (e1:=35) (u:=.int) (xss:=u7) (row:=x55) (j:=u0) (by kernel_rfl) (by kernel_rfl) e55) (dz0 (an u6) (ds0 (.elt (kid (oi 1 1) u0) u6 0) (zo (t:=.int) (o:=kid (oi 1 1) u0) (len:=x55.length) (k:=.i64) (m:=(u6:Int)) (E5 _) (Ax e56)) (dsl (ai x56) (O4 (i:=kid (oi 1 1) u0) (j:=u6) (k:=0) (e:=3) (t:=.int) (xs:=x55) (by kernel_rfl) (X2.trans (B4 (by kernel_rfl) e55)) e56 (by kernel_rfl)) (dz0 (ai y46) (dzc (ai y57) [] [ai a0,ai x56,ai y46] (Nu h57) (ds0 (.elt (kid (oi 1 1) u0) u6 0) (zo (t:=.int) (o:=kid (oi 1 1) u0) (len:=x55.length) (k:=.i64) (m:=(u6:Int)) (E5 _) (Ax e56)) (Aa9 (kid (oi 1 1) u0) (kid (oi 1 1) u0) (.arr 3 .int (x55.set u6 y57)) (Aa4 (i:=kid (oi 1 1) u0) (j:=u6) (k:=0) (e:=3) (t:=.int) (xs:=x55) (cs:=[ai y57]) (x1:=y57) (by kernel_rfl) (X2.trans (B4 (by kernel_rfl) e55)) e56 (by kernel_rfl) (by kernel_rfl)) (Aio (Zg (o:=oi 0 1) (p:=oi 1 1) (e1:=35) (e:=3) (u:=.int) (xss:=u7) (k:=u0) (row:=x55) (row':=x55.set u6 y57) (by kernel_rfl) rfl (by kernel_rfl) e55 List.length_set) (Nm (Cn (by kernel_rfl)) (bn_ (tn_ (wr_ ?_))))))))))))))))))))));obtain ⟨g58,h⟩:=As h;refine Aa 24 (zA g58 (rsB 1 (Ar (tn_ ?_))));obtain rfl:=zj h;exact ⟨(u6+1,u7.set u0 (x55.set u6 y57)),_,(Br 7 (oS 0 1 u7.length) (oS 0 1 ((u7.set u0 (x55.set u6 y57)).length)) (by kernel_rfl) (congrArg (fun z_=>((oS 0 1 z_):AV)) ((Eq.trans (b:=u7.length) rfl List.length_set.symm):u7.length=(u7.set u0 (x55.set u6 y57)).length))).trans (Ac []),⟨u6+1,u7.set u0 (x55.set u6 y57),rfl,rfl⟩,hn49⟩
     have q52_:=of_decide_eq_false q52;refine Af q52 (Az (te_ (te_ (be_ (tn_ ?_)))));obtain rfl:=zj h;have h:=hn49
     (try dsimp only at h);obtain rfl:=zj h;exact ⟨_,Ac [],rfl⟩
    rintro ue _ rfl h
    (try dsimp only at h);refine Aw h (fun (uk:LL) S_=>S_=⟨Am [(0,ai a0),(1,ai a1),(7,oS 0 1 uk.length),(10,an u0),(11,an u3)],Ah (Aq [(oi 0 1,.mat 35 (oi 1 1) .int uk),(oi 1 1,.pool 3 .int uk)]),2⟩) ?_ ?_
    ·intro v_ h;refine An (Aj (A1 h (fun t_ S_=>∃ (u2:Nat),∃ (u9:LL),t_=(u2,u9)∧S_=⟨Am [(0,ai a0),(1,ai a1),(7,oS 0 1 u9.length),(10,an u0),(11,an u3),(113,an ue.length),(114,an u2)],Ah (Aq [(oi 0 1,.mat 35 (oi 1 1) .int u9),(oi 1 1,.pool 3 .int u9)]),2⟩) ⟨_,Ac [],⟨0,ue,rfl,rfl⟩⟩ ?_));rintro n_ _ _ c_ ⟨u2,u9,rfl,rfl⟩ h hn61
     (try dsimp only at h);unfold Dl at h;unfold Iw;refine An (Ab ?_);rcases Ad h with ⟨q64,h⟩ | ⟨q64,h⟩
     ·have q64_:=of_decide_eq_true q64;refine Ag q64 (Ak (tn_ (wr_ (Aw h (fun (ug:LL) S_=>S_=⟨Am [(0,ai a0),(1,ai a1),(7,oS 0 1 ug.length),(10,an u0),(11,an u3),(113,an ue.length),(114,an u2)],Ah (Aq [(oi 0 1,.mat 35 (oi 1 1) .int ug),(oi 1 1,.pool 3 .int ug)]),2⟩) ?_ ?_))))
      ·intro v_ h;refine Aj (An (Ab (Aw h (fun (un:Bool) S_=>S_=⟨Am [(0,ai a0),(1,ai a1),(7,oS 0 1 u9.length),(10,an u0),(11,an u3),(16,an u2),(113,an ue.length),(114,an u2),(129,.bool un)],Ah (Aq [(oi 0 1,.mat 35 (oi 1 1) .int u9),(oi 1 1,.pool 3 .int u9)]),2⟩) ?_ ?_)))
       ·intro v_ h;rcases Ad h with ⟨q69,h⟩ | ⟨q69,h⟩
        ·refine Aa 18 (rsB 4 (zs q69 (zs q69 (zs q69 (zs q69 (zs q69 (zs q69 (zs q69 (zs q69 (rs0 (.bool true) (zT q69) (Ar (tn_ ?_))))))))))));obtain rfl:=zj h;exact ⟨_,Ac [],rfl⟩
        obtain ⟨x70,e70,h⟩:=Ae h;obtain ⟨x71,e71,h⟩:=Ae h;refine Aa 18 (rsB 4 (rs0 (oS 0 1 u9.length) (zg q69) (rs0 (an u2) (zg q69) (rs0 (.elt (oi 0 1) u2 0) (Js (by kernel_rfl) q69 (zo (t:=sI) (o:=oi 0 1) (len:=u9.length) (k:=.i64) (m:=(u2:Int)) (E5 _) (Ax e70))) (rsl (.own (kid (oi 1 1) u2) .int 0 x70.length) (Js (by kernel_rfl) q69 (Hk (o:=oi 0 1) (p:=oi 1 1) (e1:=35) (u:=.int) (xss:=u9) (row:=x70) (j:=u2) (by kernel_rfl) (by kernel_rfl) e70)) (rs0 (an u3) (zg q69) (rs0 (.elt (kid (oi 1 1) u2) u3 0) (Js (by kernel_rfl) q69 (zo (t:=.int) (o:=kid (oi 1 1) u2) (len:=x70.length) (k:=.i64) (m:=(u3:Int)) (E5 _) (Ax e71))) (rsl (ai x71) (Js (by kernel_rfl) q69 (O4 (i:=kid (oi 1 1) u2) (j:=u3) (k:=0) (e:=3) (t:=.int) (xs:=x70) (by kernel_rfl) (B4 (by kernel_rfl) e70) e71 (by kernel_rfl))) (rs0 (.bool (x71==0)) (zg q69) (rs0 (.bool (x71==0)) (zF q69) (Ar (tn_ ?_))))))))))));obtain rfl:=zj h;exact ⟨_,Ac [],rfl⟩
       rintro un _ rfl h
       (try dsimp only at h);rcases Ad h with ⟨q72,h⟩ | ⟨q72,h⟩
       ·refine Ag q72 (Az (te_ (be_ (tn_ ?_))));obtain rfl:=zj h;exact ⟨_,Ac [],rfl⟩
       refine Af q72 (Ak (tn_ (wr_ (Ab ?_))));obtain ⟨x74,e74,h⟩:=Ae h;obtain ⟨x75,e75,h⟩:=Ae h;refine Aa 10 (rsB 2 (zO (oi 0 1) sI u9.length (Ax e74) (rsl (.own (kid (oi 1 1) u2) .int 0 x74.length) (Hk (o:=oi 0 1) (p:=oi 1 1) (e1:=35) (u:=.int) (xss:=u9) (row:=x74) (j:=u2) (by kernel_rfl) (by kernel_rfl) e74) (rsB 1 (rs0 (.elt (kid (oi 1 1) u2) u3 0) (zo (t:=.int) (o:=kid (oi 1 1) u2) (len:=x74.length) (k:=.i64) (m:=(u3:Int)) (E5 _) (Ax e75)) (rsl (ai x75) (O4 (i:=kid (oi 1 1) u2) (j:=u3) (k:=0) (e:=3) (t:=.int) (xs:=x74) (by kernel_rfl) (B4 (by kernel_rfl) e74) e75 (by kernel_rfl)) (rsB 1 (Ar (tn_ (wr_ (Ab (Aa 16 (rsB 2 (zO (oi 0 1) sI u9.length (Ax e74) (rsl (.own (kid (oi 1 1) u2) .int 0 x74.length) (Hk (o:=oi 0 1) (p:=oi 1 1) (e1:=35) (u:=.int) (xss:=u9) (row:=x74) (j:=u2) (by kernel_rfl) (by kernel_rfl) e74) (rsB 2 (Ar (tn_ (wr_ (Aj (A1 h (fun t_ S_=>∃ (u4:Nat),∃ (u5:LL),t_=(u4,u5)∧S_=⟨Am [(0,ai a0),(1,ai a1),(7,oS 0 1 u5.length),(10,an u0),(11,an u3),(16,an u2),(17,ai x75),(113,an ue.length),(114,an u2),(141,an x74.length),(142,an u4)],Ah (Aq [(oi 0 1,.mat 35 (oi 1 1) .int u5),(oi 1 1,.pool 3 .int u5)]),2⟩) ⟨_,Ac [],⟨0,u9,rfl,rfl⟩⟩ ?_)))))))))))))))))))));rintro n_ _ _ c_ ⟨u4,u5,rfl,rfl⟩ h hn77
       (try dsimp only at h);unfold Dn at h;unfold Jo;refine An (Ab ?_);rcases Ad h with ⟨q80,h⟩ | ⟨q80,h⟩
       ·have q80_:=of_decide_eq_true q80;refine Ag q80 (Ak (tn_ (wr_ (Ab (Aj (An ?_))))));obtain ⟨x83,e83,h⟩:=Ae h;obtain ⟨x84,e84,h⟩:=Ae h;obtain ⟨x85,e85,h⟩:=Ae h;obtain ⟨x86,e86,h⟩:=Ae h;obtain ⟨y87,h87,h⟩:=Ae h;obtain ⟨y88,h88,h⟩:=Ae h;refine Bi 31 (dz0 (oS 0 1 u5.length) (dz0 (an u2) (dzO (oi 0 1) sI u5.length (Ax e83) (dsl (.own (kid (oi 1 1) u2) .int 0 x83.length) (Hk (o:=oi 0 1) (p:=oi 1 1) (e1:=35) (u:=.int) (xss:=u5) (row:=x83) (j:=u2) (by kernel_rfl) (by kernel_rfl) e83) (dz0 (an u4) (dz0 (ai a0) (dz0 (oS 0 1 u5.length) (dz0 (an u2) (dzO (oi 0 1) sI u5.length (Ax e83) (dsl (.own (kid (oi 1 1) u2) .int 0 x83.length) (Hk (o:=oi 0 1) (p:=oi 1 1) (e1:=35) (u:=.int) (xss:=u5) (row:=x83) (j:=u2) (by kernel_rfl) (by kernel_rfl) e83) (dz0 (an u4) (ds0 (.elt (kid (oi 1 1) u2) u4 0) (zo (t:=.int) (o:=kid (oi 1 1) u2) (len:=x83.length) (k:=.i64) (m:=(u4:Int)) (E5 _) (Ax e84)) (dsl (ai x84) (O4 (i:=kid (oi 1 1) u2) (j:=u4) (k:=0) (e:=3) (t:=.int) (xs:=x83) (by kernel_rfl) (X2.trans (B4 (by kernel_rfl) e83)) e84 (by kernel_rfl)) (dz0 (ai a0) (dz0 (ai x75) (dz0 (oS 0 1 u5.length) (dz0 (an u0) (dzO (oi 0 1) sI u5.length (Ax e85) (dsl (.own (kid (oi 1 1) u0) .int 0 x85.length) (Hk (o:=oi 0 1) (p:=oi 1 1) (e1:=35) (u:=.int) (xss:=u5) (row:=x85) (j:=u0) (by kernel_rfl) (by kernel_rfl) e85) (dz0 (an u4) (ds0 (.elt (kid (oi 1 1) u0) u4 0) (zo (t:=.int) (o:=kid (oi 1 1) u0) (len:=x85.length) (k:=.i64) (m:=(u4:Int)) (E5 _) (Ax e86)) (dsl (ai x86) (O4 (i:=kid (oi 1 1) u0) (j:=u4) (k:=0) (e:=3) (t:=.int) (xs:=x85) (by kernel_rfl) (X2.trans (B4 (by kernel_rfl) e85)) e86 (by kernel_rfl)) (dzc (ai y87) [] [ai a0,ai x75,ai x86] (Nu h87) (dzc (ai y88) [] [ai a0,ai x84,ai y87] (Wk h88) (ds0 (.elt (kid (oi 1 1) u2) u4 0) (zo (t:=.int) (o:=kid (oi 1 1) u2) (len:=x83.length) (k:=.i64) (m:=(u4:Int)) (E5 _) (Ax e84)) (Aa9 (kid (oi 1 1) u2) (kid (oi 1 1) u2) (.arr 3 .int (x83.set u4 y88)) (Aa4 (i:=kid (oi 1 1) u2) (j:=u4) (k:=0) (e:=3) (t:=.int) (xs:=x83) (cs:=[ai y88]) (x1:=y88) (by kernel_rfl) (X2.trans (B4 (by kernel_rfl) e83)) e84 (by kernel_rfl) (by kernel_rfl)) (Aio (Zg (o:=oi 0 1) (p:=oi 1 1) (e1:=35) (e:=3) (u:=.int) (xss:=u5) (k:=u2) (row:=x83) (row':=x83.set u4 y88) (by kernel_rfl) rfl (by kernel_rfl) e83 List.length_set) (Nm (Cn (by kernel_rfl)) (bn_ (tn_ (wr_ ?_)))))))))))))))))))))))))))))));obtain ⟨g89,h⟩:=As h;refine Aa 33 (zA g89 (rsB 1 (Ar (tn_ ?_))));obtain rfl:=zj h;exact ⟨(u4+1,u5.set u2 (x83.set u4 y88)),_,(Br 7 (oS 0 1 u5.length) (oS 0 1 ((u5.set u2 (x83.set u4 y88)).length)) (by kernel_rfl) (congrArg (fun z_=>((oS 0 1 z_):AV)) ((Eq.trans (b:=u5.length) rfl List.length_set.symm):u5.length=(u5.set u2 (x83.set u4 y88)).length))).trans (Ac []),⟨u4+1,u5.set u2 (x83.set u4 y88),rfl,rfl⟩,hn77⟩
       have q80_:=of_decide_eq_false q80;refine Af q80 (Az (te_ (te_ (be_ (bn_ (tn_ ?_))))));obtain rfl:=zj h;have h:=hn77
       (try dsimp only at h);obtain rfl:=zj h;exact ⟨_,Ac [],rfl⟩
      rintro ug _ rfl h
      (try dsimp only at h);obtain ⟨g90,h⟩:=As h;refine Aa 4 (zA g90 (rsB 1 (Ar (tn_ ?_))));obtain rfl:=zj h;exact ⟨(u2+1,ug),_,Ac [],⟨u2+1,ug,rfl,rfl⟩,hn61⟩
     have q64_:=of_decide_eq_false q64;refine Af q64 (Az (te_ (te_ (be_ (tn_ ?_)))));obtain rfl:=zj h;have h:=hn61
     (try dsimp only at h);obtain rfl:=zj h;exact ⟨_,Ac [],rfl⟩
    rintro uk _ rfl h
    (try dsimp only at h);obtain ⟨g91,h⟩:=As h;refine Aa 5 (rsB 1 (zA g91 (rsB 1 (Ar (bn_ (tn_ ?_))))));obtain rfl:=zj h;exact ⟨_,Ac [],⟨u0+1,uk,rfl,rfl⟩⟩
   rintro _ _ ⟨uj,uf,rfl,rfl⟩ h
   (try dsimp only at h);obtain ⟨g92,h⟩:=As h;refine Aa 5 (rsB 1 (zA g92 (rsB 1 (Ar (tn_ ?_)))));obtain rfl:=zj h;exact ⟨(uj,u3+1,uf),_,Ac [],⟨uj,u3+1,uf,rfl,rfl⟩,hn19⟩
  refine Af q23 (Az (te_ (te_ (be_ (tn_ ?_)))));obtain rfl:=zj h;have h:=hn19
  (try dsimp only at h);obtain rfl:=zj h;exact ⟨_,Ac [],⟨u0,u1,rfl,rfl⟩⟩
 rintro _ _ ⟨ub,uc,rfl,rfl⟩ h
 (try dsimp only at h);refine Ab ?_;obtain ⟨g94,h⟩:=As h;refine Aa 6 (rsB 2 (rs0 (oS 0 1 ub) (Ab1 (t:=sI) (i:=oi 0 1) (off:=0) (len:=uc.length) (l:=0) (h:=(ub:Int)) (by kernel_rfl) (by kernel_rfl) (by kernel_rfl) rfl g94 rfl (by omega)) (rsB 1 (Ar (tn_ (wr_ (Al ?_)))))));obtain rfl:=zj h;exact H7 [oS 0 1 ((uc.take ub).length)] ((Aeb (e1:=35) (e:=3) (u:=.int) (xss:=uc) (n:=uc.length) (k:=ub) 9000 (oi 0 1) (oi 1 1) (by kernel_rfl) (by kernel_rfl) rfl (by kernel_rfl) (by omega) (by kernel_rfl) (by kernel_rfl) (by kernel_rfl)).trans ((Br 6 (oS 0 1 ub) (oS 0 1 ((uc.take ub).length)) (by kernel_rfl) (congrArg (fun z_=>((oS 0 1 z_):AV)) ((Ako (by omega)):ub=(uc.take ub).length))).trans (Ac (tl:=[(6,oS 0 1 (uc.take ub).length)]) (g:=2) [(oi 1 1,oi 9000 6)])))
def Lv:AC :=
 (.seq (.seq (rg [xm 10 2,xo 11 (qb .gtr (tm 10) (ci 0))])
 (.cond (tm 11)
  .skip
  (.exit 0)))
 (.seq (.block 1 (.seq (.seq (rg [xm 14 2,xo 15 (qb .rem (tm 14) (ci 2)),xo 16 (qb .eql (tm 15) (ci 1))])
 (.cond (tm 16)
  (rg [xm 17 7,xm 18 1,xo 19 (qb .mul (tm 17) (tm 18)),xm 20 0,xo 21 (qb .rem (tm 19) (tm 20)),xm 7 21])
  .skip))
 (rg [xm 22 1,xm 23 1,xo 24 (qb .mul (tm 22) (tm 23)),xm 25 0,xo 26 (qb .rem (tm 24) (tm 25)),xm 1 26])))
 (rg [xm 12 2,xo 13 (qb .quo (tm 12) (ci 2)),xm 2 13])))
def Pn:AC :=
 (.seq (rg [xo 6 (qm (ci 0))])
 (.seq (rg [xm 8 0,xo 9 (qb .rem (ci 1) (tm 8)),xm 7 9])
 (.seq (.block 0 (.loop Lv))
 (.seq (rg [xm 27 7,xm 6 27])
 .ret))))
def Y9:List Res:=[.tmp 6]
theorem Ys:At Tryd.prog Tryd.f87=some (Pn,Y9):=by kernel_rfl
def L6 (a0 u0:Int) (u1 u2:Int):Option (Ctl (Int×Int×Int) Int) :=
 cond (decide (0<u1))
 ((cond ((Int.tmod u1 2)==1)
   (og (a0≠0) <|
   some (Int.tmod (wI (u2*u0)) a0))
   (some u2)).bind fun u3 =>
 og (a0≠0) <|
 some (Ctl.next (Int.tmod (wI (u0*u0)) a0,wI (Int.tdiv u1 2),u3)))
 (some (Ctl.out u2))
def Ln (a0 a1 a2:Int):Option Int :=
 og (a0≠0) <|
(A0 (fun s_:Int×Int×Int=>L6 a0 s_.1 s_.2.1 s_.2.2) 4611686018427387904 (a1,a2,Int.tmod 1 a0)).bind fun u0 =>
some u0
def Wz (r:Int):RV:=⟨false,[(false,[.sc (.int .i64 r)])]⟩
theorem W8 {a0 a1:Int} {a2 r:Int} (h:Ln a0 a1 a2=some r):A7 Tryd.prog Tab 87 [ai a0,ai a1,ai a2] (Wz r):=by
 refine A3 (by kernel_rfl) Tryd.func87 Ys (n:=28) (by kernel_rfl) (by simp) rfl ?_;unfold Pn;unfold Ln at h;refine An (Ab ?_);obtain ⟨g3,h⟩:=As h;refine Aa 5 (rsB 1 (rs0 (ai (Int.tmod 1 a0)) (P8 (k:=.i64) (a:=1) (b:=a0) (by kernel_rfl) (by kernel_rfl) g3) (rsB 1 (Ar (tn_ (wr_ (Aw h (fun (u4:Int) S_=>S_=⟨Am [(7,ai u4)],Ah (Aq []),2⟩) ?_ ?_)))))))
 ·intro v_ h;refine Aj (A1 h (fun t_ S_=>∃ (u0:Int),∃ (u1:Int),∃ (u2:Int),t_=(u0,u1,u2)∧S_=⟨Am [(0,ai a0),(1,ai u0),(2,ai u1),(7,ai u2)],Ah (Aq []),2⟩) ⟨_,Ac [],⟨a1,a2,Int.tmod 1 a0,rfl,rfl⟩⟩ ?_);rintro n_ _ _ c_ ⟨u0,u1,u2,rfl,rfl⟩ h hn5
  (try dsimp only at h);unfold L6 at h;unfold Lv;refine Ab (An ?_);rcases Ad h with ⟨q8,h⟩ | ⟨q8,h⟩
  ·have q8_:=of_decide_eq_true q8;refine Ag q8 (Ak (tn_ (wr_ (Ab (Aj (Aw h (fun (u3:Int) S_=>S_=⟨Am [(0,ai a0),(1,ai u0),(2,ai u1),(7,ai u3)],Ah (Aq []),2⟩) ?_ ?_))))))
   ·intro v_ h;refine Ab (Aa 7 (rsB 1 (rs0 (ai (Int.tmod u1 2)) (P8 (k:=.i64) (a:=u1) (b:=2) (by kernel_rfl) (by kernel_rfl) (by decide)) (rsB 1 (Ar (tn_ (wr_ ?_)))))));rcases Ad h with ⟨q12,h⟩ | ⟨q12,h⟩
    ·refine Ag q12 ?_;obtain ⟨g13,h⟩:=As h;refine Aa 13 (rsB 4 (rs0 (ai (Int.tmod (wI (u2*u0)) a0)) (P8 (k:=.i64) (a:=wI (u2*u0)) (b:=a0) (by kernel_rfl) (by kernel_rfl) g13) (rsB 1 (Ar (tn_ ?_)))));obtain rfl:=zj h;exact ⟨_,Ac [],rfl⟩
    refine Af q12 (Ak (tn_ ?_));obtain rfl:=zj h;exact ⟨_,Ac [],rfl⟩
   rintro u3 _ rfl h
   (try dsimp only at h);obtain ⟨g14,h⟩:=As h;refine Aa 8 (rsB 4 (rs0 (ai (Int.tmod (wI (u0*u0)) a0)) (P8 (k:=.i64) (a:=wI (u0*u0)) (b:=a0) (by kernel_rfl) (by kernel_rfl) g14) (rsB 1 (Ar (bn_ (tn_ (wr_ (Aa 11 (rsB 1 (rs0 (ai (wI (Int.tdiv u1 2))) (Al7 (k:=.i64) (a:=u1) (b:=2) (by kernel_rfl) (by kernel_rfl) (by decide)) (rsB 1 (Ar (tn_ ?_)))))))))))));obtain rfl:=zj h;exact ⟨(Int.tmod (wI (u0*u0)) a0,wI (Int.tdiv u1 2),u3),_,Ac [],⟨Int.tmod (wI (u0*u0)) a0,wI (Int.tdiv u1 2),u3,rfl,rfl⟩,hn5⟩
  have q8_:=of_decide_eq_false q8;refine Af q8 (Az (te_ (te_ (be_ (tn_ ?_)))));obtain rfl:=zj h;have h:=hn5
  (try dsimp only at h);obtain rfl:=zj h;exact ⟨_,Ac [],rfl⟩
 rintro u4 _ rfl h
 (try dsimp only at h);refine An (Al ?_);obtain rfl:=zj h;exact Bh [ai u4] (A5 rfl zl A4)
def Uq:AC :=
 (.seq (rg [xo 2 (qm (ci 0))])
 (.seq (.seq (rg [xm 3 0])
 (.cond (tm 3)
  (.seq (rg [xo 2 (qm (ci 1))])
  .ret)
  .skip))
 (.seq (rg [xo 2 (qm (ci 0))])
 .ret)))
def Adm:List Res:=[.tmp 2]
theorem Ad7:At Tryd.prog Tryd.f88=some (Uq,Adm):=by kernel_rfl
def Oy (a0:Bool):Option Int :=
 cond a0
 (some 1)
 (some 0)
def Abu (r:Int):RV:=⟨false,[(false,[.sc (.int .i64 r)])]⟩
theorem Abp {a0:Bool} {r:Int} (h:Oy a0=some r):A7 Tryd.prog Tab 88 [.bool a0] (Abu r):=by
 refine A3 (by kernel_rfl) Tryd.func88 Ad7 (n:=4) (by kernel_rfl) (by simp) rfl ?_;unfold Uq;unfold Oy at h;refine An (Ab (An ?_));rcases Ad h with ⟨q4,h⟩ | ⟨q4,h⟩
 ·refine Ag q4 (An (Al (tr_ ?_)));obtain rfl:=zj h;exact Bh [ai 1] (A5 rfl zl A4)
 refine Af q4 (Ak (tn_ (wr_ (An (Al ?_)))));obtain rfl:=zj h;exact Bh [ai 0] (A5 rfl zl A4)
def Mq:AC :=
 (.seq (rg [xo 4 (qm (ci 0))])
 (.seq (rg [xm 5 0,xm 6 1,xm 7 0,xo 8 (qb .sub (tm 7) (ci 2)),xm 9 0,xo 10 (qb .eql (tm 9) (ci 2)),xo 11 (qc 88 [tm 10] [[]]),xo 12 (qb .add (tm 8) (tm 11)),xo 13 (qc 87 [tm 5,tm 6,tm 12] [[],[],[]]),xm 4 13])
 .ret))
def Tt:List Res:=[.tmp 4]
theorem Tq:At Tryd.prog Tryd.f70=some (Mq,Tt):=by kernel_rfl
def Fk (a0 a1:Int):Option Int :=
 (Oy (a0==2)).bind fun y3 =>
(Ln a0 a1 (wI (wI (a0 - 2)+y3))).bind fun y4 =>
some y4
def Ss (r:Int):RV:=⟨false,[(false,[.sc (.int .i64 r)])]⟩
theorem S4 {a0 a1 r:Int} (h:Fk a0 a1=some r):A7 Tryd.prog Tab 70 [ai a0,ai a1] (Ss r):=by
 refine A3 (by kernel_rfl) Tryd.func70 Tq (n:=14) (by kernel_rfl) (by simp) rfl ?_;unfold Mq;unfold Fk at h;refine An (Ab ?_);obtain ⟨y3,h3,h⟩:=Ae h;obtain ⟨y4,h4,h⟩:=Ae h;refine Aa 12 (rsB 6 (zc (ai y3) [] [.bool (a0==2)] (Abp h3) (rsB 1 (zc (ai y4) [] [ai a0,ai a1,ai (wI (wI (a0 - 2)+y3))] (W8 h4) (rsB 1 (Ar (tn_ (wr_ (Al ?_)))))))));obtain rfl:=zj h;exact Bh [ai y4] (A5 rfl zl A4)
def La:AC :=
 (.seq (rg [xs1 12 11 10])
 (.seq (.cond (tm 12)
  .skip
  (.exit 0))
 (.seq (.block 1 (.seq (rg [xx 13 1 9 11,xl 14 13,xm 5 14])
 (rg [xm 15 3,xm 16 5,xo 17 (qc 47 [tm 16] [[some .int]]),xo 18 (.mkV 35 sI 1 [tm 17]),xo 19 (.appV 35 sI 24 (tm 15) (tm 18)),xm 3 19])))
 (rg [xa 20 11,xm 11 20]))))
def N8:AC :=
 (.seq (rg [xo 2 (qm (.cst .nils))])
 (.seq (rg [xm 6 0,xn1 7 6,xo 8 (.makeV 35 sI 24 [.nils] (ci 0) (tm 7)),xm 3 8])
 (.seq (.seq (rg [xm 9 0,xn1 10 9,xo 11 (qm (ci 0))])
 (.block 0 (.loop La)))
 (.seq (rg [xm 21 3,xm 2 21])
 .ret))))
def Ww:List Res:=[.tmp 2]
theorem V9:At Tryd.prog Tryd.f71=some (N8,Ww):=by kernel_rfl
theorem Ul:A9 Tryd.prog 71=true:=by kernel_rfl
def Di (a0:LL) (u0:Nat) (u1:LL):Option (Ctl (Nat×LL) (LL)) :=
 cond (decide ((u0:Int)<(a0.length:Int)))
 ((a0[u0]?).bind fun x13 =>
 (Ev x13).bind fun y14 =>
 og (u1.length+1<=1073741824∧(u1.length+1)*24<=140737488355328) <|
 og (u0+1<4611686018427387904) <|
 some (Ctl.next (u0+1,u1++[y14])))
 (some (Ctl.out u1))
def Ga (a0:LL):Option (LL) :=
 og (0<=(0:Int)∧(0:Int)<=(a0.length:Int)∧(a0.length:Int)<=1073741824∧(24:Int)*(a0.length:Int)<=140737488355328) <|
(A0 (fun s_:Nat×LL=>Di a0 s_.1 s_.2) 4611686018427387904 (0,List.replicate 0 ([]:List Int))).bind fun u0 =>
some u0
theorem Ui {a0 r:LL} (h:Ga a0=some r):G7 Tryd.prog Tab 71 [tS a0] [] (oS 0 1 r.length) [(oi 0 1,.mat 35 (oi 1 1) .int r),(oi 1 1,.pool 3 .int r)]:=by
 refine Eb (by kernel_rfl) Tryd.func71 V9 (n:=22) (by kernel_rfl) (by simp) rfl (by kernel_rfl) trivial ⟨⟨3,.tail _ (.head _)⟩,⟨trivial,trivial⟩⟩ ?_;unfold N8;unfold Ga at h;refine An (Ab ?_);obtain ⟨g4,h⟩:=As h;refine Aa 6 (rsB 2 (Aie (oS 128 4 0) (oi 128 4) 35 3 .int (List.replicate 0 ([]:List Int)) trivial (Afc (j:=0) (k:=.i64) (k':=.i64) (m:=0) (c:=(a0.length:Int)) 3 (by kernel_rfl) (by kernel_rfl) g4 (by kernel_rfl) rfl) (by kernel_rfl) (by rw [List.length_replicate]) (by kernel_rfl) (rsB 1 (Ar (tn_ (wr_ (Aw h (fun (u1:LL) S_=>S_=⟨Am [(3,oS 0 1 u1.length)],Ah (Aq [(oi 0 1,.mat 35 (oi 1 1) .int u1),(oi 1 1,.pool 3 .int u1)]),2⟩) ?_ ?_)))))))
 ·intro v_ h;refine An (Aj (A1 h (fun t_ S_=>∃ (u2:Nat),∃ (u0:LL),t_=(u2,u0)∧S_=⟨Am [(3,oS 0 1 u0.length),(9,tS a0),(10,an a0.length),(11,an u2)],Ah (Aq [(oi 0 1,.mat 35 (oi 1 1) .int u0),(oi 1 1,.pool 3 .int u0)]),2⟩) ⟨_,(Br 3 (oS 128 4 0) (oS 128 4 ((List.replicate 0 ([]:List Int)).length)) (by kernel_rfl) (congrArg (fun z_=>((oS 128 4 z_):AV)) (List.length_replicate.symm:0=(List.replicate 0 ([]:List Int)).length))).trans (Ac [(oi 0 1,oi 128 4),(oi 1 1,oi 128 4)]),⟨0,List.replicate 0 ([]:List Int),rfl,rfl⟩⟩ ?_));rintro n_ _ _ c_ ⟨u2,u0,rfl,rfl⟩ h hn7
  (try dsimp only at h);unfold Di at h;unfold La;refine An (Ab ?_);rcases Ad h with ⟨q10,h⟩ | ⟨q10,h⟩
  ·have q10_:=of_decide_eq_true q10;refine Ag q10 (Ak (tn_ (wr_ (Ab (Aj (Ab ?_))))));obtain ⟨x13,e13,h⟩:=Ae h;refine Aa 6 (zI sI e13 (rsB 2 (Ar (tn_ (wr_ ?_)))));obtain ⟨y14,h14,h⟩:=Ae h;obtain ⟨g15,h⟩:=As h;refine Aa 12 (rsB 2 (zc (oI 272 8 y14.length) [nI 272 8 y14] [tI x13] (J9 h14) (Ajf (oS 18 9 1) (oi 18 9) (.vec 35 1 1 ([oI 272 8 y14.length])) trivial (X3 (by kernel_rfl)) (zV (oi 0 1) (oi 18 9) (oi 1 1) u0 [oI 272 8 y14.length] g15 (rsB 1 (Ar (bn_ (tn_ ⟨_,Ir (e1:=35) (e:=3) (u:=.int) (n:=u0.length+1) (len:=y14.length) (row:=y14) (ys:=y14) (xss:=u0) 9000 (oi 0 10) (oi 1 1) (oi 272 8) (by kernel_rfl) (by kernel_rfl) rfl (by kernel_rfl) (by kernel_rfl) (Uf rfl) (T7 rfl) (by kernel_rfl) (by kernel_rfl) (by kernel_rfl),?_⟩))))))));obtain ⟨g16,h⟩:=As h;refine Aa 15 (zA g16 (rsB 1 (Ar (tn_ ?_))));obtain rfl:=zj h;exact ⟨(u2+1,u0++[y14]),_,(Br 3 (oS 0 10 (u0.length+1)) (oS 0 10 ((u0++[y14]).length)) (by kernel_rfl) (congrArg (fun z_=>((oS 0 10 z_):AV)) ((by simp):u0.length+1=(u0++[y14]).length))).trans (Ac [(oi 0 1,oi 0 10),(oi 1 1,oi 9000 12)]),⟨u2+1,u0++[y14],rfl,rfl⟩,hn7⟩
  have q10_:=of_decide_eq_false q10;refine Af q10 (Az (te_ (te_ (be_ (tn_ ?_)))));obtain rfl:=zj h;have h:=hn7
  (try dsimp only at h);obtain rfl:=zj h;exact ⟨_,Ac [],rfl⟩
 rintro u1 _ rfl h
 (try dsimp only at h);refine An (Al ?_);obtain rfl:=zj h;exact H7 [oS 0 1 u1.length] (Ac (tl:=[(2,oS 0 1 u1.length)]) (g:=2) [])
end Go.Proofs.YtjnaikadmjocbaaDoor

namespace Go.Proofs.YtjnaikadmjocbaaDoor
open Go.RowKit Go.Deep
set_option maxRecDepth 4000
def J1:AC :=
 (.seq (.seq (rg [xm 12 5,xm 13 0,xn1 14 13,xs1 15 12 14])
 (.cond (tm 15)
  .skip
  (.exit 0)))
 (.seq (.block 1 (.seq (rg [xm 18 0,xm 19 5,xx 20 1 18 19,xl 21 20,xm 22 1,xo 23 (qc 52 [tm 21,tm 22] [[some .int],[]]),xm 1 23])
 (.seq (rg [xm 24 1,xo 25 (qb .lss (tm 24) (ci 0))])
 (.cond (tm 25)
  (.seq (rg [xo 4 (qm (ci (-1)))])
  .ret)
  .skip))))
 (rg [xm 16 5,xa 17 16,xm 5 17])))
def Mf:AC :=
 (.seq (rg [xo 4 (qm (ci 0))])
 (.seq (rg [xm 6 1,xm 7 0,xn1 8 7,xo 9 (qb .sub (tm 6) (tm 8)),xm 1 9])
 (.seq (.seq (rg [xm 10 1,xo 11 (qb .lss (tm 10) (ci 0))])
 (.cond (tm 11)
  (.seq (rg [xo 4 (qm (ci (-1)))])
  .ret)
  .skip))
 (.seq (.seq (rg [xo 5 (qm (ci 0))])
 (.block 0 (.loop J1)))
 (.seq (rg [xm 26 1,xm 4 26])
 .ret)))))
def U6:List Res:=[.tmp 4]
theorem Ut:At Tryd.prog Tryd.f25=some (Mf,U6):=by kernel_rfl
def Dy (a0:LL) (u1:Int) (u0:Nat):Option (Ctl (Int×Nat) (Ctl Int Int)) :=
 cond (decide ((u0:Int)<(a0.length:Int)))
 ((a0[u0]?).bind fun x15 =>
 (F9 x15 u1).bind fun y16 =>
 cond (decide (y16<0))
  (some (Ctl.out (Ctl.out (-1))))
  (og (u0+1<4611686018427387904) <|
  some (Ctl.next (y16,u0+1))))
 (some (Ctl.out (Ctl.next u1)))
def Fd (a0:LL) (a1:Int):Option Int :=
 cond (decide (wI (a1 - (a0.length:Int))<0))
 (some (-1))
 (Km (A0 (fun s_:Int×Nat=>Dy a0 s_.1 s_.2) 4611686018427387904 (wI (a1 - (a0.length:Int)),0)) fun u0 =>
 some u0)
def Sx (r:Int):RV:=⟨false,[(false,[.sc (.int .i64 r)])]⟩
theorem Sh {a0:LL} {a1 r:Int} (h:Fd a0 a1=some r):A7 Tryd.prog Tab 25 [tS a0,ai a1] (Sx r):=by
 refine A3 (by kernel_rfl) Tryd.func25 Ut (n:=27) (by kernel_rfl) (by simp) rfl ?_;unfold Mf;unfold Fd at h;refine An (An (Ab (An ?_)));rcases Ad h with ⟨q5,h⟩ | ⟨q5,h⟩
 ·have q5_:=of_decide_eq_true q5;refine Ag q5 (An (Al (tr_ ?_)));obtain rfl:=zj h;exact Bh [ai (-1)] (A5 rfl zl A4)
 have q5_:=of_decide_eq_false q5;refine Af q5 (Ak (tn_ (wr_ (C7 h (fun (u2:Int) S_=>S_=⟨Am [(1,ai u2)],Ah (Aq []),2⟩) ?_ ?_))))
 ·intro v_ h hk7;refine An (Aj (A1 h (fun t_ S_=>∃ (u0:Int),∃ (u1:Nat),t_=(u0,u1)∧S_=⟨Am [(0,tS a0),(1,ai u0),(5,an u1)],Ah (Aq []),2⟩) ⟨_,Ac [],⟨wI (a1 - (a0.length:Int)),0,rfl,rfl⟩⟩ ?_));rintro n_ _ _ c_ ⟨u0,u1,rfl,rfl⟩ h hn9
  (try dsimp only at h);unfold Dy at h;unfold J1;refine Ab (An ?_);rcases Ad h with ⟨q12,h⟩ | ⟨q12,h⟩
  ·have q12_:=of_decide_eq_true q12;refine Ag q12 (Ak (tn_ (wr_ (Ab (Aj (Ab ?_))))));obtain ⟨x15,e15,h⟩:=Ae h;obtain ⟨y16,h16,h⟩:=Ae h;refine Aa 13 (rsB 2 (zI sI e15 (rsB 2 (zc (ai y16) [] [tI x15,ai u0] (Ux h16) (rsB 1 (Ar (tn_ (wr_ (An ?_)))))))));rcases Ad h with ⟨q18,h⟩ | ⟨q18,h⟩
   ·have q18_:=of_decide_eq_true q18;refine Ag q18 (An (Al (br_ (tr_ (tr_ (br_ (tr_ ?_)))))));obtain rfl:=zj h;have h:=hn9
    (try dsimp only at h);obtain rfl:=zj h;have h:=hk7
    (try dsimp only at h);obtain rfl:=zj h;exact Bh [ai (-1)] (A5 rfl zl A4)
   have q18_:=of_decide_eq_false q18;refine Af q18 (Ak (bn_ (tn_ (wr_ ?_))));obtain ⟨g20,h⟩:=As h;refine Aa 18 (rsB 1 (zA g20 (rsB 1 (Ar (tn_ ?_)))));obtain rfl:=zj h;exact ⟨(y16,u1+1),_,Ac [],⟨y16,u1+1,rfl,rfl⟩,hn9⟩
  have q12_:=of_decide_eq_false q12;refine Af q12 (Az (te_ (te_ (be_ (tn_ ?_)))));obtain rfl:=zj h;have h:=hn9
  (try dsimp only at h);obtain rfl:=zj h;exact ⟨u0,_,rfl,Ac [],rfl⟩
 rintro u2 _ rfl h
 (try dsimp only at h);refine An (Al ?_);obtain rfl:=zj h;exact Bh [ai u2] (A5 rfl zl A4)
def J3:AC :=
 (.seq (.seq (rg [xm 8 4,xm 9 0,xn1 10 9,xs1 11 8 10])
 (.cond (tm 11)
  .skip
  (.exit 0)))
 (.seq (.block 1 (rg [xm 14 3,xm 15 4,xm 16 0,xm 17 4,xx 18 1 16 17,xl 19 18,xo 20 (qc 16 [tm 19] [[some .int]]),xx 21 1 14 15,xn (qs (tm 21) (tm 20))]))
 (rg [xm 12 4,xa 13 12,xm 4 13])))
def Mo:AC :=
 (.seq (rg [xo 2 (qm (.cst .nils))])
 (.seq (rg [xm 5 0,xn1 6 5,xo 7 (.makeV 35 sI 24 [.nils] (tm 6) (tm 6)),xm 3 7])
 (.seq (.seq (rg [xo 4 (qm (ci 0))])
 (.block 0 (.loop J3)))
 (.seq (rg [xm 22 3,xm 2 22])
 .ret))))
def Uc:List Res:=[.tmp 2]
theorem Tv:At Tryd.prog Tryd.f29=some (Mo,Uc):=by kernel_rfl
theorem Sn:A9 Tryd.prog 29=true:=by kernel_rfl
def Dv (a0:LL) (u0:Nat) (u1:LL):Option (Ctl (Nat×LL) (LL)) :=
 cond (decide ((u0:Int)<(a0.length:Int)))
 ((a0[u0]?).bind fun x12 =>
 (Cy x12).bind fun y13 =>
 (u1[u0]?).bind fun x14 =>
 og (u0+1<4611686018427387904) <|
 some (Ctl.next (u0+1,u1.set u0 y13)))
 (some (Ctl.out u1))
def Fe (a0:LL):Option (LL) :=
 og (0<=(a0.length:Int)∧(a0.length:Int)<=(a0.length:Int)∧(a0.length:Int)<=1073741824∧(24:Int)*(a0.length:Int)<=140737488355328) <|
(A0 (fun s_:Nat×LL=>Dv a0 s_.1 s_.2) 4611686018427387904 (0,List.replicate a0.length ([]:List Int))).bind fun u0 =>
some u0
theorem Sw {a0 r:LL} (h:Fe a0=some r):G7 Tryd.prog Tab 29 [tS a0] [] (oS 0 1 r.length) [(oi 0 1,.mat 35 (oi 1 1) .int r),(oi 1 1,.pool 3 .int r)]:=by
 refine Eb (by kernel_rfl) Tryd.func29 Tv (n:=23) (by kernel_rfl) (by simp) rfl (by kernel_rfl) trivial ⟨⟨3,.tail _ (.head _)⟩,⟨trivial,trivial⟩⟩ ?_;unfold Mo;unfold Fe at h;refine An (Ab ?_);obtain ⟨g4,h⟩:=As h;refine Aa 6 (rsB 2 (Aie (oS 112 4 a0.length) (oi 112 4) 35 3 .int (List.replicate a0.length ([]:List Int)) trivial (Afc (j:=a0.length) (k:=.i64) (k':=.i64) (m:=(a0.length:Int)) (c:=(a0.length:Int)) 3 (by kernel_rfl) (by kernel_rfl) g4 (by kernel_rfl) rfl) (by kernel_rfl) (by rw [List.length_replicate]) (by kernel_rfl) (rsB 1 (Ar (tn_ (wr_ (Aw h (fun (u2:LL) S_=>S_=⟨Am [(3,oS 0 1 u2.length)],Ah (Aq [(oi 0 1,.mat 35 (oi 1 1) .int u2),(oi 1 1,.pool 3 .int u2)]),2⟩) ?_ ?_)))))))
 ·intro v_ h;refine An (Aj (A1 h (fun t_ S_=>∃ (u1:Nat),∃ (u0:LL),t_=(u1,u0)∧S_=⟨Am [(0,tS a0),(3,oS 0 1 u0.length),(4,an u1)],Ah (Aq [(oi 0 1,.mat 35 (oi 1 1) .int u0),(oi 1 1,.pool 3 .int u0)]),2⟩) ⟨_,(Br 3 (oS 112 4 a0.length) (oS 112 4 ((List.replicate a0.length ([]:List Int)).length)) (by kernel_rfl) (congrArg (fun z_=>((oS 112 4 z_):AV)) (List.length_replicate.symm:a0.length=(List.replicate a0.length ([]:List Int)).length))).trans (Ac [(oi 0 1,oi 112 4),(oi 1 1,oi 112 4)]),⟨0,List.replicate a0.length ([]:List Int),rfl,rfl⟩⟩ ?_));rintro n_ _ _ c_ ⟨u1,u0,rfl,rfl⟩ h hn7
  (try dsimp only at h);unfold Dv at h;unfold J3;refine Ab (An ?_);rcases Ad h with ⟨q10,h⟩ | ⟨q10,h⟩
  ·have q10_:=of_decide_eq_true q10;refine Ag q10 (Ak (tn_ (wr_ (Ab (Aj ?_)))));obtain ⟨x12,e12,h⟩:=Ae h;obtain ⟨y13,h13,h⟩:=Ae h;obtain ⟨x14,e14,h⟩:=Ae h;refine Aa 15 (rsB 4 (zI sI e12 (rsB 1 (zc (oI 320 12 y13.length) [nI 320 12 y13] [tI x12] (Fg h13) (zO (oi 0 1) sI u0.length (Ax e14) (Akm (oi 0 1) (oi 0 1) (.vec 35 1 u0.length ((hdL (oi 1 1) .int u0).set u1 (oI 320 12 y13.length))) (Aiv (o:=oi 0 1) (e1:=35) (m:=u0.length) (cs:=hdL (oi 1 1) .int u0) (v:=oI 320 12 y13.length) (j:=u1) (by kernel_rfl) (by kernel_rfl) (by kernel_rfl) rfl (by rw [Ft]; exact Ax e14)) (Ar (bn_ (tn_ ⟨_,Af2 (e1:=35) (e:=3) (u:=.int) (n:=u0.length) (len:=y13.length) (row:=y13) (ys:=y13) (xss:=u0) (j:=u1) 9000 (oi 0 1) (oi 1 1) (oi 320 12) (by kernel_rfl) (by kernel_rfl) rfl (by kernel_rfl) (by kernel_rfl) (Uf rfl) (T7 rfl) (by kernel_rfl) (by kernel_rfl) (by kernel_rfl),?_⟩)))))))));obtain ⟨g15,h⟩:=As h;refine Aa 19 (rsB 1 (zA g15 (rsB 1 (Ar (tn_ ?_)))));obtain rfl:=zj h;exact ⟨(u1+1,u0.set u1 y13),_,(Br 3 (oS 0 1 u0.length) (oS 0 1 ((u0.set u1 y13).length)) (by kernel_rfl) (congrArg (fun z_=>((oS 0 1 z_):AV)) ((Eq.trans (b:=u0.length) rfl List.length_set.symm):u0.length=(u0.set u1 y13).length))).trans (Ac [(oi 1 1,oi 9000 15)]),⟨u1+1,u0.set u1 y13,rfl,rfl⟩,hn7⟩
  have q10_:=of_decide_eq_false q10;refine Af q10 (Az (te_ (te_ (be_ (tn_ ?_)))));obtain rfl:=zj h;have h:=hn7
  (try dsimp only at h);obtain rfl:=zj h;exact ⟨_,Ac [],rfl⟩
 rintro u2 _ rfl h
 (try dsimp only at h);refine An (Al ?_);obtain rfl:=zj h;exact H7 [oS 0 1 u2.length] (Ac (tl:=[(2,oS 0 1 u2.length)]) (g:=2) [])
def Ju:AC :=
 (.seq (.seq (rg [xm 11 5,xm 12 0,xn1 13 12,xs1 14 11 13])
 (.cond (tm 14)
  .skip
  (.exit 0)))
 (.seq (.block 1 (.seq (.region [xm 17 0,xm 18 5,xx 19 1 17 18,xl 20 19,xm 21 1,xm 22 5,xx 23 1 21 22,xl 24 23,xo 25 (qc 19 [tm 20,tm 24] [[some .int],[some .int]]),xo 26 (.i (.not (tm 25)))] true [])
 (.cond (tm 26)
  (.seq (rg [xo 4 (qm (cb false))])
  .ret)
  .skip)))
 (rg [xm 15 5,xa 16 15,xm 5 16])))
def Mg:AC :=
 (.seq (rg [xo 4 (qm (cb false))])
 (.seq (.seq (rg [xm 6 0,xn1 7 6,xm 8 1,xn1 9 8,xo 10 (qb .neq (tm 7) (tm 9))])
 (.cond (tm 10)
  (.seq (rg [xo 4 (qm (cb false))])
  .ret)
  .skip))
 (.seq (.seq (rg [xo 5 (qm (ci 0))])
 (.block 0 (.loop Ju)))
 (.seq (rg [xo 4 (qm (cb true))])
 .ret))))
def Uo:List Res:=[.tmp 4]
theorem U5:At Tryd.prog Tryd.f9=some (Mg,Uo):=by kernel_rfl
def D1 (a0 a1:LL) (u0:Nat):Option (Ctl Nat (Ctl Unit Bool)) :=
 cond (decide ((u0:Int)<(a0.length:Int)))
 ((a0[u0]?).bind fun x14 =>
 (a1[u0]?).bind fun x15 =>
 (Cv x14 x15).bind fun y16 =>
 cond (!y16)
  (some (Ctl.out (Ctl.out false)))
  (og (u0+1<4611686018427387904) <|
  some (Ctl.next (u0+1))))
 (some (Ctl.out (Ctl.next ())))
def Fc (a0 a1:LL):Option Bool :=
 cond ((a0.length:Int) !=(a1.length:Int))
 (some false)
 (Km (A0 (fun s_:Nat=>D1 a0 a1 s_) 4611686018427387904 0) fun _ =>
 some true)
def Sd (r:Bool):RV:=⟨false,[(false,[.sc (.bool r)])]⟩
theorem R5 {a0 a1:LL} {r:Bool} (h:Fc a0 a1=some r):A7 Tryd.prog Tab 9 [tS a0,tS a1] (Sd r):=by
 refine A3 (by kernel_rfl) Tryd.func9 U5 (n:=27) (by kernel_rfl) (by simp) rfl ?_;unfold Mg;unfold Fc at h;refine An (Ab (An ?_));rcases Ad h with ⟨q4,h⟩ | ⟨q4,h⟩
 ·refine Ag q4 (An (Al (tr_ ?_)));obtain rfl:=zj h;exact Bh [.bool false] (A5 rfl zl A4)
 refine Af q4 (Ak (tn_ (wr_ (C7 h (fun (_:Unit) S_=>S_=⟨Am [],Ah (Aq []),2⟩) ?_ ?_))))
 ·intro v_ h hk6;refine An (Aj (A1 h (fun (u0:Nat) S_=>S_=⟨Am [(0,tS a0),(1,tS a1),(5,an u0)],Ah (Aq []),2⟩) ⟨_,Ac [],rfl⟩ ?_));rintro n_ u0 _ c_ rfl h hn8
  (try dsimp only at h);unfold D1 at h;unfold Ju;refine Ab (An ?_);rcases Ad h with ⟨q11,h⟩ | ⟨q11,h⟩
  ·have q11_:=of_decide_eq_true q11;refine Ag q11 (Ak (tn_ (wr_ (Ab (Aj (Ab ?_))))));obtain ⟨x14,e14,h⟩:=Ae h;obtain ⟨x15,e15,h⟩:=Ae h;obtain ⟨y16,h16,h⟩:=Ae h;refine Bi 16 (dz0 (tS a0) (dz0 (an u0) (dzI sI e14 (dz0 (tI x14) (dz0 (tS a1) (dz0 (an u0) (dzI sI e15 (dz0 (tI x15) (dzc (.bool y16) [] [tI x14,tI x15] (B0 h16) (dz0 (.bool (!y16)) (Nm (Cn (by kernel_rfl)) (tn_ (wr_ ?_)))))))))))));rcases Ad h with ⟨q17,h⟩ | ⟨q17,h⟩
   ·refine Ag q17 (An (Al (br_ (tr_ (tr_ (br_ (tr_ ?_)))))));obtain rfl:=zj h;have h:=hn8
    (try dsimp only at h);obtain rfl:=zj h;have h:=hk6
    (try dsimp only at h);obtain rfl:=zj h;exact Bh [.bool false] (A5 rfl zl A4)
   refine Af q17 (Ak (bn_ (tn_ (wr_ ?_))));obtain ⟨g19,h⟩:=As h;refine Aa 19 (rsB 1 (zA g19 (rsB 1 (Ar (tn_ ?_)))));obtain rfl:=zj h;exact ⟨u0+1,_,Ac [],rfl,hn8⟩
  have q11_:=of_decide_eq_false q11;refine Af q11 (Az (te_ (te_ (be_ (tn_ ?_)))));obtain rfl:=zj h;have h:=hn8
  (try dsimp only at h);obtain rfl:=zj h;exact ⟨(),_,rfl,Ac [],rfl⟩
 rintro _ _ rfl h
 (try dsimp only at h);refine An (Al ?_);obtain rfl:=zj h;exact Bh [.bool true] (A5 rfl zl A4)
def Ia:AC :=
 (.seq (.seq (rg [xm 6 5,xm 7 0,xn1 8 7,xs1 9 6 8])
 (.cond (tm 9)
  .skip
  (.exit 0)))
 (.seq (.block 1 (rg [xm 12 0,xm 13 5,xx 14 1 12 13,xl 15 14,xm 16 1,xo 17 (qc 21 [tm 15,tm 16] [[some .int],[]]),xm 1 17]))
 (rg [xm 10 5,xa 11 10,xm 5 11])))
def K5:AC :=
 (.seq (rg [xo 4 (qm (ci 0))])
 (.seq (.seq (rg [xo 5 (qm (ci 0))])
 (.block 0 (.loop Ia)))
 (.seq (rg [xm 18 1,xm 4 18])
 .ret)))
def Q4:List Res:=[.tmp 4]
theorem Rp:At Tryd.prog Tryd.f12=some (K5,Q4):=by kernel_rfl
theorem P3:A9 Tryd.prog 12=true:=by kernel_rfl
def Da  (u2:Int) (u0:Nat) (u1:LL):Option (Ctl (Int×Nat×LL) (Int×LL)) :=
 cond (decide ((u0:Int)<(u1.length:Int)))
 ((u1[u0]?).bind fun x10 =>
 (B7 x10 u2).bind fun y11 =>
 og (y11.1.length=x10.length) <|
 og (u0+1<4611686018427387904) <|
 some (Ctl.next (y11.2,u0+1,u1.set u0 y11.1)))
 (some (Ctl.out (u2,u1)))
def Ed (a0:LL) (a1:Int):Option (LL×Int) :=
 (A0 (fun s_:Int×Nat×LL=>Da s_.1 s_.2.1 s_.2.2) 4611686018427387904 (a1,0,a0)).bind fun (u0,l3_p0) =>
some (l3_p0,u0)
theorem Pv {a0:LL} {a1:Int} {r:LL×Int} (h:Ed a0 a1=some r) {n_a0:Nat} (hn_a0:n_a0=a0.length):G7 Tryd.prog Tab 12 [oS 0 0 n_a0,ai a1] [(oi 0 0,.mat 35 (oi 1 0) .int a0),(oi 1 0,.pool 3 .int a0)] (ai r.2) [(oi 0 0,.mat 35 (oi 0 1) .int r.1),(oi 0 1,.pool 3 .int r.1)]:=by
 refine Eb (by kernel_rfl) Tryd.func12 Rp (n:=19) (by kernel_rfl) (by simp) rfl (by kernel_rfl) ⟨⟨3,.tail _ (.head _)⟩,⟨trivial,trivial⟩⟩ ⟨⟨3,.tail _ (.head _)⟩,⟨trivial,trivial⟩⟩ ?_;unfold K5;unfold Ed at h;refine An (Aw h (fun t_ S_=>∃ (u2:Int),∃ (l3_p0:LL),t_=(u2,l3_p0)∧S_=⟨Am [(1,ai u2)],Ah (Aq [(oi 0 0,.mat 35 (oi 0 1) .int l3_p0),(oi 0 1,.pool 3 .int l3_p0)]),2⟩) ?_ ?_)
 ·intro v_ h;refine An (Aj (A1 h (fun t_ S_=>∃ (u3:Int),∃ (u0:Nat),∃ (u1:LL),t_=(u3,u0,u1)∧S_=⟨Am [(0,oS 0 0 u1.length),(1,ai u3),(5,an u0)],Ah (Aq [(oi 0 0,.mat 35 (oi 0 1) .int u1),(oi 0 1,.pool 3 .int u1)]),2⟩) ⟨_,(Br 0 (oS 0 0 n_a0) (oS 0 0 a0.length) (by kernel_rfl) (congrArg (fun z_=>((oS 0 0 z_):AV)) (hn_a0:n_a0=a0.length))).trans (Ac [(oi 0 1,oi 1 0)]),⟨a1,0,a0,rfl,rfl⟩⟩ ?_));rintro n_ _ _ c_ ⟨u3,u0,u1,rfl,rfl⟩ h hn5
  (try dsimp only at h);unfold Da at h;unfold Ia;refine Ab (An ?_);rcases Ad h with ⟨q8,h⟩ | ⟨q8,h⟩
  ·have q8_:=of_decide_eq_true q8;refine Ag q8 (Ak (tn_ (wr_ (Ab (Aj ?_)))));obtain ⟨x10,e10,h⟩:=Ae h;obtain ⟨y11,h11,h⟩:=Ae h;obtain ⟨g12,h⟩:=As h;refine Aa 13 (rsB 2 (zO (oi 0 0) sI u1.length (Ax e10) (rsl (.own (kid (oi 0 1) u0) .int 0 x10.length) (Hk (o:=oi 0 0) (p:=oi 0 1) (e1:=35) (u:=.int) (xss:=u1) (row:=x10) (j:=u0) (by kernel_rfl) (by kernel_rfl) e10) (rsB 1 (Hf (ai y11.2) [(kid (oi 0 1) u0,some (.arr 3 .int y11.1)),(kid (oi 0 1) u0,none)] [(oi 0 0,kid (oi 0 1) u0)] [.own (kid (oi 0 1) u0) .int 0 x10.length,ai u3] (caps:=[]) trivial (Hc h11 rfl) Hh ⟨Af5 (by kernel_rfl) e10,trivial⟩ (.cons (.ren (by kernel_rfl)) (.cons (.ren (by kernel_rfl)) .nil)) (Bl (by kernel_rfl) (by kernel_rfl) ⟨.arg (by simp [AV.nmsL,AV.nms,Bf]),trivial⟩) (Ame (Zg (o:=oi 0 0) (p:=oi 0 1) (e1:=35) (e:=3) (u:=.int) (xss:=u1) (k:=u0) (row:=x10) (row':=y11.1) (by kernel_rfl) rfl (by kernel_rfl) e10 g12) (rsB 1 (Ar (bn_ (tn_ (wr_ ?_)))))))))));obtain ⟨g13,h⟩:=As h;refine Aa 16 (rsB 1 (zA g13 (rsB 1 (Ar (tn_ ?_)))));obtain rfl:=zj h;exact ⟨(y11.2,u0+1,u1.set u0 y11.1),_,(Br 0 (oS 0 0 u1.length) (oS 0 0 ((u1.set u0 y11.1).length)) (by kernel_rfl) (congrArg (fun z_=>((oS 0 0 z_):AV)) ((Eq.trans (b:=u1.length) rfl List.length_set.symm):u1.length=(u1.set u0 y11.1).length))).trans (Ac []),⟨y11.2,u0+1,u1.set u0 y11.1,rfl,rfl⟩,hn5⟩
  have q8_:=of_decide_eq_false q8;refine Af q8 (Az (te_ (te_ (be_ (tn_ ?_)))));obtain rfl:=zj h;have h:=hn5
  (try dsimp only at h);obtain rfl:=zj h;exact ⟨_,Ac [],⟨u3,u1,rfl,rfl⟩⟩
 rintro _ _ ⟨u2,l3_p0,rfl,rfl⟩ h
 (try dsimp only at h);refine An (Al ?_);obtain rfl:=zj h;exact H7 [ai u2] (Ac (tl:=[(4,ai u2)]) (g:=2) [])
def Id:AC :=
 (.seq (.seq (rg [xm 6 5,xm 7 0,xn1 8 7,xs1 9 6 8])
 (.cond (tm 9)
  .skip
  (.exit 0)))
 (.seq (.block 1 (.seq (rg [xm 12 0,xm 13 5,xx 14 1 12 13,xl 15 14,xm 16 1,xo 17 (qc 23 [tm 15,tm 16] [[some .int],[]]),xm 1 17])
 (.seq (rg [xm 18 1,xo 19 (qb .lss (tm 18) (ci 0))])
 (.cond (tm 19)
  (.seq (rg [xo 4 (qm (ci (-1)))])
  .ret)
  .skip))))
 (rg [xm 10 5,xa 11 10,xm 5 11])))
def Lb:AC :=
 (.seq (rg [xo 4 (qm (ci 0))])
 (.seq (.seq (rg [xo 5 (qm (ci 0))])
 (.block 0 (.loop Id)))
 (.seq (rg [xm 20 1,xm 4 20])
 .ret)))
def Qq:List Res:=[.tmp 4]
theorem Q5:At Tryd.prog Tryd.f13=some (Lb,Qq):=by kernel_rfl
def Db (a0:LL) (u1:Int) (u0:Nat):Option (Ctl (Int×Nat) (Ctl Int Int)) :=
 cond (decide ((u0:Int)<(a0.length:Int)))
 ((a0[u0]?).bind fun x10 =>
 (B6 x10 u1).bind fun y11 =>
 cond (decide (y11<0))
  (some (Ctl.out (Ctl.out (-1))))
  (og (u0+1<4611686018427387904) <|
  some (Ctl.next (y11,u0+1))))
 (some (Ctl.out (Ctl.next u1)))
def En (a0:LL) (a1:Int):Option Int :=
 Km (A0 (fun s_:Int×Nat=>Db a0 s_.1 s_.2) 4611686018427387904 (a1,0)) fun u0 =>
some u0
def O6 (r:Int):RV:=⟨false,[(false,[.sc (.int .i64 r)])]⟩
theorem Pt {a0:LL} {a1 r:Int} (h:En a0 a1=some r):A7 Tryd.prog Tab 13 [tS a0,ai a1] (O6 r):=by
 refine A3 (by kernel_rfl) Tryd.func13 Q5 (n:=21) (by kernel_rfl) (by simp) rfl ?_;unfold Lb;unfold En at h;refine An (C7 h (fun (u2:Int) S_=>S_=⟨Am [(1,ai u2)],Ah (Aq []),2⟩) ?_ ?_)
 ·intro v_ h hk2;refine An (Aj (A1 h (fun t_ S_=>∃ (u0:Int),∃ (u1:Nat),t_=(u0,u1)∧S_=⟨Am [(0,tS a0),(1,ai u0),(5,an u1)],Ah (Aq []),2⟩) ⟨_,Ac [],⟨a1,0,rfl,rfl⟩⟩ ?_));rintro n_ _ _ c_ ⟨u0,u1,rfl,rfl⟩ h hn4
  (try dsimp only at h);unfold Db at h;unfold Id;refine Ab (An ?_);rcases Ad h with ⟨q7,h⟩ | ⟨q7,h⟩
  ·have q7_:=of_decide_eq_true q7;refine Ag q7 (Ak (tn_ (wr_ (Ab (Aj (Ab ?_))))));obtain ⟨x10,e10,h⟩:=Ae h;obtain ⟨y11,h11,h⟩:=Ae h;refine Aa 13 (rsB 2 (zI sI e10 (rsB 2 (zc (ai y11) [] [tI x10,ai u0] (He h11) (rsB 1 (Ar (tn_ (wr_ (An ?_)))))))));rcases Ad h with ⟨q13,h⟩ | ⟨q13,h⟩
   ·have q13_:=of_decide_eq_true q13;refine Ag q13 (An (Al (br_ (tr_ (tr_ (br_ (tr_ ?_)))))));obtain rfl:=zj h;have h:=hn4
    (try dsimp only at h);obtain rfl:=zj h;have h:=hk2
    (try dsimp only at h);obtain rfl:=zj h;exact Bh [ai (-1)] (A5 rfl zl A4)
   have q13_:=of_decide_eq_false q13;refine Af q13 (Ak (bn_ (tn_ (wr_ ?_))));obtain ⟨g15,h⟩:=As h;refine Aa 18 (rsB 1 (zA g15 (rsB 1 (Ar (tn_ ?_)))));obtain rfl:=zj h;exact ⟨(y11,u1+1),_,Ac [],⟨y11,u1+1,rfl,rfl⟩,hn4⟩
  have q7_:=of_decide_eq_false q7;refine Af q7 (Az (te_ (te_ (be_ (tn_ ?_)))));obtain rfl:=zj h;have h:=hn4
  (try dsimp only at h);obtain rfl:=zj h;exact ⟨u0,_,rfl,Ac [],rfl⟩
 rintro u2 _ rfl h
 (try dsimp only at h);refine An (Al ?_);obtain rfl:=zj h;exact Bh [ai u2] (A5 rfl zl A4)
def Ho:AC :=
 (.seq (rg [xs1 12 11 10])
 (.seq (.cond (tm 12)
  .skip
  (.exit 0))
 (.seq (.block 1 (.seq (rg [xx 13 1 9 11,xl 14 13,xm 8 14])
 (.seq (rg [xm 15 0,xm 16 8,xm 17 2,xo 18 (qc 86 [tm 15,tm 16,tm 17] [[],[some .int],[]]),xo 19 (.i (.not (tm 18)))])
 (.cond (tm 19)
  (.seq (rg [xo 6 (qm (cb false))])
  .ret)
  .skip))))
 (rg [xa 20 11,xm 11 20]))))
def J2:AC :=
 (.seq (rg [xo 6 (qm (cb false))])
 (.seq (.seq (rg [xm 9 1,xn1 10 9,xo 11 (qm (ci 0))])
 (.block 0 (.loop Ho)))
 (.seq (rg [xo 6 (qm (cb true))])
 .ret)))
def Pr:List Res:=[.tmp 6]
theorem O3:At Tryd.prog Tryd.f67=some (J2,Pr):=by kernel_rfl
theorem Ox:A9 Tryd.prog 67=true:=by kernel_rfl
def D0 (a1:LL) (a0 a2:Int) (u0:Nat):Option (Ctl Nat (Ctl Unit Bool)) :=
 cond (decide ((u0:Int)<(a1.length:Int)))
 ((a1[u0]?).bind fun x10 =>
 (Ey a0 x10 a2).bind fun y12 =>
 cond (!y12)
  (some (Ctl.out (Ctl.out false)))
  (og (u0+1<4611686018427387904) <|
  some (Ctl.next (u0+1))))
 (some (Ctl.out (Ctl.next ())))
def Du (a0:Int) (a1:LL) (a2:Int):Option Bool :=
 Km (A0 (fun s_:Nat=>D0 a1 a0 a2 s_) 4611686018427387904 0) fun _ =>
some true
def Ov (r:Bool):RV:=⟨false,[(false,[.sc (.bool r)])]⟩
theorem Oh {a0:Int} {a1:LL} {a2:Int} {r:Bool} (h:Du a0 a1 a2=some r):A7 Tryd.prog Tab 67 [ai a0,tS a1,ai a2] (Ov r):=by
 refine A3 (by kernel_rfl) Tryd.func67 O3 (n:=21) (by kernel_rfl) (by simp) rfl ?_;unfold J2;unfold Du at h;refine An (C7 h (fun (_:Unit) S_=>S_=⟨Am [],Ah (Aq []),2⟩) ?_ ?_)
 ·intro v_ h hk2;refine An (Aj (A1 h (fun (u0:Nat) S_=>S_=⟨Am [(0,ai a0),(2,ai a2),(9,tS a1),(10,an a1.length),(11,an u0)],Ah (Aq []),2⟩) ⟨_,Ac [],rfl⟩ ?_));rintro n_ u0 _ c_ rfl h hn4
  (try dsimp only at h);unfold D0 at h;unfold Ho;refine An (Ab ?_);rcases Ad h with ⟨q7,h⟩ | ⟨q7,h⟩
  ·have q7_:=of_decide_eq_true q7;refine Ag q7 (Ak (tn_ (wr_ (Ab (Aj (Ab ?_))))));obtain ⟨x10,e10,h⟩:=Ae h;refine Aa 6 (zI sI e10 (rsB 2 (Ar (tn_ (wr_ (Ab ?_))))));obtain ⟨y12,h12,h⟩:=Ae h;refine Aa 11 (rsB 3 (zc (.bool y12) [] [ai a0,tI x10,ai a2] (Rc h12) (rsB 1 (Ar (tn_ (wr_ ?_))))));rcases Ad h with ⟨q13,h⟩ | ⟨q13,h⟩
   ·refine Ag q13 (An (Al (br_ (tr_ (tr_ (br_ (tr_ ?_)))))));obtain rfl:=zj h;have h:=hn4
    (try dsimp only at h);obtain rfl:=zj h;have h:=hk2
    (try dsimp only at h);obtain rfl:=zj h;exact Bh [.bool false] (A5 rfl zl A4)
   refine Af q13 (Ak (bn_ (tn_ (wr_ ?_))));obtain ⟨g15,h⟩:=As h;refine Aa 13 (zA g15 (rsB 1 (Ar (tn_ ?_))));obtain rfl:=zj h;exact ⟨u0+1,_,Ac [],rfl,hn4⟩
  have q7_:=of_decide_eq_false q7;refine Af q7 (Az (te_ (te_ (be_ (tn_ ?_)))));obtain rfl:=zj h;have h:=hn4
  (try dsimp only at h);obtain rfl:=zj h;exact ⟨(),_,rfl,Ac [],rfl⟩
 rintro _ _ rfl h
 (try dsimp only at h);refine An (Al ?_);obtain rfl:=zj h;exact Bh [.bool true] (A5 rfl zl A4)
end Go.Proofs.YtjnaikadmjocbaaDoor

