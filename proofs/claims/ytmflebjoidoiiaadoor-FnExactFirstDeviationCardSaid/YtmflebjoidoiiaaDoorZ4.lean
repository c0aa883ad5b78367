/- Lemmas on the program and on partial functions that stand in place of its code (part 4); no condition beyond those that each one states. -/
import Derived.Test.YtmflebjoidoiiaaDoorZ3
import Derived.KernelRfl
import Derived.IntWalk
namespace Go.Proofs.YtmflebjoidoiiaaDoor
section
open Go.RowKit Go.Deep
section
variable {P:Program} {G:World->Prop}
theorem Ab {x y:AC} {R:AE->St->Prop} {S:St} (h:awp P G x (Ki (fun S'=>∃ S'',Weak S' S''∧awp P G y R S'') R) S):awp P G (.seq x y) R S:=h
theorem Aby {x y:AC} {R:AE->St->Prop} {S:St} (K:St->Prop) (h:awp P G x (Ki (fun S'=>∃ S'',Weak S' S''∧K S'') R) S) (k:∀ S'',K S''->awp P G y R S''):awp P G (.seq x y) R S:=by
 unfold awp
 exact Dy (fun e S hq=>by
  cases e with
  | normal=>obtain ⟨S'',hw,hk⟩:=hq; exact ⟨S'',hw,k S'' hk⟩
  | exit id=>exact hq
  | ret=>exact hq) h
def Am9 (rs:List Rec) (ds:List (List Oid)):List (Nat×Nat)->Bool
 | []=>true
 | p :: ps=>(let ri:=rs.getD p.2 (0,.any,[]); let rj:=rs.getD p.1 (0,.any,[]); let di:=ds.getD p.2 []; let dj:=ds.getD p.1 []
   ((!(ri.1==2)||rj.1==0)&&(!(rj.1==2)||ri.1==0))||((!(ri.1==2)||ri.2.2.all fun u=> !dj.contains u.1)&&((!(rj.1==2)||rj.2.2.all fun u=> !di.contains u.1)&&ri.2.2.all fun u=>rj.2.2.all fun v=> !(u.1==v.1))))&&Am9 rs ds ps
theorem Bi {rs:List Rec} {ds:List (List Oid)}:∀ {bad:List (Nat×Nat)},Am9 rs ds bad=true->Af4 rs ds bad
 | [],_=>trivial
 | p :: ps,h=>by
  simp only [Am9,Bool.and_eq_true] at h;refine ⟨?_,Bi h.2⟩;have h1:=h.1;simp only [Bool.or_eq_true,Bool.and_eq_true,Bool.not_eq_true',beq_eq_false_iff_ne,beq_iff_eq,List.all_eq_true,List.contains_eq_mem,decide_eq_false_iff_not] at h1;unfold Ro;rcases h1 with ⟨a,b⟩ | ⟨a,b,c⟩
  ·refine .inl ⟨fun e=>?_,fun e=>?_⟩
   ·rcases a with a | a
    ·exact absurd e a
    ·exact a
   ·rcases b with b | b
    ·exact absurd e b
    ·exact b
  ·refine .inr ⟨fun e=>?_,fun e=>?_,c⟩
   ·rcases a with a | a
    ·exact absurd e a
    ·exact a
   ·rcases b with b | b
    ·exact absurd e b
    ·exact b
def XW (P:Program) (G:World->Prop) (g k:Nat) (xs:List X) (tl:List (Nat×AV)) (ol:List (Oid×Option Ob)) (Kf:List (Nat×AV)->List (Oid×Option Ob)->Prop):Prop :=
 ∃ rs tl' ol',Al2 P G g k xs (Am tl) (Ak ol) rs (Am tl') (Ak ol')∧Kf tl' ol'
def XD (P:Program) (G:World->Prop) (bad:List (Nat×Nat)) (g k:Nat) (xs:List X) (tl:List (Nat×AV)) (ol:List (Oid×Option Ob)) (ra:List Rec) (da:List (List Oid)) (Kf:List (Nat×AV)->List (Oid×Option Ob)->Prop):Prop :=
 ∃ rs ds tl' ol',Aid P G g k xs (Am tl) (Ak ol) rs ds (Am tl') (Ak ol')∧Af4 (ra.reverse++rs) (da.reverse++ds) bad∧Kf tl' ol'
theorem Aa {xs:List X} {bad:List (Nat×Nat)} {R:AE->St->Prop} {tl:List (Nat×AV)} {ol:List (Oid×Option Ob)} {g:Nat} (g':Nat) (h:XW P G g 0 xs tl ol fun tl' ol'=>R .normal ⟨Am tl',Ak ol',g'⟩) (hn:g+xs.length=g':=by kernel_rfl):awp P G (.region xs false bad) R ⟨Am tl,Ak ol,g⟩:=by
 obtain ⟨rs,tl',ol',h,hr⟩:=h;exact ⟨rs,_,_,h,by subst hn; exact hr⟩
theorem A1 {xs:List X} {bad:List (Nat×Nat)} {R:AE->St->Prop} {tl:List (Nat×AV)} {ol:List (Oid×Option Ob)} {g:Nat} (g':Nat) (h:XD P G bad g 0 xs tl ol [] [] fun tl' ol'=>R .normal ⟨Am tl',Ak ol',g'⟩) (hn:g+xs.length=g':=by kernel_rfl):awp P G (.region xs true bad) R ⟨Am tl,Ak ol,g⟩:=by
 obtain ⟨rs,ds,tl',ol',h,hb,hr⟩:=h;exact ⟨rs,ds,_,_,h,hb,by subst hn; exact hr⟩
theorem Mw (tl:List (Nat×AV)) (d:Nat) (v:AV):upd (Am tl) d v=Am ((d,v) :: tl):=by
 funext i;rfl
def Kd:Option Ob->Bool
 | some (.pool ..)=>false
 | some (.mat ..)=>false
 | some (.tv ..)=>false
 | _=>true
def Fy (us:List (Oid×Option Ob)):Bool:=us.all fun u=>Kd u.2
theorem Jn {ol:List (Oid×Option Ob)} {j:Oid} {o:Option Ob} (h:Kd o=true):upd (Ak ol) j o=Ak ((j,o) :: ol):=by
 cases o with
 | none=>funext i; rfl
 | some o=>cases o <;> first | (funext i; rfl) | cases h
theorem Hs:∀ (us ol:List (Oid×Option Ob)),Fy us=true->Az us (Ak ol)=Ak (us.reverseAux ol)
 | [],_,_=>rfl
 | (j,o) :: us,ol,h=>by
  simp only [Fy,List.all_cons,Bool.and_eq_true] at h;show Az us (upd (Ak ol) j o)=_;rw [Jn h.1];exact Hs us _ h.2
theorem Hy {p:Bool} {n:Nat} {x:X} {f:Nat->AV} {ob:Oid->Option Ob} {r:Rec} (h:Bp n x f ob=some r):E8 P G p n x f ob r:=by
 unfold Bp at h;unfold E8;split at h
 ·exact .inl (.inl (.inl h))
 ·split at h
  ·rename_i hc;exact ⟨true,hc,by rw [if_pos rfl]; exact .inl (.inl (.inl h))⟩
  ·rename_i hc;exact ⟨false,hc,by rw [if_neg (by simp)]; exact (osj h).symm⟩
  ·cases h
def Vo (gd:Option (Nat×Bool)) (f:Nat->AV):Prop :=
 match gd with
 | none=>True
 | some (s,c)=>f s=.bool c
theorem Adl {s:Nat} {b:Bool} {f:Nat->AV} (h:Vo (some (s,b)) f):gdv (f s) b=some true:=by
 rw [show f s=.bool b from h]; simp [gdv]
theorem Bj {s:Nat} {b c:Bool} {f:Nat->AV} (h:f s=.bool c) (hc:c=b):Vo (some (s,b)) f:=by subst hc; exact h
theorem Ahs {p:Bool} {n:Nat} {d:Option Nat} {gd:Option (Nat×Bool)} {fo:Opd} {xs:List Opd} {tys:List (List (Option Ty))} {f:Nat->AV} {ob:Oid->Option Ob} {F:FuncId} {caps args0 args:List AV} {rv:RV} {r:AV×List (Oid×Option Ob)}
  (hgd:Vo gd f) (hfo:fo.ev f=.fn F caps) (h1:Ph (gnd ob 8) ((xs++caps.map Opd.cst).map (Opd.ev f))=some args0) (hn:Sw tys args0=args) (hb:A6 P F=true) (hc:A4 P G F args rv) (hr:rv.out (Ds ((d.getD 0,0),n)) ((xs++caps.map Opd.cst).map (Opd.ev f))=r) :
  E8 P G p n ⟨d,gd,.call fo xs tys⟩ f ob (1,r.1,r.2):=by
 subst hn;have key:EvR P G p f ob ((d.getD 0,0),n) (.call fo xs tys) (1,r.1,r.2):=.inr ⟨fo,xs,tys,F,caps,rfl,hfo,.inl ⟨rfl,hb,args0,rv,h1,hc,hr⟩⟩;unfold E8;cases gd with
 | none=>exact key
 | some sb=>exact ⟨true,Adl hgd,by rw [if_pos rfl]; exact key⟩
theorem Alv {n:Nat} {d:Option Nat} {gd:Option (Nat×Bool)} {fo:Opd} {xs:List Opd} {tys:List (List (Option Ty))} {f:Nat->AV} {ob:Oid->Option Ob} {F:FuncId} {caps zs args:List AV} {v:AV} {ol us:List (Oid×Ob)} (θ:Oid->Oid)
  (hgd:Vo gd f) (hfo:fo.ev f=.fn F caps) (hz:(xs++caps.map Opd.cst).map (Opd.ev f)=zs) (h1:Ti θ (Ajy ((nmL ol).map θ) ob) zs args) (h2:∀ q∈exL ol,ob (θ q.1)=some (q.2.ren θ)) (h3:∀ q∈exL ol,∀ q'∈exL ol,θ q.1=θ q'.1->q.1=q'.1) (h4:∀ j∈nmL ol,Reached zs ob (θ j))
  (h5:∀ q∈exL us,q.1.2=1∨(q.1.2=0∧q.1∈nmL ol)) (hb:A6 P F=true) (hc:Xn P G F args ol v us) :
  E8 P G false n ⟨d,gd,.call fo xs tys⟩ f ob (2,v.ren (Dl θ ((d.getD 0,0),n)),Oe θ ((d.getD 0,0),n) ol us):=by
 have hN:Akh P G f ob ((d.getD 0,0),n) F (xs++caps.map Opd.cst) (v.ren (Dl θ ((d.getD 0,0),n)),Oe θ ((d.getD 0,0),n) ol us):=by
  rw [← hz] at h1 h4;refine ⟨hb,θ,args,ol,us,v,h1,h2,fun j k hj hk e=>?_,h4,hc,fun j hj=>?_,rfl⟩
  ·obtain ⟨q,hq,rfl⟩:=List.mem_map.1 hj;obtain ⟨q',hq',rfl⟩:=List.mem_map.1 hk;exact h3 q hq q' hq' e
  ·obtain ⟨q,hq,rfl⟩:=List.mem_map.1 hj;rcases h5 q hq with h | ⟨_,h⟩
   ·exact .inl (by rw [h]; decide)
   ·exact .inr h
 have key:EvR P G false f ob ((d.getD 0,0),n) (.call fo xs tys) (2,v.ren (Dl θ ((d.getD 0,0),n)),Oe θ ((d.getD 0,0),n) ol us):=.inr ⟨fo,xs,tys,F,caps,rfl,hfo,.inr ⟨rfl,rfl,hN⟩⟩;unfold E8;cases gd with
 | none=>exact key
 | some sb=>exact ⟨true,Adl hgd,by rw [if_pos rfl]; exact key⟩
theorem Amk {n:Nat} {d:Option Nat} {gd:Option (Nat×Bool)} {q:Q} {f:Nat->AV} {ob:Oid->Option Ob} {r:Rec} (hgd:Vo gd f) (h:evL f ((d.getD 0,0),n) q=some r):E8 P G false n ⟨d,gd,q⟩ f ob r:=by
 have key:EvR P G false f ob ((d.getD 0,0),n) q r:=.inl (.inl (.inr h));unfold E8;cases gd with
 | none=>exact key
 | some sb=>exact ⟨true,Adl hgd,by rw [if_pos rfl]; exact key⟩
theorem Al5 {n:Nat} {d:Option Nat} {gd:Option (Nat×Bool)} {q:Q} {f:Nat->AV} {ob:Oid->Option Ob} {r:Rec} (hgd:Vo gd f) (h:Aep f ((d.getD 0,0),n) q r):E8 P G false n ⟨d,gd,q⟩ f ob r:=by
 have key:EvR P G false f ob ((d.getD 0,0),n) q r:=.inl (.inr h);unfold E8;cases gd with
 | none=>exact key
 | some sb=>exact ⟨true,Adl hgd,by rw [if_pos rfl]; exact key⟩
theorem Ao {g k:Nat} {tl:List (Nat×AV)} {ol:List (Oid×Option Ob)} {Kf:List (Nat×AV)->List (Oid×Option Ob)->Prop} (h:Kf tl ol):XW P G g k [] tl ol Kf:=⟨[],tl,ol,⟨rfl,rfl,rfl⟩,h⟩
theorem Gj {bad:List (Nat×Nat)} {g k:Nat} {tl:List (Nat×AV)} {ol:List (Oid×Option Ob)} {ra:List Rec} {da:List (List Oid)} {Kf:List (Nat×AV)->List (Oid×Option Ob)->Prop} (hb:Af4 (ra.reverse++[]) (da.reverse++[]) bad) (h:Kf tl ol):XD P G bad g k [] tl ol ra da Kf:=⟨[],[],tl,ol,⟨rfl,rfl,rfl,rfl⟩,hb,h⟩
section
variable {g k d:Nat} {gd:Option (Nat×Bool)} {q:Q} {xs:List X} {tl:List (Nat×AV)} {ol:List (Oid×Option Ob)} {bad:List (Nat×Nat)} {ra:List Rec} {da:List (List Oid)} {Kf:List (Nat×AV)->List (Oid×Option Ob)->Prop}
theorem Agw (c:Nat) (v:AV) (us ol':List (Oid×Option Ob)) (h:E8 P G false (g+k) ⟨some d,gd,q⟩ (Am tl) (Ak ol) (c,v,us)) (he:Az us (Ak ol)=Ak ol') (h3:XW P G g (k+1) xs ((d,v) :: tl) ol' Kf):XW P G g k (⟨some d,gd,q⟩ :: xs) tl ol Kf :=
 by
 obtain ⟨rs,tl',ol',h3,hk⟩:=h3;exact ⟨_,tl',ol',⟨_,_,rfl,h,by simp only [Kb,Mw,he]; exact h3⟩,hk⟩
theorem Alx (c:Nat) (v:AV) (us ol':List (Oid×Option Ob)) (h:E8 P G false (g+k) ⟨none,gd,q⟩ (Am tl) (Ak ol) (c,v,us)) (he:Az us (Ak ol)=Ak ol') (h3:XW P G g (k+1) xs tl ol' Kf):XW P G g k (⟨none,gd,q⟩ :: xs) tl ol Kf :=
 by
 obtain ⟨rs,tl',ol',h3,hk⟩:=h3;exact ⟨_,tl',ol',⟨_,_,rfl,h,by simp only [Kb,he]; exact h3⟩,hk⟩
theorem Am3 (c:Nat) (v:AV) (us ol':List (Oid×Option Ob)) (h:E8 P G false (g+k) ⟨some d,gd,q⟩ (Am tl) (only (rdX (Am tl) (Ak ol) ⟨some d,gd,q⟩) (Ak ol)) (c,v,us)) (he:Az us (Ak ol)=Ak ol') (h3:XD P G bad g (k+1) xs ((d,v) :: tl) ol' ((c,v,us) :: ra) ((rdX (Am tl) (Ak ol) ⟨some d,gd,q⟩) :: da) Kf):XD P G bad g k (⟨some d,gd,q⟩ :: xs) tl ol ra da Kf :=
 by
 obtain ⟨rs,ds,tl',ol',h3,hb,hk⟩:=h3;refine ⟨_,_,tl',ol',⟨_,rs,ds,rfl,rfl,h,by simp only [Kb,Mw,he]; exact h3⟩,?_,hk⟩
 simpa using hb
theorem Al1 (c:Nat) (v:AV) (us ol':List (Oid×Option Ob)) (h:E8 P G false (g+k) ⟨none,gd,q⟩ (Am tl) (only (rdX (Am tl) (Ak ol) ⟨none,gd,q⟩) (Ak ol)) (c,v,us)) (he:Az us (Ak ol)=Ak ol') (h3:XD P G bad g (k+1) xs tl ol' ((c,v,us) :: ra) ((rdX (Am tl) (Ak ol) ⟨none,gd,q⟩) :: da) Kf):XD P G bad g k (⟨none,gd,q⟩ :: xs) tl ol ra da Kf :=
 by
 obtain ⟨rs,ds,tl',ol',h3,hb,hk⟩:=h3;refine ⟨_,_,tl',ol',⟨_,rs,ds,rfl,rfl,h,by simp only [Kb,he]; exact h3⟩,?_,hk⟩
 simpa using hb
theorem Acg (c:Nat) (v:AV) (us:List (Oid×Option Ob)) (h:E8 P G false (g+k) ⟨some d,gd,q⟩ (Am tl) (Ak ol) (c,v,us)) (h3:XW P G g (k+1) xs ((d,v) :: tl) (us.reverseAux ol) Kf) (hx:Fy us=true):XW P G g k (⟨some d,gd,q⟩ :: xs) tl ol Kf:=Agw c v us _ h (Hs us ol hx) h3
theorem Anj (c:Nat) (v:AV) (us:List (Oid×Option Ob)) (h:E8 P G false (g+k) ⟨none,gd,q⟩ (Am tl) (Ak ol) (c,v,us)) (h3:XW P G g (k+1) xs tl (us.reverseAux ol) Kf) (hx:Fy us=true):XW P G g k (⟨none,gd,q⟩ :: xs) tl ol Kf:=Alx c v us _ h (Hs us ol hx) h3
theorem Ab4 (c:Nat) (v:AV) (us:List (Oid×Option Ob)) (h:E8 P G false (g+k) ⟨some d,gd,q⟩ (Am tl) (only (rdX (Am tl) (Ak ol) ⟨some d,gd,q⟩) (Ak ol)) (c,v,us)) (h3:XD P G bad g (k+1) xs ((d,v) :: tl) (us.reverseAux ol) ((c,v,us) :: ra) ((rdX (Am tl) (Ak ol) ⟨some d,gd,q⟩) :: da) Kf) (hx:Fy us=true):XD P G bad g k (⟨some d,gd,q⟩ :: xs) tl ol ra da Kf:=Am3 c v us _ h (Hs us ol hx) h3
theorem Anf (c:Nat) (v:AV) (us:List (Oid×Option Ob)) (h:E8 P G false (g+k) ⟨none,gd,q⟩ (Am tl) (only (rdX (Am tl) (Ak ol) ⟨none,gd,q⟩) (Ak ol)) (c,v,us)) (h3:XD P G bad g (k+1) xs tl (us.reverseAux ol) ((c,v,us) :: ra) ((rdX (Am tl) (Ak ol) ⟨none,gd,q⟩) :: da) Kf) (hx:Fy us=true):XD P G bad g k (⟨none,gd,q⟩ :: xs) tl ol ra da Kf:=Al1 c v us _ h (Hs us ol hx) h3
-- the shape of most steps: what the machine says is found by reckoning
theorem rs0 (v:AV) (h:Bp (g+k) ⟨some d,gd,q⟩ (Am tl) (Ak ol)=some (0,v,[])) (h3:XW P G g (k+1) xs ((d,v) :: tl) ol Kf):XW P G g k (⟨some d,gd,q⟩ :: xs) tl ol Kf:=Acg 0 v [] (Hy h) h3 rfl
theorem rsl (v:AV) (h:Bp (g+k) ⟨some d,gd,q⟩ (Am tl) (Ak ol)=some (1,v,[])) (h3:XW P G g (k+1) xs ((d,v) :: tl) ol Kf):XW P G g k (⟨some d,gd,q⟩ :: xs) tl ol Kf:=Acg 1 v [] (Hy h) h3 rfl
theorem rs1 (v:AV) (i:Oid) (o:Ob) (h:Bp (g+k) ⟨some d,gd,q⟩ (Am tl) (Ak ol)=some (1,v,[(i,some o)])) (h3:XW P G g (k+1) xs ((d,v) :: tl) ((i,some o) :: ol) Kf) (hx:Kd (some o)=true:=by rfl):XW P G g k (⟨some d,gd,q⟩ :: xs) tl ol Kf:=Acg 1 v _ (Hy h) h3 (by simp only [Fy,List.all_cons,List.all_nil,hx]; rfl)
theorem rs2 (v:AV) (j i:Oid) (o:Ob) (h:Bp (g+k) ⟨some d,gd,q⟩ (Am tl) (Ak ol)=some (2,v,[(j,none),(i,some o)])) (h3:XW P G g (k+1) xs ((d,v) :: tl) ((i,some o) :: (j,none) :: ol) Kf) (hx:Kd (some o)=true:=by rfl):XW P G g k (⟨some d,gd,q⟩ :: xs) tl ol Kf:=Acg 2 v _ (Hy h) h3 (by simp only [Fy,List.all_cons,List.all_nil,hx]; rfl)
theorem Sk (j i:Oid) (o:Ob) (h:Bp (g+k) ⟨none,gd,q⟩ (Am tl) (Ak ol)=some (2,.any,[(j,none),(i,some o)])) (h3:XW P G g (k+1) xs tl ((i,some o) :: (j,none) :: ol) Kf) (hx:Kd (some o)=true:=by rfl):XW P G g k (⟨none,gd,q⟩ :: xs) tl ol Kf:=Anj 2 _ _ (Hy h) h3 (by simp only [Fy,List.all_cons,List.all_nil,hx]; rfl)
theorem ds0 (v:AV) (h:Bp (g+k) ⟨some d,gd,q⟩ (Am tl) (only (rdX (Am tl) (Ak ol) ⟨some d,gd,q⟩) (Ak ol))=some (0,v,[])) (h3:XD P G bad g (k+1) xs ((d,v) :: tl) ol ((0,v,[]) :: ra) ((rdX (Am tl) (Ak ol) ⟨some d,gd,q⟩) :: da) Kf):XD P G bad g k (⟨some d,gd,q⟩ :: xs) tl ol ra da Kf:=Ab4 0 v [] (Hy h) h3 rfl
theorem dsl (v:AV) (h:Bp (g+k) ⟨some d,gd,q⟩ (Am tl) (only (rdX (Am tl) (Ak ol) ⟨some d,gd,q⟩) (Ak ol))=some (1,v,[])) (h3:XD P G bad g (k+1) xs ((d,v) :: tl) ol ((1,v,[]) :: ra) ((rdX (Am tl) (Ak ol) ⟨some d,gd,q⟩) :: da) Kf):XD P G bad g k (⟨some d,gd,q⟩ :: xs) tl ol ra da Kf:=Ab4 1 v [] (Hy h) h3 rfl
theorem ds1 (v:AV) (i:Oid) (o:Ob) (h:Bp (g+k) ⟨some d,gd,q⟩ (Am tl) (only (rdX (Am tl) (Ak ol) ⟨some d,gd,q⟩) (Ak ol))=some (1,v,[(i,some o)])) (h3:XD P G bad g (k+1) xs ((d,v) :: tl) ((i,some o) :: ol) ((1,v,[(i,some o)]) :: ra) ((rdX (Am tl) (Ak ol) ⟨some d,gd,q⟩) :: da) Kf) (hx:Kd (some o)=true:=by rfl):XD P G bad g k (⟨some d,gd,q⟩ :: xs) tl ol ra da Kf:=Ab4 1 v _ (Hy h) h3 (by simp only [Fy,List.all_cons,List.all_nil,hx]; rfl)
theorem ds2 (v:AV) (j i:Oid) (o:Ob) (h:Bp (g+k) ⟨some d,gd,q⟩ (Am tl) (only (rdX (Am tl) (Ak ol) ⟨some d,gd,q⟩) (Ak ol))=some (2,v,[(j,none),(i,some o)])) (h3:XD P G bad g (k+1) xs ((d,v) :: tl) ((i,some o) :: (j,none) :: ol) ((2,v,[(j,none),(i,some o)]) :: ra) ((rdX (Am tl) (Ak ol) ⟨some d,gd,q⟩) :: da) Kf) (hx:Kd (some o)=true:=by rfl):XD P G bad g k (⟨some d,gd,q⟩ :: xs) tl ol ra da Kf:=Ab4 2 v _ (Hy h) h3 (by simp only [Fy,List.all_cons,List.all_nil,hx]; rfl)
theorem J2 (j i:Oid) (o:Ob) (h:Bp (g+k) ⟨none,gd,q⟩ (Am tl) (only (rdX (Am tl) (Ak ol) ⟨none,gd,q⟩) (Ak ol))=some (2,.any,[(j,none),(i,some o)])) (h3:XD P G bad g (k+1) xs tl ((i,some o) :: (j,none) :: ol) ((2,.any,[(j,none),(i,some o)]) :: ra) ((rdX (Am tl) (Ak ol) ⟨none,gd,q⟩) :: da) Kf) (hx:Kd (some o)=true:=by rfl):XD P G bad g k (⟨none,gd,q⟩ :: xs) tl ol ra da Kf:=Anf 2 _ _ (Hy h) h3 (by simp only [Fy,List.all_cons,List.all_nil,hx]; rfl)
section
variable {fo:Opd} {ys:List Opd} {tys:List (List (Option Ty))} {F:FuncId} {caps:List AV} {rv:RV} {args0:List AV}
theorem Bh (v:AV) (us:List (Oid×Option Ob)) (zs args:List AV) (hgd:Vo gd (Am tl)) (h1:Ph (gnd (Ak ol) 8) zs=some args0) (hc:A4 P G F args rv) (hb:A6 P F=true) (h3:XW P G g (k+1) xs ((d,v) :: tl) (us.reverseAux ol) Kf) (hfo:fo.ev (Am tl)=.fn F caps:=by kernel_rfl) (hz:(ys++caps.map Opd.cst).map (Opd.ev (Am tl))=zs:=by kernel_rfl) (hn:Sw tys args0=args:=by kernel_rfl) (hr:rv.out (Ds ((d,0),g+k)) zs=(v,us):=by kernel_rfl) (hx:Fy us=true:=by rfl):XW P G g k (⟨some d,gd,.call fo ys tys⟩ :: xs) tl ol Kf:=by
 subst hz;exact Acg 1 v us (Ahs (P:=P) (G:=G) (p:=false) (n:=g+k) (d:=some d) hgd hfo h1 hn hb hc hr) h3 hx
theorem Cq (v:AV) (us:List (Oid×Option Ob)) (zs args:List AV) (hgd:Vo gd (Am tl)) (h1:Ph (gnd (only (rdX (Am tl) (Ak ol) ⟨some d,gd,.call fo ys tys⟩) (Ak ol)) 8) zs=some args0) (hc:A4 P G F args rv) (hb:A6 P F=true) (h3:XD P G bad g (k+1) xs ((d,v) :: tl) (us.reverseAux ol) ((1,v,us) :: ra) ((rdX (Am tl) (Ak ol) ⟨some d,gd,.call fo ys tys⟩) :: da) Kf) (hfo:fo.ev (Am tl)=.fn F caps:=by kernel_rfl) (hz:(ys++caps.map Opd.cst).map (Opd.ev (Am tl))=zs:=by kernel_rfl) (hn:Sw tys args0=args:=by kernel_rfl) (hr:rv.out (Ds ((d,0),g+k)) zs=(v,us):=by kernel_rfl) (hx:Fy us=true:=by rfl):XD P G bad g k (⟨some d,gd,.call fo ys tys⟩ :: xs) tl ol ra da Kf:=by
 subst hz;exact Ab4 1 v us (Ahs (P:=P) (G:=G) (p:=false) (n:=g+k) (d:=some d) hgd hfo h1 hn hb hc hr) h3 hx
def Akl (l:List (Oid×Oid)) (ol us:List (Oid×Ob)) (n:Nat) (ol0:List (Oid×Option Ob)):Bool:=Wu l&&(Ia ol&&(Alh (Cg l) ol&&(Ajb ol us&&S5 n ol0)))
theorem Ajp {l:List (Oid×Oid)} {ol us:List (Oid×Ob)} {n:Nat} {ol0:List (Oid×Option Ob)} (h:Akl l ol us n ol0=true) (hR:Afl ol0 (Cg l) ol) :
  (∀ q∈exL ol,Ak ol0 (Cg l q.1)=some (q.2.ren (Cg l)))∧(∀ q∈exL ol,∀ q'∈exL ol,Cg l q.1=Cg l q'.1->q.1=q'.1)∧(∀ q∈exL us,q.1.2=1∨(q.1.2=0∧q.1∈nmL ol))∧∀ i:Oid,i.2=n->Az (Oe (Cg l) i ol us) (Ak ol0)=Ak (An (Qi (Dl (Cg l) i) us)++(Lp (Cg l) ol++ol0)):=by
 simp only [Akl,Bool.and_eq_true] at h;obtain ⟨c1,c2,c3,c4,c5⟩:=h;refine ⟨Ady c1 hR (Afe c2),Akc (fun p e u xss hm k=>I6 c1 ?_ k) c3 c2,Ah6 c4,fun i hi=>Ajt c1 c2 hR c4 (by rw [hi]; exact c5) c3⟩;unfold Ia at c2;rw [List.all_eq_true] at c2;have:=c2 _ hm;simp only [Bool.and_eq_true,beq_iff_eq] at this;exact this.1
theorem Am5 (v:AV) (ul:List (Oid×Option Ob)) (l:List (Oid×Oid)) (zs:List AV) {args:List AV} {ol0 us:List (Oid×Ob)} {v0:AV} (hgd:Vo gd (Am tl)) (hc:Xn P G F args ol0 v0 us) (hb:A6 P F=true) (hR:Afl ol (Cg l) ol0) (h1:Ti (Cg l) (Ajy ((nmL ol0).map (Cg l)) (Ak ol)) zs args) (h4:∀ j∈nmL ol0,Reached zs (Ak ol) (Cg l j)) (h3:XW P G g (k+1) xs ((d,v) :: tl) (ul++ol) Kf) (hfo:fo.ev (Am tl)=.fn F caps:=by kernel_rfl) (hz:(ys++caps.map Opd.cst).map (Opd.ev (Am tl))=zs:=by kernel_rfl) (hB:Akl l ol0 us (g+k) ol=true:=by kernel_rfl) (hv:v0.ren (Dl (Cg l) ((d,0),g+k))=v:=by kernel_rfl) (hu:An (Qi (Dl (Cg l) ((d,0),g+k)) us)++Lp (Cg l) ol0=ul:=by kernel_rfl):XW P G g k (⟨some d,gd,.call fo ys tys⟩ :: xs) tl ol Kf:=by
 subst hv hu;obtain ⟨q1,q2,q3,q4⟩:=Ajp hB hR;exact Agw 2 _ _ _ (Alv (n:=g+k) (d:=some d) (Cg l) hgd hfo hz h1 q1 q2 h4 q3 hb hc) (q4 ((d,0),g+k) rfl) (by rw [List.append_assoc] at h3; exact h3)
end
end
-- what arguments read as
theorem Cw {g:AV->Option AV}:Ph g []=some []:=rfl
theorem Aw {g:AV->Option AV} {c d:AV} {cs ds:List AV} (h:g c=some d) (hs:Ph g cs=some ds):Ph g (c :: cs)=some (d :: ds):=by simp only [Ph,h,hs]
section
variable {ob:Oid->Option Ob} {n:Nat}
theorem B1 {i:Oid} {t u:Ty} {e:TypeId} {xs:List u.D} {len:Nat} (h:ob i=some (.arr e u xs)) (hl:len=xs.length):gnd ob (n+1) (.own i t 0 len)=some (.tree u xs):=by
 subst hl;simp only [gnd,h,Nat.zero_add,Nat.le_refl,if_true,List.drop_zero,List.take_length]
theorem Pa {cs ds:List AV} (h:Ph (gnd ob n) cs=some ds):gnd ob (n+1) (.agg cs)=some (.agg ds):=by simp only [gnd,h,Option.map_some]
end
-- steps that hang on something
section
variable {n:Nat} {d:Option Nat} {f:Nat->AV} {ob:Oid->Option Ob}
theorem Ait {s:Nat} {b c:Bool} {q:Q} {r:Option Rec} (hs:f s=.bool c) (hc:c=b) (h:Bp n ⟨d,none,q⟩ f ob=r):Bp n ⟨d,some (s,b),q⟩ f ob=r:=by
 subst hc;simp only [Bp,hs,gdv,beq_self_eq_true]; exact h
theorem Rr {s:Nat} {b c:Bool} {q:Q} (hs:f s=.bool c) (hc:c= !b):Bp n ⟨d,some (s,b),q⟩ f ob=some (0,.tup [],[]):=by
 subst hc;cases b <;> simp [Bp,hs,gdv]
theorem Acy {s:Nat} {b:Bool} {q:Q} (hs:f s=.tup []):Bp n ⟨d,some (s,b),q⟩ f ob=some (0,.tup [],[]):=by
 simp [Bp,hs,gdv]
theorem Al7 {c x y:Opd} {b:Bool} (h:c.ev f=.bool b) (hb:b=true):Bp n ⟨d,none,.i (.pick c x y)⟩ f ob=some (0,x.ev f,[]):=by
 subst hb; simp [Bp,ev,evN,h]
theorem Al4 {c x y:Opd} {b:Bool} (h:c.ev f=.bool b) (hb:b=false):Bp n ⟨d,none,.i (.pick c x y)⟩ f ob=some (0,y.ev f,[]):=by
 subst hb; simp [Bp,ev,evN,h]
theorem Anb {sz:Nat} {x i:Opd} {t:Ty} {xs:List t.D} {y:t.D} {k:IntKind} {m:Int} {j:Nat} (hx:(x.ev f).un=.tree t xs) (hi:i.ev f=.int k m) (hs:sz=t.size) (h0:0<=m) (hj:m.toNat=j) (hy:xs[j]? =some y):Bp n ⟨d,none,.i (.idx sz x i)⟩ f ob=some (0,.telt t y 0,[]):=by
 subst hs hj;simp [Bp,ev,evN,hx,hi,h0,hy]
theorem Ans {sz:Nat} {x i:Opd} {t:Ty} {o:Oid} {len:Nat} {k:IntKind} {m:Int} {j:Nat} (hx:x.ev f=.own o t 0 len) (hi:i.ev f=.int k m) (hs:sz=t.size) (h0:0<=m) (hj:m.toNat=j) (hl:j<len):Bp n ⟨d,none,.i (.idx sz x i)⟩ f ob=some (0,.elt o j 0,[]):=by
 subst hs hj;have:m<(len:Int):=by omega
 simp [Bp,ev,evN,hx,hi,h0,AV.un,this]
theorem Acv {mt:TypeId} {ok:Bool} {x y:Opd} {t:Ty} {es:List (Int×t.D)} {k:Int} (hx:x.ev f=.mtree mt t es) (hy:y.ev f=.int .i64 k) (h:H3 k) (h3:k3 Tryd.prog mt=false:=by kernel_rfl):Bp n ⟨d,none,.i (.look mt ok x y)⟩ f ob=some (0,Xy ok t es k,[]):=by
 simp [Bp,ev,evN,hx,hy,Xv h h3]
theorem Anw {mt:TypeId} {x y:Opd} {i:Oid} {t:Ty} {es:List (Int×t.D)} {k:Int} (hx:x.ev f=.mp i) (hy:y.ev f=.int .i64 k) (hob:ob i=some (.map mt t es)) (h:H3 k) (h3:k3 Tryd.prog mt=false:=by kernel_rfl):Bp n ⟨d,none,.del mt x y⟩ f ob=some (2,.any,[(i,none),(i,some (.map mt t (Ii es k)))]):=by
 simp [Bp,ev,Qx,hx,hy,hob,Xv h h3]
theorem Anh {mt:TypeId} {x y z:Opd} {i:Oid} {es:List (Int×Bool)} {k:Int} {nv:Bool} (hx:x.ev f=.mp i) (hy:y.ev f=.int .i64 k) (hz:z.ev f=.bool nv) (hob:ob i=some (.map mt .bool es)) (h:H3 k∧es.length<1073741824) (h3:k3 Tryd.prog mt=false:=by kernel_rfl):Bp n ⟨d,none,.upd mt x y z⟩ f ob=some (2,.any,[(i,none),(i,some (.map mt .bool (Qh es k nv)))]):=by
 simp [Bp,ev,Qs,hx,hy,hz,hob,Xv h.1 h3,h.2]
theorem Hr {one:Bool} {m:Nat} {x:Opd} {i:Oid} {j k:Nat} {e:TypeId} {t:Ty} {xs:List t.D} {y:t.D} {c:AV} (hx:x.ev f=.elt i j k) (hob:ob i=some (.arr e t xs)) (hy:xs[j]? =some y) (hc:Ei one m k (t.av y)=some c):Bp n ⟨d,none,.i (.ld one m x)⟩ f ob=some (1,c,[]):=by
 simp [Bp,ev,evN,evR,hx,hob,hy,hc]
theorem Je {one:Bool} {m:Nat} {x y:Opd} {i:Oid} {j k:Nat} {e:TypeId} {t:Ty} {xs:List t.D} {x0 x1:t.D} {cs:List AV} (hx:x.ev f=.elt i j k) (hob:ob i=some (.arr e t xs)) (hy:xs[j]? =some x0) (hc:M3 one m k (t.av x0) (y.ev f)=some cs) (hd:t.ofAV cs=some x1):Bp n ⟨d,none,.st one m x y⟩ f ob=some (2,.any,[(i,none),(i,some (.arr e t (xs.set j x1)))]):=by
 simp [Bp,ev,Aeq,hx,hob,hy,hc,hd]
theorem Lv {e:TypeId} {t:Ty} {by_:Nat} {l c:Opd} {k k':IntKind} {m m':Int} {j:Nat} (hl:l.ev f=.int k m) (hc:c.ev f=.int k' m') (h:0<=m∧m<=m'∧m'<=1073741824∧(by_:Int)*m'<=140737488355328) (hj:m.toNat=j):Bp n ⟨d,none,.make e t by_ l c⟩ f ob=some (1,.own ((d.getD 0,0),n) t 0 j,[(((d.getD 0,0),n),some (.arr e t (List.replicate j t.dflt)))]):=by
 subst hj;simp only [Bp,ev,Xr,hl,hc,if_pos h]
theorem Py {t t':Ty} {i:Oid} {e:TypeId} {xs:List t.D} {len:Nat} (h:ob i=some (.arr e t xs)) (hl:len=xs.length):Fq ob t (.own i t' 0 len)=some xs:=by
 subst hl;simp only [Fq,h,Nat.zero_add,Nat.le_refl,if_true,Ty.eq?_self,Dx,List.drop_zero,List.take_length]
theorem Ahq {t:Ty} {xs:List t.D}:Fq ob t (.tree t xs)=some xs:=by simp only [Fq,Ty.eq?_self,Dx]
theorem L0 {e:TypeId} {t t':Ty} {by_:Nat} {x y:Opd} {c:AV} {ys xs zs:List t.D} {j:Oid} {len:Nat} (hx:x.ev f=.own j t' 0 len) (hob:ob j=some (.arr e t xs)) (hl:len=xs.length) (hy:y.ev f=c) (hs:Fq ob t c=some ys) (hz:zs=xs++ys) (h:xs.length+ys.length<=1073741824∧(xs.length+ys.length)*by_<=140737488355328) :
  Bp n ⟨d,none,.append e t by_ x y⟩ f ob=some (2,.own (j.1,n) t 0 zs.length,[(j,none),((j.1,n),some (.arr e t zs))]):=by
 subst hl hz;simp only [Bp,ev,Jp,hx,hy,hs,hob,Ty.eq?_self,Nat.le_refl,true_and,h.1,h.2,and_self,if_true,Dx,List.take_length,List.length_append]
theorem Am8 {x y:Opd} {j:Nat} (hx:x.ev f=.int .i64 j) (hy:y.ev f=.int .i64 1) (h:j+1<4611686018427387904):Bp n ⟨d,none,.i (.bin .add x y)⟩ f ob=some (0,.int .i64 ((j+1:Nat):Int),[]):=by
 have:IntKind.i64.wrap ((j:Int)+1)=((j+1:Nat):Int):=by rw [Go.IntWalk.i64_in _ (by omega)]; rfl
 simp [Bp,ev,evN,Acc,hx,hy,this]
theorem Aem {x y:Opd} {k:IntKind} {a b:Int} (hx:x.ev f=.int k a) (hy:y.ev f=.int k b) (h:b≠0):Bp n ⟨d,none,.i (.bin .rem x y)⟩ f ob=some (0,.int k (a.tmod b),[]):=by
 simp [Bp,ev,evN,Acc,hx,hy,h]
end
theorem Ag {c:Opd} {x y:AC} {R:AE->St->Prop} {S:St} {t:Bool} (ht:t=true) (h1:awp P G x R S) (h:c.ev S.tm=.bool t:=by kernel_rfl):awp P G (.cond c x y) R S:=by
 subst ht; exact .inl ⟨true,h,fun _=>h1,fun h=>(nomatch h)⟩
theorem Af {c:Opd} {x y:AC} {R:AE->St->Prop} {S:St} {t:Bool} (ht:t=false) (h2:awp P G y R S) (h:c.ev S.tm=.bool t:=by kernel_rfl):awp P G (.cond c x y) R S:=by
 subst ht; exact .inl ⟨false,h,fun h=>(nomatch h),fun _=>h2⟩
theorem Ah {i:Nat} {a:AC} {R:AE->St->Prop} {S:St} (h:awp P G a (I1 i R) S):awp P G (.block i a) R S:=h
theorem Aia {a:AC} {R:AE->St->Prop} {S:St} {α:Type} (I:α->St->Prop) (μ:α->Nat) (h0:∃ s S0,Weak S S0∧I s S0) (h1:∀ s S1,I s S1->awp P G a (Ki (fun S2=>∃ s' S3,Weak S2 S3∧I s' S3∧μ s'<μ s) R) S1):awp P G (.loop a) R S:=⟨α,I,μ,h0,h1⟩
theorem Av {i:Nat} {R:AE->St->Prop} {S:St} (h:R (.exit i) S):awp P G (.exit i) R S:=h
theorem Ai {R:AE->St->Prop} {S:St} (h:R .normal S):awp P G .skip R S:=h
theorem Aj {R:AE->St->Prop} {S:St} (h:R .ret S):awp P G .ret R S:=h
end
section
variable {K:St->Prop} {R:AE->St->Prop} {S:St} {i j:Nat}
theorem tn_ (h:K S):Ki K R .normal S:=h
theorem te_ (h:R (.exit i) S):Ki K R (.exit i) S:=h
theorem tr_ (h:R .ret S):Ki K R .ret S:=h
theorem bn_ (h:R .normal S):I1 i R .normal S:=h
theorem be_ (h:R .normal S):I1 i R (.exit i) S:=by simpa [I1] using h
theorem br_ (h:R .ret S):I1 i R .ret S:=h
end
def tmL:Nat->List AV->List (Nat×AV)
 | _,[]=>[]
 | k,v :: r=>(k,v) :: tmL (k+1) r
theorem Afb:∀ (l:List AV) (k i:Nat),Am (tmL k l) (k+i)=l.getD i .any
 | [],k,i=>by simp [tmL,Am]
 | v :: r,k,i=>by
  cases i with
  | zero=>simp [tmL,Am]
  | succ i =>
   have:=Afb r (k+1) i;simp only [tmL,Am];rw [if_neg (by omega),show k+(i+1)=k+1+i by omega,this];simp
theorem Ahm (args:List AV):(fun i=>args.getD i .any)=Am (tmL 0 args):=by
 funext i;have:=Afb args 0 i;rw [Nat.zero_add] at this;exact this.symm
theorem St.init_eq (args:List AV):St.init args=⟨Am (tmL 0 args),Ak [],1⟩:=by
 unfold St.init;rw [Ahm];rfl
theorem P2 {tl:List (Nat×AV)} {ol:List (Oid×Option Ob)} {g:Nat} (s:Nat) (e:TypeId) (t:Ty) (ht:t.flat=true) (hs:Am tl s=.nils):Weak ⟨Am tl,Ak ol,g⟩ ⟨Am ((s,.own ((s,0),g) t 0 0) :: tl),Ak ((((s,0),g),some (.arr e t [])) :: ol),g+1⟩:=by
 have:=Ako (S:=⟨Am tl,Ak ol,g⟩) s e t ht hs;rw [Mw] at this;have e2:upd (Ak ol) ((s,0),g) (some (.arr e t []))=Ak ((((s,0),g),some (.arr e t [])) :: ol):=Jn rfl;rw [e2] at this;exact this
theorem Bn {tl:List (Nat×AV)} {ol:List (Oid×Option Ob)} {g:Nat} (s:Nat) (v v':AV) (h:Am tl s=v) (e:v=v'):Weak ⟨Am tl,Ak ol,g⟩ ⟨Am ((s,v') :: tl),Ak ol,g⟩:=by
 subst e
 have:Am ((s,v) :: tl)=Am tl:=by
  funext i;simp only [Am];split
  ·rename_i e; rw [e]; exact h.symm
  ·rfl
 rw [this]; exact Weak.refl _
theorem Jk {tl:List (Nat×AV)} {ol:List (Oid×Option Ob)} {g:Nat} (j:Oid) (o o':Ob) (h:Ak ol j=some o) (e:o=o') (hx:Kd (some o)=true:=by rfl):Weak ⟨Am tl,Ak ol,g⟩ ⟨Am tl,Ak ((j,some o') :: ol),g⟩:=by
 subst e
 have:Ak ((j,some o) :: ol)=Ak ol:=by
  rw [← Jn hx,Akd _ _ _ h]
 rw [this]; exact Weak.refl _
theorem Yb {tl:List (Nat×AV)} {ol:List (Oid×Option Ob)} {g:Nat} (s:Nat) (e:TypeId) (t:Ty) (hs:Am tl s=.nils):Weak ⟨Am tl,Ak ol,g⟩ ⟨Am ((s,.own ((s,0),g) t 0 0) :: tl),Ak ((((s,0),g),some (.vec e 1 0 [])) :: ol),g+1⟩:=by
 have:=Aiw (S:=⟨Am tl,Ak ol,g⟩) s e t hs;rw [Mw] at this;have e2:upd (Ak ol) ((s,0),g) (some (.vec e 1 0 []))=Ak ((((s,0),g),some (.vec e 1 0 [])) :: ol):=Jn rfl;rw [e2] at this;exact this
theorem Cr {tl:List (Nat×AV)} {ol:List (Oid×Option Ob)} {g:Nat} (s:Nat) (c:Oid) (k:Nat) (ty:TypeId) (cs ds:List AV) (e:TypeId) (t:Ty) (hb:Ak ol c=some (.cells ty cs)) (hk:cs[k]? =some .nils) (hd:cs.set k (.own ((s,0),g) t 0 0)=ds) :
  Weak ⟨Am tl,Ak ol,g⟩ ⟨Am tl,Ak ((c,some (.cells ty ds)) :: (((s,0),g),some (.vec e 1 0 [])) :: ol),g+1⟩:=by
 subst hd;have:=Y7 (S:=⟨Am tl,Ak ol,g⟩) s c k ty cs e t hb hk;have e2:upd (upd (Ak ol) ((s,0),g) (some (.vec e 1 0 []))) c (some (.cells ty (cs.set k (.own ((s,0),g) t 0 0))))=Ak ((c,some (.cells ty (cs.set k (.own ((s,0),g) t 0 0)))) :: (((s,0),g),some (.vec e 1 0 [])) :: ol):=by rw [Jn rfl,Jn rfl]
 rw [← e2];exact this
def Amo (ol us:List (Oid×Ob)) (args:List AV) (v:AV):Bool :=
 (Ia ol&&(Ia us&&((ol.all fun q=>q.1.2==0)&&((us.all fun q=>q.1.2==1||(!q.2.isPool&&(B0 ol).contains q.1))&&(ndB (B0 us)&&ndB (B3 us))))))&&((ol.all fun q=>q.2.clo1 (B0 ol))&&((us.all fun q=>q.2.hp1 (B0 us))&&(AV.cloL (B0 ol) args&&AV.hpB (B0 us) v)))
def Adc (ol:List (Oid×Ob)):List (Oid×Ob)->Prop
 | []=>True
 | q :: r=>(match q.2 with
  | .mat _ p u xss=>∃ e,(p,Ob.pool e u xss)∈ol
  | _=>True)∧Adc ol r
theorem Rn {ol:List (Oid×Ob)}:∀ {l:List (Oid×Ob)},Adc ol l->∀ i e p u xss,(i,Ob.mat e p u xss)∈l->∃ e,(p,Ob.pool e u xss)∈ol
 | _ :: _,h,i,e,p,u,xss,hm=>by
  rcases List.mem_cons.1 hm with rfl | hm
  ·exact h.1
  ·exact Rn h.2 i e p u xss hm
theorem Ahv {ol:List (Oid×Ob)} {p:Oid} {e:TypeId} {u:Ty} {xss:List (List u.D)}:(p,Ob.pool e u xss)∈ol->∀ k,k<xss.length->kid p k∈nmL ol:=by
 induction ol with
 | nil=>intro h; cases h
 | cons x r ih =>
  obtain ⟨x1,x2⟩:=x;intro h k hk;rcases List.mem_cons.1 h with h | h
  ·cases h;simp only [nmL,exL,List.map_append,List.mem_append];refine .inl (List.mem_map.2 ⟨(kid p k,.arr e u xss[k]),List.mem_map.2 ⟨(xss[k],k),?_,rfl⟩,rfl⟩);rw [List.mem_zipIdx_iff_getElem?]; exact gEg hk
  ·have:=ih h k hk;cases x2 <;> simp only [nmL,exL,List.map_cons,List.map_append] at this⊢ <;> first | exact List.mem_cons_of_mem _ this | exact List.mem_append_right _ this
theorem Ot {ol:List (Oid×Ob)} {i:Oid} (h:i∈B0 ol):i∈nmL ol:=by
 obtain ⟨o,ho,hp⟩:=Akr h;exact List.mem_map.2 ⟨_,Wd ho hp,rfl⟩
theorem Anl {D:Oid->Prop} {p:Oid} {u:Ty} (xss:List (List u.D)) (h:∀ k,k<xss.length->D (kid p k)):AV.hpL D (hdL p u xss):=by
 have key:∀ l:List (List u.D×Nat),(∀ x∈l,D (kid p x.2))->AV.hpL D (l.map fun x=>.own (kid p x.2) u 0 x.1.length):=by
  intro l
  induction l with
  | nil=>intro _; trivial
  | cons x l ih=>intro h; exact ⟨h x (by simp),ih fun y hy=>h y (by simp [hy])⟩
 refine key _ fun x hx=>h _ ?_
 obtain ⟨row,k⟩:=x;rw [List.mem_zipIdx_iff_getElem?] at hx;exact (gSi.1 hx).1
theorem Amw {D:List Oid} (o:Ob) (h:o.clo1 D=true) (hp:o.isPool=false) (hm:∀ e p u xss,o≠.mat e p u xss):o.exp.cloP (·∈D):=by
 cases o with
 | cells _ cs=>exact AV.cloPL_of cs h
 | vec _ _ _ cs=>exact AV.cloPL_of cs h
 | mat e p u xss=>exact absurd rfl (hm _ _ _ _)
 | arr _ _ _=>trivial
 | map _ _ _=>trivial
 | pool _ _ _=>cases hp
 | tv e m t xs=>exact Agu xs
theorem An5 {D:List Oid} (o:Ob) (h:o.hp1 D=true) (hp:o.isPool=false) (hm:∀ e p u xss,o≠.mat e p u xss):o.exp.hp (·∈D):=by
 cases o with
 | cells _ cs=>exact AV.hpB_PL cs h
 | vec _ _ _ cs=>exact AV.hpB_PL cs h
 | mat e p u xss=>exact absurd rfl (hm _ _ _ _)
 | arr _ _ _=>trivial
 | map _ _ _=>trivial
 | pool _ _ _=>cases hp
 | tv e m t xs=>cases h
theorem cloP_mono {D E:Oid->Prop} (hd:∀ i,D i->E i) (o:Ob) (h:o.cloP D):o.cloP E:=by
 cases o <;> first | exact AV.cloPL_mono hd _ h | exact h
theorem hp_mono {D E:Oid->Prop} (hd:∀ i,D i->E i) (o:Ob) (h:o.hp D):o.hp E:=by
 cases o <;> first | exact AV.hpL_mono hd _ h | exact h
section
variable {P:Program} {G:World->Prop} (hfol:P.follows .mixedOrders=true) {g:FuncId} {fn:Func} (hf:P.funcs[g]? =some fn) {ac:AC} {rs:List Res} (hc:Ar P fn=some (ac,rs)) {args:List AV} {r:RV} {n:Nat} (hN:fn.ntmps=n) (hn:args.length<=n)
include hfol hf hc hN hn
theorem A0 [IsP P] {tl:List (Nat×AV)} (htl:tmL 0 args=tl) (h:awp P G ac (fun e S=>∃ S',Weak S S'∧(e=.normal∨e=.ret)∧RetOK [] rs S' r) ⟨Am tl,Ak [],1⟩):A4 P G g args r:=by
 refine Aln hfol hf hc hN hn ?_;rw [St.init_eq,htl];exact h
omit hN hn in
theorem Aiz [IsP P] (hN:fn.ntmps=n) (hn:args.length<=n) {tl:List (Nat×AV)} (htl:tmL 0 args=tl) {ol us:List (Oid×Ob)} {v:AV} (hB:Amo ol us args v=true) (hm1:Adc ol ol) (hm2:Adc us us)
  (h:awp P G ac (fun e S=>∃ S',Weak S S'∧(e=.normal∨e=.ret)∧(∃ rvs,Res.evL S'.tm S'.ob rs=some rvs∧v=Af0 rvs)∧∀ q∈exL us,S'.ob q.1=some q.2) ⟨Am tl,Ak (An ol),1⟩):Xn P G g args ol v us:=by
 simp only [Amo,Bool.and_eq_true] at hB;obtain ⟨⟨a1,a2,a3,a4,a5,a6⟩,b1,b2,b3,b4⟩:=hB;rw [List.all_eq_true] at a3 a4 b1 b2
 have h0:∀ {l:List (Oid×Ob)},Ia l=true->∀ q∈l,q.1.1.2=0:=fun h q hq=>by
  unfold Ia at h;rw [List.all_eq_true] at h;have:=h q hq;simp only [Bool.and_eq_true,beq_iff_eq] at this;exact this.1
 refine Akj hfol hf hc hN hn (fun q hq=>?_) (Amu (Fj a5) (Fj a6) (h0 a2)) (fun q hq=>?_) (AV.cloPL_mono (fun i hi=>Ot hi) _ (AV.cloPL_of args b3)) (AV.hp_mono (fun i hi=>Ot hi) _ (AV.hpB_P v b4)) ?_
 ·rcases Hj hq with ⟨p,e,u,xss,k,row,m1,m2,rfl⟩ | ⟨o,m1,m2,m3⟩
  ·have:=a3 _ m1;rw [beq_iff_eq] at this;exact ⟨this,trivial⟩
  ·have:=a3 _ m1;refine ⟨by simpa using this,?_⟩;rw [m3];by_cases hmt:∃ e p u xss,o=.mat e p u xss
   ·obtain ⟨e,p,u,xss,rfl⟩:=hmt;obtain ⟨e',hp⟩:=Rn hm1 _ _ _ _ _ m1;exact Ajf xss fun k hk=>Ahv hp k hk
   ·exact cloP_mono (fun i hi=>Ot hi) _ (Amw o (b1 _ m1) m2 fun e p u xss h=>hmt ⟨e,p,u,xss,h⟩)
 ·rcases Hj hq with ⟨p,e,u,xss,k,row,m1,m2,rfl⟩ | ⟨o,m1,m2,m3⟩
  ·have:=a4 _ m1;simp only [Ob.isPool,Bool.not_true,Bool.false_and,Bool.or_false,beq_iff_eq] at this;exact ⟨.inl this,trivial⟩
  ·have:=a4 _ m1;simp only [Bool.or_eq_true,Bool.and_eq_true,beq_iff_eq] at this;refine ⟨this.imp id fun h=>Ot (List.contains_iff_mem.1 h.2),?_⟩;rw [m3];by_cases hmt:∃ e p u xss,o=.mat e p u xss
   ·obtain ⟨e,p,u,xss,rfl⟩:=hmt;obtain ⟨e',hp⟩:=Rn hm2 _ _ _ _ _ m1;exact Anl xss fun k hk=>Ahv hp k hk
   ·exact hp_mono (fun i hi=>Ot hi) _ (An5 o (b2 _ m1) m2 fun e p u xss h=>hmt ⟨e,p,u,xss,h⟩)
 ·rw [Ahm,htl];exact h
end
theorem Bk {rs:List Res} {f:Nat->AV} {ob:Oid->Option Ob} {g:Nat} {r:RV} (avs:List AV) {vs:List Value} {e:AE} (h2:PartsR vs ob avs r.ps) (he:e=.normal∨e=.ret:=by simp) (h1:Res.evL f ob rs=some avs:=by kernel_rfl) (h3:ndB (Z9 ob (R7 avs))=true:=by kernel_rfl) (h4:r.tup=decide (rs.length≠1):=by kernel_rfl):∃ S',Weak ⟨f,ob,g⟩ S'∧(e=.normal∨e=.ret)∧RetOK vs rs S' r :=
 ⟨_,Weak.refl _,he,avs,r.ps,h1,h2,Fj h3,by cases r; cases h4; rfl⟩
theorem An0 {rs:List Res} {S:St} {tl:List (Nat×AV)} {g:Nat} {v:AV} {us:List (Oid×Ob)} {e:AE} (rvs:List AV) (hw:Weak S ⟨Am tl,Ak (An us),g⟩) (he:e=.normal∨e=.ret:=by simp) (h1:Res.evL (Am tl) (Ak (An us)) rs=some rvs:=by kernel_rfl) (hv:v=Af0 rvs:=by kernel_rfl) (h2:(Ia us&&(ndB (B0 us)&&ndB (B3 us)))=true:=by kernel_rfl) :
  ∃ S',Weak S S'∧(e=.normal∨e=.ret)∧(∃ rvs,Res.evL S'.tm S'.ob rs=some rvs∧v=Af0 rvs)∧∀ q∈exL us,S'.ob q.1=some q.2:=by
 refine ⟨_,hw,he,⟨rvs,h1,hv⟩,fun q hq=>?_⟩;simp only [Bool.and_eq_true] at h2;obtain ⟨a1,a2,a3⟩:=h2
 have h0:∀ q∈us,q.1.1.2=0:=fun q hq=>by
  unfold Ia at a1;rw [List.all_eq_true] at a1;have:=a1 q hq;simp only [Bool.and_eq_true,beq_iff_eq] at this;exact this.1
 have:=Nn (rest:=[]) (Fj a2) (Fj a3) (fun p hp=>by obtain ⟨e,u,xss,hm⟩:=Ane hp; exact h0 _ hm) (fun i hi p hp k e=>by
  obtain ⟨o,ho,_⟩:=Akr hi;have:=h0 _ ho;rw [e] at this;simp [kid] at this) q hq
 rwa [List.append_nil] at this
section
variable {vs:List Value} {ob:Oid->Option Ob}
theorem Ams {cs r:List AV} {ls:List RL} {ps:List (Bool×List RL)} (h1:LeavesR vs ob cs ls) (h2:PartsR vs ob r ps):PartsR vs ob (.agg cs :: r) ((true,ls) :: ps):=⟨ls,ps,rfl,h1,h2⟩
theorem At {c:AV} {r:List AV} {l:RL} {ps:List (Bool×List RL)} (hc:c.one=true) (h1:LeafR vs ob c l) (h2:PartsR vs ob r ps):PartsR vs ob (c :: r) ((false,[l]) :: ps):=by
 rw [Np (by rintro ⟨_,rfl⟩; cases hc)];exact ⟨l,ps,rfl,h1,h2⟩
theorem A5:PartsR vs ob [] []:=rfl
theorem Rz {c:AV} {cs:List AV} {l:RL} {ls:List RL} (h1:LeafR vs ob c l) (h2:LeavesR vs ob cs ls):LeavesR vs ob (c :: cs) (l :: ls):=⟨l,ls,rfl,h1,h2⟩
theorem Ami:LeavesR vs ob [] []:=rfl
theorem Aod {c:AV} {l:RL} (h:Rs ob c=some l):LeafR vs ob c l:=.inl (.inl h)
theorem Er {i:Oid} {t u:Ty} {e:TypeId} {xs:List u.D} {len:Nat} (h:ob i=some (.arr e u xs)) (hl:len=xs.length):LeafR vs ob (.own i t 0 len) (.new e u xs):=by
 subst hl;exact .inl (.inl (by simp only [Rs,h,Nat.le_refl,and_self,if_true,List.take_length]))
theorem Ad7 {e:TypeId} {t:Ty} (h:t.flat=true):LeafR vs ob .nils (.new e t []):=.inl (.inr (.inr ⟨e,t,rfl,rfl,h⟩))
end
end
section
open Go.RowKit Go.Deep
abbrev tm (n:Nat):Opd:=.tmp n
abbrev cb (b:Bool):Opd:=.cst (.bool b)
abbrev ci (n:Int):Opd:=.cst (.int .i64 n)
abbrev xo (d:Nat) (q:Q):X:=⟨some d,none,q⟩
abbrev xn (q:Q):X:=⟨none,none,q⟩
abbrev qm (x:Opd):Q:=.i (.mov x)
abbrev ql (x:Opd):Q:=.i (.ld true 1 x)
abbrev qs (x y:Opd):Q:=.st true 1 x y
abbrev qf (k:Nat) (x:Opd):Q:=.i (.fld k x)
abbrev qb (o:BinOp) (x y:Opd):Q:=.i (.bin o x y)
abbrev qx (sz:Nat) (x y:Opd):Q:=.i (.idx sz x y)
abbrev qc (f:FuncId) (xs:List Opd) (tys:List (List (Option Ty))):Q:=.call (.cst (.fn f [])) xs tys
abbrev rg (xs:List X):AC:=.region xs false []
abbrev ai (n:Int):AV:=.int .i64 n
abbrev oi (a b:Nat):Oid:=((a,0),b)
def Ano (d:Option Nat) (v:AV) (tl:List (Nat×AV)):List (Nat×AV) :=
 match d with
 | some d=>(d,v) :: tl
 | none=>tl
theorem Ang (d:Option Nat) (v:AV) (tl:List (Nat×AV)):Kb d v (Am tl)=Am (Ano d v tl):=by
 cases d with
 | none=>rfl
 | some d=>simp only [Kb,Ano,Mw]
noncomputable def Adm (g:Nat):Nat->Nat->List X->List (Nat×AV)->List (Oid×Option Ob)->Option (List (Nat×AV)×List (Oid×Option Ob))
 | 0,_,_,tl,ol=>some (tl,ol)
 | _+1,_,[],_,_=>none
 | n+1,k,x :: xs,tl,ol=>match Bp (g+k) x (Am tl) (Ak ol) with
  | some (_,v,us)=>if Fy us then Adm g n (k+1) xs (Ano x.dst v tl) (us.reverseAux ol) else none
  | none=>none
theorem Aob {P:Program} {G:World->Prop} {g:Nat} {Kf:List (Nat×AV)->List (Oid×Option Ob)->Prop}:∀ (n k:Nat) (xs:List X) (tl:List (Nat×AV)) (ol:List (Oid×Option Ob)) (r:List (Nat×AV)×List (Oid×Option Ob)),Adm g n k xs tl ol=some r->XW P G g (k+n) (xs.drop n) r.1 r.2 Kf->XW P G g k xs tl ol Kf
 | 0,k,xs,tl,ol,r,h,hk=>by
  obtain rfl:=osj h;exact hk
 | n+1,k,[],tl,ol,r,h,hk=>by cases h
 | n+1,k,x :: xs,tl,ol,r,h,hk=>by
  simp only [Adm] at h;split at h
  ·rename_i c v us hst;split at h
   ·rename_i hx;obtain ⟨rs,tl',ol',h1,h2⟩:=Aob (P:=P) (G:=G) n (k+1) xs _ _ r h (by rw [show k+1+n=k+(n+1) by omega]; exact hk);exact ⟨(c,v,us) :: rs,tl',ol',⟨_,_,rfl,Hy hst,by rw [Ang,Hs _ _ hx]; exact h1⟩,h2⟩
   ·cases h
  ·cases h
theorem rsB {P:Program} {G:World->Prop} {g k:Nat} {xs:List X} {tl:List (Nat×AV)} {ol:List (Oid×Option Ob)} {Kf:List (Nat×AV)->List (Oid×Option Ob)->Prop} (n:Nat) (hk:XW P G g (k+n) (xs.drop n) ((Adm g n k xs tl ol).getD ([],[])).1 ((Adm g n k xs tl ol).getD ([],[])).2 Kf) (h:(Adm g n k xs tl ol).isSome=true:=by kernel_rfl):XW P G g k xs tl ol Kf:=by
 obtain ⟨r,hr⟩:=Option.isSome_iff_exists.1 h;rw [hr] at hk;exact Aob n k xs tl ol r hr hk
theorem Al {P:Program} {G:World->Prop} {g:Nat} {xs:List X} {bad:List (Nat×Nat)} {y:AC} {R:AE->St->Prop} {tl:List (Nat×AV)} {ol:List (Oid×Option Ob)} (h:awp P G y R ⟨Am ((Adm g xs.length 0 xs tl ol).getD ([],[])).1,Ak ((Adm g xs.length 0 xs tl ol).getD ([],[])).2,g+xs.length⟩) (hs:(Adm g xs.length 0 xs tl ol).isSome=true:=by kernel_rfl):awp P G (.seq (.region xs false bad) y) R ⟨Am tl,Ak ol,g⟩:=by
 refine Ab (Aa (g+xs.length) (rsB xs.length (by rw [List.drop_length]; exact Ao (tn_ ⟨_,Weak.refl _,h⟩)) hs) rfl)
section
variable {n:Nat} {d:Option Nat} {f:Nat->AV} {ob:Oid->Option Ob} {ol:List (Oid×Option Ob)}
theorem Hl {x y:Opd} {o q:Oid} {e1 e2:TypeId} {u:Ty} {t':Ty} {b:Nat} {p:Oid} {xss:List (List u.D)} {cs:List AV} {len:Nat} (hx:x.ev f=.own o t' 0 len) (hob:ob o=some (.vec e1 1 xss.length (hdL p u xss))) (hl:len=xss.length) {t2:Ty} (hy:y.ev f=.own q t2 0 1) (hq:ob q=some (.vec e2 1 1 cs)) (hc:cs.length=1) (h:xss.length+1<=1073741824∧(xss.length+1)*b<=140737488355328) :
  Bp n ⟨d,none,.appV e1 (.slice u) b x y⟩ f ob=some (2,.own (o.1,n) (.slice u) 0 (xss.length+1),[(o,none),((o.1,n),some (.vec e1 1 (xss.length+1) (hdL p u xss++cs)))]):=by
 subst hl;have h1:List.take (xss.length*1) (hdL p u xss)=hdL p u xss:=by rw [Nat.mul_one]; exact List.take_of_length_le (by rw [Nb]; exact Nat.le_refl _)
 have h2:List.take (1*1) (List.drop (0*1) cs)=cs:=by simp only [Nat.zero_mul,List.drop_zero,Nat.mul_one]; exact List.take_of_length_le (by omega)
 simp only [Bp,ev,Kn,hx,hy,Ael,hq,hob,Ty.size,true_and,Nat.zero_add,Nat.le_refl,if_true,h1,h2,h.1,h.2,and_self]
theorem Iq {i:Oid} {e:TypeId} {t:Ty} {sz:Nat} {xs:List Opd} {r:Rec} (h:(Abr f i e t sz xs).map (fun r=>((1:Nat),r.1,r.2))=some r):evL f i (.mkV e t sz xs)=some r:=by
 simp only [evL];cases hq:Abr f i e t sz xs with
 | none=>rw [hq] at h; cases h
 | some q=>rw [hq] at h; obtain ⟨v,us⟩:=q; exact h
theorem Alg {i:Oid} {e:TypeId} (e':TypeId) {u:Ty} {b:Nat} {x y:Opd} {k k':IntKind} {m c:Int} {j:Nat} (hx:x.ev f=.int k m) (hy:y.ev f=.int k' c) (h:0<=m∧m<=c∧c<=1073741824∧(b:Int)*c<=140737488355328) (hfl:u.flat=true) (hj:m.toNat=j) :
  Aep f i (.makeV e (.slice u) b [.nils] x y) (1,RV.out ⟨false,[(false,[.newM e e' u (List.replicate j [])])]⟩ (Ds i) []):=by
 subst hj;exact ⟨e,e',u,b,x,y,k,k',m,c,rfl,hx,hy,h,hfl,rfl⟩
theorem Al8 {i:Oid} {e e':TypeId} {u:Ty} {xss:List (List u.D)} (h:S5 i.2 ol=true):Az (RV.out ⟨false,[(false,[.newM e e' u xss])]⟩ (Ds i) []).2 (Ak ol)=Ak ((Ds i 0,some (.mat e (Ds i 0) u xss)) :: (Ds i 0,some (.pool e' u xss)) :: ol):=by
 have e0:(RV.out ⟨false,[(false,[.newM e e' u xss])]⟩ (Ds i) []).2=(Ds i 0,some (.vec e 1 xss.length (hdL (Ds i 0) u xss))) :: (Ws (Ds i 0) e' u xss++[]):=rfl;rw [e0,List.append_nil];show Az (Ws (Ds i 0) e' u xss) (upd (Ak ol) (Ds i 0) (some (.vec e 1 xss.length (hdL (Ds i 0) u xss))))=_
 rw [Jn rfl,Ae7 (fun k=>by
  have:Ak ((Ds i 0,some (.vec e 1 xss.length (hdL (Ds i 0) u xss))) :: ol) (kid (Ds i 0) k)=if kid (Ds i 0) k=Ds i 0 then some (.vec e 1 xss.length (hdL (Ds i 0) u xss)) else Ak ol (kid (Ds i 0) k):=by simp only [Ak]
  rw [this,if_neg (fun e=>by have:=congrArg (fun i:Oid=>i.1.2) e; simp [kid,Ds] at this)];exact M9 h _ rfl)]
 funext j;have h2:∀ j,Ak ((Ds i 0,some (.vec e 1 xss.length (hdL (Ds i 0) u xss))) :: ol) j=if j=Ds i 0 then some (.vec e 1 xss.length (hdL (Ds i 0) u xss)) else Ak ol j:=fun j=>by simp only [Ak]
 rw [Pr,J9,J9,h2];by_cases hj:j=Ds i 0
 ·subst hj;rw [if_pos rfl,if_neg (fun h=>h.2.2 rfl),if_pos rfl]
 ·rw [if_neg hj,if_neg hj]
end
section
variable {P:Program} {G:World->Prop} {g k d:Nat} {gd:Option (Nat×Bool)} {q:Q} {xs:List X} {tl:List (Nat×AV)} {ol:List (Oid×Option Ob)} {bad:List (Nat×Nat)} {ra:List Rec} {da:List (List Oid)} {Kf:List (Nat×AV)->List (Oid×Option Ob)->Prop}
theorem Aiu (v:AV) (i:Oid) (o:Ob) (hgd:Vo gd (Am tl)) (h:evL (Am tl) ((d,0),g+k) q=some (1,v,[(i,some o)])) (h3:XW P G g (k+1) xs ((d,v) :: tl) ((i,some o) :: ol) Kf) (hx:Kd (some o)=true:=by rfl):XW P G g k (⟨some d,gd,q⟩ :: xs) tl ol Kf:=Acg 1 v _ (Amk (d:=some d) hgd h) h3 (by simp only [Fy,List.all_cons,List.all_nil,hx]; rfl)
theorem Vw (v:AV) (i:Oid) (o:Ob) (hgd:Vo gd (Am tl)) (h:evL (Am tl) ((d,0),g+k) q=some (1,v,[(i,some o)])) (h3:XD P G bad g (k+1) xs ((d,v) :: tl) ((i,some o) :: ol) ((1,v,[(i,some o)]) :: ra) ((rdX (Am tl) (Ak ol) ⟨some d,gd,q⟩) :: da) Kf) (hx:Kd (some o)=true:=by rfl):XD P G bad g k (⟨some d,gd,q⟩ :: xs) tl ol ra da Kf:=Ab4 1 v _ (Amk (d:=some d) hgd h) h3 (by simp only [Fy,List.all_cons,List.all_nil,hx]; rfl)
theorem Amz (v:AV) (i:Oid) (e e':TypeId) (u:Ty) (xss:List (List u.D)) (hgd:Vo gd (Am tl)) (h:Aep (Am tl) ((d,0),g+k) q (1,RV.out ⟨false,[(false,[.newM e e' u xss])]⟩ (Ds ((d,0),g+k)) [])) (hi:Ds ((d,0),g+k) 0=i) (hv:AV.own i (.slice u) 0 xss.length=v) (hn:S5 (g+k) ol=true) (h3:XW P G g (k+1) xs ((d,v) :: tl) ((i,some (.mat e i u xss)) :: (i,some (.pool e' u xss)) :: ol) Kf):XW P G g k (⟨some d,gd,q⟩ :: xs) tl ol Kf:=by
 subst hi hv;exact Agw 1 _ _ _ (Al5 (d:=some d) hgd h) (Al8 hn) h3
end
-- what arguments read as
section
variable {ol:List (Oid×Option Ob)} {n:Nat}
theorem Xo {α:Type} {g:List AV->Option α}:∀ {cs:List AV} {xs:List α},cs.length=xs.length->(∀ (k:Nat) (c:AV) (x:α),cs[k]? =some c->xs[k]? =some x->g [c]=some x)->Po g 1 xs.length cs=some xs
 | [],[],_,_=>rfl
 | c :: cs,x :: xs,hl,h=>by
  have h0:=h 0 c x rfl rfl;have ih:=Xo (g:=g) (cs:=cs) (xs:=xs) (by simpa using hl) (fun k c x h1 h2=>h (k+1) c x h1 h2);simp only [List.length_cons,Po,List.take_succ_cons,List.take_zero,List.drop_succ_cons,List.drop_zero,h0,ih]
 | [],_ :: _,hl,_=>by simp at hl
 | _ :: _,[],hl,_=>by simp at hl
theorem Alc {ob:Oid->Option Ob} {o p:Oid} {e1 e:TypeId} {u:Ty} {xss:List (List u.D)} {m len:Nat} (ho:ob o=some (.vec e1 1 m (hdL p u xss))) (hm:m=xss.length) (hk:∀ k row,xss[k]? =some row->ob (kid p k)=some (.arr e u row)) {t':Ty} (hl:len<=xss.length):Aei ob 1 (rdC ob (.slice u)) (.own o t' 0 len)=some (xss.take len):=by
 have h1:(((hdL p u xss).drop (0*1)).take (len*1))=hdL p u (xss.take len):=by
  simp only [Nat.zero_mul,List.drop_zero,Nat.mul_one];apply List.ext_getElem?;intro j;rw [List.getElem?_take,Qe,Qe,List.getElem?_take];split <;> rfl
 have hlen:(xss.take len).length=len:=by rw [List.length_take]; omega
 simp only [Aei,ho];rw [if_pos ⟨trivial,by omega⟩,h1]
 have:=Xo (g:=rdC ob (.slice u)) (cs:=hdL p u (xss.take len)) (xs:=xss.take len) Nb (fun k c x hc hx=>by
  rw [Qe,hx] at hc;obtain rfl:=osj hc;rw [List.getElem?_take] at hx;split at hx
  ·have:=hk k x hx;simp only [rdC,Fq,this,Nat.zero_add,Nat.le_refl,if_true,Ty.eq?_self,Dx,List.drop_zero,List.take_length]
  ·cases hx)
 rw [hlen] at this;exact this
theorem Ann {ob:Oid->Option Ob} {o p:Oid} {e1 e:TypeId} {u:Ty} {xss:List (List u.D)} {len:Nat} (ho:ob o=some (.vec e1 1 xss.length (hdL p u xss))) (hk:∀ k row,xss[k]? =some row->ob (kid p k)=some (.arr e u row)) (hl:len=xss.length):gnd ob (n+1) (.own o (.slice u) 0 len)=some (.tree (.slice u) xss):=by
 subst hl;have:=Alc (t':=.slice u) ho rfl hk (Nat.le_refl _);rw [List.take_length] at this;simp only [gnd,ho,Ty.size,this,Option.map_some]
theorem D6 {p:Oid} {e:TypeId} {u:Ty} {xss:List (List u.D)} (h:Jt ol p=some (.pool e u xss)):∀ k row,xss[k]? =some row->Ak ol (kid p k)=some (.arr e u row):=fun _ _ hx=>Y3 h hx
def Akf (zs:List AV) (ob:Oid->Option Ob) (θ:Oid->Oid):List (Oid×Ob)->Prop
 | []=>True
 | q :: r=>(match q.2 with
  | .pool _ _ xss=>∀ k,k<xss.length->Reached zs ob (kid (θ q.1) k)
  | _=>Reached zs ob (θ q.1))∧Akf zs ob θ r
theorem X0 {zs:List AV} {ob:Oid->Option Ob} {l:List (Oid×Oid)} (hl:Wu l=true):∀ {ol:List (Oid×Ob)},Ia ol=true->Akf zs ob (Cg l) ol->∀ j∈nmL ol,Reached zs ob (Cg l j)
 | [],_,_,j,hj=>by cases hj
 | (p,o) :: r,h0,h,j,hj=>by
  simp only [Ia,List.all_cons,Bool.and_eq_true,beq_iff_eq] at h0;obtain ⟨⟨h1,_⟩,h2⟩:=h0;have ih:j∈nmL r->Reached zs ob (Cg l j):=fun hm=>X0 hl (ol:=r) (by simpa [Ia] using h2) h.2 j hm
  cases o with
  | pool e u xss =>
   simp only [nmL,exL,List.map_append,List.mem_append] at hj;rcases hj with hj | hj
   ·obtain ⟨q,hq,rfl⟩:=List.mem_map.1 hj;obtain ⟨⟨row,k⟩,hx,rfl⟩:=List.mem_map.1 hq;rw [List.mem_zipIdx_iff_getElem?] at hx;show Reached zs ob (Cg l (kid p k));rw [I6 hl h1];exact h.1 k (gSi.1 hx).1
   ·exact ih hj
  | _ =>
   simp only [nmL,exL,List.map_cons,List.mem_cons] at hj;rcases hj with rfl | hj
   ·exact h.1
   ·exact ih hj
theorem Ani {zs:List AV} {ob:Oid->Option Ob} {i:Oid} (h:(AV.nmsL zs).contains i=true):Reached zs ob i:=.arg (List.contains_iff_mem.1 h)
end
end
section
open Go.RowKit Go.Deep
section
variable {f:Nat->AV} {ob:Oid->Option Ob} {n:Nat} {d:Option Nat}
end
end
section
open Go.RowKit Go.Deep
abbrev T4:Ty:=.pair .int (.pair .int (.pair .int .int))
section
variable {P:Program} {G:World->Prop} {g k d:Nat} {gd:Option (Nat×Bool)} {q:Q} {xs:List X} {tl:List (Nat×AV)} {ol:List (Oid×Option Ob)} {bad:List (Nat×Nat)} {ra:List Rec} {da:List (List Oid)} {Kf:List (Nat×AV)->List (Oid×Option Ob)->Prop}
theorem rz0 (v:AV) (h3:XW P G g (k+1) xs ((d,v) :: tl) ol Kf) (h:Bp (g+k) ⟨some d,gd,q⟩ (Am tl) (Ak ol)=some (0,v,[]):=by kernel_rfl):XW P G g k (⟨some d,gd,q⟩ :: xs) tl ol Kf:=rs0 v h h3
theorem rzl (v:AV) (h3:XW P G g (k+1) xs ((d,v) :: tl) ol Kf) (h:Bp (g+k) ⟨some d,gd,q⟩ (Am tl) (Ak ol)=some (1,v,[]):=by kernel_rfl):XW P G g k (⟨some d,gd,q⟩ :: xs) tl ol Kf:=rsl v h h3
theorem dz0 (v:AV) (h3:XD P G bad g (k+1) xs ((d,v) :: tl) ol ((0,v,[]) :: ra) ((rdX (Am tl) (Ak ol) ⟨some d,gd,q⟩) :: da) Kf) (h:Bp (g+k) ⟨some d,gd,q⟩ (Am tl) (only (rdX (Am tl) (Ak ol) ⟨some d,gd,q⟩) (Ak ol))=some (0,v,[]):=by kernel_rfl):XD P G bad g k (⟨some d,gd,q⟩ :: xs) tl ol ra da Kf:=ds0 v h h3
theorem dzl (v:AV) (h3:XD P G bad g (k+1) xs ((d,v) :: tl) ol ((1,v,[]) :: ra) ((rdX (Am tl) (Ak ol) ⟨some d,gd,q⟩) :: da) Kf) (h:Bp (g+k) ⟨some d,gd,q⟩ (Am tl) (only (rdX (Am tl) (Ak ol) ⟨some d,gd,q⟩) (Ak ol))=some (1,v,[]):=by kernel_rfl):XD P G bad g k (⟨some d,gd,q⟩ :: xs) tl ol ra da Kf:=dsl v h h3
theorem zs {s:Nat} {b c:Bool} (hc:c= !b) (h3:XW P G g (k+1) xs ((d,.tup []) :: tl) ol Kf) (hs:Am tl s=.bool c:=by kernel_rfl):XW P G g k (⟨some d,some (s,b),q⟩ :: xs) tl ol Kf:=rs0 (.tup []) (Rr hs hc) h3
theorem zc {fo:Opd} {ys:List Opd} {tys:List (List (Option Ty))} {F:FuncId} {rv:RV} {args:List AV} (v:AV) (us:List (Oid×Option Ob)) (zs:List AV) (hc:A4 P G F args rv) (h3:XW P G g (k+1) xs ((d,v) :: tl) (us.reverseAux ol) Kf) (h1:Ph (gnd (Ak ol) 8) zs=some zs:=by kernel_rfl) (hb:A6 P F=true:=by kernel_rfl) (hfo:fo.ev (Am tl)=.fn F []:=by kernel_rfl) (hz:(ys++([]:List AV).map Opd.cst).map (Opd.ev (Am tl))=zs:=by kernel_rfl) (hn:Sw tys zs=args:=by kernel_rfl) (hr:rv.out (Ds ((d,0),g+k)) zs=(v,us):=by kernel_rfl) (hx:Fy us=true:=by rfl):XW P G g k (⟨some d,none,.call fo ys tys⟩ :: xs) tl ol Kf:=Bh (caps:=[]) (args0:=zs) v us zs args trivial h1 hc hb h3 hfo hz hn hr hx
end
section
variable {n:Nat} {d:Option Nat} {f:Nat->AV} {ob:Oid->Option Ob}
theorem zi {sz:Nat} {x i:Opd} {t:Ty} {xs:List t.D} {y:t.D} {k:IntKind} {m:Int} {j:Nat} (h0:0<=m) (hy:xs[j]? =some y) (hx:(x.ev f).un=.tree t xs:=by kernel_rfl) (hi:i.ev f=.int k m:=by kernel_rfl) (hs:sz=t.size:=by rfl) (hj:m.toNat=j:=by rfl):Bp n ⟨d,none,.i (.idx sz x i)⟩ f ob=some (0,.telt t y 0,[]):=Anb hx hi hs h0 hj hy
theorem zo {sz:Nat} {x i:Opd} {t:Ty} {o:Oid} {len:Nat} {k:IntKind} {m:Int} {j:Nat} (h0:0<=m) (hl:j<len) (hx:x.ev f=.own o t 0 len:=by kernel_rfl) (hi:i.ev f=.int k m:=by kernel_rfl) (hs:sz=t.size:=by rfl) (hj:m.toNat=j:=by rfl):Bp n ⟨d,none,.i (.idx sz x i)⟩ f ob=some (0,.elt o j 0,[]):=Ans hx hi hs h0 hj hl
theorem zg {s:Nat} {b c:Bool} {q:Q} {r:Option Rec} (hc:c=b) (hs:f s=.bool c:=by kernel_rfl) (h:Bp n ⟨d,none,q⟩ f ob=r:=by kernel_rfl):Bp n ⟨d,some (s,b),q⟩ f ob=r:=Ait hs hc h
theorem zT {c x y:Opd} {b:Bool} (hb:b=true) (h:c.ev f=.bool b:=by kernel_rfl):Bp n ⟨d,none,.i (.pick c x y)⟩ f ob=some (0,x.ev f,[]):=Al7 h hb
theorem zF {c x y:Opd} {b:Bool} (hb:b=false) (h:c.ev f=.bool b:=by kernel_rfl):Bp n ⟨d,none,.i (.pick c x y)⟩ f ob=some (0,y.ev f,[]):=Al4 h hb
theorem za {x y:Opd} {j:Nat} (h:j+1<4611686018427387904) (hx:x.ev f=.int .i64 j:=by kernel_rfl) (hy:y.ev f=.int .i64 1:=by kernel_rfl):Bp n ⟨d,none,.i (.bin .add x y)⟩ f ob=some (0,.int .i64 ((j+1:Nat):Int),[]):=Am8 hx hy h
theorem zl {vs:List Value} {c:AV} {l:RL} (h:Rs ob c=some l:=by kernel_rfl):LeafR vs ob c l:=Aod h
end
theorem zj {α:Type} {a b:α} (h:some a=some b):a=b:=osj h
theorem wr_ {S:St} {K:St->Prop} (h:K S):∃ S',Weak S S'∧K S':=⟨S,Weak.refl _,h⟩
end
section
open Go.RowKit Go.Deep
inductive Ctl (σ ρ:Type) where
 | next (s:σ)
 | out (r:ρ)
def Ctl.then {σ β:Type} (k:σ->Option β):Ctl σ β->Option β
 | .next t=>k t
 | .out r=>some r
section
variable {α β σ τ ρ:Type}
def og (c:Prop) [Decidable c] (k:Option α):Option α:=if c then k else none
theorem Aq {c:Prop} [Decidable c] {k:Option α} {r:α} (h:og c k=some r):c∧k=some r:=by
 unfold og at h;split at h
 ·rename_i hc; exact ⟨hc,h⟩
 ·cases h
theorem Ap {c:Prop} [Decidable c] (h:c) (k:Option α):og c k=k:=if_pos h
theorem Ae {o:Option α} {f:α->Option β} {b:β} (h:o.bind f=some b):∃ a,o=some a∧f a=some b:=Option.bind_eq_some_iff.1 h
theorem Ad {c:Bool} {a b:Option α} {r:α} (h:cond c a b=some r):(c=true∧a=some r)∨(c=false∧b=some r):=by
 cases c
 ·exact .inr ⟨rfl,h⟩
 ·exact .inl ⟨rfl,h⟩
def Ix (a:Option (Ctl τ β)) (k:τ->Option β):Option β :=
 a.bind (Ctl.then k)
theorem Aim {a:Option (Ctl τ β)} {k:τ->Option β} {r:β} (h:Ix a k=some r):∃ v,a=some v∧Ctl.then k v=some r:=Ae h
def Ay (body:σ->Option (Ctl σ ρ)):Nat->σ->Option ρ
 | 0,_=>none
 | n+1,s=>(body s).bind (Ctl.then (Ay body n))
theorem Agd {body:σ->Option (Ctl σ ρ)} {n:Nat} {s:σ} {v:ρ} (h:Ay body (n+1) s=some v):∃ c,body s=some c∧Ctl.then (Ay body n) c=some v:=Ae h
theorem Ago {body:σ->Option (Ctl σ ρ)} {s:σ} {v:ρ} (h:Ay body 0 s=some v):False:=by cases h
def Gv (xs:List α) (n:Int):Option α:=if 0<=n then xs[n.toNat]? else none
theorem Be {xs:List α} {k:Nat} {x:α} (h:xs[k]? =some x):k<xs.length:=(gSi.1 h).1
theorem Bo {xs:List α} {n:Int} {x:α} (h:Gv xs n=some x):0<=n∧n<xs.length∧xs[n.toNat]? =some x:=by
 unfold Gv at h;split at h
 ·rename_i h0;have:=Be h;exact ⟨h0,by omega,h⟩
 ·cases h
theorem Jo {xs:List α} {n:Int} (h:0<=n):Gv xs n=xs[n.toNat]?:=if_pos h
end
section
variable {P:Program} {G:World->Prop} {σ τ β ρ:Type}
theorem As {x y:AC} {R:AE->St->Prop} {S:St} {A:Option τ} {k:τ->Option β} {r:β} (h:A.bind k=some r) (J:τ->St->Prop) (h1:∀ t,A=some t->awp P G x (Ki (fun S'=>∃ S'',Weak S' S''∧J t S'') R) S) (h2:∀ t S'',J t S''->k t=some r->awp P G y R S''):awp P G (.seq x y) R S:=by
 obtain ⟨t,ha,hk⟩:=Ae h;exact Aby (J t) (h1 t ha) fun S'' hj=>h2 t S'' hj hk
theorem C0 {x y:AC} {R:AE->St->Prop} {S:St} {A:Option (Ctl τ β)} {k:τ->Option β} {r:β} (h:Ix A k=some r) (J:τ->St->Prop)
  (h1:∀ v,A=some v->Ctl.then k v=some r->awp P G x (Ki (fun S'=>∃ t S'',v=.next t∧Weak S' S''∧J t S'') R) S) (h2:∀ t S'',J t S''->k t=some r->awp P G y R S''):awp P G (.seq x y) R S:=by
 obtain ⟨v,ha,hk⟩:=Aim h;refine Aby (fun S''=>∃ t,v=.next t∧J t S'') (Dy (fun e S' hq=>?_) (h1 v ha hk)) fun S'' ⟨t,hv,hj⟩=>?_
 ·cases e with
  | normal=>obtain ⟨t,S'',hv,hw,hj⟩:=hq; exact ⟨S'',hw,t,hv,hj⟩
  | exit id=>exact hq
  | ret=>exact hq
 ·subst hv; exact h2 t S'' hj hk
theorem Ax {a:AC} {R:AE->St->Prop} {S:St} {body:σ->Option (Ctl σ ρ)} {fuel:Nat} {s0:σ} {v:ρ} (h:Ay body fuel s0=some v) (J:σ->St->Prop) (h0:∃ S0,Weak S S0∧J s0 S0)
  (h1:∀ n s S1 c,J s S1->body s=some c->Ctl.then (Ay body n) c=some v->awp P G a (Ki (fun S2=>∃ s' S3,Weak S2 S3∧J s' S3∧Ay body n s'=some v) R) S1):awp P G (.loop a) R S:=by
 obtain ⟨S0,hw,hj⟩:=h0;refine Aia (fun (p:Nat×σ) S=>Ay body p.1 p.2=some v∧J p.2 S) (·.1) ⟨(fuel,s0),S0,hw,h,hj⟩ ?_;rintro ⟨n,s⟩ S1 ⟨hl,hj⟩;cases n with
 | zero=>exact (Ago hl).elim
 | succ n =>
  obtain ⟨c,hc,hn⟩:=Agd hl;refine Dy (fun e S2 hq=>?_) (h1 n s S1 c hj hc hn);cases e with
  | normal=>obtain ⟨s',S3,hw,hj,hl⟩:=hq; exact ⟨(n,s'),S3,hw,⟨hl,hj⟩,Nat.lt_succ_self n⟩
  | exit id=>exact hq
  | ret=>exact hq
end
theorem Ba (n:Nat):0<=(n:Int):=by omega
end
section
open Go.RowKit Go.Deep
def Ke (a0:Int):Option Bool:=some (isF a0)
def V8 (r:Bool):RV:=⟨false,[(false,[.sc (.bool r)])]⟩
theorem Fl {a0:Int} {r:Bool} (h:Ke a0=some r):A4 Tryd.prog Tab 61 [.int .i64 a0] (V8 r):=by
 obtain rfl:=osj h;intro w im vs hG hr;obtain ⟨u1,_,rfl,h1,h2⟩:=hr;obtain rfl:_=[]:=h2;obtain rfl:u1=.int .i64 a0:=h1;refine (Aew a0 w (hG w (Below.refl _ _))).mono ?_;rintro e w' ⟨rfl,rfl⟩;exact ⟨_,rfl,Below.refl _ _,[_],[],⟨_,[],rfl,rfl,rfl,rfl,rfl⟩,⟨trivial,fun _=>rfl⟩,rfl⟩
end
section
open Go.RowKit Go.Deep
set_option maxRecDepth 4000
def Qv:AC :=
 (.seq (rg [xo 4 (qm (ci 0))])
 (.seq (rg [xo 5 (qm (tm 1)),xo 6 (qm (tm 0)),xo 7 (.i (.len (tm 6))),xo 8 (qb .sub (tm 5) (tm 7)),xo 1 (qm (tm 8))])
 (.seq (.seq (rg [xo 9 (qm (tm 1)),xo 10 (qb .lss (tm 9) (ci 0))])
 (.cond (tm 10)
  (.seq (rg [xo 4 (qm (ci (-1)))])
  .ret)
  .skip))
 (.seq (rg [xo 11 (qm (tm 1)),xo 4 (qm (tm 11))])
 .ret))))
def Z1:List Res:=[.tmp 4]
theorem Aap:Ar Tryd.prog Tryd.f13=some (Qv,Z1):=by kernel_rfl
def Gy (a0:List Int) (a1:Int):Option Int :=
 cond (decide (wI (a1 - ((a0.length:Nat):Int))<0))
 (some (-1))
 (some (wI (a1 - ((a0.length:Nat):Int))))
def Xa (r:Int):RV:=⟨false,[(false,[.sc (.int .i64 r)])]⟩
theorem Wz {a0:List Int} {a1:Int} {r:Int} (h:Gy a0 a1=some r):A4 Tryd.prog Tab 13 [.tree .int a0,ai a1] (Xa r):=by
 refine A0 (by kernel_rfl) Tryd.func13 Aap (n:=12) (by kernel_rfl) (by simp) (tl:=[(0,.tree .int a0),(1,ai a1)]) rfl ?_;unfold Qv;unfold Gy at h;refine Al ?_;refine Al ?_;refine Ab ?_;refine Al ?_;rcases Ad h with ⟨q5,h⟩ | ⟨q5,h⟩
 ·have q5_:=of_decide_eq_true q5;refine Ag q5 ?_;refine Al ?_;refine Aj (tr_ ?_);obtain rfl:=zj h;exact Bk [ai (-1)] (At rfl zl A5)
 have q5_:=of_decide_eq_false q5;refine Af q5 ?_;refine Ai (tn_ ?_);refine wr_ ?_;refine Al ?_;refine Aj ?_;obtain rfl:=zj h;exact Bk [ai (wI (a1 - ((a0.length:Nat):Int)))] (At rfl zl A5)
def L6:AC :=
 (.seq (.seq (rg [xo 8 (qm (tm 4)),xo 9 (qm (tm 0)),xo 10 (.i (.len (tm 9))),xo 11 (qb .lss (tm 8) (tm 10))])
 (.cond (tm 11)
  .skip
  (.exit 0)))
 (.seq (.block 1 (rg [xo 14 (qm (tm 3)),xo 15 (qm (tm 4)),xo 16 (qm (tm 0)),xo 17 (qm (tm 4)),xo 18 (qx 1 (tm 16) (tm 17)),xo 19 (ql (tm 18)),xo 20 (qx 1 (tm 14) (tm 15)),xn (qs (tm 20) (tm 19))]))
 (rg [xo 12 (qm (tm 4)),xo 13 (qb .add (tm 12) (ci 1)),xo 4 (qm (tm 13))])))
def Qr:AC :=
 (.seq (rg [xo 2 (qm (.cst .nils))])
 (.seq (rg [xo 5 (qm (tm 0)),xo 6 (.i (.len (tm 5))),xo 7 (.make 3 .int 8 (tm 6) (tm 6)),xo 3 (qm (tm 7))])
 (.seq (.seq (rg [xo 4 (qm (ci 0))])
 (.block 0 (.loop L6)))
 (.seq (rg [xo 21 (qm (tm 3)),xo 2 (qm (tm 21))])
 .ret))))
def Z2:List Res:=[.tmp 2]
theorem Aa5:Ar Tryd.prog Tryd.f17=some (Qr,Z2):=by kernel_rfl
def Ey (a0:List Int) (l6_m4:Nat) (l6_m3:List Int):Option (Ctl (Nat×List Int) (List Int)) :=
 cond (decide (((l6_m4:Nat):Int)<((a0.length:Nat):Int)))
 (Option.bind (a0[l6_m4]?) fun x11 =>
 Option.bind (l6_m3[l6_m4]?) fun x12 =>
 og (l6_m4+1<4611686018427387904) <|
 some (Ctl.next (l6_m4+1,l6_m3.set l6_m4 x11)))
 (some (Ctl.out l6_m3))
def G7 (a0:List Int):Option (List Int) :=
 og (0<=((a0.length:Nat):Int)∧((a0.length:Nat):Int)<=((a0.length:Nat):Int)∧((a0.length:Nat):Int)<=1073741824∧(8:Int)*((a0.length:Nat):Int)<=140737488355328) <|
Option.bind (Ay (fun s_:Nat×List Int=>Ey a0 s_.1 s_.2) 4611686018427387904 (0,List.replicate a0.length (0:Int))) fun l4_m3 =>
some l4_m3
def Xk (r:List Int):RV:=⟨false,[(false,[.new 3 .int r])]⟩
theorem Xw {a0:List Int} {r:List Int} (h:G7 a0=some r):A4 Tryd.prog Tab 17 [.tree .int a0] (Xk r):=by
 refine A0 (by kernel_rfl) Tryd.func17 Aa5 (n:=22) (by kernel_rfl) (by simp) (tl:=[(0,.tree .int a0)]) rfl ?_;unfold Qr;unfold G7 at h;refine Al ?_;refine Ab ?_;obtain ⟨g3,h⟩:=Aq h;refine Aa 6 ?_;refine rz0 (.tree .int a0) ?_;refine rz0 (ai ((a0.length:Nat):Int)) ?_;refine rs1 (.own (oi 7 4) .int 0 a0.length) (oi 7 4) (.arr 3 .int (List.replicate a0.length (0:Int))) (Lv (t:=.int) (k:=.i64) (k':=.i64) (m:=((a0.length:Nat):Int)) (m':=((a0.length:Nat):Int)) (by kernel_rfl) (by kernel_rfl) g3 rfl) ?_;refine rsB 1 ?_;refine Ao (tn_ ?_);refine wr_ ?_;refine As h (fun (l4_m3:List Int) S_=>S_=⟨Am [(3,.own (oi 0 1) .int 0 l4_m3.length)],Ak (An [(oi 0 1,.arr 3 .int l4_m3)]),2⟩) ?_ ?_
 ·intro v_ h;refine Al ?_;refine Ah ?_;refine Ax h (fun t_ S_=>∃ (l6_m4:Nat),∃ (l6_m3:List Int),t_=(l6_m4,l6_m3)∧S_=⟨Am [(0,.tree .int a0),(3,.own (oi 0 1) .int 0 l6_m3.length),(4,ai ((l6_m4:Nat):Int))],Ak (An [(oi 0 1,.arr 3 .int l6_m3)]),2⟩) ⟨_,(Bn 3 (.own (oi 7 4) .int 0 a0.length) (.own (oi 7 4) .int 0 ((List.replicate a0.length (0:Int)).length)) (by kernel_rfl) (congrArg (fun z_=>((.own (oi 7 4) .int 0 z_):AV)) (List.length_replicate.symm:a0.length=(List.replicate a0.length (0:Int)).length))).trans (Ac [(oi 0 1,oi 7 4)]),⟨0,List.replicate a0.length (0:Int),rfl,rfl⟩⟩ ?_;rintro n_ _ _ c_ ⟨l6_m4,l6_m3,rfl,rfl⟩ h hn6
  (try dsimp only at h);unfold Ey at h;unfold L6;refine Ab ?_;refine Al ?_;rcases Ad h with ⟨q9,h⟩ | ⟨q9,h⟩
  ·have q9_:=of_decide_eq_true q9;refine Ag q9 ?_;refine Ai (tn_ ?_);refine wr_ ?_;refine Ab ?_;refine Ah ?_;obtain ⟨x11,e11,h⟩:=Ae h;obtain ⟨x12,e12,h⟩:=Ae h;refine Aa 14 ?_;refine rz0 (.own (oi 0 1) .int 0 l6_m3.length) ?_;refine rz0 (ai ((l6_m4:Nat):Int)) ?_;refine rz0 (.tree .int a0) ?_;refine rz0 (ai ((l6_m4:Nat):Int)) ?_;refine rs0 (.telt .int x11 0) (zi (t:=.int) (xs:=a0) (k:=.i64) (m:=((l6_m4:Nat):Int)) (Ba _) e11) ?_;refine rz0 (ai x11) ?_;refine rs0 (.elt (oi 0 1) l6_m4 0) (zo (t:=.int) (o:=oi 0 1) (len:=l6_m3.length) (k:=.i64) (m:=((l6_m4:Nat):Int)) (Ba _) (Be e12)) ?_;refine Sk (oi 0 1) (oi 0 1) (.arr 3 .int (l6_m3.set l6_m4 x11)) (Je (i:=oi 0 1) (j:=l6_m4) (k:=0) (e:=3) (t:=.int) (xs:=l6_m3) (cs:=[ai x11]) (x1:=x11) (by kernel_rfl) (by kernel_rfl) e12 (by kernel_rfl) (by kernel_rfl)) ?_;refine Ao (bn_ (tn_ ?_));refine wr_ ?_;obtain ⟨g13,h⟩:=Aq h;refine Aa 17 ?_;refine rz0 (ai ((l6_m4:Nat):Int)) ?_;refine rs0 (ai ((l6_m4+1:Nat):Int)) (za g13) ?_;refine rsB 1 ?_;refine Ao (tn_ ?_);obtain rfl:=zj h;exact ⟨(l6_m4+1,l6_m3.set l6_m4 x11),_,(Bn 3 (.own (oi 0 1) .int 0 l6_m3.length) (.own (oi 0 1) .int 0 ((l6_m3.set l6_m4 x11).length)) (by kernel_rfl) (congrArg (fun z_=>((.own (oi 0 1) .int 0 z_):AV)) (((rfl:l6_m3.length=l6_m3.length).trans List.length_set.symm):l6_m3.length=(l6_m3.set l6_m4 x11).length))).trans (Ac []),⟨l6_m4+1,l6_m3.set l6_m4 x11,rfl,rfl⟩,hn6⟩
  have q9_:=of_decide_eq_false q9;refine Af q9 ?_;refine Av (te_ (te_ (be_ (tn_ ?_))));obtain rfl:=zj h;have h:=hn6
  (try dsimp only at h);obtain rfl:=zj h;exact ⟨_,Ac [],rfl⟩
 rintro l4_m3 _ rfl h
 (try dsimp only at h);refine Al ?_;refine Aj ?_;obtain rfl:=zj h;exact Bk [.own (oi 0 1) .int 0 l4_m3.length] (At rfl (Er (by kernel_rfl) rfl) A5)
def Mo:AC :=
 (.seq (.seq (rg [xo 11 (qm (tm 5)),xo 12 (qm (tm 0)),xo 13 (.i (.len (tm 12))),xo 14 (qb .lss (tm 11) (tm 13))])
 (.cond (tm 14)
  .skip
  (.exit 0)))
 (.seq (.block 1 (.seq (.region [xo 17 (qm (tm 0)),xo 18 (qm (tm 5)),xo 19 (qx 1 (tm 17) (tm 18)),xo 20 (ql (tm 19)),xo 21 (qm (tm 1)),xo 22 (qm (tm 5)),xo 23 (qx 1 (tm 21) (tm 22)),xo 24 (ql (tm 23)),xo 25 (qb .neq (tm 20) (tm 24))] true [])
 (.cond (tm 25)
  (.seq (rg [xo 4 (qm (cb false))])
  .ret)
  .skip)))
 (rg [xo 15 (qm (tm 5)),xo 16 (qb .add (tm 15) (ci 1)),xo 5 (qm (tm 16))])))
def Qq:AC :=
 (.seq (rg [xo 4 (qm (cb false))])
 (.seq (.seq (rg [xo 6 (qm (tm 0)),xo 7 (.i (.len (tm 6))),xo 8 (qm (tm 1)),xo 9 (.i (.len (tm 8))),xo 10 (qb .neq (tm 7) (tm 9))])
 (.cond (tm 10)
  (.seq (rg [xo 4 (qm (cb false))])
  .ret)
  .skip))
 (.seq (.seq (rg [xo 5 (qm (ci 0))])
 (.block 0 (.loop Mo)))
 (.seq (rg [xo 4 (qm (cb true))])
 .ret))))
def Aao:List Res:=[.tmp 4]
theorem Abf:Ar Tryd.prog Tryd.f21=some (Qq,Aao):=by kernel_rfl
def Eu (a0:List Int) (a1:List Int) (l8_m5:Nat):Option (Ctl Nat (Ctl Unit Bool)) :=
 cond (decide (((l8_m5:Nat):Int)<((a0.length:Nat):Int)))
 (Option.bind (a0[l8_m5]?) fun x14 =>
 Option.bind (a1[l8_m5]?) fun x15 =>
 cond (x14 !=x15)
  (some (Ctl.out (Ctl.out false)))
  (og (l8_m5+1<4611686018427387904) <|
  some (Ctl.next (l8_m5+1))))
 (some (Ctl.out (Ctl.next ())))
def Gz (a0:List Int) (a1:List Int):Option Bool :=
 cond (((a0.length:Nat):Int) !=((a1.length:Nat):Int))
 (some false)
 (Ix (Ay (fun s_:Nat=>Eu a0 a1 s_) 4611686018427387904 0) fun _ =>
 some true)
def Y4 (r:Bool):RV:=⟨false,[(false,[.sc (.bool r)])]⟩
theorem Zo {a0:List Int} {a1:List Int} {r:Bool} (h:Gz a0 a1=some r):A4 Tryd.prog Tab 21 [.tree .int a0,.tree .int a1] (Y4 r):=by
 refine A0 (by kernel_rfl) Tryd.func21 Abf (n:=26) (by kernel_rfl) (by simp) (tl:=[(0,.tree .int a0),(1,.tree .int a1)]) rfl ?_;unfold Qq;unfold Gz at h;refine Al ?_;refine Ab ?_;refine Al ?_;rcases Ad h with ⟨q4,h⟩ | ⟨q4,h⟩
 ·refine Ag q4 ?_;refine Al ?_;refine Aj (tr_ ?_);obtain rfl:=zj h;exact Bk [.bool false] (At rfl zl A5)
 refine Af q4 ?_;refine Ai (tn_ ?_);refine wr_ ?_;refine C0 h (fun (_:Unit) S_=>S_=⟨Am [],Ak (An []),2⟩) ?_ ?_
 ·intro v_ h hk6;refine Al ?_;refine Ah ?_;refine Ax h (fun (l8_m5:Nat) S_=>S_=⟨Am [(0,.tree .int a0),(1,.tree .int a1),(5,ai ((l8_m5:Nat):Int))],Ak (An []),2⟩) ⟨_,Ac [],rfl⟩ ?_;rintro n_ l8_m5 _ c_ rfl h hn8
  (try dsimp only at h);unfold Eu at h;unfold Mo;refine Ab ?_;refine Al ?_;rcases Ad h with ⟨q11,h⟩ | ⟨q11,h⟩
  ·have q11_:=of_decide_eq_true q11;refine Ag q11 ?_;refine Ai (tn_ ?_);refine wr_ ?_;refine Ab ?_;refine Ah ?_;refine Ab ?_;obtain ⟨x14,e14,h⟩:=Ae h;obtain ⟨x15,e15,h⟩:=Ae h;refine A1 15 ?_;refine dz0 (.tree .int a0) ?_;refine dz0 (ai ((l8_m5:Nat):Int)) ?_;refine ds0 (.telt .int x14 0) (zi (t:=.int) (xs:=a0) (k:=.i64) (m:=((l8_m5:Nat):Int)) (Ba _) e14) ?_;refine dz0 (ai x14) ?_;refine dz0 (.tree .int a1) ?_;refine dz0 (ai ((l8_m5:Nat):Int)) ?_;refine ds0 (.telt .int x15 0) (zi (t:=.int) (xs:=a1) (k:=.i64) (m:=((l8_m5:Nat):Int)) (Ba _) e15) ?_;refine dz0 (ai x15) ?_;refine dz0 (.bool (x14 !=x15)) ?_;refine Gj (Bi (by kernel_rfl)) (tn_ ?_);refine wr_ ?_;rcases Ad h with ⟨q16,h⟩ | ⟨q16,h⟩
   ·refine Ag q16 ?_;refine Al ?_;refine Aj (br_ (tr_ (tr_ (br_ (tr_ ?_)))));obtain rfl:=zj h;have h:=hn8
    (try dsimp only at h);obtain rfl:=zj h;have h:=hk6
    (try dsimp only at h);obtain rfl:=zj h;exact Bk [.bool false] (At rfl zl A5)
   refine Af q16 ?_;refine Ai (bn_ (tn_ ?_));refine wr_ ?_;obtain ⟨g18,h⟩:=Aq h;refine Aa 18 ?_;refine rz0 (ai ((l8_m5:Nat):Int)) ?_;refine rs0 (ai ((l8_m5+1:Nat):Int)) (za g18) ?_;refine rsB 1 ?_;refine Ao (tn_ ?_);obtain rfl:=zj h;exact ⟨l8_m5+1,_,Ac [],rfl,hn8⟩
  have q11_:=of_decide_eq_false q11;refine Af q11 ?_;refine Av (te_ (te_ (be_ (tn_ ?_))));obtain rfl:=zj h;have h:=hn8
  (try dsimp only at h);obtain rfl:=zj h;exact ⟨(),_,rfl,Ac [],rfl⟩
 rintro _ _ rfl h
 (try dsimp only at h);refine Al ?_;refine Aj ?_;obtain rfl:=zj h;exact Bk [.bool true] (At rfl zl A5)
def Uz:AC :=
 (.seq (rg [xo 6 (qm (cb false))])
 (.seq (rg [xo 7 (qm (tm 0)),xo 8 (qm (tm 1)),xo 9 (qb .geq (tm 7) (tm 8)),xo 10 (qm (tm 9)),⟨some 11,some (10,true),qm (tm 0)⟩,⟨some 12,some (10,true),qm (tm 2)⟩,⟨some 13,some (10,true),qb .leq (tm 11) (tm 12)⟩,xo 14 (.i (.pick (tm 10) (tm 13) (cb false))),xo 6 (qm (tm 14))])
 .ret))
def Aex:List Res:=[.tmp 6]
theorem Afm:Ar Tryd.prog Tryd.f53=some (Uz,Aex):=by kernel_rfl
theorem Bf:A6 Tryd.prog 53=true:=by kernel_rfl
def Ch (a0:Int) (a1:Int) (a2:Int):Option Bool :=
 Option.bind (cond (decide (a1<=a0))
  (some (decide (a0<=a2)))
  (some false)) fun l2_m6 =>
some l2_m6
def Acq (r:Bool):RV:=⟨false,[(false,[.sc (.bool r)])]⟩
theorem A8 {a0:Int} {a1:Int} {a2:Int} {r:Bool} (h:Ch a0 a1 a2=some r):A4 Tryd.prog Tab 53 [ai a0,ai a1,ai a2] (Acq r):=by
 refine A0 (by kernel_rfl) Tryd.func53 Afm (n:=15) (by kernel_rfl) (by simp) (tl:=[(0,ai a0),(1,ai a1),(2,ai a2)]) rfl ?_;unfold Uz;unfold Ch at h;refine Al ?_;refine As h (fun (l2_m6:Bool) S_=>S_=⟨Am [(6,.bool l2_m6)],Ak (An []),2⟩) ?_ ?_
 ·intro v_ h;rcases Ad h with ⟨q3,h⟩ | ⟨q3,h⟩
  ·have q3_:=of_decide_eq_true q3;refine Aa 11 ?_;refine rz0 (ai a0) ?_;refine rz0 (ai a1) ?_;refine rz0 (.bool (decide (a1<=a0))) ?_;refine rz0 (.bool (decide (a1<=a0))) ?_;refine rs0 (ai a0) (zg q3) ?_;refine rs0 (ai a2) (zg q3) ?_;refine rs0 (.bool (decide (a0<=a2))) (zg q3) ?_;refine rs0 (.bool (decide (a0<=a2))) (zT q3) ?_;refine rsB 1 ?_;refine Ao (tn_ ?_);obtain rfl:=zj h;exact ⟨_,Ac [],rfl⟩
  have q3_:=of_decide_eq_false q3;refine Aa 11 ?_;refine rz0 (ai a0) ?_;refine rz0 (ai a1) ?_;refine rz0 (.bool (decide (a1<=a0))) ?_;refine rz0 (.bool (decide (a1<=a0))) ?_;refine zs q3 ?_;refine zs q3 ?_;refine zs q3 ?_;refine rs0 (.bool false) (zF q3) ?_;refine rsB 1 ?_;refine Ao (tn_ ?_);obtain rfl:=zj h;exact ⟨_,Ac [],rfl⟩
 rintro l2_m6 _ rfl h
 (try dsimp only at h);refine Aj ?_;obtain rfl:=zj h;exact Bk [.bool l2_m6] (At rfl zl A5)
def Mg:AC :=
 (.seq (.seq (rg [xo 7 (qm (tm 3)),xo 8 (qm (tm 3)),xo 9 (qb .mul (tm 7) (tm 8)),xo 10 (qm (tm 0)),xo 11 (qb .leq (tm 9) (tm 10))])
 (.cond (tm 11)
  .skip
  (.exit 0)))
 (.seq (.block 1 (.seq (rg [xo 14 (qm (tm 0)),xo 15 (qm (tm 3)),xo 16 (qb .rem (tm 14) (tm 15)),xo 17 (qb .eql (tm 16) (ci 0))])
 (.cond (tm 17)
  (.seq (rg [xo 2 (qm (cb false))])
  .ret)
  .skip)))
 (rg [xo 12 (qm (tm 3)),xo 13 (qb .add (tm 12) (ci 1)),xo 3 (qm (tm 13))])))
def Qy:AC :=
 (.seq (rg [xo 2 (qm (cb false))])
 (.seq (.seq (rg [xo 4 (qm (tm 0)),xo 5 (qc 53 [tm 4,ci 2,ci 97] [[],[],[]]),xo 6 (.i (.not (tm 5)))])
 (.cond (tm 6)
  (.seq (rg [xo 2 (qm (cb false))])
  .ret)
  .skip))
 (.seq (.seq (rg [xo 3 (qm (ci 2))])
 (.block 0 (.loop Mg)))
 (.seq (rg [xo 2 (qm (cb true))])
 .ret))))
def Aac:List Res:=[.tmp 2]
theorem Aan:Ar Tryd.prog Tryd.f52=some (Qy,Aac):=by kernel_rfl
def Ex (a0:Int) (l9_m3:Nat):Option (Ctl Nat (Ctl Unit Bool)) :=
 cond (decide (wI (((l9_m3:Nat):Int)*((l9_m3:Nat):Int))<=a0))
 (og (((l9_m3:Nat):Int)≠0) <|
 cond ((Int.tmod a0 ((l9_m3:Nat):Int))==0)
  (some (Ctl.out (Ctl.out false)))
  (og (l9_m3+1<4611686018427387904) <|
  some (Ctl.next (l9_m3+1))))
 (some (Ctl.out (Ctl.next ())))
def Fs (a0:Int):Option Bool :=
 Option.bind (Ch a0 2 97) fun y4 =>
cond (!y4)
 (some false)
 (Ix (Ay (fun s_:Nat=>Ex a0 s_) 4611686018427387904 2) fun _ =>
 some true)
def Zn (r:Bool):RV:=⟨false,[(false,[.sc (.bool r)])]⟩
theorem Bt {a0:Int} {r:Bool} (h:Fs a0=some r):A4 Tryd.prog Tab 52 [ai a0] (Zn r):=by
 refine A0 (by kernel_rfl) Tryd.func52 Aan (n:=18) (by kernel_rfl) (by simp) (tl:=[(0,ai a0)]) rfl ?_;unfold Qy;unfold Fs at h;refine Al ?_;refine Ab ?_;refine Ab ?_;obtain ⟨y4,h4,h⟩:=Ae h;refine Aa 5 ?_;refine rz0 (ai a0) ?_;refine zc (.bool y4) [] [ai a0,ai 2,ai 97] (A8 h4) ?_;refine rsB 1 ?_;refine Ao (tn_ ?_);refine wr_ ?_;rcases Ad h with ⟨q5,h⟩ | ⟨q5,h⟩
 ·refine Ag q5 ?_;refine Al ?_;refine Aj (tr_ ?_);obtain rfl:=zj h;exact Bk [.bool false] (At rfl zl A5)
 refine Af q5 ?_;refine Ai (tn_ ?_);refine wr_ ?_;refine C0 h (fun (_:Unit) S_=>S_=⟨Am [],Ak (An []),2⟩) ?_ ?_
 ·intro v_ h hk7;refine Al ?_;refine Ah ?_;refine Ax h (fun (l9_m3:Nat) S_=>S_=⟨Am [(0,ai a0),(3,ai ((l9_m3:Nat):Int))],Ak (An []),2⟩) ⟨_,Ac [],rfl⟩ ?_;rintro n_ l9_m3 _ c_ rfl h hn9
  (try dsimp only at h);unfold Ex at h;unfold Mg;refine Ab ?_;refine Al ?_;rcases Ad h with ⟨q12,h⟩ | ⟨q12,h⟩
  ·have q12_:=of_decide_eq_true q12;refine Ag q12 ?_;refine Ai (tn_ ?_);refine wr_ ?_;refine Ab ?_;refine Ah ?_;refine Ab ?_;obtain ⟨g15,h⟩:=Aq h;refine Aa 11 ?_;refine rz0 (ai a0) ?_;refine rz0 (ai ((l9_m3:Nat):Int)) ?_;refine rs0 (ai (Int.tmod a0 ((l9_m3:Nat):Int))) (Aem (k:=.i64) (a:=a0) (b:=((l9_m3:Nat):Int)) (by kernel_rfl) (by kernel_rfl) g15) ?_;refine rsB 1 ?_;refine Ao (tn_ ?_);refine wr_ ?_;rcases Ad h with ⟨q16,h⟩ | ⟨q16,h⟩
   ·refine Ag q16 ?_;refine Al ?_;refine Aj (br_ (tr_ (tr_ (br_ (tr_ ?_)))));obtain rfl:=zj h;have h:=hn9
    (try dsimp only at h);obtain rfl:=zj h;have h:=hk7
    (try dsimp only at h);obtain rfl:=zj h;exact Bk [.bool false] (At rfl zl A5)
   refine Af q16 ?_;refine Ai (bn_ (tn_ ?_));refine wr_ ?_;obtain ⟨g18,h⟩:=Aq h;refine Aa 14 ?_;refine rz0 (ai ((l9_m3:Nat):Int)) ?_;refine rs0 (ai ((l9_m3+1:Nat):Int)) (za g18) ?_;refine rsB 1 ?_;refine Ao (tn_ ?_);obtain rfl:=zj h;exact ⟨l9_m3+1,_,Ac [],rfl,hn9⟩
  have q12_:=of_decide_eq_false q12;refine Af q12 ?_;refine Av (te_ (te_ (be_ (tn_ ?_))));obtain rfl:=zj h;have h:=hn9
  (try dsimp only at h);obtain rfl:=zj h;exact ⟨(),_,rfl,Ac [],rfl⟩
 rintro _ _ rfl h
 (try dsimp only at h);refine Al ?_;refine Aj ?_;obtain rfl:=zj h;exact Bk [.bool true] (At rfl zl A5)
def Nz:AC :=
 (.seq (rg [xo 12 (qb .lss (tm 11) (tm 10))])
 (.seq (.cond (tm 12)
  .skip
  (.exit 0))
 (.seq (.block 1 (.seq (rg [xo 13 (qx 1 (tm 9) (tm 11)),xo 14 (ql (tm 13)),xo 8 (qm (tm 14))])
 (.seq (rg [xo 15 (qm (tm 8)),xo 16 (qm (tm 1)),xo 17 (qm (tm 2)),xo 18 (qc 53 [tm 15,tm 16,tm 17] [[],[],[]]),xo 19 (.i (.not (tm 18)))])
 (.cond (tm 19)
  (.seq (rg [xo 6 (qm (cb false))])
  .ret)
  .skip))))
 (rg [xo 20 (qb .add (tm 11) (ci 1)),xo 11 (qm (tm 20))]))))
def R4:AC :=
 (.seq (rg [xo 6 (qm (cb false))])
 (.seq (.seq (rg [xo 9 (qm (tm 0)),xo 10 (.i (.len (tm 9))),xo 11 (qm (ci 0))])
 (.block 0 (.loop Nz)))
 (.seq (rg [xo 6 (qm (cb true))])
 .ret)))
def Ach:List Res:=[.tmp 6]
theorem Ade:Ar Tryd.prog Tryd.f54=some (R4,Ach):=by kernel_rfl
theorem I3:A6 Tryd.prog 54=true:=by kernel_rfl
def Hi (a0:List Int) (a1:Int) (a2:Int) (l4_m11:Nat):Option (Ctl Nat (Ctl Unit Bool)) :=
 cond (decide (((l4_m11:Nat):Int)<((a0.length:Nat):Int)))
 (Option.bind (a0[l4_m11]?) fun x10 =>
 Option.bind (Ch x10 a1 a2) fun y12 =>
 cond (!y12)
  (some (Ctl.out (Ctl.out false)))
  (og (l4_m11+1<4611686018427387904) <|
  some (Ctl.next (l4_m11+1))))
 (some (Ctl.out (Ctl.next ())))
def Fi (a0:List Int) (a1:Int) (a2:Int):Option Bool :=
 Ix (Ay (fun s_:Nat=>Hi a0 a1 a2 s_) 4611686018427387904 0) fun _ =>
some true
def Aa1 (r:Bool):RV:=⟨false,[(false,[.sc (.bool r)])]⟩
theorem Ha {a0:List Int} {a1:Int} {a2:Int} {r:Bool} (h:Fi a0 a1 a2=some r):A4 Tryd.prog Tab 54 [.tree .int a0,ai a1,ai a2] (Aa1 r):=by
 refine A0 (by kernel_rfl) Tryd.func54 Ade (n:=21) (by kernel_rfl) (by simp) (tl:=[(0,.tree .int a0),(1,ai a1),(2,ai a2)]) rfl ?_;unfold R4;unfold Fi at h;refine Al ?_;refine C0 h (fun (_:Unit) S_=>S_=⟨Am [],Ak (An []),2⟩) ?_ ?_
 ·intro v_ h hk2;refine Al ?_;refine Ah ?_;refine Ax h (fun (l4_m11:Nat) S_=>S_=⟨Am [(1,ai a1),(2,ai a2),(9,.tree .int a0),(10,ai ((a0.length:Nat):Int)),(11,ai ((l4_m11:Nat):Int))],Ak (An []),2⟩) ⟨_,Ac [],rfl⟩ ?_;rintro n_ l4_m11 _ c_ rfl h hn4
  (try dsimp only at h);unfold Hi at h;unfold Nz;refine Al ?_;refine Ab ?_;rcases Ad h with ⟨q7,h⟩ | ⟨q7,h⟩
  ·have q7_:=of_decide_eq_true q7;refine Ag q7 ?_;refine Ai (tn_ ?_);refine wr_ ?_;refine Ab ?_;refine Ah ?_;refine Ab ?_;obtain ⟨x10,e10,h⟩:=Ae h;refine Aa 6 ?_;refine rs0 (.telt .int x10 0) (zi (t:=.int) (xs:=a0) (k:=.i64) (m:=((l4_m11:Nat):Int)) (Ba _) e10) ?_;refine rsB 2 ?_;refine Ao (tn_ ?_);refine wr_ ?_;refine Ab ?_;obtain ⟨y12,h12,h⟩:=Ae h;refine Aa 11 ?_;refine rz0 (ai x10) ?_;refine rz0 (ai a1) ?_;refine rz0 (ai a2) ?_;refine zc (.bool y12) [] [ai x10,ai a1,ai a2] (A8 h12) ?_;refine rsB 1 ?_;refine Ao (tn_ ?_);refine wr_ ?_;rcases Ad h with ⟨q13,h⟩ | ⟨q13,h⟩
   ·refine Ag q13 ?_;refine Al ?_;refine Aj (br_ (tr_ (tr_ (br_ (tr_ ?_)))));obtain rfl:=zj h;have h:=hn4
    (try dsimp only at h);obtain rfl:=zj h;have h:=hk2
    (try dsimp only at h);obtain rfl:=zj h;exact Bk [.bool false] (At rfl zl A5)
   refine Af q13 ?_;refine Ai (bn_ (tn_ ?_));refine wr_ ?_;obtain ⟨g15,h⟩:=Aq h;refine Aa 13 ?_;refine rs0 (ai ((l4_m11+1:Nat):Int)) (za g15) ?_;refine rsB 1 ?_;refine Ao (tn_ ?_);obtain rfl:=zj h;exact ⟨l4_m11+1,_,Ac [],rfl,hn4⟩
  have q7_:=of_decide_eq_false q7;refine Af q7 ?_;refine Av (te_ (te_ (be_ (tn_ ?_))));obtain rfl:=zj h;have h:=hn4
  (try dsimp only at h);obtain rfl:=zj h;exact ⟨(),_,rfl,Ac [],rfl⟩
 rintro _ _ rfl h
 (try dsimp only at h);refine Al ?_;refine Aj ?_;obtain rfl:=zj h;exact Bk [.bool true] (At rfl zl A5)
def Sb:AC :=
 (.seq (rg [xo 2 (qm (.cst .nils))])
 (.seq (rg [xo 3 (.mkS 3 .int []),xo 4 (qm (tm 0)),xo 5 (.append 3 .int 8 (tm 3) (tm 4)),xo 2 (qm (tm 5))])
 .ret))
def Adq:List Res:=[.tmp 2]
theorem Ac4:Ar Tryd.prog Tryd.f41=some (Sb,Adq):=by kernel_rfl
theorem G6:A6 Tryd.prog 41=true:=by kernel_rfl
def Dn (a0:List Int):Option (List Int) :=
 og (0+a0.length<=1073741824∧(0+a0.length)*8<=140737488355328) <|
some a0
def Z0 (r:List Int):RV:=⟨false,[(false,[.new 3 .int r])]⟩
theorem Gq {a0:List Int} {r:List Int} (h:Dn a0=some r):A4 Tryd.prog Tab 41 [.tree .int a0] (Z0 r):=by
 refine A0 (by kernel_rfl) Tryd.func41 Ac4 (n:=6) (by kernel_rfl) (by simp) (tl:=[(0,.tree .int a0)]) rfl ?_;unfold Sb;unfold Dn at h;refine Al ?_;refine Ab ?_;obtain ⟨g3,h⟩:=Aq h;refine Aa 6 ?_;refine rs1 (.own (oi 3 2) .int 0 0) (oi 3 2) (.arr 3 .int []) (by kernel_rfl) ?_;refine rz0 (.tree .int a0) ?_;refine rs2 (.own (oi 3 4) .int 0 a0.length) (oi 3 2) (oi 3 4) (.arr 3 .int a0) (L0 (t:=.int) (t':=.int) (xs:=[]) (ys:=a0) (zs:=a0) (j:=oi 3 2) (len:=0) (c:=.tree .int a0) (by kernel_rfl) (by kernel_rfl) rfl (by kernel_rfl) Ahq rfl g3) ?_;refine rsB 1 ?_;refine Ao (tn_ ?_);refine wr_ ?_;refine Aj ?_;obtain rfl:=zj h;exact Bk [.own (oi 3 4) .int 0 a0.length] (At rfl (Er (by kernel_rfl) rfl) A5)
def Uu:AC :=
 (.seq (rg [xo 4 (qm (cb false))])
 (.seq (rg [xo 5 (qm (tm 1)),xo 6 (qm (tm 0)),xo 7 (qb .sub (tm 6) (ci 1)),xo 8 (qc 54 [tm 5,ci 0,tm 7] [[some .int],[],[]]),xo 4 (qm (tm 8))])
 .ret))
def Afv:List Res:=[.tmp 4]
theorem Aeo:Ar Tryd.prog Tryd.f84=some (Uu,Afv):=by kernel_rfl
theorem Ac5:A6 Tryd.prog 84=true:=by kernel_rfl
def Ji (a0:Int) (a1:List Int):Option Bool :=
 Option.bind (Fi a1 0 (wI (a0 - 1))) fun y3 =>
some y3
def Acx (r:Bool):RV:=⟨false,[(false,[.sc (.bool r)])]⟩
theorem Ac8 {a0:Int} {a1:List Int} {r:Bool} (h:Ji a0 a1=some r):A4 Tryd.prog Tab 84 [ai a0,.tree .int a1] (Acx r):=by
 refine A0 (by kernel_rfl) Tryd.func84 Aeo (n:=9) (by kernel_rfl) (by simp) (tl:=[(0,ai a0),(1,.tree .int a1)]) rfl ?_;unfold Uu;unfold Ji at h;refine Al ?_;refine Ab ?_;obtain ⟨y3,h3,h⟩:=Ae h;refine Aa 7 ?_;refine rz0 (.tree .int a1) ?_;refine rz0 (ai a0) ?_;refine rz0 (ai (wI (a0 - 1))) ?_;refine zc (.bool y3) [] [.tree .int a1,ai 0,ai (wI (a0 - 1))] (Ha h3) ?_;refine rsB 1 ?_;refine Ao (tn_ ?_);refine wr_ ?_;refine Aj ?_;obtain rfl:=zj h;exact Bk [.bool y3] (At rfl zl A5)
def Sf:AC :=
 (.seq (rg [xo 6 (qm (ci 0))])
 (.seq (rg [xo 7 (qm (tm 1)),xo 8 (qm (tm 2)),xo 9 (qb .add (tm 7) (tm 8)),xo 10 (qm (tm 0)),xo 11 (qb .rem (tm 9) (tm 10)),xo 6 (qm (tm 11))])
 .ret))
def Adb:List Res:=[.tmp 6]
theorem Adk:Ar Tryd.prog Tryd.f72=some (Sf,Adb):=by kernel_rfl
theorem Aa4:A6 Tryd.prog 72=true:=by kernel_rfl
def H6 (a0:Int) (a1:Int) (a2:Int):Option Int :=
 og (a0≠0) <|
some (Int.tmod (wI (a1+a2)) a0)
def Aaf (r:Int):RV:=⟨false,[(false,[.sc (.int .i64 r)])]⟩
theorem Aa0 {a0:Int} {a1:Int} {a2:Int} {r:Int} (h:H6 a0 a1 a2=some r):A4 Tryd.prog Tab 72 [ai a0,ai a1,ai a2] (Aaf r):=by
 refine A0 (by kernel_rfl) Tryd.func72 Adk (n:=12) (by kernel_rfl) (by simp) (tl:=[(0,ai a0),(1,ai a1),(2,ai a2)]) rfl ?_;unfold Sf;unfold H6 at h;refine Al ?_;refine Ab ?_;obtain ⟨g3,h⟩:=Aq h;refine Aa 8 ?_;refine rz0 (ai a1) ?_;refine rz0 (ai a2) ?_;refine rz0 (ai (wI (a1+a2))) ?_;refine rz0 (ai a0) ?_;refine rs0 (ai (Int.tmod (wI (a1+a2)) a0)) (Aem (k:=.i64) (a:=wI (a1+a2)) (b:=a0) (by kernel_rfl) (by kernel_rfl) g3) ?_;refine rsB 1 ?_;refine Ao (tn_ ?_);refine wr_ ?_;refine Aj ?_;obtain rfl:=zj h;exact Bk [ai (Int.tmod (wI (a1+a2)) a0)] (At rfl zl A5)
def Sj:AC :=
 (.seq (rg [xo 6 (qm (ci 0))])
 (.seq (rg [xo 7 (qm (tm 1)),xo 8 (qm (tm 2)),xo 9 (qb .mul (tm 7) (tm 8)),xo 10 (qm (tm 0)),xo 11 (qb .rem (tm 9) (tm 10)),xo 6 (qm (tm 11))])
 .ret))
def Ac0:List Res:=[.tmp 6]
theorem Acs:Ar Tryd.prog Tryd.f73=some (Sj,Ac0):=by kernel_rfl
theorem Abb:A6 Tryd.prog 73=true:=by kernel_rfl
def H4 (a0:Int) (a1:Int) (a2:Int):Option Int :=
 og (a0≠0) <|
some (Int.tmod (wI (a1*a2)) a0)
def Aba (r:Int):RV:=⟨false,[(false,[.sc (.int .i64 r)])]⟩
theorem Abd {a0:Int} {a1:Int} {a2:Int} {r:Int} (h:H4 a0 a1 a2=some r):A4 Tryd.prog Tab 73 [ai a0,ai a1,ai a2] (Aba r):=by
 refine A0 (by kernel_rfl) Tryd.func73 Acs (n:=12) (by kernel_rfl) (by simp) (tl:=[(0,ai a0),(1,ai a1),(2,ai a2)]) rfl ?_;unfold Sj;unfold H4 at h;refine Al ?_;refine Ab ?_;obtain ⟨g3,h⟩:=Aq h;refine Aa 8 ?_;refine rz0 (ai a1) ?_;refine rz0 (ai a2) ?_;refine rz0 (ai (wI (a1*a2))) ?_;refine rz0 (ai a0) ?_;refine rs0 (ai (Int.tmod (wI (a1*a2)) a0)) (Aem (k:=.i64) (a:=wI (a1*a2)) (b:=a0) (by kernel_rfl) (by kernel_rfl) g3) ?_;refine rsB 1 ?_;refine Ao (tn_ ?_);refine wr_ ?_;refine Aj ?_;obtain rfl:=zj h;exact Bk [ai (Int.tmod (wI (a1*a2)) a0)] (At rfl zl A5)
def Q6:AC :=
 (.seq (rg [xo 6 (qm (cb false))])
 (.seq (rg [xo 7 (qm (tm 0)),xo 8 (qm (tm 1)),xo 9 (qb .geq (tm 7) (tm 8)),xo 10 (qm (tm 9)),⟨some 11,some (10,true),qm (tm 0)⟩,⟨some 12,some (10,true),qm (tm 2)⟩,⟨some 13,some (10,true),qb .leq (tm 11) (tm 12)⟩,xo 14 (.i (.pick (tm 10) (tm 13) (cb false))),xo 6 (qm (tm 14))])
 .ret))
def Aaa:List Res:=[.tmp 6]
theorem Aak:Ar Tryd.prog Tryd.f62=some (Q6,Aaa):=by kernel_rfl
theorem Dc:A6 Tryd.prog 62=true:=by kernel_rfl
def Dp (a0:Int) (a1:Int) (a2:Int):Option Bool :=
 Option.bind (cond (decide (a1<=a0))
  (some (decide (a0<=a2)))
  (some false)) fun l2_m6 =>
some l2_m6
def Wv (r:Bool):RV:=⟨false,[(false,[.sc (.bool r)])]⟩
theorem Cm {a0:Int} {a1:Int} {a2:Int} {r:Bool} (h:Dp a0 a1 a2=some r):A4 Tryd.prog Tab 62 [ai a0,ai a1,ai a2] (Wv r):=by
 refine A0 (by kernel_rfl) Tryd.func62 Aak (n:=15) (by kernel_rfl) (by simp) (tl:=[(0,ai a0),(1,ai a1),(2,ai a2)]) rfl ?_;unfold Q6;unfold Dp at h;refine Al ?_;refine As h (fun (l2_m6:Bool) S_=>S_=⟨Am [(6,.bool l2_m6)],Ak (An []),2⟩) ?_ ?_
 ·intro v_ h;rcases Ad h with ⟨q3,h⟩ | ⟨q3,h⟩
  ·have q3_:=of_decide_eq_true q3;refine Aa 11 ?_;refine rz0 (ai a0) ?_;refine rz0 (ai a1) ?_;refine rz0 (.bool (decide (a1<=a0))) ?_;refine rz0 (.bool (decide (a1<=a0))) ?_;refine rs0 (ai a0) (zg q3) ?_;refine rs0 (ai a2) (zg q3) ?_;refine rs0 (.bool (decide (a0<=a2))) (zg q3) ?_;refine rs0 (.bool (decide (a0<=a2))) (zT q3) ?_;refine rsB 1 ?_;refine Ao (tn_ ?_);obtain rfl:=zj h;exact ⟨_,Ac [],rfl⟩
  have q3_:=of_decide_eq_false q3;refine Aa 11 ?_;refine rz0 (ai a0) ?_;refine rz0 (ai a1) ?_;refine rz0 (.bool (decide (a1<=a0))) ?_;refine rz0 (.bool (decide (a1<=a0))) ?_;refine zs q3 ?_;refine zs q3 ?_;refine zs q3 ?_;refine rs0 (.bool false) (zF q3) ?_;refine rsB 1 ?_;refine Ao (tn_ ?_);obtain rfl:=zj h;exact ⟨_,Ac [],rfl⟩
 rintro l2_m6 _ rfl h
 (try dsimp only at h);refine Aj ?_;obtain rfl:=zj h;exact Bk [.bool l2_m6] (At rfl zl A5)
def Kw:AC :=
 (.seq (rg [xo 10 (qb .lss (tm 9) (tm 8))])
 (.seq (.cond (tm 10)
  .skip
  (.exit 0))
 (.seq (.block 1 (.seq (rg [xo 11 (qx 1 (tm 7) (tm 9)),xo 12 (ql (tm 11)),xo 6 (qm (tm 12))])
 (.seq (rg [xo 13 (qm (tm 6)),xo 14 (qm (tm 1)),xo 15 (qb .sub (tm 14) (ci 1)),xo 16 (qc 62 [tm 13,ci 0,tm 15] [[],[],[]]),xo 17 (.i (.not (tm 16)))])
 (.cond (tm 17)
  (.seq (rg [xo 4 (qm (cb false))])
  .ret)
  .skip))))
 (rg [xo 18 (qb .add (tm 9) (ci 1)),xo 9 (qm (tm 18))]))))
def N4:AC :=
 (.seq (rg [xo 4 (qm (cb false))])
 (.seq (.seq (rg [xo 7 (qm (tm 0)),xo 8 (.i (.len (tm 7))),xo 9 (qm (ci 0))])
 (.block 0 (.loop Kw)))
 (.seq (rg [xo 4 (qm (cb true))])
 .ret)))
def Vn:List Res:=[.tmp 4]
theorem Vs:Ar Tryd.prog Tryd.f63=some (N4,Vn):=by kernel_rfl
theorem Ml:A6 Tryd.prog 63=true:=by kernel_rfl
def Fc (a0:List Int) (a1:Int) (l4_m9:Nat):Option (Ctl Nat (Ctl Unit Bool)) :=
 cond (decide (((l4_m9:Nat):Int)<((a0.length:Nat):Int)))
 (Option.bind (a0[l4_m9]?) fun x10 =>
 Option.bind (Dp x10 0 (wI (a1 - 1))) fun y12 =>
 cond (!y12)
  (some (Ctl.out (Ctl.out false)))
  (og (l4_m9+1<4611686018427387904) <|
  some (Ctl.next (l4_m9+1))))
 (some (Ctl.out (Ctl.next ())))
def D7 (a0:List Int) (a1:Int):Option Bool :=
 Ix (Ay (fun s_:Nat=>Fc a0 a1 s_) 4611686018427387904 0) fun _ =>
some true
def Tp (r:Bool):RV:=⟨false,[(false,[.sc (.bool r)])]⟩
theorem Mn {a0:List Int} {a1:Int} {r:Bool} (h:D7 a0 a1=some r):A4 Tryd.prog Tab 63 [.tree .int a0,ai a1] (Tp r):=by
 refine A0 (by kernel_rfl) Tryd.func63 Vs (n:=19) (by kernel_rfl) (by simp) (tl:=[(0,.tree .int a0),(1,ai a1)]) rfl ?_;unfold N4;unfold D7 at h;refine Al ?_;refine C0 h (fun (_:Unit) S_=>S_=⟨Am [],Ak (An []),2⟩) ?_ ?_
 ·intro v_ h hk2;refine Al ?_;refine Ah ?_;refine Ax h (fun (l4_m9:Nat) S_=>S_=⟨Am [(1,ai a1),(7,.tree .int a0),(8,ai ((a0.length:Nat):Int)),(9,ai ((l4_m9:Nat):Int))],Ak (An []),2⟩) ⟨_,Ac [],rfl⟩ ?_;rintro n_ l4_m9 _ c_ rfl h hn4
  (try dsimp only at h);unfold Fc at h;unfold Kw;refine Al ?_;refine Ab ?_;rcases Ad h with ⟨q7,h⟩ | ⟨q7,h⟩
  ·have q7_:=of_decide_eq_true q7;refine Ag q7 ?_;refine Ai (tn_ ?_);refine wr_ ?_;refine Ab ?_;refine Ah ?_;refine Ab ?_;obtain ⟨x10,e10,h⟩:=Ae h;refine Aa 6 ?_;refine rs0 (.telt .int x10 0) (zi (t:=.int) (xs:=a0) (k:=.i64) (m:=((l4_m9:Nat):Int)) (Ba _) e10) ?_;refine rsB 2 ?_;refine Ao (tn_ ?_);refine wr_ ?_;refine Ab ?_;obtain ⟨y12,h12,h⟩:=Ae h;refine Aa 11 ?_;refine rz0 (ai x10) ?_;refine rz0 (ai a1) ?_;refine rz0 (ai (wI (a1 - 1))) ?_;refine zc (.bool y12) [] [ai x10,ai 0,ai (wI (a1 - 1))] (Cm h12) ?_;refine rsB 1 ?_;refine Ao (tn_ ?_);refine wr_ ?_;rcases Ad h with ⟨q13,h⟩ | ⟨q13,h⟩
   ·refine Ag q13 ?_;refine Al ?_;refine Aj (br_ (tr_ (tr_ (br_ (tr_ ?_)))));obtain rfl:=zj h;have h:=hn4
    (try dsimp only at h);obtain rfl:=zj h;have h:=hk2
    (try dsimp only at h);obtain rfl:=zj h;exact Bk [.bool false] (At rfl zl A5)
   refine Af q13 ?_;refine Ai (bn_ (tn_ ?_));refine wr_ ?_;obtain ⟨g15,h⟩:=Aq h;refine Aa 13 ?_;refine rs0 (ai ((l4_m9+1:Nat):Int)) (za g15) ?_;refine rsB 1 ?_;refine Ao (tn_ ?_);obtain rfl:=zj h;exact ⟨l4_m9+1,_,Ac [],rfl,hn4⟩
  have q7_:=of_decide_eq_false q7;refine Af q7 ?_;refine Av (te_ (te_ (be_ (tn_ ?_))));obtain rfl:=zj h;have h:=hn4
  (try dsimp only at h);obtain rfl:=zj h;exact ⟨(),_,rfl,Ac [],rfl⟩
 rintro _ _ rfl h
 (try dsimp only at h);refine Al ?_;refine Aj ?_;obtain rfl:=zj h;exact Bk [.bool true] (At rfl zl A5)
def R8:AC :=
 (.seq (rg [xo 2 (qm (.cst .nils))])
 (.seq (rg [xo 3 (qm (tm 0)),xo 4 (.make 3 .int 8 (tm 3) (tm 3)),xo 2 (qm (tm 4))])
 .ret))
def Ado:List Res:=[.tmp 2]
theorem Ad1:Ar Tryd.prog Tryd.f47=some (R8,Ado):=by kernel_rfl
theorem Q2:A6 Tryd.prog 47=true:=by kernel_rfl
def C6 (a0:Int):Option (List Int) :=
 og (0<=a0∧a0<=a0∧a0<=1073741824∧(8:Int)*a0<=140737488355328) <|
some (List.replicate a0.toNat (0:Int))
def Abg (r:List Int):RV:=⟨false,[(false,[.new 3 .int r])]⟩
theorem Fx {a0:Int} {r:List Int} (h:C6 a0=some r):A4 Tryd.prog Tab 47 [ai a0] (Abg r):=by
 refine A0 (by kernel_rfl) Tryd.func47 Ad1 (n:=5) (by kernel_rfl) (by simp) (tl:=[(0,ai a0)]) rfl ?_;unfold R8;unfold C6 at h;refine Al ?_;refine Ab ?_;obtain ⟨g3,h⟩:=Aq h;refine Aa 5 ?_;refine rz0 (ai a0) ?_;refine rs1 (.own (oi 4 3) .int 0 a0.toNat) (oi 4 3) (.arr 3 .int (List.replicate a0.toNat (0:Int))) (Lv (t:=.int) (k:=.i64) (k':=.i64) (m:=a0) (m':=a0) (by kernel_rfl) (by kernel_rfl) g3 rfl) ?_;refine rsB 1 ?_;refine Ao (tn_ ?_);refine wr_ ?_;refine Aj ?_;obtain rfl:=zj h;exact Bk [.own (oi 4 3) .int 0 a0.toNat] (At rfl (Er (by kernel_rfl) List.length_replicate.symm) A5)
def X8:AC :=
 (.seq (rg [xo 4 (qm (ci 0))])
 (.seq (rg [xo 5 (qm (tm 1)),xo 6 (qm (tm 0)),xo 7 (qb .rem (tm 5) (tm 6)),xo 1 (qm (tm 7))])
 (.seq (.seq (rg [xo 8 (qm (tm 1)),xo 9 (qb .lss (tm 8) (ci 0))])
 (.cond (tm 9)
  (rg [xo 10 (qm (tm 1)),xo 11 (qm (tm 0)),xo 12 (qb .add (tm 10) (tm 11)),xo 1 (qm (tm 12))])
  .skip))
 (.seq (rg [xo 13 (qm (tm 1)),xo 4 (qm (tm 13))])
 .ret))))
def Agn:List Res:=[.tmp 4]
theorem Agp:Ar Tryd.prog Tryd.f66=some (X8,Agn):=by kernel_rfl
theorem Vf:A6 Tryd.prog 66=true:=by kernel_rfl
def Ho (a0:Int) (a1:Int):Option Int :=
 og (a0≠0) <|
Option.bind (cond (decide (Int.tmod a1 a0<0))
  (some (wI (Int.tmod a1 a0+a0)))
  (some (Int.tmod a1 a0))) fun l4_m1 =>
some l4_m1
def Aee (r:Int):RV:=⟨false,[(false,[.sc (.int .i64 r)])]⟩
theorem Pn {a0:Int} {a1:Int} {r:Int} (h:Ho a0 a1=some r):A4 Tryd.prog Tab 66 [ai a0,ai a1] (Aee r):=by
 refine A0 (by kernel_rfl) Tryd.func66 Agp (n:=14) (by kernel_rfl) (by simp) (tl:=[(0,ai a0),(1,ai a1)]) rfl ?_;unfold X8;unfold Ho at h;refine Al ?_;refine Ab ?_;obtain ⟨g3,h⟩:=Aq h;refine Aa 6 ?_;refine rz0 (ai a1) ?_;refine rz0 (ai a0) ?_;refine rs0 (ai (Int.tmod a1 a0)) (Aem (k:=.i64) (a:=a1) (b:=a0) (by kernel_rfl) (by kernel_rfl) g3) ?_;refine rsB 1 ?_;refine Ao (tn_ ?_);refine wr_ ?_;refine As h (fun (l4_m1:Int) S_=>S_=⟨Am [(1,ai l4_m1)],Ak (An []),2⟩) ?_ ?_
 ·intro v_ h;refine Al ?_;rcases Ad h with ⟨q6,h⟩ | ⟨q6,h⟩
  ·have q6_:=of_decide_eq_true q6;refine Ag q6 ?_;refine Aa 12 ?_;refine rsB 4 ?_;refine Ao (tn_ ?_);obtain rfl:=zj h;exact ⟨_,Ac [],rfl⟩
  have q6_:=of_decide_eq_false q6;refine Af q6 ?_;refine Ai (tn_ ?_);obtain rfl:=zj h;exact ⟨_,Ac [],rfl⟩
 rintro l4_m1 _ rfl h
 (try dsimp only at h);refine Al ?_;refine Aj ?_;obtain rfl:=zj h;exact Bk [ai l4_m1] (At rfl zl A5)
def Ms:AC :=
 (.seq (rg [xo 4 (qm (cb false))])
 (.seq (rg [xo 5 (qm (tm 1)),xo 6 (qb .geq (tm 5) (ci 0)),xo 7 (qm (tm 6)),⟨some 8,some (7,true),qm (tm 1)⟩,⟨some 9,some (7,true),qm (tm 0)⟩,⟨some 10,some (7,true),qb .lss (tm 8) (tm 9)⟩,xo 11 (.i (.pick (tm 7) (tm 10) (cb false))),xo 4 (qm (tm 11))])
 .ret))
def T9:List Res:=[.tmp 4]
theorem Up:Ar Tryd.prog Tryd.f77=some (Ms,T9):=by kernel_rfl
theorem Sh:A6 Tryd.prog 77=true:=by kernel_rfl
def E3 (a0:Int) (a1:Int):Option Bool :=
 Option.bind (cond (decide (0<=a1))
  (some (decide (a1<a0)))
  (some false)) fun l2_m4 =>
some l2_m4
def Sp (r:Bool):RV:=⟨false,[(false,[.sc (.bool r)])]⟩
theorem Ss {a0:Int} {a1:Int} {r:Bool} (h:E3 a0 a1=some r):A4 Tryd.prog Tab 77 [ai a0,ai a1] (Sp r):=by
 refine A0 (by kernel_rfl) Tryd.func77 Up (n:=12) (by kernel_rfl) (by simp) (tl:=[(0,ai a0),(1,ai a1)]) rfl ?_;unfold Ms;unfold E3 at h;refine Al ?_;refine As h (fun (l2_m4:Bool) S_=>S_=⟨Am [(4,.bool l2_m4)],Ak (An []),2⟩) ?_ ?_
 ·intro v_ h;rcases Ad h with ⟨q3,h⟩ | ⟨q3,h⟩
  ·have q3_:=of_decide_eq_true q3;refine Aa 10 ?_;refine rz0 (ai a1) ?_;refine rz0 (.bool (decide (0<=a1))) ?_;refine rz0 (.bool (decide (0<=a1))) ?_;refine rs0 (ai a1) (zg q3) ?_;refine rs0 (ai a0) (zg q3) ?_;refine rs0 (.bool (decide (a1<a0))) (zg q3) ?_;refine rs0 (.bool (decide (a1<a0))) (zT q3) ?_;refine rsB 1 ?_;refine Ao (tn_ ?_);obtain rfl:=zj h;exact ⟨_,Ac [],rfl⟩
  have q3_:=of_decide_eq_false q3;refine Aa 10 ?_;refine rz0 (ai a1) ?_;refine rz0 (.bool (decide (0<=a1))) ?_;refine rz0 (.bool (decide (0<=a1))) ?_;refine zs q3 ?_;refine zs q3 ?_;refine zs q3 ?_;refine rs0 (.bool false) (zF q3) ?_;refine rsB 1 ?_;refine Ao (tn_ ?_);obtain rfl:=zj h;exact ⟨_,Ac [],rfl⟩
 rintro l2_m4 _ rfl h
 (try dsimp only at h);refine Aj ?_;obtain rfl:=zj h;exact Bk [.bool l2_m4] (At rfl zl A5)
def Tj:AC :=
 (.seq (rg [xo 2 (qm (.cst .nils))])
 (.seq (rg [xo 3 (.mkS 3 .int []),xo 4 (qm (tm 0)),xo 5 (.append 3 .int 8 (tm 3) (tm 4)),xo 2 (qm (tm 5))])
 .ret))
def Ada:List Res:=[.tmp 2]
theorem Acu:Ar Tryd.prog Tryd.f48=some (Tj,Ada):=by kernel_rfl
theorem Aas:A6 Tryd.prog 48=true:=by kernel_rfl
def H8 (a0:List Int):Option (List Int) :=
 og (0+a0.length<=1073741824∧(0+a0.length)*8<=140737488355328) <|
some a0
def Aae (r:List Int):RV:=⟨false,[(false,[.new 3 .int r])]⟩
theorem Aad {a0:List Int} {r:List Int} (h:H8 a0=some r):A4 Tryd.prog Tab 48 [.tree .int a0] (Aae r):=by
 refine A0 (by kernel_rfl) Tryd.func48 Acu (n:=6) (by kernel_rfl) (by simp) (tl:=[(0,.tree .int a0)]) rfl ?_;unfold Tj;unfold H8 at h;refine Al ?_;refine Ab ?_;obtain ⟨g3,h⟩:=Aq h;refine Aa 6 ?_;refine rs1 (.own (oi 3 2) .int 0 0) (oi 3 2) (.arr 3 .int []) (by kernel_rfl) ?_;refine rz0 (.tree .int a0) ?_;refine rs2 (.own (oi 3 4) .int 0 a0.length) (oi 3 2) (oi 3 4) (.arr 3 .int a0) (L0 (t:=.int) (t':=.int) (xs:=[]) (ys:=a0) (zs:=a0) (j:=oi 3 2) (len:=0) (c:=.tree .int a0) (by kernel_rfl) (by kernel_rfl) rfl (by kernel_rfl) Ahq rfl g3) ?_;refine rsB 1 ?_;refine Ao (tn_ ?_);refine wr_ ?_;refine Aj ?_;obtain rfl:=zj h;exact Bk [.own (oi 3 4) .int 0 a0.length] (At rfl (Er (by kernel_rfl) rfl) A5)
def Ox:AC :=
 (.seq (rg [xo 10 (qb .lss (tm 9) (tm 8))])
 (.seq (.cond (tm 10)
  .skip
  (.exit 0))
 (.seq (.block 1 (.seq (rg [xo 11 (qm (tm 9)),xo 4 (qm (tm 11))])
 (rg [xo 12 (qm (tm 3)),xo 13 (qm (tm 4)),xo 14 (qm (tm 4)),xo 15 (qx 1 (tm 12) (tm 13)),xn (qs (tm 15) (tm 14))])))
 (rg [xo 16 (qb .add (tm 9) (ci 1)),xo 9 (qm (tm 16))]))))
def U1:AC :=
 (.seq (rg [xo 2 (qm (.cst .nils))])
 (.seq (rg [xo 5 (qm (tm 0)),xo 6 (qc 47 [tm 5] [[]]),xo 3 (qm (tm 6))])
 (.seq (.seq (rg [xo 7 (qm (tm 3)),xo 8 (.i (.len (tm 7))),xo 9 (qm (ci 0))])
 (.block 0 (.loop Ox)))
 (.seq (rg [xo 17 (qm (tm 3)),xo 2 (qm (tm 17))])
 .ret))))
def Aez:List Res:=[.tmp 2]
theorem Afi:Ar Tryd.prog Tryd.f80=some (U1,Aez):=by kernel_rfl
def Gb (y3:List Int) (l6_m9:Nat) (l6_m3:List Int):Option (Ctl (Nat×List Int) (List Int)) :=
 cond (decide (((l6_m9:Nat):Int)<((y3.length:Nat):Int)))
 (Option.bind (l6_m3[l6_m9]?) fun x12 =>
 og (l6_m9+1<4611686018427387904) <|
 some (Ctl.next (l6_m9+1,l6_m3.set l6_m9 ((l6_m9:Nat):Int))))
 (some (Ctl.out l6_m3))
def I7 (a0:Int):Option (List Int) :=
 Option.bind (C6 a0) fun y3 =>
Option.bind (Ay (fun s_:Nat×List Int=>Gb y3 s_.1 s_.2) 4611686018427387904 (0,y3)) fun l4_m3 =>
some l4_m3
def Ac2 (r:List Int):RV:=⟨false,[(false,[.new 3 .int r])]⟩
theorem Adv {a0:Int} {r:List Int} (h:I7 a0=some r):A4 Tryd.prog Tab 80 [ai a0] (Ac2 r):=by
 refine A0 (by kernel_rfl) Tryd.func80 Afi (n:=18) (by kernel_rfl) (by simp) (tl:=[(0,ai a0)]) rfl ?_;unfold U1;unfold I7 at h;refine Al ?_;refine Ab ?_;obtain ⟨y3,h3,h⟩:=Ae h;refine Aa 5 ?_;refine rz0 (ai a0) ?_;refine zc (.own (oi 96 3) .int 0 y3.length) [(oi 96 3,some (.arr 3 .int y3))] [ai a0] (Fx h3) ?_;refine rsB 1 ?_;refine Ao (tn_ ?_);refine wr_ ?_;refine As h (fun (l4_m3:List Int) S_=>S_=⟨Am [(3,.own (oi 0 1) .int 0 l4_m3.length)],Ak (An [(oi 0 1,.arr 3 .int l4_m3)]),2⟩) ?_ ?_
 ·intro v_ h;refine Al ?_;refine Ah ?_;refine Ax h (fun t_ S_=>∃ (l6_m9:Nat),∃ (l6_m3:List Int),t_=(l6_m9,l6_m3)∧S_=⟨Am [(3,.own (oi 0 1) .int 0 l6_m3.length),(8,ai ((y3.length:Nat):Int)),(9,ai ((l6_m9:Nat):Int))],Ak (An [(oi 0 1,.arr 3 .int l6_m3)]),2⟩) ⟨_,Ac [(oi 0 1,oi 96 3)],⟨0,y3,rfl,rfl⟩⟩ ?_;rintro n_ _ _ c_ ⟨l6_m9,l6_m3,rfl,rfl⟩ h hn6
  (try dsimp only at h);unfold Gb at h;unfold Ox;refine Al ?_;refine Ab ?_;rcases Ad h with ⟨q9,h⟩ | ⟨q9,h⟩
  ·have q9_:=of_decide_eq_true q9;refine Ag q9 ?_;refine Ai (tn_ ?_);refine wr_ ?_;refine Ab ?_;refine Ah ?_;refine Al ?_;obtain ⟨x12,e12,h⟩:=Ae h;refine Aa 10 ?_;refine rz0 (.own (oi 0 1) .int 0 l6_m3.length) ?_;refine rz0 (ai ((l6_m9:Nat):Int)) ?_;refine rz0 (ai ((l6_m9:Nat):Int)) ?_;refine rs0 (.elt (oi 0 1) l6_m9 0) (zo (t:=.int) (o:=oi 0 1) (len:=l6_m3.length) (k:=.i64) (m:=((l6_m9:Nat):Int)) (Ba _) (Be e12)) ?_;refine Sk (oi 0 1) (oi 0 1) (.arr 3 .int (l6_m3.set l6_m9 ((l6_m9:Nat):Int))) (Je (i:=oi 0 1) (j:=l6_m9) (k:=0) (e:=3) (t:=.int) (xs:=l6_m3) (cs:=[ai ((l6_m9:Nat):Int)]) (x1:=((l6_m9:Nat):Int)) (by kernel_rfl) (by kernel_rfl) e12 (by kernel_rfl) (by kernel_rfl)) ?_;refine Ao (bn_ (tn_ ?_));refine wr_ ?_;obtain ⟨g13,h⟩:=Aq h;refine Aa 12 ?_;refine rs0 (ai ((l6_m9+1:Nat):Int)) (za g13) ?_;refine rsB 1 ?_;refine Ao (tn_ ?_);obtain rfl:=zj h;exact ⟨(l6_m9+1,l6_m3.set l6_m9 ((l6_m9:Nat):Int)),_,(Bn 3 (.own (oi 0 1) .int 0 l6_m3.length) (.own (oi 0 1) .int 0 ((l6_m3.set l6_m9 ((l6_m9:Nat):Int)).length)) (by kernel_rfl) (congrArg (fun z_=>((.own (oi 0 1) .int 0 z_):AV)) (((rfl:l6_m3.length=l6_m3.length).trans List.length_set.symm):l6_m3.length=(l6_m3.set l6_m9 ((l6_m9:Nat):Int)).length))).trans (Ac []),⟨l6_m9+1,l6_m3.set l6_m9 ((l6_m9:Nat):Int),rfl,rfl⟩,hn6⟩
  have q9_:=of_decide_eq_false q9;refine Af q9 ?_;refine Av (te_ (te_ (be_ (tn_ ?_))));obtain rfl:=zj h;have h:=hn6
  (try dsimp only at h);obtain rfl:=zj h;exact ⟨_,Ac [],rfl⟩
 rintro l4_m3 _ rfl h
 (try dsimp only at h);refine Al ?_;refine Aj ?_;obtain rfl:=zj h;exact Bk [.own (oi 0 1) .int 0 l4_m3.length] (At rfl (Er (by kernel_rfl) rfl) A5)
def Mt:AC :=
 (.seq (rg [xo 11 (qb .lss (tm 10) (tm 9))])
 (.seq (.cond (tm 11)
  .skip
  (.exit 0))
 (.seq (.block 1 (.seq (rg [xo 12 (qx 1 (tm 8) (tm 10)),xo 13 (ql (tm 12)),xo 7 (qm (tm 13))])
 (rg [xo 14 (qm (tm 5)),xo 15 (qm (tm 1)),xo 16 (qm (tm 7)),xo 17 (qx 1 (tm 15) (tm 16)),xo 18 (ql (tm 17)),xo 19 (.mkS 3 .int [tm 18]),xo 20 (.append 3 .int 8 (tm 14) (tm 19)),xo 5 (qm (tm 20))])))
 (rg [xo 21 (qb .add (tm 10) (ci 1)),xo 10 (qm (tm 21))]))))
def Qw:AC :=
 (.seq (rg [xo 4 (qm (.cst .nils))])
 (.seq (rg [xo 5 (qm (.cst .nils))])
 (.seq (.seq (rg [xo 8 (qm (tm 0)),xo 9 (.i (.len (tm 8))),xo 10 (qm (ci 0))])
 (.block 0 (.loop Mt)))
 (.seq (rg [xo 22 (qm (tm 5)),xo 4 (qm (tm 22))])
 .ret))))
def Zv:List Res:=[.tmp 4]
theorem Zt:Ar Tryd.prog Tryd.f74=some (Qw,Zv):=by kernel_rfl
theorem X2:A6 Tryd.prog 74=true:=by kernel_rfl
def E2 (a0:List Int) (a1:List Int) (l5_m10:Nat) (l5_m5:List Int):Option (Ctl (Nat×List Int) (List Int)) :=
 cond (decide (((l5_m10:Nat):Int)<((a0.length:Nat):Int)))
 (Option.bind (a0[l5_m10]?) fun x11 =>
 Option.bind (Gv a1 x11) fun x12 =>
 og (l5_m5.length+1<=1073741824∧(l5_m5.length+1)*8<=140737488355328) <|
 og (l5_m10+1<4611686018427387904) <|
 some (Ctl.next (l5_m10+1,l5_m5++([x12]))))
 (some (Ctl.out l5_m5))
def Gr (a0:List Int) (a1:List Int):Option (List Int) :=
 Option.bind (Ay (fun s_:Nat×List Int=>E2 a0 a1 s_.1 s_.2) 4611686018427387904 (0,[])) fun l3_m5 =>
some l3_m5
def W6 (r:List Int):RV:=⟨false,[(false,[.new 3 .int r])]⟩
theorem Wy {a0:List Int} {a1:List Int} {r:List Int} (h:Gr a0 a1=some r):A4 Tryd.prog Tab 74 [.tree .int a0,.tree .int a1] (W6 r):=by
 refine A0 (by kernel_rfl) Tryd.func74 Zt (n:=23) (by kernel_rfl) (by simp) (tl:=[(0,.tree .int a0),(1,.tree .int a1)]) rfl ?_;unfold Qw;unfold Gr at h;refine Al ?_;refine Al ?_;refine As h (fun (l3_m5:List Int) S_=>S_=⟨Am [(5,.own (oi 0 1) .int 0 l3_m5.length)],Ak (An [(oi 0 1,.arr 3 .int l3_m5)]),2⟩) ?_ ?_
 ·intro v_ h;refine Al ?_;refine Ah ?_;refine Ax h (fun t_ S_=>∃ (l5_m10:Nat),∃ (l5_m5:List Int),t_=(l5_m10,l5_m5)∧S_=⟨Am [(1,.tree .int a1),(5,.own (oi 0 1) .int 0 l5_m5.length),(8,.tree .int a0),(9,ai ((a0.length:Nat):Int)),(10,ai ((l5_m10:Nat):Int))],Ak (An [(oi 0 1,.arr 3 .int l5_m5)]),2⟩) ⟨_,(P2 5 3 .int rfl (by kernel_rfl)).trans (Ac [(oi 0 1,oi 5 6)]),⟨0,[],rfl,rfl⟩⟩ ?_;rintro n_ _ _ c_ ⟨l5_m10,l5_m5,rfl,rfl⟩ h hn5
  (try dsimp only at h);unfold E2 at h;unfold Mt;refine Al ?_;refine Ab ?_;rcases Ad h with ⟨q8,h⟩ | ⟨q8,h⟩
  ·have q8_:=of_decide_eq_true q8;refine Ag q8 ?_;refine Ai (tn_ ?_);refine wr_ ?_;refine Ab ?_;refine Ah ?_;refine Ab ?_;obtain ⟨x11,e11,h⟩:=Ae h;refine Aa 6 ?_;refine rs0 (.telt .int x11 0) (zi (t:=.int) (xs:=a0) (k:=.i64) (m:=((l5_m10:Nat):Int)) (Ba _) e11) ?_;refine rsB 2 ?_;refine Ao (tn_ ?_);refine wr_ ?_;obtain ⟨x12,f12,h⟩:=Ae h;obtain ⟨p12,b12,e12⟩:=Bo f12;obtain ⟨g13,h⟩:=Aq h;refine Aa 14 ?_;refine rz0 (.own (oi 0 1) .int 0 l5_m5.length) ?_;refine rz0 (.tree .int a1) ?_;refine rz0 (ai x11) ?_;refine rs0 (.telt .int x12 0) (zi (t:=.int) (xs:=a1) (k:=.i64) (m:=x11) p12 e12) ?_;refine rz0 (ai x12) ?_;refine rs1 (.own (oi 19 11) .int 0 1) (oi 19 11) (.arr 3 .int ([x12])) (by kernel_rfl) ?_;refine rs2 (.own (oi 0 12) .int 0 ((l5_m5++([x12])).length)) (oi 0 1) (oi 0 12) (.arr 3 .int (l5_m5++([x12]))) (L0 (t:=.int) (t':=.int) (xs:=l5_m5) (ys:=[x12]) (zs:=l5_m5++([x12])) (j:=oi 0 1) (len:=l5_m5.length) (c:=.own (oi 19 11) .int 0 1) (by kernel_rfl) (by kernel_rfl) rfl (by kernel_rfl) (Py (e:=3) (by kernel_rfl) rfl) rfl g13) ?_;refine rsB 1 ?_;refine Ao (bn_ (tn_ ?_));refine wr_ ?_;obtain ⟨g14,h⟩:=Aq h;refine Aa 16 ?_;refine rs0 (ai ((l5_m10+1:Nat):Int)) (za g14) ?_;refine rsB 1 ?_;refine Ao (tn_ ?_);obtain rfl:=zj h;exact ⟨(l5_m10+1,l5_m5++([x12])),_,Ac [(oi 0 1,oi 0 12)],⟨l5_m10+1,l5_m5++([x12]),rfl,rfl⟩,hn5⟩
  have q8_:=of_decide_eq_false q8;refine Af q8 ?_;refine Av (te_ (te_ (be_ (tn_ ?_))));obtain rfl:=zj h;have h:=hn5
  (try dsimp only at h);obtain rfl:=zj h;exact ⟨_,Ac [],rfl⟩
 rintro l3_m5 _ rfl h
 (try dsimp only at h);refine Al ?_;refine Aj ?_;obtain rfl:=zj h;exact Bk [.own (oi 0 1) .int 0 l3_m5.length] (At rfl (Er (by kernel_rfl) rfl) A5)
def L9:AC :=
 (.seq (rg [xo 14 (qb .lss (tm 13) (tm 12))])
 (.seq (.cond (tm 14)
  .skip
  (.exit 0))
 (.seq (.block 1 (.seq (rg [xo 15 (qx 1 (tm 11) (tm 13)),xo 16 (ql (tm 15)),xo 7 (qm (tm 16))])
 (rg [xo 17 (qm (tm 5)),xo 18 (qm (tm 0)),xo 19 (qm (tm 7)),xo 20 (qx 1 (tm 18) (tm 19)),xo 21 (ql (tm 20)),xo 22 (.mkS 3 .int [tm 21]),xo 23 (.append 3 .int 8 (tm 17) (tm 22)),xo 5 (qm (tm 23))])))
 (rg [xo 24 (qb .add (tm 13) (ci 1)),xo 13 (qm (tm 24))]))))
def Q0:AC :=
 (.seq (rg [xo 4 (qm (.cst .nils))])
 (.seq (rg [xo 8 (qm (tm 1)),xo 9 (.i (.len (tm 8))),xo 10 (.make 3 .int 8 (ci 0) (tm 9)),xo 5 (qm (tm 10))])
 (.seq (.seq (rg [xo 11 (qm (tm 1)),xo 12 (.i (.len (tm 11))),xo 13 (qm (ci 0))])
 (.block 0 (.loop L9)))
 (.seq (rg [xo 25 (qm (tm 5)),xo 4 (qm (tm 25))])
 .ret))))
def Z7:List Res:=[.tmp 4]
theorem Z6:Ar Tryd.prog Tryd.f67=some (Q0,Z7):=by kernel_rfl
theorem Zi:A6 Tryd.prog 67=true:=by kernel_rfl
def En (a1:List Int) (a0:List Int) (l6_m13:Nat) (l6_m5:List Int):Option (Ctl (Nat×List Int) (List Int)) :=
 cond (decide (((l6_m13:Nat):Int)<((a1.length:Nat):Int)))
 (Option.bind (a1[l6_m13]?) fun x12 =>
 Option.bind (Gv a0 x12) fun x13 =>
 og (l6_m5.length+1<=1073741824∧(l6_m5.length+1)*8<=140737488355328) <|
 og (l6_m13+1<4611686018427387904) <|
 some (Ctl.next (l6_m13+1,l6_m5++([x13]))))
 (some (Ctl.out l6_m5))
def Hc (a0:List Int) (a1:List Int):Option (List Int) :=
 og (0<=(0:Int)∧(0:Int)<=((a1.length:Nat):Int)∧((a1.length:Nat):Int)<=1073741824∧(8:Int)*((a1.length:Nat):Int)<=140737488355328) <|
Option.bind (Ay (fun s_:Nat×List Int=>En a1 a0 s_.1 s_.2) 4611686018427387904 (0,List.replicate 0 (0:Int))) fun l4_m5 =>
some l4_m5
def Zh (r:List Int):RV:=⟨false,[(false,[.new 3 .int r])]⟩
theorem Xt {a0:List Int} {a1:List Int} {r:List Int} (h:Hc a0 a1=some r):A4 Tryd.prog Tab 67 [.tree .int a0,.tree .int a1] (Zh r):=by
 refine A0 (by kernel_rfl) Tryd.func67 Z6 (n:=26) (by kernel_rfl) (by simp) (tl:=[(0,.tree .int a0),(1,.tree .int a1)]) rfl ?_;unfold Q0;unfold Hc at h;refine Al ?_;refine Ab ?_;obtain ⟨g3,h⟩:=Aq h;refine Aa 6 ?_;refine rz0 (.tree .int a1) ?_;refine rz0 (ai ((a1.length:Nat):Int)) ?_;refine rs1 (.own (oi 10 4) .int 0 0) (oi 10 4) (.arr 3 .int (List.replicate 0 (0:Int))) (Lv (t:=.int) (k:=.i64) (k':=.i64) (m:=0) (m':=((a1.length:Nat):Int)) (by kernel_rfl) (by kernel_rfl) g3 rfl) ?_;refine rsB 1 ?_;refine Ao (tn_ ?_);refine wr_ ?_;refine As h (fun (l4_m5:List Int) S_=>S_=⟨Am [(5,.own (oi 0 1) .int 0 l4_m5.length)],Ak (An [(oi 0 1,.arr 3 .int l4_m5)]),2⟩) ?_ ?_
 ·intro v_ h;refine Al ?_;refine Ah ?_;refine Ax h (fun t_ S_=>∃ (l6_m13:Nat),∃ (l6_m5:List Int),t_=(l6_m13,l6_m5)∧S_=⟨Am [(0,.tree .int a0),(5,.own (oi 0 1) .int 0 l6_m5.length),(11,.tree .int a1),(12,ai ((a1.length:Nat):Int)),(13,ai ((l6_m13:Nat):Int))],Ak (An [(oi 0 1,.arr 3 .int l6_m5)]),2⟩) ⟨_,(Bn 5 (.own (oi 10 4) .int 0 0) (.own (oi 10 4) .int 0 ((List.replicate 0 (0:Int)).length)) (by kernel_rfl) (congrArg (fun z_=>((.own (oi 10 4) .int 0 z_):AV)) (List.length_replicate.symm:0=(List.replicate 0 (0:Int)).length))).trans (Ac [(oi 0 1,oi 10 4)]),⟨0,List.replicate 0 (0:Int),rfl,rfl⟩⟩ ?_;rintro n_ _ _ c_ ⟨l6_m13,l6_m5,rfl,rfl⟩ h hn6
  (try dsimp only at h);unfold En at h;unfold L9;refine Al ?_;refine Ab ?_;rcases Ad h with ⟨q9,h⟩ | ⟨q9,h⟩
  ·have q9_:=of_decide_eq_true q9;refine Ag q9 ?_;refine Ai (tn_ ?_);refine wr_ ?_;refine Ab ?_;refine Ah ?_;refine Ab ?_;obtain ⟨x12,e12,h⟩:=Ae h;refine Aa 6 ?_;refine rs0 (.telt .int x12 0) (zi (t:=.int) (xs:=a1) (k:=.i64) (m:=((l6_m13:Nat):Int)) (Ba _) e12) ?_;refine rsB 2 ?_;refine Ao (tn_ ?_);refine wr_ ?_;obtain ⟨x13,f13,h⟩:=Ae h;obtain ⟨p13,b13,e13⟩:=Bo f13;obtain ⟨g14,h⟩:=Aq h;refine Aa 14 ?_;refine rz0 (.own (oi 0 1) .int 0 l6_m5.length) ?_;refine rz0 (.tree .int a0) ?_;refine rz0 (ai x12) ?_;refine rs0 (.telt .int x13 0) (zi (t:=.int) (xs:=a0) (k:=.i64) (m:=x12) p13 e13) ?_;refine rz0 (ai x13) ?_;refine rs1 (.own (oi 22 11) .int 0 1) (oi 22 11) (.arr 3 .int ([x13])) (by kernel_rfl) ?_;refine rs2 (.own (oi 0 12) .int 0 ((l6_m5++([x13])).length)) (oi 0 1) (oi 0 12) (.arr 3 .int (l6_m5++([x13]))) (L0 (t:=.int) (t':=.int) (xs:=l6_m5) (ys:=[x13]) (zs:=l6_m5++([x13])) (j:=oi 0 1) (len:=l6_m5.length) (c:=.own (oi 22 11) .int 0 1) (by kernel_rfl) (by kernel_rfl) rfl (by kernel_rfl) (Py (e:=3) (by kernel_rfl) rfl) rfl g14) ?_;refine rsB 1 ?_;refine Ao (bn_ (tn_ ?_));refine wr_ ?_;obtain ⟨g15,h⟩:=Aq h;refine Aa 16 ?_;refine rs0 (ai ((l6_m13+1:Nat):Int)) (za g15) ?_;refine rsB 1 ?_;refine Ao (tn_ ?_);obtain rfl:=zj h;exact ⟨(l6_m13+1,l6_m5++([x13])),_,Ac [(oi 0 1,oi 0 12)],⟨l6_m13+1,l6_m5++([x13]),rfl,rfl⟩,hn6⟩
  have q9_:=of_decide_eq_false q9;refine Af q9 ?_;refine Av (te_ (te_ (be_ (tn_ ?_))));obtain rfl:=zj h;have h:=hn6
  (try dsimp only at h);obtain rfl:=zj h;exact ⟨_,Ac [],rfl⟩
 rintro l4_m5 _ rfl h
 (try dsimp only at h);refine Al ?_;refine Aj ?_;obtain rfl:=zj h;exact Bk [.own (oi 0 1) .int 0 l4_m5.length] (At rfl (Er (by kernel_rfl) rfl) A5)
end
section
open Go.RowKit Go.Deep
set_option maxRecDepth 4000
def Oy:AC :=
 (.seq (rg [xo 4 (qm (ci 0))])
 (.seq (rg [xo 5 (qm (tm 1)),xo 6 (qm (tm 0)),xo 7 (.i (.len (tm 6))),xo 8 (qb .sub (tm 5) (tm 7)),xo 1 (qm (tm 8))])
 (.seq (.seq (rg [xo 9 (qm (tm 1)),xo 10 (qb .lss (tm 9) (ci 0))])
 (.cond (tm 10)
  (.seq (rg [xo 4 (qm (ci (-1)))])
  .ret)
  .skip))
 (.seq (rg [xo 11 (qm (tm 1)),xo 4 (qm (tm 11))])
 .ret))))
def X1:List Res:=[.tmp 4]
theorem Ym:Ar Tryd.prog Tryd.f12=some (Oy,X1):=by kernel_rfl
def F7 (a0:List (Int×Int×Int×Int)) (a1:Int):Option Int :=
 cond (decide (wI (a1 - ((a0.length:Nat):Int))<0))
 (some (-1))
 (some (wI (a1 - ((a0.length:Nat):Int))))
def Vt (r:Int):RV:=⟨false,[(false,[.sc (.int .i64 r)])]⟩
theorem Vh {a0:List (Int×Int×Int×Int)} {a1:Int} {r:Int} (h:F7 a0 a1=some r):A4 Tryd.prog Tab 12 [.tree T4 a0,ai a1] (Vt r):=by
 refine A0 (by kernel_rfl) Tryd.func12 Ym (n:=12) (by kernel_rfl) (by simp) (tl:=[(0,.tree T4 a0),(1,ai a1)]) rfl ?_;unfold Oy;unfold F7 at h;refine Al ?_;refine Al ?_;refine Ab ?_;refine Al ?_;rcases Ad h with ⟨q5,h⟩ | ⟨q5,h⟩
 ·have q5_:=of_decide_eq_true q5;refine Ag q5 ?_;refine Al ?_;refine Aj (tr_ ?_);obtain rfl:=zj h;exact Bk [ai (-1)] (At rfl zl A5)
 have q5_:=of_decide_eq_false q5;refine Af q5 ?_;refine Ai (tn_ ?_);refine wr_ ?_;refine Al ?_;refine Aj ?_;obtain rfl:=zj h;exact Bk [ai (wI (a1 - ((a0.length:Nat):Int)))] (At rfl zl A5)
def Mb:AC :=
 (.seq (rg [xo 2 (.i (.box 25 (tm 0))),xo 4 (qm (ci 0))])
 (.seq (rg [xo 5 (qf 1 (tm 2)),xo 6 (ql (tm 5)),xo 7 (qm (tm 1)),⟨some 8,none,qc 12 [tm 6,tm 7] [[some T4],[]]⟩,xo 1 (qm (tm 8))])
 (.seq (.seq (rg [xo 9 (qm (tm 1)),xo 10 (qb .lss (tm 9) (ci 0))])
 (.cond (tm 10)
  (.seq (rg [xo 4 (qm (ci (-1)))])
  .ret)
  .skip))
 (.seq (rg [xo 11 (qf 2 (tm 2)),xo 12 (ql (tm 11)),xo 13 (qm (tm 1)),xo 14 (qc 13 [tm 12,tm 13] [[some .int],[]]),xo 1 (qm (tm 14))])
 (.seq (.seq (rg [xo 15 (qm (tm 1)),xo 16 (qb .lss (tm 15) (ci 0))])
 (.cond (tm 16)
  (.seq (rg [xo 4 (qm (ci (-1)))])
  .ret)
  .skip))
 (.seq (rg [xo 17 (qm (tm 1)),xo 4 (qm (tm 17))])
 .ret))))))
def Uq:List Res:=[.tmp 4]
theorem Tw:Ar Tryd.prog Tryd.f5=some (Mb,Uq):=by kernel_rfl
def Dr (a0_0:Int) (a0_1:List (Int×Int×Int×Int)) (a0_2:List Int) (a1:Int):Option Int :=
 Option.bind (F7 a0_1 a1) fun y3 =>
cond (decide (y3<0))
 (some (-1))
 (Option.bind (Gy a0_2 y3) fun y9 =>
 cond (decide (y9<0))
  (some (-1))
  (some y9))
def Sy (r:Int):RV:=⟨false,[(false,[.sc (.int .i64 r)])]⟩
theorem Ln {a0_0:Int} {a0_1:List (Int×Int×Int×Int)} {a0_2:List Int} {a1:Int} {r:Int} (h:Dr a0_0 a0_1 a0_2 a1=some r):A4 Tryd.prog Tab 5 [.agg [ai a0_0,.tree T4 a0_1,.tree .int a0_2],ai a1] (Sy r):=by
 refine A0 (by kernel_rfl) Tryd.func5 Tw (n:=18) (by kernel_rfl) (by simp) (tl:=[(0,.agg [ai a0_0,.tree T4 a0_1,.tree .int a0_2]),(1,ai a1)]) rfl ?_;unfold Mb;unfold Dr at h;refine Al ?_;refine Ab ?_;obtain ⟨y3,h3,h⟩:=Ae h;refine Aa 8 ?_;refine rz0 (.box (oi 2 1) 1) ?_;refine rzl (.tree T4 a0_1) ?_;refine rz0 (ai a1) ?_;refine zc (ai y3) [] [.tree T4 a0_1,ai a1] (Vh h3) ?_;refine rsB 1 ?_;refine Ao (tn_ ?_);refine wr_ ?_;refine Ab ?_;refine Al ?_;rcases Ad h with ⟨q6,h⟩ | ⟨q6,h⟩
 ·have q6_:=of_decide_eq_true q6;refine Ag q6 ?_;refine Al ?_;refine Aj (tr_ ?_);obtain rfl:=zj h;exact Bk [ai (-1)] (At rfl zl A5)
 have q6_:=of_decide_eq_false q6;refine Af q6 ?_;refine Ai (tn_ ?_);refine wr_ ?_;refine Ab ?_;obtain ⟨y9,h9,h⟩:=Ae h;refine Aa 15 ?_;refine rz0 (.box (oi 2 1) 2) ?_;refine rzl (.tree .int a0_2) ?_;refine rz0 (ai y3) ?_;refine zc (ai y9) [] [.tree .int a0_2,ai y3] (Wz h9) ?_;refine rsB 1 ?_;refine Ao (tn_ ?_);refine wr_ ?_;refine Ab ?_;refine Al ?_;rcases Ad h with ⟨q12,h⟩ | ⟨q12,h⟩
 ·have q12_:=of_decide_eq_true q12;refine Ag q12 ?_;refine Al ?_;refine Aj (tr_ ?_);obtain rfl:=zj h;exact Bk [ai (-1)] (At rfl zl A5)
 have q12_:=of_decide_eq_false q12;refine Af q12 ?_;refine Ai (tn_ ?_);refine wr_ ?_;refine Al ?_;refine Aj ?_;obtain rfl:=zj h;exact Bk [ai y9] (At rfl zl A5)
def Q8:AC :=
 (.seq (rg [xo 1 (.i (.box 61 (tm 0))),xo 2 (.i (.alloc 59 [.int .i64 0,.int .i64 0,.int .i64 0,.int .i64 0]))])
 (.seq (rg [xo 3 (.i (.alloc 59 [.int .i64 0,.int .i64 0,.int .i64 0,.int .i64 0]))])
 (.seq (rg [xo 4 (qf 0 (tm 1)),xo 5 (ql (tm 4)),xo 6 (qf 0 (tm 3)),xn (qs (tm 6) (tm 5))])
 (.seq (rg [xo 7 (qf 1 (tm 1)),xo 8 (ql (tm 7)),xo 9 (qf 1 (tm 3)),xn (qs (tm 9) (tm 8))])
 (.seq (rg [xo 10 (qf 2 (tm 1)),xo 11 (ql (tm 10)),xo 12 (qf 2 (tm 3)),xn (qs (tm 12) (tm 11))])
 (.seq (rg [xo 13 (qf 3 (tm 1)),xo 14 (ql (tm 13)),xo 15 (qf 3 (tm 3)),xn (qs (tm 15) (tm 14))])
 (.seq (rg [xo 16 (.i (.ld false 4 (tm 3))),xn (.st false 4 (tm 2) (tm 16))])
 .ret)))))))
def Zq:List Res:=[.cell 2 false 4]
theorem Aah:Ar Tryd.prog Tryd.f28=some (Q8,Zq):=by kernel_rfl
def I4 (a0_0:Int) (a0_1:Int) (a0_2:Int) (a0_3:Int):Option (Int×Int×Int×Int) :=
 some (a0_0,a0_1,a0_2,a0_3)
def Xj (r:Int×Int×Int×Int):RV:=⟨false,[(true,[.sc (.int .i64 r.1),.sc (.int .i64 r.2.1),.sc (.int .i64 r.2.2.1),.sc (.int .i64 r.2.2.2)])]⟩
theorem Wx {a0_0:Int} {a0_1:Int} {a0_2:Int} {a0_3:Int} {r:Int×Int×Int×Int} (h:I4 a0_0 a0_1 a0_2 a0_3=some r):A4 Tryd.prog Tab 28 [.agg [ai a0_0,ai a0_1,ai a0_2,ai a0_3]] (Xj r):=by
 refine A0 (by kernel_rfl) Tryd.func28 Aah (n:=17) (by kernel_rfl) (by simp) (tl:=[(0,.agg [ai a0_0,ai a0_1,ai a0_2,ai a0_3])]) rfl ?_;unfold Q8;unfold I4 at h;refine Al ?_;refine Al ?_;refine Al ?_;refine Al ?_;refine Al ?_;refine Al ?_;refine Al ?_;refine Aj ?_;obtain rfl:=zj h;exact Bk [.agg [ai a0_0,ai a0_1,ai a0_2,ai a0_3]] (Ams (Rz zl (Rz zl (Rz zl (Rz zl Ami)))) A5)
def Lh:AC :=
 (.seq (.seq (rg [xo 8 (qm (tm 4)),xo 9 (qm (tm 0)),xo 10 (.i (.len (tm 9))),xo 11 (qb .lss (tm 8) (tm 10))])
 (.cond (tm 11)
  .skip
  (.exit 0)))
 (.seq (.block 1 (rg [xo 14 (qm (tm 3)),xo 15 (qm (tm 4)),xo 16 (qm (tm 0)),xo 17 (qm (tm 4)),xo 18 (qx 4 (tm 16) (tm 17)),xo 19 (.i (.ld false 4 (tm 18))),xo 20 (qc 28 [tm 19] [[none,none,none,none]]),xo 21 (qx 4 (tm 14) (tm 15)),xn (.st false 4 (tm 21) (tm 20))]))
 (rg [xo 12 (qm (tm 4)),xo 13 (qb .add (tm 12) (ci 1)),xo 4 (qm (tm 13))])))
def O9:AC :=
 (.seq (rg [xo 2 (qm (.cst .nils))])
 (.seq (rg [xo 5 (qm (tm 0)),xo 6 (.i (.len (tm 5))),⟨some 7,none,.make 59 T4 32 (tm 6) (tm 6)⟩,xo 3 (qm (tm 7))])
 (.seq (.seq (rg [xo 4 (qm (ci 0))])
 (.block 0 (.loop Lh)))
 (.seq (rg [xo 22 (qm (tm 3)),xo 2 (qm (tm 22))])
 .ret))))
def Zd:List Res:=[.tmp 2]
theorem Yi:Ar Tryd.prog Tryd.f16=some (O9,Zd):=by kernel_rfl
def Ed (a0:List (Int×Int×Int×Int)) (l6_m4:Nat) (l6_m3:List (Int×Int×Int×Int)):Option (Ctl (Nat×(List (Int×Int×Int×Int))) (List (Int×Int×Int×Int))) :=
 cond (decide (((l6_m4:Nat):Int)<((a0.length:Nat):Int)))
 (Option.bind (a0[l6_m4]?) fun x11 =>
 Option.bind (I4 x11.1 x11.2.1 x11.2.2.1 x11.2.2.2) fun y12 =>
 Option.bind (l6_m3[l6_m4]?) fun x13 =>
 og (l6_m4+1<4611686018427387904) <|
 some (Ctl.next (l6_m4+1,l6_m3.set l6_m4 y12)))
 (some (Ctl.out l6_m3))
def F8 (a0:List (Int×Int×Int×Int)):Option (List (Int×Int×Int×Int)) :=
 og (0<=((a0.length:Nat):Int)∧((a0.length:Nat):Int)<=((a0.length:Nat):Int)∧((a0.length:Nat):Int)<=1073741824∧(32:Int)*((a0.length:Nat):Int)<=140737488355328) <|
Option.bind (Ay (fun s_:Nat×(List (Int×Int×Int×Int))=>Ed a0 s_.1 s_.2) 4611686018427387904 (0,List.replicate a0.length ((0,0,0,0):Int×Int×Int×Int))) fun l4_m3 =>
some l4_m3
def Vm (r:List (Int×Int×Int×Int)):RV:=⟨false,[(false,[.new 59 T4 r])]⟩
theorem V5 {a0:List (Int×Int×Int×Int)} {r:List (Int×Int×Int×Int)} (h:F8 a0=some r):A4 Tryd.prog Tab 16 [.tree T4 a0] (Vm r):=by
 refine A0 (by kernel_rfl) Tryd.func16 Yi (n:=23) (by kernel_rfl) (by simp) (tl:=[(0,.tree T4 a0)]) rfl ?_;unfold O9;unfold F8 at h;refine Al ?_;refine Ab ?_;obtain ⟨g3,h⟩:=Aq h;refine Aa 6 ?_;refine rz0 (.tree T4 a0) ?_;refine rz0 (ai ((a0.length:Nat):Int)) ?_;refine rs1 (.own (oi 7 4) T4 0 a0.length) (oi 7 4) (.arr 59 T4 (List.replicate a0.length ((0,0,0,0):Int×Int×Int×Int))) (Lv (t:=T4) (k:=.i64) (k':=.i64) (m:=((a0.length:Nat):Int)) (m':=((a0.length:Nat):Int)) (by kernel_rfl) (by kernel_rfl) g3 rfl) ?_;refine rsB 1 ?_;refine Ao (tn_ ?_);refine wr_ ?_;refine As h (fun (l4_m3:List (Int×Int×Int×Int)) S_=>S_=⟨Am [(3,.own (oi 0 1) T4 0 l4_m3.length)],Ak (An [(oi 0 1,.arr 59 T4 l4_m3)]),2⟩) ?_ ?_
 ·intro v_ h;refine Al ?_;refine Ah ?_;refine Ax h (fun t_ S_=>∃ (l6_m4:Nat),∃ (l6_m3:List (Int×Int×Int×Int)),t_=(l6_m4,l6_m3)∧S_=⟨Am [(0,.tree T4 a0),(3,.own (oi 0 1) T4 0 l6_m3.length),(4,ai ((l6_m4:Nat):Int))],Ak (An [(oi 0 1,.arr 59 T4 l6_m3)]),2⟩) ⟨_,(Bn 3 (.own (oi 7 4) T4 0 a0.length) (.own (oi 7 4) T4 0 ((List.replicate a0.length ((0,0,0,0):Int×Int×Int×Int)).length)) (by kernel_rfl) (congrArg (fun z_=>((.own (oi 7 4) T4 0 z_):AV)) (List.length_replicate.symm:a0.length=(List.replicate a0.length ((0,0,0,0):Int×Int×Int×Int)).length))).trans (Ac [(oi 0 1,oi 7 4)]),⟨0,List.replicate a0.length ((0,0,0,0):Int×Int×Int×Int),rfl,rfl⟩⟩ ?_;rintro n_ _ _ c_ ⟨l6_m4,l6_m3,rfl,rfl⟩ h hn6
  (try dsimp only at h);unfold Ed at h;unfold Lh;refine Ab ?_;refine Al ?_;rcases Ad h with ⟨q9,h⟩ | ⟨q9,h⟩
  ·have q9_:=of_decide_eq_true q9;refine Ag q9 ?_;refine Ai (tn_ ?_);refine wr_ ?_;refine Ab ?_;refine Ah ?_;obtain ⟨x11,e11,h⟩:=Ae h;obtain ⟨y12,h12,h⟩:=Ae h;obtain ⟨x13,e13,h⟩:=Ae h;refine Aa 15 ?_;refine rz0 (.own (oi 0 1) T4 0 l6_m3.length) ?_;refine rz0 (ai ((l6_m4:Nat):Int)) ?_;refine rz0 (.tree T4 a0) ?_;refine rz0 (ai ((l6_m4:Nat):Int)) ?_;refine rs0 (.telt T4 x11 0) (zi (t:=T4) (xs:=a0) (k:=.i64) (m:=((l6_m4:Nat):Int)) (Ba _) e11) ?_;refine rz0 (.agg [ai x11.1,ai x11.2.1,ai x11.2.2.1,ai x11.2.2.2]) ?_;refine zc (.agg [ai y12.1,ai y12.2.1,ai y12.2.2.1,ai y12.2.2.2]) [] [.agg [ai x11.1,ai x11.2.1,ai x11.2.2.1,ai x11.2.2.2]] (Wx h12) ?_;refine rs0 (.elt (oi 0 1) l6_m4 0) (zo (t:=T4) (o:=oi 0 1) (len:=l6_m3.length) (k:=.i64) (m:=((l6_m4:Nat):Int)) (Ba _) (Be e13)) ?_;refine Sk (oi 0 1) (oi 0 1) (.arr 59 T4 (l6_m3.set l6_m4 y12)) (Je (i:=oi 0 1) (j:=l6_m4) (k:=0) (e:=59) (t:=T4) (xs:=l6_m3) (cs:=[ai y12.1,ai y12.2.1,ai y12.2.2.1,ai y12.2.2.2]) (x1:=y12) (by kernel_rfl) (by kernel_rfl) e13 (by kernel_rfl) (by kernel_rfl)) ?_;refine Ao (bn_ (tn_ ?_));refine wr_ ?_;obtain ⟨g14,h⟩:=Aq h;refine Aa 18 ?_;refine rz0 (ai ((l6_m4:Nat):Int)) ?_;refine rs0 (ai ((l6_m4+1:Nat):Int)) (za g14) ?_;refine rsB 1 ?_;refine Ao (tn_ ?_);obtain rfl:=zj h;exact ⟨(l6_m4+1,l6_m3.set l6_m4 y12),_,(Bn 3 (.own (oi 0 1) T4 0 l6_m3.length) (.own (oi 0 1) T4 0 ((l6_m3.set l6_m4 y12).length)) (by kernel_rfl) (congrArg (fun z_=>((.own (oi 0 1) T4 0 z_):AV)) (((rfl:l6_m3.length=l6_m3.length).trans List.length_set.symm):l6_m3.length=(l6_m3.set l6_m4 y12).length))).trans (Ac []),⟨l6_m4+1,l6_m3.set l6_m4 y12,rfl,rfl⟩,hn6⟩
  have q9_:=of_decide_eq_false q9;refine Af q9 ?_;refine Av (te_ (te_ (be_ (tn_ ?_))));obtain rfl:=zj h;have h:=hn6
  (try dsimp only at h);obtain rfl:=zj h;exact ⟨_,Ac [],rfl⟩
 rintro l4_m3 _ rfl h
 (try dsimp only at h);refine Al ?_;refine Aj ?_;obtain rfl:=zj h;exact Bk [.own (oi 0 1) T4 0 l4_m3.length] (At rfl (Er (by kernel_rfl) rfl) A5)
def Mi:AC :=
 (.seq (rg [xo 1 (.i (.box 25 (tm 0))),xo 2 (.i (.alloc 31 [.int .i64 0,.nils,.nils]))])
 (.seq (rg [xo 3 (.i (.alloc 31 [.int .i64 0,.nils,.nils]))])
 (.seq (rg [xo 4 (qf 0 (tm 1)),xo 5 (ql (tm 4)),xo 6 (qf 0 (tm 3)),xn (qs (tm 6) (tm 5))])
 (.seq (rg [xo 7 (qf 1 (tm 1)),xo 8 (ql (tm 7)),⟨some 9,none,qc 16 [tm 8] [[some T4]]⟩,xo 10 (qf 1 (tm 3)),xn (qs (tm 10) (tm 9))])
 (.seq (rg [xo 11 (qf 2 (tm 1)),xo 12 (ql (tm 11)),xo 13 (qc 17 [tm 12] [[some .int]]),xo 14 (qf 2 (tm 3)),xn (qs (tm 14) (tm 13))])
 (.seq (rg [xo 15 (.i (.ld false 3 (tm 3))),xn (.st false 3 (tm 2) (tm 15))])
 .ret))))))
def Tn:List Res:=[.cell 2 false 3]
theorem Uc:Ar Tryd.prog Tryd.f7=some (Mi,Tn):=by kernel_rfl
theorem F0:A6 Tryd.prog 7=true:=by kernel_rfl
def Bz (a0_0:Int) (a0_1:List (Int×Int×Int×Int)) (a0_2:List Int):Option (Int×(List (Int×Int×Int×Int))×List Int) :=
 Option.bind (F8 a0_1) fun y5 =>
Option.bind (G7 a0_2) fun y7 =>
some (a0_0,y5,y7)
def R2 (r:Int×(List (Int×Int×Int×Int))×List Int):RV:=⟨false,[(true,[.sc (.int .i64 r.1),.new 59 T4 r.2.1,.new 3 .int r.2.2])]⟩
theorem Dg {a0_0:Int} {a0_1:List (Int×Int×Int×Int)} {a0_2:List Int} {r:Int×(List (Int×Int×Int×Int))×List Int} (h:Bz a0_0 a0_1 a0_2=some r):A4 Tryd.prog Tab 7 [.agg [ai a0_0,.tree T4 a0_1,.tree .int a0_2]] (R2 r):=by
 refine A0 (by kernel_rfl) Tryd.func7 Uc (n:=16) (by kernel_rfl) (by simp) (tl:=[(0,.agg [ai a0_0,.tree T4 a0_1,.tree .int a0_2])]) rfl ?_;unfold Mi;unfold Bz at h;refine Al ?_;refine Al ?_;refine Al ?_;refine Ab ?_;obtain ⟨y5,h5,h⟩:=Ae h;refine Aa 13 ?_;refine rz0 (.box (oi 1 1) 1) ?_;refine rzl (.tree T4 a0_1) ?_;refine zc (.own (oi 144 10) T4 0 y5.length) [(oi 144 10,some (.arr 59 T4 y5))] [.tree T4 a0_1] (V5 h5) ?_;refine rsB 2 ?_;refine Ao (tn_ ?_);refine wr_ ?_;refine Ab ?_;obtain ⟨y7,h7,h⟩:=Ae h;refine Aa 18 ?_;refine rz0 (.box (oi 1 1) 2) ?_;refine rzl (.tree .int a0_2) ?_;refine zc (.own (oi 208 15) .int 0 y7.length) [(oi 208 15,some (.arr 3 .int y7))] [.tree .int a0_2] (Xw h7) ?_;refine rsB 2 ?_;refine Ao (tn_ ?_);refine wr_ ?_;refine Al ?_;refine Aj ?_;obtain rfl:=zj h;exact Bk [.agg [ai a0_0,.own (oi 144 10) T4 0 y5.length,.own (oi 208 15) .int 0 y7.length]] (Ams (Rz zl (Rz (Er (by kernel_rfl) rfl) (Rz (Er (by kernel_rfl) rfl) Ami))) A5)
def Q5:AC :=
 (.seq (rg [xo 2 (.i (.box 59 (tm 0))),xo 3 (.i (.box 59 (tm 1))),xo 4 (qm (cb false))])
 (.seq (.seq (rg [xo 5 (qf 0 (tm 2)),xo 6 (ql (tm 5)),xo 7 (qf 0 (tm 3)),xo 8 (ql (tm 7)),xo 9 (qb .neq (tm 6) (tm 8))])
 (.cond (tm 9)
  (.seq (rg [xo 4 (qm (cb false))])
  .ret)
  .skip))
 (.seq (.seq (rg [xo 10 (qf 1 (tm 2)),xo 11 (ql (tm 10)),xo 12 (qf 1 (tm 3)),xo 13 (ql (tm 12)),xo 14 (qb .neq (tm 11) (tm 13))])
 (.cond (tm 14)
  (.seq (rg [xo 4 (qm (cb false))])
  .ret)
  .skip))
 (.seq (.seq (rg [xo 15 (qf 2 (tm 2)),xo 16 (ql (tm 15)),xo 17 (qf 2 (tm 3)),xo 18 (ql (tm 17)),xo 19 (qb .neq (tm 16) (tm 18))])
 (.cond (tm 19)
  (.seq (rg [xo 4 (qm (cb false))])
  .ret)
  .skip))
 (.seq (.seq (rg [xo 20 (qf 3 (tm 2)),xo 21 (ql (tm 20)),xo 22 (qf 3 (tm 3)),xo 23 (ql (tm 22)),xo 24 (qb .neq (tm 21) (tm 23))])
 (.cond (tm 24)
  (.seq (rg [xo 4 (qm (cb false))])
  .ret)
  .skip))
 (.seq (rg [xo 4 (qm (cb true))])
 .ret))))))
def Aa6:List Res:=[.tmp 4]
theorem Aav:Ar Tryd.prog Tryd.f33=some (Q5,Aa6):=by kernel_rfl
theorem X4:A6 Tryd.prog 33=true:=by kernel_rfl
def I5 (a0_0:Int) (a0_1:Int) (a0_2:Int) (a0_3:Int) (a1_0:Int) (a1_1:Int) (a1_2:Int) (a1_3:Int):Option Bool :=
 cond (a0_0 !=a1_0)
 (some false)
 (cond (a0_1 !=a1_1)
  (some false)
  (cond (a0_2 !=a1_2)
   (some false)
   (cond (a0_3 !=a1_3)
    (some false)
    (some true))))
def X9 (r:Bool):RV:=⟨false,[(false,[.sc (.bool r)])]⟩
theorem Y8 {a0_0:Int} {a0_1:Int} {a0_2:Int} {a0_3:Int} {a1_0:Int} {a1_1:Int} {a1_2:Int} {a1_3:Int} {r:Bool} (h:I5 a0_0 a0_1 a0_2 a0_3 a1_0 a1_1 a1_2 a1_3=some r):A4 Tryd.prog Tab 33 [.agg [ai a0_0,ai a0_1,ai a0_2,ai a0_3],.agg [ai a1_0,ai a1_1,ai a1_2,ai a1_3]] (X9 r):=by
 refine A0 (by kernel_rfl) Tryd.func33 Aav (n:=25) (by kernel_rfl) (by simp) (tl:=[(0,.agg [ai a0_0,ai a0_1,ai a0_2,ai a0_3]),(1,.agg [ai a1_0,ai a1_1,ai a1_2,ai a1_3])]) rfl ?_;unfold Q5;unfold I5 at h;refine Al ?_;refine Ab ?_;refine Al ?_;rcases Ad h with ⟨q4,h⟩ | ⟨q4,h⟩
 ·refine Ag q4 ?_;refine Al ?_;refine Aj (tr_ ?_);obtain rfl:=zj h;exact Bk [.bool false] (At rfl zl A5)
 refine Af q4 ?_;refine Ai (tn_ ?_);refine wr_ ?_;refine Ab ?_;refine Al ?_;rcases Ad h with ⟨q8,h⟩ | ⟨q8,h⟩
 ·refine Ag q8 ?_;refine Al ?_;refine Aj (tr_ ?_);obtain rfl:=zj h;exact Bk [.bool false] (At rfl zl A5)
 refine Af q8 ?_;refine Ai (tn_ ?_);refine wr_ ?_;refine Ab ?_;refine Al ?_;rcases Ad h with ⟨q12,h⟩ | ⟨q12,h⟩
 ·refine Ag q12 ?_;refine Al ?_;refine Aj (tr_ ?_);obtain rfl:=zj h;exact Bk [.bool false] (At rfl zl A5)
 refine Af q12 ?_;refine Ai (tn_ ?_);refine wr_ ?_;refine Ab ?_;refine Al ?_;rcases Ad h with ⟨q16,h⟩ | ⟨q16,h⟩
 ·refine Ag q16 ?_;refine Al ?_;refine Aj (tr_ ?_);obtain rfl:=zj h;exact Bk [.bool false] (At rfl zl A5)
 refine Af q16 ?_;refine Ai (tn_ ?_);refine wr_ ?_;refine Al ?_;refine Aj ?_;obtain rfl:=zj h;exact Bk [.bool true] (At rfl zl A5)
def K9:AC :=
 (.seq (.seq (rg [xo 11 (qm (tm 5)),xo 12 (qm (tm 0)),xo 13 (.i (.len (tm 12))),xo 14 (qb .lss (tm 11) (tm 13))])
 (.cond (tm 14)
  .skip
  (.exit 0)))
 (.seq (.block 1 (.seq (.region [xo 17 (qm (tm 0)),xo 18 (qm (tm 5)),xo 19 (qx 4 (tm 17) (tm 18)),xo 20 (.i (.ld false 4 (tm 19))),xo 21 (qm (tm 1)),xo 22 (qm (tm 5)),xo 23 (qx 4 (tm 21) (tm 22)),xo 24 (.i (.ld false 4 (tm 23))),xo 25 (qc 33 [tm 20,tm 24] [[none,none,none,none],[none,none,none,none]]),xo 26 (.i (.not (tm 25)))] true [])
 (.cond (tm 26)
  (.seq (rg [xo 4 (qm (cb false))])
  .ret)
  .skip)))
 (rg [xo 15 (qm (tm 5)),xo 16 (qb .add (tm 15) (ci 1)),xo 5 (qm (tm 16))])))
def Ou:AC :=
 (.seq (rg [xo 4 (qm (cb false))])
 (.seq (.seq (rg [xo 6 (qm (tm 0)),xo 7 (.i (.len (tm 6))),xo 8 (qm (tm 1)),xo 9 (.i (.len (tm 8))),xo 10 (qb .neq (tm 7) (tm 9))])
 (.cond (tm 10)
  (.seq (rg [xo 4 (qm (cb false))])
  .ret)
  .skip))
 (.seq (.seq (rg [xo 5 (qm (ci 0))])
 (.block 0 (.loop K9)))
 (.seq (rg [xo 4 (qm (cb true))])
 .ret))))
def W2:List Res:=[.tmp 4]
theorem Xq:Ar Tryd.prog Tryd.f20=some (Ou,W2):=by kernel_rfl
def Ek (a0:List (Int×Int×Int×Int)) (a1:List (Int×Int×Int×Int)) (l8_m5:Nat):Option (Ctl Nat (Ctl Unit Bool)) :=
 cond (decide (((l8_m5:Nat):Int)<((a0.length:Nat):Int)))
 (Option.bind (a0[l8_m5]?) fun x14 =>
 Option.bind (a1[l8_m5]?) fun x15 =>
 Option.bind (I5 x14.1 x14.2.1 x14.2.2.1 x14.2.2.2 x15.1 x15.2.1 x15.2.2.1 x15.2.2.2) fun y16 =>
 cond (!y16)
  (some (Ctl.out (Ctl.out false)))
  (og (l8_m5+1<4611686018427387904) <|
  some (Ctl.next (l8_m5+1))))
 (some (Ctl.out (Ctl.next ())))
def Gf (a0:List (Int×Int×Int×Int)) (a1:List (Int×Int×Int×Int)):Option Bool :=
 cond (((a0.length:Nat):Int) !=((a1.length:Nat):Int))
 (some false)
 (Ix (Ay (fun s_:Nat=>Ek a0 a1 s_) 4611686018427387904 0) fun _ =>
 some true)
def V4 (r:Bool):RV:=⟨false,[(false,[.sc (.bool r)])]⟩
theorem Vk {a0:List (Int×Int×Int×Int)} {a1:List (Int×Int×Int×Int)} {r:Bool} (h:Gf a0 a1=some r):A4 Tryd.prog Tab 20 [.tree T4 a0,.tree T4 a1] (V4 r):=by
 refine A0 (by kernel_rfl) Tryd.func20 Xq (n:=27) (by kernel_rfl) (by simp) (tl:=[(0,.tree T4 a0),(1,.tree T4 a1)]) rfl ?_;unfold Ou;unfold Gf at h;refine Al ?_;refine Ab ?_;refine Al ?_;rcases Ad h with ⟨q4,h⟩ | ⟨q4,h⟩
 ·refine Ag q4 ?_;refine Al ?_;refine Aj (tr_ ?_);obtain rfl:=zj h;exact Bk [.bool false] (At rfl zl A5)
 refine Af q4 ?_;refine Ai (tn_ ?_);refine wr_ ?_;refine C0 h (fun (_:Unit) S_=>S_=⟨Am [],Ak (An []),2⟩) ?_ ?_
 ·intro v_ h hk6;refine Al ?_;refine Ah ?_;refine Ax h (fun (l8_m5:Nat) S_=>S_=⟨Am [(0,.tree T4 a0),(1,.tree T4 a1),(5,ai ((l8_m5:Nat):Int))],Ak (An []),2⟩) ⟨_,Ac [],rfl⟩ ?_;rintro n_ l8_m5 _ c_ rfl h hn8
  (try dsimp only at h);unfold Ek at h;unfold K9;refine Ab ?_;refine Al ?_;rcases Ad h with ⟨q11,h⟩ | ⟨q11,h⟩
  ·have q11_:=of_decide_eq_true q11;refine Ag q11 ?_;refine Ai (tn_ ?_);refine wr_ ?_;refine Ab ?_;refine Ah ?_;refine Ab ?_;obtain ⟨x14,e14,h⟩:=Ae h;obtain ⟨x15,e15,h⟩:=Ae h;obtain ⟨y16,h16,h⟩:=Ae h;refine A1 16 ?_;refine dz0 (.tree T4 a0) ?_;refine dz0 (ai ((l8_m5:Nat):Int)) ?_;refine ds0 (.telt T4 x14 0) (zi (t:=T4) (xs:=a0) (k:=.i64) (m:=((l8_m5:Nat):Int)) (Ba _) e14) ?_;refine dz0 (.agg [ai x14.1,ai x14.2.1,ai x14.2.2.1,ai x14.2.2.2]) ?_;refine dz0 (.tree T4 a1) ?_;refine dz0 (ai ((l8_m5:Nat):Int)) ?_;refine ds0 (.telt T4 x15 0) (zi (t:=T4) (xs:=a1) (k:=.i64) (m:=((l8_m5:Nat):Int)) (Ba _) e15) ?_;refine dz0 (.agg [ai x15.1,ai x15.2.1,ai x15.2.2.1,ai x15.2.2.2]) ?_;refine Cq (.bool y16) [] [.agg [ai x14.1,ai x14.2.1,ai x14.2.2.1,ai x14.2.2.2],.agg [ai x15.1,ai x15.2.1,ai x15.2.2.1,ai x15.2.2.2]] _ (caps:=[]) (args0:=[.agg [ai x14.1,ai x14.2.1,ai x14.2.2.1,ai x14.2.2.2],.agg [ai x15.1,ai x15.2.1,ai x15.2.2.1,ai x15.2.2.2]]) trivial (by kernel_rfl) (Y8 h16) X4 ?_;refine dz0 (.bool (!y16)) ?_;refine Gj (Bi (by kernel_rfl)) (tn_ ?_);refine wr_ ?_;rcases Ad h with ⟨q17,h⟩ | ⟨q17,h⟩
   ·refine Ag q17 ?_;refine Al ?_;refine Aj (br_ (tr_ (tr_ (br_ (tr_ ?_)))));obtain rfl:=zj h;have h:=hn8
    (try dsimp only at h);obtain rfl:=zj h;have h:=hk6
    (try dsimp only at h);obtain rfl:=zj h;exact Bk [.bool false] (At rfl zl A5)
   refine Af q17 ?_;refine Ai (bn_ (tn_ ?_));refine wr_ ?_;obtain ⟨g19,h⟩:=Aq h;refine Aa 19 ?_;refine rz0 (ai ((l8_m5:Nat):Int)) ?_;refine rs0 (ai ((l8_m5+1:Nat):Int)) (za g19) ?_;refine rsB 1 ?_;refine Ao (tn_ ?_);obtain rfl:=zj h;exact ⟨l8_m5+1,_,Ac [],rfl,hn8⟩
  have q11_:=of_decide_eq_false q11;refine Af q11 ?_;refine Av (te_ (te_ (be_ (tn_ ?_))));obtain rfl:=zj h;have h:=hn8
  (try dsimp only at h);obtain rfl:=zj h;exact ⟨(),_,rfl,Ac [],rfl⟩
 rintro _ _ rfl h
 (try dsimp only at h);refine Al ?_;refine Aj ?_;obtain rfl:=zj h;exact Bk [.bool true] (At rfl zl A5)
def Md:AC :=
 (.seq (rg [xo 2 (.i (.box 31 (tm 0))),xo 3 (.i (.box 31 (tm 1))),xo 4 (qm (cb false))])
 (.seq (.seq (rg [xo 5 (qf 0 (tm 2)),xo 6 (ql (tm 5)),xo 7 (qf 0 (tm 3)),xo 8 (ql (tm 7)),xo 9 (qb .neq (tm 6) (tm 8))])
 (.cond (tm 9)
  (.seq (rg [xo 4 (qm (cb false))])
  .ret)
  .skip))
 (.seq (.seq (rg [xo 10 (qf 1 (tm 2)),xo 11 (ql (tm 10)),xo 12 (qf 1 (tm 3)),xo 13 (ql (tm 12)),⟨some 14,none,qc 20 [tm 11,tm 13] [[some T4],[some T4]]⟩,xo 15 (.i (.not (tm 14)))])
 (.cond (tm 15)
  (.seq (rg [xo 4 (qm (cb false))])
  .ret)
  .skip))
 (.seq (.seq (rg [xo 16 (qf 2 (tm 2)),xo 17 (ql (tm 16)),xo 18 (qf 2 (tm 3)),xo 19 (ql (tm 18)),xo 20 (qc 21 [tm 17,tm 19] [[some .int],[some .int]]),xo 21 (.i (.not (tm 20)))])
 (.cond (tm 21)
  (.seq (rg [xo 4 (qm (cb false))])
  .ret)
  .skip))
 (.seq (rg [xo 4 (qm (cb true))])
 .ret)))))
def Ui:List Res:=[.tmp 4]
theorem Tz:Ar Tryd.prog Tryd.f9=some (Md,Ui):=by kernel_rfl
theorem Lo:A6 Tryd.prog 9=true:=by kernel_rfl
def Du (a0_0:Int) (a0_1:List (Int×Int×Int×Int)) (a0_2:List Int) (a1_0:Int) (a1_1:List (Int×Int×Int×Int)) (a1_2:List Int):Option Bool :=
 cond (a0_0 !=a1_0)
 (some false)
 (Option.bind (Gf a0_1 a1_1) fun y8 =>
 cond (!y8)
  (some false)
  (Option.bind (Gz a0_2 a1_2) fun y13 =>
  cond (!y13)
   (some false)
   (some true)))
def Sv (r:Bool):RV:=⟨false,[(false,[.sc (.bool r)])]⟩
theorem Lc {a0_0:Int} {a0_1:List (Int×Int×Int×Int)} {a0_2:List Int} {a1_0:Int} {a1_1:List (Int×Int×Int×Int)} {a1_2:List Int} {r:Bool} (h:Du a0_0 a0_1 a0_2 a1_0 a1_1 a1_2=some r):A4 Tryd.prog Tab 9 [.agg [ai a0_0,.tree T4 a0_1,.tree .int a0_2],.agg [ai a1_0,.tree T4 a1_1,.tree .int a1_2]] (Sv r):=by
 refine A0 (by kernel_rfl) Tryd.func9 Tz (n:=22) (by kernel_rfl) (by simp) (tl:=[(0,.agg [ai a0_0,.tree T4 a0_1,.tree .int a0_2]),(1,.agg [ai a1_0,.tree T4 a1_1,.tree .int a1_2])]) rfl ?_;unfold Md;unfold Du at h;refine Al ?_;refine Ab ?_;refine Al ?_;rcases Ad h with ⟨q4,h⟩ | ⟨q4,h⟩
 ·refine Ag q4 ?_;refine Al ?_;refine Aj (tr_ ?_);obtain rfl:=zj h;exact Bk [.bool false] (At rfl zl A5)
 refine Af q4 ?_;refine Ai (tn_ ?_);refine wr_ ?_;refine Ab ?_;refine Ab ?_;obtain ⟨y8,h8,h⟩:=Ae h;refine Aa 15 ?_;refine rz0 (.box (oi 2 1) 1) ?_;refine rzl (.tree T4 a0_1) ?_;refine rz0 (.box (oi 3 2) 1) ?_;refine rzl (.tree T4 a1_1) ?_;refine zc (.bool y8) [] [.tree T4 a0_1,.tree T4 a1_1] (Vk h8) ?_;refine rsB 1 ?_;refine Ao (tn_ ?_);refine wr_ ?_;rcases Ad h with ⟨q9,h⟩ | ⟨q9,h⟩
 ·refine Ag q9 ?_;refine Al ?_;refine Aj (tr_ ?_);obtain rfl:=zj h;exact Bk [.bool false] (At rfl zl A5)
 refine Af q9 ?_;refine Ai (tn_ ?_);refine wr_ ?_;refine Ab ?_;refine Ab ?_;obtain ⟨y13,h13,h⟩:=Ae h;refine Aa 21 ?_;refine rz0 (.box (oi 2 1) 2) ?_;refine rzl (.tree .int a0_2) ?_;refine rz0 (.box (oi 3 2) 2) ?_;refine rzl (.tree .int a1_2) ?_;refine zc (.bool y13) [] [.tree .int a0_2,.tree .int a1_2] (Zo h13) ?_;refine rsB 1 ?_;refine Ao (tn_ ?_);refine wr_ ?_;rcases Ad h with ⟨q14,h⟩ | ⟨q14,h⟩
 ·refine Ag q14 ?_;refine Al ?_;refine Aj (tr_ ?_);obtain rfl:=zj h;exact Bk [.bool false] (At rfl zl A5)
 refine Af q14 ?_;refine Ai (tn_ ?_);refine wr_ ?_;refine Al ?_;refine Aj ?_;obtain rfl:=zj h;exact Bk [.bool true] (At rfl zl A5)
end
end Go.Proofs.YtmflebjoidoiiaaDoor
