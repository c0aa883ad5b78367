/- Lemmas on the program and on partial functions that stand in place of its code (part 4); no condition beyond those that each one states. -/
import Derived.Test.YtmflebjoidoiiaaDoorZ3
import Derived.KernelRfl
import Derived.IntWalk
namespace Go.Proofs.YtmflebjoidoiiaaDoor
section
open Go.RowKit Go.Deep
section
variable {P:Program} {G:World->Prop}
theorem Ab {x y:AC} {R:AE->St->Prop} {S:St} (h:awp P G x (Kx (fun S'=>∃ S'',Weak S' S''∧awp P G y R S'') R) S):awp P G (.seq x y) R S:=h
theorem Ada {x y:AC} {R:AE->St->Prop} {S:St} (K:St->Prop) (h:awp P G x (Kx (fun S'=>∃ S'',Weak S' S''∧K S'') R) S) (k:∀ S'',K S''->awp P G y R S''):awp P G (.seq x y) R S:=by
 unfold awp
 exact Ec (fun e S hq=>by
  cases e with
  | normal=>obtain ⟨S'',hw,hk⟩:=hq; exact ⟨S'',hw,k S'' hk⟩
  | exit id=>exact hq
  | ret=>exact hq) h
def Aor (rs:List Rec) (ds:List (List Oid)):List (Nat×Nat)->Bool
 | []=>true
 | p :: ps=>(let ri:=rs.getD p.2 (0,.any,[]); let rj:=rs.getD p.1 (0,.any,[]); let di:=ds.getD p.2 []; let dj:=ds.getD p.1 []
   ((!(ri.1==2)||rj.1==0)&&(!(rj.1==2)||ri.1==0))||((!(ri.1==2)||ri.2.2.all fun u=> !dj.contains u.1)&&((!(rj.1==2)||rj.2.2.all fun u=> !di.contains u.1)&&ri.2.2.all fun u=>rj.2.2.all fun v=> !(u.1==v.1))))&&Aor rs ds ps
theorem Bg {rs:List Rec} {ds:List (List Oid)}:∀ {bad:List (Nat×Nat)},Aor rs ds bad=true->Aib rs ds bad
 | [],_=>trivial
 | p :: ps,h=>by
  simp only [Aor,Bool.and_eq_true] at h;refine ⟨?_,Bg h.2⟩;have h1:=h.1;simp only [Bool.or_eq_true,Bool.and_eq_true,Bool.not_eq_true',beq_eq_false_iff_ne,beq_iff_eq,List.all_eq_true,List.contains_eq_mem,decide_eq_false_iff_not] at h1;unfold Sp;rcases h1 with ⟨a,b⟩ | ⟨a,b,c⟩
  ·refine .inl ⟨fun e=>?_,fun e=>?_⟩
   ·rcases a with a | a
    ·exact absurd e a
    ·exact a
   ·rcases b with b | b
    ·exact absurd e b
    ·exact b
  ·refine .inr ⟨fun e=>?_,fun e=>?_,c⟩
   ·rcases a with a | a
    ·exact absurd e a
    ·exact a
   ·rcases b with b | b
    ·exact absurd e b
    ·exact b
def XW (P:Program) (G:World->Prop) (g k:Nat) (xs:List X) (tl:List (Nat×AV)) (ol:List (Oid×Option Ob)) (Kf:List (Nat×AV)->List (Oid×Option Ob)->Prop):Prop :=
 ∃ rs tl' ol',Anl P G g k xs (Am tl) (Ak ol) rs (Am tl') (Ak ol')∧Kf tl' ol'
def XD (P:Program) (G:World->Prop) (bad:List (Nat×Nat)) (g k:Nat) (xs:List X) (tl:List (Nat×AV)) (ol:List (Oid×Option Ob)) (ra:List Rec) (da:List (List Oid)) (Kf:List (Nat×AV)->List (Oid×Option Ob)->Prop):Prop :=
 ∃ rs ds tl' ol',Ako P G g k xs (Am tl) (Ak ol) rs ds (Am tl') (Ak ol')∧Aib (ra.reverse++rs) (da.reverse++ds) bad∧Kf tl' ol'
theorem Aa {xs:List X} {bad:List (Nat×Nat)} {R:AE->St->Prop} {tl:List (Nat×AV)} {ol:List (Oid×Option Ob)} {g:Nat} (g':Nat) (h:XW P G g 0 xs tl ol fun tl' ol'=>R .normal ⟨Am tl',Ak ol',g'⟩) (hn:g+xs.length=g':=by kernel_rfl):awp P G (.region xs false bad) R ⟨Am tl,Ak ol,g⟩:=by
 obtain ⟨rs,tl',ol',h,hr⟩:=h;exact ⟨rs,_,_,h,by subst hn; exact hr⟩
theorem Az {xs:List X} {bad:List (Nat×Nat)} {R:AE->St->Prop} {tl:List (Nat×AV)} {ol:List (Oid×Option Ob)} {g:Nat} (g':Nat) (h:XD P G bad g 0 xs tl ol [] [] fun tl' ol'=>R .normal ⟨Am tl',Ak ol',g'⟩) (hn:g+xs.length=g':=by kernel_rfl):awp P G (.region xs true bad) R ⟨Am tl,Ak ol,g⟩:=by
 obtain ⟨rs,ds,tl',ol',h,hb,hr⟩:=h;exact ⟨rs,ds,_,_,h,hb,by subst hn; exact hr⟩
theorem Nm (tl:List (Nat×AV)) (d:Nat) (v:AV):upd (Am tl) d v=Am ((d,v) :: tl):=by
 funext i;rfl
def Lm:Option Ob->Bool
 | some (.pool ..)=>false
 | some (.mat ..)=>false
 | some (.tv ..)=>false
 | _=>true
def Gf (us:List (Oid×Option Ob)):Bool:=us.all fun u=>Lm u.2
theorem J2 {ol:List (Oid×Option Ob)} {j:Oid} {o:Option Ob} (h:Lm o=true):upd (Ak ol) j o=Ak ((j,o) :: ol):=by
 cases o with
 | none=>funext i; rfl
 | some o=>cases o <;> first | (funext i; rfl) | cases h
theorem H7:∀ (us ol:List (Oid×Option Ob)),Gf us=true->A6 us (Ak ol)=Ak (us.reverseAux ol)
 | [],_,_=>rfl
 | (j,o) :: us,ol,h=>by
  simp only [Gf,List.all_cons,Bool.and_eq_true] at h;show A6 us (upd (Ak ol) j o)=_;rw [J2 h.1];exact H7 us _ h.2
theorem Ik {p:Bool} {n:Nat} {x:X} {f:Nat->AV} {ob:Oid->Option Ob} {r:Rec} (h:Bv n x f ob=some r):Fo P G p n x f ob r:=by
 unfold Bv at h;unfold Fo;split at h
 ·exact .inl (.inl (.inl h))
 ·split at h
  ·rename_i hc;exact ⟨true,hc,by rw [if_pos rfl]; exact .inl (.inl (.inl h))⟩
  ·rename_i hc;exact ⟨false,hc,by rw [if_neg (by simp)]; exact (osj h).symm⟩
  ·cases h
def Wp (gd:Option (Nat×Bool)) (f:Nat->AV):Prop :=
 match gd with
 | none=>True
 | some (s,c)=>f s=.bool c
theorem Ae0 {s:Nat} {b:Bool} {f:Nat->AV} (h:Wp (some (s,b)) f):gdv (f s) b=some true:=by
 rw [show f s=.bool b from h]; simp [gdv]
theorem Bo {s:Nat} {b c:Bool} {f:Nat->AV} (h:f s=.bool c) (hc:c=b):Wp (some (s,b)) f:=by subst hc; exact h
theorem Ajk {p:Bool} {n:Nat} {d:Option Nat} {gd:Option (Nat×Bool)} {fo:Opd} {xs:List Opd} {tys:List (List (Option Ty))} {f:Nat->AV} {ob:Oid->Option Ob} {F:FuncId} {caps args0 args:List AV} {rv:RV} {r:AV×List (Oid×Option Ob)}
  (hgd:Wp gd f) (hfo:fo.ev f=.fn F caps) (h1:P7 (gnd ob 8) ((xs++caps.map Opd.cst).map (Opd.ev f))=some args0) (hn:Tq tys args0=args) (hb:Ba P F=true) (hc:A1 P G F args rv) (hr:rv.out (D6 ((d.getD 0,0),n)) ((xs++caps.map Opd.cst).map (Opd.ev f))=r) :
  Fo P G p n ⟨d,gd,.call fo xs tys⟩ f ob (1,r.1,r.2):=by
 subst hn;have key:EvR P G p f ob ((d.getD 0,0),n) (.call fo xs tys) (1,r.1,r.2):=.inr ⟨fo,xs,tys,F,caps,rfl,hfo,.inl ⟨rfl,hb,args0,rv,h1,hc,hr⟩⟩;unfold Fo;cases gd with
 | none=>exact key
 | some sb=>exact ⟨true,Ae0 hgd,by rw [if_pos rfl]; exact key⟩
theorem Anr {n:Nat} {d:Option Nat} {gd:Option (Nat×Bool)} {fo:Opd} {xs:List Opd} {tys:List (List (Option Ty))} {f:Nat->AV} {ob:Oid->Option Ob} {F:FuncId} {caps zs args:List AV} {v:AV} {ol us:List (Oid×Ob)} (θ:Oid->Oid)
  (hgd:Wp gd f) (hfo:fo.ev f=.fn F caps) (hz:(xs++caps.map Opd.cst).map (Opd.ev f)=zs) (h1:Tc θ (Alv ((nmL ol).map θ) ob) zs args) (h2:∀ q∈exL ol,ob (θ q.1)=some (q.2.ren θ)) (h3:∀ q∈exL ol,∀ q'∈exL ol,θ q.1=θ q'.1->q.1=q'.1) (h4:∀ j∈nmL ol,Reached zs ob (θ j))
  (h5:∀ q∈exL us,q.1.2=1∨(q.1.2=0∧q.1∈nmL ol)) (hb:Ba P F=true) (hc:Yp P G F args ol v us) :
  Fo P G false n ⟨d,gd,.call fo xs tys⟩ f ob (2,v.ren (Dx θ ((d.getD 0,0),n)),O6 θ ((d.getD 0,0),n) ol us):=by
 have hN:Aln P G f ob ((d.getD 0,0),n) F (xs++caps.map Opd.cst) (v.ren (Dx θ ((d.getD 0,0),n)),O6 θ ((d.getD 0,0),n) ol us):=by
  rw [← hz] at h1 h4;refine ⟨hb,θ,args,ol,us,v,h1,h2,fun j k hj hk e=>?_,h4,hc,fun j hj=>?_,rfl⟩
  ·obtain ⟨q,hq,rfl⟩:=List.mem_map.1 hj;obtain ⟨q',hq',rfl⟩:=List.mem_map.1 hk;exact h3 q hq q' hq' e
  ·obtain ⟨q,hq,rfl⟩:=List.mem_map.1 hj;rcases h5 q hq with h | ⟨_,h⟩
   ·exact .inl (by rw [h]; decide)
   ·exact .inr h
 have key:EvR P G false f ob ((d.getD 0,0),n) (.call fo xs tys) (2,v.ren (Dx θ ((d.getD 0,0),n)),O6 θ ((d.getD 0,0),n) ol us):=.inr ⟨fo,xs,tys,F,caps,rfl,hfo,.inr ⟨rfl,rfl,hN⟩⟩;unfold Fo;cases gd with
 | none=>exact key
 | some sb=>exact ⟨true,Ae0 hgd,by rw [if_pos rfl]; exact key⟩
theorem Aok {n:Nat} {d:Option Nat} {gd:Option (Nat×Bool)} {q:Q} {f:Nat->AV} {ob:Oid->Option Ob} {r:Rec} (hgd:Wp gd f) (h:evL f ((d.getD 0,0),n) q=some r):Fo P G false n ⟨d,gd,q⟩ f ob r:=by
 have key:EvR P G false f ob ((d.getD 0,0),n) q r:=.inl (.inl (.inr h));unfold Fo;cases gd with
 | none=>exact key
 | some sb=>exact ⟨true,Ae0 hgd,by rw [if_pos rfl]; exact key⟩
theorem Anz {n:Nat} {d:Option Nat} {gd:Option (Nat×Bool)} {q:Q} {f:Nat->AV} {ob:Oid->Option Ob} {r:Rec} (hgd:Wp gd f) (h:Agr f ((d.getD 0,0),n) q r):Fo P G false n ⟨d,gd,q⟩ f ob r:=by
 have key:EvR P G false f ob ((d.getD 0,0),n) q r:=.inl (.inr h);unfold Fo;cases gd with
 | none=>exact key
 | some sb=>exact ⟨true,Ae0 hgd,by rw [if_pos rfl]; exact key⟩
theorem Ap {g k:Nat} {tl:List (Nat×AV)} {ol:List (Oid×Option Ob)} {Kf:List (Nat×AV)->List (Oid×Option Ob)->Prop} (h:Kf tl ol):XW P G g k [] tl ol Kf:=⟨[],tl,ol,⟨rfl,rfl,rfl⟩,h⟩
theorem Gg {bad:List (Nat×Nat)} {g k:Nat} {tl:List (Nat×AV)} {ol:List (Oid×Option Ob)} {ra:List Rec} {da:List (List Oid)} {Kf:List (Nat×AV)->List (Oid×Option Ob)->Prop} (hb:Aib (ra.reverse++[]) (da.reverse++[]) bad) (h:Kf tl ol):XD P G bad g k [] tl ol ra da Kf:=⟨[],[],tl,ol,⟨rfl,rfl,rfl,rfl⟩,hb,h⟩
section
variable {g k d:Nat} {gd:Option (Nat×Bool)} {q:Q} {xs:List X} {tl:List (Nat×AV)} {ol:List (Oid×Option Ob)} {bad:List (Nat×Nat)} {ra:List Rec} {da:List (List Oid)} {Kf:List (Nat×AV)->List (Oid×Option Ob)->Prop}
theorem Aix (c:Nat) (v:AV) (us ol':List (Oid×Option Ob)) (h:Fo P G false (g+k) ⟨some d,gd,q⟩ (Am tl) (Ak ol) (c,v,us)) (he:A6 us (Ak ol)=Ak ol') (h3:XW P G g (k+1) xs ((d,v) :: tl) ol' Kf):XW P G g k (⟨some d,gd,q⟩ :: xs) tl ol Kf :=
 by
 obtain ⟨rs,tl',ol',h3,hk⟩:=h3;exact ⟨_,tl',ol',⟨_,_,rfl,h,by simp only [Kv,Nm,he]; exact h3⟩,hk⟩
theorem An8 (c:Nat) (v:AV) (us ol':List (Oid×Option Ob)) (h:Fo P G false (g+k) ⟨none,gd,q⟩ (Am tl) (Ak ol) (c,v,us)) (he:A6 us (Ak ol)=Ak ol') (h3:XW P G g (k+1) xs tl ol' Kf):XW P G g k (⟨none,gd,q⟩ :: xs) tl ol Kf :=
 by
 obtain ⟨rs,tl',ol',h3,hk⟩:=h3;exact ⟨_,tl',ol',⟨_,_,rfl,h,by simp only [Kv,he]; exact h3⟩,hk⟩
theorem Aoq (c:Nat) (v:AV) (us ol':List (Oid×Option Ob)) (h:Fo P G false (g+k) ⟨some d,gd,q⟩ (Am tl) (only (rdX (Am tl) (Ak ol) ⟨some d,gd,q⟩) (Ak ol)) (c,v,us)) (he:A6 us (Ak ol)=Ak ol') (h3:XD P G bad g (k+1) xs ((d,v) :: tl) ol' ((c,v,us) :: ra) ((rdX (Am tl) (Ak ol) ⟨some d,gd,q⟩) :: da) Kf):XD P G bad g k (⟨some d,gd,q⟩ :: xs) tl ol ra da Kf :=
 by
 obtain ⟨rs,ds,tl',ol',h3,hb,hk⟩:=h3;refine ⟨_,_,tl',ol',⟨_,rs,ds,rfl,rfl,h,by simp only [Kv,Nm,he]; exact h3⟩,?_,hk⟩
 simpa using hb
theorem Am8 (c:Nat) (v:AV) (us ol':List (Oid×Option Ob)) (h:Fo P G false (g+k) ⟨none,gd,q⟩ (Am tl) (only (rdX (Am tl) (Ak ol) ⟨none,gd,q⟩) (Ak ol)) (c,v,us)) (he:A6 us (Ak ol)=Ak ol') (h3:XD P G bad g (k+1) xs tl ol' ((c,v,us) :: ra) ((rdX (Am tl) (Ak ol) ⟨none,gd,q⟩) :: da) Kf):XD P G bad g k (⟨none,gd,q⟩ :: xs) tl ol ra da Kf :=
 by
 obtain ⟨rs,ds,tl',ol',h3,hb,hk⟩:=h3;refine ⟨_,_,tl',ol',⟨_,rs,ds,rfl,rfl,h,by simp only [Kv,he]; exact h3⟩,?_,hk⟩
 simpa using hb
theorem Ads (c:Nat) (v:AV) (us:List (Oid×Option Ob)) (h:Fo P G false (g+k) ⟨some d,gd,q⟩ (Am tl) (Ak ol) (c,v,us)) (h3:XW P G g (k+1) xs ((d,v) :: tl) (us.reverseAux ol) Kf) (hx:Gf us=true):XW P G g k (⟨some d,gd,q⟩ :: xs) tl ol Kf:=Aix c v us _ h (H7 us ol hx) h3
theorem Ao8 (c:Nat) (v:AV) (us:List (Oid×Option Ob)) (h:Fo P G false (g+k) ⟨none,gd,q⟩ (Am tl) (Ak ol) (c,v,us)) (h3:XW P G g (k+1) xs tl (us.reverseAux ol) Kf) (hx:Gf us=true):XW P G g k (⟨none,gd,q⟩ :: xs) tl ol Kf:=An8 c v us _ h (H7 us ol hx) h3
theorem Adp (c:Nat) (v:AV) (us:List (Oid×Option Ob)) (h:Fo P G false (g+k) ⟨some d,gd,q⟩ (Am tl) (only (rdX (Am tl) (Ak ol) ⟨some d,gd,q⟩) (Ak ol)) (c,v,us)) (h3:XD P G bad g (k+1) xs ((d,v) :: tl) (us.reverseAux ol) ((c,v,us) :: ra) ((rdX (Am tl) (Ak ol) ⟨some d,gd,q⟩) :: da) Kf) (hx:Gf us=true):XD P G bad g k (⟨some d,gd,q⟩ :: xs) tl ol ra da Kf:=Aoq c v us _ h (H7 us ol hx) h3
theorem Apk (c:Nat) (v:AV) (us:List (Oid×Option Ob)) (h:Fo P G false (g+k) ⟨none,gd,q⟩ (Am tl) (only (rdX (Am tl) (Ak ol) ⟨none,gd,q⟩) (Ak ol)) (c,v,us)) (h3:XD P G bad g (k+1) xs tl (us.reverseAux ol) ((c,v,us) :: ra) ((rdX (Am tl) (Ak ol) ⟨none,gd,q⟩) :: da) Kf) (hx:Gf us=true):XD P G bad g k (⟨none,gd,q⟩ :: xs) tl ol ra da Kf:=Am8 c v us _ h (H7 us ol hx) h3
-- the shape of most steps: what the machine says is found by reckoning
theorem rs0 (v:AV) (h:Bv (g+k) ⟨some d,gd,q⟩ (Am tl) (Ak ol)=some (0,v,[])) (h3:XW P G g (k+1) xs ((d,v) :: tl) ol Kf):XW P G g k (⟨some d,gd,q⟩ :: xs) tl ol Kf:=Ads 0 v [] (Ik h) h3 rfl
theorem rsl (v:AV) (h:Bv (g+k) ⟨some d,gd,q⟩ (Am tl) (Ak ol)=some (1,v,[])) (h3:XW P G g (k+1) xs ((d,v) :: tl) ol Kf):XW P G g k (⟨some d,gd,q⟩ :: xs) tl ol Kf:=Ads 1 v [] (Ik h) h3 rfl
theorem rs1 (v:AV) (i:Oid) (o:Ob) (h:Bv (g+k) ⟨some d,gd,q⟩ (Am tl) (Ak ol)=some (1,v,[(i,some o)])) (h3:XW P G g (k+1) xs ((d,v) :: tl) ((i,some o) :: ol) Kf) (hx:Lm (some o)=true:=by rfl):XW P G g k (⟨some d,gd,q⟩ :: xs) tl ol Kf:=Ads 1 v _ (Ik h) h3 (by simp only [Gf,List.all_cons,List.all_nil,hx]; rfl)
theorem rs2 (v:AV) (j i:Oid) (o:Ob) (h:Bv (g+k) ⟨some d,gd,q⟩ (Am tl) (Ak ol)=some (2,v,[(j,none),(i,some o)])) (h3:XW P G g (k+1) xs ((d,v) :: tl) ((i,some o) :: (j,none) :: ol) Kf) (hx:Lm (some o)=true:=by rfl):XW P G g k (⟨some d,gd,q⟩ :: xs) tl ol Kf:=Ads 2 v _ (Ik h) h3 (by simp only [Gf,List.all_cons,List.all_nil,hx]; rfl)
theorem Tn (j i:Oid) (o:Ob) (h:Bv (g+k) ⟨none,gd,q⟩ (Am tl) (Ak ol)=some (2,.any,[(j,none),(i,some o)])) (h3:XW P G g (k+1) xs tl ((i,some o) :: (j,none) :: ol) Kf) (hx:Lm (some o)=true:=by rfl):XW P G g k (⟨none,gd,q⟩ :: xs) tl ol Kf:=Ao8 2 _ _ (Ik h) h3 (by simp only [Gf,List.all_cons,List.all_nil,hx]; rfl)
theorem ds0 (v:AV) (h:Bv (g+k) ⟨some d,gd,q⟩ (Am tl) (only (rdX (Am tl) (Ak ol) ⟨some d,gd,q⟩) (Ak ol))=some (0,v,[])) (h3:XD P G bad g (k+1) xs ((d,v) :: tl) ol ((0,v,[]) :: ra) ((rdX (Am tl) (Ak ol) ⟨some d,gd,q⟩) :: da) Kf):XD P G bad g k (⟨some d,gd,q⟩ :: xs) tl ol ra da Kf:=Adp 0 v [] (Ik h) h3 rfl
theorem dsl (v:AV) (h:Bv (g+k) ⟨some d,gd,q⟩ (Am tl) (only (rdX (Am tl) (Ak ol) ⟨some d,gd,q⟩) (Ak ol))=some (1,v,[])) (h3:XD P G bad g (k+1) xs ((d,v) :: tl) ol ((1,v,[]) :: ra) ((rdX (Am tl) (Ak ol) ⟨some d,gd,q⟩) :: da) Kf):XD P G bad g k (⟨some d,gd,q⟩ :: xs) tl ol ra da Kf:=Adp 1 v [] (Ik h) h3 rfl
theorem ds1 (v:AV) (i:Oid) (o:Ob) (h:Bv (g+k) ⟨some d,gd,q⟩ (Am tl) (only (rdX (Am tl) (Ak ol) ⟨some d,gd,q⟩) (Ak ol))=some (1,v,[(i,some o)])) (h3:XD P G bad g (k+1) xs ((d,v) :: tl) ((i,some o) :: ol) ((1,v,[(i,some o)]) :: ra) ((rdX (Am tl) (Ak ol) ⟨some d,gd,q⟩) :: da) Kf) (hx:Lm (some o)=true:=by rfl):XD P G bad g k (⟨some d,gd,q⟩ :: xs) tl ol ra da Kf:=Adp 1 v _ (Ik h) h3 (by simp only [Gf,List.all_cons,List.all_nil,hx]; rfl)
theorem ds2 (v:AV) (j i:Oid) (o:Ob) (h:Bv (g+k) ⟨some d,gd,q⟩ (Am tl) (only (rdX (Am tl) (Ak ol) ⟨some d,gd,q⟩) (Ak ol))=some (2,v,[(j,none),(i,some o)])) (h3:XD P G bad g (k+1) xs ((d,v) :: tl) ((i,some o) :: (j,none) :: ol) ((2,v,[(j,none),(i,some o)]) :: ra) ((rdX (Am tl) (Ak ol) ⟨some d,gd,q⟩) :: da) Kf) (hx:Lm (some o)=true:=by rfl):XD P G bad g k (⟨some d,gd,q⟩ :: xs) tl ol ra da Kf:=Adp 2 v _ (Ik h) h3 (by simp only [Gf,List.all_cons,List.all_nil,hx]; rfl)
theorem Kn (j i:Oid) (o:Ob) (h:Bv (g+k) ⟨none,gd,q⟩ (Am tl) (only (rdX (Am tl) (Ak ol) ⟨none,gd,q⟩) (Ak ol))=some (2,.any,[(j,none),(i,some o)])) (h3:XD P G bad g (k+1) xs tl ((i,some o) :: (j,none) :: ol) ((2,.any,[(j,none),(i,some o)]) :: ra) ((rdX (Am tl) (Ak ol) ⟨none,gd,q⟩) :: da) Kf) (hx:Lm (some o)=true:=by rfl):XD P G bad g k (⟨none,gd,q⟩ :: xs) tl ol ra da Kf:=Apk 2 _ _ (Ik h) h3 (by simp only [Gf,List.all_cons,List.all_nil,hx]; rfl)
section
variable {fo:Opd} {ys:List Opd} {tys:List (List (Option Ty))} {F:FuncId} {caps:List AV} {rv:RV} {args0:List AV}
theorem Bk (v:AV) (us:List (Oid×Option Ob)) (zs args:List AV) (hgd:Wp gd (Am tl)) (h1:P7 (gnd (Ak ol) 8) zs=some args0) (hc:A1 P G F args rv) (hb:Ba P F=true) (h3:XW P G g (k+1) xs ((d,v) :: tl) (us.reverseAux ol) Kf) (hfo:fo.ev (Am tl)=.fn F caps:=by kernel_rfl) (hz:(ys++caps.map Opd.cst).map (Opd.ev (Am tl))=zs:=by kernel_rfl) (hn:Tq tys args0=args:=by kernel_rfl) (hr:rv.out (D6 ((d,0),g+k)) zs=(v,us):=by kernel_rfl) (hx:Gf us=true:=by rfl):XW P G g k (⟨some d,gd,.call fo ys tys⟩ :: xs) tl ol Kf:=by
 subst hz;exact Ads 1 v us (Ajk (P:=P) (G:=G) (p:=false) (n:=g+k) (d:=some d) hgd hfo h1 hn hb hc hr) h3 hx
theorem Cp (v:AV) (us:List (Oid×Option Ob)) (zs args:List AV) (hgd:Wp gd (Am tl)) (h1:P7 (gnd (only (rdX (Am tl) (Ak ol) ⟨some d,gd,.call fo ys tys⟩) (Ak ol)) 8) zs=some args0) (hc:A1 P G F args rv) (hb:Ba P F=true) (h3:XD P G bad g (k+1) xs ((d,v) :: tl) (us.reverseAux ol) ((1,v,us) :: ra) ((rdX (Am tl) (Ak ol) ⟨some d,gd,.call fo ys tys⟩) :: da) Kf) (hfo:fo.ev (Am tl)=.fn F caps:=by kernel_rfl) (hz:(ys++caps.map Opd.cst).map (Opd.ev (Am tl))=zs:=by kernel_rfl) (hn:Tq tys args0=args:=by kernel_rfl) (hr:rv.out (D6 ((d,0),g+k)) zs=(v,us):=by kernel_rfl) (hx:Gf us=true:=by rfl):XD P G bad g k (⟨some d,gd,.call fo ys tys⟩ :: xs) tl ol ra da Kf:=by
 subst hz;exact Adp 1 v us (Ajk (P:=P) (G:=G) (p:=false) (n:=g+k) (d:=some d) hgd hfo h1 hn hb hc hr) h3 hx
def Alk (l:List (Oid×Oid)) (ol us:List (Oid×Ob)) (n:Nat) (ol0:List (Oid×Option Ob)):Bool:=Aae l&&(Ix ol&&(Ani (Cq l) ol&&(Am0 ol us&&T5 n ol0)))
theorem Al3 {l:List (Oid×Oid)} {ol us:List (Oid×Ob)} {n:Nat} {ol0:List (Oid×Option Ob)} (h:Alk l ol us n ol0=true) (hR:Ahn ol0 (Cq l) ol) :
  (∀ q∈exL ol,Ak ol0 (Cq l q.1)=some (q.2.ren (Cq l)))∧(∀ q∈exL ol,∀ q'∈exL ol,Cq l q.1=Cq l q'.1->q.1=q'.1)∧(∀ q∈exL us,q.1.2=1∨(q.1.2=0∧q.1∈nmL ol))∧∀ i:Oid,i.2=n->A6 (O6 (Cq l) i ol us) (Ak ol0)=Ak (Ao (Rk (Dx (Cq l) i) us)++(Ly (Cq l) ol++ol0)):=by
 simp only [Alk,Bool.and_eq_true] at h;obtain ⟨c1,c2,c3,c4,c5⟩:=h;refine ⟨Aeb c1 hR (Af7 c2),Alx (fun p e u xss hm k=>Ju c1 ?_ k) c3 c2,Aja c4,fun i hi=>Al5 c1 c2 hR c4 (by rw [hi]; exact c5) c3⟩;unfold Ix at c2;rw [List.all_eq_true] at c2;have:=c2 _ hm;simp only [Bool.and_eq_true,beq_iff_eq] at this;exact this.1
theorem Apf (v:AV) (ul:List (Oid×Option Ob)) (l:List (Oid×Oid)) (zs:List AV) {args:List AV} {ol0 us:List (Oid×Ob)} {v0:AV} (hgd:Wp gd (Am tl)) (hc:Yp P G F args ol0 v0 us) (hb:Ba P F=true) (hR:Ahn ol (Cq l) ol0) (h1:Tc (Cq l) (Alv ((nmL ol0).map (Cq l)) (Ak ol)) zs args) (h4:∀ j∈nmL ol0,Reached zs (Ak ol) (Cq l j)) (h3:XW P G g (k+1) xs ((d,v) :: tl) (ul++ol) Kf) (hfo:fo.ev (Am tl)=.fn F caps:=by kernel_rfl) (hz:(ys++caps.map Opd.cst).map (Opd.ev (Am tl))=zs:=by kernel_rfl) (hB:Alk l ol0 us (g+k) ol=true:=by kernel_rfl) (hv:v0.ren (Dx (Cq l) ((d,0),g+k))=v:=by kernel_rfl) (hu:Ao (Rk (Dx (Cq l) ((d,0),g+k)) us)++Ly (Cq l) ol0=ul:=by kernel_rfl):XW P G g k (⟨some d,gd,.call fo ys tys⟩ :: xs) tl ol Kf:=by
 subst hv hu;obtain ⟨q1,q2,q3,q4⟩:=Al3 hB hR;exact Aix 2 _ _ _ (Anr (n:=g+k) (d:=some d) (Cq l) hgd hfo hz h1 q1 q2 h4 q3 hb hc) (q4 ((d,0),g+k) rfl) (by rw [List.append_assoc] at h3; exact h3)
end
end
-- what arguments read as
theorem C5 {g:AV->Option AV}:P7 g []=some []:=rfl
theorem A2 {g:AV->Option AV} {c d:AV} {cs ds:List AV} (h:g c=some d) (hs:P7 g cs=some ds):P7 g (c :: cs)=some (d :: ds):=by simp only [P7,h,hs]
section
variable {ob:Oid->Option Ob} {n:Nat}
theorem B6 {i:Oid} {t u:Ty} {e:TypeId} {xs:List u.D} {len:Nat} (h:ob i=some (.arr e u xs)) (hl:len=xs.length):gnd ob (n+1) (.own i t 0 len)=some (.tree u xs):=by
 subst hl;simp only [gnd,h,Nat.zero_add,Nat.le_refl,if_true,List.drop_zero,List.take_length]
theorem Qr {cs ds:List AV} (h:P7 (gnd ob n) cs=some ds):gnd ob (n+1) (.agg cs)=some (.agg ds):=by simp only [gnd,h,Option.map_some]
end
-- steps that hang on something
section
variable {n:Nat} {d:Option Nat} {f:Nat->AV} {ob:Oid->Option Ob}
theorem Akh {s:Nat} {b c:Bool} {q:Q} {r:Option Rec} (hs:f s=.bool c) (hc:c=b) (h:Bv n ⟨d,none,q⟩ f ob=r):Bv n ⟨d,some (s,b),q⟩ f ob=r:=by
 subst hc;simp only [Bv,hs,gdv,beq_self_eq_true]; exact h
theorem S8 {s:Nat} {b c:Bool} {q:Q} (hs:f s=.bool c) (hc:c= !b):Bv n ⟨d,some (s,b),q⟩ f ob=some (0,.tup [],[]):=by
 subst hc;cases b <;> simp [Bv,hs,gdv]
theorem Afy {s:Nat} {b:Bool} {q:Q} (hs:f s=.tup []):Bv n ⟨d,some (s,b),q⟩ f ob=some (0,.tup [],[]):=by
 simp [Bv,hs,gdv]
theorem Any {c x y:Opd} {b:Bool} (h:c.ev f=.bool b) (hb:b=true):Bv n ⟨d,none,.i (.pick c x y)⟩ f ob=some (0,x.ev f,[]):=by
 subst hb; simp [Bv,ev,evN,h]
theorem And {c x y:Opd} {b:Bool} (h:c.ev f=.bool b) (hb:b=false):Bv n ⟨d,none,.i (.pick c x y)⟩ f ob=some (0,y.ev f,[]):=by
 subst hb; simp [Bv,ev,evN,h]
theorem Apg {sz:Nat} {x i:Opd} {t:Ty} {xs:List t.D} {y:t.D} {k:IntKind} {m:Int} {j:Nat} (hx:(x.ev f).un=.tree t xs) (hi:i.ev f=.int k m) (hs:sz=t.size) (h0:0<=m) (hj:m.toNat=j) (hy:xs[j]? =some y):Bv n ⟨d,none,.i (.idx sz x i)⟩ f ob=some (0,.telt t y 0,[]):=by
 subst hs hj;simp [Bv,ev,evN,hx,hi,h0,hy]
theorem Apo {sz:Nat} {x i:Opd} {t:Ty} {o:Oid} {len:Nat} {k:IntKind} {m:Int} {j:Nat} (hx:x.ev f=.own o t 0 len) (hi:i.ev f=.int k m) (hs:sz=t.size) (h0:0<=m) (hj:m.toNat=j) (hl:j<len):Bv n ⟨d,none,.i (.idx sz x i)⟩ f ob=some (0,.elt o j 0,[]):=by
 subst hs hj;have:m<(len:Int):=by omega
 simp [Bv,ev,evN,hx,hi,h0,AV.un,this]
theorem Aef {mt:TypeId} {ok:Bool} {x y:Opd} {t:Ty} {es:List (Int×t.D)} {k:Int} (hx:x.ev f=.mtree mt t es) (hy:y.ev f=.int .i64 k) (h:Ib k) (h3:k3 Tryd.prog mt=false:=by kernel_rfl):Bv n ⟨d,none,.i (.look mt ok x y)⟩ f ob=some (0,Aay ok t es k,[]):=by
 simp [Bv,ev,evN,hx,hy,Yo h h3]
theorem Apy {mt:TypeId} {x y:Opd} {i:Oid} {t:Ty} {es:List (Int×t.D)} {k:Int} (hx:x.ev f=.mp i) (hy:y.ev f=.int .i64 k) (hob:ob i=some (.map mt t es)) (h:Ib k) (h3:k3 Tryd.prog mt=false:=by kernel_rfl):Bv n ⟨d,none,.del mt x y⟩ f ob=some (2,.any,[(i,none),(i,some (.map mt t (I2 es k)))]):=by
 simp [Bv,ev,Rq,hx,hy,hob,Yo h h3]
theorem Apj {mt:TypeId} {x y z:Opd} {i:Oid} {es:List (Int×Bool)} {k:Int} {nv:Bool} (hx:x.ev f=.mp i) (hy:y.ev f=.int .i64 k) (hz:z.ev f=.bool nv) (hob:ob i=some (.map mt .bool es)) (h:Ib k∧es.length<1073741824) (h3:k3 Tryd.prog mt=false:=by kernel_rfl):Bv n ⟨d,none,.upd mt x y z⟩ f ob=some (2,.any,[(i,none),(i,some (.map mt .bool (Rl es k nv)))]):=by
 simp [Bv,ev,Sd,hx,hy,hz,hob,Yo h.1 h3,h.2]
theorem H9 {one:Bool} {m:Nat} {x:Opd} {i:Oid} {j k:Nat} {e:TypeId} {t:Ty} {xs:List t.D} {y:t.D} {c:AV} (hx:x.ev f=.elt i j k) (hob:ob i=some (.arr e t xs)) (hy:xs[j]? =some y) (hc:Ev one m k (t.av y)=some c):Bv n ⟨d,none,.i (.ld one m x)⟩ f ob=some (1,c,[]):=by
 simp [Bv,ev,evN,evR,hx,hob,hy,hc]
theorem J1 {one:Bool} {m:Nat} {x y:Opd} {i:Oid} {j k:Nat} {e:TypeId} {t:Ty} {xs:List t.D} {x0 x1:t.D} {cs:List AV} (hx:x.ev f=.elt i j k) (hob:ob i=some (.arr e t xs)) (hy:xs[j]? =some x0) (hc:N7 one m k (t.av x0) (y.ev f)=some cs) (hd:t.ofAV cs=some x1):Bv n ⟨d,none,.st one m x y⟩ f ob=some (2,.any,[(i,none),(i,some (.arr e t (xs.set j x1)))]):=by
 simp [Bv,ev,Agu,hx,hob,hy,hc,hd]
theorem Mk {e:TypeId} {t:Ty} {by_:Nat} {l c:Opd} {k k':IntKind} {m m':Int} {j:Nat} (hl:l.ev f=.int k m) (hc:c.ev f=.int k' m') (h:0<=m∧m<=m'∧m'<=1073741824∧(by_:Int)*m'<=140737488355328) (hj:m.toNat=j):Bv n ⟨d,none,.make e t by_ l c⟩ f ob=some (1,.own ((d.getD 0,0),n) t 0 j,[(((d.getD 0,0),n),some (.arr e t (List.replicate j t.dflt)))]):=by
 subst hj;simp only [Bv,ev,Aap,hl,hc,if_pos h]
theorem Pq {t t':Ty} {i:Oid} {e:TypeId} {xs:List t.D} {len:Nat} (h:ob i=some (.arr e t xs)) (hl:len=xs.length):F3 ob t (.own i t' 0 len)=some xs:=by
 subst hl;simp only [F3,h,Nat.zero_add,Nat.le_refl,if_true,Ty.eq?_self,Ef,List.drop_zero,List.take_length]
theorem Ai7 {t:Ty} {xs:List t.D}:F3 ob t (.tree t xs)=some xs:=by simp only [F3,Ty.eq?_self,Ef]
theorem Mj {e:TypeId} {t t':Ty} {by_:Nat} {x y:Opd} {c:AV} {ys xs zs:List t.D} {j:Oid} {len:Nat} (hx:x.ev f=.own j t' 0 len) (hob:ob j=some (.arr e t xs)) (hl:len=xs.length) (hy:y.ev f=c) (hs:F3 ob t c=some ys) (hz:zs=xs++ys) (h:xs.length+ys.length<=1073741824∧(xs.length+ys.length)*by_<=140737488355328) :
  Bv n ⟨d,none,.append e t by_ x y⟩ f ob=some (2,.own (j.1,n) t 0 zs.length,[(j,none),((j.1,n),some (.arr e t zs))]):=by
 subst hl hz;simp only [Bv,ev,Js,hx,hy,hs,hob,Ty.eq?_self,Nat.le_refl,true_and,h.1,h.2,and_self,if_true,Ef,List.take_length,List.length_append]
theorem Aph {x y:Opd} {j:Nat} (hx:x.ev f=.int .i64 j) (hy:y.ev f=.int .i64 1) (h:j+1<4611686018427387904):Bv n ⟨d,none,.i (.bin .add x y)⟩ f ob=some (0,.int .i64 ((j+1:Nat):Int),[]):=by
 have:IntKind.i64.wrap ((j:Int)+1)=((j+1:Nat):Int):=by rw [Go.IntWalk.i64_in _ (by omega)]; rfl
 simp [Bv,ev,evN,Adh,hx,hy,this]
theorem Age {x y:Opd} {k:IntKind} {a b:Int} (hx:x.ev f=.int k a) (hy:y.ev f=.int k b) (h:b≠0):Bv n ⟨d,none,.i (.bin .rem x y)⟩ f ob=some (0,.int k (a.tmod b),[]):=by
 simp [Bv,ev,evN,Adh,hx,hy,h]
end
theorem Ag {c:Opd} {x y:AC} {R:AE->St->Prop} {S:St} {t:Bool} (ht:t=true) (h1:awp P G x R S) (h:c.ev S.tm=.bool t:=by kernel_rfl):awp P G (.cond c x y) R S:=by
 subst ht; exact .inl ⟨true,h,fun _=>h1,fun h=>(nomatch h)⟩
theorem Af {c:Opd} {x y:AC} {R:AE->St->Prop} {S:St} {t:Bool} (ht:t=false) (h2:awp P G y R S) (h:c.ev S.tm=.bool t:=by kernel_rfl):awp P G (.cond c x y) R S:=by
 subst ht; exact .inl ⟨false,h,fun h=>(nomatch h),fun _=>h2⟩
theorem Ai {i:Nat} {a:AC} {R:AE->St->Prop} {S:St} (h:awp P G a (Jd i R) S):awp P G (.block i a) R S:=h
theorem Aj7 {a:AC} {R:AE->St->Prop} {S:St} {α:Type} (I:α->St->Prop) (μ:α->Nat) (h0:∃ s S0,Weak S S0∧I s S0) (h1:∀ s S1,I s S1->awp P G a (Kx (fun S2=>∃ s' S3,Weak S2 S3∧I s' S3∧μ s'<μ s) R) S1):awp P G (.loop a) R S:=⟨α,I,μ,h0,h1⟩
theorem A0 {i:Nat} {R:AE->St->Prop} {S:St} (h:R (.exit i) S):awp P G (.exit i) R S:=h
theorem Aj {R:AE->St->Prop} {S:St} (h:R .normal S):awp P G .skip R S:=h
theorem Ah {R:AE->St->Prop} {S:St} (h:R .ret S):awp P G .ret R S:=h
end
section
variable {K:St->Prop} {R:AE->St->Prop} {S:St} {i j:Nat}
theorem tn_ (h:K S):Kx K R .normal S:=h
theorem te_ (h:R (.exit i) S):Kx K R (.exit i) S:=h
theorem tr_ (h:R .ret S):Kx K R .ret S:=h
theorem bn_ (h:R .normal S):Jd i R .normal S:=h
theorem be_ (h:R .normal S):Jd i R (.exit i) S:=by simpa [Jd] using h
theorem br_ (h:R .ret S):Jd i R .ret S:=h
end
def tmL:Nat->List AV->List (Nat×AV)
 | _,[]=>[]
 | k,v :: r=>(k,v) :: tmL (k+1) r
theorem Ahe:∀ (l:List AV) (k i:Nat),Am (tmL k l) (k+i)=l.getD i .any
 | [],k,i=>by simp [tmL,Am]
 | v :: r,k,i=>by
  cases i with
  | zero=>simp [tmL,Am]
  | succ i =>
   have:=Ahe r (k+1) i;simp only [tmL,Am];rw [if_neg (by omega),show k+(i+1)=k+1+i by omega,this];simp
theorem Aiz (args:List AV):(fun i=>args.getD i .any)=Am (tmL 0 args):=by
 funext i;have:=Ahe args 0 i;rw [Nat.zero_add] at this;exact this.symm
theorem St.init_eq (args:List AV):St.init args=⟨Am (tmL 0 args),Ak [],1⟩:=by
 unfold St.init;rw [Aiz];rfl
theorem Qz {tl:List (Nat×AV)} {ol:List (Oid×Option Ob)} {g:Nat} (s:Nat) (e:TypeId) (t:Ty) (ht:t.flat=true) (hs:Am tl s=.nils):Weak ⟨Am tl,Ak ol,g⟩ ⟨Am ((s,.own ((s,0),g) t 0 0) :: tl),Ak ((((s,0),g),some (.arr e t [])) :: ol),g+1⟩:=by
 have:=Amp (S:=⟨Am tl,Ak ol,g⟩) s e t ht hs;rw [Nm] at this;have e2:upd (Ak ol) ((s,0),g) (some (.arr e t []))=Ak ((((s,0),g),some (.arr e t [])) :: ol):=J2 rfl;rw [e2] at this;exact this
theorem Br {tl:List (Nat×AV)} {ol:List (Oid×Option Ob)} {g:Nat} (s:Nat) (v v':AV) (h:Am tl s=v) (e:v=v'):Weak ⟨Am tl,Ak ol,g⟩ ⟨Am ((s,v') :: tl),Ak ol,g⟩:=by
 subst e
 have:Am ((s,v) :: tl)=Am tl:=by
  funext i;simp only [Am];split
  ·rename_i e; rw [e]; exact h.symm
  ·rfl
 rw [this]; exact Weak.refl _
theorem Jy {tl:List (Nat×AV)} {ol:List (Oid×Option Ob)} {g:Nat} (j:Oid) (o o':Ob) (h:Ak ol j=some o) (e:o=o') (hx:Lm (some o)=true:=by rfl):Weak ⟨Am tl,Ak ol,g⟩ ⟨Am tl,Ak ((j,some o') :: ol),g⟩:=by
 subst e
 have:Ak ((j,some o) :: ol)=Ak ol:=by
  rw [← J2 hx,Al8 _ _ _ h]
 rw [this]; exact Weak.refl _
theorem Aa1 {tl:List (Nat×AV)} {ol:List (Oid×Option Ob)} {g:Nat} (s:Nat) (e:TypeId) (t:Ty) (hs:Am tl s=.nils):Weak ⟨Am tl,Ak ol,g⟩ ⟨Am ((s,.own ((s,0),g) t 0 0) :: tl),Ak ((((s,0),g),some (.vec e 1 0 [])) :: ol),g+1⟩:=by
 have:=Aj6 (S:=⟨Am tl,Ak ol,g⟩) s e t hs;rw [Nm] at this;have e2:upd (Ak ol) ((s,0),g) (some (.vec e 1 0 []))=Ak ((((s,0),g),some (.vec e 1 0 [])) :: ol):=J2 rfl;rw [e2] at this;exact this
theorem Cz {tl:List (Nat×AV)} {ol:List (Oid×Option Ob)} {g:Nat} (s:Nat) (c:Oid) (k:Nat) (ty:TypeId) (cs ds:List AV) (e:TypeId) (t:Ty) (hb:Ak ol c=some (.cells ty cs)) (hk:cs[k]? =some .nils) (hd:cs.set k (.own ((s,0),g) t 0 0)=ds) :
  Weak ⟨Am tl,Ak ol,g⟩ ⟨Am tl,Ak ((c,some (.cells ty ds)) :: (((s,0),g),some (.vec e 1 0 [])) :: ol),g+1⟩:=by
 subst hd;have:=Yk (S:=⟨Am tl,Ak ol,g⟩) s c k ty cs e t hb hk;have e2:upd (upd (Ak ol) ((s,0),g) (some (.vec e 1 0 []))) c (some (.cells ty (cs.set k (.own ((s,0),g) t 0 0))))=Ak ((c,some (.cells ty (cs.set k (.own ((s,0),g) t 0 0)))) :: (((s,0),g),some (.vec e 1 0 [])) :: ol):=by rw [J2 rfl,J2 rfl]
 rw [← e2];exact this
def Aoo (ol us:List (Oid×Ob)) (args:List AV) (v:AV):Bool :=
 (Ix ol&&(Ix us&&((ol.all fun q=>q.1.2==0)&&((us.all fun q=>q.1.2==1||(!q.2.isPool&&(B7 ol).contains q.1))&&(ndB (B7 us)&&ndB (B9 us))))))&&((ol.all fun q=>q.2.clo1 (B7 ol))&&((us.all fun q=>q.2.hp1 (B7 us))&&(AV.cloL (B7 ol) args&&AV.hpB (B7 us) v)))
def Aff (ol:List (Oid×Ob)):List (Oid×Ob)->Prop
 | []=>True
 | q :: r=>(match q.2 with
  | .mat _ p u xss=>∃ e,(p,Ob.pool e u xss)∈ol
  | _=>True)∧Aff ol r
theorem Sf {ol:List (Oid×Ob)}:∀ {l:List (Oid×Ob)},Aff ol l->∀ i e p u xss,(i,Ob.mat e p u xss)∈l->∃ e,(p,Ob.pool e u xss)∈ol
 | _ :: _,h,i,e,p,u,xss,hm=>by
  rcases List.mem_cons.1 hm with rfl | hm
  ·exact h.1
  ·exact Sf h.2 i e p u xss hm
theorem Ai3 {ol:List (Oid×Ob)} {p:Oid} {e:TypeId} {u:Ty} {xss:List (List u.D)}:(p,Ob.pool e u xss)∈ol->∀ k,k<xss.length->kid p k∈nmL ol:=by
 induction ol with
 | nil=>intro h; cases h
 | cons x r ih =>
  obtain ⟨x1,x2⟩:=x;intro h k hk;rcases List.mem_cons.1 h with h | h
  ·cases h;simp only [nmL,exL,List.map_append,List.mem_append];refine .inl (List.mem_map.2 ⟨(kid p k,.arr e u xss[k]),List.mem_map.2 ⟨(xss[k],k),?_,rfl⟩,rfl⟩);rw [List.mem_zipIdx_iff_getElem?]; exact gEg hk
  ·have:=ih h k hk;cases x2 <;> simp only [nmL,exL,List.map_cons,List.map_append] at this⊢ <;> first | exact List.mem_cons_of_mem _ this | exact List.mem_append_right _ this
theorem Ph {ol:List (Oid×Ob)} {i:Oid} (h:i∈B7 ol):i∈nmL ol:=by
 obtain ⟨o,ho,hp⟩:=Al6 h;exact List.mem_map.2 ⟨_,Xt ho hp,rfl⟩
theorem Ao1 {D:Oid->Prop} {p:Oid} {u:Ty} (xss:List (List u.D)) (h:∀ k,k<xss.length->D (kid p k)):AV.hpL D (hdL p u xss):=by
 have key:∀ l:List (List u.D×Nat),(∀ x∈l,D (kid p x.2))->AV.hpL D (l.map fun x=>.own (kid p x.2) u 0 x.1.length):=by
  intro l
  induction l with
  | nil=>intro _; trivial
  | cons x l ih=>intro h; exact ⟨h x (by simp),ih fun y hy=>h y (by simp [hy])⟩
 refine key _ fun x hx=>h _ ?_
 obtain ⟨row,k⟩:=x;rw [List.mem_zipIdx_iff_getElem?] at hx;exact (gSi.1 hx).1
theorem Apc {D:List Oid} (o:Ob) (h:o.clo1 D=true) (hp:o.isPool=false) (hm:∀ e p u xss,o≠.mat e p u xss):o.exp.cloP (·∈D):=by
 cases o with
 | cells _ cs=>exact AV.cloPL_of cs h
 | vec _ _ _ cs=>exact AV.cloPL_of cs h
 | mat e p u xss=>exact absurd rfl (hm _ _ _ _)
 | arr _ _ _=>trivial
 | map _ _ _=>trivial
 | pool _ _ _=>cases hp
 | tv e m t xs=>exact Ah5 xs
theorem Aps {D:List Oid} (o:Ob) (h:o.hp1 D=true) (hp:o.isPool=false) (hm:∀ e p u xss,o≠.mat e p u xss):o.exp.hp (·∈D):=by
 cases o with
 | cells _ cs=>exact AV.hpB_PL cs h
 | vec _ _ _ cs=>exact AV.hpB_PL cs h
 | mat e p u xss=>exact absurd rfl (hm _ _ _ _)
 | arr _ _ _=>trivial
 | map _ _ _=>trivial
 | pool _ _ _=>cases hp
 | tv e m t xs=>cases h
theorem cloP_mono {D E:Oid->Prop} (hd:∀ i,D i->E i) (o:Ob) (h:o.cloP D):o.cloP E:=by
 cases o <;> first | exact AV.cloPL_mono hd _ h | exact h
theorem hp_mono {D E:Oid->Prop} (hd:∀ i,D i->E i) (o:Ob) (h:o.hp D):o.hp E:=by
 cases o <;> first | exact AV.hpL_mono hd _ h | exact h
section
variable {P:Program} {G:World->Prop} (hfol:P.follows .mixedOrders=true) {g:FuncId} {fn:Func} (hf:P.funcs[g]? =some fn) {ac:AC} {rs:List Res} (hc:Aq P fn=some (ac,rs)) {args:List AV} {r:RV} {n:Nat} (hN:fn.ntmps=n) (hn:args.length<=n)
include hfol hf hc hN hn
theorem Av [IsP P] {tl:List (Nat×AV)} (htl:tmL 0 args=tl) (h:awp P G ac (fun e S=>∃ S',Weak S S'∧(e=.normal∨e=.ret)∧RetOK [] rs S' r) ⟨Am tl,Ak [],1⟩):A1 P G g args r:=by
 refine Anh hfol hf hc hN hn ?_;rw [St.init_eq,htl];exact h
omit hN hn in
theorem Akb [IsP P] (hN:fn.ntmps=n) (hn:args.length<=n) {tl:List (Nat×AV)} (htl:tmL 0 args=tl) {ol us:List (Oid×Ob)} {v:AV} (hB:Aoo ol us args v=true) (hm1:Aff ol ol) (hm2:Aff us us)
  (h:awp P G ac (fun e S=>∃ S',Weak S S'∧(e=.normal∨e=.ret)∧(∃ rvs,Res.evL S'.tm S'.ob rs=some rvs∧v=Ahc rvs)∧∀ q∈exL us,S'.ob q.1=some q.2) ⟨Am tl,Ak (Ao ol),1⟩):Yp P G g args ol v us:=by
 simp only [Aoo,Bool.and_eq_true] at hB;obtain ⟨⟨a1,a2,a3,a4,a5,a6⟩,b1,b2,b3,b4⟩:=hB;rw [List.all_eq_true] at a3 a4 b1 b2
 have h0:∀ {l:List (Oid×Ob)},Ix l=true->∀ q∈l,q.1.1.2=0:=fun h q hq=>by
  unfold Ix at h;rw [List.all_eq_true] at h;have:=h q hq;simp only [Bool.and_eq_true,beq_iff_eq] at this;exact this.1
 refine Alu hfol hf hc hN hn (fun q hq=>?_) (Aom (F4 a5) (F4 a6) (h0 a2)) (fun q hq=>?_) (AV.cloPL_mono (fun i hi=>Ph hi) _ (AV.cloPL_of args b3)) (AV.hp_mono (fun i hi=>Ph hi) _ (AV.hpB_P v b4)) ?_
 ·rcases Hy hq with ⟨p,e,u,xss,k,row,m1,m2,rfl⟩ | ⟨o,m1,m2,m3⟩
  ·have:=a3 _ m1;rw [beq_iff_eq] at this;exact ⟨this,trivial⟩
  ·have:=a3 _ m1;refine ⟨by simpa using this,?_⟩;rw [m3];by_cases hmt:∃ e p u xss,o=.mat e p u xss
   ·obtain ⟨e,p,u,xss,rfl⟩:=hmt;obtain ⟨e',hp⟩:=Sf hm1 _ _ _ _ _ m1;exact Ale xss fun k hk=>Ai3 hp k hk
   ·exact cloP_mono (fun i hi=>Ph hi) _ (Apc o (b1 _ m1) m2 fun e p u xss h=>hmt ⟨e,p,u,xss,h⟩)
 ·rcases Hy hq with ⟨p,e,u,xss,k,row,m1,m2,rfl⟩ | ⟨o,m1,m2,m3⟩
  ·have:=a4 _ m1;simp only [Ob.isPool,Bool.not_true,Bool.false_and,Bool.or_false,beq_iff_eq] at this;exact ⟨.inl this,trivial⟩
  ·have:=a4 _ m1;simp only [Bool.or_eq_true,Bool.and_eq_true,beq_iff_eq] at this;refine ⟨this.imp id fun h=>Ph (List.contains_iff_mem.1 h.2),?_⟩;rw [m3];by_cases hmt:∃ e p u xss,o=.mat e p u xss
   ·obtain ⟨e,p,u,xss,rfl⟩:=hmt;obtain ⟨e',hp⟩:=Sf hm2 _ _ _ _ _ m1;exact Ao1 xss fun k hk=>Ai3 hp k hk
   ·exact hp_mono (fun i hi=>Ph hi) _ (Aps o (b2 _ m1) m2 fun e p u xss h=>hmt ⟨e,p,u,xss,h⟩)
 ·rw [Aiz,htl];exact h
end
theorem Bm {rs:List Res} {f:Nat->AV} {ob:Oid->Option Ob} {g:Nat} {r:RV} (avs:List AV) {vs:List Value} {e:AE} (h2:PartsR vs ob avs r.ps) (he:e=.normal∨e=.ret:=by simp) (h1:Res.evL f ob rs=some avs:=by kernel_rfl) (h3:ndB (Ab7 ob (Ts avs))=true:=by kernel_rfl) (h4:r.tup=decide (rs.length≠1):=by kernel_rfl):∃ S',Weak ⟨f,ob,g⟩ S'∧(e=.normal∨e=.ret)∧RetOK vs rs S' r :=
 ⟨_,Weak.refl _,he,avs,r.ps,h1,h2,F4 h3,by cases r; cases h4; rfl⟩
theorem Apz {rs:List Res} {S:St} {tl:List (Nat×AV)} {g:Nat} {v:AV} {us:List (Oid×Ob)} {e:AE} (rvs:List AV) (hw:Weak S ⟨Am tl,Ak (Ao us),g⟩) (he:e=.normal∨e=.ret:=by simp) (h1:Res.evL (Am tl) (Ak (Ao us)) rs=some rvs:=by kernel_rfl) (hv:v=Ahc rvs:=by kernel_rfl) (h2:(Ix us&&(ndB (B7 us)&&ndB (B9 us)))=true:=by kernel_rfl) :
  ∃ S',Weak S S'∧(e=.normal∨e=.ret)∧(∃ rvs,Res.evL S'.tm S'.ob rs=some rvs∧v=Ahc rvs)∧∀ q∈exL us,S'.ob q.1=some q.2:=by
 refine ⟨_,hw,he,⟨rvs,h1,hv⟩,fun q hq=>?_⟩;simp only [Bool.and_eq_true] at h2;obtain ⟨a1,a2,a3⟩:=h2
 have h0:∀ q∈us,q.1.1.2=0:=fun q hq=>by
  unfold Ix at a1;rw [List.all_eq_true] at a1;have:=a1 q hq;simp only [Bool.and_eq_true,beq_iff_eq] at this;exact this.1
 have:=N8 (rest:=[]) (F4 a2) (F4 a3) (fun p hp=>by obtain ⟨e,u,xss,hm⟩:=Ao7 hp; exact h0 _ hm) (fun i hi p hp k e=>by
  obtain ⟨o,ho,_⟩:=Al6 hi;have:=h0 _ ho;rw [e] at this;simp [kid] at this) q hq
 rwa [List.append_nil] at this
section
variable {vs:List Value} {ob:Oid->Option Ob}
theorem Aoe {cs r:List AV} {ls:List RL} {ps:List (Bool×List RL)} (h1:LeavesR vs ob cs ls) (h2:PartsR vs ob r ps):PartsR vs ob (.agg cs :: r) ((true,ls) :: ps):=⟨ls,ps,rfl,h1,h2⟩
theorem Aw {c:AV} {r:List AV} {l:RL} {ps:List (Bool×List RL)} (hc:c.one=true) (h1:LeafR vs ob c l) (h2:PartsR vs ob r ps):PartsR vs ob (c :: r) ((false,[l]) :: ps):=by
 rw [N4 (by rintro ⟨_,rfl⟩; cases hc)];exact ⟨l,ps,rfl,h1,h2⟩
theorem Ay:PartsR vs ob [] []:=rfl
theorem Ss {c:AV} {cs:List AV} {l:RL} {ls:List RL} (h1:LeafR vs ob c l) (h2:LeavesR vs ob cs ls):LeavesR vs ob (c :: cs) (l :: ls):=⟨l,ls,rfl,h1,h2⟩
theorem Aog:LeavesR vs ob [] []:=rfl
theorem Ap9 {c:AV} {l:RL} (h:Tb ob c=some l):LeafR vs ob c l:=.inl (.inl h)
theorem Fk {i:Oid} {t u:Ty} {e:TypeId} {xs:List u.D} {len:Nat} (h:ob i=some (.arr e u xs)) (hl:len=xs.length):LeafR vs ob (.own i t 0 len) (.new e u xs):=by
 subst hl;exact .inl (.inl (by simp only [Tb,h,Nat.le_refl,and_self,if_true,List.take_length]))
theorem Aek {e:TypeId} {t:Ty} (h:t.flat=true):LeafR vs ob .nils (.new e t []):=.inl (.inr (.inr ⟨e,t,rfl,rfl,h⟩))
end
end
section
open Go.RowKit Go.Deep
abbrev tm (n:Nat):Opd:=.tmp n
abbrev cb (b:Bool):Opd:=.cst (.bool b)
abbrev ci (n:Int):Opd:=.cst (.int .i64 n)
abbrev xo (d:Nat) (q:Q):X:=⟨some d,none,q⟩
abbrev xn (q:Q):X:=⟨none,none,q⟩
abbrev qm (x:Opd):Q:=.i (.mov x)
abbrev ql (x:Opd):Q:=.i (.ld true 1 x)
abbrev qs (x y:Opd):Q:=.st true 1 x y
abbrev qf (k:Nat) (x:Opd):Q:=.i (.fld k x)
abbrev qb (o:BinOp) (x y:Opd):Q:=.i (.bin o x y)
abbrev qx (sz:Nat) (x y:Opd):Q:=.i (.idx sz x y)
abbrev qc (f:FuncId) (xs:List Opd) (tys:List (List (Option Ty))):Q:=.call (.cst (.fn f [])) xs tys
abbrev rg (xs:List X):AC:=.region xs false []
abbrev ai (n:Int):AV:=.int .i64 n
abbrev oi (a b:Nat):Oid:=((a,0),b)
def Aou (d:Option Nat) (v:AV) (tl:List (Nat×AV)):List (Nat×AV) :=
 match d with
 | some d=>(d,v) :: tl
 | none=>tl
theorem Ao5 (d:Option Nat) (v:AV) (tl:List (Nat×AV)):Kv d v (Am tl)=Am (Aou d v tl):=by
 cases d with
 | none=>rfl
 | some d=>simp only [Kv,Aou,Nm]
noncomputable def Aet (g:Nat):Nat->Nat->List X->List (Nat×AV)->List (Oid×Option Ob)->Option (List (Nat×AV)×List (Oid×Option Ob))
 | 0,_,_,tl,ol=>some (tl,ol)
 | _+1,_,[],_,_=>none
 | n+1,k,x :: xs,tl,ol=>match Bv (g+k) x (Am tl) (Ak ol) with
  | some (_,v,us)=>if Gf us then Aet g n (k+1) xs (Aou x.dst v tl) (us.reverseAux ol) else none
  | none=>none
theorem Ap2 {P:Program} {G:World->Prop} {g:Nat} {Kf:List (Nat×AV)->List (Oid×Option Ob)->Prop}:∀ (n k:Nat) (xs:List X) (tl:List (Nat×AV)) (ol:List (Oid×Option Ob)) (r:List (Nat×AV)×List (Oid×Option Ob)),Aet g n k xs tl ol=some r->XW P G g (k+n) (xs.drop n) r.1 r.2 Kf->XW P G g k xs tl ol Kf
 | 0,k,xs,tl,ol,r,h,hk=>by
  obtain rfl:=osj h;exact hk
 | n+1,k,[],tl,ol,r,h,hk=>by cases h
 | n+1,k,x :: xs,tl,ol,r,h,hk=>by
  simp only [Aet] at h;split at h
  ·rename_i c v us hst;split at h
   ·rename_i hx;obtain ⟨rs,tl',ol',h1,h2⟩:=Ap2 (P:=P) (G:=G) n (k+1) xs _ _ r h (by rw [show k+1+n=k+(n+1) by omega]; exact hk);exact ⟨(c,v,us) :: rs,tl',ol',⟨_,_,rfl,Ik hst,by rw [Ao5,H7 _ _ hx]; exact h1⟩,h2⟩
   ·cases h
  ·cases h
theorem rsB {P:Program} {G:World->Prop} {g k:Nat} {xs:List X} {tl:List (Nat×AV)} {ol:List (Oid×Option Ob)} {Kf:List (Nat×AV)->List (Oid×Option Ob)->Prop} (n:Nat) (hk:XW P G g (k+n) (xs.drop n) ((Aet g n k xs tl ol).getD ([],[])).1 ((Aet g n k xs tl ol).getD ([],[])).2 Kf) (h:(Aet g n k xs tl ol).isSome=true:=by kernel_rfl):XW P G g k xs tl ol Kf:=by
 obtain ⟨r,hr⟩:=Option.isSome_iff_exists.1 h;rw [hr] at hk;exact Ap2 n k xs tl ol r hr hk
theorem Al {P:Program} {G:World->Prop} {g:Nat} {xs:List X} {bad:List (Nat×Nat)} {y:AC} {R:AE->St->Prop} {tl:List (Nat×AV)} {ol:List (Oid×Option Ob)} (h:awp P G y R ⟨Am ((Aet g xs.length 0 xs tl ol).getD ([],[])).1,Ak ((Aet g xs.length 0 xs tl ol).getD ([],[])).2,g+xs.length⟩) (hs:(Aet g xs.length 0 xs tl ol).isSome=true:=by kernel_rfl):awp P G (.seq (.region xs false bad) y) R ⟨Am tl,Ak ol,g⟩:=by
 refine Ab (Aa (g+xs.length) (rsB xs.length (by rw [List.drop_length]; exact Ap (tn_ ⟨_,Weak.refl _,h⟩)) hs) rfl)
section
variable {n:Nat} {d:Option Nat} {f:Nat->AV} {ob:Oid->Option Ob} {ol:List (Oid×Option Ob)}
theorem H1 {x y:Opd} {o q:Oid} {e1 e2:TypeId} {u:Ty} {t':Ty} {b:Nat} {p:Oid} {xss:List (List u.D)} {cs:List AV} {len:Nat} (hx:x.ev f=.own o t' 0 len) (hob:ob o=some (.vec e1 1 xss.length (hdL p u xss))) (hl:len=xss.length) {t2:Ty} (hy:y.ev f=.own q t2 0 1) (hq:ob q=some (.vec e2 1 1 cs)) (hc:cs.length=1) (h:xss.length+1<=1073741824∧(xss.length+1)*b<=140737488355328) :
  Bv n ⟨d,none,.appV e1 (.slice u) b x y⟩ f ob=some (2,.own (o.1,n) (.slice u) 0 (xss.length+1),[(o,none),((o.1,n),some (.vec e1 1 (xss.length+1) (hdL p u xss++cs)))]):=by
 subst hl;have h1:List.take (xss.length*1) (hdL p u xss)=hdL p u xss:=by rw [Nat.mul_one]; exact List.take_of_length_le (by rw [Of]; exact Nat.le_refl _)
 have h2:List.take (1*1) (List.drop (0*1) cs)=cs:=by simp only [Nat.zero_mul,List.drop_zero,Nat.mul_one]; exact List.take_of_length_le (by omega)
 simp only [Bv,ev,Kz,hx,hy,Agh,hq,hob,Ty.size,true_and,Nat.zero_add,Nat.le_refl,if_true,h1,h2,h.1,h.2,and_self]
theorem Ja {i:Oid} {e:TypeId} {t:Ty} {sz:Nat} {xs:List Opd} {r:Rec} (h:(Adz f i e t sz xs).map (fun r=>((1:Nat),r.1,r.2))=some r):evL f i (.mkV e t sz xs)=some r:=by
 simp only [evL];cases hq:Adz f i e t sz xs with
 | none=>rw [hq] at h; cases h
 | some q=>rw [hq] at h; obtain ⟨v,us⟩:=q; exact h
theorem Aob {i:Oid} {e:TypeId} (e':TypeId) {u:Ty} {b:Nat} {x y:Opd} {k k':IntKind} {m c:Int} {j:Nat} (hx:x.ev f=.int k m) (hy:y.ev f=.int k' c) (h:0<=m∧m<=c∧c<=1073741824∧(b:Int)*c<=140737488355328) (hfl:u.flat=true) (hj:m.toNat=j) :
  Agr f i (.makeV e (.slice u) b [.nils] x y) (1,RV.out ⟨false,[(false,[.newM e e' u (List.replicate j [])])]⟩ (D6 i) []):=by
 subst hj;exact ⟨e,e',u,b,x,y,k,k',m,c,rfl,hx,hy,h,hfl,rfl⟩
theorem Ang {i:Oid} {e e':TypeId} {u:Ty} {xss:List (List u.D)} (h:T5 i.2 ol=true):A6 (RV.out ⟨false,[(false,[.newM e e' u xss])]⟩ (D6 i) []).2 (Ak ol)=Ak ((D6 i 0,some (.mat e (D6 i 0) u xss)) :: (D6 i 0,some (.pool e' u xss)) :: ol):=by
 have e0:(RV.out ⟨false,[(false,[.newM e e' u xss])]⟩ (D6 i) []).2=(D6 i 0,some (.vec e 1 xss.length (hdL (D6 i 0) u xss))) :: (Z7 (D6 i 0) e' u xss++[]):=rfl;rw [e0,List.append_nil];show A6 (Z7 (D6 i 0) e' u xss) (upd (Ak ol) (D6 i 0) (some (.vec e 1 xss.length (hdL (D6 i 0) u xss))))=_
 rw [J2 rfl,Agy (fun k=>by
  have:Ak ((D6 i 0,some (.vec e 1 xss.length (hdL (D6 i 0) u xss))) :: ol) (kid (D6 i 0) k)=if kid (D6 i 0) k=D6 i 0 then some (.vec e 1 xss.length (hdL (D6 i 0) u xss)) else Ak ol (kid (D6 i 0) k):=by simp only [Ak]
  rw [this,if_neg (fun e=>by have:=congrArg (fun i:Oid=>i.1.2) e; simp [kid,D6] at this)];exact Nu h _ rfl)]
 funext j;have h2:∀ j,Ak ((D6 i 0,some (.vec e 1 xss.length (hdL (D6 i 0) u xss))) :: ol) j=if j=D6 i 0 then some (.vec e 1 xss.length (hdL (D6 i 0) u xss)) else Ak ol j:=fun j=>by simp only [Ak]
 rw [Pg,Kr,Kr,h2];by_cases hj:j=D6 i 0
 ·subst hj;rw [if_pos rfl,if_neg (fun h=>h.2.2 rfl),if_pos rfl]
 ·rw [if_neg hj,if_neg hj]
end
section
variable {P:Program} {G:World->Prop} {g k d:Nat} {gd:Option (Nat×Bool)} {q:Q} {xs:List X} {tl:List (Nat×AV)} {ol:List (Oid×Option Ob)} {bad:List (Nat×Nat)} {ra:List Rec} {da:List (List Oid)} {Kf:List (Nat×AV)->List (Oid×Option Ob)->Prop}
theorem Aj0 (v:AV) (i:Oid) (o:Ob) (hgd:Wp gd (Am tl)) (h:evL (Am tl) ((d,0),g+k) q=some (1,v,[(i,some o)])) (h3:XW P G g (k+1) xs ((d,v) :: tl) ((i,some o) :: ol) Kf) (hx:Lm (some o)=true:=by rfl):XW P G g k (⟨some d,gd,q⟩ :: xs) tl ol Kf:=Ads 1 v _ (Aok (d:=some d) hgd h) h3 (by simp only [Gf,List.all_cons,List.all_nil,hx]; rfl)
theorem W0 (v:AV) (i:Oid) (o:Ob) (hgd:Wp gd (Am tl)) (h:evL (Am tl) ((d,0),g+k) q=some (1,v,[(i,some o)])) (h3:XD P G bad g (k+1) xs ((d,v) :: tl) ((i,some o) :: ol) ((1,v,[(i,some o)]) :: ra) ((rdX (Am tl) (Ak ol) ⟨some d,gd,q⟩) :: da) Kf) (hx:Lm (some o)=true:=by rfl):XD P G bad g k (⟨some d,gd,q⟩ :: xs) tl ol ra da Kf:=Adp 1 v _ (Aok (d:=some d) hgd h) h3 (by simp only [Gf,List.all_cons,List.all_nil,hx]; rfl)
theorem Apm (v:AV) (i:Oid) (e e':TypeId) (u:Ty) (xss:List (List u.D)) (hgd:Wp gd (Am tl)) (h:Agr (Am tl) ((d,0),g+k) q (1,RV.out ⟨false,[(false,[.newM e e' u xss])]⟩ (D6 ((d,0),g+k)) [])) (hi:D6 ((d,0),g+k) 0=i) (hv:AV.own i (.slice u) 0 xss.length=v) (hn:T5 (g+k) ol=true) (h3:XW P G g (k+1) xs ((d,v) :: tl) ((i,some (.mat e i u xss)) :: (i,some (.pool e' u xss)) :: ol) Kf):XW P G g k (⟨some d,gd,q⟩ :: xs) tl ol Kf:=by
 subst hi hv;exact Aix 1 _ _ _ (Anz (d:=some d) hgd h) (Ang hn) h3
end
-- what arguments read as
section
variable {ol:List (Oid×Option Ob)} {n:Nat}
theorem Aac {α:Type} {g:List AV->Option α}:∀ {cs:List AV} {xs:List α},cs.length=xs.length->(∀ (k:Nat) (c:AV) (x:α),cs[k]? =some c->xs[k]? =some x->g [c]=some x)->Qj g 1 xs.length cs=some xs
 | [],[],_,_=>rfl
 | c :: cs,x :: xs,hl,h=>by
  have h0:=h 0 c x rfl rfl;have ih:=Aac (g:=g) (cs:=cs) (xs:=xs) (by simpa using hl) (fun k c x h1 h2=>h (k+1) c x h1 h2);simp only [List.length_cons,Qj,List.take_succ_cons,List.take_zero,List.drop_succ_cons,List.drop_zero,h0,ih]
 | [],_ :: _,hl,_=>by simp at hl
 | _ :: _,[],hl,_=>by simp at hl
theorem Ama {ob:Oid->Option Ob} {o p:Oid} {e1 e:TypeId} {u:Ty} {xss:List (List u.D)} {m len:Nat} (ho:ob o=some (.vec e1 1 m (hdL p u xss))) (hm:m=xss.length) (hk:∀ k row,xss[k]? =some row->ob (kid p k)=some (.arr e u row)) {t':Ty} (hl:len<=xss.length):Agn ob 1 (rdC ob (.slice u)) (.own o t' 0 len)=some (xss.take len):=by
 have h1:(((hdL p u xss).drop (0*1)).take (len*1))=hdL p u (xss.take len):=by
  simp only [Nat.zero_mul,List.drop_zero,Nat.mul_one];apply List.ext_getElem?;intro j;rw [List.getElem?_take,Q3,Q3,List.getElem?_take];split <;> rfl
 have hlen:(xss.take len).length=len:=by rw [List.length_take]; omega
 simp only [Agn,ho];rw [if_pos ⟨trivial,by omega⟩,h1]
 have:=Aac (g:=rdC ob (.slice u)) (cs:=hdL p u (xss.take len)) (xs:=xss.take len) Of (fun k c x hc hx=>by
  rw [Q3,hx] at hc;obtain rfl:=osj hc;rw [List.getElem?_take] at hx;split at hx
  ·have:=hk k x hx;simp only [rdC,F3,this,Nat.zero_add,Nat.le_refl,if_true,Ty.eq?_self,Ef,List.drop_zero,List.take_length]
  ·cases hx)
 rw [hlen] at this;exact this
theorem Ao3 {ob:Oid->Option Ob} {o p:Oid} {e1 e:TypeId} {u:Ty} {xss:List (List u.D)} {len:Nat} (ho:ob o=some (.vec e1 1 xss.length (hdL p u xss))) (hk:∀ k row,xss[k]? =some row->ob (kid p k)=some (.arr e u row)) (hl:len=xss.length):gnd ob (n+1) (.own o (.slice u) 0 len)=some (.tree (.slice u) xss):=by
 subst hl;have:=Ama (t':=.slice u) ho rfl hk (Nat.le_refl _);rw [List.take_length] at this;simp only [gnd,ho,Ty.size,this,Option.map_some]
theorem El {p:Oid} {e:TypeId} {u:Ty} {xss:List (List u.D)} (h:J5 ol p=some (.pool e u xss)):∀ k row,xss[k]? =some row->Ak ol (kid p k)=some (.arr e u row):=fun _ _ hx=>Aam h hx
def Al4 (zs:List AV) (ob:Oid->Option Ob) (θ:Oid->Oid):List (Oid×Ob)->Prop
 | []=>True
 | q :: r=>(match q.2 with
  | .pool _ _ xss=>∀ k,k<xss.length->Reached zs ob (kid (θ q.1) k)
  | _=>Reached zs ob (θ q.1))∧Al4 zs ob θ r
theorem Yi {zs:List AV} {ob:Oid->Option Ob} {l:List (Oid×Oid)} (hl:Aae l=true):∀ {ol:List (Oid×Ob)},Ix ol=true->Al4 zs ob (Cq l) ol->∀ j∈nmL ol,Reached zs ob (Cq l j)
 | [],_,_,j,hj=>by cases hj
 | (p,o) :: r,h0,h,j,hj=>by
  simp only [Ix,List.all_cons,Bool.and_eq_true,beq_iff_eq] at h0;obtain ⟨⟨h1,_⟩,h2⟩:=h0;have ih:j∈nmL r->Reached zs ob (Cq l j):=fun hm=>Yi hl (ol:=r) (by simpa [Ix] using h2) h.2 j hm
  cases o with
  | pool e u xss =>
   simp only [nmL,exL,List.map_append,List.mem_append] at hj;rcases hj with hj | hj
   ·obtain ⟨q,hq,rfl⟩:=List.mem_map.1 hj;obtain ⟨⟨row,k⟩,hx,rfl⟩:=List.mem_map.1 hq;rw [List.mem_zipIdx_iff_getElem?] at hx;show Reached zs ob (Cq l (kid p k));rw [Ju hl h1];exact h.1 k (gSi.1 hx).1
   ·exact ih hj
  | _ =>
   simp only [nmL,exL,List.map_cons,List.mem_cons] at hj;rcases hj with rfl | hj
   ·exact h.1
   ·exact ih hj
theorem Ao4 {zs:List AV} {ob:Oid->Option Ob} {i:Oid} (h:(AV.nmsL zs).contains i=true):Reached zs ob i:=.arg (List.contains_iff_mem.1 h)
end
end
section
open Go.RowKit Go.Deep
section
variable {f:Nat->AV} {ob:Oid->Option Ob} {n:Nat} {d:Option Nat}
end
end
section
open Go.RowKit Go.Deep
abbrev T4:Ty:=.pair .int (.pair .int (.pair .int .int))
section
variable {P:Program} {G:World->Prop} {g k d:Nat} {gd:Option (Nat×Bool)} {q:Q} {xs:List X} {tl:List (Nat×AV)} {ol:List (Oid×Option Ob)} {bad:List (Nat×Nat)} {ra:List Rec} {da:List (List Oid)} {Kf:List (Nat×AV)->List (Oid×Option Ob)->Prop}
theorem rz0 (v:AV) (h3:XW P G g (k+1) xs ((d,v) :: tl) ol Kf) (h:Bv (g+k) ⟨some d,gd,q⟩ (Am tl) (Ak ol)=some (0,v,[]):=by kernel_rfl):XW P G g k (⟨some d,gd,q⟩ :: xs) tl ol Kf:=rs0 v h h3
theorem rzl (v:AV) (h3:XW P G g (k+1) xs ((d,v) :: tl) ol Kf) (h:Bv (g+k) ⟨some d,gd,q⟩ (Am tl) (Ak ol)=some (1,v,[]):=by kernel_rfl):XW P G g k (⟨some d,gd,q⟩ :: xs) tl ol Kf:=rsl v h h3
theorem dz0 (v:AV) (h3:XD P G bad g (k+1) xs ((d,v) :: tl) ol ((0,v,[]) :: ra) ((rdX (Am tl) (Ak ol) ⟨some d,gd,q⟩) :: da) Kf) (h:Bv (g+k) ⟨some d,gd,q⟩ (Am tl) (only (rdX (Am tl) (Ak ol) ⟨some d,gd,q⟩) (Ak ol))=some (0,v,[]):=by kernel_rfl):XD P G bad g k (⟨some d,gd,q⟩ :: xs) tl ol ra da Kf:=ds0 v h h3
theorem dzl (v:AV) (h3:XD P G bad g (k+1) xs ((d,v) :: tl) ol ((1,v,[]) :: ra) ((rdX (Am tl) (Ak ol) ⟨some d,gd,q⟩) :: da) Kf) (h:Bv (g+k) ⟨some d,gd,q⟩ (Am tl) (only (rdX (Am tl) (Ak ol) ⟨some d,gd,q⟩) (Ak ol))=some (1,v,[]):=by kernel_rfl):XD P G bad g k (⟨some d,gd,q⟩ :: xs) tl ol ra da Kf:=dsl v h h3
theorem zs {s:Nat} {b c:Bool} (hc:c= !b) (h3:XW P G g (k+1) xs ((d,.tup []) :: tl) ol Kf) (hs:Am tl s=.bool c:=by kernel_rfl):XW P G g k (⟨some d,some (s,b),q⟩ :: xs) tl ol Kf:=rs0 (.tup []) (S8 hs hc) h3
theorem zc {fo:Opd} {ys:List Opd} {tys:List (List (Option Ty))} {F:FuncId} {rv:RV} {args:List AV} (v:AV) (us:List (Oid×Option Ob)) (zs:List AV) (hc:A1 P G F args rv) (h3:XW P G g (k+1) xs ((d,v) :: tl) (us.reverseAux ol) Kf) (h1:P7 (gnd (Ak ol) 8) zs=some zs:=by kernel_rfl) (hb:Ba P F=true:=by kernel_rfl) (hfo:fo.ev (Am tl)=.fn F []:=by kernel_rfl) (hz:(ys++([]:List AV).map Opd.cst).map (Opd.ev (Am tl))=zs:=by kernel_rfl) (hn:Tq tys zs=args:=by kernel_rfl) (hr:rv.out (D6 ((d,0),g+k)) zs=(v,us):=by kernel_rfl) (hx:Gf us=true:=by rfl):XW P G g k (⟨some d,none,.call fo ys tys⟩ :: xs) tl ol Kf:=Bk (caps:=[]) (args0:=zs) v us zs args trivial h1 hc hb h3 hfo hz hn hr hx
end
section
variable {n:Nat} {d:Option Nat} {f:Nat->AV} {ob:Oid->Option Ob}
theorem zi {sz:Nat} {x i:Opd} {t:Ty} {xs:List t.D} {y:t.D} {k:IntKind} {m:Int} {j:Nat} (h0:0<=m) (hy:xs[j]? =some y) (hx:(x.ev f).un=.tree t xs:=by kernel_rfl) (hi:i.ev f=.int k m:=by kernel_rfl) (hs:sz=t.size:=by rfl) (hj:m.toNat=j:=by rfl):Bv n ⟨d,none,.i (.idx sz x i)⟩ f ob=some (0,.telt t y 0,[]):=Apg hx hi hs h0 hj hy
theorem zo {sz:Nat} {x i:Opd} {t:Ty} {o:Oid} {len:Nat} {k:IntKind} {m:Int} {j:Nat} (h0:0<=m) (hl:j<len) (hx:x.ev f=.own o t 0 len:=by kernel_rfl) (hi:i.ev f=.int k m:=by kernel_rfl) (hs:sz=t.size:=by rfl) (hj:m.toNat=j:=by rfl):Bv n ⟨d,none,.i (.idx sz x i)⟩ f ob=some (0,.elt o j 0,[]):=Apo hx hi hs h0 hj hl
theorem zg {s:Nat} {b c:Bool} {q:Q} {r:Option Rec} (hc:c=b) (hs:f s=.bool c:=by kernel_rfl) (h:Bv n ⟨d,none,q⟩ f ob=r:=by kernel_rfl):Bv n ⟨d,some (s,b),q⟩ f ob=r:=Akh hs hc h
theorem zT {c x y:Opd} {b:Bool} (hb:b=true) (h:c.ev f=.bool b:=by kernel_rfl):Bv n ⟨d,none,.i (.pick c x y)⟩ f ob=some (0,x.ev f,[]):=Any h hb
theorem zF {c x y:Opd} {b:Bool} (hb:b=false) (h:c.ev f=.bool b:=by kernel_rfl):Bv n ⟨d,none,.i (.pick c x y)⟩ f ob=some (0,y.ev f,[]):=And h hb
theorem za {x y:Opd} {j:Nat} (h:j+1<4611686018427387904) (hx:x.ev f=.int .i64 j:=by kernel_rfl) (hy:y.ev f=.int .i64 1:=by kernel_rfl):Bv n ⟨d,none,.i (.bin .add x y)⟩ f ob=some (0,.int .i64 ((j+1:Nat):Int),[]):=Aph hx hy h
theorem zl {vs:List Value} {c:AV} {l:RL} (h:Tb ob c=some l:=by kernel_rfl):LeafR vs ob c l:=Ap9 h
end
theorem zj {α:Type} {a b:α} (h:some a=some b):a=b:=osj h
theorem wr_ {S:St} {K:St->Prop} (h:K S):∃ S',Weak S S'∧K S':=⟨S,Weak.refl _,h⟩
end
section
open Go.RowKit Go.Deep
inductive Ctl (σ ρ:Type) where
 | next (s:σ)
 | out (r:ρ)
def Ctl.then {σ β:Type} (k:σ->Option β):Ctl σ β->Option β
 | .next t=>k t
 | .out r=>some r
section
variable {α β σ τ ρ:Type}
def og (c:Prop) [Decidable c] (k:Option α):Option α:=if c then k else none
theorem As {c:Prop} [Decidable c] {k:Option α} {r:α} (h:og c k=some r):c∧k=some r:=by
 unfold og at h;split at h
 ·rename_i hc; exact ⟨hc,h⟩
 ·cases h
theorem Ar {c:Prop} [Decidable c] (h:c) (k:Option α):og c k=k:=if_pos h
theorem Ae {o:Option α} {f:α->Option β} {b:β} (h:o.bind f=some b):∃ a,o=some a∧f a=some b:=Option.bind_eq_some_iff.1 h
theorem Ad {c:Bool} {a b:Option α} {r:α} (h:cond c a b=some r):(c=true∧a=some r)∨(c=false∧b=some r):=by
 cases c
 ·exact .inr ⟨rfl,h⟩
 ·exact .inl ⟨rfl,h⟩
def J4 (a:Option (Ctl τ β)) (k:τ->Option β):Option β :=
 a.bind (Ctl.then k)
theorem Akp {a:Option (Ctl τ β)} {k:τ->Option β} {r:β} (h:J4 a k=some r):∃ v,a=some v∧Ctl.then k v=some r:=Ae h
def A3 (body:σ->Option (Ctl σ ρ)):Nat->σ->Option ρ
 | 0,_=>none
 | n+1,s=>(body s).bind (Ctl.then (A3 body n))
theorem Ah6 {body:σ->Option (Ctl σ ρ)} {n:Nat} {s:σ} {v:ρ} (h:A3 body (n+1) s=some v):∃ c,body s=some c∧Ctl.then (A3 body n) c=some v:=Ae h
theorem Ahr {body:σ->Option (Ctl σ ρ)} {s:σ} {v:ρ} (h:A3 body 0 s=some v):False:=by cases h
def Hc (xs:List α) (n:Int):Option α:=if 0<=n then xs[n.toNat]? else none
theorem Bn {xs:List α} {k:Nat} {x:α} (h:xs[k]? =some x):k<xs.length:=(gSi.1 h).1
theorem Bs {xs:List α} {n:Int} {x:α} (h:Hc xs n=some x):0<=n∧n<xs.length∧xs[n.toNat]? =some x:=by
 unfold Hc at h;split at h
 ·rename_i h0;have:=Bn h;exact ⟨h0,by omega,h⟩
 ·cases h
theorem Jq {xs:List α} {n:Int} (h:0<=n):Hc xs n=xs[n.toNat]?:=if_pos h
end
section
variable {P:Program} {G:World->Prop} {σ τ β ρ:Type}
theorem At {x y:AC} {R:AE->St->Prop} {S:St} {A:Option τ} {k:τ->Option β} {r:β} (h:A.bind k=some r) (J:τ->St->Prop) (h1:∀ t,A=some t->awp P G x (Kx (fun S'=>∃ S'',Weak S' S''∧J t S'') R) S) (h2:∀ t S'',J t S''->k t=some r->awp P G y R S''):awp P G (.seq x y) R S:=by
 obtain ⟨t,ha,hk⟩:=Ae h;exact Ada (J t) (h1 t ha) fun S'' hj=>h2 t S'' hj hk
theorem Db {x y:AC} {R:AE->St->Prop} {S:St} {A:Option (Ctl τ β)} {k:τ->Option β} {r:β} (h:J4 A k=some r) (J:τ->St->Prop)
  (h1:∀ v,A=some v->Ctl.then k v=some r->awp P G x (Kx (fun S'=>∃ t S'',v=.next t∧Weak S' S''∧J t S'') R) S) (h2:∀ t S'',J t S''->k t=some r->awp P G y R S''):awp P G (.seq x y) R S:=by
 obtain ⟨v,ha,hk⟩:=Akp h;refine Ada (fun S''=>∃ t,v=.next t∧J t S'') (Ec (fun e S' hq=>?_) (h1 v ha hk)) fun S'' ⟨t,hv,hj⟩=>?_
 ·cases e with
  | normal=>obtain ⟨t,S'',hv,hw,hj⟩:=hq; exact ⟨S'',hw,t,hv,hj⟩
  | exit id=>exact hq
  | ret=>exact hq
 ·subst hv; exact h2 t S'' hj hk
theorem A4 {a:AC} {R:AE->St->Prop} {S:St} {body:σ->Option (Ctl σ ρ)} {fuel:Nat} {s0:σ} {v:ρ} (h:A3 body fuel s0=some v) (J:σ->St->Prop) (h0:∃ S0,Weak S S0∧J s0 S0)
  (h1:∀ n s S1 c,J s S1->body s=some c->Ctl.then (A3 body n) c=some v->awp P G a (Kx (fun S2=>∃ s' S3,Weak S2 S3∧J s' S3∧A3 body n s'=some v) R) S1):awp P G (.loop a) R S:=by
 obtain ⟨S0,hw,hj⟩:=h0;refine Aj7 (fun (p:Nat×σ) S=>A3 body p.1 p.2=some v∧J p.2 S) (·.1) ⟨(fuel,s0),S0,hw,h,hj⟩ ?_;rintro ⟨n,s⟩ S1 ⟨hl,hj⟩;cases n with
 | zero=>exact (Ahr hl).elim
 | succ n =>
  obtain ⟨c,hc,hn⟩:=Ah6 hl;refine Ec (fun e S2 hq=>?_) (h1 n s S1 c hj hc hn);cases e with
  | normal=>obtain ⟨s',S3,hw,hj,hl⟩:=hq; exact ⟨(n,s'),S3,hw,⟨hl,hj⟩,Nat.lt_succ_self n⟩
  | exit id=>exact hq
  | ret=>exact hq
end
theorem Bi (n:Nat):0<=(n:Int):=by omega
end
section
open Go.RowKit Go.Deep
def Lj (a0:Int):Option Bool:=some (isF a0)
def W5 (r:Bool):RV:=⟨false,[(false,[.sc (.bool r)])]⟩
theorem F1 {a0:Int} {r:Bool} (h:Lj a0=some r):A1 Tryd.prog Tab 61 [.int .i64 a0] (W5 r):=by
 obtain rfl:=osj h;intro w im vs hG hr;obtain ⟨u1,_,rfl,h1,h2⟩:=hr;obtain rfl:_=[]:=h2;obtain rfl:u1=.int .i64 a0:=h1;refine (Agx a0 w (hG w (Below.refl _ _))).mono ?_;rintro e w' ⟨rfl,rfl⟩;exact ⟨_,rfl,Below.refl _ _,[_],[],⟨_,[],rfl,rfl,rfl,rfl,rfl⟩,⟨trivial,fun _=>rfl⟩,rfl⟩
end
section
open Go.RowKit Go.Deep
set_option maxRecDepth 4000
def Rs:AC :=
 (.seq (rg [xo 4 (qm (ci 0))])
 (.seq (rg [xo 5 (qm (tm 1)),xo 6 (qm (tm 0)),xo 7 (.i (.len (tm 6))),xo 8 (qb .sub (tm 5) (tm 7)),xo 1 (qm (tm 8))])
 (.seq (.seq (rg [xo 9 (qm (tm 1)),xo 10 (qb .lss (tm 9) (ci 0))])
 (.cond (tm 10)
  (.seq (rg [xo 4 (qm (ci (-1)))])
  .ret)
  .skip))
 (.seq (rg [xo 11 (qm (tm 1)),xo 4 (qm (tm 11))])
 .ret))))
def Abi:List Res:=[.tmp 4]
theorem Acv:Aq Tryd.prog Tryd.f13=some (Rs,Abi):=by kernel_rfl
def Hv (a0:List Int) (a1:Int):Option Int :=
 cond (decide (wI (a1 - ((a0.length:Nat):Int))<0))
 (some (-1))
 (some (wI (a1 - ((a0.length:Nat):Int))))
def Yg (r:Int):RV:=⟨false,[(false,[.sc (.int .i64 r)])]⟩
theorem Y9 {a0:List Int} {a1:Int} {r:Int} (h:Hv a0 a1=some r):A1 Tryd.prog Tab 13 [.tree .int a0,ai a1] (Yg r):=by
 refine Av (by kernel_rfl) Tryd.func13 Acv (n:=12) (by kernel_rfl) (by simp) (tl:=[(0,.tree .int a0),(1,ai a1)]) rfl ?_;unfold Rs;unfold Hv at h;refine Al ?_;refine Al ?_;refine Ab ?_;refine Al ?_;rcases Ad h with ⟨q5,h⟩ | ⟨q5,h⟩
 ·have q5_:=of_decide_eq_true q5;refine Ag q5 ?_;refine Al ?_;refine Ah (tr_ ?_);obtain rfl:=zj h;exact Bm [ai (-1)] (Aw rfl zl Ay)
 have q5_:=of_decide_eq_false q5;refine Af q5 ?_;refine Aj (tn_ ?_);refine wr_ ?_;refine Al ?_;refine Ah ?_;obtain rfl:=zj h;exact Bm [ai (wI (a1 - ((a0.length:Nat):Int)))] (Aw rfl zl Ay)
def Nf:AC :=
 (.seq (.seq (rg [xo 8 (qm (tm 4)),xo 9 (qm (tm 0)),xo 10 (.i (.len (tm 9))),xo 11 (qb .lss (tm 8) (tm 10))])
 (.cond (tm 11)
  .skip
  (.exit 0)))
 (.seq (.block 1 (rg [xo 14 (qm (tm 3)),xo 15 (qm (tm 4)),xo 16 (qm (tm 0)),xo 17 (qm (tm 4)),xo 18 (qx 1 (tm 16) (tm 17)),xo 19 (ql (tm 18)),xo 20 (qx 1 (tm 14) (tm 15)),xn (qs (tm 20) (tm 19))]))
 (rg [xo 12 (qm (tm 4)),xo 13 (qb .add (tm 12) (ci 1)),xo 4 (qm (tm 13))])))
def Ru:AC :=
 (.seq (rg [xo 2 (qm (.cst .nils))])
 (.seq (rg [xo 5 (qm (tm 0)),xo 6 (.i (.len (tm 5))),xo 7 (.make 3 .int 8 (tm 6) (tm 6)),xo 3 (qm (tm 7))])
 (.seq (.seq (rg [xo 4 (qm (ci 0))])
 (.block 0 (.loop Nf)))
 (.seq (rg [xo 21 (qm (tm 3)),xo 2 (qm (tm 21))])
 .ret))))
def Acd:List Res:=[.tmp 2]
theorem Ab8:Aq Tryd.prog Tryd.f17=some (Ru,Acd):=by kernel_rfl
def E4 (a0:List Int) (l6_m4:Nat) (l6_m3:List Int):Option (Ctl (Nat×List Int) (List Int)) :=
 cond (decide (((l6_m4:Nat):Int)<((a0.length:Nat):Int)))
 (Option.bind (a0[l6_m4]?) fun x11 =>
 Option.bind (l6_m3[l6_m4]?) fun x12 =>
 og (l6_m4+1<4611686018427387904) <|
 some (Ctl.next (l6_m4+1,l6_m3.set l6_m4 x11)))
 (some (Ctl.out l6_m3))
def Hu (a0:List Int):Option (List Int) :=
 og (0<=((a0.length:Nat):Int)∧((a0.length:Nat):Int)<=((a0.length:Nat):Int)∧((a0.length:Nat):Int)<=1073741824∧(8:Int)*((a0.length:Nat):Int)<=140737488355328) <|
Option.bind (A3 (fun s_:Nat×List Int=>E4 a0 s_.1 s_.2) 4611686018427387904 (0,List.replicate a0.length (0:Int))) fun l4_m3 =>
some l4_m3
def Aa3 (r:List Int):RV:=⟨false,[(false,[.new 3 .int r])]⟩
theorem Zj {a0:List Int} {r:List Int} (h:Hu a0=some r):A1 Tryd.prog Tab 17 [.tree .int a0] (Aa3 r):=by
 refine Av (by kernel_rfl) Tryd.func17 Ab8 (n:=22) (by kernel_rfl) (by simp) (tl:=[(0,.tree .int a0)]) rfl ?_;unfold Ru;unfold Hu at h;refine Al ?_;refine Ab ?_;obtain ⟨g3,h⟩:=As h;refine Aa 6 ?_;refine rz0 (.tree .int a0) ?_;refine rz0 (ai ((a0.length:Nat):Int)) ?_;refine rs1 (.own (oi 7 4) .int 0 a0.length) (oi 7 4) (.arr 3 .int (List.replicate a0.length (0:Int))) (Mk (t:=.int) (k:=.i64) (k':=.i64) (m:=((a0.length:Nat):Int)) (m':=((a0.length:Nat):Int)) (by kernel_rfl) (by kernel_rfl) g3 rfl) ?_;refine rsB 1 ?_;refine Ap (tn_ ?_);refine wr_ ?_;refine At h (fun (l4_m3:List Int) S_=>S_=⟨Am [(3,.own (oi 0 1) .int 0 l4_m3.length)],Ak (Ao [(oi 0 1,.arr 3 .int l4_m3)]),2⟩) ?_ ?_
 ·intro v_ h;refine Al ?_;refine Ai ?_;refine A4 h (fun t_ S_=>∃ (l6_m4:Nat),∃ (l6_m3:List Int),t_=(l6_m4,l6_m3)∧S_=⟨Am [(0,.tree .int a0),(3,.own (oi 0 1) .int 0 l6_m3.length),(4,ai ((l6_m4:Nat):Int))],Ak (Ao [(oi 0 1,.arr 3 .int l6_m3)]),2⟩) ⟨_,(Br 3 (.own (oi 7 4) .int 0 a0.length) (.own (oi 7 4) .int 0 ((List.replicate a0.length (0:Int)).length)) (by kernel_rfl) (congrArg (fun z_=>((.own (oi 7 4) .int 0 z_):AV)) (List.length_replicate.symm:a0.length=(List.replicate a0.length (0:Int)).length))).trans (Ac [(oi 0 1,oi 7 4)]),⟨0,List.replicate a0.length (0:Int),rfl,rfl⟩⟩ ?_;rintro n_ _ _ c_ ⟨l6_m4,l6_m3,rfl,rfl⟩ h hn6
  (try dsimp only at h);unfold E4 at h;unfold Nf;refine Ab ?_;refine Al ?_;rcases Ad h with ⟨q9,h⟩ | ⟨q9,h⟩
  ·have q9_:=of_decide_eq_true q9;refine Ag q9 ?_;refine Aj (tn_ ?_);refine wr_ ?_;refine Ab ?_;refine Ai ?_;obtain ⟨x11,e11,h⟩:=Ae h;obtain ⟨x12,e12,h⟩:=Ae h;refine Aa 14 ?_;refine rz0 (.own (oi 0 1) .int 0 l6_m3.length) ?_;refine rz0 (ai ((l6_m4:Nat):Int)) ?_;refine rz0 (.tree .int a0) ?_;refine rz0 (ai ((l6_m4:Nat):Int)) ?_;refine rs0 (.telt .int x11 0) (zi (t:=.int) (xs:=a0) (k:=.i64) (m:=((l6_m4:Nat):Int)) (Bi _) e11) ?_;refine rz0 (ai x11) ?_;refine rs0 (.elt (oi 0 1) l6_m4 0) (zo (t:=.int) (o:=oi 0 1) (len:=l6_m3.length) (k:=.i64) (m:=((l6_m4:Nat):Int)) (Bi _) (Bn e12)) ?_;refine Tn (oi 0 1) (oi 0 1) (.arr 3 .int (l6_m3.set l6_m4 x11)) (J1 (i:=oi 0 1) (j:=l6_m4) (k:=0) (e:=3) (t:=.int) (xs:=l6_m3) (cs:=[ai x11]) (x1:=x11) (by kernel_rfl) (by kernel_rfl) e12 (by kernel_rfl) (by kernel_rfl)) ?_;refine Ap (bn_ (tn_ ?_));refine wr_ ?_;obtain ⟨g13,h⟩:=As h;refine Aa 17 ?_;refine rz0 (ai ((l6_m4:Nat):Int)) ?_;refine rs0 (ai ((l6_m4+1:Nat):Int)) (za g13) ?_;refine rsB 1 ?_;refine Ap (tn_ ?_);obtain rfl:=zj h;exact ⟨(l6_m4+1,l6_m3.set l6_m4 x11),_,(Br 3 (.own (oi 0 1) .int 0 l6_m3.length) (.own (oi 0 1) .int 0 ((l6_m3.set l6_m4 x11).length)) (by kernel_rfl) (congrArg (fun z_=>((.own (oi 0 1) .int 0 z_):AV)) (((rfl:l6_m3.length=l6_m3.length).trans List.length_set.symm):l6_m3.length=(l6_m3.set l6_m4 x11).length))).trans (Ac []),⟨l6_m4+1,l6_m3.set l6_m4 x11,rfl,rfl⟩,hn6⟩
  have q9_:=of_decide_eq_false q9;refine Af q9 ?_;refine A0 (te_ (te_ (be_ (tn_ ?_))));obtain rfl:=zj h;have h:=hn6
  (try dsimp only at h);obtain rfl:=zj h;exact ⟨_,Ac [],rfl⟩
 rintro l4_m3 _ rfl h
 (try dsimp only at h);refine Al ?_;refine Ah ?_;obtain rfl:=zj h;exact Bm [.own (oi 0 1) .int 0 l4_m3.length] (Aw rfl (Fk (by kernel_rfl) rfl) Ay)
def Nr:AC :=
 (.seq (.seq (rg [xo 11 (qm (tm 5)),xo 12 (qm (tm 0)),xo 13 (.i (.len (tm 12))),xo 14 (qb .lss (tm 11) (tm 13))])
 (.cond (tm 14)
  .skip
  (.exit 0)))
 (.seq (.block 1 (.seq (.region [xo 17 (qm (tm 0)),xo 18 (qm (tm 5)),xo 19 (qx 1 (tm 17) (tm 18)),xo 20 (ql (tm 19)),xo 21 (qm (tm 1)),xo 22 (qm (tm 5)),xo 23 (qx 1 (tm 21) (tm 22)),xo 24 (ql (tm 23)),xo 25 (qb .neq (tm 20) (tm 24))] true [])
 (.cond (tm 25)
  (.seq (rg [xo 4 (qm (cb false))])
  .ret)
  .skip)))
 (rg [xo 15 (qm (tm 5)),xo 16 (qb .add (tm 15) (ci 1)),xo 5 (qm (tm 16))])))
def R2:AC :=
 (.seq (rg [xo 4 (qm (cb false))])
 (.seq (.seq (rg [xo 6 (qm (tm 0)),xo 7 (.i (.len (tm 6))),xo 8 (qm (tm 1)),xo 9 (.i (.len (tm 8))),xo 10 (qb .neq (tm 7) (tm 9))])
 (.cond (tm 10)
  (.seq (rg [xo 4 (qm (cb false))])
  .ret)
  .skip))
 (.seq (.seq (rg [xo 5 (qm (ci 0))])
 (.block 0 (.loop Nr)))
 (.seq (rg [xo 4 (qm (cb true))])
 .ret))))
def Abm:List Res:=[.tmp 4]
theorem Ace:Aq Tryd.prog Tryd.f21=some (R2,Abm):=by kernel_rfl
def Fi (a0:List Int) (a1:List Int) (l8_m5:Nat):Option (Ctl Nat (Ctl Unit Bool)) :=
 cond (decide (((l8_m5:Nat):Int)<((a0.length:Nat):Int)))
 (Option.bind (a0[l8_m5]?) fun x14 =>
 Option.bind (a1[l8_m5]?) fun x15 =>
 cond (x14 !=x15)
  (some (Ctl.out (Ctl.out false)))
  (og (l8_m5+1<4611686018427387904) <|
  some (Ctl.next (l8_m5+1))))
 (some (Ctl.out (Ctl.next ())))
def Hn (a0:List Int) (a1:List Int):Option Bool :=
 cond (((a0.length:Nat):Int) !=((a1.length:Nat):Int))
 (some false)
 (J4 (A3 (fun s_:Nat=>Fi a0 a1 s_) 4611686018427387904 0) fun _ =>
 some true)
def Aaa (r:Bool):RV:=⟨false,[(false,[.sc (.bool r)])]⟩
theorem X3 {a0:List Int} {a1:List Int} {r:Bool} (h:Hn a0 a1=some r):A1 Tryd.prog Tab 21 [.tree .int a0,.tree .int a1] (Aaa r):=by
 refine Av (by kernel_rfl) Tryd.func21 Ace (n:=26) (by kernel_rfl) (by simp) (tl:=[(0,.tree .int a0),(1,.tree .int a1)]) rfl ?_;unfold R2;unfold Hn at h;refine Al ?_;refine Ab ?_;refine Al ?_;rcases Ad h with ⟨q4,h⟩ | ⟨q4,h⟩
 ·refine Ag q4 ?_;refine Al ?_;refine Ah (tr_ ?_);obtain rfl:=zj h;exact Bm [.bool false] (Aw rfl zl Ay)
 refine Af q4 ?_;refine Aj (tn_ ?_);refine wr_ ?_;refine Db h (fun (_:Unit) S_=>S_=⟨Am [],Ak (Ao []),2⟩) ?_ ?_
 ·intro v_ h hk6;refine Al ?_;refine Ai ?_;refine A4 h (fun (l8_m5:Nat) S_=>S_=⟨Am [(0,.tree .int a0),(1,.tree .int a1),(5,ai ((l8_m5:Nat):Int))],Ak (Ao []),2⟩) ⟨_,Ac [],rfl⟩ ?_;rintro n_ l8_m5 _ c_ rfl h hn8
  (try dsimp only at h);unfold Fi at h;unfold Nr;refine Ab ?_;refine Al ?_;rcases Ad h with ⟨q11,h⟩ | ⟨q11,h⟩
  ·have q11_:=of_decide_eq_true q11;refine Ag q11 ?_;refine Aj (tn_ ?_);refine wr_ ?_;refine Ab ?_;refine Ai ?_;refine Ab ?_;obtain ⟨x14,e14,h⟩:=Ae h;obtain ⟨x15,e15,h⟩:=Ae h;refine Az 15 ?_;refine dz0 (.tree .int a0) ?_;refine dz0 (ai ((l8_m5:Nat):Int)) ?_;refine ds0 (.telt .int x14 0) (zi (t:=.int) (xs:=a0) (k:=.i64) (m:=((l8_m5:Nat):Int)) (Bi _) e14) ?_;refine dz0 (ai x14) ?_;refine dz0 (.tree .int a1) ?_;refine dz0 (ai ((l8_m5:Nat):Int)) ?_;refine ds0 (.telt .int x15 0) (zi (t:=.int) (xs:=a1) (k:=.i64) (m:=((l8_m5:Nat):Int)) (Bi _) e15) ?_;refine dz0 (ai x15) ?_;refine dz0 (.bool (x14 !=x15)) ?_;refine Gg (Bg (by kernel_rfl)) (tn_ ?_);refine wr_ ?_;rcases Ad h with ⟨q16,h⟩ | ⟨q16,h⟩
   ·refine Ag q16 ?_;refine Al ?_;refine Ah (br_ (tr_ (tr_ (br_ (tr_ ?_)))));obtain rfl:=zj h;have h:=hn8
    (try dsimp only at h);obtain rfl:=zj h;have h:=hk6
    (try dsimp only at h);obtain rfl:=zj h;exact Bm [.bool false] (Aw rfl zl Ay)
   refine Af q16 ?_;refine Aj (bn_ (tn_ ?_));refine wr_ ?_;obtain ⟨g18,h⟩:=As h;refine Aa 18 ?_;refine rz0 (ai ((l8_m5:Nat):Int)) ?_;refine rs0 (ai ((l8_m5+1:Nat):Int)) (za g18) ?_;refine rsB 1 ?_;refine Ap (tn_ ?_);obtain rfl:=zj h;exact ⟨l8_m5+1,_,Ac [],rfl,hn8⟩
  have q11_:=of_decide_eq_false q11;refine Af q11 ?_;refine A0 (te_ (te_ (be_ (tn_ ?_))));obtain rfl:=zj h;have h:=hn8
  (try dsimp only at h);obtain rfl:=zj h;exact ⟨(),_,rfl,Ac [],rfl⟩
 rintro _ _ rfl h
 (try dsimp only at h);refine Al ?_;refine Ah ?_;obtain rfl:=zj h;exact Bm [.bool true] (Aw rfl zl Ay)
def V5:AC :=
 (.seq (rg [xo 6 (qm (cb false))])
 (.seq (rg [xo 7 (qm (tm 0)),xo 8 (qm (tm 1)),xo 9 (qb .geq (tm 7) (tm 8)),xo 10 (qm (tm 9)),⟨some 11,some (10,true),qm (tm 0)⟩,⟨some 12,some (10,true),qm (tm 2)⟩,⟨some 13,some (10,true),qb .leq (tm 11) (tm 12)⟩,xo 14 (.i (.pick (tm 10) (tm 13) (cb false))),xo 6 (qm (tm 14))])
 .ret))
def Af4:List Res:=[.tmp 6]
theorem Aga:Aq Tryd.prog Tryd.f53=some (V5,Af4):=by kernel_rfl
theorem Bj:Ba Tryd.prog 53=true:=by kernel_rfl
def Co (a0:Int) (a1:Int) (a2:Int):Option Bool :=
 Option.bind (cond (decide (a1<=a0))
  (some (decide (a0<=a2)))
  (some false)) fun l2_m6 =>
some l2_m6
def Afn (r:Bool):RV:=⟨false,[(false,[.sc (.bool r)])]⟩
theorem Bc {a0:Int} {a1:Int} {a2:Int} {r:Bool} (h:Co a0 a1 a2=some r):A1 Tryd.prog Tab 53 [ai a0,ai a1,ai a2] (Afn r):=by
 refine Av (by kernel_rfl) Tryd.func53 Aga (n:=15) (by kernel_rfl) (by simp) (tl:=[(0,ai a0),(1,ai a1),(2,ai a2)]) rfl ?_;unfold V5;unfold Co at h;refine Al ?_;refine At h (fun (l2_m6:Bool) S_=>S_=⟨Am [(6,.bool l2_m6)],Ak (Ao []),2⟩) ?_ ?_
 ·intro v_ h;rcases Ad h with ⟨q3,h⟩ | ⟨q3,h⟩
  ·have q3_:=of_decide_eq_true q3;refine Aa 11 ?_;refine rz0 (ai a0) ?_;refine rz0 (ai a1) ?_;refine rz0 (.bool (decide (a1<=a0))) ?_;refine rz0 (.bool (decide (a1<=a0))) ?_;refine rs0 (ai a0) (zg q3) ?_;refine rs0 (ai a2) (zg q3) ?_;refine rs0 (.bool (decide (a0<=a2))) (zg q3) ?_;refine rs0 (.bool (decide (a0<=a2))) (zT q3) ?_;refine rsB 1 ?_;refine Ap (tn_ ?_);obtain rfl:=zj h;exact ⟨_,Ac [],rfl⟩
  have q3_:=of_decide_eq_false q3;refine Aa 11 ?_;refine rz0 (ai a0) ?_;refine rz0 (ai a1) ?_;refine rz0 (.bool (decide (a1<=a0))) ?_;refine rz0 (.bool (decide (a1<=a0))) ?_;refine zs q3 ?_;refine zs q3 ?_;refine zs q3 ?_;refine rs0 (.bool false) (zF q3) ?_;refine rsB 1 ?_;refine Ap (tn_ ?_);obtain rfl:=zj h;exact ⟨_,Ac [],rfl⟩
 rintro l2_m6 _ rfl h
 (try dsimp only at h);refine Ah ?_;obtain rfl:=zj h;exact Bm [.bool l2_m6] (Aw rfl zl Ay)
def M2:AC :=
 (.seq (.seq (rg [xo 7 (qm (tm 3)),xo 8 (qm (tm 3)),xo 9 (qb .mul (tm 7) (tm 8)),xo 10 (qm (tm 0)),xo 11 (qb .leq (tm 9) (tm 10))])
 (.cond (tm 11)
  .skip
  (.exit 0)))
 (.seq (.block 1 (.seq (rg [xo 14 (qm (tm 0)),xo 15 (qm (tm 3)),xo 16 (qb .rem (tm 14) (tm 15)),xo 17 (qb .eql (tm 16) (ci 0))])
 (.cond (tm 17)
  (.seq (rg [xo 2 (qm (cb false))])
  .ret)
  .skip)))
 (rg [xo 12 (qm (tm 3)),xo 13 (qb .add (tm 12) (ci 1)),xo 3 (qm (tm 13))])))
def Sa:AC :=
 (.seq (rg [xo 2 (qm (cb false))])
 (.seq (.seq (rg [xo 4 (qm (tm 0)),xo 5 (qc 53 [tm 4,ci 2,ci 97] [[],[],[]]),xo 6 (.i (.not (tm 5)))])
 (.cond (tm 6)
  (.seq (rg [xo 2 (qm (cb false))])
  .ret)
  .skip))
 (.seq (.seq (rg [xo 3 (qm (ci 2))])
 (.block 0 (.loop M2)))
 (.seq (rg [xo 2 (qm (cb true))])
 .ret))))
def Acu:List Res:=[.tmp 2]
theorem Aa9:Aq Tryd.prog Tryd.f52=some (Sa,Acu):=by kernel_rfl
def E3 (a0:Int) (l9_m3:Nat):Option (Ctl Nat (Ctl Unit Bool)) :=
 cond (decide (wI (((l9_m3:Nat):Int)*((l9_m3:Nat):Int))<=a0))
 (og (((l9_m3:Nat):Int)≠0) <|
 cond ((Int.tmod a0 ((l9_m3:Nat):Int))==0)
  (some (Ctl.out (Ctl.out false)))
  (og (l9_m3+1<4611686018427387904) <|
  some (Ctl.next (l9_m3+1))))
 (some (Ctl.out (Ctl.next ())))
def Gb (a0:Int):Option Bool :=
 Option.bind (Co a0 2 97) fun y4 =>
cond (!y4)
 (some false)
 (J4 (A3 (fun s_:Nat=>E3 a0 s_) 4611686018427387904 2) fun _ =>
 some true)
def Yn (r:Bool):RV:=⟨false,[(false,[.sc (.bool r)])]⟩
theorem B1 {a0:Int} {r:Bool} (h:Gb a0=some r):A1 Tryd.prog Tab 52 [ai a0] (Yn r):=by
 refine Av (by kernel_rfl) Tryd.func52 Aa9 (n:=18) (by kernel_rfl) (by simp) (tl:=[(0,ai a0)]) rfl ?_;unfold Sa;unfold Gb at h;refine Al ?_;refine Ab ?_;refine Ab ?_;obtain ⟨y4,h4,h⟩:=Ae h;refine Aa 5 ?_;refine rz0 (ai a0) ?_;refine zc (.bool y4) [] [ai a0,ai 2,ai 97] (Bc h4) ?_;refine rsB 1 ?_;refine Ap (tn_ ?_);refine wr_ ?_;rcases Ad h with ⟨q5,h⟩ | ⟨q5,h⟩
 ·refine Ag q5 ?_;refine Al ?_;refine Ah (tr_ ?_);obtain rfl:=zj h;exact Bm [.bool false] (Aw rfl zl Ay)
 refine Af q5 ?_;refine Aj (tn_ ?_);refine wr_ ?_;refine Db h (fun (_:Unit) S_=>S_=⟨Am [],Ak (Ao []),2⟩) ?_ ?_
 ·intro v_ h hk7;refine Al ?_;refine Ai ?_;refine A4 h (fun (l9_m3:Nat) S_=>S_=⟨Am [(0,ai a0),(3,ai ((l9_m3:Nat):Int))],Ak (Ao []),2⟩) ⟨_,Ac [],rfl⟩ ?_;rintro n_ l9_m3 _ c_ rfl h hn9
  (try dsimp only at h);unfold E3 at h;unfold M2;refine Ab ?_;refine Al ?_;rcases Ad h with ⟨q12,h⟩ | ⟨q12,h⟩
  ·have q12_:=of_decide_eq_true q12;refine Ag q12 ?_;refine Aj (tn_ ?_);refine wr_ ?_;refine Ab ?_;refine Ai ?_;refine Ab ?_;obtain ⟨g15,h⟩:=As h;refine Aa 11 ?_;refine rz0 (ai a0) ?_;refine rz0 (ai ((l9_m3:Nat):Int)) ?_;refine rs0 (ai (Int.tmod a0 ((l9_m3:Nat):Int))) (Age (k:=.i64) (a:=a0) (b:=((l9_m3:Nat):Int)) (by kernel_rfl) (by kernel_rfl) g15) ?_;refine rsB 1 ?_;refine Ap (tn_ ?_);refine wr_ ?_;rcases Ad h with ⟨q16,h⟩ | ⟨q16,h⟩
   ·refine Ag q16 ?_;refine Al ?_;refine Ah (br_ (tr_ (tr_ (br_ (tr_ ?_)))));obtain rfl:=zj h;have h:=hn9
    (try dsimp only at h);obtain rfl:=zj h;have h:=hk7
    (try dsimp only at h);obtain rfl:=zj h;exact Bm [.bool false] (Aw rfl zl Ay)
   refine Af q16 ?_;refine Aj (bn_ (tn_ ?_));refine wr_ ?_;obtain ⟨g18,h⟩:=As h;refine Aa 14 ?_;refine rz0 (ai ((l9_m3:Nat):Int)) ?_;refine rs0 (ai ((l9_m3+1:Nat):Int)) (za g18) ?_;refine rsB 1 ?_;refine Ap (tn_ ?_);obtain rfl:=zj h;exact ⟨l9_m3+1,_,Ac [],rfl,hn9⟩
  have q12_:=of_decide_eq_false q12;refine Af q12 ?_;refine A0 (te_ (te_ (be_ (tn_ ?_))));obtain rfl:=zj h;have h:=hn9
  (try dsimp only at h);obtain rfl:=zj h;exact ⟨(),_,rfl,Ac [],rfl⟩
 rintro _ _ rfl h
 (try dsimp only at h);refine Al ?_;refine Ah ?_;obtain rfl:=zj h;exact Bm [.bool true] (Aw rfl zl Ay)
def Oi:AC :=
 (.seq (rg [xo 12 (qb .lss (tm 11) (tm 10))])
 (.seq (.cond (tm 12)
  .skip
  (.exit 0))
 (.seq (.block 1 (.seq (rg [xo 13 (qx 1 (tm 9) (tm 11)),xo 14 (ql (tm 13)),xo 8 (qm (tm 14))])
 (.seq (rg [xo 15 (qm (tm 8)),xo 16 (qm (tm 1)),xo 17 (qm (tm 2)),xo 18 (qc 53 [tm 15,tm 16,tm 17] [[],[],[]]),xo 19 (.i (.not (tm 18)))])
 (.cond (tm 19)
  (.seq (rg [xo 6 (qm (cb false))])
  .ret)
  .skip))))
 (rg [xo 20 (qb .add (tm 11) (ci 1)),xo 11 (qm (tm 20))]))))
def Ur:AC :=
 (.seq (rg [xo 6 (qm (cb false))])
 (.seq (.seq (rg [xo 9 (qm (tm 0)),xo 10 (.i (.len (tm 9))),xo 11 (qm (ci 0))])
 (.block 0 (.loop Oi)))
 (.seq (rg [xo 6 (qm (cb true))])
 .ret)))
def Aej:List Res:=[.tmp 6]
theorem Afi:Aq Tryd.prog Tryd.f54=some (Ur,Aej):=by kernel_rfl
theorem Jj:Ba Tryd.prog 54=true:=by kernel_rfl
def Hz (a0:List Int) (a1:Int) (a2:Int) (l4_m11:Nat):Option (Ctl Nat (Ctl Unit Bool)) :=
 cond (decide (((l4_m11:Nat):Int)<((a0.length:Nat):Int)))
 (Option.bind (a0[l4_m11]?) fun x10 =>
 Option.bind (Co x10 a1 a2) fun y12 =>
 cond (!y12)
  (some (Ctl.out (Ctl.out false)))
  (og (l4_m11+1<4611686018427387904) <|
  some (Ctl.next (l4_m11+1))))
 (some (Ctl.out (Ctl.next ())))
def Ft (a0:List Int) (a1:Int) (a2:Int):Option Bool :=
 J4 (A3 (fun s_:Nat=>Hz a0 a1 a2 s_) 4611686018427387904 0) fun _ =>
some true
def Acn (r:Bool):RV:=⟨false,[(false,[.sc (.bool r)])]⟩
theorem Ho {a0:List Int} {a1:Int} {a2:Int} {r:Bool} (h:Ft a0 a1 a2=some r):A1 Tryd.prog Tab 54 [.tree .int a0,ai a1,ai a2] (Acn r):=by
 refine Av (by kernel_rfl) Tryd.func54 Afi (n:=21) (by kernel_rfl) (by simp) (tl:=[(0,.tree .int a0),(1,ai a1),(2,ai a2)]) rfl ?_;unfold Ur;unfold Ft at h;refine Al ?_;refine Db h (fun (_:Unit) S_=>S_=⟨Am [],Ak (Ao []),2⟩) ?_ ?_
 ·intro v_ h hk2;refine Al ?_;refine Ai ?_;refine A4 h (fun (l4_m11:Nat) S_=>S_=⟨Am [(1,ai a1),(2,ai a2),(9,.tree .int a0),(10,ai ((a0.length:Nat):Int)),(11,ai ((l4_m11:Nat):Int))],Ak (Ao []),2⟩) ⟨_,Ac [],rfl⟩ ?_;rintro n_ l4_m11 _ c_ rfl h hn4
  (try dsimp only at h);unfold Hz at h;unfold Oi;refine Al ?_;refine Ab ?_;rcases Ad h with ⟨q7,h⟩ | ⟨q7,h⟩
  ·have q7_:=of_decide_eq_true q7;refine Ag q7 ?_;refine Aj (tn_ ?_);refine wr_ ?_;refine Ab ?_;refine Ai ?_;refine Ab ?_;obtain ⟨x10,e10,h⟩:=Ae h;refine Aa 6 ?_;refine rs0 (.telt .int x10 0) (zi (t:=.int) (xs:=a0) (k:=.i64) (m:=((l4_m11:Nat):Int)) (Bi _) e10) ?_;refine rsB 2 ?_;refine Ap (tn_ ?_);refine wr_ ?_;refine Ab ?_;obtain ⟨y12,h12,h⟩:=Ae h;refine Aa 11 ?_;refine rz0 (ai x10) ?_;refine rz0 (ai a1) ?_;refine rz0 (ai a2) ?_;refine zc (.bool y12) [] [ai x10,ai a1,ai a2] (Bc h12) ?_;refine rsB 1 ?_;refine Ap (tn_ ?_);refine wr_ ?_;rcases Ad h with ⟨q13,h⟩ | ⟨q13,h⟩
   ·refine Ag q13 ?_;refine Al ?_;refine Ah (br_ (tr_ (tr_ (br_ (tr_ ?_)))));obtain rfl:=zj h;have h:=hn4
    (try dsimp only at h);obtain rfl:=zj h;have h:=hk2
    (try dsimp only at h);obtain rfl:=zj h;exact Bm [.bool false] (Aw rfl zl Ay)
   refine Af q13 ?_;refine Aj (bn_ (tn_ ?_));refine wr_ ?_;obtain ⟨g15,h⟩:=As h;refine Aa 13 ?_;refine rs0 (ai ((l4_m11+1:Nat):Int)) (za g15) ?_;refine rsB 1 ?_;refine Ap (tn_ ?_);obtain rfl:=zj h;exact ⟨l4_m11+1,_,Ac [],rfl,hn4⟩
  have q7_:=of_decide_eq_false q7;refine Af q7 ?_;refine A0 (te_ (te_ (be_ (tn_ ?_))));obtain rfl:=zj h;have h:=hn4
  (try dsimp only at h);obtain rfl:=zj h;exact ⟨(),_,rfl,Ac [],rfl⟩
 rintro _ _ rfl h
 (try dsimp only at h);refine Al ?_;refine Ah ?_;obtain rfl:=zj h;exact Bm [.bool true] (Aw rfl zl Ay)
def Tr:AC :=
 (.seq (rg [xo 2 (qm (.cst .nils))])
 (.seq (rg [xo 3 (.mkS 3 .int []),xo 4 (qm (tm 0)),xo 5 (.append 3 .int 8 (tm 3) (tm 4)),xo 2 (qm (tm 5))])
 .ret))
def Aep:List Res:=[.tmp 2]
theorem Ae3:Aq Tryd.prog Tryd.f41=some (Tr,Aep):=by kernel_rfl
theorem Hg:Ba Tryd.prog 41=true:=by kernel_rfl
def D1 (a0:List Int):Option (List Int) :=
 og (0+a0.length<=1073741824∧(0+a0.length)*8<=140737488355328) <|
some a0
def Ab1 (r:List Int):RV:=⟨false,[(false,[.new 3 .int r])]⟩
theorem Hp {a0:List Int} {r:List Int} (h:D1 a0=some r):A1 Tryd.prog Tab 41 [.tree .int a0] (Ab1 r):=by
 refine Av (by kernel_rfl) Tryd.func41 Ae3 (n:=6) (by kernel_rfl) (by simp) (tl:=[(0,.tree .int a0)]) rfl ?_;unfold Tr;unfold D1 at h;refine Al ?_;refine Ab ?_;obtain ⟨g3,h⟩:=As h;refine Aa 6 ?_;refine rs1 (.own (oi 3 2) .int 0 0) (oi 3 2) (.arr 3 .int []) (by kernel_rfl) ?_;refine rz0 (.tree .int a0) ?_;refine rs2 (.own (oi 3 4) .int 0 a0.length) (oi 3 2) (oi 3 4) (.arr 3 .int a0) (Mj (t:=.int) (t':=.int) (xs:=[]) (ys:=a0) (zs:=a0) (j:=oi 3 2) (len:=0) (c:=.tree .int a0) (by kernel_rfl) (by kernel_rfl) rfl (by kernel_rfl) Ai7 rfl g3) ?_;refine rsB 1 ?_;refine Ap (tn_ ?_);refine wr_ ?_;refine Ah ?_;obtain rfl:=zj h;exact Bm [.own (oi 3 4) .int 0 a0.length] (Aw rfl (Fk (by kernel_rfl) rfl) Ay)
def Wj:AC :=
 (.seq (rg [xo 4 (qm (cb false))])
 (.seq (rg [xo 5 (qm (tm 1)),xo 6 (qm (tm 0)),xo 7 (qb .sub (tm 6) (ci 1)),xo 8 (qc 54 [tm 5,ci 0,tm 7] [[some .int],[],[]]),xo 4 (qm (tm 8))])
 .ret))
def Af6:List Res:=[.tmp 4]
theorem Agw:Aq Tryd.prog Tryd.f84=some (Wj,Af6):=by kernel_rfl
theorem Aev:Ba Tryd.prog 84=true:=by kernel_rfl
def Jp (a0:Int) (a1:List Int):Option Bool :=
 Option.bind (Ft a1 0 (wI (a0 - 1))) fun y3 =>
some y3
def Af1 (r:Bool):RV:=⟨false,[(false,[.sc (.bool r)])]⟩
theorem Aem {a0:Int} {a1:List Int} {r:Bool} (h:Jp a0 a1=some r):A1 Tryd.prog Tab 84 [ai a0,.tree .int a1] (Af1 r):=by
 refine Av (by kernel_rfl) Tryd.func84 Agw (n:=9) (by kernel_rfl) (by simp) (tl:=[(0,ai a0),(1,.tree .int a1)]) rfl ?_;unfold Wj;unfold Jp at h;refine Al ?_;refine Ab ?_;obtain ⟨y3,h3,h⟩:=Ae h;refine Aa 7 ?_;refine rz0 (.tree .int a1) ?_;refine rz0 (ai a0) ?_;refine rz0 (ai (wI (a0 - 1))) ?_;refine zc (.bool y3) [] [.tree .int a1,ai 0,ai (wI (a0 - 1))] (Ho h3) ?_;refine rsB 1 ?_;refine Ap (tn_ ?_);refine wr_ ?_;refine Ah ?_;obtain rfl:=zj h;exact Bm [.bool y3] (Aw rfl zl Ay)
def Tg:AC :=
 (.seq (rg [xo 6 (qm (ci 0))])
 (.seq (rg [xo 7 (qm (tm 1)),xo 8 (qm (tm 2)),xo 9 (qb .add (tm 7) (tm 8)),xo 10 (qm (tm 0)),xo 11 (qb .rem (tm 9) (tm 10)),xo 6 (qm (tm 11))])
 .ret))
def Aex:List Res:=[.tmp 6]
theorem Afa:Aq Tryd.prog Tryd.f72=some (Tg,Aex):=by kernel_rfl
theorem Abn:Ba Tryd.prog 72=true:=by kernel_rfl
def Ii (a0:Int) (a1:Int) (a2:Int):Option Int :=
 og (a0≠0) <|
some (Int.tmod (wI (a1+a2)) a0)
def Abz (r:Int):RV:=⟨false,[(false,[.sc (.int .i64 r)])]⟩
theorem Abd {a0:Int} {a1:Int} {a2:Int} {r:Int} (h:Ii a0 a1 a2=some r):A1 Tryd.prog Tab 72 [ai a0,ai a1,ai a2] (Abz r):=by
 refine Av (by kernel_rfl) Tryd.func72 Afa (n:=12) (by kernel_rfl) (by simp) (tl:=[(0,ai a0),(1,ai a1),(2,ai a2)]) rfl ?_;unfold Tg;unfold Ii at h;refine Al ?_;refine Ab ?_;obtain ⟨g3,h⟩:=As h;refine Aa 8 ?_;refine rz0 (ai a1) ?_;refine rz0 (ai a2) ?_;refine rz0 (ai (wI (a1+a2))) ?_;refine rz0 (ai a0) ?_;refine rs0 (ai (Int.tmod (wI (a1+a2)) a0)) (Age (k:=.i64) (a:=wI (a1+a2)) (b:=a0) (by kernel_rfl) (by kernel_rfl) g3) ?_;refine rsB 1 ?_;refine Ap (tn_ ?_);refine wr_ ?_;refine Ah ?_;obtain rfl:=zj h;exact Bm [ai (Int.tmod (wI (a1+a2)) a0)] (Aw rfl zl Ay)
def Uf:AC :=
 (.seq (rg [xo 6 (qm (ci 0))])
 (.seq (rg [xo 7 (qm (tm 1)),xo 8 (qm (tm 2)),xo 9 (qb .mul (tm 7) (tm 8)),xo 10 (qm (tm 0)),xo 11 (qb .rem (tm 9) (tm 10)),xo 6 (qm (tm 11))])
 .ret))
def Aen:List Res:=[.tmp 6]
theorem Af0:Aq Tryd.prog Tryd.f73=some (Uf,Aen):=by kernel_rfl
theorem Abk:Ba Tryd.prog 73=true:=by kernel_rfl
def Iu (a0:Int) (a1:Int) (a2:Int):Option Int :=
 og (a0≠0) <|
some (Int.tmod (wI (a1*a2)) a0)
def Abu (r:Int):RV:=⟨false,[(false,[.sc (.int .i64 r)])]⟩
theorem Abf {a0:Int} {a1:Int} {a2:Int} {r:Int} (h:Iu a0 a1 a2=some r):A1 Tryd.prog Tab 73 [ai a0,ai a1,ai a2] (Abu r):=by
 refine Av (by kernel_rfl) Tryd.func73 Af0 (n:=12) (by kernel_rfl) (by simp) (tl:=[(0,ai a0),(1,ai a1),(2,ai a2)]) rfl ?_;unfold Uf;unfold Iu at h;refine Al ?_;refine Ab ?_;obtain ⟨g3,h⟩:=As h;refine Aa 8 ?_;refine rz0 (ai a1) ?_;refine rz0 (ai a2) ?_;refine rz0 (ai (wI (a1*a2))) ?_;refine rz0 (ai a0) ?_;refine rs0 (ai (Int.tmod (wI (a1*a2)) a0)) (Age (k:=.i64) (a:=wI (a1*a2)) (b:=a0) (by kernel_rfl) (by kernel_rfl) g3) ?_;refine rsB 1 ?_;refine Ap (tn_ ?_);refine wr_ ?_;refine Ah ?_;obtain rfl:=zj h;exact Bm [ai (Int.tmod (wI (a1*a2)) a0)] (Aw rfl zl Ay)
def Rz:AC :=
 (.seq (rg [xo 6 (qm (cb false))])
 (.seq (rg [xo 7 (qm (tm 0)),xo 8 (qm (tm 1)),xo 9 (qb .geq (tm 7) (tm 8)),xo 10 (qm (tm 9)),⟨some 11,some (10,true),qm (tm 0)⟩,⟨some 12,some (10,true),qm (tm 2)⟩,⟨some 13,some (10,true),qb .leq (tm 11) (tm 12)⟩,xo 14 (.i (.pick (tm 10) (tm 13) (cb false))),xo 6 (qm (tm 14))])
 .ret))
def Abb:List Res:=[.tmp 6]
theorem Acp:Aq Tryd.prog Tryd.f62=some (Rz,Abb):=by kernel_rfl
theorem Dm:Ba Tryd.prog 62=true:=by kernel_rfl
def D3 (a0:Int) (a1:Int) (a2:Int):Option Bool :=
 Option.bind (cond (decide (a1<=a0))
  (some (decide (a0<=a2)))
  (some false)) fun l2_m6 =>
some l2_m6
def Aah (r:Bool):RV:=⟨false,[(false,[.sc (.bool r)])]⟩
theorem Cu {a0:Int} {a1:Int} {a2:Int} {r:Bool} (h:D3 a0 a1 a2=some r):A1 Tryd.prog Tab 62 [ai a0,ai a1,ai a2] (Aah r):=by
 refine Av (by kernel_rfl) Tryd.func62 Acp (n:=15) (by kernel_rfl) (by simp) (tl:=[(0,ai a0),(1,ai a1),(2,ai a2)]) rfl ?_;unfold Rz;unfold D3 at h;refine Al ?_;refine At h (fun (l2_m6:Bool) S_=>S_=⟨Am [(6,.bool l2_m6)],Ak (Ao []),2⟩) ?_ ?_
 ·intro v_ h;rcases Ad h with ⟨q3,h⟩ | ⟨q3,h⟩
  ·have q3_:=of_decide_eq_true q3;refine Aa 11 ?_;refine rz0 (ai a0) ?_;refine rz0 (ai a1) ?_;refine rz0 (.bool (decide (a1<=a0))) ?_;refine rz0 (.bool (decide (a1<=a0))) ?_;refine rs0 (ai a0) (zg q3) ?_;refine rs0 (ai a2) (zg q3) ?_;refine rs0 (.bool (decide (a0<=a2))) (zg q3) ?_;refine rs0 (.bool (decide (a0<=a2))) (zT q3) ?_;refine rsB 1 ?_;refine Ap (tn_ ?_);obtain rfl:=zj h;exact ⟨_,Ac [],rfl⟩
  have q3_:=of_decide_eq_false q3;refine Aa 11 ?_;refine rz0 (ai a0) ?_;refine rz0 (ai a1) ?_;refine rz0 (.bool (decide (a1<=a0))) ?_;refine rz0 (.bool (decide (a1<=a0))) ?_;refine zs q3 ?_;refine zs q3 ?_;refine zs q3 ?_;refine rs0 (.bool false) (zF q3) ?_;refine rsB 1 ?_;refine Ap (tn_ ?_);obtain rfl:=zj h;exact ⟨_,Ac [],rfl⟩
 rintro l2_m6 _ rfl h
 (try dsimp only at h);refine Ah ?_;obtain rfl:=zj h;exact Bm [.bool l2_m6] (Aw rfl zl Ay)
def Ld:AC :=
 (.seq (rg [xo 10 (qb .lss (tm 9) (tm 8))])
 (.seq (.cond (tm 10)
  .skip
  (.exit 0))
 (.seq (.block 1 (.seq (rg [xo 11 (qx 1 (tm 7) (tm 9)),xo 12 (ql (tm 11)),xo 6 (qm (tm 12))])
 (.seq (rg [xo 13 (qm (tm 6)),xo 14 (qm (tm 1)),xo 15 (qb .sub (tm 14) (ci 1)),xo 16 (qc 62 [tm 13,ci 0,tm 15] [[],[],[]]),xo 17 (.i (.not (tm 16)))])
 (.cond (tm 17)
  (.seq (rg [xo 4 (qm (cb false))])
  .ret)
  .skip))))
 (rg [xo 18 (qb .add (tm 9) (ci 1)),xo 9 (qm (tm 18))]))))
def Oy:AC :=
 (.seq (rg [xo 4 (qm (cb false))])
 (.seq (.seq (rg [xo 7 (qm (tm 0)),xo 8 (.i (.len (tm 7))),xo 9 (qm (ci 0))])
 (.block 0 (.loop Ld)))
 (.seq (rg [xo 4 (qm (cb true))])
 .ret)))
def Wr:List Res:=[.tmp 4]
theorem Xc:Aq Tryd.prog Tryd.f63=some (Oy,Wr):=by kernel_rfl
theorem Mp:Ba Tryd.prog 63=true:=by kernel_rfl
def Fx (a0:List Int) (a1:Int) (l4_m9:Nat):Option (Ctl Nat (Ctl Unit Bool)) :=
 cond (decide (((l4_m9:Nat):Int)<((a0.length:Nat):Int)))
 (Option.bind (a0[l4_m9]?) fun x10 =>
 Option.bind (D3 x10 0 (wI (a1 - 1))) fun y12 =>
 cond (!y12)
  (some (Ctl.out (Ctl.out false)))
  (og (l4_m9+1<4611686018427387904) <|
  some (Ctl.next (l4_m9+1))))
 (some (Ctl.out (Ctl.next ())))
def Ej (a0:List Int) (a1:Int):Option Bool :=
 J4 (A3 (fun s_:Nat=>Fx a0 a1 s_) 4611686018427387904 0) fun _ =>
some true
def Va (r:Bool):RV:=⟨false,[(false,[.sc (.bool r)])]⟩
theorem Mn {a0:List Int} {a1:Int} {r:Bool} (h:Ej a0 a1=some r):A1 Tryd.prog Tab 63 [.tree .int a0,ai a1] (Va r):=by
 refine Av (by kernel_rfl) Tryd.func63 Xc (n:=19) (by kernel_rfl) (by simp) (tl:=[(0,.tree .int a0),(1,ai a1)]) rfl ?_;unfold Oy;unfold Ej at h;refine Al ?_;refine Db h (fun (_:Unit) S_=>S_=⟨Am [],Ak (Ao []),2⟩) ?_ ?_
 ·intro v_ h hk2;refine Al ?_;refine Ai ?_;refine A4 h (fun (l4_m9:Nat) S_=>S_=⟨Am [(1,ai a1),(7,.tree .int a0),(8,ai ((a0.length:Nat):Int)),(9,ai ((l4_m9:Nat):Int))],Ak (Ao []),2⟩) ⟨_,Ac [],rfl⟩ ?_;rintro n_ l4_m9 _ c_ rfl h hn4
  (try dsimp only at h);unfold Fx at h;unfold Ld;refine Al ?_;refine Ab ?_;rcases Ad h with ⟨q7,h⟩ | ⟨q7,h⟩
  ·have q7_:=of_decide_eq_true q7;refine Ag q7 ?_;refine Aj (tn_ ?_);refine wr_ ?_;refine Ab ?_;refine Ai ?_;refine Ab ?_;obtain ⟨x10,e10,h⟩:=Ae h;refine Aa 6 ?_;refine rs0 (.telt .int x10 0) (zi (t:=.int) (xs:=a0) (k:=.i64) (m:=((l4_m9:Nat):Int)) (Bi _) e10) ?_;refine rsB 2 ?_;refine Ap (tn_ ?_);refine wr_ ?_;refine Ab ?_;obtain ⟨y12,h12,h⟩:=Ae h;refine Aa 11 ?_;refine rz0 (ai x10) ?_;refine rz0 (ai a1) ?_;refine rz0 (ai (wI (a1 - 1))) ?_;refine zc (.bool y12) [] [ai x10,ai 0,ai (wI (a1 - 1))] (Cu h12) ?_;refine rsB 1 ?_;refine Ap (tn_ ?_);refine wr_ ?_;rcases Ad h with ⟨q13,h⟩ | ⟨q13,h⟩
   ·refine Ag q13 ?_;refine Al ?_;refine Ah (br_ (tr_ (tr_ (br_ (tr_ ?_)))));obtain rfl:=zj h;have h:=hn4
    (try dsimp only at h);obtain rfl:=zj h;have h:=hk2
    (try dsimp only at h);obtain rfl:=zj h;exact Bm [.bool false] (Aw rfl zl Ay)
   refine Af q13 ?_;refine Aj (bn_ (tn_ ?_));refine wr_ ?_;obtain ⟨g15,h⟩:=As h;refine Aa 13 ?_;refine rs0 (ai ((l4_m9+1:Nat):Int)) (za g15) ?_;refine rsB 1 ?_;refine Ap (tn_ ?_);obtain rfl:=zj h;exact ⟨l4_m9+1,_,Ac [],rfl,hn4⟩
  have q7_:=of_decide_eq_false q7;refine Af q7 ?_;refine A0 (te_ (te_ (be_ (tn_ ?_))));obtain rfl:=zj h;have h:=hn4
  (try dsimp only at h);obtain rfl:=zj h;exact ⟨(),_,rfl,Ac [],rfl⟩
 rintro _ _ rfl h
 (try dsimp only at h);refine Al ?_;refine Ah ?_;obtain rfl:=zj h;exact Bm [.bool true] (Aw rfl zl Ay)
def Ue:AC :=
 (.seq (rg [xo 2 (qm (.cst .nils))])
 (.seq (rg [xo 3 (qm (tm 0)),xo 4 (.make 3 .int 8 (tm 3) (tm 3)),xo 2 (qm (tm 4))])
 .ret))
def Afe:List Res:=[.tmp 2]
theorem Ae6:Aq Tryd.prog Tryd.f47=some (Ue,Afe):=by kernel_rfl
theorem R0:Ba Tryd.prog 47=true:=by kernel_rfl
def De (a0:Int):Option (List Int) :=
 og (0<=a0∧a0<=a0∧a0<=1073741824∧(8:Int)*a0<=140737488355328) <|
some (List.replicate a0.toNat (0:Int))
def Ab9 (r:List Int):RV:=⟨false,[(false,[.new 3 .int r])]⟩
theorem Gd {a0:Int} {r:List Int} (h:De a0=some r):A1 Tryd.prog Tab 47 [ai a0] (Ab9 r):=by
 refine Av (by kernel_rfl) Tryd.func47 Ae6 (n:=5) (by kernel_rfl) (by simp) (tl:=[(0,ai a0)]) rfl ?_;unfold Ue;unfold De at h;refine Al ?_;refine Ab ?_;obtain ⟨g3,h⟩:=As h;refine Aa 5 ?_;refine rz0 (ai a0) ?_;refine rs1 (.own (oi 4 3) .int 0 a0.toNat) (oi 4 3) (.arr 3 .int (List.replicate a0.toNat (0:Int))) (Mk (t:=.int) (k:=.i64) (k':=.i64) (m:=a0) (m':=a0) (by kernel_rfl) (by kernel_rfl) g3 rfl) ?_;refine rsB 1 ?_;refine Ap (tn_ ?_);refine wr_ ?_;refine Ah ?_;obtain rfl:=zj h;exact Bm [.own (oi 4 3) .int 0 a0.toNat] (Aw rfl (Fk (by kernel_rfl) List.length_replicate.symm) Ay)
def Z2:AC :=
 (.seq (rg [xo 4 (qm (ci 0))])
 (.seq (rg [xo 5 (qm (tm 1)),xo 6 (qm (tm 0)),xo 7 (qb .rem (tm 5) (tm 6)),xo 1 (qm (tm 7))])
 (.seq (.seq (rg [xo 8 (qm (tm 1)),xo 9 (qb .lss (tm 8) (ci 0))])
 (.cond (tm 9)
  (rg [xo 10 (qm (tm 1)),xo 11 (qm (tm 0)),xo 12 (qb .add (tm 10) (tm 11)),xo 1 (qm (tm 12))])
  .skip))
 (.seq (rg [xo 13 (qm (tm 1)),xo 4 (qm (tm 13))])
 .ret))))
def Aic:List Res:=[.tmp 4]
theorem Aiv:Aq Tryd.prog Tryd.f66=some (Z2,Aic):=by kernel_rfl
theorem Wn:Ba Tryd.prog 66=true:=by kernel_rfl
def H3 (a0:Int) (a1:Int):Option Int :=
 og (a0≠0) <|
Option.bind (cond (decide (Int.tmod a1 a0<0))
  (some (wI (Int.tmod a1 a0+a0)))
  (some (Int.tmod a1 a0))) fun l4_m1 =>
some l4_m1
def Af9 (r:Int):RV:=⟨false,[(false,[.sc (.int .i64 r)])]⟩
theorem Qf {a0:Int} {a1:Int} {r:Int} (h:H3 a0 a1=some r):A1 Tryd.prog Tab 66 [ai a0,ai a1] (Af9 r):=by
 refine Av (by kernel_rfl) Tryd.func66 Aiv (n:=14) (by kernel_rfl) (by simp) (tl:=[(0,ai a0),(1,ai a1)]) rfl ?_;unfold Z2;unfold H3 at h;refine Al ?_;refine Ab ?_;obtain ⟨g3,h⟩:=As h;refine Aa 6 ?_;refine rz0 (ai a1) ?_;refine rz0 (ai a0) ?_;refine rs0 (ai (Int.tmod a1 a0)) (Age (k:=.i64) (a:=a1) (b:=a0) (by kernel_rfl) (by kernel_rfl) g3) ?_;refine rsB 1 ?_;refine Ap (tn_ ?_);refine wr_ ?_;refine At h (fun (l4_m1:Int) S_=>S_=⟨Am [(1,ai l4_m1)],Ak (Ao []),2⟩) ?_ ?_
 ·intro v_ h;refine Al ?_;rcases Ad h with ⟨q6,h⟩ | ⟨q6,h⟩
  ·have q6_:=of_decide_eq_true q6;refine Ag q6 ?_;refine Aa 12 ?_;refine rsB 4 ?_;refine Ap (tn_ ?_);obtain rfl:=zj h;exact ⟨_,Ac [],rfl⟩
  have q6_:=of_decide_eq_false q6;refine Af q6 ?_;refine Aj (tn_ ?_);obtain rfl:=zj h;exact ⟨_,Ac [],rfl⟩
 rintro l4_m1 _ rfl h
 (try dsimp only at h);refine Al ?_;refine Ah ?_;obtain rfl:=zj h;exact Bm [ai l4_m1] (Aw rfl zl Ay)
def Mq:AC :=
 (.seq (rg [xo 4 (qm (cb false))])
 (.seq (rg [xo 5 (qm (tm 1)),xo 6 (qb .geq (tm 5) (ci 0)),xo 7 (qm (tm 6)),⟨some 8,some (7,true),qm (tm 1)⟩,⟨some 9,some (7,true),qm (tm 0)⟩,⟨some 10,some (7,true),qb .lss (tm 8) (tm 9)⟩,xo 11 (.i (.pick (tm 7) (tm 10) (cb false))),xo 4 (qm (tm 11))])
 .ret))
def Vl:List Res:=[.tmp 4]
theorem Vj:Aq Tryd.prog Tryd.f77=some (Mq,Vl):=by kernel_rfl
theorem Uq:Ba Tryd.prog 77=true:=by kernel_rfl
def Fj (a0:Int) (a1:Int):Option Bool :=
 Option.bind (cond (decide (0<=a1))
  (some (decide (a1<a0)))
  (some false)) fun l2_m4 =>
some l2_m4
def T8 (r:Bool):RV:=⟨false,[(false,[.sc (.bool r)])]⟩
theorem Tz {a0:Int} {a1:Int} {r:Bool} (h:Fj a0 a1=some r):A1 Tryd.prog Tab 77 [ai a0,ai a1] (T8 r):=by
 refine Av (by kernel_rfl) Tryd.func77 Vj (n:=12) (by kernel_rfl) (by simp) (tl:=[(0,ai a0),(1,ai a1)]) rfl ?_;unfold Mq;unfold Fj at h;refine Al ?_;refine At h (fun (l2_m4:Bool) S_=>S_=⟨Am [(4,.bool l2_m4)],Ak (Ao []),2⟩) ?_ ?_
 ·intro v_ h;rcases Ad h with ⟨q3,h⟩ | ⟨q3,h⟩
  ·have q3_:=of_decide_eq_true q3;refine Aa 10 ?_;refine rz0 (ai a1) ?_;refine rz0 (.bool (decide (0<=a1))) ?_;refine rz0 (.bool (decide (0<=a1))) ?_;refine rs0 (ai a1) (zg q3) ?_;refine rs0 (ai a0) (zg q3) ?_;refine rs0 (.bool (decide (a1<a0))) (zg q3) ?_;refine rs0 (.bool (decide (a1<a0))) (zT q3) ?_;refine rsB 1 ?_;refine Ap (tn_ ?_);obtain rfl:=zj h;exact ⟨_,Ac [],rfl⟩
  have q3_:=of_decide_eq_false q3;refine Aa 10 ?_;refine rz0 (ai a1) ?_;refine rz0 (.bool (decide (0<=a1))) ?_;refine rz0 (.bool (decide (0<=a1))) ?_;refine zs q3 ?_;refine zs q3 ?_;refine zs q3 ?_;refine rs0 (.bool false) (zF q3) ?_;refine rsB 1 ?_;refine Ap (tn_ ?_);obtain rfl:=zj h;exact ⟨_,Ac [],rfl⟩
 rintro l2_m4 _ rfl h
 (try dsimp only at h);refine Ah ?_;obtain rfl:=zj h;exact Bm [.bool l2_m4] (Aw rfl zl Ay)
def Tw:AC :=
 (.seq (rg [xo 2 (qm (.cst .nils))])
 (.seq (rg [xo 3 (.mkS 3 .int []),xo 4 (qm (tm 0)),xo 5 (.append 3 .int 8 (tm 3) (tm 4)),xo 2 (qm (tm 5))])
 .ret))
def Ae9:List Res:=[.tmp 2]
theorem Afu:Aq Tryd.prog Tryd.f48=some (Tw,Ae9):=by kernel_rfl
theorem Ack:Ba Tryd.prog 48=true:=by kernel_rfl
def Io (a0:List Int):Option (List Int) :=
 og (0+a0.length<=1073741824∧(0+a0.length)*8<=140737488355328) <|
some a0
def Ac2 (r:List Int):RV:=⟨false,[(false,[.new 3 .int r])]⟩
theorem Acc {a0:List Int} {r:List Int} (h:Io a0=some r):A1 Tryd.prog Tab 48 [.tree .int a0] (Ac2 r):=by
 refine Av (by kernel_rfl) Tryd.func48 Afu (n:=6) (by kernel_rfl) (by simp) (tl:=[(0,.tree .int a0)]) rfl ?_;unfold Tw;unfold Io at h;refine Al ?_;refine Ab ?_;obtain ⟨g3,h⟩:=As h;refine Aa 6 ?_;refine rs1 (.own (oi 3 2) .int 0 0) (oi 3 2) (.arr 3 .int []) (by kernel_rfl) ?_;refine rz0 (.tree .int a0) ?_;refine rs2 (.own (oi 3 4) .int 0 a0.length) (oi 3 2) (oi 3 4) (.arr 3 .int a0) (Mj (t:=.int) (t':=.int) (xs:=[]) (ys:=a0) (zs:=a0) (j:=oi 3 2) (len:=0) (c:=.tree .int a0) (by kernel_rfl) (by kernel_rfl) rfl (by kernel_rfl) Ai7 rfl g3) ?_;refine rsB 1 ?_;refine Ap (tn_ ?_);refine wr_ ?_;refine Ah ?_;obtain rfl:=zj h;exact Bm [.own (oi 3 4) .int 0 a0.length] (Aw rfl (Fk (by kernel_rfl) rfl) Ay)
def Pv:AC :=
 (.seq (rg [xo 10 (qb .lss (tm 9) (tm 8))])
 (.seq (.cond (tm 10)
  .skip
  (.exit 0))
 (.seq (.block 1 (.seq (rg [xo 11 (qm (tm 9)),xo 4 (qm (tm 11))])
 (rg [xo 12 (qm (tm 3)),xo 13 (qm (tm 4)),xo 14 (qm (tm 4)),xo 15 (qx 1 (tm 12) (tm 13)),xn (qs (tm 15) (tm 14))])))
 (rg [xo 16 (qb .add (tm 9) (ci 1)),xo 9 (qm (tm 16))]))))
def Wf:AC :=
 (.seq (rg [xo 2 (qm (.cst .nils))])
 (.seq (rg [xo 5 (qm (tm 0)),xo 6 (qc 47 [tm 5] [[]]),xo 3 (qm (tm 6))])
 (.seq (.seq (rg [xo 7 (qm (tm 3)),xo 8 (.i (.len (tm 7))),xo 9 (qm (ci 0))])
 (.block 0 (.loop Pv)))
 (.seq (rg [xo 17 (qm (tm 3)),xo 2 (qm (tm 17))])
 .ret))))
def Agm:List Res:=[.tmp 2]
theorem Ag7:Aq Tryd.prog Tryd.f80=some (Wf,Agm):=by kernel_rfl
def Gp (y3:List Int) (l6_m9:Nat) (l6_m3:List Int):Option (Ctl (Nat×List Int) (List Int)) :=
 cond (decide (((l6_m9:Nat):Int)<((y3.length:Nat):Int)))
 (Option.bind (l6_m3[l6_m9]?) fun x12 =>
 og (l6_m9+1<4611686018427387904) <|
 some (Ctl.next (l6_m9+1,l6_m3.set l6_m9 ((l6_m9:Nat):Int))))
 (some (Ctl.out l6_m3))
def Jx (a0:Int):Option (List Int) :=
 Option.bind (De a0) fun y3 =>
Option.bind (A3 (fun s_:Nat×List Int=>Gp y3 s_.1 s_.2) 4611686018427387904 (0,y3)) fun l4_m3 =>
some l4_m3
def Afj (r:List Int):RV:=⟨false,[(false,[.new 3 .int r])]⟩
theorem Ae8 {a0:Int} {r:List Int} (h:Jx a0=some r):A1 Tryd.prog Tab 80 [ai a0] (Afj r):=by
 refine Av (by kernel_rfl) Tryd.func80 Ag7 (n:=18) (by kernel_rfl) (by simp) (tl:=[(0,ai a0)]) rfl ?_;unfold Wf;unfold Jx at h;refine Al ?_;refine Ab ?_;obtain ⟨y3,h3,h⟩:=Ae h;refine Aa 5 ?_;refine rz0 (ai a0) ?_;refine zc (.own (oi 96 3) .int 0 y3.length) [(oi 96 3,some (.arr 3 .int y3))] [ai a0] (Gd h3) ?_;refine rsB 1 ?_;refine Ap (tn_ ?_);refine wr_ ?_;refine At h (fun (l4_m3:List Int) S_=>S_=⟨Am [(3,.own (oi 0 1) .int 0 l4_m3.length)],Ak (Ao [(oi 0 1,.arr 3 .int l4_m3)]),2⟩) ?_ ?_
 ·intro v_ h;refine Al ?_;refine Ai ?_;refine A4 h (fun t_ S_=>∃ (l6_m9:Nat),∃ (l6_m3:List Int),t_=(l6_m9,l6_m3)∧S_=⟨Am [(3,.own (oi 0 1) .int 0 l6_m3.length),(8,ai ((y3.length:Nat):Int)),(9,ai ((l6_m9:Nat):Int))],Ak (Ao [(oi 0 1,.arr 3 .int l6_m3)]),2⟩) ⟨_,Ac [(oi 0 1,oi 96 3)],⟨0,y3,rfl,rfl⟩⟩ ?_;rintro n_ _ _ c_ ⟨l6_m9,l6_m3,rfl,rfl⟩ h hn6
  (try dsimp only at h);unfold Gp at h;unfold Pv;refine Al ?_;refine Ab ?_;rcases Ad h with ⟨q9,h⟩ | ⟨q9,h⟩
  ·have q9_:=of_decide_eq_true q9;refine Ag q9 ?_;refine Aj (tn_ ?_);refine wr_ ?_;refine Ab ?_;refine Ai ?_;refine Al ?_;obtain ⟨x12,e12,h⟩:=Ae h;refine Aa 10 ?_;refine rz0 (.own (oi 0 1) .int 0 l6_m3.length) ?_;refine rz0 (ai ((l6_m9:Nat):Int)) ?_;refine rz0 (ai ((l6_m9:Nat):Int)) ?_;refine rs0 (.elt (oi 0 1) l6_m9 0) (zo (t:=.int) (o:=oi 0 1) (len:=l6_m3.length) (k:=.i64) (m:=((l6_m9:Nat):Int)) (Bi _) (Bn e12)) ?_;refine Tn (oi 0 1) (oi 0 1) (.arr 3 .int (l6_m3.set l6_m9 ((l6_m9:Nat):Int))) (J1 (i:=oi 0 1) (j:=l6_m9) (k:=0) (e:=3) (t:=.int) (xs:=l6_m3) (cs:=[ai ((l6_m9:Nat):Int)]) (x1:=((l6_m9:Nat):Int)) (by kernel_rfl) (by kernel_rfl) e12 (by kernel_rfl) (by kernel_rfl)) ?_;refine Ap (bn_ (tn_ ?_));refine wr_ ?_;obtain ⟨g13,h⟩:=As h;refine Aa 12 ?_;refine rs0 (ai ((l6_m9+1:Nat):Int)) (za g13) ?_;refine rsB 1 ?_;refine Ap (tn_ ?_);obtain rfl:=zj h;exact ⟨(l6_m9+1,l6_m3.set l6_m9 ((l6_m9:Nat):Int)),_,(Br 3 (.own (oi 0 1) .int 0 l6_m3.length) (.own (oi 0 1) .int 0 ((l6_m3.set l6_m9 ((l6_m9:Nat):Int)).length)) (by kernel_rfl) (congrArg (fun z_=>((.own (oi 0 1) .int 0 z_):AV)) (((rfl:l6_m3.length=l6_m3.length).trans List.length_set.symm):l6_m3.length=(l6_m3.set l6_m9 ((l6_m9:Nat):Int)).length))).trans (Ac []),⟨l6_m9+1,l6_m3.set l6_m9 ((l6_m9:Nat):Int),rfl,rfl⟩,hn6⟩
  have q9_:=of_decide_eq_false q9;refine Af q9 ?_;refine A0 (te_ (te_ (be_ (tn_ ?_))));obtain rfl:=zj h;have h:=hn6
  (try dsimp only at h);obtain rfl:=zj h;exact ⟨_,Ac [],rfl⟩
 rintro l4_m3 _ rfl h
 (try dsimp only at h);refine Al ?_;refine Ah ?_;obtain rfl:=zj h;exact Bm [.own (oi 0 1) .int 0 l4_m3.length] (Aw rfl (Fk (by kernel_rfl) rfl) Ay)
def M3:AC :=
 (.seq (rg [xo 11 (qb .lss (tm 10) (tm 9))])
 (.seq (.cond (tm 11)
  .skip
  (.exit 0))
 (.seq (.block 1 (.seq (rg [xo 12 (qx 1 (tm 8) (tm 10)),xo 13 (ql (tm 12)),xo 7 (qm (tm 13))])
 (rg [xo 14 (qm (tm 5)),xo 15 (qm (tm 1)),xo 16 (qm (tm 7)),xo 17 (qx 1 (tm 15) (tm 16)),xo 18 (ql (tm 17)),xo 19 (.mkS 3 .int [tm 18]),xo 20 (.append 3 .int 8 (tm 14) (tm 19)),xo 5 (qm (tm 20))])))
 (rg [xo 21 (qb .add (tm 10) (ci 1)),xo 10 (qm (tm 21))]))))
def Ry:AC :=
 (.seq (rg [xo 4 (qm (.cst .nils))])
 (.seq (rg [xo 5 (qm (.cst .nils))])
 (.seq (.seq (rg [xo 8 (qm (tm 0)),xo 9 (.i (.len (tm 8))),xo 10 (qm (ci 0))])
 (.block 0 (.loop M3)))
 (.seq (rg [xo 22 (qm (tm 5)),xo 4 (qm (tm 22))])
 .ret))))
def Abr:List Res:=[.tmp 4]
theorem Ac0:Aq Tryd.prog Tryd.f74=some (Ry,Abr):=by kernel_rfl
theorem X2:Ba Tryd.prog 74=true:=by kernel_rfl
def E9 (a0:List Int) (a1:List Int) (l5_m10:Nat) (l5_m5:List Int):Option (Ctl (Nat×List Int) (List Int)) :=
 cond (decide (((l5_m10:Nat):Int)<((a0.length:Nat):Int)))
 (Option.bind (a0[l5_m10]?) fun x11 =>
 Option.bind (Hc a1 x11) fun x12 =>
 og (l5_m5.length+1<=1073741824∧(l5_m5.length+1)*8<=140737488355328) <|
 og (l5_m10+1<4611686018427387904) <|
 some (Ctl.next (l5_m10+1,l5_m5++([x12]))))
 (some (Ctl.out l5_m5))
def Hw (a0:List Int) (a1:List Int):Option (List Int) :=
 Option.bind (A3 (fun s_:Nat×List Int=>E9 a0 a1 s_.1 s_.2) 4611686018427387904 (0,[])) fun l3_m5 =>
some l3_m5
def Aat (r:List Int):RV:=⟨false,[(false,[.new 3 .int r])]⟩
theorem Za {a0:List Int} {a1:List Int} {r:List Int} (h:Hw a0 a1=some r):A1 Tryd.prog Tab 74 [.tree .int a0,.tree .int a1] (Aat r):=by
 refine Av (by kernel_rfl) Tryd.func74 Ac0 (n:=23) (by kernel_rfl) (by simp) (tl:=[(0,.tree .int a0),(1,.tree .int a1)]) rfl ?_;unfold Ry;unfold Hw at h;refine Al ?_;refine Al ?_;refine At h (fun (l3_m5:List Int) S_=>S_=⟨Am [(5,.own (oi 0 1) .int 0 l3_m5.length)],Ak (Ao [(oi 0 1,.arr 3 .int l3_m5)]),2⟩) ?_ ?_
 ·intro v_ h;refine Al ?_;refine Ai ?_;refine A4 h (fun t_ S_=>∃ (l5_m10:Nat),∃ (l5_m5:List Int),t_=(l5_m10,l5_m5)∧S_=⟨Am [(1,.tree .int a1),(5,.own (oi 0 1) .int 0 l5_m5.length),(8,.tree .int a0),(9,ai ((a0.length:Nat):Int)),(10,ai ((l5_m10:Nat):Int))],Ak (Ao [(oi 0 1,.arr 3 .int l5_m5)]),2⟩) ⟨_,(Qz 5 3 .int rfl (by kernel_rfl)).trans (Ac [(oi 0 1,oi 5 6)]),⟨0,[],rfl,rfl⟩⟩ ?_;rintro n_ _ _ c_ ⟨l5_m10,l5_m5,rfl,rfl⟩ h hn5
  (try dsimp only at h);unfold E9 at h;unfold M3;refine Al ?_;refine Ab ?_;rcases Ad h with ⟨q8,h⟩ | ⟨q8,h⟩
  ·have q8_:=of_decide_eq_true q8;refine Ag q8 ?_;refine Aj (tn_ ?_);refine wr_ ?_;refine Ab ?_;refine Ai ?_;refine Ab ?_;obtain ⟨x11,e11,h⟩:=Ae h;refine Aa 6 ?_;refine rs0 (.telt .int x11 0) (zi (t:=.int) (xs:=a0) (k:=.i64) (m:=((l5_m10:Nat):Int)) (Bi _) e11) ?_;refine rsB 2 ?_;refine Ap (tn_ ?_);refine wr_ ?_;obtain ⟨x12,f12,h⟩:=Ae h;obtain ⟨p12,b12,e12⟩:=Bs f12;obtain ⟨g13,h⟩:=As h;refine Aa 14 ?_;refine rz0 (.own (oi 0 1) .int 0 l5_m5.length) ?_;refine rz0 (.tree .int a1) ?_;refine rz0 (ai x11) ?_;refine rs0 (.telt .int x12 0) (zi (t:=.int) (xs:=a1) (k:=.i64) (m:=x11) p12 e12) ?_;refine rz0 (ai x12) ?_;refine rs1 (.own (oi 19 11) .int 0 1) (oi 19 11) (.arr 3 .int ([x12])) (by kernel_rfl) ?_;refine rs2 (.own (oi 0 12) .int 0 ((l5_m5++([x12])).length)) (oi 0 1) (oi 0 12) (.arr 3 .int (l5_m5++([x12]))) (Mj (t:=.int) (t':=.int) (xs:=l5_m5) (ys:=[x12]) (zs:=l5_m5++([x12])) (j:=oi 0 1) (len:=l5_m5.length) (c:=.own (oi 19 11) .int 0 1) (by kernel_rfl) (by kernel_rfl) rfl (by kernel_rfl) (Pq (e:=3) (by kernel_rfl) rfl) rfl g13) ?_;refine rsB 1 ?_;refine Ap (bn_ (tn_ ?_));refine wr_ ?_;obtain ⟨g14,h⟩:=As h;refine Aa 16 ?_;refine rs0 (ai ((l5_m10+1:Nat):Int)) (za g14) ?_;refine rsB 1 ?_;refine Ap (tn_ ?_);obtain rfl:=zj h;exact ⟨(l5_m10+1,l5_m5++([x12])),_,Ac [(oi 0 1,oi 0 12)],⟨l5_m10+1,l5_m5++([x12]),rfl,rfl⟩,hn5⟩
  have q8_:=of_decide_eq_false q8;refine Af q8 ?_;refine A0 (te_ (te_ (be_ (tn_ ?_))));obtain rfl:=zj h;have h:=hn5
  (try dsimp only at h);obtain rfl:=zj h;exact ⟨_,Ac [],rfl⟩
 rintro l3_m5 _ rfl h
 (try dsimp only at h);refine Al ?_;refine Ah ?_;obtain rfl:=zj h;exact Bm [.own (oi 0 1) .int 0 l3_m5.length] (Aw rfl (Fk (by kernel_rfl) rfl) Ay)
def Mt:AC :=
 (.seq (rg [xo 14 (qb .lss (tm 13) (tm 12))])
 (.seq (.cond (tm 14)
  .skip
  (.exit 0))
 (.seq (.block 1 (.seq (rg [xo 15 (qx 1 (tm 11) (tm 13)),xo 16 (ql (tm 15)),xo 7 (qm (tm 16))])
 (rg [xo 17 (qm (tm 5)),xo 18 (qm (tm 0)),xo 19 (qm (tm 7)),xo 20 (qx 1 (tm 18) (tm 19)),xo 21 (ql (tm 20)),xo 22 (.mkS 3 .int [tm 21]),xo 23 (.append 3 .int 8 (tm 17) (tm 22)),xo 5 (qm (tm 23))])))
 (rg [xo 24 (qb .add (tm 13) (ci 1)),xo 13 (qm (tm 24))]))))
def R1:AC :=
 (.seq (rg [xo 4 (qm (.cst .nils))])
 (.seq (rg [xo 8 (qm (tm 1)),xo 9 (.i (.len (tm 8))),xo 10 (.make 3 .int 8 (ci 0) (tm 9)),xo 5 (qm (tm 10))])
 (.seq (.seq (rg [xo 11 (qm (tm 1)),xo 12 (.i (.len (tm 11))),xo 13 (qm (ci 0))])
 (.block 0 (.loop Mt)))
 (.seq (rg [xo 25 (qm (tm 5)),xo 4 (qm (tm 25))])
 .ret))))
def Acg:List Res:=[.tmp 4]
theorem Abw:Aq Tryd.prog Tryd.f67=some (R1,Acg):=by kernel_rfl
theorem Aad:Ba Tryd.prog 67=true:=by kernel_rfl
def Fa (a1:List Int) (a0:List Int) (l6_m13:Nat) (l6_m5:List Int):Option (Ctl (Nat×List Int) (List Int)) :=
 cond (decide (((l6_m13:Nat):Int)<((a1.length:Nat):Int)))
 (Option.bind (a1[l6_m13]?) fun x12 =>
 Option.bind (Hc a0 x12) fun x13 =>
 og (l6_m5.length+1<=1073741824∧(l6_m5.length+1)*8<=140737488355328) <|
 og (l6_m13+1<4611686018427387904) <|
 some (Ctl.next (l6_m13+1,l6_m5++([x13]))))
 (some (Ctl.out l6_m5))
def Hq (a0:List Int) (a1:List Int):Option (List Int) :=
 og (0<=(0:Int)∧(0:Int)<=((a1.length:Nat):Int)∧((a1.length:Nat):Int)<=1073741824∧(8:Int)*((a1.length:Nat):Int)<=140737488355328) <|
Option.bind (A3 (fun s_:Nat×List Int=>Fa a1 a0 s_.1 s_.2) 4611686018427387904 (0,List.replicate 0 (0:Int))) fun l4_m5 =>
some l4_m5
def Aaw (r:List Int):RV:=⟨false,[(false,[.new 3 .int r])]⟩
theorem Aa7 {a0:List Int} {a1:List Int} {r:List Int} (h:Hq a0 a1=some r):A1 Tryd.prog Tab 67 [.tree .int a0,.tree .int a1] (Aaw r):=by
 refine Av (by kernel_rfl) Tryd.func67 Abw (n:=26) (by kernel_rfl) (by simp) (tl:=[(0,.tree .int a0),(1,.tree .int a1)]) rfl ?_;unfold R1;unfold Hq at h;refine Al ?_;refine Ab ?_;obtain ⟨g3,h⟩:=As h;refine Aa 6 ?_;refine rz0 (.tree .int a1) ?_;refine rz0 (ai ((a1.length:Nat):Int)) ?_;refine rs1 (.own (oi 10 4) .int 0 0) (oi 10 4) (.arr 3 .int (List.replicate 0 (0:Int))) (Mk (t:=.int) (k:=.i64) (k':=.i64) (m:=0) (m':=((a1.length:Nat):Int)) (by kernel_rfl) (by kernel_rfl) g3 rfl) ?_;refine rsB 1 ?_;refine Ap (tn_ ?_);refine wr_ ?_;refine At h (fun (l4_m5:List Int) S_=>S_=⟨Am [(5,.own (oi 0 1) .int 0 l4_m5.length)],Ak (Ao [(oi 0 1,.arr 3 .int l4_m5)]),2⟩) ?_ ?_
 ·intro v_ h;refine Al ?_;refine Ai ?_;refine A4 h (fun t_ S_=>∃ (l6_m13:Nat),∃ (l6_m5:List Int),t_=(l6_m13,l6_m5)∧S_=⟨Am [(0,.tree .int a0),(5,.own (oi 0 1) .int 0 l6_m5.length),(11,.tree .int a1),(12,ai ((a1.length:Nat):Int)),(13,ai ((l6_m13:Nat):Int))],Ak (Ao [(oi 0 1,.arr 3 .int l6_m5)]),2⟩) ⟨_,(Br 5 (.own (oi 10 4) .int 0 0) (.own (oi 10 4) .int 0 ((List.replicate 0 (0:Int)).length)) (by kernel_rfl) (congrArg (fun z_=>((.own (oi 10 4) .int 0 z_):AV)) (List.length_replicate.symm:0=(List.replicate 0 (0:Int)).length))).trans (Ac [(oi 0 1,oi 10 4)]),⟨0,List.replicate 0 (0:Int),rfl,rfl⟩⟩ ?_;rintro n_ _ _ c_ ⟨l6_m13,l6_m5,rfl,rfl⟩ h hn6
  (try dsimp only at h);unfold Fa at h;unfold Mt;refine Al ?_;refine Ab ?_;rcases Ad h with ⟨q9,h⟩ | ⟨q9,h⟩
  ·have q9_:=of_decide_eq_true q9;refine Ag q9 ?_;refine Aj (tn_ ?_);refine wr_ ?_;refine Ab ?_;refine Ai ?_;refine Ab ?_;obtain ⟨x12,e12,h⟩:=Ae h;refine Aa 6 ?_;refine rs0 (.telt .int x12 0) (zi (t:=.int) (xs:=a1) (k:=.i64) (m:=((l6_m13:Nat):Int)) (Bi _) e12) ?_;refine rsB 2 ?_;refine Ap (tn_ ?_);refine wr_ ?_;obtain ⟨x13,f13,h⟩:=Ae h;obtain ⟨p13,b13,e13⟩:=Bs f13;obtain ⟨g14,h⟩:=As h;refine Aa 14 ?_;refine rz0 (.own (oi 0 1) .int 0 l6_m5.length) ?_;refine rz0 (.tree .int a0) ?_;refine rz0 (ai x12) ?_;refine rs0 (.telt .int x13 0) (zi (t:=.int) (xs:=a0) (k:=.i64) (m:=x12) p13 e13) ?_;refine rz0 (ai x13) ?_;refine rs1 (.own (oi 22 11) .int 0 1) (oi 22 11) (.arr 3 .int ([x13])) (by kernel_rfl) ?_;refine rs2 (.own (oi 0 12) .int 0 ((l6_m5++([x13])).length)) (oi 0 1) (oi 0 12) (.arr 3 .int (l6_m5++([x13]))) (Mj (t:=.int) (t':=.int) (xs:=l6_m5) (ys:=[x13]) (zs:=l6_m5++([x13])) (j:=oi 0 1) (len:=l6_m5.length) (c:=.own (oi 22 11) .int 0 1) (by kernel_rfl) (by kernel_rfl) rfl (by kernel_rfl) (Pq (e:=3) (by kernel_rfl) rfl) rfl g14) ?_;refine rsB 1 ?_;refine Ap (bn_ (tn_ ?_));refine wr_ ?_;obtain ⟨g15,h⟩:=As h;refine Aa 16 ?_;refine rs0 (ai ((l6_m13+1:Nat):Int)) (za g15) ?_;refine rsB 1 ?_;refine Ap (tn_ ?_);obtain rfl:=zj h;exact ⟨(l6_m13+1,l6_m5++([x13])),_,Ac [(oi 0 1,oi 0 12)],⟨l6_m13+1,l6_m5++([x13]),rfl,rfl⟩,hn6⟩
  have q9_:=of_decide_eq_false q9;refine Af q9 ?_;refine A0 (te_ (te_ (be_ (tn_ ?_))));obtain rfl:=zj h;have h:=hn6
  (try dsimp only at h);obtain rfl:=zj h;exact ⟨_,Ac [],rfl⟩
 rintro l4_m5 _ rfl h
 (try dsimp only at h);refine Al ?_;refine Ah ?_;obtain rfl:=zj h;exact Bm [.own (oi 0 1) .int 0 l4_m5.length] (Aw rfl (Fk (by kernel_rfl) rfl) Ay)
end
section
open Go.RowKit Go.Deep
set_option maxRecDepth 4000
def P8:AC :=
 (.seq (rg [xo 4 (qm (ci 0))])
 (.seq (rg [xo 5 (qm (tm 1)),xo 6 (qm (tm 0)),xo 7 (.i (.len (tm 6))),xo 8 (qb .sub (tm 5) (tm 7)),xo 1 (qm (tm 8))])
 (.seq (.seq (rg [xo 9 (qm (tm 1)),xo 10 (qb .lss (tm 9) (ci 0))])
 (.cond (tm 10)
  (.seq (rg [xo 4 (qm (ci (-1)))])
  .ret)
  .skip))
 (.seq (rg [xo 11 (qm (tm 1)),xo 4 (qm (tm 11))])
 .ret))))
def Aav:List Res:=[.tmp 4]
theorem X9:Aq Tryd.prog Tryd.f12=some (P8,Aav):=by kernel_rfl
def Gw (a0:List (Int×Int×Int×Int)) (a1:Int):Option Int :=
 cond (decide (wI (a1 - ((a0.length:Nat):Int))<0))
 (some (-1))
 (some (wI (a1 - ((a0.length:Nat):Int))))
def Wx (r:Int):RV:=⟨false,[(false,[.sc (.int .i64 r)])]⟩
theorem Xf {a0:List (Int×Int×Int×Int)} {a1:Int} {r:Int} (h:Gw a0 a1=some r):A1 Tryd.prog Tab 12 [.tree T4 a0,ai a1] (Wx r):=by
 refine Av (by kernel_rfl) Tryd.func12 X9 (n:=12) (by kernel_rfl) (by simp) (tl:=[(0,.tree T4 a0),(1,ai a1)]) rfl ?_;unfold P8;unfold Gw at h;refine Al ?_;refine Al ?_;refine Ab ?_;refine Al ?_;rcases Ad h with ⟨q5,h⟩ | ⟨q5,h⟩
 ·have q5_:=of_decide_eq_true q5;refine Ag q5 ?_;refine Al ?_;refine Ah (tr_ ?_);obtain rfl:=zj h;exact Bm [ai (-1)] (Aw rfl zl Ay)
 have q5_:=of_decide_eq_false q5;refine Af q5 ?_;refine Aj (tn_ ?_);refine wr_ ?_;refine Al ?_;refine Ah ?_;obtain rfl:=zj h;exact Bm [ai (wI (a1 - ((a0.length:Nat):Int)))] (Aw rfl zl Ay)
def Mx:AC :=
 (.seq (rg [xo 2 (.i (.box 25 (tm 0))),xo 4 (qm (ci 0))])
 (.seq (rg [xo 5 (qf 1 (tm 2)),xo 6 (ql (tm 5)),xo 7 (qm (tm 1)),⟨some 8,none,qc 12 [tm 6,tm 7] [[some T4],[]]⟩,xo 1 (qm (tm 8))])
 (.seq (.seq (rg [xo 9 (qm (tm 1)),xo 10 (qb .lss (tm 9) (ci 0))])
 (.cond (tm 10)
  (.seq (rg [xo 4 (qm (ci (-1)))])
  .ret)
  .skip))
 (.seq (rg [xo 11 (qf 2 (tm 2)),xo 12 (ql (tm 11)),xo 13 (qm (tm 1)),xo 14 (qc 13 [tm 12,tm 13] [[some .int],[]]),xo 1 (qm (tm 14))])
 (.seq (.seq (rg [xo 15 (qm (tm 1)),xo 16 (qb .lss (tm 15) (ci 0))])
 (.cond (tm 16)
  (.seq (rg [xo 4 (qm (ci (-1)))])
  .ret)
  .skip))
 (.seq (rg [xo 17 (qm (tm 1)),xo 4 (qm (tm 17))])
 .ret))))))
def U6:List Res:=[.tmp 4]
theorem U1:Aq Tryd.prog Tryd.f5=some (Mx,U6):=by kernel_rfl
def D7 (a0_0:Int) (a0_1:List (Int×Int×Int×Int)) (a0_2:List Int) (a1:Int):Option Int :=
 Option.bind (Gw a0_1 a1) fun y3 =>
cond (decide (y3<0))
 (some (-1))
 (Option.bind (Hv a0_2 y3) fun y9 =>
 cond (decide (y9<0))
  (some (-1))
  (some y9))
def Um (r:Int):RV:=⟨false,[(false,[.sc (.int .i64 r)])]⟩
theorem Lt {a0_0:Int} {a0_1:List (Int×Int×Int×Int)} {a0_2:List Int} {a1:Int} {r:Int} (h:D7 a0_0 a0_1 a0_2 a1=some r):A1 Tryd.prog Tab 5 [.agg [ai a0_0,.tree T4 a0_1,.tree .int a0_2],ai a1] (Um r):=by
 refine Av (by kernel_rfl) Tryd.func5 U1 (n:=18) (by kernel_rfl) (by simp) (tl:=[(0,.agg [ai a0_0,.tree T4 a0_1,.tree .int a0_2]),(1,ai a1)]) rfl ?_;unfold Mx;unfold D7 at h;refine Al ?_;refine Ab ?_;obtain ⟨y3,h3,h⟩:=Ae h;refine Aa 8 ?_;refine rz0 (.box (oi 2 1) 1) ?_;refine rzl (.tree T4 a0_1) ?_;refine rz0 (ai a1) ?_;refine zc (ai y3) [] [.tree T4 a0_1,ai a1] (Xf h3) ?_;refine rsB 1 ?_;refine Ap (tn_ ?_);refine wr_ ?_;refine Ab ?_;refine Al ?_;rcases Ad h with ⟨q6,h⟩ | ⟨q6,h⟩
 ·have q6_:=of_decide_eq_true q6;refine Ag q6 ?_;refine Al ?_;refine Ah (tr_ ?_);obtain rfl:=zj h;exact Bm [ai (-1)] (Aw rfl zl Ay)
 have q6_:=of_decide_eq_false q6;refine Af q6 ?_;refine Aj (tn_ ?_);refine wr_ ?_;refine Ab ?_;obtain ⟨y9,h9,h⟩:=Ae h;refine Aa 15 ?_;refine rz0 (.box (oi 2 1) 2) ?_;refine rzl (.tree .int a0_2) ?_;refine rz0 (ai y3) ?_;refine zc (ai y9) [] [.tree .int a0_2,ai y3] (Y9 h9) ?_;refine rsB 1 ?_;refine Ap (tn_ ?_);refine wr_ ?_;refine Ab ?_;refine Al ?_;rcases Ad h with ⟨q12,h⟩ | ⟨q12,h⟩
 ·have q12_:=of_decide_eq_true q12;refine Ag q12 ?_;refine Al ?_;refine Ah (tr_ ?_);obtain rfl:=zj h;exact Bm [ai (-1)] (Aw rfl zl Ay)
 have q12_:=of_decide_eq_false q12;refine Af q12 ?_;refine Aj (tn_ ?_);refine wr_ ?_;refine Al ?_;refine Ah ?_;obtain rfl:=zj h;exact Bm [ai y9] (Aw rfl zl Ay)
def Sc:AC :=
 (.seq (rg [xo 1 (.i (.box 61 (tm 0))),xo 2 (.i (.alloc 59 [.int .i64 0,.int .i64 0,.int .i64 0,.int .i64 0]))])
 (.seq (rg [xo 3 (.i (.alloc 59 [.int .i64 0,.int .i64 0,.int .i64 0,.int .i64 0]))])
 (.seq (rg [xo 4 (qf 0 (tm 1)),xo 5 (ql (tm 4)),xo 6 (qf 0 (tm 3)),xn (qs (tm 6) (tm 5))])
 (.seq (rg [xo 7 (qf 1 (tm 1)),xo 8 (ql (tm 7)),xo 9 (qf 1 (tm 3)),xn (qs (tm 9) (tm 8))])
 (.seq (rg [xo 10 (qf 2 (tm 1)),xo 11 (ql (tm 10)),xo 12 (qf 2 (tm 3)),xn (qs (tm 12) (tm 11))])
 (.seq (rg [xo 13 (qf 3 (tm 1)),xo 14 (ql (tm 13)),xo 15 (qf 3 (tm 3)),xn (qs (tm 15) (tm 14))])
 (.seq (rg [xo 16 (.i (.ld false 4 (tm 3))),xn (.st false 4 (tm 2) (tm 16))])
 .ret)))))))
def Aci:List Res:=[.cell 2 false 4]
theorem Abp:Aq Tryd.prog Tryd.f28=some (Sc,Aci):=by kernel_rfl
def Jk (a0_0:Int) (a0_1:Int) (a0_2:Int) (a0_3:Int):Option (Int×Int×Int×Int) :=
 some (a0_0,a0_1,a0_2,a0_3)
def Aal (r:Int×Int×Int×Int):RV:=⟨false,[(true,[.sc (.int .i64 r.1),.sc (.int .i64 r.2.1),.sc (.int .i64 r.2.2.1),.sc (.int .i64 r.2.2.2)])]⟩
theorem Aaq {a0_0:Int} {a0_1:Int} {a0_2:Int} {a0_3:Int} {r:Int×Int×Int×Int} (h:Jk a0_0 a0_1 a0_2 a0_3=some r):A1 Tryd.prog Tab 28 [.agg [ai a0_0,ai a0_1,ai a0_2,ai a0_3]] (Aal r):=by
 refine Av (by kernel_rfl) Tryd.func28 Abp (n:=17) (by kernel_rfl) (by simp) (tl:=[(0,.agg [ai a0_0,ai a0_1,ai a0_2,ai a0_3])]) rfl ?_;unfold Sc;unfold Jk at h;refine Al ?_;refine Al ?_;refine Al ?_;refine Al ?_;refine Al ?_;refine Al ?_;refine Al ?_;refine Ah ?_;obtain rfl:=zj h;exact Bm [.agg [ai a0_0,ai a0_1,ai a0_2,ai a0_3]] (Aoe (Ss zl (Ss zl (Ss zl (Ss zl Aog)))) Ay)
def L3:AC :=
 (.seq (.seq (rg [xo 8 (qm (tm 4)),xo 9 (qm (tm 0)),xo 10 (.i (.len (tm 9))),xo 11 (qb .lss (tm 8) (tm 10))])
 (.cond (tm 11)
  .skip
  (.exit 0)))
 (.seq (.block 1 (rg [xo 14 (qm (tm 3)),xo 15 (qm (tm 4)),xo 16 (qm (tm 0)),xo 17 (qm (tm 4)),xo 18 (qx 4 (tm 16) (tm 17)),xo 19 (.i (.ld false 4 (tm 18))),xo 20 (qc 28 [tm 19] [[none,none,none,none]]),xo 21 (qx 4 (tm 14) (tm 15)),xn (.st false 4 (tm 21) (tm 20))]))
 (rg [xo 12 (qm (tm 4)),xo 13 (qb .add (tm 12) (ci 1)),xo 4 (qm (tm 13))])))
def Qe:AC :=
 (.seq (rg [xo 2 (qm (.cst .nils))])
 (.seq (rg [xo 5 (qm (tm 0)),xo 6 (.i (.len (tm 5))),⟨some 7,none,.make 59 T4 32 (tm 6) (tm 6)⟩,xo 3 (qm (tm 7))])
 (.seq (.seq (rg [xo 4 (qm (ci 0))])
 (.block 0 (.loop L3)))
 (.seq (rg [xo 22 (qm (tm 3)),xo 2 (qm (tm 22))])
 .ret))))
def Z4:List Res:=[.tmp 2]
theorem Yz:Aq Tryd.prog Tryd.f16=some (Qe,Z4):=by kernel_rfl
def Es (a0:List (Int×Int×Int×Int)) (l6_m4:Nat) (l6_m3:List (Int×Int×Int×Int)):Option (Ctl (Nat×(List (Int×Int×Int×Int))) (List (Int×Int×Int×Int))) :=
 cond (decide (((l6_m4:Nat):Int)<((a0.length:Nat):Int)))
 (Option.bind (a0[l6_m4]?) fun x11 =>
 Option.bind (Jk x11.1 x11.2.1 x11.2.2.1 x11.2.2.2) fun y12 =>
 Option.bind (l6_m3[l6_m4]?) fun x13 =>
 og (l6_m4+1<4611686018427387904) <|
 some (Ctl.next (l6_m4+1,l6_m3.set l6_m4 y12)))
 (some (Ctl.out l6_m3))
def G0 (a0:List (Int×Int×Int×Int)):Option (List (Int×Int×Int×Int)) :=
 og (0<=((a0.length:Nat):Int)∧((a0.length:Nat):Int)<=((a0.length:Nat):Int)∧((a0.length:Nat):Int)<=1073741824∧(32:Int)*((a0.length:Nat):Int)<=140737488355328) <|
Option.bind (A3 (fun s_:Nat×(List (Int×Int×Int×Int))=>Es a0 s_.1 s_.2) 4611686018427387904 (0,List.replicate a0.length ((0,0,0,0):Int×Int×Int×Int))) fun l4_m3 =>
some l4_m3
def Wu (r:List (Int×Int×Int×Int)):RV:=⟨false,[(false,[.new 59 T4 r])]⟩
theorem Xd {a0:List (Int×Int×Int×Int)} {r:List (Int×Int×Int×Int)} (h:G0 a0=some r):A1 Tryd.prog Tab 16 [.tree T4 a0] (Wu r):=by
 refine Av (by kernel_rfl) Tryd.func16 Yz (n:=23) (by kernel_rfl) (by simp) (tl:=[(0,.tree T4 a0)]) rfl ?_;unfold Qe;unfold G0 at h;refine Al ?_;refine Ab ?_;obtain ⟨g3,h⟩:=As h;refine Aa 6 ?_;refine rz0 (.tree T4 a0) ?_;refine rz0 (ai ((a0.length:Nat):Int)) ?_;refine rs1 (.own (oi 7 4) T4 0 a0.length) (oi 7 4) (.arr 59 T4 (List.replicate a0.length ((0,0,0,0):Int×Int×Int×Int))) (Mk (t:=T4) (k:=.i64) (k':=.i64) (m:=((a0.length:Nat):Int)) (m':=((a0.length:Nat):Int)) (by kernel_rfl) (by kernel_rfl) g3 rfl) ?_;refine rsB 1 ?_;refine Ap (tn_ ?_);refine wr_ ?_;refine At h (fun (l4_m3:List (Int×Int×Int×Int)) S_=>S_=⟨Am [(3,.own (oi 0 1) T4 0 l4_m3.length)],Ak (Ao [(oi 0 1,.arr 59 T4 l4_m3)]),2⟩) ?_ ?_
 ·intro v_ h;refine Al ?_;refine Ai ?_;refine A4 h (fun t_ S_=>∃ (l6_m4:Nat),∃ (l6_m3:List (Int×Int×Int×Int)),t_=(l6_m4,l6_m3)∧S_=⟨Am [(0,.tree T4 a0),(3,.own (oi 0 1) T4 0 l6_m3.length),(4,ai ((l6_m4:Nat):Int))],Ak (Ao [(oi 0 1,.arr 59 T4 l6_m3)]),2⟩) ⟨_,(Br 3 (.own (oi 7 4) T4 0 a0.length) (.own (oi 7 4) T4 0 ((List.replicate a0.length ((0,0,0,0):Int×Int×Int×Int)).length)) (by kernel_rfl) (congrArg (fun z_=>((.own (oi 7 4) T4 0 z_):AV)) (List.length_replicate.symm:a0.length=(List.replicate a0.length ((0,0,0,0):Int×Int×Int×Int)).length))).trans (Ac [(oi 0 1,oi 7 4)]),⟨0,List.replicate a0.length ((0,0,0,0):Int×Int×Int×Int),rfl,rfl⟩⟩ ?_;rintro n_ _ _ c_ ⟨l6_m4,l6_m3,rfl,rfl⟩ h hn6
  (try dsimp only at h);unfold Es at h;unfold L3;refine Ab ?_;refine Al ?_;rcases Ad h with ⟨q9,h⟩ | ⟨q9,h⟩
  ·have q9_:=of_decide_eq_true q9;refine Ag q9 ?_;refine Aj (tn_ ?_);refine wr_ ?_;refine Ab ?_;refine Ai ?_;obtain ⟨x11,e11,h⟩:=Ae h;obtain ⟨y12,h12,h⟩:=Ae h;obtain ⟨x13,e13,h⟩:=Ae h;refine Aa 15 ?_;refine rz0 (.own (oi 0 1) T4 0 l6_m3.length) ?_;refine rz0 (ai ((l6_m4:Nat):Int)) ?_;refine rz0 (.tree T4 a0) ?_;refine rz0 (ai ((l6_m4:Nat):Int)) ?_;refine rs0 (.telt T4 x11 0) (zi (t:=T4) (xs:=a0) (k:=.i64) (m:=((l6_m4:Nat):Int)) (Bi _) e11) ?_;refine rz0 (.agg [ai x11.1,ai x11.2.1,ai x11.2.2.1,ai x11.2.2.2]) ?_;refine zc (.agg [ai y12.1,ai y12.2.1,ai y12.2.2.1,ai y12.2.2.2]) [] [.agg [ai x11.1,ai x11.2.1,ai x11.2.2.1,ai x11.2.2.2]] (Aaq h12) ?_;refine rs0 (.elt (oi 0 1) l6_m4 0) (zo (t:=T4) (o:=oi 0 1) (len:=l6_m3.length) (k:=.i64) (m:=((l6_m4:Nat):Int)) (Bi _) (Bn e13)) ?_;refine Tn (oi 0 1) (oi 0 1) (.arr 59 T4 (l6_m3.set l6_m4 y12)) (J1 (i:=oi 0 1) (j:=l6_m4) (k:=0) (e:=59) (t:=T4) (xs:=l6_m3) (cs:=[ai y12.1,ai y12.2.1,ai y12.2.2.1,ai y12.2.2.2]) (x1:=y12) (by kernel_rfl) (by kernel_rfl) e13 (by kernel_rfl) (by kernel_rfl)) ?_;refine Ap (bn_ (tn_ ?_));refine wr_ ?_;obtain ⟨g14,h⟩:=As h;refine Aa 18 ?_;refine rz0 (ai ((l6_m4:Nat):Int)) ?_;refine rs0 (ai ((l6_m4+1:Nat):Int)) (za g14) ?_;refine rsB 1 ?_;refine Ap (tn_ ?_);obtain rfl:=zj h;exact ⟨(l6_m4+1,l6_m3.set l6_m4 y12),_,(Br 3 (.own (oi 0 1) T4 0 l6_m3.length) (.own (oi 0 1) T4 0 ((l6_m3.set l6_m4 y12).length)) (by kernel_rfl) (congrArg (fun z_=>((.own (oi 0 1) T4 0 z_):AV)) (((rfl:l6_m3.length=l6_m3.length).trans List.length_set.symm):l6_m3.length=(l6_m3.set l6_m4 y12).length))).trans (Ac []),⟨l6_m4+1,l6_m3.set l6_m4 y12,rfl,rfl⟩,hn6⟩
  have q9_:=of_decide_eq_false q9;refine Af q9 ?_;refine A0 (te_ (te_ (be_ (tn_ ?_))));obtain rfl:=zj h;have h:=hn6
  (try dsimp only at h);obtain rfl:=zj h;exact ⟨_,Ac [],rfl⟩
 rintro l4_m3 _ rfl h
 (try dsimp only at h);refine Al ?_;refine Ah ?_;obtain rfl:=zj h;exact Bm [.own (oi 0 1) T4 0 l4_m3.length] (Aw rfl (Fk (by kernel_rfl) rfl) Ay)
def Nd:AC :=
 (.seq (rg [xo 1 (.i (.box 25 (tm 0))),xo 2 (.i (.alloc 31 [.int .i64 0,.nils,.nils]))])
 (.seq (rg [xo 3 (.i (.alloc 31 [.int .i64 0,.nils,.nils]))])
 (.seq (rg [xo 4 (qf 0 (tm 1)),xo 5 (ql (tm 4)),xo 6 (qf 0 (tm 3)),xn (qs (tm 6) (tm 5))])
 (.seq (rg [xo 7 (qf 1 (tm 1)),xo 8 (ql (tm 7)),⟨some 9,none,qc 16 [tm 8] [[some T4]]⟩,xo 10 (qf 1 (tm 3)),xn (qs (tm 10) (tm 9))])
 (.seq (rg [xo 11 (qf 2 (tm 1)),xo 12 (ql (tm 11)),xo 13 (qc 17 [tm 12] [[some .int]]),xo 14 (qf 2 (tm 3)),xn (qs (tm 14) (tm 13))])
 (.seq (rg [xo 15 (.i (.ld false 3 (tm 3))),xn (.st false 3 (tm 2) (tm 15))])
 .ret))))))
def Vr:List Res:=[.cell 2 false 3]
theorem Vf:Aq Tryd.prog Tryd.f7=some (Nd,Vr):=by kernel_rfl
theorem Gh:Ba Tryd.prog 7=true:=by kernel_rfl
def B4 (a0_0:Int) (a0_1:List (Int×Int×Int×Int)) (a0_2:List Int):Option (Int×(List (Int×Int×Int×Int))×List Int) :=
 Option.bind (G0 a0_1) fun y5 =>
Option.bind (Hu a0_2) fun y7 =>
some (a0_0,y5,y7)
def Tu (r:Int×(List (Int×Int×Int×Int))×List Int):RV:=⟨false,[(true,[.sc (.int .i64 r.1),.new 59 T4 r.2.1,.new 3 .int r.2.2])]⟩
theorem Dr {a0_0:Int} {a0_1:List (Int×Int×Int×Int)} {a0_2:List Int} {r:Int×(List (Int×Int×Int×Int))×List Int} (h:B4 a0_0 a0_1 a0_2=some r):A1 Tryd.prog Tab 7 [.agg [ai a0_0,.tree T4 a0_1,.tree .int a0_2]] (Tu r):=by
 refine Av (by kernel_rfl) Tryd.func7 Vf (n:=16) (by kernel_rfl) (by simp) (tl:=[(0,.agg [ai a0_0,.tree T4 a0_1,.tree .int a0_2])]) rfl ?_;unfold Nd;unfold B4 at h;refine Al ?_;refine Al ?_;refine Al ?_;refine Ab ?_;obtain ⟨y5,h5,h⟩:=Ae h;refine Aa 13 ?_;refine rz0 (.box (oi 1 1) 1) ?_;refine rzl (.tree T4 a0_1) ?_;refine zc (.own (oi 144 10) T4 0 y5.length) [(oi 144 10,some (.arr 59 T4 y5))] [.tree T4 a0_1] (Xd h5) ?_;refine rsB 2 ?_;refine Ap (tn_ ?_);refine wr_ ?_;refine Ab ?_;obtain ⟨y7,h7,h⟩:=Ae h;refine Aa 18 ?_;refine rz0 (.box (oi 1 1) 2) ?_;refine rzl (.tree .int a0_2) ?_;refine zc (.own (oi 208 15) .int 0 y7.length) [(oi 208 15,some (.arr 3 .int y7))] [.tree .int a0_2] (Zj h7) ?_;refine rsB 2 ?_;refine Ap (tn_ ?_);refine wr_ ?_;refine Al ?_;refine Ah ?_;obtain rfl:=zj h;exact Bm [.agg [ai a0_0,.own (oi 144 10) T4 0 y5.length,.own (oi 208 15) .int 0 y7.length]] (Aoe (Ss zl (Ss (Fk (by kernel_rfl) rfl) (Ss (Fk (by kernel_rfl) rfl) Aog))) Ay)
def R6:AC :=
 (.seq (rg [xo 2 (.i (.box 59 (tm 0))),xo 3 (.i (.box 59 (tm 1))),xo 4 (qm (cb false))])
 (.seq (.seq (rg [xo 5 (qf 0 (tm 2)),xo 6 (ql (tm 5)),xo 7 (qf 0 (tm 3)),xo 8 (ql (tm 7)),xo 9 (qb .neq (tm 6) (tm 8))])
 (.cond (tm 9)
  (.seq (rg [xo 4 (qm (cb false))])
  .ret)
  .skip))
 (.seq (.seq (rg [xo 10 (qf 1 (tm 2)),xo 11 (ql (tm 10)),xo 12 (qf 1 (tm 3)),xo 13 (ql (tm 12)),xo 14 (qb .neq (tm 11) (tm 13))])
 (.cond (tm 14)
  (.seq (rg [xo 4 (qm (cb false))])
  .ret)
  .skip))
 (.seq (.seq (rg [xo 15 (qf 2 (tm 2)),xo 16 (ql (tm 15)),xo 17 (qf 2 (tm 3)),xo 18 (ql (tm 17)),xo 19 (qb .neq (tm 16) (tm 18))])
 (.cond (tm 19)
  (.seq (rg [xo 4 (qm (cb false))])
  .ret)
  .skip))
 (.seq (.seq (rg [xo 20 (qf 3 (tm 2)),xo 21 (ql (tm 20)),xo 22 (qf 3 (tm 3)),xo 23 (ql (tm 22)),xo 24 (qb .neq (tm 21) (tm 23))])
 (.cond (tm 24)
  (.seq (rg [xo 4 (qm (cb false))])
  .ret)
  .skip))
 (.seq (rg [xo 4 (qm (cb true))])
 .ret))))))
def Aba:List Res:=[.tmp 4]
theorem Ab4:Aq Tryd.prog Tryd.f33=some (R6,Aba):=by kernel_rfl
theorem Ze:Ba Tryd.prog 33=true:=by kernel_rfl
def Jh (a0_0:Int) (a0_1:Int) (a0_2:Int) (a0_3:Int) (a1_0:Int) (a1_1:Int) (a1_2:Int) (a1_3:Int):Option Bool :=
 cond (a0_0 !=a1_0)
 (some false)
 (cond (a0_1 !=a1_1)
  (some false)
  (cond (a0_2 !=a1_2)
   (some false)
   (cond (a0_3 !=a1_3)
    (some false)
    (some true))))
def Z6 (r:Bool):RV:=⟨false,[(false,[.sc (.bool r)])]⟩
theorem Aan {a0_0:Int} {a0_1:Int} {a0_2:Int} {a0_3:Int} {a1_0:Int} {a1_1:Int} {a1_2:Int} {a1_3:Int} {r:Bool} (h:Jh a0_0 a0_1 a0_2 a0_3 a1_0 a1_1 a1_2 a1_3=some r):A1 Tryd.prog Tab 33 [.agg [ai a0_0,ai a0_1,ai a0_2,ai a0_3],.agg [ai a1_0,ai a1_1,ai a1_2,ai a1_3]] (Z6 r):=by
 refine Av (by kernel_rfl) Tryd.func33 Ab4 (n:=25) (by kernel_rfl) (by simp) (tl:=[(0,.agg [ai a0_0,ai a0_1,ai a0_2,ai a0_3]),(1,.agg [ai a1_0,ai a1_1,ai a1_2,ai a1_3])]) rfl ?_;unfold R6;unfold Jh at h;refine Al ?_;refine Ab ?_;refine Al ?_;rcases Ad h with ⟨q4,h⟩ | ⟨q4,h⟩
 ·refine Ag q4 ?_;refine Al ?_;refine Ah (tr_ ?_);obtain rfl:=zj h;exact Bm [.bool false] (Aw rfl zl Ay)
 refine Af q4 ?_;refine Aj (tn_ ?_);refine wr_ ?_;refine Ab ?_;refine Al ?_;rcases Ad h with ⟨q8,h⟩ | ⟨q8,h⟩
 ·refine Ag q8 ?_;refine Al ?_;refine Ah (tr_ ?_);obtain rfl:=zj h;exact Bm [.bool false] (Aw rfl zl Ay)
 refine Af q8 ?_;refine Aj (tn_ ?_);refine wr_ ?_;refine Ab ?_;refine Al ?_;rcases Ad h with ⟨q12,h⟩ | ⟨q12,h⟩
 ·refine Ag q12 ?_;refine Al ?_;refine Ah (tr_ ?_);obtain rfl:=zj h;exact Bm [.bool false] (Aw rfl zl Ay)
 refine Af q12 ?_;refine Aj (tn_ ?_);refine wr_ ?_;refine Ab ?_;refine Al ?_;rcases Ad h with ⟨q16,h⟩ | ⟨q16,h⟩
 ·refine Ag q16 ?_;refine Al ?_;refine Ah (tr_ ?_);obtain rfl:=zj h;exact Bm [.bool false] (Aw rfl zl Ay)
 refine Af q16 ?_;refine Aj (tn_ ?_);refine wr_ ?_;refine Al ?_;refine Ah ?_;obtain rfl:=zj h;exact Bm [.bool true] (Aw rfl zl Ay)
def L9:AC :=
 (.seq (.seq (rg [xo 11 (qm (tm 5)),xo 12 (qm (tm 0)),xo 13 (.i (.len (tm 12))),xo 14 (qb .lss (tm 11) (tm 13))])
 (.cond (tm 14)
  .skip
  (.exit 0)))
 (.seq (.block 1 (.seq (.region [xo 17 (qm (tm 0)),xo 18 (qm (tm 5)),xo 19 (qx 4 (tm 17) (tm 18)),xo 20 (.i (.ld false 4 (tm 19))),xo 21 (qm (tm 1)),xo 22 (qm (tm 5)),xo 23 (qx 4 (tm 21) (tm 22)),xo 24 (.i (.ld false 4 (tm 23))),xo 25 (qc 33 [tm 20,tm 24] [[none,none,none,none],[none,none,none,none]]),xo 26 (.i (.not (tm 25)))] true [])
 (.cond (tm 26)
  (.seq (rg [xo 4 (qm (cb false))])
  .ret)
  .skip)))
 (rg [xo 15 (qm (tm 5)),xo 16 (qb .add (tm 15) (ci 1)),xo 5 (qm (tm 16))])))
def Pi:AC :=
 (.seq (rg [xo 4 (qm (cb false))])
 (.seq (.seq (rg [xo 6 (qm (tm 0)),xo 7 (.i (.len (tm 6))),xo 8 (qm (tm 1)),xo 9 (.i (.len (tm 8))),xo 10 (qb .neq (tm 7) (tm 9))])
 (.cond (tm 10)
  (.seq (rg [xo 4 (qm (cb false))])
  .ret)
  .skip))
 (.seq (.seq (rg [xo 5 (qm (ci 0))])
 (.block 0 (.loop L9)))
 (.seq (rg [xo 4 (qm (cb true))])
 .ret))))
def Aag:List Res:=[.tmp 4]
theorem Aa6:Aq Tryd.prog Tryd.f20=some (Pi,Aag):=by kernel_rfl
def Ez (a0:List (Int×Int×Int×Int)) (a1:List (Int×Int×Int×Int)) (l8_m5:Nat):Option (Ctl Nat (Ctl Unit Bool)) :=
 cond (decide (((l8_m5:Nat):Int)<((a0.length:Nat):Int)))
 (Option.bind (a0[l8_m5]?) fun x14 =>
 Option.bind (a1[l8_m5]?) fun x15 =>
 Option.bind (Jh x14.1 x14.2.1 x14.2.2.1 x14.2.2.2 x15.1 x15.2.1 x15.2.2.1 x15.2.2.2) fun y16 =>
 cond (!y16)
  (some (Ctl.out (Ctl.out false)))
  (og (l8_m5+1<4611686018427387904) <|
  some (Ctl.next (l8_m5+1))))
 (some (Ctl.out (Ctl.next ())))
def Gs (a0:List (Int×Int×Int×Int)) (a1:List (Int×Int×Int×Int)):Option Bool :=
 cond (((a0.length:Nat):Int) !=((a1.length:Nat):Int))
 (some false)
 (J4 (A3 (fun s_:Nat=>Ez a0 a1 s_) 4611686018427387904 0) fun _ =>
 some true)
def Xa (r:Bool):RV:=⟨false,[(false,[.sc (.bool r)])]⟩
theorem W2 {a0:List (Int×Int×Int×Int)} {a1:List (Int×Int×Int×Int)} {r:Bool} (h:Gs a0 a1=some r):A1 Tryd.prog Tab 20 [.tree T4 a0,.tree T4 a1] (Xa r):=by
 refine Av (by kernel_rfl) Tryd.func20 Aa6 (n:=27) (by kernel_rfl) (by simp) (tl:=[(0,.tree T4 a0),(1,.tree T4 a1)]) rfl ?_;unfold Pi;unfold Gs at h;refine Al ?_;refine Ab ?_;refine Al ?_;rcases Ad h with ⟨q4,h⟩ | ⟨q4,h⟩
 ·refine Ag q4 ?_;refine Al ?_;refine Ah (tr_ ?_);obtain rfl:=zj h;exact Bm [.bool false] (Aw rfl zl Ay)
 refine Af q4 ?_;refine Aj (tn_ ?_);refine wr_ ?_;refine Db h (fun (_:Unit) S_=>S_=⟨Am [],Ak (Ao []),2⟩) ?_ ?_
 ·intro v_ h hk6;refine Al ?_;refine Ai ?_;refine A4 h (fun (l8_m5:Nat) S_=>S_=⟨Am [(0,.tree T4 a0),(1,.tree T4 a1),(5,ai ((l8_m5:Nat):Int))],Ak (Ao []),2⟩) ⟨_,Ac [],rfl⟩ ?_;rintro n_ l8_m5 _ c_ rfl h hn8
  (try dsimp only at h);unfold Ez at h;unfold L9;refine Ab ?_;refine Al ?_;rcases Ad h with ⟨q11,h⟩ | ⟨q11,h⟩
  ·have q11_:=of_decide_eq_true q11;refine Ag q11 ?_;refine Aj (tn_ ?_);refine wr_ ?_;refine Ab ?_;refine Ai ?_;refine Ab ?_;obtain ⟨x14,e14,h⟩:=Ae h;obtain ⟨x15,e15,h⟩:=Ae h;obtain ⟨y16,h16,h⟩:=Ae h;refine Az 16 ?_;refine dz0 (.tree T4 a0) ?_;refine dz0 (ai ((l8_m5:Nat):Int)) ?_;refine ds0 (.telt T4 x14 0) (zi (t:=T4) (xs:=a0) (k:=.i64) (m:=((l8_m5:Nat):Int)) (Bi _) e14) ?_;refine dz0 (.agg [ai x14.1,ai x14.2.1,ai x14.2.2.1,ai x14.2.2.2]) ?_;refine dz0 (.tree T4 a1) ?_;refine dz0 (ai ((l8_m5:Nat):Int)) ?_;refine ds0 (.telt T4 x15 0) (zi (t:=T4) (xs:=a1) (k:=.i64) (m:=((l8_m5:Nat):Int)) (Bi _) e15) ?_;refine dz0 (.agg [ai x15.1,ai x15.2.1,ai x15.2.2.1,ai x15.2.2.2]) ?_;refine Cp (.bool y16) [] [.agg [ai x14.1,ai x14.2.1,ai x14.2.2.1,ai x14.2.2.2],.agg [ai x15.1,ai x15.2.1,ai x15.2.2.1,ai x15.2.2.2]] _ (caps:=[]) (args0:=[.agg [ai x14.1,ai x14.2.1,ai x14.2.2.1,ai x14.2.2.2],.agg [ai x15.1,ai x15.2.1,ai x15.2.2.1,ai x15.2.2.2]]) trivial (by kernel_rfl) (Aan h16) Ze ?_;refine dz0 (.bool (!y16)) ?_;refine Gg (Bg (by kernel_rfl)) (tn_ ?_);refine wr_ ?_;rcases Ad h with ⟨q17,h⟩ | ⟨q17,h⟩
   ·refine Ag q17 ?_;refine Al ?_;refine Ah (br_ (tr_ (tr_ (br_ (tr_ ?_)))));obtain rfl:=zj h;have h:=hn8
    (try dsimp only at h);obtain rfl:=zj h;have h:=hk6
    (try dsimp only at h);obtain rfl:=zj h;exact Bm [.bool false] (Aw rfl zl Ay)
   refine Af q17 ?_;refine Aj (bn_ (tn_ ?_));refine wr_ ?_;obtain ⟨g19,h⟩:=As h;refine Aa 19 ?_;refine rz0 (ai ((l8_m5:Nat):Int)) ?_;refine rs0 (ai ((l8_m5+1:Nat):Int)) (za g19) ?_;refine rsB 1 ?_;refine Ap (tn_ ?_);obtain rfl:=zj h;exact ⟨l8_m5+1,_,Ac [],rfl,hn8⟩
  have q11_:=of_decide_eq_false q11;refine Af q11 ?_;refine A0 (te_ (te_ (be_ (tn_ ?_))));obtain rfl:=zj h;have h:=hn8
  (try dsimp only at h);obtain rfl:=zj h;exact ⟨(),_,rfl,Ac [],rfl⟩
 rintro _ _ rfl h
 (try dsimp only at h);refine Al ?_;refine Ah ?_;obtain rfl:=zj h;exact Bm [.bool true] (Aw rfl zl Ay)
def Nc:AC :=
 (.seq (rg [xo 2 (.i (.box 31 (tm 0))),xo 3 (.i (.box 31 (tm 1))),xo 4 (qm (cb false))])
 (.seq (.seq (rg [xo 5 (qf 0 (tm 2)),xo 6 (ql (tm 5)),xo 7 (qf 0 (tm 3)),xo 8 (ql (tm 7)),xo 9 (qb .neq (tm 6) (tm 8))])
 (.cond (tm 9)
  (.seq (rg [xo 4 (qm (cb false))])
  .ret)
  .skip))
 (.seq (.seq (rg [xo 10 (qf 1 (tm 2)),xo 11 (ql (tm 10)),xo 12 (qf 1 (tm 3)),xo 13 (ql (tm 12)),⟨some 14,none,qc 20 [tm 11,tm 13] [[some T4],[some T4]]⟩,xo 15 (.i (.not (tm 14)))])
 (.cond (tm 15)
  (.seq (rg [xo 4 (qm (cb false))])
  .ret)
  .skip))
 (.seq (.seq (rg [xo 16 (qf 2 (tm 2)),xo 17 (ql (tm 16)),xo 18 (qf 2 (tm 3)),xo 19 (ql (tm 18)),xo 20 (qc 21 [tm 17,tm 19] [[some .int],[some .int]]),xo 21 (.i (.not (tm 20)))])
 (.cond (tm 21)
  (.seq (rg [xo 4 (qm (cb false))])
  .ret)
  .skip))
 (.seq (rg [xo 4 (qm (cb true))])
 .ret)))))
def U9:List Res:=[.tmp 4]
theorem Vh:Aq Tryd.prog Tryd.f9=some (Nc,U9):=by kernel_rfl
theorem Mb:Ba Tryd.prog 9=true:=by kernel_rfl
def D8 (a0_0:Int) (a0_1:List (Int×Int×Int×Int)) (a0_2:List Int) (a1_0:Int) (a1_1:List (Int×Int×Int×Int)) (a1_2:List Int):Option Bool :=
 cond (a0_0 !=a1_0)
 (some false)
 (Option.bind (Gs a0_1 a1_1) fun y8 =>
 cond (!y8)
  (some false)
  (Option.bind (Hn a0_2 a1_2) fun y13 =>
  cond (!y13)
   (some false)
   (some true)))
def Ti (r:Bool):RV:=⟨false,[(false,[.sc (.bool r)])]⟩
theorem L4 {a0_0:Int} {a0_1:List (Int×Int×Int×Int)} {a0_2:List Int} {a1_0:Int} {a1_1:List (Int×Int×Int×Int)} {a1_2:List Int} {r:Bool} (h:D8 a0_0 a0_1 a0_2 a1_0 a1_1 a1_2=some r):A1 Tryd.prog Tab 9 [.agg [ai a0_0,.tree T4 a0_1,.tree .int a0_2],.agg [ai a1_0,.tree T4 a1_1,.tree .int a1_2]] (Ti r):=by
 refine Av (by kernel_rfl) Tryd.func9 Vh (n:=22) (by kernel_rfl) (by simp) (tl:=[(0,.agg [ai a0_0,.tree T4 a0_1,.tree .int a0_2]),(1,.agg [ai a1_0,.tree T4 a1_1,.tree .int a1_2])]) rfl ?_;unfold Nc;unfold D8 at h;refine Al ?_;refine Ab ?_;refine Al ?_;rcases Ad h with ⟨q4,h⟩ | ⟨q4,h⟩
 ·refine Ag q4 ?_;refine Al ?_;refine Ah (tr_ ?_);obtain rfl:=zj h;exact Bm [.bool false] (Aw rfl zl Ay)
 refine Af q4 ?_;refine Aj (tn_ ?_);refine wr_ ?_;refine Ab ?_;refine Ab ?_;obtain ⟨y8,h8,h⟩:=Ae h;refine Aa 15 ?_;refine rz0 (.box (oi 2 1) 1) ?_;refine rzl (.tree T4 a0_1) ?_;refine rz0 (.box (oi 3 2) 1) ?_;refine rzl (.tree T4 a1_1) ?_;refine zc (.bool y8) [] [.tree T4 a0_1,.tree T4 a1_1] (W2 h8) ?_;refine rsB 1 ?_;refine Ap (tn_ ?_);refine wr_ ?_;rcases Ad h with ⟨q9,h⟩ | ⟨q9,h⟩
 ·refine Ag q9 ?_;refine Al ?_;refine Ah (tr_ ?_);obtain rfl:=zj h;exact Bm [.bool false] (Aw rfl zl Ay)
 refine Af q9 ?_;refine Aj (tn_ ?_);refine wr_ ?_;refine Ab ?_;refine Ab ?_;obtain ⟨y13,h13,h⟩:=Ae h;refine Aa 21 ?_;refine rz0 (.box (oi 2 1) 2) ?_;refine rzl (.tree .int a0_2) ?_;refine rz0 (.box (oi 3 2) 2) ?_;refine rzl (.tree .int a1_2) ?_;refine zc (.bool y13) [] [.tree .int a0_2,.tree .int a1_2] (X3 h13) ?_;refine rsB 1 ?_;refine Ap (tn_ ?_);refine wr_ ?_;rcases Ad h with ⟨q14,h⟩ | ⟨q14,h⟩
 ·refine Ag q14 ?_;refine Al ?_;refine Ah (tr_ ?_);obtain rfl:=zj h;exact Bm [.bool false] (Aw rfl zl Ay)
 refine Af q14 ?_;refine Aj (tn_ ?_);refine wr_ ?_;refine Al ?_;refine Ah ?_;obtain rfl:=zj h;exact Bm [.bool true] (Aw rfl zl Ay)
end
end Go.Proofs.YtmflebjoidoiiaaDoor
