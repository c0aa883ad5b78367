/- Lemmas on the program and on partial functions that stand in place of its code (part 4); no condition beyond those that each one states. -/
import Derived.Test.YtehocbbnjfmgaaaDoorZ3
import Derived.KernelRfl
import Derived.IntWalk
import Derived.Shelf.SlicesE.Delete
namespace Go.Proofs.YtehocbbnjfmgaaaDoor
open Go.RowKit Go.Deep
section
variable {P:Program} {G:World->Prop}
theorem Ab {x y:AC} {R:AE->St->Prop} {S:St} (h:awp P G x (Gy (fun S'=>∃ S'',Weak S' S''∧awp P G y R S'') R) S):awp P G (.seq x y) R S:=h
theorem Ud {x y:AC} {R:AE->St->Prop} {S:St} (K:St->Prop) (h:awp P G x (Gy (fun S'=>∃ S'',Weak S' S''∧K S'') R) S) (k:∀ S'',K S''->awp P G y R S''):awp P G (.seq x y) R S:=by
 unfold awp
 exact Cm (fun e S hq=>by
  cases e with
  | normal=>obtain ⟨S'',hw,hk⟩:=hq; exact ⟨S'',hw,k S'' hk⟩
  | exit id=>exact hq
  | ret=>exact hq) h
def Afj (rs:List Rec) (ds:List (List Oid)):List (Nat×Nat)->Bool
 | []=>true
 | p :: ps=>(let ri:=rs.getD p.2 (0,.any,[]); let rj:=rs.getD p.1 (0,.any,[]); let di:=ds.getD p.2 []; let dj:=ds.getD p.1 []
   ((!(ri.1==2)||rj.1==0)&&(!(rj.1==2)||ri.1==0))||((!(ri.1==2)||ri.2.2.all fun u=> !dj.contains u.1)&&((!(rj.1==2)||rj.2.2.all fun u=> !di.contains u.1)&&ri.2.2.all fun u=>rj.2.2.all fun v=> !(u.1==v.1))))&&Afj rs ds ps
theorem B8 {rs:List Rec} {ds:List (List Oid)}:∀ {bad:List (Nat×Nat)},Afj rs ds bad=true->Yl rs ds bad
 | [],_=>trivial
 | p :: ps,h=>by
  simp only [Afj,Bool.and_eq_true] at h;refine ⟨?_,B8 h.2⟩;have h1:=h.1;simp only [Bool.or_eq_true,Bool.and_eq_true,Bool.not_eq_true',beq_eq_false_iff_ne,beq_iff_eq,List.all_eq_true,List.contains_eq_mem,decide_eq_false_iff_not] at h1;unfold Kb;rcases h1 with ⟨a,b⟩ | ⟨a,b,c⟩
  ·refine .inl ⟨fun e=>?_,fun e=>?_⟩
   ·rcases a with a | a
    ·exact absurd e a
    ·exact a
   ·rcases b with b | b
    ·exact absurd e b
    ·exact b
  ·refine .inr ⟨fun e=>?_,fun e=>?_,c⟩
   ·rcases a with a | a
    ·exact absurd e a
    ·exact a
   ·rcases b with b | b
    ·exact absurd e b
    ·exact b
def XW (P:Program) (G:World->Prop) (g k:Nat) (xs:List X) (tl:List (Nat×AV)) (ol:List (Oid×Option Ob)) (Kf:List (Nat×AV)->List (Oid×Option Ob)->Prop):Prop :=
 ∃ rs tl' ol',Ad9 P G g k xs (Am tl) (Ad ol) rs (Am tl') (Ad ol')∧Kf tl' ol'
def XD (P:Program) (G:World->Prop) (bad:List (Nat×Nat)) (g k:Nat) (xs:List X) (tl:List (Nat×AV)) (ol:List (Oid×Option Ob)) (ra:List Rec) (da:List (List Oid)) (Kf:List (Nat×AV)->List (Oid×Option Ob)->Prop):Prop :=
 ∃ rs ds tl' ol',Aac P G g k xs (Am tl) (Ad ol) rs ds (Am tl') (Ad ol')∧Yl (ra.reverse++rs) (da.reverse++ds) bad∧Kf tl' ol'
theorem Aa {xs:List X} {bad:List (Nat×Nat)} {R:AE->St->Prop} {tl:List (Nat×AV)} {ol:List (Oid×Option Ob)} {g:Nat} (g':Nat) (h:XW P G g 0 xs tl ol fun tl' ol'=>R .normal ⟨Am tl',Ad ol',g'⟩) (hn:g+xs.length=g':=by kernel_rfl):awp P G (.region xs false bad) R ⟨Am tl,Ad ol,g⟩:=by
 obtain ⟨rs,tl',ol',h,hr⟩:=h;exact ⟨rs,_,_,h,by subst hn; exact hr⟩
theorem Bc {xs:List X} {bad:List (Nat×Nat)} {R:AE->St->Prop} {tl:List (Nat×AV)} {ol:List (Oid×Option Ob)} {g:Nat} (g':Nat) (h:XD P G bad g 0 xs tl ol [] [] fun tl' ol'=>R .normal ⟨Am tl',Ad ol',g'⟩) (hn:g+xs.length=g':=by kernel_rfl):awp P G (.region xs true bad) R ⟨Am tl,Ad ol,g⟩:=by
 obtain ⟨rs,ds,tl',ol',h,hb,hr⟩:=h;exact ⟨rs,ds,_,_,h,hb,by subst hn; exact hr⟩
theorem L7 (tl:List (Nat×AV)) (d:Nat) (v:AV):upd (Am tl) d v=Am ((d,v) :: tl):=by
 funext i;rfl
def Gv:Option Ob->Bool
 | some (.pool ..)=>false
 | some (.mat ..)=>false
 | some (.tv ..)=>false
 | _=>true
def D1 (us:List (Oid×Option Ob)):Bool:=us.all fun u=>Gv u.2
theorem H8 {ol:List (Oid×Option Ob)} {j:Oid} {o:Option Ob} (h:Gv o=true):upd (Ad ol) j o=Ad ((j,o) :: ol):=by
 cases o with
 | none=>funext i; rfl
 | some o=>cases o <;> first | (funext i; rfl) | cases h
theorem Fc:∀ (us ol:List (Oid×Option Ob)),D1 us=true->An us (Ad ol)=Ad (us.reverseAux ol)
 | [],_,_=>rfl
 | (j,o) :: us,ol,h=>by
  simp only [D1,List.all_cons,Bool.and_eq_true] at h;show An us (upd (Ad ol) j o)=_;rw [H8 h.1];exact Fc us _ h.2
theorem Fp {p:Bool} {n:Nat} {x:X} {f:Nat->AV} {ob:Oid->Option Ob} {r:Rec} (h:A7 n x f ob=some r):Dg P G p n x f ob r:=by
 unfold A7 at h;unfold Dg;split at h
 ·exact .inl (.inl (.inl h))
 ·split at h
  ·rename_i hc;exact ⟨true,hc,by rw [if_pos rfl]; exact .inl (.inl (.inl h))⟩
  ·rename_i hc;exact ⟨false,hc,by rw [if_neg (by simp)]; exact (osj h).symm⟩
  ·cases h
def Nl (gd:Option (Nat×Bool)) (f:Nat->AV):Prop :=
 match gd with
 | none=>True
 | some (s,c)=>f s=.bool c
theorem Ui {s:Nat} {b:Bool} {f:Nat->AV} (h:Nl (some (s,b)) f):gdv (f s) b=some true:=by
 rw [show f s=.bool b from h]; simp [gdv]
theorem Dc {s:Nat} {b c:Bool} {f:Nat->AV} (h:f s=.bool c) (hc:c=b):Nl (some (s,b)) f:=by subst hc; exact h
theorem Y3 {p:Bool} {n:Nat} {d:Option Nat} {gd:Option (Nat×Bool)} {fo:Opd} {xs:List Opd} {tys:List (List (Option Ty))} {f:Nat->AV} {ob:Oid->Option Ob} {F:FuncId} {caps args0 args:List AV} {rv:RV} {r:AV×List (Oid×Option Ob)}
  (hgd:Nl gd f) (hfo:fo.ev f=.fn F caps) (h1:J3 (gnd ob 8) ((xs++caps.map Opd.cst).map (Opd.ev f))=some args0) (hn:Mm tys args0=args) (hb:Az P F=true) (hc:A9 P G F args rv) (hni:rv.noI=true) (hr:rv.out (Cj ((d.getD 0,0),n)) ((xs++caps.map Opd.cst).map (Opd.ev f))=r) :
  Dg P G p n ⟨d,gd,.call fo xs tys⟩ f ob (1,r.1,r.2):=by
 subst hn;have key:EvR P G p f ob ((d.getD 0,0),n) (.call fo xs tys) (1,r.1,r.2):=.inr ⟨fo,xs,tys,F,caps,rfl,hfo,.inl ⟨rfl,hb,args0,rv,.inl ⟨h1,hni⟩,hc,hr⟩⟩;unfold Dg;cases gd with
 | none=>exact key
 | some sb=>exact ⟨true,Ui hgd,by rw [if_pos rfl]; exact key⟩
theorem Y2 {n:Nat} {d:Option Nat} {gd:Option (Nat×Bool)} {fo:Opd} {xs:List Opd} {tys:List (List (Option Ty))} {f:Nat->AV} {ob:Oid->Option Ob} {F:FuncId} {caps zs args:List AV} {v:AV} {ol us:List (Oid×Ob)} (θ:Oid->Oid)
  (hgd:Nl gd f) (hfo:fo.ev f=.fn F caps) (hz:(xs++caps.map Opd.cst).map (Opd.ev f)=zs) (h1:K2 θ (Pq ((nmL ol).map θ) ob) zs args) (h2:∀ q∈exL ol,ob (θ q.1)=some (q.2.ren θ)) (h3:∀ q∈exL ol,∀ q'∈exL ol,θ q.1=θ q'.1->q.1=q'.1) (h4:∀ j∈nmL ol,Reached zs ob (θ j))
  (h5:∀ q∈exL us,q.1.2=1∨(q.1.2=0∧q.1∈nmL ol)) (hb:Az P F=true) (hc:Ea P G F args ol v us) :
  Dg P G false n ⟨d,gd,.call fo xs tys⟩ f ob (2,v.ren (Bm θ ((d.getD 0,0),n)),Gk θ ((d.getD 0,0),n) ol us):=by
 have hN:Abz P G f ob ((d.getD 0,0),n) F (xs++caps.map Opd.cst) (v.ren (Bm θ ((d.getD 0,0),n)),Gk θ ((d.getD 0,0),n) ol us):=by
  rw [← hz] at h1 h4;refine ⟨hb,θ,args,ol,us,v,h1,h2,fun j k hj hk e=>?_,h4,hc,fun j hj=>?_,rfl⟩
  ·obtain ⟨q,hq,rfl⟩:=List.mem_map.1 hj;obtain ⟨q',hq',rfl⟩:=List.mem_map.1 hk;exact h3 q hq q' hq' e
  ·obtain ⟨q,hq,rfl⟩:=List.mem_map.1 hj;rcases h5 q hq with h | ⟨_,h⟩
   ·exact .inl (by rw [h]; decide)
   ·exact .inr h
 have key:EvR P G false f ob ((d.getD 0,0),n) (.call fo xs tys) (2,v.ren (Bm θ ((d.getD 0,0),n)),Gk θ ((d.getD 0,0),n) ol us):=.inr ⟨fo,xs,tys,F,caps,rfl,hfo,.inr ⟨rfl,rfl,hN⟩⟩;unfold Dg;cases gd with
 | none=>exact key
 | some sb=>exact ⟨true,Ui hgd,by rw [if_pos rfl]; exact key⟩
theorem Aeq {n:Nat} {d:Option Nat} {gd:Option (Nat×Bool)} {q:Q} {f:Nat->AV} {ob:Oid->Option Ob} {r:Rec} (hgd:Nl gd f) (h:evL f ((d.getD 0,0),n) q=some r):Dg P G false n ⟨d,gd,q⟩ f ob r:=by
 have key:EvR P G false f ob ((d.getD 0,0),n) q r:=.inl (.inl (.inr h));unfold Dg;cases gd with
 | none=>exact key
 | some sb=>exact ⟨true,Ui hgd,by rw [if_pos rfl]; exact key⟩
theorem Ad7 {n:Nat} {d:Option Nat} {gd:Option (Nat×Bool)} {q:Q} {f:Nat->AV} {ob:Oid->Option Ob} {r:Rec} (hgd:Nl gd f) (h:W0 f ((d.getD 0,0),n) q r):Dg P G false n ⟨d,gd,q⟩ f ob r:=by
 have key:EvR P G false f ob ((d.getD 0,0),n) q r:=.inl (.inr h);unfold Dg;cases gd with
 | none=>exact key
 | some sb=>exact ⟨true,Ui hgd,by rw [if_pos rfl]; exact key⟩
theorem Ay {g k:Nat} {tl:List (Nat×AV)} {ol:List (Oid×Option Ob)} {Kf:List (Nat×AV)->List (Oid×Option Ob)->Prop} (h:Kf tl ol):XW P G g k [] tl ol Kf:=⟨[],tl,ol,⟨rfl,rfl,rfl⟩,h⟩
theorem Lo {bad:List (Nat×Nat)} {g k:Nat} {tl:List (Nat×AV)} {ol:List (Oid×Option Ob)} {ra:List Rec} {da:List (List Oid)} {Kf:List (Nat×AV)->List (Oid×Option Ob)->Prop} (hb:Yl (ra.reverse++[]) (da.reverse++[]) bad) (h:Kf tl ol):XD P G bad g k [] tl ol ra da Kf:=⟨[],[],tl,ol,⟨rfl,rfl,rfl,rfl⟩,hb,h⟩
section
variable {g k d:Nat} {gd:Option (Nat×Bool)} {q:Q} {xs:List X} {tl:List (Nat×AV)} {ol:List (Oid×Option Ob)} {bad:List (Nat×Nat)} {ra:List Rec} {da:List (List Oid)} {Kf:List (Nat×AV)->List (Oid×Option Ob)->Prop}
theorem Yt (c:Nat) (v:AV) (us ol':List (Oid×Option Ob)) (h:Dg P G false (g+k) ⟨some d,gd,q⟩ (Am tl) (Ad ol) (c,v,us)) (he:An us (Ad ol)=Ad ol') (h3:XW P G g (k+1) xs ((d,v) :: tl) ol' Kf):XW P G g k (⟨some d,gd,q⟩ :: xs) tl ol Kf :=
 by
 obtain ⟨rs,tl',ol',h3,hk⟩:=h3;exact ⟨_,tl',ol',⟨_,_,rfl,h,by simp only [Hi,L7,he]; exact h3⟩,hk⟩
theorem Aea (c:Nat) (v:AV) (us ol':List (Oid×Option Ob)) (h:Dg P G false (g+k) ⟨none,gd,q⟩ (Am tl) (Ad ol) (c,v,us)) (he:An us (Ad ol)=Ad ol') (h3:XW P G g (k+1) xs tl ol' Kf):XW P G g k (⟨none,gd,q⟩ :: xs) tl ol Kf :=
 by
 obtain ⟨rs,tl',ol',h3,hk⟩:=h3;exact ⟨_,tl',ol',⟨_,_,rfl,h,by simp only [Hi,he]; exact h3⟩,hk⟩
theorem Acr (c:Nat) (v:AV) (us ol':List (Oid×Option Ob)) (h:Dg P G false (g+k) ⟨some d,gd,q⟩ (Am tl) (only (rdX (Am tl) (Ad ol) ⟨some d,gd,q⟩) (Ad ol)) (c,v,us)) (he:An us (Ad ol)=Ad ol') (h3:XD P G bad g (k+1) xs ((d,v) :: tl) ol' ((c,v,us) :: ra) ((rdX (Am tl) (Ad ol) ⟨some d,gd,q⟩) :: da) Kf):XD P G bad g k (⟨some d,gd,q⟩ :: xs) tl ol ra da Kf :=
 by
 obtain ⟨rs,ds,tl',ol',h3,hb,hk⟩:=h3;refine ⟨_,_,tl',ol',⟨_,rs,ds,rfl,rfl,h,by simp only [Hi,L7,he]; exact h3⟩,?_,hk⟩
 simpa using hb
theorem Adj (c:Nat) (v:AV) (us ol':List (Oid×Option Ob)) (h:Dg P G false (g+k) ⟨none,gd,q⟩ (Am tl) (only (rdX (Am tl) (Ad ol) ⟨none,gd,q⟩) (Ad ol)) (c,v,us)) (he:An us (Ad ol)=Ad ol') (h3:XD P G bad g (k+1) xs tl ol' ((c,v,us) :: ra) ((rdX (Am tl) (Ad ol) ⟨none,gd,q⟩) :: da) Kf):XD P G bad g k (⟨none,gd,q⟩ :: xs) tl ol ra da Kf :=
 by
 obtain ⟨rs,ds,tl',ol',h3,hb,hk⟩:=h3;refine ⟨_,_,tl',ol',⟨_,rs,ds,rfl,rfl,h,by simp only [Hi,he]; exact h3⟩,?_,hk⟩
 simpa using hb
theorem T6 (c:Nat) (v:AV) (us:List (Oid×Option Ob)) (h:Dg P G false (g+k) ⟨some d,gd,q⟩ (Am tl) (Ad ol) (c,v,us)) (h3:XW P G g (k+1) xs ((d,v) :: tl) (us.reverseAux ol) Kf) (hx:D1 us=true):XW P G g k (⟨some d,gd,q⟩ :: xs) tl ol Kf:=Yt c v us _ h (Fc us ol hx) h3
theorem Ae1 (c:Nat) (v:AV) (us:List (Oid×Option Ob)) (h:Dg P G false (g+k) ⟨none,gd,q⟩ (Am tl) (Ad ol) (c,v,us)) (h3:XW P G g (k+1) xs tl (us.reverseAux ol) Kf) (hx:D1 us=true):XW P G g k (⟨none,gd,q⟩ :: xs) tl ol Kf:=Aea c v us _ h (Fc us ol hx) h3
theorem Tl (c:Nat) (v:AV) (us:List (Oid×Option Ob)) (h:Dg P G false (g+k) ⟨some d,gd,q⟩ (Am tl) (only (rdX (Am tl) (Ad ol) ⟨some d,gd,q⟩) (Ad ol)) (c,v,us)) (h3:XD P G bad g (k+1) xs ((d,v) :: tl) (us.reverseAux ol) ((c,v,us) :: ra) ((rdX (Am tl) (Ad ol) ⟨some d,gd,q⟩) :: da) Kf) (hx:D1 us=true):XD P G bad g k (⟨some d,gd,q⟩ :: xs) tl ol ra da Kf:=Acr c v us _ h (Fc us ol hx) h3
theorem Afm (c:Nat) (v:AV) (us:List (Oid×Option Ob)) (h:Dg P G false (g+k) ⟨none,gd,q⟩ (Am tl) (only (rdX (Am tl) (Ad ol) ⟨none,gd,q⟩) (Ad ol)) (c,v,us)) (h3:XD P G bad g (k+1) xs tl (us.reverseAux ol) ((c,v,us) :: ra) ((rdX (Am tl) (Ad ol) ⟨none,gd,q⟩) :: da) Kf) (hx:D1 us=true):XD P G bad g k (⟨none,gd,q⟩ :: xs) tl ol ra da Kf:=Adj c v us _ h (Fc us ol hx) h3
theorem Af5 {ol':List (Oid×Option Ob)} (he:Ad ol=Ad ol') (h:XW P G g k xs tl ol' Kf):XW P G g k xs tl ol Kf:=by
 obtain ⟨rs,tl',ol2,h1,h2⟩:=h;exact ⟨rs,tl',ol2,by rw [he]; exact h1,h2⟩
theorem Af7 {ol':List (Oid×Option Ob)} (he:Ad ol=Ad ol') (h:XD P G bad g k xs tl ol' ra da Kf):XD P G bad g k xs tl ol ra da Kf:=by
 obtain ⟨rs,ds,tl',ol2,h1,h2⟩:=h;exact ⟨rs,ds,tl',ol2,by rw [he]; exact h1,h2⟩
-- the shape of most steps: what the machine says is found by reckoning
theorem rs0 (v:AV) (h:A7 (g+k) ⟨some d,gd,q⟩ (Am tl) (Ad ol)=some (0,v,[])) (h3:XW P G g (k+1) xs ((d,v) :: tl) ol Kf):XW P G g k (⟨some d,gd,q⟩ :: xs) tl ol Kf:=T6 0 v [] (Fp h) h3 rfl
theorem rsl (v:AV) (h:A7 (g+k) ⟨some d,gd,q⟩ (Am tl) (Ad ol)=some (1,v,[])) (h3:XW P G g (k+1) xs ((d,v) :: tl) ol Kf):XW P G g k (⟨some d,gd,q⟩ :: xs) tl ol Kf:=T6 1 v [] (Fp h) h3 rfl
theorem rs1 (v:AV) (i:Oid) (o:Ob) (h:A7 (g+k) ⟨some d,gd,q⟩ (Am tl) (Ad ol)=some (1,v,[(i,some o)])) (h3:XW P G g (k+1) xs ((d,v) :: tl) ((i,some o) :: ol) Kf) (hx:Gv (some o)=true:=by rfl):XW P G g k (⟨some d,gd,q⟩ :: xs) tl ol Kf:=T6 1 v _ (Fp h) h3 (by simp only [D1,List.all_cons,List.all_nil,hx]; rfl)
theorem rs2 (v:AV) (j i:Oid) (o:Ob) (h:A7 (g+k) ⟨some d,gd,q⟩ (Am tl) (Ad ol)=some (2,v,[(j,none),(i,some o)])) (h3:XW P G g (k+1) xs ((d,v) :: tl) ((i,some o) :: (j,none) :: ol) Kf) (hx:Gv (some o)=true:=by rfl):XW P G g k (⟨some d,gd,q⟩ :: xs) tl ol Kf:=T6 2 v _ (Fp h) h3 (by simp only [D1,List.all_cons,List.all_nil,hx]; rfl)
theorem Aek (j i:Oid) (o:Ob) (h:A7 (g+k) ⟨none,gd,q⟩ (Am tl) (Ad ol)=some (2,.any,[(j,none),(i,some o)])) (h3:XW P G g (k+1) xs tl ((i,some o) :: (j,none) :: ol) Kf) (hx:Gv (some o)=true:=by rfl):XW P G g k (⟨none,gd,q⟩ :: xs) tl ol Kf:=Ae1 2 _ _ (Fp h) h3 (by simp only [D1,List.all_cons,List.all_nil,hx]; rfl)
theorem ds0 (v:AV) (h:A7 (g+k) ⟨some d,gd,q⟩ (Am tl) (only (rdX (Am tl) (Ad ol) ⟨some d,gd,q⟩) (Ad ol))=some (0,v,[])) (h3:XD P G bad g (k+1) xs ((d,v) :: tl) ol ((0,v,[]) :: ra) ((rdX (Am tl) (Ad ol) ⟨some d,gd,q⟩) :: da) Kf):XD P G bad g k (⟨some d,gd,q⟩ :: xs) tl ol ra da Kf:=Tl 0 v [] (Fp h) h3 rfl
theorem dsl (v:AV) (h:A7 (g+k) ⟨some d,gd,q⟩ (Am tl) (only (rdX (Am tl) (Ad ol) ⟨some d,gd,q⟩) (Ad ol))=some (1,v,[])) (h3:XD P G bad g (k+1) xs ((d,v) :: tl) ol ((1,v,[]) :: ra) ((rdX (Am tl) (Ad ol) ⟨some d,gd,q⟩) :: da) Kf):XD P G bad g k (⟨some d,gd,q⟩ :: xs) tl ol ra da Kf:=Tl 1 v [] (Fp h) h3 rfl
theorem ds1 (v:AV) (i:Oid) (o:Ob) (h:A7 (g+k) ⟨some d,gd,q⟩ (Am tl) (only (rdX (Am tl) (Ad ol) ⟨some d,gd,q⟩) (Ad ol))=some (1,v,[(i,some o)])) (h3:XD P G bad g (k+1) xs ((d,v) :: tl) ((i,some o) :: ol) ((1,v,[(i,some o)]) :: ra) ((rdX (Am tl) (Ad ol) ⟨some d,gd,q⟩) :: da) Kf) (hx:Gv (some o)=true:=by rfl):XD P G bad g k (⟨some d,gd,q⟩ :: xs) tl ol ra da Kf:=Tl 1 v _ (Fp h) h3 (by simp only [D1,List.all_cons,List.all_nil,hx]; rfl)
theorem ds2 (v:AV) (j i:Oid) (o:Ob) (h:A7 (g+k) ⟨some d,gd,q⟩ (Am tl) (only (rdX (Am tl) (Ad ol) ⟨some d,gd,q⟩) (Ad ol))=some (2,v,[(j,none),(i,some o)])) (h3:XD P G bad g (k+1) xs ((d,v) :: tl) ((i,some o) :: (j,none) :: ol) ((2,v,[(j,none),(i,some o)]) :: ra) ((rdX (Am tl) (Ad ol) ⟨some d,gd,q⟩) :: da) Kf) (hx:Gv (some o)=true:=by rfl):XD P G bad g k (⟨some d,gd,q⟩ :: xs) tl ol ra da Kf:=Tl 2 v _ (Fp h) h3 (by simp only [D1,List.all_cons,List.all_nil,hx]; rfl)
theorem Abb (j i:Oid) (o:Ob) (h:A7 (g+k) ⟨none,gd,q⟩ (Am tl) (only (rdX (Am tl) (Ad ol) ⟨none,gd,q⟩) (Ad ol))=some (2,.any,[(j,none),(i,some o)])) (h3:XD P G bad g (k+1) xs tl ((i,some o) :: (j,none) :: ol) ((2,.any,[(j,none),(i,some o)]) :: ra) ((rdX (Am tl) (Ad ol) ⟨none,gd,q⟩) :: da) Kf) (hx:Gv (some o)=true:=by rfl):XD P G bad g k (⟨none,gd,q⟩ :: xs) tl ol ra da Kf:=Afm 2 _ _ (Fp h) h3 (by simp only [D1,List.all_cons,List.all_nil,hx]; rfl)
section
variable {fo:Opd} {ys:List Opd} {tys:List (List (Option Ty))} {F:FuncId} {caps:List AV} {rv:RV} {args0:List AV}
theorem Fe (v:AV) (us:List (Oid×Option Ob)) (zs args:List AV) (hgd:Nl gd (Am tl)) (h1:J3 (gnd (Ad ol) 8) zs=some args0) (hc:A9 P G F args rv) (hb:Az P F=true) (h3:XW P G g (k+1) xs ((d,v) :: tl) (us.reverseAux ol) Kf) (hfo:fo.ev (Am tl)=.fn F caps:=by kernel_rfl) (hz:(ys++caps.map Opd.cst).map (Opd.ev (Am tl))=zs:=by kernel_rfl) (hn:Mm tys args0=args:=by kernel_rfl) (hr:rv.out (Cj ((d,0),g+k)) zs=(v,us):=by kernel_rfl) (hx:D1 us=true:=by rfl) (hni:rv.noI=true:=by kernel_rfl):XW P G g k (⟨some d,gd,.call fo ys tys⟩ :: xs) tl ol Kf:=by
 subst hz;exact T6 1 v us (Y3 (P:=P) (G:=G) (p:=false) (n:=g+k) (d:=some d) hgd hfo h1 hn hb hc hni hr) h3 hx
theorem Ev (v:AV) (us:List (Oid×Option Ob)) (zs args:List AV) (hgd:Nl gd (Am tl)) (h1:J3 (gnd (only (rdX (Am tl) (Ad ol) ⟨some d,gd,.call fo ys tys⟩) (Ad ol)) 8) zs=some args0) (hc:A9 P G F args rv) (hb:Az P F=true) (h3:XD P G bad g (k+1) xs ((d,v) :: tl) (us.reverseAux ol) ((1,v,us) :: ra) ((rdX (Am tl) (Ad ol) ⟨some d,gd,.call fo ys tys⟩) :: da) Kf) (hfo:fo.ev (Am tl)=.fn F caps:=by kernel_rfl) (hz:(ys++caps.map Opd.cst).map (Opd.ev (Am tl))=zs:=by kernel_rfl) (hn:Mm tys args0=args:=by kernel_rfl) (hr:rv.out (Cj ((d,0),g+k)) zs=(v,us):=by kernel_rfl) (hx:D1 us=true:=by rfl) (hni:rv.noI=true:=by kernel_rfl):XD P G bad g k (⟨some d,gd,.call fo ys tys⟩ :: xs) tl ol ra da Kf:=by
 subst hz;exact Tl 1 v us (Y3 (P:=P) (G:=G) (p:=false) (n:=g+k) (d:=some d) hgd hfo h1 hn hb hc hni hr) h3 hx
def Z7 (l:List (Oid×Oid)) (ol us:List (Oid×Ob)) (n:Nat) (ol0:List (Oid×Option Ob)):Bool:=J6 l&&(D3 ol&&(Ad0 (A4 l) ol&&(Xs ol us&&Jv n ol0)))
theorem Wj {l:List (Oid×Oid)} {ol us:List (Oid×Ob)} {n:Nat} {ol0:List (Oid×Option Ob)} (h:Z7 l ol us n ol0=true) (hR:Um ol0 (A4 l) ol) :
  (∀ q∈exL ol,Ad ol0 (A4 l q.1)=some (q.2.ren (A4 l)))∧(∀ q∈exL ol,∀ q'∈exL ol,A4 l q.1=A4 l q'.1->q.1=q'.1)∧(∀ q∈exL us,q.1.2=1∨(q.1.2=0∧q.1∈nmL ol))∧∀ i:Oid,i.2=n->An (Gk (A4 l) i ol us) (Ad ol0)=Ad (Ar (Jt (Bm (A4 l) i) us)++(Gt (A4 l) ol++ol0)):=by
 simp only [Z7,Bool.and_eq_true] at h;obtain ⟨c1,c2,c3,c4,c5⟩:=h;refine ⟨U8 c1 hR (Wp c2),Ab4 (fun p e u xss hm k=>Fm c1 ?_ k) c3 c2,Vf c4,fun i hi=>Abf c1 c2 hR c4 (by rw [hi]; exact c5) c3⟩;unfold D3 at c2;rw [List.all_eq_true] at c2;have:=c2 _ hm;simp only [Bool.and_eq_true,beq_iff_eq] at this;exact this.1
theorem D7 (v:AV) (ul:List (Oid×Option Ob)) (l:List (Oid×Oid)) (zs:List AV) {args:List AV} {ol0 us:List (Oid×Ob)} {v0:AV} (hgd:Nl gd (Am tl)) (hc:Ea P G F args ol0 v0 us) (hb:Az P F=true) (hR:Um ol (A4 l) ol0) (h1:K2 (A4 l) (Pq ((nmL ol0).map (A4 l)) (Ad ol)) zs args) (h4:∀ j∈nmL ol0,Reached zs (Ad ol) (A4 l j)) (h3:XW P G g (k+1) xs ((d,v) :: tl) (ul++ol) Kf) (hfo:fo.ev (Am tl)=.fn F caps:=by kernel_rfl) (hz:(ys++caps.map Opd.cst).map (Opd.ev (Am tl))=zs:=by kernel_rfl) (hB:Z7 l ol0 us (g+k) ol=true:=by kernel_rfl) (hv:v0.ren (Bm (A4 l) ((d,0),g+k))=v:=by kernel_rfl) (hu:Ar (Jt (Bm (A4 l) ((d,0),g+k)) us)++Gt (A4 l) ol0=ul:=by kernel_rfl):XW P G g k (⟨some d,gd,.call fo ys tys⟩ :: xs) tl ol Kf:=by
 subst hv hu;obtain ⟨q1,q2,q3,q4⟩:=Wj hB hR;exact Yt 2 _ _ _ (Y2 (n:=g+k) (d:=some d) (A4 l) hgd hfo hz h1 q1 q2 h4 q3 hb hc) (q4 ((d,0),g+k) rfl) (by rw [List.append_assoc] at h3; exact h3)
theorem Vg (v:AV) (ul:List (Oid×Option Ob)) (l:List (Oid×Oid)) (zs:List AV) {args:List AV} {ol0 us:List (Oid×Ob)} {v0:AV} (hgd:Nl gd (Am tl)) (hc:Ea P G F args ol0 v0 us) (hb:Az P F=true) (hR:Um ol (A4 l) ol0) (h1:K2 (A4 l) (Pq ((nmL ol0).map (A4 l)) (only (rdX (Am tl) (Ad ol) ⟨some d,gd,.call fo ys tys⟩) (Ad ol))) zs args) (h4:∀ j∈nmL ol0,Reached zs (only (rdX (Am tl) (Ad ol) ⟨some d,gd,.call fo ys tys⟩) (Ad ol)) (A4 l j)) (hd:∀ q∈exL ol0,A4 l q.1∈rdX (Am tl) (Ad ol) ⟨some d,gd,.call fo ys tys⟩) (h3:XD P G bad g (k+1) xs ((d,v) :: tl) (ul++ol) ((2,v,Gk (A4 l) ((d,0),g+k) ol0 us) :: ra) ((rdX (Am tl) (Ad ol) ⟨some d,gd,.call fo ys tys⟩) :: da) Kf) (hfo:fo.ev (Am tl)=.fn F caps:=by kernel_rfl) (hz:(ys++caps.map Opd.cst).map (Opd.ev (Am tl))=zs:=by kernel_rfl) (hB:Z7 l ol0 us (g+k) ol=true:=by kernel_rfl) (hv:v0.ren (Bm (A4 l) ((d,0),g+k))=v:=by kernel_rfl) (hu:Ar (Jt (Bm (A4 l) ((d,0),g+k)) us)++Gt (A4 l) ol0=ul:=by kernel_rfl):XD P G bad g k (⟨some d,gd,.call fo ys tys⟩ :: xs) tl ol ra da Kf:=by
 subst hv hu;obtain ⟨q1,q2,q3,q4⟩:=Wj hB hR;exact Acr 2 _ _ _ (Y2 (n:=g+k) (d:=some d) (A4 l) hgd hfo hz h1 (fun q hq=>by unfold only; rw [if_pos (hd q hq)]; exact q1 q hq) q2 h4 q3 hb hc) (q4 ((d,0),g+k) rfl) (by rw [List.append_assoc] at h3; exact h3)
end
end
-- what arguments read as
theorem B2 {g:AV->Option AV}:J3 g []=some []:=rfl
theorem Ao {g:AV->Option AV} {c d:AV} {cs ds:List AV} (h:g c=some d) (hs:J3 g cs=some ds):J3 g (c :: cs)=some (d :: ds):=by simp only [J3,h,hs]
section
variable {ob:Oid->Option Ob} {n:Nat}
theorem Ac5 {i:Oid} {t u:Ty} {e:TypeId} {xs:List u.D} {len:Nat} (h:ob i=some (.arr e u xs)) (hl:len=xs.length):gnd ob (n+1) (.own i t 0 len)=some (.tree u xs):=by
 subst hl;simp only [gnd,h,Nat.zero_add,Nat.le_refl,if_true,List.drop_zero,List.take_length]
theorem Ew {cs ds:List AV} (h:J3 (gnd ob n) cs=some ds):gnd ob (n+1) (.agg cs)=some (.agg ds):=by simp only [gnd,h,Option.map_some]
end
-- steps that hang on something
section
variable {n:Nat} {d:Option Nat} {f:Nat->AV} {ob:Oid->Option Ob}
theorem Agd {s:Nat} {b c:Bool} {q:Q} {r:Option Rec} (hs:f s=.bool c) (hc:c=b) (h:A7 n ⟨d,none,q⟩ f ob=r):A7 n ⟨d,some (s,b),q⟩ f ob=r:=by
 subst hc;simp only [A7,hs,gdv,beq_self_eq_true]; exact h
theorem Ef {s:Nat} {b c:Bool} {q:Q} (hs:f s=.bool c) (hc:c= !b):A7 n ⟨d,some (s,b),q⟩ f ob=some (0,.tup [],[]):=by
 subst hc;cases b <;> simp [A7,hs,gdv]
theorem Adz {c x y:Opd} {b:Bool} (h:c.ev f=.bool b) (hb:b=true):A7 n ⟨d,none,.i (.pick c x y)⟩ f ob=some (0,x.ev f,[]):=by
 subst hb; simp [A7,ev,evN,h]
theorem Adh {c x y:Opd} {b:Bool} (h:c.ev f=.bool b) (hb:b=false):A7 n ⟨d,none,.i (.pick c x y)⟩ f ob=some (0,y.ev f,[]):=by
 subst hb; simp [A7,ev,evN,h]
theorem Ae5 {sz:Nat} {x i:Opd} {t:Ty} {xs:List t.D} {y:t.D} {k:IntKind} {m:Int} {j:Nat} (hx:(x.ev f).un=.tree t xs) (hi:i.ev f=.int k m) (hs:sz=t.size) (h0:0<=m) (hj:m.toNat=j) (hy:xs[j]? =some y) {g:Option (Nat->Prop)} (hg:(x.ev f).tag=g:=by kernel_rfl):A7 n ⟨d,none,.i (.idx sz x i)⟩ f ob=some (0,.telt g t y 0,[]):=by
 subst hs hj hg;simp [A7,ev,evN,hx,hi,h0,hy]
theorem Afh {sz:Nat} {x i:Opd} {t:Ty} {o:Oid} {len:Nat} {k:IntKind} {m:Int} {j:Nat} (hx:x.ev f=.own o t 0 len) (hi:i.ev f=.int k m) (hs:sz=t.size) (h0:0<=m) (hj:m.toNat=j) (hl:j<len):A7 n ⟨d,none,.i (.idx sz x i)⟩ f ob=some (0,.elt o j 0,[]):=by
 subst hs hj;have:m<(len:Int):=by omega
 simp [A7,ev,evN,hx,hi,h0,AV.un,this]
theorem Mh {one:Bool} {m:Nat} {x:Opd} {i:Oid} {j k:Nat} {e:TypeId} {t:Ty} {xs:List t.D} {y:t.D} {c:AV} (hx:x.ev f=.elt i j k) (hob:ob i=some (.arr e t xs)) (hy:xs[j]? =some y) (hc:Cq one m k (t.av y)=some c):A7 n ⟨d,none,.i (.ld one m x)⟩ f ob=some (1,c,[]):=by
 simp [A7,ev,evN,evR,hx,hob,hy,hc]
theorem Z2 {one:Bool} {m:Nat} {x y:Opd} {i:Oid} {j k:Nat} {e:TypeId} {t:Ty} {xs:List t.D} {x0 x1:t.D} {cs:List AV} (hx:x.ev f=.elt i j k) (hob:ob i=some (.arr e t xs)) (hy:xs[j]? =some x0) (hc:Hw one m k (t.av x0) (y.ev f)=some cs) (hd:t.ofAV cs=some x1):A7 n ⟨d,none,.st one m x y⟩ f ob=some (2,.any,[(i,none),(i,some (.arr e t (xs.set j x1)))]):=by
 simp [A7,ev,Vr,hx,hob,hy,hc,hd]
theorem Ae8 {e:TypeId} {t:Ty} {by_:Nat} {l c:Opd} {k k':IntKind} {m m':Int} {j:Nat} (hl:l.ev f=.int k m) (hc:c.ev f=.int k' m') (h:0<=m∧m<=m'∧m'<=1073741824∧(by_:Int)*m'<=140737488355328) (hj:m.toNat=j):A7 n ⟨d,none,.make e t by_ l c⟩ f ob=some (1,.own ((d.getD 0,0),n) t 0 j,[(((d.getD 0,0),n),some (.arr e t (List.replicate j t.dflt)))]):=by
 subst hj;simp only [A7,ev,Qo,hl,hc,if_pos h]
theorem Zl {t:Ty} {xs:List t.D}:E4 ob t (.tree t xs)=some xs:=by simp only [E4,Ty.eq?_self,Dm]
theorem Ab8 {e:TypeId} {t t':Ty} {by_:Nat} {x y:Opd} {c:AV} {ys xs zs:List t.D} {j:Oid} {len:Nat} (hx:x.ev f=.own j t' 0 len) (hob:ob j=some (.arr e t xs)) (hl:len=xs.length) (hy:y.ev f=c) (hs:E4 ob t c=some ys) (hz:zs=xs++ys) (h:xs.length+ys.length<=1073741824∧(xs.length+ys.length)*by_<=140737488355328) :
  A7 n ⟨d,none,.append e t by_ x y⟩ f ob=some (2,.own (j.1,n) t 0 zs.length,[(j,none),((j.1,n),some (.arr e t zs))]):=by
 subst hl hz;simp only [A7,ev,F7,hx,hy,hs,hob,Ty.eq?_self,Nat.le_refl,true_and,h.1,h.2,and_self,if_true,Dm,List.take_length,List.length_append]
theorem Ac2 {sz:Nat} {x:Opd} {lo hi:Option Opd} {t:Ty} {i:Oid} {off len o' j:Nat} {l h:Int} (hx:x.ev f=.own i t off len) (hl:Dd f 0 lo=some l) (hh:Dd f len hi=some h) (hs:t.size=sz) (hb:0<=l∧l<=h∧h<=len) (ho:off+l.toNat=o') (hj:(h - l).toNat=j) :
  A7 n ⟨d,none,.slice sz x lo hi none⟩ f ob=some (0,.own i t o' j,[]):=by
 subst hs ho hj;simp only [A7,ev,L3,hx,AV.un,hl,hh,true_and,hb.1,hb.2.1,hb.2.2,and_self,if_true]
theorem Ae3 {x y:Opd} {j:Nat} (hx:x.ev f=.int .i64 j) (hy:y.ev f=.int .i64 1) (h:j+1<4611686018427387904):A7 n ⟨d,none,.i (.bin .add x y)⟩ f ob=some (0,.int .i64 ((j+1:Nat):Int),[]):=by
 have:IntKind.i64.wrap ((j:Int)+1)=((j+1:Nat):Int):=by rw [Go.IntWalk.i64_in _ (by omega)]; rfl
 simp [A7,ev,evN,Qw,hx,hy,this]
theorem Af4 {x y:Opd} {k:IntKind} {a b:Int} (hx:x.ev f=.int k a) (hy:y.ev f=.int k b) (h:b≠0):A7 n ⟨d,none,.i (.bin .quo x y)⟩ f ob=some (0,.int k (k.wrap (a.tdiv b)),[]):=by
 simp [A7,ev,evN,Qw,hx,hy,h]
theorem Nb {x y:Opd} {k:IntKind} {a b:Int} (hx:x.ev f=.int k a) (hy:y.ev f=.int k b) (h:b≠0):A7 n ⟨d,none,.i (.bin .rem x y)⟩ f ob=some (0,.int k (a.tmod b),[]):=by
 simp [A7,ev,evN,Qw,hx,hy,h]
end
theorem Ag {c:Opd} {x y:AC} {R:AE->St->Prop} {S:St} {t:Bool} (ht:t=true) (h1:awp P G x R S) (h:c.ev S.tm=.bool t:=by kernel_rfl):awp P G (.cond c x y) R S:=by
 subst ht; exact .inl ⟨true,h,fun _=>h1,fun h=>(nomatch h)⟩
theorem Ah {c:Opd} {x y:AC} {R:AE->St->Prop} {S:St} {t:Bool} (ht:t=false) (h2:awp P G y R S) (h:c.ev S.tm=.bool t:=by kernel_rfl):awp P G (.cond c x y) R S:=by
 subst ht; exact .inl ⟨false,h,fun h=>(nomatch h),fun _=>h2⟩
theorem Ak {i:Nat} {a:AC} {R:AE->St->Prop} {S:St} (h:awp P G a (Fs i R) S):awp P G (.block i a) R S:=h
theorem Aat {a:AC} {R:AE->St->Prop} {S:St} {α:Type} (I:α->St->Prop) (μ:α->Nat) (h0:∃ s S0,Weak S S0∧I s S0) (h1:∀ s S1,I s S1->awp P G a (Gy (fun S2=>∃ s' S3,Weak S2 S3∧I s' S3∧μ s'<μ s) R) S1):awp P G (.loop a) R S:=⟨α,I,μ,h0,h1⟩
theorem A3 {i:Nat} {R:AE->St->Prop} {S:St} (h:R (.exit i) S):awp P G (.exit i) R S:=h
theorem Aj {R:AE->St->Prop} {S:St} (h:R .normal S):awp P G .skip R S:=h
theorem Ai {R:AE->St->Prop} {S:St} (h:R .ret S):awp P G .ret R S:=h
end
section
variable {K:St->Prop} {R:AE->St->Prop} {S:St} {i j:Nat}
theorem tn_ (h:K S):Gy K R .normal S:=h
theorem te_ (h:R (.exit i) S):Gy K R (.exit i) S:=h
theorem tr_ (h:R .ret S):Gy K R .ret S:=h
theorem bn_ (h:R .normal S):Fs i R .normal S:=h
theorem be_ (h:R .normal S):Fs i R (.exit i) S:=by simpa [Fs] using h
theorem br_ (h:R .ret S):Fs i R .ret S:=h
end
def tmL:Nat->List AV->List (Nat×AV)
 | _,[]=>[]
 | k,v :: r=>(k,v) :: tmL (k+1) r
theorem Wz:∀ (l:List AV) (k i:Nat),Am (tmL k l) (k+i)=l.getD i .any
 | [],k,i=>by simp [tmL,Am]
 | v :: r,k,i=>by
  cases i with
  | zero=>simp [tmL,Am]
  | succ i =>
   have:=Wz r (k+1) i;simp only [tmL,Am];rw [if_neg (by omega),show k+(i+1)=k+1+i by omega,this];simp
theorem Zo (args:List AV):(fun i=>args.getD i .any)=Am (tmL 0 args):=by
 funext i;have:=Wz args 0 i;rw [Nat.zero_add] at this;exact this.symm
theorem St.init_eq (args:List AV):St.init args=⟨Am (tmL 0 args),Ad [],1⟩:=by
 unfold St.init;rw [Zo];rfl
theorem Aa3 {tl:List (Nat×AV)} {ol:List (Oid×Option Ob)} {g:Nat} (s:Nat) (e:TypeId) (t:Ty) (ht:t.flat=true) (hs:Am tl s=.nils):Weak ⟨Am tl,Ad ol,g⟩ ⟨Am ((s,.own ((s,0),g) t 0 0) :: tl),Ad ((((s,0),g),some (.arr e t [])) :: ol),g+1⟩:=by
 have:=Acb (S:=⟨Am tl,Ad ol,g⟩) s e t ht hs;rw [L7] at this;have e2:upd (Ad ol) ((s,0),g) (some (.arr e t []))=Ad ((((s,0),g),some (.arr e t [])) :: ol):=H8 rfl;rw [e2] at this;exact this
theorem B4 {tl:List (Nat×AV)} {ol:List (Oid×Option Ob)} {g:Nat} (s:Nat) (v v':AV) (h:Am tl s=v) (e:v=v'):Weak ⟨Am tl,Ad ol,g⟩ ⟨Am ((s,v') :: tl),Ad ol,g⟩:=by
 subst e
 have:Am ((s,v) :: tl)=Am tl:=by
  funext i;simp only [Am];split
  ·rename_i e; rw [e]; exact h.symm
  ·rfl
 rw [this]; exact Weak.refl _
theorem Mp {tl:List (Nat×AV)} {ol:List (Oid×Option Ob)} {g:Nat} (j:Oid) (o o':Ob) (h:Ad ol j=some o) (e:o=o') (hx:Gv (some o)=true:=by rfl):Weak ⟨Am tl,Ad ol,g⟩ ⟨Am tl,Ad ((j,some o') :: ol),g⟩:=by
 subst e
 have:Ad ((j,some o) :: ol)=Ad ol:=by
  rw [← H8 hx,Aa5 _ _ _ h]
 rw [this]; exact Weak.refl _
theorem E8 {tl:List (Nat×AV)} {ol:List (Oid×Option Ob)} {g:Nat} (s:Nat) (c:Oid) (k:Nat) (ty:TypeId) (cs ds:List AV) (e:TypeId) (t:Ty) (hb:Ad ol c=some (.cells ty cs)) (hk:cs[k]? =some .nils) (hd:cs.set k (.own ((s,0),g) t 0 0)=ds) :
  Weak ⟨Am tl,Ad ol,g⟩ ⟨Am tl,Ad ((c,some (.cells ty ds)) :: (((s,0),g),some (.vec e 1 0 [])) :: ol),g+1⟩:=by
 subst hd;have:=Qm (S:=⟨Am tl,Ad ol,g⟩) s c k ty cs e t hb hk;have e2:upd (upd (Ad ol) ((s,0),g) (some (.vec e 1 0 []))) c (some (.cells ty (cs.set k (.own ((s,0),g) t 0 0))))=Ad ((c,some (.cells ty (cs.set k (.own ((s,0),g) t 0 0)))) :: (((s,0),g),some (.vec e 1 0 [])) :: ol):=by rw [H8 rfl,H8 rfl]
 rw [← e2];exact this
def Aeu (ol us:List (Oid×Ob)) (args:List AV) (v:AV):Bool :=
 (D3 ol&&(D3 us&&((ol.all fun q=>q.1.2==0)&&((us.all fun q=>q.1.2==1||(!q.2.isPool&&(Bd ol).contains q.1))&&(ndB (Bd us)&&ndB (Bf us))))))&&((ol.all fun q=>q.2.clo1 (Bd ol))&&((us.all fun q=>q.2.hp1 (Bd us))&&(AV.cloL (Bd ol) args&&AV.hpB (Bd us) v)))
def Uo (ol:List (Oid×Ob)):List (Oid×Ob)->Prop
 | []=>True
 | q :: r=>(match q.2 with
  | .mat _ p u xss=>∃ e,(p,Ob.pool e u xss)∈ol
  | _=>True)∧Uo ol r
theorem Lz {ol:List (Oid×Ob)}:∀ {l:List (Oid×Ob)},Uo ol l->∀ i e p u xss,(i,Ob.mat e p u xss)∈l->∃ e,(p,Ob.pool e u xss)∈ol
 | _ :: _,h,i,e,p,u,xss,hm=>by
  rcases List.mem_cons.1 hm with rfl | hm
  ·exact h.1
  ·exact Lz h.2 i e p u xss hm
theorem Y8 {ol:List (Oid×Ob)} {p:Oid} {e:TypeId} {u:Ty} {xss:List (List u.D)}:(p,Ob.pool e u xss)∈ol->∀ k,k<xss.length->kid p k∈nmL ol:=by
 induction ol with
 | nil=>intro h; cases h
 | cons x r ih =>
  obtain ⟨x1,x2⟩:=x;intro h k hk;rcases List.mem_cons.1 h with h | h
  ·cases h;simp only [nmL,exL,List.map_append,List.mem_append];refine .inl (List.mem_map.2 ⟨(kid p k,.arr e u xss[k]),List.mem_map.2 ⟨(xss[k],k),?_,rfl⟩,rfl⟩);rw [List.mem_zipIdx_iff_getElem?]; exact gEg hk
  ·have:=ih h k hk;cases x2 <;> simp only [nmL,exL,List.map_cons,List.map_append] at this⊢ <;> first | exact List.mem_cons_of_mem _ this | exact List.mem_append_right _ this
theorem J5 {ol:List (Oid×Ob)} {i:Oid} (h:i∈Bd ol):i∈nmL ol:=by
 obtain ⟨o,ho,hp⟩:=Abq h;exact List.mem_map.2 ⟨_,Pw ho hp,rfl⟩
theorem Afl {D:Oid->Prop} {p:Oid} {u:Ty} (xss:List (List u.D)) (h:∀ k,k<xss.length->D (kid p k)):AV.hpL D (hdL p u xss):=by
 have key:∀ l:List (List u.D×Nat),(∀ x∈l,D (kid p x.2))->AV.hpL D (l.map fun x=>.own (kid p x.2) u 0 x.1.length):=by
  intro l
  induction l with
  | nil=>intro _; trivial
  | cons x l ih=>intro h; exact ⟨h x (by simp),ih fun y hy=>h y (by simp [hy])⟩
 refine key _ fun x hx=>h _ ?_
 obtain ⟨row,k⟩:=x;rw [List.mem_zipIdx_iff_getElem?] at hx;exact (gSi.1 hx).1
theorem Afr {D:List Oid} (o:Ob) (h:o.clo1 D=true) (hp:o.isPool=false) (hm:∀ e p u xss,o≠.mat e p u xss):o.exp.cloP (·∈D):=by
 cases o with
 | cells _ cs=>exact AV.cloPL_of cs h
 | vec _ _ _ cs=>exact AV.cloPL_of cs h
 | mat e p u xss=>exact absurd rfl (hm _ _ _ _)
 | arr _ _ _=>trivial
 | map _ _ _=>trivial
 | pool _ _ _=>cases hp
 | tv e m t xs=>exact Yu xs
theorem Af2 {D:List Oid} (o:Ob) (h:o.hp1 D=true) (hp:o.isPool=false) (hm:∀ e p u xss,o≠.mat e p u xss):o.exp.hp (·∈D):=by
 cases o with
 | cells _ cs=>exact AV.hpB_PL cs h
 | vec _ _ _ cs=>exact AV.hpB_PL cs h
 | mat e p u xss=>exact absurd rfl (hm _ _ _ _)
 | arr _ _ _=>trivial
 | map _ _ _=>trivial
 | pool _ _ _=>cases hp
 | tv e m t xs=>cases h
theorem cloP_mono {D E:Oid->Prop} (hd:∀ i,D i->E i) (o:Ob) (h:o.cloP D):o.cloP E:=by
 cases o <;> first | exact AV.cloPL_mono hd _ h | exact h
theorem hp_mono {D E:Oid->Prop} (hd:∀ i,D i->E i) (o:Ob) (h:o.hp D):o.hp E:=by
 cases o <;> first | exact AV.hpL_mono hd _ h | exact h
section
variable {P:Program} {G:World->Prop} (hfol:P.follows .mixedOrders=true) {g:FuncId} {fn:Func} (hf:P.funcs[g]? =some fn) {ac:AC} {rs:List Res} (hc:Ap P fn=some (ac,rs)) {args:List AV} {r:RV} {n:Nat} (hN:fn.ntmps=n) (hn:args.length<=n)
include hfol hf hc hN hn
theorem A0 [IsP P] {tl:List (Nat×AV)} (htl:tmL 0 args=tl) (h:awp P G ac (fun e S=>∃ S',Weak S S'∧(e=.normal∨e=.ret)∧RetOK [] rs S' r) ⟨Am tl,Ad [],1⟩):A9 P G g args r:=by
 refine Adm hfol hf hc hN hn ?_;rw [St.init_eq,htl];exact h
omit hN hn in
theorem B6 [IsP P] (hN:fn.ntmps=n) (hn:args.length<=n) {tl:List (Nat×AV)} (htl:tmL 0 args=tl) {ol us:List (Oid×Ob)} {v:AV} (hB:Aeu ol us args v=true) (hm1:Uo ol ol) (hm2:Uo us us)
  (h:awp P G ac (fun e S=>∃ S',Weak S S'∧(e=.normal∨e=.ret)∧(∃ rvs,Res.evL S'.tm S'.ob rs=some rvs∧v=Wx rvs)∧∀ q∈exL us,S'.ob q.1=some q.2) ⟨Am tl,Ad (Ar ol),1⟩):Ea P G g args ol v us:=by
 simp only [Aeu,Bool.and_eq_true] at hB;obtain ⟨⟨a1,a2,a3,a4,a5,a6⟩,b1,b2,b3,b4⟩:=hB;rw [List.all_eq_true] at a3 a4 b1 b2
 have h0:∀ {l:List (Oid×Ob)},D3 l=true->∀ q∈l,q.1.1.2=0:=fun h q hq=>by
  unfold D3 at h;rw [List.all_eq_true] at h;have:=h q hq;simp only [Bool.and_eq_true,beq_iff_eq] at this;exact this.1
 refine Acp hfol hf hc hN hn (fun q hq=>?_) (Adc (Dr a5) (Dr a6) (h0 a2)) (fun q hq=>?_) (AV.cloPL_mono (fun i hi=>J5 hi) _ (AV.cloPL_of args b3)) (AV.hp_mono (fun i hi=>J5 hi) _ (AV.hpB_P v b4)) ?_
 ·rcases El hq with ⟨p,e,u,xss,k,row,m1,m2,rfl⟩ | ⟨o,m1,m2,m3⟩
  ·have:=a3 _ m1;rw [beq_iff_eq] at this;exact ⟨this,trivial⟩
  ·have:=a3 _ m1;refine ⟨by simpa using this,?_⟩;rw [m3];by_cases hmt:∃ e p u xss,o=.mat e p u xss
   ·obtain ⟨e,p,u,xss,rfl⟩:=hmt;obtain ⟨e',hp⟩:=Lz hm1 _ _ _ _ _ m1;exact Aca xss fun k hk=>Y8 hp k hk
   ·exact cloP_mono (fun i hi=>J5 hi) _ (Afr o (b1 _ m1) m2 fun e p u xss h=>hmt ⟨e,p,u,xss,h⟩)
 ·rcases El hq with ⟨p,e,u,xss,k,row,m1,m2,rfl⟩ | ⟨o,m1,m2,m3⟩
  ·have:=a4 _ m1;simp only [Ob.isPool,Bool.not_true,Bool.false_and,Bool.or_false,beq_iff_eq] at this;exact ⟨.inl this,trivial⟩
  ·have:=a4 _ m1;simp only [Bool.or_eq_true,Bool.and_eq_true,beq_iff_eq] at this;refine ⟨this.imp id fun h=>J5 (List.contains_iff_mem.1 h.2),?_⟩;rw [m3];by_cases hmt:∃ e p u xss,o=.mat e p u xss
   ·obtain ⟨e,p,u,xss,rfl⟩:=hmt;obtain ⟨e',hp⟩:=Lz hm2 _ _ _ _ _ m1;exact Afl xss fun k hk=>Y8 hp k hk
   ·exact hp_mono (fun i hi=>J5 hi) _ (Af2 o (b2 _ m1) m2 fun e p u xss h=>hmt ⟨e,p,u,xss,h⟩)
 ·rw [Zo,htl];exact h
end
theorem Bh {rs:List Res} {f:Nat->AV} {ob:Oid->Option Ob} {g:Nat} {r:RV} (avs:List AV) {vs:List Value} {e:AE} (h2:PartsR vs ob avs r.ps) (he:e=.normal∨e=.ret:=by simp) (h1:Res.evL f ob rs=some avs:=by kernel_rfl) (h3:ndB (Sb ob (L9 avs))=true:=by kernel_rfl) (h4:r.tup=decide (rs.length≠1):=by kernel_rfl):∃ S',Weak ⟨f,ob,g⟩ S'∧(e=.normal∨e=.ret)∧RetOK vs rs S' r :=
 ⟨_,Weak.refl _,he,avs,r.ps,h1,h2,Dr h3,by cases r; cases h4; rfl⟩
theorem Gg {rs:List Res} {S:St} {tl:List (Nat×AV)} {g:Nat} {v:AV} {us:List (Oid×Ob)} {e:AE} (rvs:List AV) (hw:Weak S ⟨Am tl,Ad (Ar us),g⟩) (he:e=.normal∨e=.ret:=by simp) (h1:Res.evL (Am tl) (Ad (Ar us)) rs=some rvs:=by kernel_rfl) (hv:v=Wx rvs:=by kernel_rfl) (h2:(D3 us&&(ndB (Bd us)&&ndB (Bf us)))=true:=by kernel_rfl) :
  ∃ S',Weak S S'∧(e=.normal∨e=.ret)∧(∃ rvs,Res.evL S'.tm S'.ob rs=some rvs∧v=Wx rvs)∧∀ q∈exL us,S'.ob q.1=some q.2:=by
 refine ⟨_,hw,he,⟨rvs,h1,hv⟩,fun q hq=>?_⟩;simp only [Bool.and_eq_true] at h2;obtain ⟨a1,a2,a3⟩:=h2
 have h0:∀ q∈us,q.1.1.2=0:=fun q hq=>by
  unfold D3 at a1;rw [List.all_eq_true] at a1;have:=a1 q hq;simp only [Bool.and_eq_true,beq_iff_eq] at this;exact this.1
 have:=I7 (rest:=[]) (Dr a2) (Dr a3) (fun p hp=>by obtain ⟨e,u,xss,hm⟩:=Ae4 hp; exact h0 _ hm) (fun i hi p hp k e=>by
  obtain ⟨o,ho,_⟩:=Abq hi;have:=h0 _ ho;rw [e] at this;simp [kid] at this) q hq
 rwa [List.append_nil] at this
section
variable {vs:List Value} {ob:Oid->Option Ob}
theorem A1 {c:AV} {r:List AV} {l:RL} {ps:List (Bool×List RL)} (hc:c.one=true) (h1:LeafR vs ob c l) (h2:PartsR vs ob r ps):PartsR vs ob (c :: r) ((false,[l]) :: ps):=by
 rw [Iy (by rintro ⟨_,rfl⟩; cases hc)];exact ⟨l,ps,rfl,h1,h2⟩
theorem A2:PartsR vs ob [] []:=rfl
theorem Agc {c:AV} {l:RL} (h:L2 ob c=some l):LeafR vs ob c l:=.inl (.inl h)
theorem Ac0 {i:Oid} {t u:Ty} {e:TypeId} {xs:List u.D} {len:Nat} (h:ob i=some (.arr e u xs)) (hl:len=xs.length):LeafR vs ob (.own i t 0 len) (.new e u xs):=by
 subst hl;exact .inl (.inl (by simp only [L2,h,Nat.le_refl,and_self,if_true,List.take_length]))
end
end Go.Proofs.YtehocbbnjfmgaaaDoor
namespace Go.Proofs.YtehocbbnjfmgaaaDoor
open Go.RowKit Go.Deep
abbrev tm (n:Nat):Opd:=.tmp n
abbrev cb (b:Bool):Opd:=.cst (.bool b)
abbrev ci (n:Int):Opd:=.cst (.int .i64 n)
abbrev xo (d:Nat) (q:Q):X:=⟨some d,none,q⟩
abbrev xn (q:Q):X:=⟨none,none,q⟩
abbrev qm (x:Opd):Q:=.i (.mov x)
abbrev ql (x:Opd):Q:=.i (.ld true 1 x)
abbrev qs (x y:Opd):Q:=.st true 1 x y
abbrev qf (k:Nat) (x:Opd):Q:=.i (.fld k x)
abbrev qb (o:BinOp) (x y:Opd):Q:=.i (.bin o x y)
abbrev qx (sz:Nat) (x y:Opd):Q:=.i (.idx sz x y)
abbrev qc (f:FuncId) (xs:List Opd) (tys:List (List (Option Ty))):Q:=.call (.cst (.fn f [])) xs tys
abbrev rg (xs:List X):AC:=.region xs false []
abbrev ai (n:Int):AV:=.int .i64 n
abbrev oi (a b:Nat):Oid:=((a,0),b)
def Ae0 (d:Option Nat) (v:AV) (tl:List (Nat×AV)):List (Nat×AV) :=
 match d with
 | some d=>(d,v) :: tl
 | none=>tl
theorem Afb (d:Option Nat) (v:AV) (tl:List (Nat×AV)):Hi d v (Am tl)=Am (Ae0 d v tl):=by
 cases d with
 | none=>rfl
 | some d=>simp only [Hi,Ae0,L7]
noncomputable def Uh (g:Nat):Nat->Nat->List X->List (Nat×AV)->List (Oid×Option Ob)->Option (List (Nat×AV)×List (Oid×Option Ob))
 | 0,_,_,tl,ol=>some (tl,ol)
 | _+1,_,[],_,_=>none
 | n+1,k,x :: xs,tl,ol=>match A7 (g+k) x (Am tl) (Ad ol) with
  | some (_,v,us)=>if D1 us then Uh g n (k+1) xs (Ae0 x.dst v tl) (us.reverseAux ol) else none
  | none=>none
theorem Af0 {P:Program} {G:World->Prop} {g:Nat} {Kf:List (Nat×AV)->List (Oid×Option Ob)->Prop}:∀ (n k:Nat) (xs:List X) (tl:List (Nat×AV)) (ol:List (Oid×Option Ob)) (r:List (Nat×AV)×List (Oid×Option Ob)),Uh g n k xs tl ol=some r->XW P G g (k+n) (xs.drop n) r.1 r.2 Kf->XW P G g k xs tl ol Kf
 | 0,k,xs,tl,ol,r,h,hk=>by
  obtain rfl:=osj h;exact hk
 | n+1,k,[],tl,ol,r,h,hk=>by cases h
 | n+1,k,x :: xs,tl,ol,r,h,hk=>by
  simp only [Uh] at h;split at h
  ·rename_i c v us hst;split at h
   ·rename_i hx;obtain ⟨rs,tl',ol',h1,h2⟩:=Af0 (P:=P) (G:=G) n (k+1) xs _ _ r h (by rw [show k+1+n=k+(n+1) by omega]; exact hk);exact ⟨(c,v,us) :: rs,tl',ol',⟨_,_,rfl,Fp hst,by rw [Afb,Fc _ _ hx]; exact h1⟩,h2⟩
   ·cases h
  ·cases h
theorem rsB {P:Program} {G:World->Prop} {g k:Nat} {xs:List X} {tl:List (Nat×AV)} {ol:List (Oid×Option Ob)} {Kf:List (Nat×AV)->List (Oid×Option Ob)->Prop} (n:Nat) (hk:XW P G g (k+n) (xs.drop n) ((Uh g n k xs tl ol).getD ([],[])).1 ((Uh g n k xs tl ol).getD ([],[])).2 Kf) (h:(Uh g n k xs tl ol).isSome=true:=by kernel_rfl):XW P G g k xs tl ol Kf:=by
 obtain ⟨r,hr⟩:=Option.isSome_iff_exists.1 h;rw [hr] at hk;exact Af0 n k xs tl ol r hr hk
theorem Al {P:Program} {G:World->Prop} {g:Nat} {xs:List X} {bad:List (Nat×Nat)} {y:AC} {R:AE->St->Prop} {tl:List (Nat×AV)} {ol:List (Oid×Option Ob)} (h:awp P G y R ⟨Am ((Uh g xs.length 0 xs tl ol).getD ([],[])).1,Ad ((Uh g xs.length 0 xs tl ol).getD ([],[])).2,g+xs.length⟩) (hs:(Uh g xs.length 0 xs tl ol).isSome=true:=by kernel_rfl):awp P G (.seq (.region xs false bad) y) R ⟨Am tl,Ad ol,g⟩:=by
 refine Ab (Aa (g+xs.length) (rsB xs.length (by rw [List.drop_length]; exact Ay (tn_ ⟨_,Weak.refl _,h⟩)) hs) rfl)
theorem Aa4 {i:Oid} {ob:Oid->Option Ob}:only [i] ob i=ob i:=if_pos (List.mem_singleton.2 rfl)
section
variable {n:Nat} {d:Option Nat} {f:Nat->AV} {ob:Oid->Option Ob} {ol:List (Oid×Option Ob)}
theorem Tt {x:Opd} {o p:Oid} {e1:TypeId} {u:Ty} {xss:List (List u.D)} {row:List u.D} {j:Nat} (hx:x.ev f=.elt o j 0) (hob:ob o=some (.vec e1 1 xss.length (hdL p u xss))) (hr:xss[j]? =some row):A7 n ⟨d,none,.i (.ld true 1 x)⟩ f ob=some (1,.own (kid p j) u 0 row.length,[]):=by
 have h:(hdL p u xss)[j*1+0]? =some (.own (kid p j) u 0 row.length):=by rw [Cz]; simp [hr]
 simp only [Nat.mul_one,Nat.add_zero] at h;simp [A7,ev,evN,evR,hx,hob,Cq,h]
theorem Aem {x y:Opd} {o:Oid} {e1:TypeId} {m:Nat} {cs:List AV} {v:AV} {j:Nat} (hx:x.ev f=.elt o j 0) (hob:ob o=some (.vec e1 1 m cs)) (hy:y.ev f=v) (hv:v.one=true) (hj:j<cs.length):A7 n ⟨d,none,.st true 1 x y⟩ f ob=some (2,.any,[(o,none),(o,some (.vec e1 1 m (cs.set j v)))]):=by
 simp [A7,ev,Vr,hx,hob,hy,Hw,hv,hj]
theorem Uj {x y:Opd} {o q:Oid} {e1 e2:TypeId} {u:Ty} {t':Ty} {b:Nat} {p:Oid} {xss:List (List u.D)} {cs:List AV} {len:Nat} (hx:x.ev f=.own o t' 0 len) (hob:ob o=some (.vec e1 1 xss.length (hdL p u xss))) (hl:len=xss.length) {t2:Ty} (hy:y.ev f=.own q t2 0 1) (hq:ob q=some (.vec e2 1 1 cs)) (hc:cs.length=1) (h:xss.length+1<=1073741824∧(xss.length+1)*b<=140737488355328) :
  A7 n ⟨d,none,.appV e1 (.slice u) b x y⟩ f ob=some (2,.own (o.1,n) (.slice u) 0 (xss.length+1),[(o,none),((o.1,n),some (.vec e1 1 (xss.length+1) (hdL p u xss++cs)))]):=by
 subst hl;have h1:List.take (xss.length*1) (hdL p u xss)=hdL p u xss:=by rw [Nat.mul_one]; exact List.take_of_length_le (by rw [Ek]; exact Nat.le_refl _)
 have h2:List.take (1*1) (List.drop (0*1) cs)=cs:=by simp only [Nat.zero_mul,List.drop_zero,Nat.mul_one]; exact List.take_of_length_le (by omega)
 simp only [A7,ev,Hz,hx,hy,Xq,hq,hob,Ty.size,true_and,Nat.zero_add,Nat.le_refl,if_true,h1,h2,h.1,h.2,and_self]
theorem Ac4 {i:Oid} {e:TypeId} {t:Ty} {sz:Nat} {xs:List Opd} {r:Rec} (h:(To f i e t sz xs).map (fun r=>((1:Nat),r.1,r.2))=some r):evL f i (.mkV e t sz xs)=some r:=by
 simp only [evL];cases hq:To f i e t sz xs with
 | none=>rw [hq] at h; cases h
 | some q=>rw [hq] at h; obtain ⟨v,us⟩:=q; exact h
theorem Y9 {i:Oid} {e:TypeId} (e':TypeId) {u:Ty} {b:Nat} {x y:Opd} {k k':IntKind} {m c:Int} {j:Nat} (hx:x.ev f=.int k m) (hy:y.ev f=.int k' c) (h:0<=m∧m<=c∧c<=1073741824∧(b:Int)*c<=140737488355328) (hfl:u.flat=true) (hj:m.toNat=j) :
  W0 f i (.makeV e (.slice u) b [.nils] x y) (1,RV.out ⟨false,[(false,[.newM e e' u (List.replicate j [])])]⟩ (Cj i) []):=by
 subst hj;exact ⟨e,e',u,b,x,y,k,k',m,c,rfl,hx,hy,h,hfl,rfl⟩
theorem Adx {i:Oid} {e e':TypeId} {u:Ty} {xss:List (List u.D)} (h:Jv i.2 ol=true):An (RV.out ⟨false,[(false,[.newM e e' u xss])]⟩ (Cj i) []).2 (Ad ol)=Ad ((Cj i 0,some (.mat e (Cj i 0) u xss)) :: (Cj i 0,some (.pool e' u xss)) :: ol):=by
 have e0:(RV.out ⟨false,[(false,[.newM e e' u xss])]⟩ (Cj i) []).2=(Cj i 0,some (.vec e 1 xss.length (hdL (Cj i 0) u xss))) :: (P8 (Cj i 0) e' u xss++[]):=rfl;rw [e0,List.append_nil];show An (P8 (Cj i 0) e' u xss) (upd (Ad ol) (Cj i 0) (some (.vec e 1 xss.length (hdL (Cj i 0) u xss))))=_
 rw [H8 rfl,Xc (fun k=>by
  have:Ad ((Cj i 0,some (.vec e 1 xss.length (hdL (Cj i 0) u xss))) :: ol) (kid (Cj i 0) k)=if kid (Cj i 0) k=Cj i 0 then some (.vec e 1 xss.length (hdL (Cj i 0) u xss)) else Ad ol (kid (Cj i 0) k):=by simp only [Ad]
  rw [this,if_neg (fun e=>by have:=congrArg (fun i:Oid=>i.1.2) e; simp [kid,Cj] at this)];exact I3 h _ rfl)]
 funext j;have h2:∀ j,Ad ((Cj i 0,some (.vec e 1 xss.length (hdL (Cj i 0) u xss))) :: ol) j=if j=Cj i 0 then some (.vec e 1 xss.length (hdL (Cj i 0) u xss)) else Ad ol j:=fun j=>by simp only [Ad]
 rw [Ip,Gr,Gr,h2];by_cases hj:j=Cj i 0
 ·subst hj;rw [if_pos rfl,if_neg (fun h=>h.2.2 rfl),if_pos rfl]
 ·rw [if_neg hj,if_neg hj]
end
section
variable {P:Program} {G:World->Prop} {g k d:Nat} {gd:Option (Nat×Bool)} {q:Q} {xs:List X} {tl:List (Nat×AV)} {ol:List (Oid×Option Ob)} {bad:List (Nat×Nat)} {ra:List Rec} {da:List (List Oid)} {Kf:List (Nat×AV)->List (Oid×Option Ob)->Prop}
theorem Aga (v:AV) (i:Oid) (o:Ob) (hgd:Nl gd (Am tl)) (h:evL (Am tl) ((d,0),g+k) q=some (1,v,[(i,some o)])) (h3:XW P G g (k+1) xs ((d,v) :: tl) ((i,some o) :: ol) Kf) (hx:Gv (some o)=true:=by rfl):XW P G g k (⟨some d,gd,q⟩ :: xs) tl ol Kf:=T6 1 v _ (Aeq (d:=some d) hgd h) h3 (by simp only [D1,List.all_cons,List.all_nil,hx]; rfl)
theorem Af3 (v:AV) (i:Oid) (o:Ob) (hgd:Nl gd (Am tl)) (h:evL (Am tl) ((d,0),g+k) q=some (1,v,[(i,some o)])) (h3:XD P G bad g (k+1) xs ((d,v) :: tl) ((i,some o) :: ol) ((1,v,[(i,some o)]) :: ra) ((rdX (Am tl) (Ad ol) ⟨some d,gd,q⟩) :: da) Kf) (hx:Gv (some o)=true:=by rfl):XD P G bad g k (⟨some d,gd,q⟩ :: xs) tl ol ra da Kf:=Tl 1 v _ (Aeq (d:=some d) hgd h) h3 (by simp only [D1,List.all_cons,List.all_nil,hx]; rfl)
theorem Acx (v:AV) (i:Oid) (e e':TypeId) (u:Ty) (xss:List (List u.D)) (hgd:Nl gd (Am tl)) (h:W0 (Am tl) ((d,0),g+k) q (1,RV.out ⟨false,[(false,[.newM e e' u xss])]⟩ (Cj ((d,0),g+k)) [])) (hi:Cj ((d,0),g+k) 0=i) (hv:AV.own i (.slice u) 0 xss.length=v) (hn:Jv (g+k) ol=true) (h3:XW P G g (k+1) xs ((d,v) :: tl) ((i,some (.mat e i u xss)) :: (i,some (.pool e' u xss)) :: ol) Kf):XW P G g k (⟨some d,gd,q⟩ :: xs) tl ol Kf:=by
 subst hi hv;exact Yt 1 _ _ _ (Ad7 (d:=some d) hgd h) (Adx hn) h3
end
-- what arguments read as
section
variable {ol:List (Oid×Option Ob)} {n:Nat}
theorem Rr {α:Type} {g:List AV->Option α}:∀ {cs:List AV} {xs:List α},cs.length=xs.length->(∀ (k:Nat) (c:AV) (x:α),cs[k]? =some c->xs[k]? =some x->g [c]=some x)->N2 g 1 xs.length cs=some xs
 | [],[],_,_=>rfl
 | c :: cs,x :: xs,hl,h=>by
  have h0:=h 0 c x rfl rfl;have ih:=Rr (g:=g) (cs:=cs) (xs:=xs) (by simpa using hl) (fun k c x h1 h2=>h (k+1) c x h1 h2);simp only [List.length_cons,N2,List.take_succ_cons,List.take_zero,List.drop_succ_cons,List.drop_zero,h0,ih]
 | [],_ :: _,hl,_=>by simp at hl
 | _ :: _,[],hl,_=>by simp at hl
theorem Abl {ob:Oid->Option Ob} {o p:Oid} {e1 e:TypeId} {u:Ty} {xss:List (List u.D)} {m len:Nat} (ho:ob o=some (.vec e1 1 m (hdL p u xss))) (hm:m=xss.length) (hk:∀ k row,xss[k]? =some row->ob (kid p k)=some (.arr e u row)) {t':Ty} (hl:len<=xss.length):Aai ob 1 (rdC ob (.slice u)) (.own o t' 0 len)=some (xss.take len):=by
 have h1:(((hdL p u xss).drop (0*1)).take (len*1))=hdL p u (xss.take len):=by
  simp only [Nat.zero_mul,List.drop_zero,Nat.mul_one];apply List.ext_getElem?;intro j;rw [List.getElem?_take,Cz,Cz,List.getElem?_take];split <;> rfl
 have hlen:(xss.take len).length=len:=by rw [List.length_take]; omega
 simp only [Aai,ho];rw [if_pos ⟨trivial,by omega⟩,h1]
 have:=Rr (g:=rdC ob (.slice u)) (cs:=hdL p u (xss.take len)) (xs:=xss.take len) Ek (fun k c x hc hx=>by
  rw [Cz,hx] at hc;obtain rfl:=osj hc;rw [List.getElem?_take] at hx;split at hx
  ·have:=hk k x hx;simp only [rdC,E4,this,Nat.zero_add,Nat.le_refl,if_true,Ty.eq?_self,Dm,List.drop_zero,List.take_length]
  ·cases hx)
 rw [hlen] at this;exact this
theorem Ct {ob:Oid->Option Ob} {o p:Oid} {e1 e:TypeId} {u:Ty} {xss:List (List u.D)} {len:Nat} (ho:ob o=some (.vec e1 1 xss.length (hdL p u xss))) (hk:∀ k row,xss[k]? =some row->ob (kid p k)=some (.arr e u row)) (hl:len=xss.length):gnd ob (n+1) (.own o (.slice u) 0 len)=some (.tree (.slice u) xss):=by
 subst hl;have:=Abl (t':=.slice u) ho rfl hk (Nat.le_refl _);rw [List.take_length] at this;simp only [gnd,ho,Ty.size,this,Option.map_some]
theorem Bb {p:Oid} {e:TypeId} {u:Ty} {xss:List (List u.D)} (h:Fa ol p=some (.pool e u xss)):∀ k row,xss[k]? =some row->Ad ol (kid p k)=some (.arr e u row):=fun _ _ hx=>F4 h hx
def Tz (θ:Oid->Oid) (ol0:List (Oid×Ob)) (i:Oid):Bool:=ol0.all fun q=>if q.2.isPool then !(i.1.1==(θ q.1).1.1&&(i.2==(θ q.1).2&&i.1.2 !=0)) else i !=θ q.1
theorem Hm {l:List (Oid×Oid)} {ob:Oid->Option Ob} {ol0:List (Oid×Ob)} {i:Oid} (hl:J6 l=true) (h0:D3 ol0=true) (h:Tz (A4 l) ol0 i=true):Pq ((nmL ol0).map (A4 l)) ob i=ob i:=by
 unfold Pq;rw [if_neg];intro hm;obtain ⟨j,hj,rfl⟩:=List.mem_map.1 hm;obtain ⟨q,hq,rfl⟩:=List.mem_map.1 hj;unfold Tz at h;rw [List.all_eq_true] at h;unfold D3 at h0;rw [List.all_eq_true] at h0;rcases El hq with ⟨p,e,u,xss,k,row,m1,m2,rfl⟩ | ⟨o,m1,m2,m3⟩
 ·have:=h _ m1;have hz:=h0 _ m1;simp only [Bool.and_eq_true,beq_iff_eq] at hz;rw [Fm hl hz.1] at this;simp [Ob.isPool,kid] at this
 ·have:=h _ m1;simp [m2] at this
theorem H2 {l:List (Oid×Oid)} {ob:Oid->Option Ob} {ol0:List (Oid×Ob)} {p:Oid} {e:TypeId} {u:Ty} {xss:List (List u.D)} (hl:J6 l=true) (h0:D3 ol0=true) (hk:∀ k row,xss[k]? =some row->ob (kid p k)=some (.arr e u row)) (hn:(ol0.all fun q=> !((A4 l q.1).1.1==p.1.1&&((A4 l q.1).2==p.2)))=true):∀ k row,xss[k]? =some row->Pq ((nmL ol0).map (A4 l)) ob (kid p k)=some (.arr e u row):=by
 intro k row hx;rw [Hm hl h0,hk k row hx];unfold Tz;rw [List.all_eq_true] at hn ⊢;intro q hq;have:=hn q hq;simp only [Bool.not_eq_true',Bool.and_eq_false_iff,beq_eq_false_iff_ne,ne_eq] at this;split
 ·simp only [Bool.not_eq_true',Bool.and_eq_false_iff,beq_eq_false_iff_ne,ne_eq,kid];rcases this with h | h
  ·exact .inl fun e=>h e.symm
  ·exact .inr (.inl fun e=>h e.symm)
 ·simp only [bne_iff_ne,ne_eq];intro e;rw [← e] at this;rcases this with h | h <;> exact h rfl
theorem Zz {l:List (Oid×Oid)} {i:Oid} {ol us:List (Oid×Ob)} (hB:Xs ol us=true):∀ u∈Gk (A4 l) i ol us,u.1.2=i.2∨u.1∈(nmL ol).map (A4 l):=by
 intro u hu;rcases List.mem_append.1 hu with hu | hu
 ·obtain ⟨q,hq,rfl⟩:=List.mem_map.1 hu;exact .inr (List.mem_map.2 ⟨q.1,List.mem_map.2 ⟨q,hq,rfl⟩,rfl⟩)
 ·obtain ⟨q,hq,rfl⟩:=List.mem_map.1 hu;rcases Vf hB q hq with h | ⟨h,h'⟩
  ·exact .inl (by simp [Bm,h])
  ·exact .inr (List.mem_map.2 ⟨q.1,h',by simp [Bm,h]⟩)
def Abn (l:List (Oid×Oid)) (i:Oid) (ol us:List (Oid×Ob)) (r:Rec) (d:List Oid):Bool:=J6 l&&(D3 ol&&(Xs ol us&&((d.all fun x=>x.2 !=i.2&&Tz (A4 l) ol x)&&((r.2.2.all fun u=>u.1.2 !=i.2&&Tz (A4 l) ol u.1)&&r.1 !=2))))
theorem Wb {l:List (Oid×Oid)} {ol:List (Oid×Ob)} {i:Oid} (hl:J6 l=true) (h0:D3 ol=true) (h:Tz (A4 l) ol i=true):i∉(nmL ol).map (A4 l):=by
 intro hm;have:=Hm (ob:=fun _=>some (.map 0 .int [])) hl h0 h;unfold Pq at this;rw [if_pos hm] at this;cases this
theorem Yb {l:List (Oid×Oid)} {i:Oid} {ol us:List (Oid×Ob)} {r:Rec} {d:List Oid} (h:Abn l i ol us r d=true):(∀ u∈Gk (A4 l) i ol us,u.1∉d)∧(∀ u∈Gk (A4 l) i ol us,∀ v∈r.2.2,u.1≠v.1)∧r.1≠2:=by
 simp only [Abn,Bool.and_eq_true,bne_iff_ne,ne_eq] at h;obtain ⟨h1,h2,h3,h4,h5,h6⟩:=h;rw [List.all_eq_true] at h4 h5;refine ⟨fun u hu hd=>?_,fun u hu v hv e=>?_,h6⟩
 ·have:=h4 _ hd;simp only [Bool.and_eq_true,bne_iff_ne,ne_eq] at this;rcases Zz h3 u hu with h | h
  ·exact this.1 h
  ·exact Wb h1 h2 this.2 h
 ·have:=h5 _ hv;simp only [Bool.and_eq_true,bne_iff_ne,ne_eq] at this;rcases Zz h3 u hu with h | h
  ·exact this.1 (by rw [← e]; exact h)
  ·exact Wb h1 h2 this.2 (by rw [← e]; exact h)
theorem Yy {l:List (Oid×Oid)} {i:Oid} {ol us:List (Oid×Ob)} {v:AV} {rj:Rec} {di dj:List Oid} (h:Abn l i ol us rj dj=true):Kb (2,v,Gk (A4 l) i ol us) rj di dj:=by
 obtain ⟨h1,h2,h3⟩:=Yb h;exact .inr ⟨fun _=>h1,fun e=>absurd e h3,h2⟩
def Acq (zs:List AV) (ob:Oid->Option Ob) (θ:Oid->Oid):List (Oid×Ob)->Prop
 | []=>True
 | q :: r=>(match q.2 with
  | .pool _ _ xss=>∀ k,k<xss.length->Reached zs ob (kid (θ q.1) k)
  | _=>Reached zs ob (θ q.1))∧Acq zs ob θ r
theorem A8 {zs:List AV} {ob:Oid->Option Ob} {l:List (Oid×Oid)} (hl:J6 l=true):∀ {ol:List (Oid×Ob)},D3 ol=true->Acq zs ob (A4 l) ol->∀ j∈nmL ol,Reached zs ob (A4 l j)
 | [],_,_,j,hj=>by cases hj
 | (p,o) :: r,h0,h,j,hj=>by
  simp only [D3,List.all_cons,Bool.and_eq_true,beq_iff_eq] at h0;obtain ⟨⟨h1,_⟩,h2⟩:=h0;have ih:j∈nmL r->Reached zs ob (A4 l j):=fun hm=>A8 hl (ol:=r) (by simpa [D3] using h2) h.2 j hm
  cases o with
  | pool e u xss =>
   simp only [nmL,exL,List.map_append,List.mem_append] at hj;rcases hj with hj | hj
   ·obtain ⟨q,hq,rfl⟩:=List.mem_map.1 hj;obtain ⟨⟨row,k⟩,hx,rfl⟩:=List.mem_map.1 hq;rw [List.mem_zipIdx_iff_getElem?] at hx;show Reached zs ob (A4 l (kid p k));rw [Fm hl h1];exact h.1 k (gSi.1 hx).1
   ·exact ih hj
  | _ =>
   simp only [nmL,exL,List.map_cons,List.mem_cons] at hj;rcases hj with rfl | hj
   ·exact h.1
   ·exact ih hj
theorem I1 {zs:List AV} {ob:Oid->Option Ob} {i:Oid} (h:(AV.nmsL zs).contains i=true):Reached zs ob i:=.arg (List.contains_iff_mem.1 h)
theorem Ad2 {p:Oid} {u:Ty} {xss:List (List u.D)} {k:Nat} (h:k<xss.length):kid p k∈AV.nmsL (hdL p u xss):=by
 have key:∀ cs:List AV,∀ c∈cs,∀ i∈c.nms,i∈AV.nmsL cs:=by
  intro cs
  induction cs with
  | nil=>intro c h; cases h
  | cons x r ih =>
   intro c hc i hi;rcases List.mem_cons.1 hc with rfl | hc
   ·exact List.mem_append_left _ hi
   ·exact List.mem_append_right _ (ih c hc i hi)
 refine key _ (.own (kid p k) u 0 xss[k].length) ?_ _ (List.mem_singleton.2 rfl);apply List.mem_iff_getElem?.2;exact ⟨k,by rw [Cz,gEg h]; rfl⟩
theorem P3 {zs:List AV} {ob:Oid->Option Ob} {o p:Oid} {e1:TypeId} {m:Nat} {u:Ty} {xss:List (List u.D)} (h1:Reached zs ob o) (h2:ob o=some (.vec e1 1 m (hdL p u xss))):∀ k,k<xss.length->Reached zs ob (kid p k):=fun _ hk=>.vec h1 h2 (Ad2 hk)
end
theorem Yc {L:List Oid} {l:List (Oid×Oid)} {xs:List (Oid×Ob)} (h:(xs.all fun q=>L.contains (A4 l q.1))=true):∀ q∈xs,A4 l q.1∈L:=fun q hq=>by
 have:=List.all_eq_true.1 h q hq
 simpa using this
end Go.Proofs.YtehocbbnjfmgaaaDoor
namespace Go.Proofs.YtehocbbnjfmgaaaDoor
open Go.RowKit Go.Deep
def NeL (i:Oid):List Oid->Prop
 | []=>True
 | x :: r=>x≠i∧NeL i r
theorem Ady {L M:List Oid} {ob:Oid->Option Ob} {i:Oid} (hL:M=L) (h:NeL i L):Pq M ob i=ob i:=by
 subst hL;unfold Pq;rw [if_neg];intro hm
 induction M with
 | nil=>cases hm
 | cons x r ih =>
  rcases List.mem_cons.1 hm with rfl | hm
  ·exact h.1 rfl
  ·exact ih h.2 hm
theorem Ae7 {p:Oid} {j k:Nat} (h:j≠k):kid p j≠kid p k:=fun e=>h (D4 e)
theorem P2 {L:List Oid} {ob:Oid->Option Ob} {i:Oid} (h:i∈L):only L ob i=ob i:=if_pos h
theorem Acn {f:Nat->AV} {ob:Oid->Option Ob} {d:Option Nat} {gd:Option (Nat×Bool)} {fo y:Opd} {ys:List Opd} {tys:List (List (Option Ty))} {i:Oid} {t:Ty} {off len:Nat} (n:Nat) (hy:ys[n]? =some y) (he:y.ev f=.own i t off len):i∈rdX f ob ⟨d,gd,.call fo ys tys⟩:=by
 refine List.mem_flatMap.2 ⟨y,List.mem_cons_of_mem _ (List.mem_of_getElem? hy),?_⟩;rw [he];show i∈Gh ob (7+1) (.own i t off len);unfold Gh;dsimp only;split <;> simp
theorem Afu {L:List Oid} {l:List (Oid×Oid)}:∀ q∈exL [],A4 l q.1∈L:=fun _ h=>by cases h
theorem Ae2 {L:List Oid} {l:List (Oid×Oid)} {i:Oid} {e:TypeId} {t:Ty} {xs:List t.D} {r:List (Oid×Ob)} (h:A4 l i∈L) (hr:∀ q∈exL r,A4 l q.1∈L):∀ q∈exL ((i,.arr e t xs) :: r),A4 l q.1∈L:=fun q hq=>by
 rcases List.mem_cons.1 hq with rfl | hq
 ·exact h
 ·exact hr q hq
theorem Y6 {α:Type} {xs:List α} {k:Nat} (h:k<=xs.length):k=(xs.take k).length:=by rw [List.length_take]; omega
section
variable {f:Nat->AV} {ob:Oid->Option Ob} {n:Nat} {d:Option Nat}
theorem Aa2 {sz:Nat} {x hi mx:Opd} {i:Oid} {t u:Ty} {len:Nat} {e:TypeId} {xs:List u.D} {kh km:IntKind} {h m:Int} {j:Nat} (hx:x.ev f=.own i t 0 len) (hob:ob i=some (.arr e u xs)) (hh:hi.ev f=.int kh h) (hm:mx.ev f=.int km m) (hs:t.size=sz) (hb:0<=h∧h<=m∧m<=(len:Int)) (hj:h.toNat=j) (hk:j<=xs.length) :
  A7 n ⟨d,none,.slice sz x none (some hi) (some mx)⟩ f ob=some (2,.own ((d.getD 0,0),n) t 0 j,[(i,none),(((d.getD 0,0),n),some (.arr e u (xs.take j)))]):=by
 subst hj;simp [A7,ev,L3,Fi,Dd,hx,hob,hh,hm,hs,hb,Vj,hk,AV.un]
end
end Go.Proofs.YtehocbbnjfmgaaaDoor
namespace Go.Proofs.YtehocbbnjfmgaaaDoor
open Go.RowKit Go.Deep
section
variable {P:Program} {G:World->Prop} {g k d:Nat} {gd:Option (Nat×Bool)} {q:Q} {xs:List X} {tl:List (Nat×AV)} {ol:List (Oid×Option Ob)} {bad:List (Nat×Nat)} {ra:List Rec} {da:List (List Oid)} {Kf:List (Nat×AV)->List (Oid×Option Ob)->Prop}
theorem rz0 (v:AV) (h3:XW P G g (k+1) xs ((d,v) :: tl) ol Kf) (h:A7 (g+k) ⟨some d,gd,q⟩ (Am tl) (Ad ol)=some (0,v,[]):=by kernel_rfl):XW P G g k (⟨some d,gd,q⟩ :: xs) tl ol Kf:=rs0 v h h3
theorem rzl (v:AV) (h3:XW P G g (k+1) xs ((d,v) :: tl) ol Kf) (h:A7 (g+k) ⟨some d,gd,q⟩ (Am tl) (Ad ol)=some (1,v,[]):=by kernel_rfl):XW P G g k (⟨some d,gd,q⟩ :: xs) tl ol Kf:=rsl v h h3
theorem dz0 (v:AV) (h3:XD P G bad g (k+1) xs ((d,v) :: tl) ol ((0,v,[]) :: ra) ((rdX (Am tl) (Ad ol) ⟨some d,gd,q⟩) :: da) Kf) (h:A7 (g+k) ⟨some d,gd,q⟩ (Am tl) (only (rdX (Am tl) (Ad ol) ⟨some d,gd,q⟩) (Ad ol))=some (0,v,[]):=by kernel_rfl):XD P G bad g k (⟨some d,gd,q⟩ :: xs) tl ol ra da Kf:=ds0 v h h3
theorem dzl (v:AV) (h3:XD P G bad g (k+1) xs ((d,v) :: tl) ol ((1,v,[]) :: ra) ((rdX (Am tl) (Ad ol) ⟨some d,gd,q⟩) :: da) Kf) (h:A7 (g+k) ⟨some d,gd,q⟩ (Am tl) (only (rdX (Am tl) (Ad ol) ⟨some d,gd,q⟩) (Ad ol))=some (1,v,[]):=by kernel_rfl):XD P G bad g k (⟨some d,gd,q⟩ :: xs) tl ol ra da Kf:=dsl v h h3
theorem zs {s:Nat} {b c:Bool} (hc:c= !b) (h3:XW P G g (k+1) xs ((d,.tup []) :: tl) ol Kf) (hs:Am tl s=.bool c:=by kernel_rfl):XW P G g k (⟨some d,some (s,b),q⟩ :: xs) tl ol Kf:=rs0 (.tup []) (Ef hs hc) h3
theorem zc {fo:Opd} {ys:List Opd} {tys:List (List (Option Ty))} {F:FuncId} {rv:RV} {args:List AV} (v:AV) (us:List (Oid×Option Ob)) (zs:List AV) (hc:A9 P G F args rv) (h3:XW P G g (k+1) xs ((d,v) :: tl) (us.reverseAux ol) Kf) (h1:J3 (gnd (Ad ol) 8) zs=some zs:=by kernel_rfl) (hb:Az P F=true:=by kernel_rfl) (hfo:fo.ev (Am tl)=.fn F []:=by kernel_rfl) (hz:(ys++([]:List AV).map Opd.cst).map (Opd.ev (Am tl))=zs:=by kernel_rfl) (hn:Mm tys zs=args:=by kernel_rfl) (hr:rv.out (Cj ((d,0),g+k)) zs=(v,us):=by kernel_rfl) (hx:D1 us=true:=by rfl) (hni:rv.noI=true:=by kernel_rfl):XW P G g k (⟨some d,none,.call fo ys tys⟩ :: xs) tl ol Kf:=Fe (caps:=[]) (args0:=zs) v us zs args trivial h1 hc hb h3 hfo hz hn hr hx hni
end
section
variable {n:Nat} {d:Option Nat} {f:Nat->AV} {ob:Oid->Option Ob}
theorem zi {sz:Nat} {x i:Opd} {t:Ty} {xs:List t.D} {y:t.D} {k:IntKind} {m:Int} {j:Nat} (h0:0<=m) (hy:xs[j]? =some y) (hx:(x.ev f).un=.tree t xs:=by kernel_rfl) (hi:i.ev f=.int k m:=by kernel_rfl) (hs:sz=t.size:=by rfl) (hj:m.toNat=j:=by rfl) {e:Option (Nat->Prop)} (he:(x.ev f).tag=e:=by kernel_rfl):A7 n ⟨d,none,.i (.idx sz x i)⟩ f ob=some (0,.telt e t y 0,[]):=Ae5 hx hi hs h0 hj hy he
theorem zo {sz:Nat} {x i:Opd} {t:Ty} {o:Oid} {len:Nat} {k:IntKind} {m:Int} {j:Nat} (h0:0<=m) (hl:j<len) (hx:x.ev f=.own o t 0 len:=by kernel_rfl) (hi:i.ev f=.int k m:=by kernel_rfl) (hs:sz=t.size:=by rfl) (hj:m.toNat=j:=by rfl):A7 n ⟨d,none,.i (.idx sz x i)⟩ f ob=some (0,.elt o j 0,[]):=Afh hx hi hs h0 hj hl
theorem zg {s:Nat} {b c:Bool} {q:Q} {r:Option Rec} (hc:c=b) (hs:f s=.bool c:=by kernel_rfl) (h:A7 n ⟨d,none,q⟩ f ob=r:=by kernel_rfl):A7 n ⟨d,some (s,b),q⟩ f ob=r:=Agd hs hc h
theorem zT {c x y:Opd} {b:Bool} (hb:b=true) (h:c.ev f=.bool b:=by kernel_rfl):A7 n ⟨d,none,.i (.pick c x y)⟩ f ob=some (0,x.ev f,[]):=Adz h hb
theorem zF {c x y:Opd} {b:Bool} (hb:b=false) (h:c.ev f=.bool b:=by kernel_rfl):A7 n ⟨d,none,.i (.pick c x y)⟩ f ob=some (0,y.ev f,[]):=Adh h hb
theorem za {x y:Opd} {j:Nat} (h:j+1<4611686018427387904) (hx:x.ev f=.int .i64 j:=by kernel_rfl) (hy:y.ev f=.int .i64 1:=by kernel_rfl):A7 n ⟨d,none,.i (.bin .add x y)⟩ f ob=some (0,.int .i64 ((j+1:Nat):Int),[]):=Ae3 hx hy h
theorem zl {vs:List Value} {c:AV} {l:RL} (h:L2 ob c=some l:=by kernel_rfl):LeafR vs ob c l:=Agc h
end
theorem zj {α:Type} {a b:α} (h:some a=some b):a=b:=osj h
theorem wr_ {S:St} {K:St->Prop} (h:K S):∃ S',Weak S S'∧K S':=⟨S,Weak.refl _,h⟩
end Go.Proofs.YtehocbbnjfmgaaaDoor
namespace Go.Proofs.YtehocbbnjfmgaaaDoor
open Go.RowKit Go.Deep
inductive Ctl (σ ρ:Type) where
 | next (s:σ)
 | out (r:ρ)
def Ctl.then {σ β:Type} (k:σ->Option β):Ctl σ β->Option β
 | .next t=>k t
 | .out r=>some r
section
variable {α β σ τ ρ:Type}
def og (c:Prop) [Decidable c] (k:Option α):Option α:=if c then k else none
theorem Ax {c:Prop} [Decidable c] {k:Option α} {r:α} (h:og c k=some r):c∧k=some r:=by
 unfold og at h;split at h
 ·rename_i hc; exact ⟨hc,h⟩
 ·cases h
theorem Aw {c:Prop} [Decidable c] (h:c) (k:Option α):og c k=k:=if_pos h
theorem Af {o:Option α} {f:α->Option β} {b:β} (h:o.bind f=some b):∃ a,o=some a∧f a=some b:=Option.bind_eq_some_iff.1 h
theorem Ae {c:Bool} {a b:Option α} {r:α} (h:cond c a b=some r):(c=true∧a=some r)∨(c=false∧b=some r):=by
 cases c
 ·exact .inr ⟨rfl,h⟩
 ·exact .inl ⟨rfl,h⟩
def Lg (a:Option (Ctl τ β)) (k:τ->Option β):Option β :=
 a.bind (Ctl.then k)
theorem Aau {a:Option (Ctl τ β)} {k:τ->Option β} {r:β} (h:Lg a k=some r):∃ v,a=some v∧Ctl.then k v=some r:=Af h
def A6 (body:σ->Option (Ctl σ ρ)):Nat->σ->Option ρ
 | 0,_=>none
 | n+1,s=>(body s).bind (Ctl.then (A6 body n))
theorem Yk {body:σ->Option (Ctl σ ρ)} {n:Nat} {s:σ} {v:ρ} (h:A6 body (n+1) s=some v):∃ c,body s=some c∧Ctl.then (A6 body n) c=some v:=Af h
theorem Yg {body:σ->Option (Ctl σ ρ)} {s:σ} {v:ρ} (h:A6 body 0 s=some v):False:=by cases h
def L0 (xs:List α) (n:Int):Option α:=if 0<=n then xs[n.toNat]? else none
theorem Be {xs:List α} {k:Nat} {x:α} (h:xs[k]? =some x):k<xs.length:=(gSi.1 h).1
theorem Cv {xs:List α} {n:Int} {x:α} (h:L0 xs n=some x):0<=n∧n<xs.length∧xs[n.toNat]? =some x:=by
 unfold L0 at h;split at h
 ·rename_i h0;have:=Be h;exact ⟨h0,by omega,h⟩
 ·cases h
theorem Id {xs:List α} {n:Int} (h:0<=n):L0 xs n=xs[n.toNat]?:=if_pos h
end
section
variable {P:Program} {G:World->Prop} {σ τ β ρ:Type}
theorem Ba {x y:AC} {R:AE->St->Prop} {S:St} {A:Option τ} {k:τ->Option β} {r:β} (h:A.bind k=some r) (J:τ->St->Prop) (h1:∀ t,A=some t->awp P G x (Gy (fun S'=>∃ S'',Weak S' S''∧J t S'') R) S) (h2:∀ t S'',J t S''->k t=some r->awp P G y R S''):awp P G (.seq x y) R S:=by
 obtain ⟨t,ha,hk⟩:=Af h;exact Ud (J t) (h1 t ha) fun S'' hj=>h2 t S'' hj hk
theorem Du {x y:AC} {R:AE->St->Prop} {S:St} {A:Option (Ctl τ β)} {k:τ->Option β} {r:β} (h:Lg A k=some r) (J:τ->St->Prop)
  (h1:∀ v,A=some v->Ctl.then k v=some r->awp P G x (Gy (fun S'=>∃ t S'',v=.next t∧Weak S' S''∧J t S'') R) S) (h2:∀ t S'',J t S''->k t=some r->awp P G y R S''):awp P G (.seq x y) R S:=by
 obtain ⟨v,ha,hk⟩:=Aau h;refine Ud (fun S''=>∃ t,v=.next t∧J t S'') (Cm (fun e S' hq=>?_) (h1 v ha hk)) fun S'' ⟨t,hv,hj⟩=>?_
 ·cases e with
  | normal=>obtain ⟨t,S'',hv,hw,hj⟩:=hq; exact ⟨S'',hw,t,hv,hj⟩
  | exit id=>exact hq
  | ret=>exact hq
 ·subst hv; exact h2 t S'' hj hk
theorem A5 {a:AC} {R:AE->St->Prop} {S:St} {body:σ->Option (Ctl σ ρ)} {fuel:Nat} {s0:σ} {v:ρ} (h:A6 body fuel s0=some v) (J:σ->St->Prop) (h0:∃ S0,Weak S S0∧J s0 S0)
  (h1:∀ n s S1 c,J s S1->body s=some c->Ctl.then (A6 body n) c=some v->awp P G a (Gy (fun S2=>∃ s' S3,Weak S2 S3∧J s' S3∧A6 body n s'=some v) R) S1):awp P G (.loop a) R S:=by
 obtain ⟨S0,hw,hj⟩:=h0;refine Aat (fun (p:Nat×σ) S=>A6 body p.1 p.2=some v∧J p.2 S) (·.1) ⟨(fuel,s0),S0,hw,h,hj⟩ ?_;rintro ⟨n,s⟩ S1 ⟨hl,hj⟩;cases n with
 | zero=>exact (Yg hl).elim
 | succ n =>
  obtain ⟨c,hc,hn⟩:=Yk hl;refine Cm (fun e S2 hq=>?_) (h1 n s S1 c hj hc hn);cases e with
  | normal=>obtain ⟨s',S3,hw,hj,hl⟩:=hq; exact ⟨(n,s'),S3,hw,⟨hl,hj⟩,Nat.lt_succ_self n⟩
  | exit id=>exact hq
  | ret=>exact hq
end
theorem Bi (n:Nat):0<=(n:Int):=by omega
end Go.Proofs.YtehocbbnjfmgaaaDoor
namespace Go.Proofs.YtehocbbnjfmgaaaDoor
open Go.RowKit Go.Deep
def Hc (a0:Int):Option Bool:=some (isF a0)
def O1 (r:Bool):RV:=⟨false,[(false,[.sc (.bool r)])]⟩
theorem Ds:Az Tryd.prog 39=true:=by kernel_rfl
theorem Dx {a0:Int} {r:Bool} (h:Hc a0=some r):A9 Tryd.prog Tab 39 [.int .i64 a0] (O1 r):=by
 obtain rfl:=osj h;intro w im vs hG hr;obtain ⟨u1,_,rfl,h1,h2⟩:=hr;obtain rfl:_=[]:=h2;obtain rfl:u1=.int .i64 a0:=h1;refine (Xa a0 w (hG w (Below.refl _ _))).mono ?_;rintro e w' ⟨rfl,rfl⟩;exact ⟨_,rfl,Below.refl _ _,[_],[],⟨_,[],rfl,rfl,rfl,rfl,rfl⟩,⟨trivial,fun _=>rfl⟩,rfl⟩
end Go.Proofs.YtehocbbnjfmgaaaDoor
namespace Go.Proofs.YtehocbbnjfmgaaaDoor
open Go.RowKit Go.Deep
set_option maxRecDepth 4000
def Lc:AC :=
 (.seq (rg [xo 4 (qm (ci 0))])
 (.seq (rg [xo 5 (qm (tm 1)),xo 6 (qm (tm 0)),xo 7 (.i (.len (tm 6))),xo 8 (qb .sub (tm 5) (tm 7)),xo 1 (qm (tm 8))])
 (.seq (.seq (rg [xo 9 (qm (tm 1)),xo 10 (qb .lss (tm 9) (ci 0))])
 (.cond (tm 10)
  (.seq (rg [xo 4 (qm (ci (-1)))])
  .ret)
  .skip))
 (.seq (rg [xo 11 (qm (tm 1)),xo 4 (qm (tm 11))])
 .ret))))
def Sj:List Res:=[.tmp 4]
theorem Se:Ap Tryd.prog Tryd.f33=some (Lc,Sj):=by kernel_rfl
def E6 (a0:List Int) (a1:Int):Option Int :=
 cond (decide (wI (a1 - ((a0.length:Nat):Int))<0))
 (some (-1))
 (some (wI (a1 - ((a0.length:Nat):Int))))
def Q6 (r:Int):RV:=⟨false,[(false,[.sc (.int .i64 r)])]⟩
theorem Ra {a0:List Int} {a1:Int} {r:Int} (h:E6 a0 a1=some r):A9 Tryd.prog Tab 33 [.tree .int a0,ai a1] (Q6 r):=by
 refine A0 (by kernel_rfl) Tryd.func33 Se (n:=12) (by kernel_rfl) (by simp) (tl:=[(0,.tree .int a0),(1,ai a1)]) rfl ?_;unfold Lc;unfold E6 at h;refine Al ?_;refine Al ?_;refine Ab ?_;refine Al ?_;rcases Ae h with ⟨q5,h⟩ | ⟨q5,h⟩
 ·have q5_:=of_decide_eq_true q5;refine Ag q5 ?_;refine Al ?_;refine Ai (tr_ ?_);obtain rfl:=zj h;exact Bh [ai (-1)] (A1 rfl zl A2)
 have q5_:=of_decide_eq_false q5;refine Ah q5 ?_;refine Aj (tn_ ?_);refine wr_ ?_;refine Al ?_;refine Ai ?_;obtain rfl:=zj h;exact Bh [ai (wI (a1 - ((a0.length:Nat):Int)))] (A1 rfl zl A2)
def Ia:AC :=
 (.seq (.seq (rg [xo 8 (qm (tm 4)),xo 9 (qm (tm 0)),xo 10 (.i (.len (tm 9))),xo 11 (qb .lss (tm 8) (tm 10))])
 (.cond (tm 11)
  .skip
  (.exit 0)))
 (.seq (.block 1 (rg [xo 14 (qm (tm 3)),xo 15 (qm (tm 4)),xo 16 (qm (tm 0)),xo 17 (qm (tm 4)),xo 18 (qx 1 (tm 16) (tm 17)),xo 19 (ql (tm 18)),xo 20 (qx 1 (tm 14) (tm 15)),xn (qs (tm 20) (tm 19))]))
 (rg [xo 12 (qm (tm 4)),xo 13 (qb .add (tm 12) (ci 1)),xo 4 (qm (tm 13))])))
def Ld:AC :=
 (.seq (rg [xo 2 (qm (.cst .nils))])
 (.seq (rg [xo 5 (qm (tm 0)),xo 6 (.i (.len (tm 5))),xo 7 (.make 3 .int 8 (tm 6) (tm 6)),xo 3 (qm (tm 7))])
 (.seq (.seq (rg [xo 4 (qm (ci 0))])
 (.block 0 (.loop Ia)))
 (.seq (rg [xo 21 (qm (tm 3)),xo 2 (qm (tm 21))])
 .ret))))
def Tf:List Res:=[.tmp 2]
theorem Sm:Ap Tryd.prog Tryd.f38=some (Ld,Tf):=by kernel_rfl
def C8 (a0:List Int) (l6_m4:Nat) (l6_m3:List Int):Option (Ctl (Nat×List Int) (List Int)) :=
 cond (decide (((l6_m4:Nat):Int)<((a0.length:Nat):Int)))
 (Option.bind (a0[l6_m4]?) fun x11 =>
 Option.bind (l6_m3[l6_m4]?) fun x12 =>
 og (l6_m4+1<4611686018427387904) <|
 some (Ctl.next (l6_m4+1,l6_m3.set l6_m4 x11)))
 (some (Ctl.out l6_m3))
def E3 (a0:List Int):Option (List Int) :=
 og (0<=((a0.length:Nat):Int)∧((a0.length:Nat):Int)<=((a0.length:Nat):Int)∧((a0.length:Nat):Int)<=1073741824∧(8:Int)*((a0.length:Nat):Int)<=140737488355328) <|
Option.bind (A6 (fun s_:Nat×List Int=>C8 a0 s_.1 s_.2) 4611686018427387904 (0,List.replicate a0.length (0:Int))) fun l4_m3 =>
some l4_m3
def Rb (r:List Int):RV:=⟨false,[(false,[.new 3 .int r])]⟩
theorem Q2 {a0:List Int} {r:List Int} (h:E3 a0=some r):A9 Tryd.prog Tab 38 [.tree .int a0] (Rb r):=by
 refine A0 (by kernel_rfl) Tryd.func38 Sm (n:=22) (by kernel_rfl) (by simp) (tl:=[(0,.tree .int a0)]) rfl ?_;unfold Ld;unfold E3 at h;refine Al ?_;refine Ab ?_;obtain ⟨g3,h⟩:=Ax h;refine Aa 6 ?_;refine rz0 (.tree .int a0) ?_;refine rz0 (ai ((a0.length:Nat):Int)) ?_;refine rs1 (.own (oi 7 4) .int 0 a0.length) (oi 7 4) (.arr 3 .int (List.replicate a0.length (0:Int))) (Ae8 (t:=.int) (k:=.i64) (k':=.i64) (m:=((a0.length:Nat):Int)) (m':=((a0.length:Nat):Int)) (by kernel_rfl) (by kernel_rfl) g3 rfl) ?_;refine rsB 1 ?_;refine Ay (tn_ ?_);refine wr_ ?_;refine Ba h (fun (l4_m3:List Int) S_=>S_=⟨Am [(3,.own (oi 0 1) .int 0 l4_m3.length)],Ad (Ar [(oi 0 1,.arr 3 .int l4_m3)]),2⟩) ?_ ?_
 ·intro v_ h;refine Al ?_;refine Ak ?_;refine A5 h (fun t_ S_=>∃ (l6_m4:Nat),∃ (l6_m3:List Int),t_=(l6_m4,l6_m3)∧S_=⟨Am [(0,.tree .int a0),(3,.own (oi 0 1) .int 0 l6_m3.length),(4,ai ((l6_m4:Nat):Int))],Ad (Ar [(oi 0 1,.arr 3 .int l6_m3)]),2⟩) ⟨_,(B4 3 (.own (oi 7 4) .int 0 a0.length) (.own (oi 7 4) .int 0 ((List.replicate a0.length (0:Int)).length)) (by kernel_rfl) (congrArg (fun z_=>((.own (oi 7 4) .int 0 z_):AV)) (List.length_replicate.symm:a0.length=(List.replicate a0.length (0:Int)).length))).trans (Ac [(oi 0 1,oi 7 4)]),⟨0,List.replicate a0.length (0:Int),rfl,rfl⟩⟩ ?_;rintro n_ _ _ c_ ⟨l6_m4,l6_m3,rfl,rfl⟩ h hn6
  (try dsimp only at h);unfold C8 at h;unfold Ia;refine Ab ?_;refine Al ?_;rcases Ae h with ⟨q9,h⟩ | ⟨q9,h⟩
  ·have q9_:=of_decide_eq_true q9;refine Ag q9 ?_;refine Aj (tn_ ?_);refine wr_ ?_;refine Ab ?_;refine Ak ?_;obtain ⟨x11,e11,h⟩:=Af h;obtain ⟨x12,e12,h⟩:=Af h;refine Aa 14 ?_;refine rz0 (.own (oi 0 1) .int 0 l6_m3.length) ?_;refine rz0 (ai ((l6_m4:Nat):Int)) ?_;refine rz0 (.tree .int a0) ?_;refine rz0 (ai ((l6_m4:Nat):Int)) ?_;refine rs0 (.telt none .int x11 0) (zi (t:=.int) (xs:=a0) (k:=.i64) (m:=((l6_m4:Nat):Int)) (Bi _) e11) ?_;refine rz0 (ai x11) ?_;refine rs0 (.elt (oi 0 1) l6_m4 0) (zo (t:=.int) (o:=oi 0 1) (len:=l6_m3.length) (k:=.i64) (m:=((l6_m4:Nat):Int)) (Bi _) (Be e12)) ?_;refine Aek (oi 0 1) (oi 0 1) (.arr 3 .int (l6_m3.set l6_m4 x11)) (Z2 (i:=oi 0 1) (j:=l6_m4) (k:=0) (e:=3) (t:=.int) (xs:=l6_m3) (cs:=[ai x11]) (x1:=x11) (by kernel_rfl) (by kernel_rfl) e12 (by kernel_rfl) (by kernel_rfl)) ?_;refine Ay (bn_ (tn_ ?_));refine wr_ ?_;obtain ⟨g13,h⟩:=Ax h;refine Aa 17 ?_;refine rz0 (ai ((l6_m4:Nat):Int)) ?_;refine rs0 (ai ((l6_m4+1:Nat):Int)) (za g13) ?_;refine rsB 1 ?_;refine Ay (tn_ ?_);obtain rfl:=zj h;exact ⟨(l6_m4+1,l6_m3.set l6_m4 x11),_,(B4 3 (.own (oi 0 1) .int 0 l6_m3.length) (.own (oi 0 1) .int 0 ((l6_m3.set l6_m4 x11).length)) (by kernel_rfl) (congrArg (fun z_=>((.own (oi 0 1) .int 0 z_):AV)) (((rfl:l6_m3.length=l6_m3.length).trans List.length_set.symm):l6_m3.length=(l6_m3.set l6_m4 x11).length))).trans (Ac []),⟨l6_m4+1,l6_m3.set l6_m4 x11,rfl,rfl⟩,hn6⟩
  have q9_:=of_decide_eq_false q9;refine Ah q9 ?_;refine A3 (te_ (te_ (be_ (tn_ ?_))));obtain rfl:=zj h;have h:=hn6
  (try dsimp only at h);obtain rfl:=zj h;exact ⟨_,Ac [],rfl⟩
 rintro l4_m3 _ rfl h
 (try dsimp only at h);refine Al ?_;refine Ai ?_;obtain rfl:=zj h;exact Bh [.own (oi 0 1) .int 0 l4_m3.length] (A1 rfl (Ac0 (by kernel_rfl) rfl) A2)
def Ii:AC :=
 (.seq (.seq (rg [xo 11 (qm (tm 5)),xo 12 (qm (tm 0)),xo 13 (.i (.len (tm 12))),xo 14 (qb .lss (tm 11) (tm 13))])
 (.cond (tm 14)
  .skip
  (.exit 0)))
 (.seq (.block 1 (.seq (.region [xo 17 (qm (tm 0)),xo 18 (qm (tm 5)),xo 19 (qx 1 (tm 17) (tm 18)),xo 20 (ql (tm 19)),xo 21 (qm (tm 1)),xo 22 (qm (tm 5)),xo 23 (qx 1 (tm 21) (tm 22)),xo 24 (ql (tm 23)),xo 25 (qb .neq (tm 20) (tm 24))] true [])
 (.cond (tm 25)
  (.seq (rg [xo 4 (qm (cb false))])
  .ret)
  .skip)))
 (rg [xo 15 (qm (tm 5)),xo 16 (qb .add (tm 15) (ci 1)),xo 5 (qm (tm 16))])))
def Ky:AC :=
 (.seq (rg [xo 4 (qm (cb false))])
 (.seq (.seq (rg [xo 6 (qm (tm 0)),xo 7 (.i (.len (tm 6))),xo 8 (qm (tm 1)),xo 9 (.i (.len (tm 8))),xo 10 (qb .neq (tm 7) (tm 9))])
 (.cond (tm 10)
  (.seq (rg [xo 4 (qm (cb false))])
  .ret)
  .skip))
 (.seq (.seq (rg [xo 5 (qm (ci 0))])
 (.block 0 (.loop Ii)))
 (.seq (rg [xo 4 (qm (cb true))])
 .ret))))
def S6:List Res:=[.tmp 4]
theorem Te:Ap Tryd.prog Tryd.f46=some (Ky,S6):=by kernel_rfl
theorem Qx:Az Tryd.prog 46=true:=by kernel_rfl
def Df (a0:List Int) (a1:List Int) (l8_m5:Nat):Option (Ctl Nat (Ctl Unit Bool)) :=
 cond (decide (((l8_m5:Nat):Int)<((a0.length:Nat):Int)))
 (Option.bind (a0[l8_m5]?) fun x14 =>
 Option.bind (a1[l8_m5]?) fun x15 =>
 cond (x14 !=x15)
  (some (Ctl.out (Ctl.out false)))
  (og (l8_m5+1<4611686018427387904) <|
  some (Ctl.next (l8_m5+1))))
 (some (Ctl.out (Ctl.next ())))
def E0 (a0:List Int) (a1:List Int):Option Bool :=
 cond (((a0.length:Nat):Int) !=((a1.length:Nat):Int))
 (some false)
 (Lg (A6 (fun s_:Nat=>Df a0 a1 s_) 4611686018427387904 0) fun _ =>
 some true)
def Qb (r:Bool):RV:=⟨false,[(false,[.sc (.bool r)])]⟩
theorem R9 {a0:List Int} {a1:List Int} {r:Bool} (h:E0 a0 a1=some r):A9 Tryd.prog Tab 46 [.tree .int a0,.tree .int a1] (Qb r):=by
 refine A0 (by kernel_rfl) Tryd.func46 Te (n:=26) (by kernel_rfl) (by simp) (tl:=[(0,.tree .int a0),(1,.tree .int a1)]) rfl ?_;unfold Ky;unfold E0 at h;refine Al ?_;refine Ab ?_;refine Al ?_;rcases Ae h with ⟨q4,h⟩ | ⟨q4,h⟩
 ·refine Ag q4 ?_;refine Al ?_;refine Ai (tr_ ?_);obtain rfl:=zj h;exact Bh [.bool false] (A1 rfl zl A2)
 refine Ah q4 ?_;refine Aj (tn_ ?_);refine wr_ ?_;refine Du h (fun (_:Unit) S_=>S_=⟨Am [],Ad (Ar []),2⟩) ?_ ?_
 ·intro v_ h hk6;refine Al ?_;refine Ak ?_;refine A5 h (fun (l8_m5:Nat) S_=>S_=⟨Am [(0,.tree .int a0),(1,.tree .int a1),(5,ai ((l8_m5:Nat):Int))],Ad (Ar []),2⟩) ⟨_,Ac [],rfl⟩ ?_;rintro n_ l8_m5 _ c_ rfl h hn8
  (try dsimp only at h);unfold Df at h;unfold Ii;refine Ab ?_;refine Al ?_;rcases Ae h with ⟨q11,h⟩ | ⟨q11,h⟩
  ·have q11_:=of_decide_eq_true q11;refine Ag q11 ?_;refine Aj (tn_ ?_);refine wr_ ?_;refine Ab ?_;refine Ak ?_;refine Ab ?_;obtain ⟨x14,e14,h⟩:=Af h;obtain ⟨x15,e15,h⟩:=Af h;refine Bc 15 ?_;refine dz0 (.tree .int a0) ?_;refine dz0 (ai ((l8_m5:Nat):Int)) ?_;refine ds0 (.telt none .int x14 0) (zi (t:=.int) (xs:=a0) (k:=.i64) (m:=((l8_m5:Nat):Int)) (Bi _) e14) ?_;refine dz0 (ai x14) ?_;refine dz0 (.tree .int a1) ?_;refine dz0 (ai ((l8_m5:Nat):Int)) ?_;refine ds0 (.telt none .int x15 0) (zi (t:=.int) (xs:=a1) (k:=.i64) (m:=((l8_m5:Nat):Int)) (Bi _) e15) ?_;refine dz0 (ai x15) ?_;refine dz0 (.bool (x14 !=x15)) ?_;refine Lo (B8 (by kernel_rfl)) (tn_ ?_);refine wr_ ?_;rcases Ae h with ⟨q16,h⟩ | ⟨q16,h⟩
   ·refine Ag q16 ?_;refine Al ?_;refine Ai (br_ (tr_ (tr_ (br_ (tr_ ?_)))));obtain rfl:=zj h;have h:=hn8
    (try dsimp only at h);obtain rfl:=zj h;have h:=hk6
    (try dsimp only at h);obtain rfl:=zj h;exact Bh [.bool false] (A1 rfl zl A2)
   refine Ah q16 ?_;refine Aj (bn_ (tn_ ?_));refine wr_ ?_;obtain ⟨g18,h⟩:=Ax h;refine Aa 18 ?_;refine rz0 (ai ((l8_m5:Nat):Int)) ?_;refine rs0 (ai ((l8_m5+1:Nat):Int)) (za g18) ?_;refine rsB 1 ?_;refine Ay (tn_ ?_);obtain rfl:=zj h;exact ⟨l8_m5+1,_,Ac [],rfl,hn8⟩
  have q11_:=of_decide_eq_false q11;refine Ah q11 ?_;refine A3 (te_ (te_ (be_ (tn_ ?_))));obtain rfl:=zj h;have h:=hn8
  (try dsimp only at h);obtain rfl:=zj h;exact ⟨(),_,rfl,Ac [],rfl⟩
 rintro _ _ rfl h
 (try dsimp only at h);refine Al ?_;refine Ai ?_;obtain rfl:=zj h;exact Bh [.bool true] (A1 rfl zl A2)
def Hj:AC :=
 (.seq (.seq (rg [xo 6 (qm (tm 5)),xo 7 (qm (tm 0)),xo 8 (.i (.len (tm 7))),xo 9 (qb .lss (tm 6) (tm 8))])
 (.cond (tm 9)
  .skip
  (.exit 0)))
 (.seq (.block 1 (.seq (rg [xo 12 (qm (tm 0)),xo 13 (qm (tm 5)),xo 14 (qm (tm 1)),xo 15 (qx 1 (tm 12) (tm 13)),xn (qs (tm 15) (tm 14))])
 (rg [xo 16 (qm (tm 1)),xo 17 (qb .add (tm 16) (ci 1)),xo 1 (qm (tm 17))])))
 (rg [xo 10 (qm (tm 5)),xo 11 (qb .add (tm 10) (ci 1)),xo 5 (qm (tm 11))])))
def Ji:AC :=
 (.seq (rg [xo 4 (qm (ci 0))])
 (.seq (.seq (rg [xo 5 (qm (ci 0))])
 (.block 0 (.loop Hj)))
 (.seq (rg [xo 18 (qm (tm 1)),xo 4 (qm (tm 18))])
 .ret)))
def Pm:List Res:=[.tmp 4]
theorem Ps:Ap Tryd.prog Tryd.f47=some (Ji,Pm):=by kernel_rfl
theorem Nq:Az Tryd.prog 47=true:=by kernel_rfl
def Cn  (l5_m1:Int) (l5_m5:Nat) (l5_m0:List Int):Option (Ctl (Int×Nat×List Int) (Int×List Int)) :=
 cond (decide (((l5_m5:Nat):Int)<((l5_m0.length:Nat):Int)))
 (Option.bind (l5_m0[l5_m5]?) fun x11 =>
 og (l5_m5+1<4611686018427387904) <|
 some (Ctl.next (wI (l5_m1+1),l5_m5+1,l5_m0.set l5_m5 l5_m1)))
 (some (Ctl.out (l5_m1,l5_m0)))
def Dv (a0:List Int) (a1:Int):Option (List Int×Int) :=
 Option.bind (A6 (fun s_:Int×Nat×List Int=>Cn s_.1 s_.2.1 s_.2.2) 4611686018427387904 (a1,0,a0)) fun (l3_m1,l3_p0) =>
some (l3_p0,l3_m1)
theorem Nv {a0:List Int} {a1:Int} {r:List Int×Int} (h:Dv a0 a1=some r) {n_a0:Nat} (hn_a0:n_a0=a0.length):Ea Tryd.prog Tab 47 [.own (oi 0 0) .int 0 n_a0,ai a1] [(oi 0 0,.arr 3 .int a0)] (ai r.2) [(oi 0 0,.arr 3 .int r.1)]:=by
 refine B6 (by kernel_rfl) Tryd.func47 Ps (n:=19) (by kernel_rfl) (by simp) (tl:=[(0,.own (oi 0 0) .int 0 n_a0),(1,ai a1)]) rfl (by kernel_rfl) ⟨trivial,trivial⟩ ⟨trivial,trivial⟩ ?_;unfold Ji;unfold Dv at h;refine Al ?_;refine Ba h (fun t_ S_=>∃ (l3_m1:Int),∃ (l3_p0:List Int),t_=(l3_m1,l3_p0)∧S_=⟨Am [(1,ai l3_m1)],Ad (Ar [(oi 0 0,.arr 3 .int l3_p0)]),2⟩) ?_ ?_
 ·intro v_ h;refine Al ?_;refine Ak ?_;refine A5 h (fun t_ S_=>∃ (l5_m1:Int),∃ (l5_m5:Nat),∃ (l5_m0:List Int),t_=(l5_m1,l5_m5,l5_m0)∧S_=⟨Am [(0,.own (oi 0 0) .int 0 l5_m0.length),(1,ai l5_m1),(5,ai ((l5_m5:Nat):Int))],Ad (Ar [(oi 0 0,.arr 3 .int l5_m0)]),2⟩) ⟨_,(B4 0 (.own (oi 0 0) .int 0 n_a0) (.own (oi 0 0) .int 0 a0.length) (by kernel_rfl) (congrArg (fun z_=>((.own (oi 0 0) .int 0 z_):AV)) (hn_a0:n_a0=a0.length))).trans (Ac []),⟨a1,0,a0,rfl,rfl⟩⟩ ?_;rintro n_ _ _ c_ ⟨l5_m1,l5_m5,l5_m0,rfl,rfl⟩ h hn5
  (try dsimp only at h);unfold Cn at h;unfold Hj;refine Ab ?_;refine Al ?_;rcases Ae h with ⟨q8,h⟩ | ⟨q8,h⟩
  ·have q8_:=of_decide_eq_true q8;refine Ag q8 ?_;refine Aj (tn_ ?_);refine wr_ ?_;refine Ab ?_;refine Ak ?_;refine Ab ?_;obtain ⟨x11,e11,h⟩:=Af h;refine Aa 11 ?_;refine rz0 (.own (oi 0 0) .int 0 l5_m0.length) ?_;refine rz0 (ai ((l5_m5:Nat):Int)) ?_;refine rz0 (ai l5_m1) ?_;refine rs0 (.elt (oi 0 0) l5_m5 0) (zo (t:=.int) (o:=oi 0 0) (len:=l5_m0.length) (k:=.i64) (m:=((l5_m5:Nat):Int)) (Bi _) (Be e11)) ?_;refine Aek (oi 0 0) (oi 0 0) (.arr 3 .int (l5_m0.set l5_m5 l5_m1)) (Z2 (i:=oi 0 0) (j:=l5_m5) (k:=0) (e:=3) (t:=.int) (xs:=l5_m0) (cs:=[ai l5_m1]) (x1:=l5_m1) (by kernel_rfl) (by kernel_rfl) e11 (by kernel_rfl) (by kernel_rfl)) ?_;refine Ay (tn_ ?_);refine wr_ ?_;refine Aa 14 ?_;refine rsB 3 ?_;refine Ay (bn_ (tn_ ?_));refine wr_ ?_;obtain ⟨g12,h⟩:=Ax h;refine Aa 17 ?_;refine rz0 (ai ((l5_m5:Nat):Int)) ?_;refine rs0 (ai ((l5_m5+1:Nat):Int)) (za g12) ?_;refine rsB 1 ?_;refine Ay (tn_ ?_);obtain rfl:=zj h;exact ⟨(wI (l5_m1+1),l5_m5+1,l5_m0.set l5_m5 l5_m1),_,(B4 0 (.own (oi 0 0) .int 0 l5_m0.length) (.own (oi 0 0) .int 0 ((l5_m0.set l5_m5 l5_m1).length)) (by kernel_rfl) (congrArg (fun z_=>((.own (oi 0 0) .int 0 z_):AV)) (((rfl:l5_m0.length=l5_m0.length).trans List.length_set.symm):l5_m0.length=(l5_m0.set l5_m5 l5_m1).length))).trans (Ac []),⟨wI (l5_m1+1),l5_m5+1,l5_m0.set l5_m5 l5_m1,rfl,rfl⟩,hn5⟩
  have q8_:=of_decide_eq_false q8;refine Ah q8 ?_;refine A3 (te_ (te_ (be_ (tn_ ?_))));obtain rfl:=zj h;have h:=hn5
  (try dsimp only at h);obtain rfl:=zj h;exact ⟨_,Ac [],⟨l5_m1,l5_m0,rfl,rfl⟩⟩
 rintro _ _ ⟨l3_m1,l3_p0,rfl,rfl⟩ h
 (try dsimp only at h);refine Al ?_;refine Ai ?_;obtain rfl:=zj h;exact Gg [ai l3_m1] (Ac (tl:=[(4,ai l3_m1)]) (g:=2) [])
def G7:AC :=
 (.seq (.seq (rg [xo 6 (qm (tm 5)),xo 7 (qm (tm 0)),xo 8 (.i (.len (tm 7))),xo 9 (qb .lss (tm 6) (tm 8))])
 (.cond (tm 9)
  .skip
  (.exit 0)))
 (.seq (.block 1 (.seq (.seq (rg [xo 12 (qm (tm 0)),xo 13 (qm (tm 5)),xo 14 (qx 1 (tm 12) (tm 13)),xo 15 (ql (tm 14)),xo 16 (qm (tm 1)),xo 17 (qb .neq (tm 15) (tm 16))])
 (.cond (tm 17)
  (.seq (rg [xo 4 (qm (ci (-1)))])
  .ret)
  .skip))
 (rg [xo 18 (qm (tm 1)),xo 19 (qb .add (tm 18) (ci 1)),xo 1 (qm (tm 19))])))
 (rg [xo 10 (qm (tm 5)),xo 11 (qb .add (tm 10) (ci 1)),xo 5 (qm (tm 11))])))
def Ja:AC :=
 (.seq (rg [xo 4 (qm (ci 0))])
 (.seq (.seq (rg [xo 5 (qm (ci 0))])
 (.block 0 (.loop G7)))
 (.seq (rg [xo 20 (qm (tm 1)),xo 4 (qm (tm 20))])
 .ret)))
def O8:List Res:=[.tmp 4]
theorem Pn:Ap Tryd.prog Tryd.f48=some (Ja,O8):=by kernel_rfl
def Cp (a0:List Int) (l4_m1:Int) (l4_m5:Nat):Option (Ctl (Int×Nat) (Ctl Int Int)) :=
 cond (decide (((l4_m5:Nat):Int)<((a0.length:Nat):Int)))
 (Option.bind (a0[l4_m5]?) fun x11 =>
 cond (x11 !=l4_m1)
  (some (Ctl.out (Ctl.out (-1))))
  (og (l4_m5+1<4611686018427387904) <|
  some (Ctl.next (wI (l4_m1+1),l4_m5+1))))
 (some (Ctl.out (Ctl.next l4_m1)))
def Dw (a0:List Int) (a1:Int):Option Int :=
 Lg (A6 (fun s_:Int×Nat=>Cp a0 s_.1 s_.2) 4611686018427387904 (a1,0)) fun l2_m1 =>
some l2_m1
def N0 (r:Int):RV:=⟨false,[(false,[.sc (.int .i64 r)])]⟩
theorem Nh {a0:List Int} {a1:Int} {r:Int} (h:Dw a0 a1=some r):A9 Tryd.prog Tab 48 [.tree .int a0,ai a1] (N0 r):=by
 refine A0 (by kernel_rfl) Tryd.func48 Pn (n:=21) (by kernel_rfl) (by simp) (tl:=[(0,.tree .int a0),(1,ai a1)]) rfl ?_;unfold Ja;unfold Dw at h;refine Al ?_;refine Du h (fun (l2_m1:Int) S_=>S_=⟨Am [(1,ai l2_m1)],Ad (Ar []),2⟩) ?_ ?_
 ·intro v_ h hk2;refine Al ?_;refine Ak ?_;refine A5 h (fun t_ S_=>∃ (l4_m1:Int),∃ (l4_m5:Nat),t_=(l4_m1,l4_m5)∧S_=⟨Am [(0,.tree .int a0),(1,ai l4_m1),(5,ai ((l4_m5:Nat):Int))],Ad (Ar []),2⟩) ⟨_,Ac [],⟨a1,0,rfl,rfl⟩⟩ ?_;rintro n_ _ _ c_ ⟨l4_m1,l4_m5,rfl,rfl⟩ h hn4
  (try dsimp only at h);unfold Cp at h;unfold G7;refine Ab ?_;refine Al ?_;rcases Ae h with ⟨q7,h⟩ | ⟨q7,h⟩
  ·have q7_:=of_decide_eq_true q7;refine Ag q7 ?_;refine Aj (tn_ ?_);refine wr_ ?_;refine Ab ?_;refine Ak ?_;refine Ab ?_;refine Ab ?_;obtain ⟨x11,e11,h⟩:=Af h;refine Aa 12 ?_;refine rz0 (.tree .int a0) ?_;refine rz0 (ai ((l4_m5:Nat):Int)) ?_;refine rs0 (.telt none .int x11 0) (zi (t:=.int) (xs:=a0) (k:=.i64) (m:=((l4_m5:Nat):Int)) (Bi _) e11) ?_;refine rsB 3 ?_;refine Ay (tn_ ?_);refine wr_ ?_;rcases Ae h with ⟨q12,h⟩ | ⟨q12,h⟩
   ·refine Ag q12 ?_;refine Al ?_;refine Ai (tr_ (br_ (tr_ (tr_ (br_ (tr_ ?_))))));obtain rfl:=zj h;have h:=hn4
    (try dsimp only at h);obtain rfl:=zj h;have h:=hk2
    (try dsimp only at h);obtain rfl:=zj h;exact Bh [ai (-1)] (A1 rfl zl A2)
   refine Ah q12 ?_;refine Aj (tn_ ?_);refine wr_ ?_;refine Aa 15 ?_;refine rsB 3 ?_;refine Ay (bn_ (tn_ ?_));refine wr_ ?_;obtain ⟨g14,h⟩:=Ax h;refine Aa 18 ?_;refine rz0 (ai ((l4_m5:Nat):Int)) ?_;refine rs0 (ai ((l4_m5+1:Nat):Int)) (za g14) ?_;refine rsB 1 ?_;refine Ay (tn_ ?_);obtain rfl:=zj h;exact ⟨(wI (l4_m1+1),l4_m5+1),_,Ac [],⟨wI (l4_m1+1),l4_m5+1,rfl,rfl⟩,hn4⟩
  have q7_:=of_decide_eq_false q7;refine Ah q7 ?_;refine A3 (te_ (te_ (be_ (tn_ ?_))));obtain rfl:=zj h;have h:=hn4
  (try dsimp only at h);obtain rfl:=zj h;exact ⟨l4_m1,_,rfl,Ac [],rfl⟩
 rintro l2_m1 _ rfl h
 (try dsimp only at h);refine Al ?_;refine Ai ?_;obtain rfl:=zj h;exact Bh [ai l2_m1] (A1 rfl zl A2)
def Oq:AC :=
 (.seq (rg [xo 6 (qm (cb false))])
 (.seq (rg [xo 7 (qm (tm 0)),xo 8 (qm (tm 1)),xo 9 (qb .geq (tm 7) (tm 8)),xo 10 (qm (tm 9)),⟨some 11,some (10,true),qm (tm 0)⟩,⟨some 12,some (10,true),qm (tm 2)⟩,⟨some 13,some (10,true),qb .leq (tm 11) (tm 12)⟩,xo 14 (.i (.pick (tm 10) (tm 13) (cb false))),xo 6 (qm (tm 14))])
 .ret))
def Wg:List Res:=[.tmp 6]
theorem W6:Ap Tryd.prog Tryd.f35=some (Oq,Wg):=by kernel_rfl
theorem Dl:Az Tryd.prog 35=true:=by kernel_rfl
def Di (a0:Int) (a1:Int) (a2:Int):Option Bool :=
 Option.bind (cond (decide (a1<=a0))
  (some (decide (a0<=a2)))
  (some false)) fun l2_m6 =>
some l2_m6
def Uu (r:Bool):RV:=⟨false,[(false,[.sc (.bool r)])]⟩
theorem Ch {a0:Int} {a1:Int} {a2:Int} {r:Bool} (h:Di a0 a1 a2=some r):A9 Tryd.prog Tab 35 [ai a0,ai a1,ai a2] (Uu r):=by
 refine A0 (by kernel_rfl) Tryd.func35 W6 (n:=15) (by kernel_rfl) (by simp) (tl:=[(0,ai a0),(1,ai a1),(2,ai a2)]) rfl ?_;unfold Oq;unfold Di at h;refine Al ?_;refine Ba h (fun (l2_m6:Bool) S_=>S_=⟨Am [(6,.bool l2_m6)],Ad (Ar []),2⟩) ?_ ?_
 ·intro v_ h;rcases Ae h with ⟨q3,h⟩ | ⟨q3,h⟩
  ·have q3_:=of_decide_eq_true q3;refine Aa 11 ?_;refine rz0 (ai a0) ?_;refine rz0 (ai a1) ?_;refine rz0 (.bool (decide (a1<=a0))) ?_;refine rz0 (.bool (decide (a1<=a0))) ?_;refine rs0 (ai a0) (zg q3) ?_;refine rs0 (ai a2) (zg q3) ?_;refine rs0 (.bool (decide (a0<=a2))) (zg q3) ?_;refine rs0 (.bool (decide (a0<=a2))) (zT q3) ?_;refine rsB 1 ?_;refine Ay (tn_ ?_);obtain rfl:=zj h;exact ⟨_,Ac [],rfl⟩
  have q3_:=of_decide_eq_false q3;refine Aa 11 ?_;refine rz0 (ai a0) ?_;refine rz0 (ai a1) ?_;refine rz0 (.bool (decide (a1<=a0))) ?_;refine rz0 (.bool (decide (a1<=a0))) ?_;refine zs q3 ?_;refine zs q3 ?_;refine zs q3 ?_;refine rs0 (.bool false) (zF q3) ?_;refine rsB 1 ?_;refine Ay (tn_ ?_);obtain rfl:=zj h;exact ⟨_,Ac [],rfl⟩
 rintro l2_m6 _ rfl h
 (try dsimp only at h);refine Ai ?_;obtain rfl:=zj h;exact Bh [.bool l2_m6] (A1 rfl zl A2)
def Io:AC :=
 (.seq (.seq (rg [xo 7 (qm (tm 3)),xo 8 (qm (tm 3)),xo 9 (qb .mul (tm 7) (tm 8)),xo 10 (qm (tm 0)),xo 11 (qb .leq (tm 9) (tm 10))])
 (.cond (tm 11)
  .skip
  (.exit 0)))
 (.seq (.block 1 (.seq (rg [xo 14 (qm (tm 0)),xo 15 (qm (tm 3)),xo 16 (qb .rem (tm 14) (tm 15)),xo 17 (qb .eql (tm 16) (ci 0))])
 (.cond (tm 17)
  (.seq (rg [xo 2 (qm (cb false))])
  .ret)
  .skip)))
 (rg [xo 12 (qm (tm 3)),xo 13 (qb .add (tm 12) (ci 1)),xo 3 (qm (tm 13))])))
def K7:AC :=
 (.seq (rg [xo 2 (qm (cb false))])
 (.seq (.seq (rg [xo 4 (qm (tm 0)),xo 5 (qc 35 [tm 4,ci 2,ci 97] [[],[],[]]),xo 6 (.i (.not (tm 5)))])
 (.cond (tm 6)
  (.seq (rg [xo 2 (qm (cb false))])
  .ret)
  .skip))
 (.seq (.seq (rg [xo 3 (qm (ci 2))])
 (.block 0 (.loop Io)))
 (.seq (rg [xo 2 (qm (cb true))])
 .ret))))
def Sr:List Res:=[.tmp 2]
theorem Tc:Ap Tryd.prog Tryd.f34=some (K7,Sr):=by kernel_rfl
def C7 (a0:Int) (l9_m3:Nat):Option (Ctl Nat (Ctl Unit Bool)) :=
 cond (decide (wI (((l9_m3:Nat):Int)*((l9_m3:Nat):Int))<=a0))
 (og (((l9_m3:Nat):Int)≠0) <|
 cond ((Int.tmod a0 ((l9_m3:Nat):Int))==0)
  (some (Ctl.out (Ctl.out false)))
  (og (l9_m3+1<4611686018427387904) <|
  some (Ctl.next (l9_m3+1))))
 (some (Ctl.out (Ctl.next ())))
def E7 (a0:Int):Option Bool :=
 Option.bind (Di a0 2 97) fun y4 =>
cond (!y4)
 (some false)
 (Lg (A6 (fun s_:Nat=>C7 a0 s_) 4611686018427387904 2) fun _ =>
 some true)
def P7 (r:Bool):RV:=⟨false,[(false,[.sc (.bool r)])]⟩
theorem D5 {a0:Int} {r:Bool} (h:E7 a0=some r):A9 Tryd.prog Tab 34 [ai a0] (P7 r):=by
 refine A0 (by kernel_rfl) Tryd.func34 Tc (n:=18) (by kernel_rfl) (by simp) (tl:=[(0,ai a0)]) rfl ?_;unfold K7;unfold E7 at h;refine Al ?_;refine Ab ?_;refine Ab ?_;obtain ⟨y4,h4,h⟩:=Af h;refine Aa 5 ?_;refine rz0 (ai a0) ?_;refine zc (.bool y4) [] [ai a0,ai 2,ai 97] (Ch h4) ?_;refine rsB 1 ?_;refine Ay (tn_ ?_);refine wr_ ?_;rcases Ae h with ⟨q5,h⟩ | ⟨q5,h⟩
 ·refine Ag q5 ?_;refine Al ?_;refine Ai (tr_ ?_);obtain rfl:=zj h;exact Bh [.bool false] (A1 rfl zl A2)
 refine Ah q5 ?_;refine Aj (tn_ ?_);refine wr_ ?_;refine Du h (fun (_:Unit) S_=>S_=⟨Am [],Ad (Ar []),2⟩) ?_ ?_
 ·intro v_ h hk7;refine Al ?_;refine Ak ?_;refine A5 h (fun (l9_m3:Nat) S_=>S_=⟨Am [(0,ai a0),(3,ai ((l9_m3:Nat):Int))],Ad (Ar []),2⟩) ⟨_,Ac [],rfl⟩ ?_;rintro n_ l9_m3 _ c_ rfl h hn9
  (try dsimp only at h);unfold C7 at h;unfold Io;refine Ab ?_;refine Al ?_;rcases Ae h with ⟨q12,h⟩ | ⟨q12,h⟩
  ·have q12_:=of_decide_eq_true q12;refine Ag q12 ?_;refine Aj (tn_ ?_);refine wr_ ?_;refine Ab ?_;refine Ak ?_;refine Ab ?_;obtain ⟨g15,h⟩:=Ax h;refine Aa 11 ?_;refine rz0 (ai a0) ?_;refine rz0 (ai ((l9_m3:Nat):Int)) ?_;refine rs0 (ai (Int.tmod a0 ((l9_m3:Nat):Int))) (Nb (k:=.i64) (a:=a0) (b:=((l9_m3:Nat):Int)) (by kernel_rfl) (by kernel_rfl) g15) ?_;refine rsB 1 ?_;refine Ay (tn_ ?_);refine wr_ ?_;rcases Ae h with ⟨q16,h⟩ | ⟨q16,h⟩
   ·refine Ag q16 ?_;refine Al ?_;refine Ai (br_ (tr_ (tr_ (br_ (tr_ ?_)))));obtain rfl:=zj h;have h:=hn9
    (try dsimp only at h);obtain rfl:=zj h;have h:=hk7
    (try dsimp only at h);obtain rfl:=zj h;exact Bh [.bool false] (A1 rfl zl A2)
   refine Ah q16 ?_;refine Aj (bn_ (tn_ ?_));refine wr_ ?_;obtain ⟨g18,h⟩:=Ax h;refine Aa 14 ?_;refine rz0 (ai ((l9_m3:Nat):Int)) ?_;refine rs0 (ai ((l9_m3+1:Nat):Int)) (za g18) ?_;refine rsB 1 ?_;refine Ay (tn_ ?_);obtain rfl:=zj h;exact ⟨l9_m3+1,_,Ac [],rfl,hn9⟩
  have q12_:=of_decide_eq_false q12;refine Ah q12 ?_;refine A3 (te_ (te_ (be_ (tn_ ?_))));obtain rfl:=zj h;have h:=hn9
  (try dsimp only at h);obtain rfl:=zj h;exact ⟨(),_,rfl,Ac [],rfl⟩
 rintro _ _ rfl h
 (try dsimp only at h);refine Al ?_;refine Ai ?_;obtain rfl:=zj h;exact Bh [.bool true] (A1 rfl zl A2)
def I8:AC :=
 (.seq (rg [xo 12 (qb .lss (tm 11) (tm 10))])
 (.seq (.cond (tm 12)
  .skip
  (.exit 0))
 (.seq (.block 1 (.seq (rg [xo 13 (qx 1 (tm 9) (tm 11)),xo 14 (ql (tm 13)),xo 8 (qm (tm 14))])
 (.seq (rg [xo 15 (qm (tm 8)),xo 16 (qm (tm 1)),xo 17 (qm (tm 2)),xo 18 (qc 35 [tm 15,tm 16,tm 17] [[],[],[]]),xo 19 (.i (.not (tm 18)))])
 (.cond (tm 19)
  (.seq (rg [xo 6 (qm (cb false))])
  .ret)
  .skip))))
 (rg [xo 20 (qb .add (tm 11) (ci 1)),xo 11 (qm (tm 20))]))))
def Na:AC :=
 (.seq (rg [xo 6 (qm (cb false))])
 (.seq (.seq (rg [xo 9 (qm (tm 0)),xo 10 (.i (.len (tm 9))),xo 11 (qm (ci 0))])
 (.block 0 (.loop I8)))
 (.seq (rg [xo 6 (qm (cb true))])
 .ret)))
def Vu:List Res:=[.tmp 6]
theorem Vw:Ap Tryd.prog Tryd.f68=some (Na,Vu):=by kernel_rfl
def E9 (a0:List Int) (a1:Int) (a2:Int) (l4_m11:Nat):Option (Ctl Nat (Ctl Unit Bool)) :=
 cond (decide (((l4_m11:Nat):Int)<((a0.length:Nat):Int)))
 (Option.bind (a0[l4_m11]?) fun x10 =>
 Option.bind (Di x10 a1 a2) fun y12 =>
 cond (!y12)
  (some (Ctl.out (Ctl.out false)))
  (og (l4_m11+1<4611686018427387904) <|
  some (Ctl.next (l4_m11+1))))
 (some (Ctl.out (Ctl.next ())))
def Fj (a0:List Int) (a1:Int) (a2:Int):Option Bool :=
 Lg (A6 (fun s_:Nat=>E9 a0 a1 a2 s_) 4611686018427387904 0) fun _ =>
some true
def S5 (r:Bool):RV:=⟨false,[(false,[.sc (.bool r)])]⟩
theorem Sz {a0:List Int} {a1:Int} {a2:Int} {r:Bool} (h:Fj a0 a1 a2=some r):A9 Tryd.prog Tab 68 [.tree .int a0,ai a1,ai a2] (S5 r):=by
 refine A0 (by kernel_rfl) Tryd.func68 Vw (n:=21) (by kernel_rfl) (by simp) (tl:=[(0,.tree .int a0),(1,ai a1),(2,ai a2)]) rfl ?_;unfold Na;unfold Fj at h;refine Al ?_;refine Du h (fun (_:Unit) S_=>S_=⟨Am [],Ad (Ar []),2⟩) ?_ ?_
 ·intro v_ h hk2;refine Al ?_;refine Ak ?_;refine A5 h (fun (l4_m11:Nat) S_=>S_=⟨Am [(1,ai a1),(2,ai a2),(9,.tree .int a0),(10,ai ((a0.length:Nat):Int)),(11,ai ((l4_m11:Nat):Int))],Ad (Ar []),2⟩) ⟨_,Ac [],rfl⟩ ?_;rintro n_ l4_m11 _ c_ rfl h hn4
  (try dsimp only at h);unfold E9 at h;unfold I8;refine Al ?_;refine Ab ?_;rcases Ae h with ⟨q7,h⟩ | ⟨q7,h⟩
  ·have q7_:=of_decide_eq_true q7;refine Ag q7 ?_;refine Aj (tn_ ?_);refine wr_ ?_;refine Ab ?_;refine Ak ?_;refine Ab ?_;obtain ⟨x10,e10,h⟩:=Af h;refine Aa 6 ?_;refine rs0 (.telt none .int x10 0) (zi (t:=.int) (xs:=a0) (k:=.i64) (m:=((l4_m11:Nat):Int)) (Bi _) e10) ?_;refine rsB 2 ?_;refine Ay (tn_ ?_);refine wr_ ?_;refine Ab ?_;obtain ⟨y12,h12,h⟩:=Af h;refine Aa 11 ?_;refine rz0 (ai x10) ?_;refine rz0 (ai a1) ?_;refine rz0 (ai a2) ?_;refine zc (.bool y12) [] [ai x10,ai a1,ai a2] (Ch h12) ?_;refine rsB 1 ?_;refine Ay (tn_ ?_);refine wr_ ?_;rcases Ae h with ⟨q13,h⟩ | ⟨q13,h⟩
   ·refine Ag q13 ?_;refine Al ?_;refine Ai (br_ (tr_ (tr_ (br_ (tr_ ?_)))));obtain rfl:=zj h;have h:=hn4
    (try dsimp only at h);obtain rfl:=zj h;have h:=hk2
    (try dsimp only at h);obtain rfl:=zj h;exact Bh [.bool false] (A1 rfl zl A2)
   refine Ah q13 ?_;refine Aj (bn_ (tn_ ?_));refine wr_ ?_;obtain ⟨g15,h⟩:=Ax h;refine Aa 13 ?_;refine rs0 (ai ((l4_m11+1:Nat):Int)) (za g15) ?_;refine rsB 1 ?_;refine Ay (tn_ ?_);obtain rfl:=zj h;exact ⟨l4_m11+1,_,Ac [],rfl,hn4⟩
  have q7_:=of_decide_eq_false q7;refine Ah q7 ?_;refine A3 (te_ (te_ (be_ (tn_ ?_))));obtain rfl:=zj h;have h:=hn4
  (try dsimp only at h);obtain rfl:=zj h;exact ⟨(),_,rfl,Ac [],rfl⟩
 rintro _ _ rfl h
 (try dsimp only at h);refine Al ?_;refine Ai ?_;obtain rfl:=zj h;exact Bh [.bool true] (A1 rfl zl A2)
def L8:AC :=
 (.seq (rg [xo 2 (qm (.cst .nils))])
 (.seq (rg [xo 3 (.mkS 3 .int []),xo 4 (qm (tm 0)),xo 5 (.append 3 .int 8 (tm 3) (tm 4)),xo 2 (qm (tm 5))])
 .ret))
def V2:List Res:=[.tmp 2]
theorem Vn:Ap Tryd.prog Tryd.f24=some (L8,V2):=by kernel_rfl
theorem Ti:Az Tryd.prog 24=true:=by kernel_rfl
def Et (a0:List Int):Option (List Int) :=
 og (0+a0.length<=1073741824∧(0+a0.length)*8<=140737488355328) <|
some a0
def Tb (r:List Int):RV:=⟨false,[(false,[.new 3 .int r])]⟩
theorem K9 {a0:List Int} {r:List Int} (h:Et a0=some r):A9 Tryd.prog Tab 24 [.tree .int a0] (Tb r):=by
 refine A0 (by kernel_rfl) Tryd.func24 Vn (n:=6) (by kernel_rfl) (by simp) (tl:=[(0,.tree .int a0)]) rfl ?_;unfold L8;unfold Et at h;refine Al ?_;refine Ab ?_;obtain ⟨g3,h⟩:=Ax h;refine Aa 6 ?_;refine rs1 (.own (oi 3 2) .int 0 0) (oi 3 2) (.arr 3 .int []) (by kernel_rfl) ?_;refine rz0 (.tree .int a0) ?_;refine rs2 (.own (oi 3 4) .int 0 a0.length) (oi 3 2) (oi 3 4) (.arr 3 .int a0) (Ab8 (t:=.int) (t':=.int) (xs:=[]) (ys:=a0) (zs:=a0) (j:=oi 3 2) (len:=0) (c:=.tree .int a0) (by kernel_rfl) (by kernel_rfl) rfl (by kernel_rfl) Zl rfl g3) ?_;refine rsB 1 ?_;refine Ay (tn_ ?_);refine wr_ ?_;refine Ai ?_;obtain rfl:=zj h;exact Bh [.own (oi 3 4) .int 0 a0.length] (A1 rfl (Ac0 (by kernel_rfl) rfl) A2)
def Oo:AC :=
 (.seq (rg [xo 4 (qm (cb false))])
 (.seq (rg [xo 5 (qm (tm 1)),xo 6 (qm (tm 0)),xo 7 (qb .sub (tm 6) (ci 1)),xo 8 (qc 68 [tm 5,ci 0,tm 7] [[some .int],[],[]]),xo 4 (qm (tm 8))])
 .ret))
def W9:List Res:=[.tmp 4]
theorem Wi:Ap Tryd.prog Tryd.f59=some (Oo,W9):=by kernel_rfl
theorem U0:Az Tryd.prog 59=true:=by kernel_rfl
def Fw (a0:Int) (a1:List Int):Option Bool :=
 Option.bind (Fj a1 0 (wI (a0 - 1))) fun y3 =>
some y3
def Vz (r:Bool):RV:=⟨false,[(false,[.sc (.bool r)])]⟩
theorem Va {a0:Int} {a1:List Int} {r:Bool} (h:Fw a0 a1=some r):A9 Tryd.prog Tab 59 [ai a0,.tree .int a1] (Vz r):=by
 refine A0 (by kernel_rfl) Tryd.func59 Wi (n:=9) (by kernel_rfl) (by simp) (tl:=[(0,ai a0),(1,.tree .int a1)]) rfl ?_;unfold Oo;unfold Fw at h;refine Al ?_;refine Ab ?_;obtain ⟨y3,h3,h⟩:=Af h;refine Aa 7 ?_;refine rz0 (.tree .int a1) ?_;refine rz0 (ai a0) ?_;refine rz0 (ai (wI (a0 - 1))) ?_;refine zc (.bool y3) [] [.tree .int a1,ai 0,ai (wI (a0 - 1))] (Sz h3) ?_;refine rsB 1 ?_;refine Ay (tn_ ?_);refine wr_ ?_;refine Ai ?_;obtain rfl:=zj h;exact Bh [.bool y3] (A1 rfl zl A2)
def Mn:AC :=
 (.seq (rg [xo 6 (qm (ci 0))])
 (.seq (rg [xo 7 (qm (tm 1)),xo 8 (qm (tm 2)),xo 9 (qb .mul (tm 7) (tm 8)),xo 10 (qm (tm 0)),xo 11 (qb .rem (tm 9) (tm 10)),xo 6 (qm (tm 11))])
 .ret))
def Vp:List Res:=[.tmp 6]
theorem Vk:Ap Tryd.prog Tryd.f53=some (Mn,Vp):=by kernel_rfl
theorem Kz:Az Tryd.prog 53=true:=by kernel_rfl
def Em (a0:Int) (a1:Int) (a2:Int):Option Int :=
 og (a0≠0) <|
some (Int.tmod (wI (a1*a2)) a0)
def Sc (r:Int):RV:=⟨false,[(false,[.sc (.int .i64 r)])]⟩
theorem Le {a0:Int} {a1:Int} {a2:Int} {r:Int} (h:Em a0 a1 a2=some r):A9 Tryd.prog Tab 53 [ai a0,ai a1,ai a2] (Sc r):=by
 refine A0 (by kernel_rfl) Tryd.func53 Vk (n:=12) (by kernel_rfl) (by simp) (tl:=[(0,ai a0),(1,ai a1),(2,ai a2)]) rfl ?_;unfold Mn;unfold Em at h;refine Al ?_;refine Ab ?_;obtain ⟨g3,h⟩:=Ax h;refine Aa 8 ?_;refine rz0 (ai a1) ?_;refine rz0 (ai a2) ?_;refine rz0 (ai (wI (a1*a2))) ?_;refine rz0 (ai a0) ?_;refine rs0 (ai (Int.tmod (wI (a1*a2)) a0)) (Nb (k:=.i64) (a:=wI (a1*a2)) (b:=a0) (by kernel_rfl) (by kernel_rfl) g3) ?_;refine rsB 1 ?_;refine Ay (tn_ ?_);refine wr_ ?_;refine Ai ?_;obtain rfl:=zj h;exact Bh [ai (Int.tmod (wI (a1*a2)) a0)] (A1 rfl zl A2)
def K1:AC :=
 (.seq (rg [xo 6 (qm (cb false))])
 (.seq (rg [xo 7 (qm (tm 0)),xo 8 (qm (tm 1)),xo 9 (qb .geq (tm 7) (tm 8)),xo 10 (qm (tm 9)),⟨some 11,some (10,true),qm (tm 0)⟩,⟨some 12,some (10,true),qm (tm 2)⟩,⟨some 13,some (10,true),qb .leq (tm 11) (tm 12)⟩,xo 14 (.i (.pick (tm 10) (tm 13) (cb false))),xo 6 (qm (tm 14))])
 .ret))
def Ss:List Res:=[.tmp 6]
theorem Sx:Ap Tryd.prog Tryd.f40=some (K1,Ss):=by kernel_rfl
theorem Co:Az Tryd.prog 40=true:=by kernel_rfl
def D0 (a0:Int) (a1:Int) (a2:Int):Option Bool :=
 Option.bind (cond (decide (a1<=a0))
  (some (decide (a0<=a2)))
  (some false)) fun l2_m6 =>
some l2_m6
def Ri (r:Bool):RV:=⟨false,[(false,[.sc (.bool r)])]⟩
theorem Cl {a0:Int} {a1:Int} {a2:Int} {r:Bool} (h:D0 a0 a1 a2=some r):A9 Tryd.prog Tab 40 [ai a0,ai a1,ai a2] (Ri r):=by
 refine A0 (by kernel_rfl) Tryd.func40 Sx (n:=15) (by kernel_rfl) (by simp) (tl:=[(0,ai a0),(1,ai a1),(2,ai a2)]) rfl ?_;unfold K1;unfold D0 at h;refine Al ?_;refine Ba h (fun (l2_m6:Bool) S_=>S_=⟨Am [(6,.bool l2_m6)],Ad (Ar []),2⟩) ?_ ?_
 ·intro v_ h;rcases Ae h with ⟨q3,h⟩ | ⟨q3,h⟩
  ·have q3_:=of_decide_eq_true q3;refine Aa 11 ?_;refine rz0 (ai a0) ?_;refine rz0 (ai a1) ?_;refine rz0 (.bool (decide (a1<=a0))) ?_;refine rz0 (.bool (decide (a1<=a0))) ?_;refine rs0 (ai a0) (zg q3) ?_;refine rs0 (ai a2) (zg q3) ?_;refine rs0 (.bool (decide (a0<=a2))) (zg q3) ?_;refine rs0 (.bool (decide (a0<=a2))) (zT q3) ?_;refine rsB 1 ?_;refine Ay (tn_ ?_);obtain rfl:=zj h;exact ⟨_,Ac [],rfl⟩
  have q3_:=of_decide_eq_false q3;refine Aa 11 ?_;refine rz0 (ai a0) ?_;refine rz0 (ai a1) ?_;refine rz0 (.bool (decide (a1<=a0))) ?_;refine rz0 (.bool (decide (a1<=a0))) ?_;refine zs q3 ?_;refine zs q3 ?_;refine zs q3 ?_;refine rs0 (.bool false) (zF q3) ?_;refine rsB 1 ?_;refine Ay (tn_ ?_);obtain rfl:=zj h;exact ⟨_,Ac [],rfl⟩
 rintro l2_m6 _ rfl h
 (try dsimp only at h);refine Ai ?_;obtain rfl:=zj h;exact Bh [.bool l2_m6] (A1 rfl zl A2)
def Ic:AC :=
 (.seq (rg [xo 4 (qm (cb false))])
 (.seq (rg [xo 5 (qm (tm 1)),xo 6 (qb .geq (tm 5) (ci 0)),xo 7 (qm (tm 6)),⟨some 8,some (7,true),qm (tm 1)⟩,⟨some 9,some (7,true),qm (tm 0)⟩,⟨some 10,some (7,true),qb .lss (tm 8) (tm 9)⟩,xo 11 (.i (.pick (tm 7) (tm 10) (cb false))),xo 4 (qm (tm 11))])
 .ret))
def Od:List Res:=[.tmp 4]
theorem Oe:Ap Tryd.prog Tryd.f69=some (Ic,Od):=by kernel_rfl
def Da (a0:Int) (a1:Int):Option Bool :=
 Option.bind (cond (decide (0<=a1))
  (some (decide (a1<a0)))
  (some false)) fun l2_m4 =>
some l2_m4
def Nc (r:Bool):RV:=⟨false,[(false,[.sc (.bool r)])]⟩
theorem Ms {a0:Int} {a1:Int} {r:Bool} (h:Da a0 a1=some r):A9 Tryd.prog Tab 69 [ai a0,ai a1] (Nc r):=by
 refine A0 (by kernel_rfl) Tryd.func69 Oe (n:=12) (by kernel_rfl) (by simp) (tl:=[(0,ai a0),(1,ai a1)]) rfl ?_;unfold Ic;unfold Da at h;refine Al ?_;refine Ba h (fun (l2_m4:Bool) S_=>S_=⟨Am [(4,.bool l2_m4)],Ad (Ar []),2⟩) ?_ ?_
 ·intro v_ h;rcases Ae h with ⟨q3,h⟩ | ⟨q3,h⟩
  ·have q3_:=of_decide_eq_true q3;refine Aa 10 ?_;refine rz0 (ai a1) ?_;refine rz0 (.bool (decide (0<=a1))) ?_;refine rz0 (.bool (decide (0<=a1))) ?_;refine rs0 (ai a1) (zg q3) ?_;refine rs0 (ai a0) (zg q3) ?_;refine rs0 (.bool (decide (a1<a0))) (zg q3) ?_;refine rs0 (.bool (decide (a1<a0))) (zT q3) ?_;refine rsB 1 ?_;refine Ay (tn_ ?_);obtain rfl:=zj h;exact ⟨_,Ac [],rfl⟩
  have q3_:=of_decide_eq_false q3;refine Aa 10 ?_;refine rz0 (ai a1) ?_;refine rz0 (.bool (decide (0<=a1))) ?_;refine rz0 (.bool (decide (0<=a1))) ?_;refine zs q3 ?_;refine zs q3 ?_;refine zs q3 ?_;refine rs0 (.bool false) (zF q3) ?_;refine rsB 1 ?_;refine Ay (tn_ ?_);obtain rfl:=zj h;exact ⟨_,Ac [],rfl⟩
 rintro l2_m4 _ rfl h
 (try dsimp only at h);refine Ai ?_;obtain rfl:=zj h;exact Bh [.bool l2_m4] (A1 rfl zl A2)
def Hg:AC :=
 (.seq (rg [xo 16 (qb .lss (tm 15) (tm 14))])
 (.seq (.cond (tm 16)
  .skip
  (.exit 0))
 (.seq (.block 1 (.seq (rg [xo 17 (qx 1 (tm 13) (tm 15)),xo 18 (ql (tm 17)),xo 8 (qm (tm 18))])
 (.seq (rg [xo 19 (qm (tm 0)),xo 20 (qm (tm 8)),xo 21 (qc 69 [tm 19,tm 20] [[],[]]),xo 22 (.i (.not (tm 21)))])
 (.cond (tm 22)
  (.seq (rg [xo 6 (qm (cb false))])
  .ret)
  .skip))))
 (rg [xo 23 (qb .add (tm 15) (ci 1)),xo 15 (qm (tm 23))]))))
def Jg:AC :=
 (.seq (rg [xo 6 (qm (cb false))])
 (.seq (.seq (rg [xo 9 (qm (tm 1)),xo 10 (.i (.len (tm 9))),xo 11 (qm (tm 2)),xo 12 (qb .neq (tm 10) (tm 11))])
 (.cond (tm 12)
  (.seq (rg [xo 6 (qm (cb false))])
  .ret)
  .skip))
 (.seq (.seq (rg [xo 13 (qm (tm 1)),xo 14 (.i (.len (tm 13))),xo 15 (qm (ci 0))])
 (.block 0 (.loop Hg)))
 (.seq (rg [xo 6 (qm (cb true))])
 .ret))))
def Po:List Res:=[.tmp 6]
theorem Pj:Ap Tryd.prog Tryd.f61=some (Jg,Po):=by kernel_rfl
def Dn (a1:List Int) (a0:Int) (l8_m15:Nat):Option (Ctl Nat (Ctl Unit Bool)) :=
 cond (decide (((l8_m15:Nat):Int)<((a1.length:Nat):Int)))
 (Option.bind (a1[l8_m15]?) fun x14 =>
 Option.bind (Da a0 x14) fun y16 =>
 cond (!y16)
  (some (Ctl.out (Ctl.out false)))
  (og (l8_m15+1<4611686018427387904) <|
  some (Ctl.next (l8_m15+1))))
 (some (Ctl.out (Ctl.next ())))
def Dt (a0:Int) (a1:List Int) (a2:Int):Option Bool :=
 cond (((a1.length:Nat):Int) !=a2)
 (some false)
 (Lg (A6 (fun s_:Nat=>Dn a1 a0 s_) 4611686018427387904 0) fun _ =>
 some true)
def N6 (r:Bool):RV:=⟨false,[(false,[.sc (.bool r)])]⟩
theorem Ol {a0:Int} {a1:List Int} {a2:Int} {r:Bool} (h:Dt a0 a1 a2=some r):A9 Tryd.prog Tab 61 [ai a0,.tree .int a1,ai a2] (N6 r):=by
 refine A0 (by kernel_rfl) Tryd.func61 Pj (n:=24) (by kernel_rfl) (by simp) (tl:=[(0,ai a0),(1,.tree .int a1),(2,ai a2)]) rfl ?_;unfold Jg;unfold Dt at h;refine Al ?_;refine Ab ?_;refine Al ?_;rcases Ae h with ⟨q4,h⟩ | ⟨q4,h⟩
 ·refine Ag q4 ?_;refine Al ?_;refine Ai (tr_ ?_);obtain rfl:=zj h;exact Bh [.bool false] (A1 rfl zl A2)
 refine Ah q4 ?_;refine Aj (tn_ ?_);refine wr_ ?_;refine Du h (fun (_:Unit) S_=>S_=⟨Am [],Ad (Ar []),2⟩) ?_ ?_
 ·intro v_ h hk6;refine Al ?_;refine Ak ?_;refine A5 h (fun (l8_m15:Nat) S_=>S_=⟨Am [(0,ai a0),(13,.tree .int a1),(14,ai ((a1.length:Nat):Int)),(15,ai ((l8_m15:Nat):Int))],Ad (Ar []),2⟩) ⟨_,Ac [],rfl⟩ ?_;rintro n_ l8_m15 _ c_ rfl h hn8
  (try dsimp only at h);unfold Dn at h;unfold Hg;refine Al ?_;refine Ab ?_;rcases Ae h with ⟨q11,h⟩ | ⟨q11,h⟩
  ·have q11_:=of_decide_eq_true q11;refine Ag q11 ?_;refine Aj (tn_ ?_);refine wr_ ?_;refine Ab ?_;refine Ak ?_;refine Ab ?_;obtain ⟨x14,e14,h⟩:=Af h;refine Aa 6 ?_;refine rs0 (.telt none .int x14 0) (zi (t:=.int) (xs:=a1) (k:=.i64) (m:=((l8_m15:Nat):Int)) (Bi _) e14) ?_;refine rsB 2 ?_;refine Ay (tn_ ?_);refine wr_ ?_;refine Ab ?_;obtain ⟨y16,h16,h⟩:=Af h;refine Aa 10 ?_;refine rz0 (ai a0) ?_;refine rz0 (ai x14) ?_;refine zc (.bool y16) [] [ai a0,ai x14] (Ms h16) ?_;refine rsB 1 ?_;refine Ay (tn_ ?_);refine wr_ ?_;rcases Ae h with ⟨q17,h⟩ | ⟨q17,h⟩
   ·refine Ag q17 ?_;refine Al ?_;refine Ai (br_ (tr_ (tr_ (br_ (tr_ ?_)))));obtain rfl:=zj h;have h:=hn8
    (try dsimp only at h);obtain rfl:=zj h;have h:=hk6
    (try dsimp only at h);obtain rfl:=zj h;exact Bh [.bool false] (A1 rfl zl A2)
   refine Ah q17 ?_;refine Aj (bn_ (tn_ ?_));refine wr_ ?_;obtain ⟨g19,h⟩:=Ax h;refine Aa 12 ?_;refine rs0 (ai ((l8_m15+1:Nat):Int)) (za g19) ?_;refine rsB 1 ?_;refine Ay (tn_ ?_);obtain rfl:=zj h;exact ⟨l8_m15+1,_,Ac [],rfl,hn8⟩
  have q11_:=of_decide_eq_false q11;refine Ah q11 ?_;refine A3 (te_ (te_ (be_ (tn_ ?_))));obtain rfl:=zj h;have h:=hn8
  (try dsimp only at h);obtain rfl:=zj h;exact ⟨(),_,rfl,Ac [],rfl⟩
 rintro _ _ rfl h
 (try dsimp only at h);refine Al ?_;refine Ai ?_;obtain rfl:=zj h;exact Bh [.bool true] (A1 rfl zl A2)
def Q4:AC :=
 (.seq (rg [xo 4 (qm (ci 0))])
 (.seq (rg [xo 5 (qm (tm 1)),xo 6 (qm (tm 0)),xo 7 (qb .rem (tm 5) (tm 6)),xo 1 (qm (tm 7))])
 (.seq (.seq (rg [xo 8 (qm (tm 1)),xo 9 (qb .lss (tm 8) (ci 0))])
 (.cond (tm 9)
  (rg [xo 10 (qm (tm 1)),xo 11 (qm (tm 0)),xo 12 (qb .add (tm 10) (tm 11)),xo 1 (qm (tm 12))])
  .skip))
 (.seq (rg [xo 13 (qm (tm 1)),xo 4 (qm (tm 13))])
 .ret))))
def Xo:List Res:=[.tmp 4]
theorem X4:Ap Tryd.prog Tryd.f62=some (Q4,Xo):=by kernel_rfl
def Ha (a0:Int) (a1:Int):Option Int :=
 og (a0≠0) <|
Option.bind (cond (decide (Int.tmod a1 a0<0))
  (some (wI (Int.tmod a1 a0+a0)))
  (some (Int.tmod a1 a0))) fun l4_m1 =>
some l4_m1
def Xj (r:Int):RV:=⟨false,[(false,[.sc (.int .i64 r)])]⟩
theorem Wo {a0:Int} {a1:Int} {r:Int} (h:Ha a0 a1=some r):A9 Tryd.prog Tab 62 [ai a0,ai a1] (Xj r):=by
 refine A0 (by kernel_rfl) Tryd.func62 X4 (n:=14) (by kernel_rfl) (by simp) (tl:=[(0,ai a0),(1,ai a1)]) rfl ?_;unfold Q4;unfold Ha at h;refine Al ?_;refine Ab ?_;obtain ⟨g3,h⟩:=Ax h;refine Aa 6 ?_;refine rz0 (ai a1) ?_;refine rz0 (ai a0) ?_;refine rs0 (ai (Int.tmod a1 a0)) (Nb (k:=.i64) (a:=a1) (b:=a0) (by kernel_rfl) (by kernel_rfl) g3) ?_;refine rsB 1 ?_;refine Ay (tn_ ?_);refine wr_ ?_;refine Ba h (fun (l4_m1:Int) S_=>S_=⟨Am [(1,ai l4_m1)],Ad (Ar []),2⟩) ?_ ?_
 ·intro v_ h;refine Al ?_;rcases Ae h with ⟨q6,h⟩ | ⟨q6,h⟩
  ·have q6_:=of_decide_eq_true q6;refine Ag q6 ?_;refine Aa 12 ?_;refine rsB 4 ?_;refine Ay (tn_ ?_);obtain rfl:=zj h;exact ⟨_,Ac [],rfl⟩
  have q6_:=of_decide_eq_false q6;refine Ah q6 ?_;refine Aj (tn_ ?_);obtain rfl:=zj h;exact ⟨_,Ac [],rfl⟩
 rintro l4_m1 _ rfl h
 (try dsimp only at h);refine Al ?_;refine Ai ?_;obtain rfl:=zj h;exact Bh [ai l4_m1] (A1 rfl zl A2)
def Mz:AC :=
 (.seq (rg [xo 2 (qm (.cst .nils))])
 (.seq (rg [xo 3 (.mkS 3 .int []),xo 4 (qm (tm 0)),xo 5 (.append 3 .int 8 (tm 3) (tm 4)),xo 2 (qm (tm 5))])
 .ret))
def Uy:List Res:=[.tmp 2]
theorem Ur:Ap Tryd.prog Tryd.f55=some (Mz,Uy):=by kernel_rfl
def Fo (a0:List Int):Option (List Int) :=
 og (0+a0.length<=1073741824∧(0+a0.length)*8<=140737488355328) <|
some a0
def Tg (r:List Int):RV:=⟨false,[(false,[.new 3 .int r])]⟩
theorem S4 {a0:List Int} {r:List Int} (h:Fo a0=some r):A9 Tryd.prog Tab 55 [.tree .int a0] (Tg r):=by
 refine A0 (by kernel_rfl) Tryd.func55 Ur (n:=6) (by kernel_rfl) (by simp) (tl:=[(0,.tree .int a0)]) rfl ?_;unfold Mz;unfold Fo at h;refine Al ?_;refine Ab ?_;obtain ⟨g3,h⟩:=Ax h;refine Aa 6 ?_;refine rs1 (.own (oi 3 2) .int 0 0) (oi 3 2) (.arr 3 .int []) (by kernel_rfl) ?_;refine rz0 (.tree .int a0) ?_;refine rs2 (.own (oi 3 4) .int 0 a0.length) (oi 3 2) (oi 3 4) (.arr 3 .int a0) (Ab8 (t:=.int) (t':=.int) (xs:=[]) (ys:=a0) (zs:=a0) (j:=oi 3 2) (len:=0) (c:=.tree .int a0) (by kernel_rfl) (by kernel_rfl) rfl (by kernel_rfl) Zl rfl g3) ?_;refine rsB 1 ?_;refine Ay (tn_ ?_);refine wr_ ?_;refine Ai ?_;obtain rfl:=zj h;exact Bh [.own (oi 3 4) .int 0 a0.length] (A1 rfl (Ac0 (by kernel_rfl) rfl) A2)
end Go.Proofs.YtehocbbnjfmgaaaDoor
namespace Go.Proofs.YtehocbbnjfmgaaaDoor
open Go.RowKit Go.Deep
end Go.Proofs.YtehocbbnjfmgaaaDoor
namespace Go.Proofs.YtehocbbnjfmgaaaDoor
open Go.RowKit Go.Deep
theorem Ade {f:Nat->AV} {ob:Oid->Option Ob} {d:Option Nat} {gd:Option (Nat×Bool)} {fo y:Opd} {ys:List Opd} {tys:List (List (Option Ty))} {az:List AV} {i p:Oid} {t u:Ty} {off len z m k:Nat} {e1:TypeId} {xss:List (List u.D)} (n j:Nat) (hy:ys[n]? =some y) (he:y.ev f=.agg az) (hj:az[j]? =some (.own i t off len)) (hob:ob i=some (.vec e1 z m (hdL p u xss))) (hk:k<xss.length):kid p k∈rdX f ob ⟨d,gd,.call fo ys tys⟩:=by
 refine List.mem_flatMap.2 ⟨y,List.mem_cons_of_mem _ (List.mem_of_getElem? hy),?_⟩;rw [he];show kid p k∈Gh ob (7+1) (.agg az);unfold Gh;dsimp only;refine List.mem_flatMap.2 ⟨_,List.mem_of_getElem? hj,?_⟩;show kid p k∈Gh ob (6+1) (.own i t off len);unfold Gh;dsimp only;rw [hob];refine List.mem_cons_of_mem _ (List.mem_flatMap.2 ⟨.own (kid p k) u 0 xss[k].length,List.mem_of_getElem? (i:=k) (by rw [Cz,gEg hk]; rfl),?_⟩);exact List.mem_singleton.2 rfl
theorem Rk {f:Nat->AV} {ob:Oid->Option Ob} {d:Option Nat} {gd:Option (Nat×Bool)} {fo y:Opd} {ys:List Opd} {tys:List (List (Option Ty))} (az:List AV) {i p:Oid} {t u:Ty} {off len z m:Nat} {e e1:TypeId} {xss:List (List u.D)} (n j:Nat) (hy:ys[n]? =some y) (he:y.ev f=.agg az) (hj:az[j]? =some (.own i t off len)) (hob:ob i=some (.vec e1 z m (hdL p u xss))) (hr:∀ (k:Nat) (row:List u.D),xss[k]? =some row->ob (kid p k)=some (.arr e u row)) (k:Nat) (row:List u.D) (h:xss[k]? =some row):only (rdX f ob ⟨d,gd,.call fo ys tys⟩) ob (kid p k)=some (.arr e u row):=(P2 (Ade n j hy he hj hob (gSi.1 h).1)).trans (hr k row h)
theorem Z6 {f:Nat->AV} {ob:Oid->Option Ob} {d:Option Nat} {gd:Option (Nat×Bool)} {fo y:Opd} {ys:List Opd} {tys:List (List (Option Ty))} (az:List AV) {i:Oid} {t:Ty} {off len:Nat} (n j:Nat) (hy:ys[n]? =some y) (he:y.ev f=.agg az) (hj:az[j]? =some (.own i t off len)):i∈rdX f ob ⟨d,gd,.call fo ys tys⟩:=by
 refine List.mem_flatMap.2 ⟨y,List.mem_cons_of_mem _ (List.mem_of_getElem? hy),?_⟩;rw [he];show i∈Gh ob (7+1) (.agg az);unfold Gh;dsimp only;refine List.mem_flatMap.2 ⟨_,List.mem_of_getElem? hj,?_⟩;show i∈Gh ob (6+1) (.own i t off len);unfold Gh;dsimp only;split <;> simp
section
variable {n:Nat} {d:Option Nat} {f:Nat->AV} {ob:Oid->Option Ob}
end
end Go.Proofs.YtehocbbnjfmgaaaDoor
namespace Go.Proofs.YtehocbbnjfmgaaaDoor
open Go.RowKit Go.Deep
set_option maxRecDepth 4000
def Je:AC :=
 (.seq (.seq (rg [xo 6 (qm (tm 5)),xo 7 (qm (tm 0)),xo 8 (qb .lss (tm 6) (tm 7))])
 (.cond (tm 8)
  .skip
  (.exit 0)))
 (.seq (.block 1 (.seq (rg [xo 11 (qm (tm 1)),xo 12 (qm (tm 5)),xo 13 (qb .mul (tm 11) (tm 12)),xo 14 (qm (tm 0)),xo 15 (qb .rem (tm 13) (tm 14)),xo 16 (qb .eql (tm 15) (ci 1))])
 (.cond (tm 16)
  (.seq (rg [xo 17 (qm (tm 5)),xo 4 (qm (tm 17))])
  .ret)
  .skip)))
 (rg [xo 9 (qm (tm 5)),xo 10 (qb .add (tm 9) (ci 1)),xo 5 (qm (tm 10))])))
def Mw:AC :=
 (.seq (rg [xo 4 (qm (ci 0))])
 (.seq (.seq (rg [xo 5 (qm (ci 1))])
 (.block 0 (.loop Je)))
 (.seq (rg [xo 4 (qm (ci 0))])
 .ret)))
def Uv:List Res:=[.tmp 4]
theorem Vc:Ap Tryd.prog Tryd.f52=some (Mw,Uv):=by kernel_rfl
theorem Sp:Az Tryd.prog 52=true:=by kernel_rfl
def Jc (a0:Int) (a1:Int) (l4_m5:Nat):Option (Ctl Nat (Ctl Unit Int)) :=
 cond (decide (((l4_m5:Nat):Int)<a0))
 (og (a0≠0) <|
 cond ((Int.tmod (wI (a1*((l4_m5:Nat):Int))) a0)==1)
  (some (Ctl.out (Ctl.out ((l4_m5:Nat):Int))))
  (og (l4_m5+1<4611686018427387904) <|
  some (Ctl.next (l4_m5+1))))
 (some (Ctl.out (Ctl.next ())))
def Fq (a0:Int) (a1:Int):Option Int :=
 Lg (A6 (fun s_:Nat=>Jc a0 a1 s_) 4611686018427387904 1) fun _ =>
some 0
def Td (r:Int):RV:=⟨false,[(false,[.sc (.int .i64 r)])]⟩
theorem Sy {a0:Int} {a1:Int} {r:Int} (h:Fq a0 a1=some r):A9 Tryd.prog Tab 52 [ai a0,ai a1] (Td r):=by
 refine A0 (by kernel_rfl) Tryd.func52 Vc (n:=18) (by kernel_rfl) (by simp) (tl:=[(0,ai a0),(1,ai a1)]) rfl ?_;unfold Mw;unfold Fq at h;refine Al ?_;refine Du h (fun (_:Unit) S_=>S_=⟨Am [],Ad (Ar []),2⟩) ?_ ?_
 ·intro v_ h hk2;refine Al ?_;refine Ak ?_;refine A5 h (fun (l4_m5:Nat) S_=>S_=⟨Am [(0,ai a0),(1,ai a1),(5,ai ((l4_m5:Nat):Int))],Ad (Ar []),2⟩) ⟨_,Ac [],rfl⟩ ?_;rintro n_ l4_m5 _ c_ rfl h hn4
  (try dsimp only at h);unfold Jc at h;unfold Je;refine Ab ?_;refine Al ?_;rcases Ae h with ⟨q7,h⟩ | ⟨q7,h⟩
  ·have q7_:=of_decide_eq_true q7;refine Ag q7 ?_;refine Aj (tn_ ?_);refine wr_ ?_;refine Ab ?_;refine Ak ?_;refine Ab ?_;obtain ⟨g10,h⟩:=Ax h;refine Aa 11 ?_;refine rz0 (ai a1) ?_;refine rz0 (ai ((l4_m5:Nat):Int)) ?_;refine rz0 (ai (wI (a1*((l4_m5:Nat):Int)))) ?_;refine rz0 (ai a0) ?_;refine rs0 (ai (Int.tmod (wI (a1*((l4_m5:Nat):Int))) a0)) (Nb (k:=.i64) (a:=wI (a1*((l4_m5:Nat):Int))) (b:=a0) (by kernel_rfl) (by kernel_rfl) g10) ?_;refine rsB 1 ?_;refine Ay (tn_ ?_);refine wr_ ?_;rcases Ae h with ⟨q11,h⟩ | ⟨q11,h⟩
   ·refine Ag q11 ?_;refine Al ?_;refine Ai (br_ (tr_ (tr_ (br_ (tr_ ?_)))));obtain rfl:=zj h;have h:=hn4
    (try dsimp only at h);obtain rfl:=zj h;have h:=hk2
    (try dsimp only at h);obtain rfl:=zj h;exact Bh [ai ((l4_m5:Nat):Int)] (A1 rfl zl A2)
   refine Ah q11 ?_;refine Aj (bn_ (tn_ ?_));refine wr_ ?_;obtain ⟨g13,h⟩:=Ax h;refine Aa 14 ?_;refine rz0 (ai ((l4_m5:Nat):Int)) ?_;refine rs0 (ai ((l4_m5+1:Nat):Int)) (za g13) ?_;refine rsB 1 ?_;refine Ay (tn_ ?_);obtain rfl:=zj h;exact ⟨l4_m5+1,_,Ac [],rfl,hn4⟩
  have q7_:=of_decide_eq_false q7;refine Ah q7 ?_;refine A3 (te_ (te_ (be_ (tn_ ?_))));obtain rfl:=zj h;have h:=hn4
  (try dsimp only at h);obtain rfl:=zj h;exact ⟨(),_,rfl,Ac [],rfl⟩
 rintro _ _ rfl h
 (try dsimp only at h);refine Al ?_;refine Ai ?_;obtain rfl:=zj h;exact Bh [ai 0] (A1 rfl zl A2)
def Mv:AC :=
 (.seq (rg [xo 6 (qm (ci 0))])
 (.seq (rg [xo 7 (qm (tm 1)),xo 8 (qm (tm 0)),xo 9 (qb .add (tm 7) (tm 8)),xo 10 (qm (tm 2)),xo 11 (qb .sub (tm 9) (tm 10)),xo 12 (qm (tm 0)),xo 13 (qb .rem (tm 11) (tm 12)),xo 6 (qm (tm 13))])
 .ret))
def Ul:List Res:=[.tmp 6]
theorem V4:Ap Tryd.prog Tryd.f54=some (Mv,Ul):=by kernel_rfl
theorem Sv:Az Tryd.prog 54=true:=by kernel_rfl
def Fk (a0:Int) (a1:Int) (a2:Int):Option Int :=
 og (a0≠0) <|
some (Int.tmod (wI ((wI (a1+a0)) - a2)) a0)
def Sq (r:Int):RV:=⟨false,[(false,[.sc (.int .i64 r)])]⟩
theorem Sk {a0:Int} {a1:Int} {a2:Int} {r:Int} (h:Fk a0 a1 a2=some r):A9 Tryd.prog Tab 54 [ai a0,ai a1,ai a2] (Sq r):=by
 refine A0 (by kernel_rfl) Tryd.func54 V4 (n:=14) (by kernel_rfl) (by simp) (tl:=[(0,ai a0),(1,ai a1),(2,ai a2)]) rfl ?_;unfold Mv;unfold Fk at h;refine Al ?_;refine Ab ?_;obtain ⟨g3,h⟩:=Ax h;refine Aa 10 ?_;refine rz0 (ai a1) ?_;refine rz0 (ai a0) ?_;refine rz0 (ai (wI (a1+a0))) ?_;refine rz0 (ai a2) ?_;refine rz0 (ai (wI ((wI (a1+a0)) - a2))) ?_;refine rz0 (ai a0) ?_;refine rs0 (ai (Int.tmod (wI ((wI (a1+a0)) - a2)) a0)) (Nb (k:=.i64) (a:=wI ((wI (a1+a0)) - a2)) (b:=a0) (by kernel_rfl) (by kernel_rfl) g3) ?_;refine rsB 1 ?_;refine Ay (tn_ ?_);refine wr_ ?_;refine Ai ?_;obtain rfl:=zj h;exact Bh [ai (Int.tmod (wI ((wI (a1+a0)) - a2)) a0)] (A1 rfl zl A2)
def Ib:AC :=
 (.seq (rg [xo 12 (qb .lss (tm 11) (tm 10))])
 (.seq (.cond (tm 12)
  .skip
  (.exit 0))
 (.seq (.block 1 (.seq (rg [xo 13 (qm (tm 11)),xo 8 (qm (tm 13))])
 (.region [xo 14 (qm (tm 1)),xo 15 (qm (tm 8)),xo 16 (qm (tm 0)),xo 17 (qm (tm 1)),xo 18 (qm (tm 8)),xo 19 (qx 1 (tm 17) (tm 18)),xo 20 (ql (tm 19)),xo 21 (qm (tm 0)),xo 22 (qm (tm 3)),xo 23 (qm (tm 2)),xo 24 (qm (tm 8)),xo 25 (qx 1 (tm 23) (tm 24)),xo 26 (ql (tm 25)),xo 27 (qc 53 [tm 21,tm 22,tm 26] [[],[],[]]),xo 28 (qc 54 [tm 16,tm 20,tm 27] [[],[],[]]),xo 29 (qx 1 (tm 14) (tm 15)),xn (qs (tm 29) (tm 28))] true [(6,13)])))
 (rg [xo 30 (qb .add (tm 11) (ci 1)),xo 11 (qm (tm 30))]))))
def K8:AC :=
 (.seq (rg [xo 9 (qm (tm 1)),xo 10 (.i (.len (tm 9))),xo 11 (qm (ci 0))])
 (.block 0 (.loop Ib)))
def Sh:List Res:=[]
theorem S7:Ap Tryd.prog Tryd.f60=some (K8,Sh):=by kernel_rfl
theorem R3:Az Tryd.prog 60=true:=by kernel_rfl
def Es (n_a1:Nat) (a2:List Int) (a0:Int) (a3:Int) (l3_m11:Nat) (l3_m1:List Int):Option (Ctl (Nat×List Int) (List Int)) :=
 cond (decide (((l3_m11:Nat):Int)<((n_a1:Nat):Int)))
 (Option.bind (l3_m1[l3_m11]?) fun x9 =>
 Option.bind (a2[l3_m11]?) fun x10 =>
 Option.bind (Em a0 a3 x10) fun y11 =>
 Option.bind (Fk a0 x9 y11) fun y12 =>
 og (l3_m11+1<4611686018427387904) <|
 some (Ctl.next (l3_m11+1,l3_m1.set l3_m11 y12)))
 (some (Ctl.out l3_m1))
def E2 (a0:Int) (a1:List Int) (a2:List Int) (a3:Int):Option (List Int) :=
 A6 (fun s_:Nat×List Int=>Es (a1.length) a2 a0 a3 s_.1 s_.2) 4611686018427387904 (0,a1)
theorem Rn {a0:Int} {a1:List Int} {a2:List Int} {a3:Int} {r:List Int} (h:E2 a0 a1 a2 a3=some r) {n_a1:Nat} (hn_a1:n_a1=a1.length):Ea Tryd.prog Tab 60 [ai a0,.own (oi 0 0) .int 0 n_a1,.tree .int a2,ai a3] [(oi 0 0,.arr 3 .int a1)] (.tup []) [(oi 0 0,.arr 3 .int r)]:=by
 refine B6 (by kernel_rfl) Tryd.func60 S7 (n:=31) (by kernel_rfl) (by simp) (tl:=[(0,ai a0),(1,.own (oi 0 0) .int 0 n_a1),(2,.tree .int a2),(3,ai a3)]) rfl (by kernel_rfl) ⟨trivial,trivial⟩ ⟨trivial,trivial⟩ ?_;unfold K8;unfold E2 at h
 (try rw [← hn_a1] at h)
 refine Al ?_;refine Ak ?_;refine A5 h (fun t_ S_=>∃ (l3_m11:Nat),∃ (l3_m1:List Int),t_=(l3_m11,l3_m1)∧S_=⟨Am [(0,ai a0),(1,.own (oi 0 0) .int 0 l3_m1.length),(2,.tree .int a2),(3,ai a3),(10,ai ((n_a1:Nat):Int)),(11,ai ((l3_m11:Nat):Int))],Ad (Ar [(oi 0 0,.arr 3 .int l3_m1)]),2⟩) ⟨_,(B4 1 (.own (oi 0 0) .int 0 n_a1) (.own (oi 0 0) .int 0 a1.length) (by kernel_rfl) (congrArg (fun z_=>((.own (oi 0 0) .int 0 z_):AV)) (hn_a1:n_a1=a1.length))).trans (Ac []),⟨0,a1,rfl,rfl⟩⟩ ?_;rintro n_ _ _ c_ ⟨l3_m11,l3_m1,rfl,rfl⟩ h hn3
 (try dsimp only at h);unfold Es at h;unfold Ib;refine Al ?_;refine Ab ?_;rcases Ae h with ⟨q6,h⟩ | ⟨q6,h⟩
 ·have q6_:=of_decide_eq_true q6;refine Ag q6 ?_;refine Aj (tn_ ?_);refine wr_ ?_;refine Ab ?_;refine Ak ?_;refine Al ?_;obtain ⟨x9,e9,h⟩:=Af h;obtain ⟨x10,e10,h⟩:=Af h;obtain ⟨y11,h11,h⟩:=Af h;obtain ⟨y12,h12,h⟩:=Af h;refine Bc 22 ?_;refine dz0 (.own (oi 0 0) .int 0 l3_m1.length) ?_;refine dz0 (ai ((l3_m11:Nat):Int)) ?_;refine dz0 (ai a0) ?_;refine dz0 (.own (oi 0 0) .int 0 l3_m1.length) ?_;refine dz0 (ai ((l3_m11:Nat):Int)) ?_;refine ds0 (.elt (oi 0 0) l3_m11 0) (zo (t:=.int) (o:=oi 0 0) (len:=l3_m1.length) (k:=.i64) (m:=((l3_m11:Nat):Int)) (Bi _) (Be e9)) ?_;refine dsl (ai x9) (Mh (i:=oi 0 0) (j:=l3_m11) (k:=0) (e:=3) (t:=.int) (xs:=l3_m1) (by kernel_rfl) (by kernel_rfl) e9 (by kernel_rfl)) ?_;refine dz0 (ai a0) ?_;refine dz0 (ai a3) ?_;refine dz0 (.tree .int a2) ?_;refine dz0 (ai ((l3_m11:Nat):Int)) ?_;refine ds0 (.telt none .int x10 0) (zi (t:=.int) (xs:=a2) (k:=.i64) (m:=((l3_m11:Nat):Int)) (Bi _) e10) ?_;refine dz0 (ai x10) ?_;refine Ev (ai y11) [] [ai a0,ai a3,ai x10] _ (caps:=[]) (args0:=[ai a0,ai a3,ai x10]) trivial (by kernel_rfl) (Le h11) Kz ?_;refine Ev (ai y12) [] [ai a0,ai x9,ai y11] _ (caps:=[]) (args0:=[ai a0,ai x9,ai y11]) trivial (by kernel_rfl) (Sk h12) Sv ?_;refine ds0 (.elt (oi 0 0) l3_m11 0) (zo (t:=.int) (o:=oi 0 0) (len:=l3_m1.length) (k:=.i64) (m:=((l3_m11:Nat):Int)) (Bi _) (Be e9)) ?_;refine Abb (oi 0 0) (oi 0 0) (.arr 3 .int (l3_m1.set l3_m11 y12)) (Z2 (i:=oi 0 0) (j:=l3_m11) (k:=0) (e:=3) (t:=.int) (xs:=l3_m1) (cs:=[ai y12]) (x1:=y12) (by kernel_rfl) (by kernel_rfl) e9 (by kernel_rfl) (by kernel_rfl)) ?_;refine Lo (B8 (by kernel_rfl)) (bn_ (tn_ ?_));refine wr_ ?_;obtain ⟨g13,h⟩:=Ax h;refine Aa 24 ?_;refine rs0 (ai ((l3_m11+1:Nat):Int)) (za g13) ?_;refine rsB 1 ?_;refine Ay (tn_ ?_);obtain rfl:=zj h;exact ⟨(l3_m11+1,l3_m1.set l3_m11 y12),_,(B4 1 (.own (oi 0 0) .int 0 l3_m1.length) (.own (oi 0 0) .int 0 ((l3_m1.set l3_m11 y12).length)) (by kernel_rfl) (congrArg (fun z_=>((.own (oi 0 0) .int 0 z_):AV)) (((rfl:l3_m1.length=l3_m1.length).trans List.length_set.symm):l3_m1.length=(l3_m1.set l3_m11 y12).length))).trans (Ac []),⟨l3_m11+1,l3_m1.set l3_m11 y12,rfl,rfl⟩,hn3⟩
 have q6_:=of_decide_eq_false q6;refine Ah q6 ?_;refine A3 (te_ (te_ (be_ ?_)));obtain rfl:=zj h;have h:=hn3
 (try dsimp only at h);obtain rfl:=zj h;exact Gg [] (Ac (tl:=[]) (g:=2) [])
def Jd:AC :=
 (.seq (.seq (rg [xo 10 (qm (tm 2)),xo 11 (qb .gtr (tm 10) (ci 0))])
 (.cond (tm 11)
  .skip
  (.exit 0)))
 (.seq (.block 1 (.seq (.seq (rg [xo 14 (qm (tm 2)),xo 15 (qb .rem (tm 14) (ci 2)),xo 16 (qb .eql (tm 15) (ci 1))])
 (.cond (tm 16)
  (rg [xo 17 (qm (tm 7)),xo 18 (qm (tm 1)),xo 19 (qb .mul (tm 17) (tm 18)),xo 20 (qm (tm 0)),xo 21 (qb .rem (tm 19) (tm 20)),xo 7 (qm (tm 21))])
  .skip))
 (rg [xo 22 (qm (tm 1)),xo 23 (qm (tm 1)),xo 24 (qb .mul (tm 22) (tm 23)),xo 25 (qm (tm 0)),xo 26 (qb .rem (tm 24) (tm 25)),xo 1 (qm (tm 26))])))
 (rg [xo 12 (qm (tm 2)),xo 13 (qb .quo (tm 12) (ci 2)),xo 2 (qm (tm 13))])))
def Mr:AC :=
 (.seq (rg [xo 6 (qm (ci 0))])
 (.seq (rg [xo 8 (qm (tm 0)),xo 9 (qb .rem (ci 1) (tm 8)),xo 7 (qm (tm 9))])
 (.seq (.block 0 (.loop Jd))
 (.seq (rg [xo 27 (qm (tm 7)),xo 6 (qm (tm 27))])
 .ret))))
def Ux:List Res:=[.tmp 6]
theorem Vy:Ap Tryd.prog Tryd.f63=some (Mr,Ux):=by kernel_rfl
def I9 (a0:Int) (l5_m1:Int) (l5_m2:Int) (l5_m7:Int):Option (Ctl (Int×Int×Int) Int) :=
 cond (decide (0<l5_m2))
 (Option.bind (cond ((Int.tmod l5_m2 2)==1)
   (og (a0≠0) <|
   some (Int.tmod (wI (l5_m7*l5_m1)) a0))
   (some l5_m7)) fun l10_m7 =>
 og (a0≠0) <|
 some (Ctl.next (Int.tmod (wI (l5_m1*l5_m1)) a0,wI (Int.tdiv l5_m2 2),l10_m7)))
 (some (Ctl.out l5_m7))
def I5 (a0:Int) (a1:Int) (a2:Int):Option Int :=
 og (a0≠0) <|
Option.bind (A6 (fun s_:Int×Int×Int=>I9 a0 s_.1 s_.2.1 s_.2.2) 4611686018427387904 (a1,a2,Int.tmod 1 a0)) fun l4_m7 =>
some l4_m7
def So (r:Int):RV:=⟨false,[(false,[.sc (.int .i64 r)])]⟩
theorem Ta {a0:Int} {a1:Int} {a2:Int} {r:Int} (h:I5 a0 a1 a2=some r):A9 Tryd.prog Tab 63 [ai a0,ai a1,ai a2] (So r):=by
 refine A0 (by kernel_rfl) Tryd.func63 Vy (n:=28) (by kernel_rfl) (by simp) (tl:=[(0,ai a0),(1,ai a1),(2,ai a2)]) rfl ?_;unfold Mr;unfold I5 at h;refine Al ?_;refine Ab ?_;obtain ⟨g3,h⟩:=Ax h;refine Aa 5 ?_;refine rz0 (ai a0) ?_;refine rs0 (ai (Int.tmod 1 a0)) (Nb (k:=.i64) (a:=1) (b:=a0) (by kernel_rfl) (by kernel_rfl) g3) ?_;refine rsB 1 ?_;refine Ay (tn_ ?_);refine wr_ ?_;refine Ba h (fun (l4_m7:Int) S_=>S_=⟨Am [(7,ai l4_m7)],Ad (Ar []),2⟩) ?_ ?_
 ·intro v_ h;refine Ak ?_;refine A5 h (fun t_ S_=>∃ (l5_m1:Int),∃ (l5_m2:Int),∃ (l5_m7:Int),t_=(l5_m1,l5_m2,l5_m7)∧S_=⟨Am [(0,ai a0),(1,ai l5_m1),(2,ai l5_m2),(7,ai l5_m7)],Ad (Ar []),2⟩) ⟨_,Ac [],⟨a1,a2,Int.tmod 1 a0,rfl,rfl⟩⟩ ?_;rintro n_ _ _ c_ ⟨l5_m1,l5_m2,l5_m7,rfl,rfl⟩ h hn5
  (try dsimp only at h);unfold I9 at h;unfold Jd;refine Ab ?_;refine Al ?_;rcases Ae h with ⟨q8,h⟩ | ⟨q8,h⟩
  ·have q8_:=of_decide_eq_true q8;refine Ag q8 ?_;refine Aj (tn_ ?_);refine wr_ ?_;refine Ab ?_;refine Ak ?_;refine Ba h (fun (l10_m7:Int) S_=>S_=⟨Am [(0,ai a0),(1,ai l5_m1),(2,ai l5_m2),(7,ai l10_m7)],Ad (Ar []),2⟩) ?_ ?_
   ·intro v_ h;refine Ab ?_;refine Aa 7 ?_;refine rz0 (ai l5_m2) ?_;refine rs0 (ai (Int.tmod l5_m2 2)) (Nb (k:=.i64) (a:=l5_m2) (b:=2) (by kernel_rfl) (by kernel_rfl) (by decide)) ?_;refine rsB 1 ?_;refine Ay (tn_ ?_);refine wr_ ?_;rcases Ae h with ⟨q12,h⟩ | ⟨q12,h⟩
    ·refine Ag q12 ?_;obtain ⟨g13,h⟩:=Ax h;refine Aa 13 ?_;refine rz0 (ai l5_m7) ?_;refine rz0 (ai l5_m1) ?_;refine rz0 (ai (wI (l5_m7*l5_m1))) ?_;refine rz0 (ai a0) ?_;refine rs0 (ai (Int.tmod (wI (l5_m7*l5_m1)) a0)) (Nb (k:=.i64) (a:=wI (l5_m7*l5_m1)) (b:=a0) (by kernel_rfl) (by kernel_rfl) g13) ?_;refine rsB 1 ?_;refine Ay (tn_ ?_);obtain rfl:=zj h;exact ⟨_,Ac [],rfl⟩
    refine Ah q12 ?_;refine Aj (tn_ ?_);obtain rfl:=zj h;exact ⟨_,Ac [],rfl⟩
   rintro l10_m7 _ rfl h
   (try dsimp only at h);obtain ⟨g14,h⟩:=Ax h;refine Aa 8 ?_;refine rz0 (ai l5_m1) ?_;refine rz0 (ai l5_m1) ?_;refine rz0 (ai (wI (l5_m1*l5_m1))) ?_;refine rz0 (ai a0) ?_;refine rs0 (ai (Int.tmod (wI (l5_m1*l5_m1)) a0)) (Nb (k:=.i64) (a:=wI (l5_m1*l5_m1)) (b:=a0) (by kernel_rfl) (by kernel_rfl) g14) ?_;refine rsB 1 ?_;refine Ay (bn_ (tn_ ?_));refine wr_ ?_;refine Aa 11 ?_;refine rz0 (ai l5_m2) ?_;refine rs0 (ai (wI (Int.tdiv l5_m2 2))) (Af4 (k:=.i64) (a:=l5_m2) (b:=2) (by kernel_rfl) (by kernel_rfl) (by decide)) ?_;refine rsB 1 ?_;refine Ay (tn_ ?_);obtain rfl:=zj h;exact ⟨(Int.tmod (wI (l5_m1*l5_m1)) a0,wI (Int.tdiv l5_m2 2),l10_m7),_,Ac [],⟨Int.tmod (wI (l5_m1*l5_m1)) a0,wI (Int.tdiv l5_m2 2),l10_m7,rfl,rfl⟩,hn5⟩
  have q8_:=of_decide_eq_false q8;refine Ah q8 ?_;refine A3 (te_ (te_ (be_ (tn_ ?_))));obtain rfl:=zj h;have h:=hn5
  (try dsimp only at h);obtain rfl:=zj h;exact ⟨_,Ac [],rfl⟩
 rintro l4_m7 _ rfl h
 (try dsimp only at h);refine Al ?_;refine Ai ?_;obtain rfl:=zj h;exact Bh [ai l4_m7] (A1 rfl zl A2)
def Qs:AC :=
 (.seq (rg [xo 2 (qm (ci 0))])
 (.seq (.seq (rg [xo 3 (qm (tm 0))])
 (.cond (tm 3)
  (.seq (rg [xo 2 (qm (ci 1))])
  .ret)
  .skip))
 (.seq (rg [xo 2 (qm (ci 0))])
 .ret)))
def X1:List Res:=[.tmp 2]
theorem Ym:Ap Tryd.prog Tryd.f64=some (Qs,X1):=by kernel_rfl
def Lk (a0:Bool):Option Int :=
 cond a0
 (some 1)
 (some 0)
def Wv (r:Int):RV:=⟨false,[(false,[.sc (.int .i64 r)])]⟩
theorem Wr {a0:Bool} {r:Int} (h:Lk a0=some r):A9 Tryd.prog Tab 64 [.bool a0] (Wv r):=by
 refine A0 (by kernel_rfl) Tryd.func64 Ym (n:=4) (by kernel_rfl) (by simp) (tl:=[(0,.bool a0)]) rfl ?_;unfold Qs;unfold Lk at h;refine Al ?_;refine Ab ?_;refine Al ?_;rcases Ae h with ⟨q4,h⟩ | ⟨q4,h⟩
 ·refine Ag q4 ?_;refine Al ?_;refine Ai (tr_ ?_);obtain rfl:=zj h;exact Bh [ai 1] (A1 rfl zl A2)
 refine Ah q4 ?_;refine Aj (tn_ ?_);refine wr_ ?_;refine Al ?_;refine Ai ?_;obtain rfl:=zj h;exact Bh [ai 0] (A1 rfl zl A2)
def Js:AC :=
 (.seq (rg [xo 4 (qm (ci 0))])
 (.seq (rg [xo 5 (qm (tm 0)),xo 6 (qm (tm 1)),xo 7 (qm (tm 0)),xo 8 (qb .sub (tm 7) (ci 2)),xo 9 (qm (tm 0)),xo 10 (qb .eql (tm 9) (ci 2)),xo 11 (qc 64 [tm 10] [[]]),xo 12 (qb .add (tm 8) (tm 11)),xo 13 (qc 63 [tm 5,tm 6,tm 12] [[],[],[]]),xo 4 (qm (tm 13))])
 .ret))
def Rw:List Res:=[.tmp 4]
theorem R0:Ap Tryd.prog Tryd.f45=some (Js,Rw):=by kernel_rfl
theorem Pd:Az Tryd.prog 45=true:=by kernel_rfl
def Eg (a0:Int) (a1:Int):Option Int :=
 Option.bind (Lk (a0==2)) fun y3 =>
Option.bind (I5 a0 a1 (wI (wI (a0 - 2)+y3))) fun y4 =>
some y4
def O9 (r:Int):RV:=⟨false,[(false,[.sc (.int .i64 r)])]⟩
theorem O2 {a0:Int} {a1:Int} {r:Int} (h:Eg a0 a1=some r):A9 Tryd.prog Tab 45 [ai a0,ai a1] (O9 r):=by
 refine A0 (by kernel_rfl) Tryd.func45 R0 (n:=14) (by kernel_rfl) (by simp) (tl:=[(0,ai a0),(1,ai a1)]) rfl ?_;unfold Js;unfold Eg at h;refine Al ?_;refine Ab ?_;obtain ⟨y3,h3,h⟩:=Af h;obtain ⟨y4,h4,h⟩:=Af h;refine Aa 12 ?_;refine rz0 (ai a0) ?_;refine rz0 (ai a1) ?_;refine rz0 (ai a0) ?_;refine rz0 (ai (wI (a0 - 2))) ?_;refine rz0 (ai a0) ?_;refine rz0 (.bool (a0==2)) ?_;refine zc (ai y3) [] [.bool (a0==2)] (Wr h3) ?_;refine rz0 (ai (wI (wI (a0 - 2)+y3))) ?_;refine zc (ai y4) [] [ai a0,ai a1,ai (wI (wI (a0 - 2)+y3))] (Ta h4) ?_;refine rsB 1 ?_;refine Ay (tn_ ?_);refine wr_ ?_;refine Ai ?_;obtain rfl:=zj h;exact Bh [ai y4] (A1 rfl zl A2)
def G4:AC :=
 (.seq (rg [xo 13 (qb .lss (tm 12) (tm 11))])
 (.seq (.cond (tm 13)
  .skip
  (.exit 0))
 (.seq (.block 1 (.seq (rg [xo 14 (qm (tm 12)),xo 15 (qx 1 (tm 10) (tm 12)),xo 16 (ql (tm 15)),xo 8 (qm (tm 14)),xo 9 (qm (tm 16))])
 (rg [xo 17 (qm (tm 1)),xo 18 (qm (tm 8)),xo 19 (qm (tm 0)),xo 20 (qm (tm 1)),xo 21 (qm (tm 8)),xo 22 (qx 1 (tm 20) (tm 21)),xo 23 (ql (tm 22)),xo 24 (qm (tm 2)),xo 25 (qm (tm 9)),xo 26 (qb .mul (tm 24) (tm 25)),xo 27 (qb .add (tm 23) (tm 26)),xo 28 (qc 62 [tm 19,tm 27] [[],[]]),xo 29 (qx 1 (tm 17) (tm 18)),xn (qs (tm 29) (tm 28))])))
 (rg [xo 30 (qb .add (tm 12) (ci 1)),xo 12 (qm (tm 30))]))))
def Jb:AC :=
 (.seq (rg [xo 10 (qm (tm 3)),xo 11 (.i (.len (tm 10))),xo 12 (qm (ci 0))])
 (.block 0 (.loop G4)))
def Ph:List Res:=[]
theorem O5:Ap Tryd.prog Tryd.f44=some (Jb,Ph):=by kernel_rfl
theorem Of:Az Tryd.prog 44=true:=by kernel_rfl
def Dk (a3:List Int) (a0:Int) (a2:Int) (l3_m12:Nat) (l3_m1:List Int):Option (Ctl (Nat×List Int) (List Int)) :=
 cond (decide (((l3_m12:Nat):Int)<((a3.length:Nat):Int)))
 (Option.bind (a3[l3_m12]?) fun x9 =>
 Option.bind (l3_m1[l3_m12]?) fun x10 =>
 Option.bind (Ha a0 (wI (x10+wI (a2*x9)))) fun y11 =>
 og (l3_m12+1<4611686018427387904) <|
 some (Ctl.next (l3_m12+1,l3_m1.set l3_m12 y11)))
 (some (Ctl.out l3_m1))
def Cw (a0:Int) (a1:List Int) (a2:Int) (a3:List Int):Option (List Int) :=
 A6 (fun s_:Nat×List Int=>Dk a3 a0 a2 s_.1 s_.2) 4611686018427387904 (0,a1)
theorem Nt {a0:Int} {a1:List Int} {a2:Int} {a3:List Int} {r:List Int} (h:Cw a0 a1 a2 a3=some r) {n_a1:Nat} (hn_a1:n_a1=a1.length):Ea Tryd.prog Tab 44 [ai a0,.own (oi 0 0) .int 0 n_a1,ai a2,.tree .int a3] [(oi 0 0,.arr 3 .int a1)] (.tup []) [(oi 0 0,.arr 3 .int r)]:=by
 refine B6 (by kernel_rfl) Tryd.func44 O5 (n:=31) (by kernel_rfl) (by simp) (tl:=[(0,ai a0),(1,.own (oi 0 0) .int 0 n_a1),(2,ai a2),(3,.tree .int a3)]) rfl (by kernel_rfl) ⟨trivial,trivial⟩ ⟨trivial,trivial⟩ ?_;unfold Jb;unfold Cw at h;refine Al ?_;refine Ak ?_;refine A5 h (fun t_ S_=>∃ (l3_m12:Nat),∃ (l3_m1:List Int),t_=(l3_m12,l3_m1)∧S_=⟨Am [(0,ai a0),(1,.own (oi 0 0) .int 0 l3_m1.length),(2,ai a2),(10,.tree .int a3),(11,ai ((a3.length:Nat):Int)),(12,ai ((l3_m12:Nat):Int))],Ad (Ar [(oi 0 0,.arr 3 .int l3_m1)]),2⟩) ⟨_,(B4 1 (.own (oi 0 0) .int 0 n_a1) (.own (oi 0 0) .int 0 a1.length) (by kernel_rfl) (congrArg (fun z_=>((.own (oi 0 0) .int 0 z_):AV)) (hn_a1:n_a1=a1.length))).trans (Ac []),⟨0,a1,rfl,rfl⟩⟩ ?_;rintro n_ _ _ c_ ⟨l3_m12,l3_m1,rfl,rfl⟩ h hn3
 (try dsimp only at h);unfold Dk at h;unfold G4;refine Al ?_;refine Ab ?_;rcases Ae h with ⟨q6,h⟩ | ⟨q6,h⟩
 ·have q6_:=of_decide_eq_true q6;refine Ag q6 ?_;refine Aj (tn_ ?_);refine wr_ ?_;refine Ab ?_;refine Ak ?_;refine Ab ?_;obtain ⟨x9,e9,h⟩:=Af h;refine Aa 8 ?_;refine rz0 (ai ((l3_m12:Nat):Int)) ?_;refine rs0 (.telt none .int x9 0) (zi (t:=.int) (xs:=a3) (k:=.i64) (m:=((l3_m12:Nat):Int)) (Bi _) e9) ?_;refine rsB 3 ?_;refine Ay (tn_ ?_);refine wr_ ?_;obtain ⟨x10,e10,h⟩:=Af h;obtain ⟨y11,h11,h⟩:=Af h;refine Aa 22 ?_;refine rz0 (.own (oi 0 0) .int 0 l3_m1.length) ?_;refine rz0 (ai ((l3_m12:Nat):Int)) ?_;refine rz0 (ai a0) ?_;refine rz0 (.own (oi 0 0) .int 0 l3_m1.length) ?_;refine rz0 (ai ((l3_m12:Nat):Int)) ?_;refine rs0 (.elt (oi 0 0) l3_m12 0) (zo (t:=.int) (o:=oi 0 0) (len:=l3_m1.length) (k:=.i64) (m:=((l3_m12:Nat):Int)) (Bi _) (Be e10)) ?_;refine rsl (ai x10) (Mh (i:=oi 0 0) (j:=l3_m12) (k:=0) (e:=3) (t:=.int) (xs:=l3_m1) (by kernel_rfl) (by kernel_rfl) e10 (by kernel_rfl)) ?_;refine rz0 (ai a2) ?_;refine rz0 (ai x9) ?_;refine rz0 (ai (wI (a2*x9))) ?_;refine rz0 (ai (wI (x10+wI (a2*x9)))) ?_;refine zc (ai y11) [] [ai a0,ai (wI (x10+wI (a2*x9)))] (Wo h11) ?_;refine rs0 (.elt (oi 0 0) l3_m12 0) (zo (t:=.int) (o:=oi 0 0) (len:=l3_m1.length) (k:=.i64) (m:=((l3_m12:Nat):Int)) (Bi _) (Be e10)) ?_;refine Aek (oi 0 0) (oi 0 0) (.arr 3 .int (l3_m1.set l3_m12 y11)) (Z2 (i:=oi 0 0) (j:=l3_m12) (k:=0) (e:=3) (t:=.int) (xs:=l3_m1) (cs:=[ai y11]) (x1:=y11) (by kernel_rfl) (by kernel_rfl) e10 (by kernel_rfl) (by kernel_rfl)) ?_;refine Ay (bn_ (tn_ ?_));refine wr_ ?_;obtain ⟨g12,h⟩:=Ax h;refine Aa 24 ?_;refine rs0 (ai ((l3_m12+1:Nat):Int)) (za g12) ?_;refine rsB 1 ?_;refine Ay (tn_ ?_);obtain rfl:=zj h;exact ⟨(l3_m12+1,l3_m1.set l3_m12 y11),_,(B4 1 (.own (oi 0 0) .int 0 l3_m1.length) (.own (oi 0 0) .int 0 ((l3_m1.set l3_m12 y11).length)) (by kernel_rfl) (congrArg (fun z_=>((.own (oi 0 0) .int 0 z_):AV)) (((rfl:l3_m1.length=l3_m1.length).trans List.length_set.symm):l3_m1.length=(l3_m1.set l3_m12 y11).length))).trans (Ac []),⟨l3_m12+1,l3_m1.set l3_m12 y11,rfl,rfl⟩,hn3⟩
 have q6_:=of_decide_eq_false q6;refine Ah q6 ?_;refine A3 (te_ (te_ (be_ ?_)));obtain rfl:=zj h;have h:=hn3
 (try dsimp only at h);obtain rfl:=zj h;exact Gg [] (Ac (tl:=[]) (g:=2) [])
def H9:AC :=
 (.seq (rg [xo 12 (qb .lss (tm 11) (tm 10))])
 (.seq (.cond (tm 12)
  .skip
  (.exit 0))
 (.seq (.block 1 (.seq (rg [xo 13 (qx 1 (tm 9) (tm 11)),xo 14 (ql (tm 13)),xo 5 (qm (tm 14))])
 (rg [xo 15 (qm (tm 3)),xo 16 (qm (tm 5)),xo 17 (qc 55 [tm 16] [[some .int]]),xo 18 (.mkV 39 (.slice .int) 1 [tm 17]),xo 19 (.appV 39 (.slice .int) 24 (tm 15) (tm 18)),xo 3 (qm (tm 19))])))
 (rg [xo 20 (qb .add (tm 11) (ci 1)),xo 11 (qm (tm 20))]))))
def Lb:AC :=
 (.seq (rg [xo 2 (qm (.cst .nils))])
 (.seq (rg [xo 6 (qm (tm 0)),xo 7 (.i (.len (tm 6))),xo 8 (.makeV 39 (.slice .int) 24 [.nils] (ci 0) (tm 7)),xo 3 (qm (tm 8))])
 (.seq (.seq (rg [xo 9 (qm (tm 0)),xo 10 (.i (.len (tm 9))),xo 11 (qm (ci 0))])
 (.block 0 (.loop H9)))
 (.seq (rg [xo 21 (qm (tm 3)),xo 2 (qm (tm 21))])
 .ret))))
def Sf:List Res:=[.tmp 2]
theorem Sd:Ap Tryd.prog Tryd.f29=some (Lb,Sf):=by kernel_rfl
theorem Jx:Az Tryd.prog 29=true:=by kernel_rfl
def Ci (a0:List (List Int)) (l7_m11:Nat) (l7_m3:List (List Int)):Option (Ctl (Nat×List (List Int)) (List (List Int))) :=
 cond (decide (((l7_m11:Nat):Int)<((a0.length:Nat):Int)))
 (Option.bind (a0[l7_m11]?) fun x13 =>
 Option.bind (Fo x13) fun y14 =>
 og (l7_m3.length+1<=1073741824∧(l7_m3.length+1)*24<=140737488355328) <|
 og (l7_m11+1<4611686018427387904) <|
 some (Ctl.next (l7_m11+1,l7_m3++[y14])))
 (some (Ctl.out l7_m3))
def Dz (a0:List (List Int)):Option (List (List Int)) :=
 og (0<=(0:Int)∧(0:Int)<=((a0.length:Nat):Int)∧((a0.length:Nat):Int)<=1073741824∧(24:Int)*((a0.length:Nat):Int)<=140737488355328) <|
Option.bind (A6 (fun s_:Nat×List (List Int)=>Ci a0 s_.1 s_.2) 4611686018427387904 (0,List.replicate 0 ([]:List Int))) fun l5_m3 =>
some l5_m3
theorem Jz {a0:List (List Int)} {r:List (List Int)} (h:Dz a0=some r):Ea Tryd.prog Tab 29 [.tree (.slice .int) a0] [] (.own (oi 0 1) (.slice .int) 0 r.length) [(oi 0 1,.mat 39 (oi 1 1) .int r),(oi 1 1,.pool 3 .int r)]:=by
 refine B6 (by kernel_rfl) Tryd.func29 Sd (n:=22) (by kernel_rfl) (by simp) (tl:=[(0,.tree (.slice .int) a0)]) rfl (by kernel_rfl) trivial ⟨⟨3,.tail _ (.head _)⟩,⟨trivial,trivial⟩⟩ ?_;unfold Lb;unfold Dz at h;refine Al ?_;refine Ab ?_;obtain ⟨g4,h⟩:=Ax h;refine Aa 6 ?_;refine rz0 (.tree (.slice .int) a0) ?_;refine rz0 (ai ((a0.length:Nat):Int)) ?_;refine Acx (.own (oi 128 4) (.slice .int) 0 0) (oi 128 4) 39 3 .int (List.replicate 0 ([]:List Int)) trivial (Y9 (j:=0) (k:=.i64) (k':=.i64) (m:=0) (c:=((a0.length:Nat):Int)) 3 (by kernel_rfl) (by kernel_rfl) g4 (by kernel_rfl) rfl) (by kernel_rfl) (by rw [List.length_replicate]) (by kernel_rfl) ?_;refine rsB 1 ?_;refine Ay (tn_ ?_);refine wr_ ?_;refine Ba h (fun (l5_m3:List (List Int)) S_=>S_=⟨Am [(3,.own (oi 0 1) (.slice .int) 0 l5_m3.length)],Ad (Ar [(oi 0 1,.mat 39 (oi 1 1) .int l5_m3),(oi 1 1,.pool 3 .int l5_m3)]),2⟩) ?_ ?_
 ·intro v_ h;refine Al ?_;refine Ak ?_;refine A5 h (fun t_ S_=>∃ (l7_m11:Nat),∃ (l7_m3:List (List Int)),t_=(l7_m11,l7_m3)∧S_=⟨Am [(3,.own (oi 0 1) (.slice .int) 0 l7_m3.length),(9,.tree (.slice .int) a0),(10,ai ((a0.length:Nat):Int)),(11,ai ((l7_m11:Nat):Int))],Ad (Ar [(oi 0 1,.mat 39 (oi 1 1) .int l7_m3),(oi 1 1,.pool 3 .int l7_m3)]),2⟩) ⟨_,(B4 3 (.own (oi 128 4) (.slice .int) 0 0) (.own (oi 128 4) (.slice .int) 0 ((List.replicate 0 ([]:List Int)).length)) (by kernel_rfl) (congrArg (fun z_=>((.own (oi 128 4) (.slice .int) 0 z_):AV)) (List.length_replicate.symm:0=(List.replicate 0 ([]:List Int)).length))).trans (Ac [(oi 0 1,oi 128 4),(oi 1 1,oi 128 4)]),⟨0,List.replicate 0 ([]:List Int),rfl,rfl⟩⟩ ?_;rintro n_ _ _ c_ ⟨l7_m11,l7_m3,rfl,rfl⟩ h hn7
  (try dsimp only at h);unfold Ci at h;unfold H9;refine Al ?_;refine Ab ?_;rcases Ae h with ⟨q10,h⟩ | ⟨q10,h⟩
  ·have q10_:=of_decide_eq_true q10;refine Ag q10 ?_;refine Aj (tn_ ?_);refine wr_ ?_;refine Ab ?_;refine Ak ?_;refine Ab ?_;obtain ⟨x13,e13,h⟩:=Af h;refine Aa 6 ?_;refine rs0 (.telt none (.slice .int) x13 0) (zi (t:=.slice .int) (xs:=a0) (k:=.i64) (m:=((l7_m11:Nat):Int)) (Bi _) e13) ?_;refine rsB 2 ?_;refine Ay (tn_ ?_);refine wr_ ?_;obtain ⟨y14,h14,h⟩:=Af h;obtain ⟨g15,h⟩:=Ax h;refine Aa 12 ?_;refine rz0 (.own (oi 0 1) (.slice .int) 0 l7_m3.length) ?_;refine rz0 (.tree .int x13) ?_;refine zc (.own (oi 272 8) .int 0 y14.length) [(oi 272 8,some (.arr 3 .int y14))] [.tree .int x13] (S4 h14) ?_;refine Aga (.own (oi 18 9) (.slice .int) 0 1) (oi 18 9) (.vec 39 1 1 ([.own (oi 272 8) .int 0 y14.length])) trivial (Ac4 (by kernel_rfl)) ?_;refine rs2 (.own (oi 0 10) (.slice .int) 0 (l7_m3.length+1)) (oi 0 1) (oi 0 10) (.vec 39 1 (l7_m3.length+1) (hdL (oi 1 1) .int l7_m3++[.own (oi 272 8) .int 0 y14.length])) (Uj (u:=.int) (t':=.slice .int) (t2:=.slice .int) (o:=oi 0 1) (q:=oi 18 9) (e2:=39) (p:=oi 1 1) (xss:=l7_m3) (cs:=[.own (oi 272 8) .int 0 y14.length]) (len:=l7_m3.length) (by kernel_rfl) (by kernel_rfl) rfl (by kernel_rfl) (by kernel_rfl) rfl g15) ?_;refine rsB 1 ?_;refine Ay (bn_ (tn_ ?_));refine ⟨_,N3 (e1:=39) (e:=3) (u:=.int) (n:=l7_m3.length+1) (len:=y14.length) (row:=y14) (ys:=y14) (xss:=l7_m3) 9000 (oi 0 10) (oi 1 1) (oi 272 8) (by kernel_rfl) (by kernel_rfl) rfl (by kernel_rfl) (by kernel_rfl) (Z8 rfl) (Z4 rfl) (by kernel_rfl) (by kernel_rfl) (by kernel_rfl),?_⟩;obtain ⟨g16,h⟩:=Ax h;refine Aa 15 ?_;refine rs0 (ai ((l7_m11+1:Nat):Int)) (za g16) ?_;refine rsB 1 ?_;refine Ay (tn_ ?_);obtain rfl:=zj h;exact ⟨(l7_m11+1,l7_m3++[y14]),_,(B4 3 (.own (oi 0 10) (.slice .int) 0 (l7_m3.length+1)) (.own (oi 0 10) (.slice .int) 0 ((l7_m3++[y14]).length)) (by kernel_rfl) (congrArg (fun z_=>((.own (oi 0 10) (.slice .int) 0 z_):AV)) ((by simp):l7_m3.length+1=(l7_m3++[y14]).length))).trans (Ac [(oi 0 1,oi 0 10),(oi 1 1,oi 9000 12)]),⟨l7_m11+1,l7_m3++[y14],rfl,rfl⟩,hn7⟩
  have q10_:=of_decide_eq_false q10;refine Ah q10 ?_;refine A3 (te_ (te_ (be_ (tn_ ?_))));obtain rfl:=zj h;have h:=hn7
  (try dsimp only at h);obtain rfl:=zj h;exact ⟨_,Ac [],rfl⟩
 rintro l5_m3 _ rfl h
 (try dsimp only at h);refine Al ?_;refine Ai ?_;obtain rfl:=zj h;exact Gg [.own (oi 0 1) (.slice .int) 0 l5_m3.length] (Ac (tl:=[(2,.own (oi 0 1) (.slice .int) 0 l5_m3.length)]) (g:=2) [])
end Go.Proofs.YtehocbbnjfmgaaaDoor
namespace Go.Proofs.YtehocbbnjfmgaaaDoor
open Go.RowKit Go.Deep
end Go.Proofs.YtehocbbnjfmgaaaDoor
namespace Go.Proofs.YtehocbbnjfmgaaaDoor
open Go.RowKit Go.Deep
section
variable {P:Program} {G:World->Prop} {f:FuncId} {args:List AV} {r:RV} {n:Nat} {R:Nat->Prop}
mutual
def AV.unR (R:Nat->Prop):AV->AV->Prop
 | .tree t xs,d=>d=.ftr R t xs
 | .agg cs,d=>∃ ds,d=.agg ds∧AV.unRL R cs ds
 | c,d=>c.scal=true∧d=c
def AV.unRL (R:Nat->Prop):List AV->List AV->Prop
 | [],ds=>ds=[]
 | c :: cs,ds=>∃ d ds',ds=d :: ds'∧AV.unR R c d∧AV.unRL R cs ds'
end
mutual
theorem Adk {im:Nat->Prop} {w:World}:∀ (c d:AV) (u:Value),AV.unR R c d->AV.Rep (fun _=>none) im w d u->AV.Rep (fun _=>none) (fun b=>im b∧R b) w c u
 | .tree t xs,d,u,h,hr=>by
  have h:d=.ftr R t xs:=h;subst h;exact hr
 | .agg cs,d,u,⟨ds,e,h⟩,hr=>by
  subst e;obtain ⟨us,e,hr⟩:=hr;exact ⟨us,e,Wt cs ds us h hr⟩
 | .int ..,d,u,⟨_,e⟩,hr=>by subst e; exact hr
 | .bool ..,d,u,⟨_,e⟩,hr=>by subst e; exact hr
 | .str ..,d,u,⟨_,e⟩,hr=>by subst e; exact hr
 | .nils,d,u,⟨_,e⟩,hr=>by subst e; exact hr
 | .any,d,u,⟨h,_⟩,_=>by cases h
 | .mtree ..,d,u,⟨h,_⟩,_=>by cases h
 | .ftr ..,d,u,⟨h,_⟩,_=>by cases h
 | .mp _,d,u,⟨h,_⟩,_=>by cases h
 | .tup _,d,u,⟨h,_⟩,_=>by cases h
 | .fn ..,d,u,⟨h,_⟩,_=>by cases h
 | .ref _,d,u,⟨h,_⟩,_=>by cases h
 | .own ..,d,u,⟨h,_⟩,_=>by cases h
 | .box ..,d,u,⟨h,_⟩,_=>by cases h
 | .elt ..,d,u,⟨h,_⟩,_=>by cases h
 | .sla ..,d,u,⟨h,_⟩,_=>by cases h
 | .telt ..,d,u,⟨h,_⟩,_=>by cases h
 | .giv ..,d,u,⟨h,_⟩,_=>by cases h
 | .abool ..,d,u,⟨h,_⟩,_=>by cases h
theorem Wt {im:Nat->Prop} {w:World}:∀ (cs ds:List AV) (us:List Value),AV.unRL R cs ds->AV.RepL (fun _=>none) im w ds us->AV.RepL (fun _=>none) (fun b=>im b∧R b) w cs us
 | [],ds,us,h,hr=>by obtain rfl:ds=[]:=h; exact hr
 | c :: cs,ds,us,⟨d,ds',e,h1,h2⟩,hr=>by
  subst e;obtain ⟨u,us',e,r1,r2⟩:=hr;exact ⟨u,us',e,Adk c d u h1 r1,Wt cs ds' us' h2 r2⟩
end
end
-- rows of things that nobody writes
section
variable {ob:Oid->Option Ob}
end
section
variable {n:Nat} {d:Option Nat} {f:Nat->AV} {ob:Oid->Option Ob}
end
-- results
section
variable {G:World->Prop} {w0 w:World} {ob:Oid->Option Ob} {σ:Oid->Option Loc} {K:Nat->Prop}
def RL.zl:Bool->AV->RL
 | true,d=>.frz d
 | false,d=>.imm d
end
mutual
theorem Ack {R im:Nat->Prop} {w:World} (hR:∀ b,im b->R b):∀ (c d:AV) (u:Value),AV.unR R c d->AV.Rep (fun _=>none) im w c u->AV.Rep (fun _=>none) im w d u
 | .tree t xs,d,u,h,⟨A,c,l,e,hs⟩=>by
  have h:d=.ftr R t xs:=h;subst h;exact ⟨A,c,l,e,Bo (fun b _ hb=>⟨hb,hR b hb⟩) hs⟩
 | .agg cs,d,u,⟨ds,e,h⟩,hr=>by
  subst e;obtain ⟨us,e,hr⟩:=hr;exact ⟨us,e,Tq hR cs ds us h hr⟩
 | .int ..,d,u,⟨_,e⟩,hr=>by subst e; exact hr
 | .bool ..,d,u,⟨_,e⟩,hr=>by subst e; exact hr
 | .str ..,d,u,⟨_,e⟩,hr=>by subst e; exact hr
 | .nils,d,u,⟨_,e⟩,hr=>by subst e; exact hr
 | .any,d,u,⟨h,_⟩,_=>by cases h
 | .mtree ..,d,u,⟨h,_⟩,_=>by cases h
 | .ftr ..,d,u,⟨h,_⟩,_=>by cases h
 | .mp _,d,u,⟨h,_⟩,_=>by cases h
 | .tup _,d,u,⟨h,_⟩,_=>by cases h
 | .fn ..,d,u,⟨h,_⟩,_=>by cases h
 | .ref _,d,u,⟨h,_⟩,_=>by cases h
 | .own ..,d,u,⟨h,_⟩,_=>by cases h
 | .box ..,d,u,⟨h,_⟩,_=>by cases h
 | .elt ..,d,u,⟨h,_⟩,_=>by cases h
 | .sla ..,d,u,⟨h,_⟩,_=>by cases h
 | .telt ..,d,u,⟨h,_⟩,_=>by cases h
 | .giv ..,d,u,⟨h,_⟩,_=>by cases h
 | .abool ..,d,u,⟨h,_⟩,_=>by cases h
theorem Tq {R im:Nat->Prop} {w:World} (hR:∀ b,im b->R b):∀ (cs ds:List AV) (us:List Value),AV.unRL R cs ds->AV.RepL (fun _=>none) im w cs us->AV.RepL (fun _=>none) im w ds us
 | [],ds,us,h,hr=>by obtain rfl:ds=[]:=h; exact hr
 | c :: cs,ds,us,⟨d,ds',e,h1,h2⟩,hr=>by
  subst e;obtain ⟨u,us',e,r1,r2⟩:=hr;exact ⟨u,us',e,Ack hR c d u h1 r1,Tq hR cs ds' us' h2 r2⟩
end
section
variable {R:Nat->Prop} {z:Bool} {ob:Oid->Option Ob}
end
section
variable {P:Program} {G:World->Prop} {g k d:Nat} {gd:Option (Nat×Bool)} {xs:List X} {tl:List (Nat×AV)} {ol:List (Oid×Option Ob)} {bad:List (Nat×Nat)} {ra:List Rec} {da:List (List Oid)} {Kf:List (Nat×AV)->List (Oid×Option Ob)->Prop}
variable {fo:Opd} {ys:List Opd} {tys:List (List (Option Ty))} {F:FuncId} {caps:List AV} {rv:RV}
end
end Go.Proofs.YtehocbbnjfmgaaaDoor
namespace Go.Proofs.YtehocbbnjfmgaaaDoor
open Go.RowKit Go.Deep
section
variable {σ:Oid->Option Loc} {im:Nat->Prop} {w:World}
end
section
variable {n:Nat} {d:Option Nat} {f:Nat->AV} {ob:Oid->Option Ob}
end
end Go.Proofs.YtehocbbnjfmgaaaDoor
namespace Go.Proofs.YtehocbbnjfmgaaaDoor
open Go.RowKit Go.Deep
end Go.Proofs.YtehocbbnjfmgaaaDoor
namespace Go.Proofs.YtehocbbnjfmgaaaDoor
open Go.RowKit Go.Deep Go.Shelf Go.Sort

/-- The rows that a row of rows leads to are gathered under a new name. -/
theorem Mem0.rows {G:World->Prop} {w0 w:World} {ob ob':Oid->Option Ob} {σ:Oid->Option Loc} {K:Nat->Prop} (hm:Mem0 G w0 ob σ K w) {p:Oid} (hg:¬ K p.2) (o:Oid) (ρ:Nat->Oid) {e1 e:TypeId} {u:Ty} {cs:List AV} {xss:List (List u.D)} {n:Nat} (hso:σ o≠none) (ho:ob o=some (.vec e1 1 n cs)) (hn:n=xss.length)
    (hrow:∀ k row,xss[k]? =some row->cs[k]? =some (.own (ρ k) u 0 row.length)∧ob (ρ k)=some (.arr e u row))
    (hinj:∀ j k,j<xss.length->k<xss.length->ρ j=ρ k->j=k)
    (h1:ob' o=some (.vec e1 1 n (hdL p u xss))) (h2:∀ k row,xss[k]? =some row->ob' (kid p k)=some (.arr e u row))
    (h3:∀ i,i≠o->(∀ k,k<xss.length->i≠kid p k)->ob' i=none∨(ob' i=ob i∧∀ k,k<xss.length->i≠ρ k)) :
    ∃ σ',Later σ σ' (imm ob σ) (imm ob' σ') w w∧Mem0 G w0 ob' σ' (fun n=>K n∨n=p.2) w:=by
  have hfr:∀ i:Oid,i.2=p.2->σ i=none:=fun i hi=>Goes.fresh hm (by rw [hi]; exact hg)
  have hog:o.2≠p.2:=fun e=>hso (hfr o e)
  have hop:∀ k,o≠kid p k:=fun k e=>hog (by rw [e]; rfl)
  let σ':Oid->Option Loc:=fun i=>if i.1.1=p.1.1∧i.2=p.2∧i.1.2≠0∧i.1.2 - 1<xss.length then σ (ρ (i.1.2 - 1)) else σ i
  have hσk:∀ k,k<xss.length->σ' (kid p k)=σ (ρ k):=fun k hk=>by
    simp only [σ'];rw [if_pos ⟨rfl,rfl,by simp [kid],by simp [kid,hk]⟩];simp [kid]
  have hσo:∀ i,(∀ k,k<xss.length->i≠kid p k)->σ' i=σ i:=fun i hi=>by
    simp only [σ'];rw [if_neg];rintro ⟨e1,e2,e3,e4⟩;refine hi (i.1.2 - 1) e4 ?_;obtain ⟨⟨i1,i2⟩,i3⟩:=i;simp only [kid] at *;subst e1 e2;rw [show i2 - 1+1=i2 by omega]
  have hloc:∀ i l,σ i=some l->σ' i=some l:=fun i l hi=>by
    rw [hσo i fun k _ e=>by rw [e,hfr (kid p k) rfl] at hi; cases hi]; exact hi
  have hρ:∀ k,k<xss.length->∃ ys,ob (ρ k)=some (.arr e u ys):=fun k hk=>⟨_,(hrow k _ (gEg hk)).2⟩
  have hcase:∀ i,i=o∨(∃ k,k<xss.length∧i=kid p k)∨(i≠o∧∀ k,k<xss.length->i≠kid p k):=fun i=>by
    by_cases a1:i=o
    · exact .inl a1
    · by_cases a2:∃ k,k<xss.length∧i=kid p k
      · exact .inr (.inl a2)
      · exact .inr (.inr ⟨a1,fun k hk e=>a2 ⟨k,hk,e⟩⟩)
  have hwas:∀ i x,ob' i=some x->∃ i0 x0,ob i0=some x0∧σ' i=σ i0∧((i=o∧i0=o)∨(∃ k,k<xss.length∧i=kid p k∧i0=ρ k)∨(i0=i∧i≠o∧(∀ k,k<xss.length->i≠kid p k)∧ob' i=ob i∧∀ k,k<xss.length->i≠ρ k)):=by
    intro i x hx;rcases hcase i with rfl | ⟨k,hk,rfl⟩ | ⟨a1,a2⟩
    · exact ⟨i,_,ho,hσo i fun k _=>hop k,.inl ⟨rfl,rfl⟩⟩
    · obtain ⟨ys,h⟩:=hρ k hk;exact ⟨ρ k,_,h,hσk k hk,.inr (.inl ⟨k,hk,rfl,rfl⟩)⟩
    · rcases h3 i a1 a2 with h | ⟨h,h'⟩
      · rw [h] at hx; cases hx
      · exact ⟨i,x,by rw [← h]; exact hx,hσo i a2,.inr (.inr ⟨rfl,a1,a2,h,h'⟩)⟩
  have him:∀ b,imm ob σ b->imm ob' σ' b:=by
    intro b hb i x c s' hx hs;obtain ⟨i0,x0,g1,g2,_⟩:=hwas i x hx;rw [g2] at hs;exact hb i0 x0 c s' g1 hs
  have hL:Later σ σ' (imm ob σ) (imm ob' σ') w w:=⟨hloc,fun b _ hb=>him b hb,fun _ _ _=>rfl,Nat.le_refl _⟩
  refine ⟨σ',hL,⟨hm.below,hm.inv,fun i l hi=>?_,fun i b c s' hi=>?_,fun i b c s' hi=>?_,fun i j b c s' c' s2 x y hi hj e1 e2=>?_,fun i x l hx hl=>?_⟩⟩
  · simp only [σ'] at hi;split at hi
    · rename_i h; exact .inr h.2.1
    · exact .inl (hm.gen i l hi)
  · simp only [σ'] at hi;split at hi
    · exact hm.lt _ b c s' hi
    · exact hm.lt i b c s' hi
  · simp only [σ'] at hi;split at hi
    · exact hm.cap _ b c s' hi
    · exact hm.cap i b c s' hi
  · obtain ⟨i0,x0,g1,g2,g3⟩:=hwas i x hi;obtain ⟨j0,y0,k1,k2,k3⟩:=hwas j y hj;rw [g2] at e1;rw [k2] at e2;have e0:=hm.inj i0 j0 b c s' c' s2 x0 y0 g1 k1 e1 e2
    have hoρ:∀ k,k<xss.length->o≠ρ k:=fun k hk e=>by
      obtain ⟨ys,h⟩:=hρ k hk;rw [← e,ho] at h; cases h
    rcases g3 with ⟨rfl,rfl⟩ | ⟨k,hk,rfl,rfl⟩ | ⟨rfl,a1,a2,a3,a4⟩ <;> rcases k3 with ⟨rfl,rfl⟩ | ⟨k',hk',rfl,rfl⟩ | ⟨rfl,b1,b2,b3,b4⟩
    · rfl
    · exact absurd e0 (hoρ k' hk')
    · exact e0
    · exact absurd e0.symm (hoρ k hk)
    · rw [hinj k k' hk hk' e0]
    · exact absurd e0.symm (b4 k hk)
    · exact e0
    · exact absurd e0 (a4 k' hk')
    · exact e0
  · rcases hcase i with rfl | ⟨k,hk,rfl⟩ | ⟨a1,a2⟩
    · rw [h1] at hx;obtain rfl:=osj hx;rw [hσo i fun k _=>hop k] at hl;obtain ⟨vs,p1,p2,p3,p4⟩:=hm.obs i _ l ho hl;refine ⟨vs,p1,AV.RepL.of_get ?_ fun k c v hc hv=>?_,p3,p4⟩
      · rw [Ek,← hn];have:=p1.1;omega
      · rw [Cz] at hc;obtain ⟨row,hk,rfl⟩:=oms.1 hc;have hlt:=(gSi.1 hk).1;obtain ⟨q1,q2⟩:=hrow k row hk;obtain ⟨v',hv',hr'⟩:=p2.get q1;rw [hv] at hv';obtain rfl:=osj hv';have hs:=hσk k hlt;rcases hr' with ⟨g,q⟩ | ⟨b,cap,g,q⟩ | ⟨lc,g,q⟩
        · exact .inl ⟨hs.trans g,q⟩
        · exact .inr (.inl ⟨b,cap,hs.trans g,q⟩)
        · exact .inr (.inr ⟨lc,hs.trans g,q⟩)
    · rw [h2 k _ (gEg hk)] at hx;obtain rfl:=osj hx;obtain ⟨_,q2⟩:=hrow k _ (gEg hk);rw [hσk k hk] at hl;exact hm.obs _ _ l q2 hl
    · rcases h3 i a1 a2 with h | ⟨h,_⟩
      · rw [h] at hx; cases hx
      · rw [hσo i a2] at hl;exact (hm.obs i x l (by rw [← h]; exact hx) hl).later hL fun _ _ _ _=>rfl

abbrev Aap:={v:Value // v.oneCell'=true}
instance:Inhabited Aap:=⟨⟨.slice none 0 0,rfl⟩⟩
def Jw (vs:List Value) (h:∀ v∈vs,v.oneCell'=true):List Aap:=vs.attach.map fun x=>⟨x.1,h _ x.2⟩
theorem Abr (vs:List Value) (h:∀ v∈vs,v.oneCell'=true):(Jw vs h).map Subtype.val=vs:=by
  unfold Jw;rw [List.map_map];exact List.attach_map_subtype_val vs
theorem Im (vs:List Value) (h:∀ v∈vs,v.oneCell'=true):(Jw vs h).length=vs.length:=by simp [Jw]
theorem Aa9 (vs:List Value) (h:∀ v∈vs,v.oneCell'=true) (j:Nat) (hj:j<vs.length):(((Jw vs h).toArray)[j]!).1=vs[j]:=by
  have hl:j<(Jw vs h).length:=by rw [Im]; exact hj
  rw [getElem!_pos (Jw vs h).toArray j (by simpa using hl)];simp [Jw]
theorem Aa8 {α:Type} [Inhabited α] (enc:α->Value) (l:List α) (cur:Array Value) (m:Nat) (h1:m<=l.length) (h2:m<=cur.size):(putCells enc 0 l.toArray cur).toList.take m=(l.take m).map enc:=by
  apply List.ext_getElem?;intro j;rw [List.getElem?_take,List.getElem?_map,List.getElem?_take];by_cases hj:j<m
  · rw [if_pos hj,if_pos hj,Array.getElem?_toList];simp only [putCells,Array.getElem?_mapIdx];rw [Array.getElem?_eq_getElem (by omega),gEg (by omega)];simp only [Option.map_some];rw [if_pos ⟨Nat.zero_le _,by simp; omega⟩,Nat.sub_zero,getElem!_pos l.toArray j (by simp; omega)];simp
  · rw [if_neg hj,if_neg hj]; rfl
theorem Ac8 {α:Type} [Inhabited α] (enc:α->Value) (w:World) (q b:Nat) (d:Array α):Only b w (putRow enc (Sort.ahead w q) b 0 d):=by
  refine ⟨rfl,rfl,rfl,by simp [putRow,mapBlock,Sort.ahead],fun k _ hk=>?_⟩;simp only [putRow,mapBlock,Sort.ahead,Array.getElem?_modify];rw [if_neg (fun e=>hk e.symm)]
theorem Afi {α:Type} [Inhabited α] (enc:α->Value) (w:World) (q b:Nat) (d:Array α) {cur:Array Value} {e:TypeId} (h:w.heap[b]? =some (.cells cur e (0,0))):(putRow enc (Sort.ahead w q) b 0 d).heap[b]? =some (.cells (putCells enc 0 d cur) e (0,0)):=by
  simp only [putRow,mapBlock,Sort.ahead,Array.getElem?_modify,if_true,h,Option.map_some,onCells]

def Cu {α:Type} (xs:List α) (a b:Int):Option (List α):=if 0<=a∧b=a+1∧a<xs.length then some (xs.eraseIdx a.toNat) else none

theorem Rd {θ:Oid->Oid}:∀ (cs:List AV) (k:Nat),(AV.renL θ cs)[k]? =(cs[k]?).map (AV.ren θ)
  | [],_=>rfl
  | c :: cs,0=>rfl
  | c :: cs,k+1=>by
    show (AV.renL θ cs)[k]? =_;rw [Rd cs k]; rfl
theorem Wn {θ:Oid->Oid}:∀ (cs:List AV),(AV.renL θ cs).length=cs.length
  | []=>rfl
  | _ :: cs=>congrArg (·+1) (Wn cs)
theorem Adl {P:Program} {G:World->Prop} {ν:Ren} (L:SlLaysE.n45 P ν) (hz:∀ w,(zeroValue (ν.t 23)).run P w=.ok (.slice none 0 0) w) (hi1:(P.info? (ν.t 23)).map (·.size)=some 1) {e1 e:TypeId} {u t:Ty} {xss r:List (List u.D)} {a b:Int} (h:Cu xss a b=some r) {n:Nat} (hn:n=xss.length) :
    Ea P G (ν.f 45) [.own (oi 0 0) t 0 n,ai a,ai b] [(oi 0 0,.mat e1 (oi 1 0) u xss),(oi 1 0,.pool e u xss)] (.own (oi 0 0) t 0 r.length) [(oi 0 0,.mat e1 (oi 0 1) u r),(oi 0 1,.pool e u r)]:=by
  intro θ i w0 ob σ K w vs hm hi hq hij hσ hr;obtain ⟨i0,hi0,hz1⟩:=oms.1 hi1
  obtain ⟨k,hk,rfl,rfl,rfl⟩:∃ k:Nat,k<xss.length∧a=(k:Int)∧b=((k+1:Nat):Int)∧r=xss.eraseIdx k:=by
    unfold Cu at h;split at h
    · rename_i hc;refine ⟨a.toNat,by omega,by omega,by omega,(osj h).symm⟩
    · cases h
  subst hn;have hlr:(xss.eraseIdx k).length=xss.length - 1:=by rw [List.length_eraseIdx,if_pos hk]
  have hO:ob (θ (oi 0 0))=some (.vec e1 1 xss.length (AV.renL θ (hdL (oi 1 0) u xss))):=hq (oi 0 0,.vec e1 1 xss.length (hdL (oi 1 0) u xss)) (by simp [exL])
  have hmemk:∀ j row,xss[j]? =some row->(kid (oi 1 0) j,Ob.arr e u row)∈exL [(oi 0 0,.mat e1 (oi 1 0) u xss),(oi 1 0,.pool e u xss)]:=fun j row hj=>by
    simp only [exL,List.append_nil];exact List.mem_cons_of_mem _ (List.mem_map.2 ⟨(row,j),by rw [List.mem_zipIdx_iff_getElem?]; exact hj,rfl⟩)
  have hkid:∀ j row,xss[j]? =some row->ob (θ (kid (oi 1 0) j))=some (.arr e u row):=fun j row hj=>hq _ (hmemk j row hj)
  have hcs:∀ j,(AV.renL θ (hdL (oi 1 0) u xss))[j]? =(xss[j]?).map fun row=>AV.own (θ (kid (oi 1 0) j)) u 0 row.length:=fun j=>by
    rw [Rd,Cz];cases xss[j]? <;> rfl
  have hcl:(AV.renL θ (hdL (oi 1 0) u xss)).length=xss.length:=by rw [Wn,Ek]
  generalize AV.renL θ (hdL (oi 1 0) u xss)=cs at hO hcs hcl;have hOl:σ (θ (oi 0 0))≠none:=hσ _ (List.mem_map.2 ⟨(oi 0 0,.vec e1 1 xss.length (hdL (oi 1 0) u xss)),by simp [exL],rfl⟩);have hr:AV.RepL σ (Wf θ [(oi 0 0,.mat e1 (oi 1 0) u xss),(oi 1 0,.pool e u xss)] σ) w [AV.own (θ (oi 0 0)) t 0 xss.length,ai (k:Int),ai ((k+1:Nat):Int)] vs:=hr;obtain ⟨v0,_,rfl,r0,v1,_,rfl,r1,v2,_,rfl,r2,rfl⟩:=hr;obtain rfl:v1=.int .i64 (k:Int):=r1;obtain rfl:v2=.int .i64 ((k+1:Nat):Int):=r2;rcases r0 with ⟨_,_,h0,_⟩ | ⟨b,cap,hσO,hcap,rfl⟩ | ⟨_,_,h0,_⟩
  · omega
  · obtain ⟨vs,hown,hrep,hone,hsz⟩:=hm.obs _ _ _ hO hσO;have ht1:t.size=1:=hsz b cap t.size rfl;rcases hown.2 with ⟨h0,_⟩ | ⟨g,cap',cur,e',hlo,hgh,hnc,hcm,hszc,htake⟩
    · cases h0
    · obtain ⟨rfl,rfl⟩:g=b∧cap'=cap:=by
        have:(Value.slice (some ⟨b,0,none⟩) xss.length cap)=.slice (some ⟨g,0,none⟩) xss.length cap':=e';cases this; exact ⟨rfl,rfl⟩
      have hvl:vs.length=xss.length:=by have:=hown.1; omega
      have hcell:∀ j (hj:j<vs.length),w.cell? ⟨g,j,none⟩=some vs[j]:=fun j hj=>by
        rw [cell_of_row w g j cur e1 (0,0) hgh,← Array.getElem?_toList];have h5:(cur.toList.take (xss.length*1))[j]? =vs[j]?:=by rw [htake]
        rw [List.getElem?_take,if_pos (by omega)] at h5;rw [h5,gEg hj]
      have hH:Holds Subtype.val w g 0 (Jw vs hone).toArray:=fun j hj=>by
        have hj':j<vs.length:=by simpa [Im] using hj
        rw [Nat.zero_add,Aa9 vs hone j hj'];exact ⟨hcell j hj',frozen_of_row w g j cur e1 hgh⟩
      have hd:(Jw vs hone).toArray.size=xss.length:=by simp [Im,hvl]
      have hC:=AnyE.slices_Delete L (Subtype.val:Aap->Value) (fun x=>x.2) ⟨.slice none 0 0,rfl⟩ hz i0 hi0 hz1 g 0 cap' k (k+1) (Jw vs hone).toArray w hH (by rw [hd]; exact hnc) (by have:maxLen=9223372036854775807:=rfl; omega) (by omega) (by rw [hd]; omega);rw [hd] at hC;have e0:(Value.slice (some ⟨g,0*t.size,none⟩) xss.length (cap' - 0))=.slice (some ⟨g,0,none⟩) xss.length cap':=by rw [Nat.zero_mul,Nat.sub_zero]
      rw [e0];refine hC.mono ?_;rintro ee w' ⟨rfl,q,rfl⟩;refine ⟨_,rfl,?_⟩
      have hlist:((Jw vs hone).toArray.toList.take k++(Jw vs hone).toArray.toList.drop (k+1)++List.replicate (k+1 - k) (⟨.slice none 0 0,rfl⟩:Aap)).take (xss.length - 1)=(Jw vs hone).take k++(Jw vs hone).drop (k+1):=by
        rw [List.take_append_of_le_length (by simp [Im]; omega),List.take_of_length_le (by simp [Im]; omega)]
      obtain ⟨W,hW⟩:∃ W,W=putRow (Subtype.val:Aap->Value) (Sort.ahead w q) g 0 ((Jw vs hone).toArray.toList.take k++(Jw vs hone).toArray.toList.drop (k+1)++List.replicate (k+1 - k) (⟨.slice none 0 0,rfl⟩:Aap)).toArray:=⟨_,rfl⟩
      have hOnly:Only g w W:=by rw [hW]; exact Ac8 _ _ _ _ _
      have hblk:∃ cur',W.heap[g]? =some (.cells cur' e1 (0,0))∧cur'.size=cur.size∧cur'.toList.take (xss.length - 1)=vs.eraseIdx k:=by
        refine ⟨_,by rw [hW]; exact Afi _ _ _ _ _ hgh,by simp [putCells],?_⟩;rw [Aa8 _ _ _ _ (by simp [Im]; omega) (by omega),hlist,List.map_append,List.map_take,List.map_drop,Abr,List.eraseIdx_eq_take_drop_succ]
      rw [← hW]
      clear hW hlist hC hH hcell
      obtain ⟨cur',hW1,hW2,hW3⟩:=hblk
      have hvr:AV.RepL σ (imm ob σ) w (cs.eraseIdx k) (vs.eraseIdx k):=by
        rw [List.eraseIdx_eq_take_drop_succ,List.eraseIdx_eq_take_drop_succ];exact (hrep.take k).append (hrep.drop (k+1))
      have hL1:=Later.swap (i':=θ (oi 0 0)) (o':=.vec e1 1 (xss.length - 1) (cs.eraseIdx k)) hO hσO (.inl ⟨rfl,rfl,rfl⟩) hOnly;have hm1:=hm.swap (i':=θ (oi 0 0)) (o':=.vec e1 1 (xss.length - 1) (cs.eraseIdx k)) (K':=K) hO hσO (.inl ⟨rfl,rfl,rfl⟩) hOnly (fun _ h=>h) (hm.gen _ _ hσO) (hm.cap _ _ _ _ hσO) ⟨vs.eraseIdx k,⟨by rw [List.length_eraseIdx,if_pos (by omega),hvl,Nat.mul_one],.inr ⟨g,cap',cur',rfl,hlo,hW1,by omega,hcm,by omega,by rw [Nat.mul_one]; exact hW3⟩⟩,AV.RepL.later hL1 _ _ hvr,fun v hv=>hone v (List.mem_of_mem_eraseIdx hv),fun _ _ _ e=>by cases e; exact ht1⟩
      have hob1:∀ x,upd (upd ob (θ (oi 0 0)) none) (θ (oi 0 0)) (some (.vec e1 1 (xss.length - 1) (cs.eraseIdx k))) x=if x=θ (oi 0 0) then some (.vec e1 1 (xss.length - 1) (cs.eraseIdx k)) else ob x:=fun x=>by
        unfold upd;split <;> rfl
      have hσ1:∀ x,upd σ (θ (oi 0 0)) (some (.at_ g cap' t.size)) x=σ x:=fun x=>by
        unfold upd;split
        · rename_i hx; rw [hx]; exact hσO.symm
        · rfl
      generalize upd (upd ob (θ (oi 0 0)) none) (θ (oi 0 0)) (some (.vec e1 1 (xss.length - 1) (cs.eraseIdx k)))=ob1 at hL1 hm1 hob1;generalize upd σ (θ (oi 0 0)) (some (.at_ g cap' t.size))=σ1 at hL1 hm1 hσ1
      -- the rows under new names
      have hKO:K (θ (oi 0 0)).2:=hm.gen _ _ hσO;have hOi:(θ (oi 0 0)).2≠i.2:=fun e=>hi (by rw [← e]; exact hKO)
      have hnm0:Bm θ i (oi 0 0)=θ (oi 0 0):=rfl;have hnmk:∀ j,Bm θ i (kid (oi 0 1) j)=kid ((i.1.1*16,0),i.2) j:=fun j=>rfl
      have hinus:∀ j,j∈nmL [(oi 0 0,Ob.mat e1 (oi 0 1) u (xss.eraseIdx k)),(oi 0 1,Ob.pool e u (xss.eraseIdx k))]->j=oi 0 0∨∃ m,m<(xss.eraseIdx k).length∧j=kid (oi 0 1) m:=fun j hj=>by
        simp only [nmL,exL,List.append_nil,List.map_cons,List.mem_cons,List.map_map,List.mem_map] at hj;rcases hj with rfl | ⟨⟨row,m⟩,hx,rfl⟩
        · exact .inl rfl
        · rw [List.mem_zipIdx_iff_getElem?] at hx;exact .inr ⟨m,(gSi.1 hx).1,rfl⟩
      have hkin:∀ m row,(xss.eraseIdx k)[m]? =some row->(kid (oi 0 1) m,Ob.arr e u row)∈exL [(oi 0 0,Ob.mat e1 (oi 0 1) u (xss.eraseIdx k)),(oi 0 1,Ob.pool e u (xss.eraseIdx k))]:=fun m row hm'=>by
        simp only [exL,List.append_nil];exact List.mem_cons_of_mem _ (List.mem_map.2 ⟨(row,m),by rw [List.mem_zipIdx_iff_getElem?]; exact hm',rfl⟩)
      obtain ⟨u1,u2⟩:=Zh (θ:=θ) (i:=i) (ol:=[(oi 0 0,Ob.mat e1 (oi 1 0) u xss),(oi 1 0,Ob.pool e u xss)]) (us:=[(oi 0 0,Ob.mat e1 (oi 0 1) u (xss.eraseIdx k)),(oi 0 1,Ob.pool e u (xss.eraseIdx k))]) (ob:=ob)
        (Adc (by simp [Bd,Ob.isPool]) (by simp [Bf,Ob.isPool]) (by simp)) (fun j hj j' hj' e=>by
          rcases hinus j hj with rfl | ⟨m,_,rfl⟩ <;> rcases hinus j' hj' with rfl | ⟨m',_,rfl⟩
          · rfl
          · rw [hnm0,hnmk] at e; exact absurd (by rw [e]; rfl) hOi
          · rw [hnm0,hnmk] at e; exact absurd (by rw [← e]; rfl) hOi
          · rw [hnmk,hnmk] at e; rw [D4 e])
      generalize An (Gk θ i [(oi 0 0,Ob.mat e1 (oi 1 0) u xss),(oi 1 0,Ob.pool e u xss)] [(oi 0 0,Ob.mat e1 (oi 0 1) u (xss.eraseIdx k)),(oi 0 1,Ob.pool e u (xss.eraseIdx k))]) ob=ob2 at u1 u2
      let at_:Nat->Nat:=fun j=>if j<k then j else j+1
      have hget:∀ j,(xss.eraseIdx k)[j]? =xss[at_ j]?:=fun j=>by simp only [at_,List.getElem?_eraseIdx]; split <;> rfl
      have hatl:∀ j,j<(xss.eraseIdx k).length->at_ j<xss.length:=fun j hj=>by simp only [at_]; split <;> omega
      have hnin:∀ j,j<xss.length->kid (oi 1 0) j∈nmL [(oi 0 0,Ob.mat e1 (oi 1 0) u xss),(oi 1 0,Ob.pool e u xss)]:=fun j hj=>List.mem_map.2 ⟨_,hmemk j _ (gEg hj),rfl⟩
      have hOin:oi 0 0∈nmL [(oi 0 0,Ob.mat e1 (oi 1 0) u xss),(oi 1 0,Ob.pool e u xss)]:=by simp [nmL,exL]
      have hne:∀ j,j<xss.length->θ (kid (oi 1 0) j)≠θ (oi 0 0):=fun j hj e=>by
        have:=hij _ _ (hnin j hj) hOin e;simp [kid] at this
      obtain ⟨σ2,hL2,hm2⟩:=Mem0.rows (ob':=ob2) hm1 (p:=((i.1.1*16,0),i.2)) hi (θ (oi 0 0)) (fun j=>θ (kid (oi 1 0) (at_ j))) (e1:=e1) (e:=e) (u:=u) (cs:=cs.eraseIdx k) (xss:=xss.eraseIdx k) (n:=xss.length - 1) (by rw [hσ1]; exact hOl) (by rw [hob1,if_pos rfl]) hlr.symm
        (fun j row hj=>by
          rw [hget] at hj;have hlt:=(gSi.1 hj).1;refine ⟨?_,by rw [hob1,if_neg (hne _ hlt)]; exact hkid _ _ hj⟩;have:(cs.eraseIdx k)[j]? =cs[at_ j]?:=by simp only [at_,List.getElem?_eraseIdx]; split <;> rfl
          rw [this,hcs,hj]; rfl)
        (fun j j' hj hj' e=>by
          have:=D4 (hij _ _ (hnin _ (hatl j hj)) (hnin _ (hatl j' hj')) e);simp only [at_] at this;split at this <;> split at this <;> omega)
        (by
          have:=u1 (oi 0 0) (.vec e1 1 (xss.eraseIdx k).length (hdL (oi 0 1) u (xss.eraseIdx k))) (by simp [exL]);rw [hnm0] at this;rw [this]
          have hh:AV.renL (Bm θ i) (hdL (oi 0 1) u (xss.eraseIdx k))=hdL ((i.1.1*16,0),i.2) u (xss.eraseIdx k):=by
            apply List.ext_getElem?;intro j;rw [Rd,Cz,Cz];cases (xss.eraseIdx k)[j]? <;> rfl
          show some (Ob.vec e1 1 (xss.eraseIdx k).length (AV.renL (Bm θ i) (hdL (oi 0 1) u (xss.eraseIdx k))))=_;rw [hh,hlr])
        (fun j row hj=>by
          have:=u1 _ _ (hkin j row hj);rw [hnmk] at this;exact this)
        (fun x hx1 hx2=>by
          have:=u2 x fun j hj e=>by
            rcases hinus j hj with rfl | ⟨m,hm',rfl⟩
            · exact hx1 e.symm
            · exact hx2 m hm' e.symm
          rw [this];split
          · exact .inl rfl
          · rename_i hx3;refine .inr ⟨by rw [hob1,if_neg hx1],fun j hj e=>hx3 ?_⟩;rw [e];exact List.mem_map.2 ⟨_,hnin _ (hatl j hj),rfl⟩)
      refine ⟨σ2,hL1.trans hL2,hm2,.inr (.inl ⟨g,cap',?_,by omega,?_⟩)⟩
      · show σ2 (Bm θ i (oi 0 0))=_;rw [hnm0];exact hL2.loc _ _ (by rw [hσ1]; exact hσO)
      · rw [Nat.zero_mul,Nat.sub_zero,hlr,show k+1 - k=1 by omega]
  · exact absurd rfl h0
end Go.Proofs.YtehocbbnjfmgaaaDoor

namespace Go.Proofs.YtehocbbnjfmgaaaDoor
open Go.RowKit Go.Deep Go.Shelf
def Yx:Go.Shelf.Ren:=⟨fun | 45=>28 | n=>n,fun | 22=>22 | 23=>39 | n=>n,fun n=>n⟩
theorem Aft:SlLaysE.n45 Tryd.prog Yx where
  mixed:=by kernel_rfl
  f45:=⟨Tryd.f28.name,by decide,Tryd.func28.trans (congrArg some (by kernel_rfl))⟩
  t0:=Tryd.underlying0
  a0:=Tryd.isAgg0
  z0:=Tryd.sizeOf0
  v0:=Tryd.zeroValue0
  t3:=Tryd.underlying3
  a3:=Tryd.isAgg3
  z3:=Tryd.sizeOf3
  v3:=Tryd.zeroValue3
  t4:=Tryd.underlying4
  a4:=Tryd.isAgg4
  z4:=Tryd.sizeOf4
  v4:=Tryd.zeroValue4
  t22:=Tryd.underlying22
  a22:=Tryd.isAgg22
  z22:=Tryd.sizeOf22
  v22:=Tryd.zeroValue22
  a23:=Tryd.isAgg39
  z23:=Tryd.sizeOf39
theorem Nm:Az Tryd.prog 28=true:=by kernel_rfl
theorem Oh {a0 r:List (List Int)} {a1 a2:Int} (h:Cu a0 a1 a2=some r) {n_a0:Nat} (hn_a0:n_a0=a0.length) :
    Ea Tryd.prog Tab 28 [.own (oi 0 0) (.slice .int) 0 n_a0,ai a1,ai a2] [(oi 0 0,.mat 39 (oi 1 0) .int a0),(oi 1 0,.pool 3 .int a0)] (.own (oi 0 0) (.slice .int) 0 r.length) [(oi 0 0,.mat 39 (oi 0 1) .int r),(oi 0 1,.pool 3 .int r)] :=
  Adl Aft (fun w=>by rfl) (by kernel_rfl) h hn_a0
end Go.Proofs.YtehocbbnjfmgaaaDoor

