/- Lemmas on the program and on partial functions that stand in place of its code (part 4); no condition beyond those that each one states. -/
import Derived.Test.YtjlcpiemabfpiaaDoorZ3
import Derived.KernelRfl
import Derived.IntWalk
import Derived.Shelf.Strconv.Itoa3
import Derived.Shelf.Strings.OnBuilder
import Derived.Shelf.Strings.Replace
import Derived.Shelf.Strings.Split
import Derived.Shelf.Strconv.AtoiAll
import Derived.Shelf.LaysC
namespace Go.Proofs.YtjlcpiemabfpiaaDoor
open Go.RowKit Go.Deep
section
variable {P:Program} {G:World->Prop}
theorem Ab {x y:AC} {R:AE->St->Prop} {S:St} (h:awp P G x (Gj (fun S'=>∃ S'',WeakG G S' S''∧awp P G y R S'') R) S):awp P G (.seq x y) R S:=h
theorem Td {x y:AC} {R:AE->St->Prop} {S:St} (K:St->Prop) (h:awp P G x (Gj (fun S'=>∃ S'',WeakG G S' S''∧K S'') R) S) (k:∀ S'',K S''->awp P G y R S''):awp P G (.seq x y) R S:=by
 unfold awp
 exact Cz (fun e S hq=>by
  cases e with
  | normal=>obtain ⟨S'',hw,hk⟩:=hq; exact ⟨S'',hw,k S'' hk⟩
  | exit id=>exact hq
  | ret=>exact hq) h
def Ac5 (rs:List Rec) (ds:List (List Oid)):List (Nat×Nat)->Bool
 | []=>true
 | p :: ps=>(let ri:=rs.getD p.2 (0,.any,[]); let rj:=rs.getD p.1 (0,.any,[]); let di:=ds.getD p.2 []; let dj:=ds.getD p.1 []
   ((!(ri.1==2)||rj.1==0)&&(!(rj.1==2)||ri.1==0))||((!(ri.1==2)||ri.2.2.all fun u=> !dj.contains u.1)&&((!(rj.1==2)||rj.2.2.all fun u=> !di.contains u.1)&&ri.2.2.all fun u=>rj.2.2.all fun v=> !(u.1==v.1))))&&Ac5 rs ds ps
theorem Bv {rs:List Rec} {ds:List (List Oid)}:∀ {bad:List (Nat×Nat)},Ac5 rs ds bad=true->Wt rs ds bad
 | [],_=>trivial
 | p :: ps,h=>by
  simp only [Ac5,Bool.and_eq_true] at h;refine ⟨?_,Bv h.2⟩;have h1:=h.1;simp only [Bool.or_eq_true,Bool.and_eq_true,Bool.not_eq_true',beq_eq_false_iff_ne,beq_iff_eq,List.all_eq_true,List.contains_eq_mem,decide_eq_false_iff_not] at h1;unfold Lm;rcases h1 with ⟨a,b⟩ | ⟨a,b,c⟩
  ·refine .inl ⟨fun e=>?_,fun e=>?_⟩
   ·rcases a with a | a
    ·exact absurd e a
    ·exact a
   ·rcases b with b | b
    ·exact absurd e b
    ·exact b
  ·refine .inr ⟨fun e=>?_,fun e=>?_,c⟩
   ·rcases a with a | a
    ·exact absurd e a
    ·exact a
   ·rcases b with b | b
    ·exact absurd e b
    ·exact b
def XW (P:Program) (G:World->Prop) (g k:Nat) (xs:List X) (tl:List (Nat×AV)) (ol:List (Oid×Option Ob)) (Kf:List (Nat×AV)->List (Oid×Option Ob)->Prop):Prop :=
 ∃ rs tl' ol',Aci P G g k xs (Ak tl) (Ai ol) rs (Ak tl') (Ai ol')∧Kf tl' ol'
def XD (P:Program) (G:World->Prop) (bad:List (Nat×Nat)) (g k:Nat) (xs:List X) (tl:List (Nat×AV)) (ol:List (Oid×Option Ob)) (ra:List Rec) (da:List (List Oid)) (Kf:List (Nat×AV)->List (Oid×Option Ob)->Prop):Prop :=
 ∃ rs ds tl' ol',Yz P G g k xs (Ak tl) (Ai ol) rs ds (Ak tl') (Ai ol')∧Wt (ra.reverse++rs) (da.reverse++ds) bad∧Kf tl' ol'
theorem Aa {xs:List X} {bad:List (Nat×Nat)} {R:AE->St->Prop} {tl:List (Nat×AV)} {ol:List (Oid×Option Ob)} {g:Nat} (g':Nat) (h:XW P G g 0 xs tl ol fun tl' ol'=>R .normal ⟨Ak tl',Ai ol',g'⟩) (hn:g+xs.length=g':=by kernel_rfl):awp P G (.region xs false bad) R ⟨Ak tl,Ai ol,g⟩:=by
 obtain ⟨rs,tl',ol',h,hr⟩:=h;exact ⟨rs,_,_,h,by subst hn; exact hr⟩
theorem Sq {tl:List (Nat×AV)} {d:Nat} {v:AV} (h:Ak tl d=v):Ak ((d,v) :: tl)=Ak tl:=by
 funext i;show (if i=d then v else Ak tl i)=Ak tl i;split
 ·rename_i e; rw [e,h]
 ·rfl
theorem rq {xs:List X} {tl:List (Nat×AV)} {ol:List (Oid×Option Ob)} {g k:Nat} {Kf:List (Nat×AV)->List (Oid×Option Ob)->Prop} (d:Nat) {b c:Bool} (q:b=c) (h:XW P G g k xs ((d,.bool c) :: tl) ol Kf) (hd:Ak tl d=.bool b:=by kernel_rfl):XW P G g k xs tl ol Kf:=by
 subst q;unfold XW at *
 rwa [Sq hd] at h
theorem dq {xs:List X} {bad:List (Nat×Nat)} {tl:List (Nat×AV)} {ol:List (Oid×Option Ob)} {g k:Nat} {ra:List Rec} {da:List (List Oid)} {Kf:List (Nat×AV)->List (Oid×Option Ob)->Prop} (d:Nat) {b c:Bool} (q:b=c) (h:XD P G bad g k xs ((d,.bool c) :: tl) ol ra da Kf) (hd:Ak tl d=.bool b:=by kernel_rfl):XD P G bad g k xs tl ol ra da Kf:=by
 subst q;unfold XD at *
 rwa [Sq hd] at h
theorem Bh {xs:List X} {bad:List (Nat×Nat)} {R:AE->St->Prop} {tl:List (Nat×AV)} {ol:List (Oid×Option Ob)} {g:Nat} (g':Nat) (h:XD P G bad g 0 xs tl ol [] [] fun tl' ol'=>R .normal ⟨Ak tl',Ai ol',g'⟩) (hn:g+xs.length=g':=by kernel_rfl):awp P G (.region xs true bad) R ⟨Ak tl,Ai ol,g⟩:=by
 obtain ⟨rs,ds,tl',ol',h,hb,hr⟩:=h;exact ⟨rs,ds,_,_,h,hb,by subst hn; exact hr⟩
theorem M6 (tl:List (Nat×AV)) (d:Nat) (v:AV):upd (Ak tl) d v=Ak ((d,v) :: tl):=by
 funext i;rfl
def Gk:Option Ob->Bool
 | some (.pool ..)=>false
 | some (.mat ..)=>false
 | some (.tv ..)=>false
 | _=>true
def Dn (us:List (Oid×Option Ob)):Bool:=us.all fun u=>Gk u.2
theorem Jc {ol:List (Oid×Option Ob)} {j:Oid} {o:Option Ob} (h:Gk o=true):upd (Ai ol) j o=Ai ((j,o) :: ol):=by
 cases o with
 | none=>funext i; rfl
 | some o=>cases o <;> first | (funext i; rfl) | cases h
theorem Ew:∀ (us ol:List (Oid×Option Ob)),Dn us=true->Au us (Ai ol)=Ai (us.reverseAux ol)
 | [],_,_=>rfl
 | (j,o) :: us,ol,h=>by
  simp only [Dn,List.all_cons,Bool.and_eq_true] at h;show Au us (upd (Ai ol) j o)=_;rw [Jc h.1];exact Ew us _ h.2
theorem Ek {p:Bool} {n:Nat} {x:X} {f:Nat->AV} {ob:Oid->Option Ob} {r:Rec} (h:Bg n x f ob=some r):D9 P G p n x f ob r:=by
 unfold Bg at h;unfold D9;split at h
 ·exact .inl (.inl (.inl h))
 ·split at h
  ·rename_i hc;exact ⟨true,hc,by rw [if_pos rfl]; exact .inl (.inl (.inl h))⟩
  ·rename_i hc;exact ⟨false,hc,by rw [if_neg (by simp)]; exact (osj h).symm⟩
  ·cases h
def Sc (gd:Option (Nat×Bool)) (f:Nat->AV):Prop :=
 match gd with
 | none=>True
 | some (s,c)=>f s=.bool c
theorem Xc {s:Nat} {b:Bool} {f:Nat->AV} (h:Sc (some (s,b)) f):gdv (f s) b=some true:=by
 rw [show f s=.bool b from h]; simp [gdv]
theorem Ds {s:Nat} {b:Bool} {f:Nat->AV} (h:f s=.bool b):Sc (some (s,b)) f:=h
theorem X6 {p:Bool} {n:Nat} {d:Option Nat} {gd:Option (Nat×Bool)} {fo:Opd} {xs:List Opd} {tys:List (List (Option Ty))} {f:Nat->AV} {ob:Oid->Option Ob} {F:FuncId} {caps args0 args:List AV} {rv:RV} {r:AV×List (Oid×Option Ob)}
  (hgd:Sc gd f) (hfo:fo.ev f=.fn F caps) (h1:Iz (gnd ob 8) ((xs++caps.map Opd.cst).map (Opd.ev f))=some args0) (hn:Ko tys args0=args) (hb:Bf P F=true) (hc:A7 P G F args rv) (hni:rv.noI=true) (hr:rv.out (Gt ((d.getD 0,0),n)) ((xs++caps.map Opd.cst).map (Opd.ev f))=r) :
  D9 P G p n ⟨d,gd,.call fo xs tys⟩ f ob (1,r.1,r.2):=by
 subst hn;have key:EvR P G p f ob ((d.getD 0,0),n) (.call fo xs tys) (1,r.1,r.2):=.inr ⟨fo,xs,tys,F,caps,rfl,hfo,.inl ⟨rfl,hb,args0,rv,.inl ⟨h1,hni⟩,hc,hr⟩⟩;unfold D9;cases gd with
 | none=>exact key
 | some sb=>exact ⟨true,Xc hgd,by rw [if_pos rfl]; exact key⟩
theorem Acf {n:Nat} {d:Option Nat} {gd:Option (Nat×Bool)} {fo:Opd} {xs:List Opd} {tys:List (List (Option Ty))} {f:Nat->AV} {ob:Oid->Option Ob} {F:FuncId} {caps zs args:List AV} {v:AV} {ol us:List (Oid×Ob)} (θ:Oid->Oid)
  (hgd:Sc gd f) (hfo:fo.ev f=.fn F caps) (hz:(xs++caps.map Opd.cst).map (Opd.ev f)=zs) (h1:Mu θ (Zk ((nmL ol).map θ) ob) zs args) (h2:∀ q∈exL ol,ob (θ q.1)=some (q.2.ren θ)) (h3:∀ q∈exL ol,∀ q'∈exL ol,θ q.1=θ q'.1->q.1=q'.1) (h4:∀ j∈nmL ol,Reached zs ob (θ j))
  (h5:∀ q∈exL us,q.1.2=1∨(q.1.2=0∧q.1∈nmL ol)) (hb:Bf P F=true) (hc:Od P G F args ol v us) :
  D9 P G false n ⟨d,gd,.call fo xs tys⟩ f ob (2,v.ren (Cn θ ((d.getD 0,0),n)),Iy θ ((d.getD 0,0),n) ol us):=by
 have hN:Aa5 P G f ob ((d.getD 0,0),n) F (xs++caps.map Opd.cst) (v.ren (Cn θ ((d.getD 0,0),n)),Iy θ ((d.getD 0,0),n) ol us):=by
  rw [← hz] at h1 h4;refine ⟨hb,θ,args,ol,us,v,h1,h2,fun j k hj hk e=>?_,h4,hc,fun j hj=>?_,rfl⟩
  ·obtain ⟨q,hq,rfl⟩:=List.mem_map.1 hj;obtain ⟨q',hq',rfl⟩:=List.mem_map.1 hk;exact h3 q hq q' hq' e
  ·obtain ⟨q,hq,rfl⟩:=List.mem_map.1 hj;rcases h5 q hq with h | ⟨_,h⟩
   ·exact .inl (by rw [h]; decide)
   ·exact .inr h
 have key:EvR P G false f ob ((d.getD 0,0),n) (.call fo xs tys) (2,v.ren (Cn θ ((d.getD 0,0),n)),Iy θ ((d.getD 0,0),n) ol us):=.inr ⟨fo,xs,tys,F,caps,rfl,hfo,.inr ⟨rfl,rfl,hN⟩⟩;unfold D9;cases gd with
 | none=>exact key
 | some sb=>exact ⟨true,Xc hgd,by rw [if_pos rfl]; exact key⟩
theorem Acp {n:Nat} {d:Option Nat} {gd:Option (Nat×Bool)} {q:Q} {f:Nat->AV} {ob:Oid->Option Ob} {r:Rec} (hgd:Sc gd f) (h:evL f ((d.getD 0,0),n) q=some r):D9 P G false n ⟨d,gd,q⟩ f ob r:=by
 have key:EvR P G false f ob ((d.getD 0,0),n) q r:=.inl (.inl (.inr h));unfold D9;cases gd with
 | none=>exact key
 | some sb=>exact ⟨true,Xc hgd,by rw [if_pos rfl]; exact key⟩
theorem Am {g k:Nat} {tl:List (Nat×AV)} {ol:List (Oid×Option Ob)} {Kf:List (Nat×AV)->List (Oid×Option Ob)->Prop} (h:Kf tl ol):XW P G g k [] tl ol Kf:=⟨[],tl,ol,⟨rfl,rfl,rfl⟩,h⟩
theorem Kj {bad:List (Nat×Nat)} {g k:Nat} {tl:List (Nat×AV)} {ol:List (Oid×Option Ob)} {ra:List Rec} {da:List (List Oid)} {Kf:List (Nat×AV)->List (Oid×Option Ob)->Prop} (hb:Wt (ra.reverse++[]) (da.reverse++[]) bad) (h:Kf tl ol):XD P G bad g k [] tl ol ra da Kf:=⟨[],[],tl,ol,⟨rfl,rfl,rfl,rfl⟩,hb,h⟩
section
variable {g k d:Nat} {gd:Option (Nat×Bool)} {q:Q} {xs:List X} {tl:List (Nat×AV)} {ol:List (Oid×Option Ob)} {bad:List (Nat×Nat)} {ra:List Rec} {da:List (List Oid)} {Kf:List (Nat×AV)->List (Oid×Option Ob)->Prop}
theorem Zn (c:Nat) (v:AV) (us ol':List (Oid×Option Ob)) (h:D9 P G false (g+k) ⟨some d,gd,q⟩ (Ak tl) (Ai ol) (c,v,us)) (he:Au us (Ai ol)=Ai ol') (h3:XW P G g (k+1) xs ((d,v) :: tl) ol' Kf):XW P G g k (⟨some d,gd,q⟩ :: xs) tl ol Kf :=
 by
 obtain ⟨rs,tl',ol',h3,hk⟩:=h3;exact ⟨_,tl',ol',⟨_,_,rfl,h,by simp only [Gi,M6,he]; exact h3⟩,hk⟩
theorem Ab2 (c:Nat) (v:AV) (us ol':List (Oid×Option Ob)) (h:D9 P G false (g+k) ⟨none,gd,q⟩ (Ak tl) (Ai ol) (c,v,us)) (he:Au us (Ai ol)=Ai ol') (h3:XW P G g (k+1) xs tl ol' Kf):XW P G g k (⟨none,gd,q⟩ :: xs) tl ol Kf :=
 by
 obtain ⟨rs,tl',ol',h3,hk⟩:=h3;exact ⟨_,tl',ol',⟨_,_,rfl,h,by simp only [Gi,he]; exact h3⟩,hk⟩
theorem Add (c:Nat) (v:AV) (us ol':List (Oid×Option Ob)) (h:D9 P G false (g+k) ⟨some d,gd,q⟩ (Ak tl) (only (rdX (Ak tl) (Ai ol) ⟨some d,gd,q⟩) (Ai ol)) (c,v,us)) (he:Au us (Ai ol)=Ai ol') (h3:XD P G bad g (k+1) xs ((d,v) :: tl) ol' ((c,v,us) :: ra) ((rdX (Ak tl) (Ai ol) ⟨some d,gd,q⟩) :: da) Kf):XD P G bad g k (⟨some d,gd,q⟩ :: xs) tl ol ra da Kf :=
 by
 obtain ⟨rs,ds,tl',ol',h3,hb,hk⟩:=h3;refine ⟨_,_,tl',ol',⟨_,rs,ds,rfl,rfl,h,by simp only [Gi,M6,he]; exact h3⟩,?_,hk⟩
 simpa using hb
theorem Ace (c:Nat) (v:AV) (us ol':List (Oid×Option Ob)) (h:D9 P G false (g+k) ⟨none,gd,q⟩ (Ak tl) (only (rdX (Ak tl) (Ai ol) ⟨none,gd,q⟩) (Ai ol)) (c,v,us)) (he:Au us (Ai ol)=Ai ol') (h3:XD P G bad g (k+1) xs tl ol' ((c,v,us) :: ra) ((rdX (Ak tl) (Ai ol) ⟨none,gd,q⟩) :: da) Kf):XD P G bad g k (⟨none,gd,q⟩ :: xs) tl ol ra da Kf :=
 by
 obtain ⟨rs,ds,tl',ol',h3,hb,hk⟩:=h3;refine ⟨_,_,tl',ol',⟨_,rs,ds,rfl,rfl,h,by simp only [Gi,he]; exact h3⟩,?_,hk⟩
 simpa using hb
theorem Rj (c:Nat) (v:AV) (us:List (Oid×Option Ob)) (h:D9 P G false (g+k) ⟨some d,gd,q⟩ (Ak tl) (Ai ol) (c,v,us)) (h3:XW P G g (k+1) xs ((d,v) :: tl) (us.reverseAux ol) Kf) (hx:Dn us=true):XW P G g k (⟨some d,gd,q⟩ :: xs) tl ol Kf:=Zn c v us _ h (Ew us ol hx) h3
theorem Adn (c:Nat) (v:AV) (us:List (Oid×Option Ob)) (h:D9 P G false (g+k) ⟨none,gd,q⟩ (Ak tl) (Ai ol) (c,v,us)) (h3:XW P G g (k+1) xs tl (us.reverseAux ol) Kf) (hx:Dn us=true):XW P G g k (⟨none,gd,q⟩ :: xs) tl ol Kf:=Ab2 c v us _ h (Ew us ol hx) h3
theorem S6 (c:Nat) (v:AV) (us:List (Oid×Option Ob)) (h:D9 P G false (g+k) ⟨some d,gd,q⟩ (Ak tl) (only (rdX (Ak tl) (Ai ol) ⟨some d,gd,q⟩) (Ai ol)) (c,v,us)) (h3:XD P G bad g (k+1) xs ((d,v) :: tl) (us.reverseAux ol) ((c,v,us) :: ra) ((rdX (Ak tl) (Ai ol) ⟨some d,gd,q⟩) :: da) Kf) (hx:Dn us=true):XD P G bad g k (⟨some d,gd,q⟩ :: xs) tl ol ra da Kf:=Add c v us _ h (Ew us ol hx) h3
theorem Ac2 (c:Nat) (v:AV) (us:List (Oid×Option Ob)) (h:D9 P G false (g+k) ⟨none,gd,q⟩ (Ak tl) (only (rdX (Ak tl) (Ai ol) ⟨none,gd,q⟩) (Ai ol)) (c,v,us)) (h3:XD P G bad g (k+1) xs tl (us.reverseAux ol) ((c,v,us) :: ra) ((rdX (Ak tl) (Ai ol) ⟨none,gd,q⟩) :: da) Kf) (hx:Dn us=true):XD P G bad g k (⟨none,gd,q⟩ :: xs) tl ol ra da Kf:=Ace c v us _ h (Ew us ol hx) h3
-- the shape of most steps: what the machine says is found by reckoning
theorem rs0 (v:AV) (h:Bg (g+k) ⟨some d,gd,q⟩ (Ak tl) (Ai ol)=some (0,v,[])) (h3:XW P G g (k+1) xs ((d,v) :: tl) ol Kf):XW P G g k (⟨some d,gd,q⟩ :: xs) tl ol Kf:=Rj 0 v [] (Ek h) h3 rfl
theorem rsl (v:AV) (h:Bg (g+k) ⟨some d,gd,q⟩ (Ak tl) (Ai ol)=some (1,v,[])) (h3:XW P G g (k+1) xs ((d,v) :: tl) ol Kf):XW P G g k (⟨some d,gd,q⟩ :: xs) tl ol Kf:=Rj 1 v [] (Ek h) h3 rfl
theorem rs1 (v:AV) (i:Oid) (o:Ob) (h:Bg (g+k) ⟨some d,gd,q⟩ (Ak tl) (Ai ol)=some (1,v,[(i,some o)])) (h3:XW P G g (k+1) xs ((d,v) :: tl) ((i,some o) :: ol) Kf) (hx:Gk (some o)=true:=by rfl):XW P G g k (⟨some d,gd,q⟩ :: xs) tl ol Kf:=Rj 1 v _ (Ek h) h3 (by simp only [Dn,List.all_cons,List.all_nil,hx]; rfl)
theorem rs2 (v:AV) (j i:Oid) (o:Ob) (h:Bg (g+k) ⟨some d,gd,q⟩ (Ak tl) (Ai ol)=some (2,v,[(j,none),(i,some o)])) (h3:XW P G g (k+1) xs ((d,v) :: tl) ((i,some o) :: (j,none) :: ol) Kf) (hx:Gk (some o)=true:=by rfl):XW P G g k (⟨some d,gd,q⟩ :: xs) tl ol Kf:=Rj 2 v _ (Ek h) h3 (by simp only [Dn,List.all_cons,List.all_nil,hx]; rfl)
theorem Yo (j i:Oid) (o:Ob) (h:Bg (g+k) ⟨none,gd,q⟩ (Ak tl) (Ai ol)=some (2,.any,[(j,none),(i,some o)])) (h3:XW P G g (k+1) xs tl ((i,some o) :: (j,none) :: ol) Kf) (hx:Gk (some o)=true:=by rfl):XW P G g k (⟨none,gd,q⟩ :: xs) tl ol Kf:=Adn 2 _ _ (Ek h) h3 (by simp only [Dn,List.all_cons,List.all_nil,hx]; rfl)
theorem ds0 (v:AV) (h:Bg (g+k) ⟨some d,gd,q⟩ (Ak tl) (only (rdX (Ak tl) (Ai ol) ⟨some d,gd,q⟩) (Ai ol))=some (0,v,[])) (h3:XD P G bad g (k+1) xs ((d,v) :: tl) ol ((0,v,[]) :: ra) ((rdX (Ak tl) (Ai ol) ⟨some d,gd,q⟩) :: da) Kf):XD P G bad g k (⟨some d,gd,q⟩ :: xs) tl ol ra da Kf:=S6 0 v [] (Ek h) h3 rfl
theorem dsl (v:AV) (h:Bg (g+k) ⟨some d,gd,q⟩ (Ak tl) (only (rdX (Ak tl) (Ai ol) ⟨some d,gd,q⟩) (Ai ol))=some (1,v,[])) (h3:XD P G bad g (k+1) xs ((d,v) :: tl) ol ((1,v,[]) :: ra) ((rdX (Ak tl) (Ai ol) ⟨some d,gd,q⟩) :: da) Kf):XD P G bad g k (⟨some d,gd,q⟩ :: xs) tl ol ra da Kf:=S6 1 v [] (Ek h) h3 rfl
theorem ds1 (v:AV) (i:Oid) (o:Ob) (h:Bg (g+k) ⟨some d,gd,q⟩ (Ak tl) (only (rdX (Ak tl) (Ai ol) ⟨some d,gd,q⟩) (Ai ol))=some (1,v,[(i,some o)])) (h3:XD P G bad g (k+1) xs ((d,v) :: tl) ((i,some o) :: ol) ((1,v,[(i,some o)]) :: ra) ((rdX (Ak tl) (Ai ol) ⟨some d,gd,q⟩) :: da) Kf) (hx:Gk (some o)=true:=by rfl):XD P G bad g k (⟨some d,gd,q⟩ :: xs) tl ol ra da Kf:=S6 1 v _ (Ek h) h3 (by simp only [Dn,List.all_cons,List.all_nil,hx]; rfl)
theorem ds2 (v:AV) (j i:Oid) (o:Ob) (h:Bg (g+k) ⟨some d,gd,q⟩ (Ak tl) (only (rdX (Ak tl) (Ai ol) ⟨some d,gd,q⟩) (Ai ol))=some (2,v,[(j,none),(i,some o)])) (h3:XD P G bad g (k+1) xs ((d,v) :: tl) ((i,some o) :: (j,none) :: ol) ((2,v,[(j,none),(i,some o)]) :: ra) ((rdX (Ak tl) (Ai ol) ⟨some d,gd,q⟩) :: da) Kf) (hx:Gk (some o)=true:=by rfl):XD P G bad g k (⟨some d,gd,q⟩ :: xs) tl ol ra da Kf:=S6 2 v _ (Ek h) h3 (by simp only [Dn,List.all_cons,List.all_nil,hx]; rfl)
theorem To (j i:Oid) (o:Ob) (h:Bg (g+k) ⟨none,gd,q⟩ (Ak tl) (only (rdX (Ak tl) (Ai ol) ⟨none,gd,q⟩) (Ai ol))=some (2,.any,[(j,none),(i,some o)])) (h3:XD P G bad g (k+1) xs tl ((i,some o) :: (j,none) :: ol) ((2,.any,[(j,none),(i,some o)]) :: ra) ((rdX (Ak tl) (Ai ol) ⟨none,gd,q⟩) :: da) Kf) (hx:Gk (some o)=true:=by rfl):XD P G bad g k (⟨none,gd,q⟩ :: xs) tl ol ra da Kf:=Ac2 2 _ _ (Ek h) h3 (by simp only [Dn,List.all_cons,List.all_nil,hx]; rfl)
section
variable {fo:Opd} {ys:List Opd} {tys:List (List (Option Ty))} {F:FuncId} {caps:List AV} {rv:RV} {args0:List AV}
theorem Cu (v:AV) (us:List (Oid×Option Ob)) (zs args:List AV) (hgd:Sc gd (Ak tl)) (h1:Iz (gnd (Ai ol) 8) zs=some args0) (hc:A7 P G F args rv) (hb:Bf P F=true) (h3:XW P G g (k+1) xs ((d,v) :: tl) (us.reverseAux ol) Kf) (hfo:fo.ev (Ak tl)=.fn F caps:=by kernel_rfl) (hz:(ys++caps.map Opd.cst).map (Opd.ev (Ak tl))=zs:=by kernel_rfl) (hn:Ko tys args0=args:=by kernel_rfl) (hr:rv.out (Gt ((d,0),g+k)) zs=(v,us):=by kernel_rfl) (hx:Dn us=true:=by rfl) (hni:rv.noI=true:=by kernel_rfl):XW P G g k (⟨some d,gd,.call fo ys tys⟩ :: xs) tl ol Kf:=by
 subst hz;exact Rj 1 v us (X6 (P:=P) (G:=G) (p:=false) (n:=g+k) (d:=some d) hgd hfo h1 hn hb hc hni hr) h3 hx
theorem U2 (v:AV) (us:List (Oid×Option Ob)) (zs args:List AV) (hgd:Sc gd (Ak tl)) (h1:Iz (gnd (only (rdX (Ak tl) (Ai ol) ⟨some d,gd,.call fo ys tys⟩) (Ai ol)) 8) zs=some args0) (hc:A7 P G F args rv) (hb:Bf P F=true) (h3:XD P G bad g (k+1) xs ((d,v) :: tl) (us.reverseAux ol) ((1,v,us) :: ra) ((rdX (Ak tl) (Ai ol) ⟨some d,gd,.call fo ys tys⟩) :: da) Kf) (hfo:fo.ev (Ak tl)=.fn F caps:=by kernel_rfl) (hz:(ys++caps.map Opd.cst).map (Opd.ev (Ak tl))=zs:=by kernel_rfl) (hn:Ko tys args0=args:=by kernel_rfl) (hr:rv.out (Gt ((d,0),g+k)) zs=(v,us):=by kernel_rfl) (hx:Dn us=true:=by rfl) (hni:rv.noI=true:=by kernel_rfl):XD P G bad g k (⟨some d,gd,.call fo ys tys⟩ :: xs) tl ol ra da Kf:=by
 subst hz;exact S6 1 v us (X6 (P:=P) (G:=G) (p:=false) (n:=g+k) (d:=some d) hgd hfo h1 hn hb hc hni hr) h3 hx
def Zz (l:List (Oid×Oid)) (ol us:List (Oid×Ob)) (n:Nat) (ol0:List (Oid×Option Ob)):Bool:=Qq l&&(E3 ol&&(Aby (Bx l) ol&&(Z2 ol us&&Xp n ol0)))
theorem Z7 {l:List (Oid×Oid)} {ol us:List (Oid×Ob)} {n:Nat} {ol0:List (Oid×Option Ob)} (h:Zz l ol us n ol0=true) (hR:Vo ol0 (Bx l) ol) :
  (∀ q∈exL ol,Ai ol0 (Bx l q.1)=some (q.2.ren (Bx l)))∧(∀ q∈exL ol,∀ q'∈exL ol,Bx l q.1=Bx l q'.1->q.1=q'.1)∧(∀ q∈exL us,q.1.2=1∨(q.1.2=0∧q.1∈nmL ol))∧∀ i:Oid,i.2=n->Au (Iy (Bx l) i ol us) (Ai ol0)=Ai (Ar (J1 (Cn (Bx l) i) us)++(G3 (Bx l) ol++ol0)):=by
 simp only [Zz,Bool.and_eq_true] at h;obtain ⟨c1,c2,c3,c4,c5⟩:=h;refine ⟨Tm c1 hR (Vg c2),Aay (fun p e u xss hm k=>Fk c1 ?_ k) c3 c2,Ye c4,fun i hi=>Aaz c1 c2 hR c4 (by rw [hi]; exact c5) c3⟩;unfold E3 at c2;rw [List.all_eq_true] at c2;have:=c2 _ hm;simp only [Bool.and_eq_true,beq_iff_eq] at this;exact this.1
theorem Aaq (v:AV) (ul:List (Oid×Option Ob)) (l:List (Oid×Oid)) (zs:List AV) {args:List AV} {ol0 us:List (Oid×Ob)} {v0:AV} (hgd:Sc gd (Ak tl)) (hc:Od P G F args ol0 v0 us) (hb:Bf P F=true) (hR:Vo ol (Bx l) ol0) (h1:Mu (Bx l) (Zk ((nmL ol0).map (Bx l)) (Ai ol)) zs args) (h4:∀ j∈nmL ol0,Reached zs (Ai ol) (Bx l j)) (h3:XW P G g (k+1) xs ((d,v) :: tl) (ul++ol) Kf) (hfo:fo.ev (Ak tl)=.fn F caps:=by kernel_rfl) (hz:(ys++caps.map Opd.cst).map (Opd.ev (Ak tl))=zs:=by kernel_rfl) (hB:Zz l ol0 us (g+k) ol=true:=by kernel_rfl) (hv:v0.ren (Cn (Bx l) ((d,0),g+k))=v:=by kernel_rfl) (hu:Ar (J1 (Cn (Bx l) ((d,0),g+k)) us)++G3 (Bx l) ol0=ul:=by kernel_rfl):XW P G g k (⟨some d,gd,.call fo ys tys⟩ :: xs) tl ol Kf:=by
 subst hv hu;obtain ⟨q1,q2,q3,q4⟩:=Z7 hB hR;exact Zn 2 _ _ _ (Acf (n:=g+k) (d:=some d) (Bx l) hgd hfo hz h1 q1 q2 h4 q3 hb hc) (q4 ((d,0),g+k) rfl) (by rw [List.append_assoc] at h3; exact h3)
theorem rsU (v:AV) (us:List (Oid×Option Ob)) (h:Bg (g+k) ⟨some d,gd,q⟩ (Ak tl) (Ai ol)=some (2,v,us)) (h3:XW P G g (k+1) xs ((d,v) :: tl) (us.reverseAux ol) Kf) (hx:Dn us=true:=by rfl):XW P G g k (⟨some d,gd,q⟩ :: xs) tl ol Kf:=Rj 2 v us (Ek h) h3 hx
end
end
-- what arguments read as
theorem Cq {g:AV->Option AV}:Iz g []=some []:=rfl
theorem An {g:AV->Option AV} {c d:AV} {cs ds:List AV} (h:g c=some d) (hs:Iz g cs=some ds):Iz g (c :: cs)=some (d :: ds):=by simp only [Iz,h,hs]
section
variable {ob:Oid->Option Ob} {n:Nat}
theorem Eo {i:Oid} {t u:Ty} {e:TypeId} {xs:List u.D} {len:Nat} (h:ob i=some (.arr e u xs)) (hl:len=xs.length):gnd ob (n+1) (.own i t 0 len)=some (.tree u xs):=by
 subst hl;simp only [gnd,h,Nat.zero_add,Nat.le_refl,if_true,List.drop_zero,List.take_length]
theorem G9 {cs ds:List AV} (h:Iz (gnd ob n) cs=some ds):gnd ob (n+1) (.agg cs)=some (.agg ds):=by simp only [gnd,h,Option.map_some]
end
-- steps that hang on something
section
variable {n:Nat} {d:Option Nat} {f:Nat->AV} {ob:Oid->Option Ob}
theorem Tl {s:Nat} {b:Bool} {q:Q} (hs:f s=.tup []):Bg n ⟨d,some (s,b),q⟩ f ob=some (0,.tup [],[]):=by
 simp [Bg,hs,gdv]
theorem P5 {sz:Nat} {x i:Opd} {t:Ty} {xs:List t.D} {y:t.D} {k:IntKind} {m:Int} {j:Nat} (hx:(x.ev f).un=.tree t xs) (hi:i.ev f=.int k m) (hs:sz=t.size) (h0:0<=m) (hj:m.toNat=j) (hy:xs[j]? =some y) {g:Option (Nat->Prop)} (hg:(x.ev f).tag=g:=by kernel_rfl):Bg n ⟨d,none,.i (.idx sz x i)⟩ f ob=some (0,.telt g t y 0,[]):=by
 subst hs hj hg;simp [Bg,ev,evN,hx,hi,h0,hy]
theorem Bp {sz:Nat} {x i:Opd} {t:Ty} {o:Oid} {len:Nat} {k:IntKind} {m:Int} {j:Nat} (hx:x.ev f=.own o t 0 len) (hi:i.ev f=.int k m) (hs:sz=t.size) (h0:0<=m) (hj:m.toNat=j) (hl:j<len):Bg n ⟨d,none,.i (.idx sz x i)⟩ f ob=some (0,.elt o j 0,[]):=by
 subst hs hj;have:m<(len:Int):=by omega
 simp [Bg,ev,evN,hx,hi,h0,AV.un,this]
theorem Ado {sz:Nat} {x i:Opd} {t:Ty} {o:Oid} {off len:Nat} {k:IntKind} {m:Int} {j:Nat} (hx:x.ev f=.own o t off len) (hi:i.ev f=.int k m) (hs:sz=t.size) (h0:0<=m) (hj:off+m.toNat=j) (hl:m.toNat<len):Bg n ⟨d,none,.i (.idx sz x i)⟩ f ob=some (0,.elt o j 0,[]):=by
 subst hs hj;have:m<(len:Int):=by omega
 simp [Bg,ev,evN,hx,hi,h0,AV.un,this]
theorem Hh {one:Bool} {m:Nat} {x:Opd} {i:Oid} {j k:Nat} {e:TypeId} {t:Ty} {xs:List t.D} {y:t.D} {c:AV} (hx:x.ev f=.elt i j k) (hob:ob i=some (.arr e t xs)) (hy:xs[j]? =some y) (hc:C9 one m k (t.av y)=some c):Bg n ⟨d,none,.i (.ld one m x)⟩ f ob=some (1,c,[]):=by
 simp [Bg,ev,evN,evR,hx,hob,hy,hc]
theorem Te {one:Bool} {m:Nat} {x y:Opd} {i:Oid} {j k:Nat} {e:TypeId} {t:Ty} {xs:List t.D} {x0 x1:t.D} {cs:List AV} (hx:x.ev f=.elt i j k) (hob:ob i=some (.arr e t xs)) (hy:xs[j]? =some x0) (hc:H6 one m k (t.av x0) (y.ev f)=some cs) (hd:t.ofAV cs=some x1):Bg n ⟨d,none,.st one m x y⟩ f ob=some (2,.any,[(i,none),(i,some (.arr e t (xs.set j x1)))]):=by
 simp [Bg,ev,V8,hx,hob,hy,hc,hd]
theorem Adi {e:TypeId} {t:Ty} {by_:Nat} {l c:Opd} {k k':IntKind} {m m':Int} {j:Nat} (hl:l.ev f=.int k m) (hc:c.ev f=.int k' m') (h:0<=m∧m<=m'∧m'<=1073741824∧(by_:Int)*m'<=140737488355328) (hj:m.toNat=j):Bg n ⟨d,none,.make e t by_ l c⟩ f ob=some (1,.own ((d.getD 0,0),n) t 0 j,[(((d.getD 0,0),n),some (.arr e t (List.replicate j t.dflt)))]):=by
 subst hj;simp only [Bg,ev,Pz,hl,hc,if_pos h]
theorem E4 {t t':Ty} {i:Oid} {e:TypeId} {xs:List t.D} {len:Nat} (h:ob i=some (.arr e t xs)) (hl:len=xs.length):En ob t (.own i t' 0 len)=some xs:=by
 subst hl;simp only [En,h,Nat.zero_add,Nat.le_refl,if_true,Ty.eq?_self,Eh,List.drop_zero,List.take_length]
theorem Abm {t:Ty}:Mk f ob t []=some []:=rfl
theorem Fl {t:Ty} {x:Opd} {c:AV} {xs:List Opd} {ys:List t.D} {yss:List (List t.D)} (hx:x.ev f=c) (hs:En ob t c=some ys) (h:Mk f ob t xs=some yss):Mk f ob t (x :: xs)=some (ys :: yss):=by
 simp only [Mk,hx,hs,h]
theorem Ady {t:Ty} {xs:List Opd} {yss:List (List t.D)} {us:List (Oid×Option Ob)} (h:Mk f ob t xs=some yss) {e:TypeId} (hu:(xs.flatMap fun x=>Ih (x.ev f))=us):Bg n ⟨d,none,.mkV e (.slice t) 1 xs⟩ f ob=some (2,.tree (.slice t) yss,us):=by
 subst hu;simp only [Bg,ev,Ly,h,if_true]
theorem K8 {e:TypeId} {t t':Ty} {by_:Nat} {x y:Opd} {c:AV} {ys xs zs:List t.D} {j:Oid} {len:Nat} (hx:x.ev f=.own j t' 0 len) (hob:ob j=some (.arr e t xs)) (hl:len=xs.length) (hy:y.ev f=c) (hs:En ob t c=some ys) (hz:zs=xs++ys) (h:xs.length+ys.length<=1073741824∧(xs.length+ys.length)*by_<=140737488355328) :
  Bg n ⟨d,none,.append e t by_ x y⟩ f ob=some (2,.own (j.1,n) t 0 zs.length,[(j,none),((j.1,n),some (.arr e t zs))]):=by
 subst hl hz;simp only [Bg,ev,Fr,hx,hy,hs,hob,Ty.eq?_self,Nat.le_refl,true_and,h.1,h.2,and_self,if_true,Eh,List.take_length,List.length_append]
theorem Wc {sz:Nat} {x:Opd} {lo hi mx:Option Opd} {t:Ty} {xs zs:List t.D} {l h m:Int} (hx:(x.ev f).un=.tree t xs) (hl:Cs f 0 lo=some l) (hh:Cs f xs.length hi=some h) (hm:Cs f xs.length mx=some m) (hs:t.size=sz) (hb:0<=l∧l<=h∧h<=m∧m<=xs.length) (hz:(xs.take h.toNat).drop l.toNat=zs) (htag:(x.ev f).tag=none:=by kernel_rfl) :
  Bg n ⟨d,none,.slice sz x lo hi mx⟩ f ob=some (0,.tree t zs,[]):=by
 subst hs hz;simp only [Bg,ev,L3,hx,htag,trM,hl,hh,hm,true_and,hb.1,hb.2.1,hb.2.2.1,hb.2.2.2,and_self,if_true]
theorem Aad {sz:Nat} {x:Opd} {lo hi:Option Opd} {t:Ty} {i:Oid} {off len o' j:Nat} {l h:Int} (hx:x.ev f=.own i t off len) (hl:Cs f 0 lo=some l) (hh:Cs f len hi=some h) (hs:t.size=sz) (hb:0<=l∧l<=h∧h<=len) (ho:off+l.toNat=o') (hj:(h - l).toNat=j) :
  Bg n ⟨d,none,.slice sz x lo hi none⟩ f ob=some (0,.own i t o' j,[]):=by
 subst hs ho hj;simp only [Bg,ev,L3,hx,AV.un,hl,hh,true_and,hb.1,hb.2.1,hb.2.2,and_self,if_true]
theorem Ac4 {x y:Opd} {j:Nat} (hx:x.ev f=.int .i64 j) (hy:y.ev f=.int .i64 1) (h:j+1<4611686018427387904):Bg n ⟨d,none,.i (.bin .add x y)⟩ f ob=some (0,.int .i64 ((j+1:Nat):Int),[]):=by
 have:IntKind.i64.wrap ((j:Int)+1)=((j+1:Nat):Int):=by rw [Go.IntWalk.i64_in _ (by omega)]; rfl
 simp [Bg,ev,evN,N6,hx,hy,this]
theorem Adw {x y:Opd} {k:IntKind} {a b:Int} (hx:x.ev f=.int k a) (hy:y.ev f=.int k b) (h:b≠0):Bg n ⟨d,none,.i (.bin .quo x y)⟩ f ob=some (0,.int k (k.wrap (a.tdiv b)),[]):=by
 simp [Bg,ev,evN,N6,hx,hy,h]
theorem Acw {x y:Opd} {k:IntKind} {a b:Int} (hx:x.ev f=.int k a) (hy:y.ev f=.int k b) (h:b≠0):Bg n ⟨d,none,.i (.bin .rem x y)⟩ f ob=some (0,.int k (a.tmod b),[]):=by
 simp [Bg,ev,evN,N6,hx,hy,h]
theorem Ik {x y:Opd} {a b:ByteArray} (hx:x.ev f=.str a) (hy:y.ev f=.str b) (h:(a.size+b.size:Nat)<=9223372036854775807):Bg n ⟨d,none,.i (.bin .add x y)⟩ f ob=some (0,.str (a++b),[]):=by
 simp [Bg,ev,evN,N6,hx,hy,h]
theorem Rc {x i:Opd} {s:ByteArray} {k:IntKind} {m:Int} {j:Nat} {b:UInt8} (hx:x.ev f=.str s) (hi:i.ev f=.int k m) (h0:0<=m) (hj:m.toNat=j) (hy:s[j]? =some b):Bg n ⟨d,none,.i (.char x i)⟩ f ob=some (0,.int .u8 b.toNat,[]):=by
 subst hj;simp [Bg,ev,evN,hx,hi,h0,hy]
theorem Acr {x:Opd} {lo hi:Option Opd} {s:ByteArray} {l h:Int} (hx:x.ev f=.str s) (hl:Cs f 0 lo=some l) (hh:Cs f s.size hi=some h) (hb:0<=l∧l<=h∧h<=s.size):Bg n ⟨d,none,.sub x lo hi⟩ f ob=some (0,.str (s.extract l.toNat h.toNat),[]):=by
 simp [Bg,ev,Xz,hx,hl,hh,hb]
end
theorem Ae {c:Opd} {x y:AC} {R:AE->St->Prop} {S:St} {t:Bool} (ht:t=true) (h1:awp P G x R S) (h:c.ev S.tm=.bool t:=by kernel_rfl):awp P G (.cond c x y) R S:=by
 subst ht; exact .inl ⟨true,h,fun _=>h1,fun h=>(nomatch h)⟩
theorem Af {c:Opd} {x y:AC} {R:AE->St->Prop} {S:St} {t:Bool} (ht:t=false) (h2:awp P G y R S) (h:c.ev S.tm=.bool t:=by kernel_rfl):awp P G (.cond c x y) R S:=by
 subst ht; exact .inl ⟨false,h,fun h=>(nomatch h),fun _=>h2⟩
theorem At {i:Nat} {a:AC} {R:AE->St->Prop} {S:St} (h:awp P G a (Fe i R) S):awp P G (.block i a) R S:=h
theorem Y1 {a:AC} {R:AE->St->Prop} {S:St} {α:Type} (I:α->St->Prop) (μ:α->Nat) (h0:∃ s S0,WeakG G S S0∧I s S0) (h1:∀ s S1,I s S1->awp P G a (Gj (fun S2=>∃ s' S3,WeakG G S2 S3∧I s' S3∧μ s'<μ s) R) S1):awp P G (.loop a) R S:=⟨α,I,μ,h0,h1⟩
theorem Br {i:Nat} {R:AE->St->Prop} {S:St} (h:R (.exit i) S):awp P G (.exit i) R S:=h
theorem Aj {R:AE->St->Prop} {S:St} (h:R .normal S):awp P G .skip R S:=h
theorem Ah {R:AE->St->Prop} {S:St} (h:R .ret S):awp P G .ret R S:=h
end
section
variable {K:St->Prop} {R:AE->St->Prop} {S:St} {i j:Nat}
theorem tn_ (h:K S):Gj K R .normal S:=h
theorem te_ (h:R (.exit i) S):Gj K R (.exit i) S:=h
theorem tr_ (h:R .ret S):Gj K R .ret S:=h
theorem bn_ (h:R .normal S):Fe i R .normal S:=h
theorem be_ (h:R .normal S):Fe i R (.exit i) S:=by simpa [Fe] using h
theorem br_ (h:R .ret S):Fe i R .ret S:=h
end
def tmL:Nat->List AV->List (Nat×AV)
 | _,[]=>[]
 | k,v :: r=>(k,v) :: tmL (k+1) r
theorem V6:∀ (l:List AV) (k i:Nat),Ak (tmL k l) (k+i)=l.getD i .any
 | [],k,i=>by simp [tmL,Ak]
 | v :: r,k,i=>by
  cases i with
  | zero=>simp [tmL,Ak]
  | succ i =>
   have:=V6 r (k+1) i;simp only [tmL,Ak];rw [if_neg (by omega),show k+(i+1)=k+1+i by omega,this];simp
theorem Ya (args:List AV):(fun i=>args.getD i .any)=Ak (tmL 0 args):=by
 funext i;have:=V6 args 0 i;rw [Nat.zero_add] at this;exact this.symm
theorem St.init_eq (args:List AV):St.init args=⟨Ak (tmL 0 args),Ai [],1⟩:=by
 unfold St.init;rw [Ya];rfl
theorem Yn {G:World->Prop} {tl:List (Nat×AV)} {ol:List (Oid×Option Ob)} {g:Nat} (s:Nat) (e:TypeId) (t:Ty) (ht:t.flat=true) (hs:Ak tl s=.nils):WeakG G ⟨Ak tl,Ai ol,g⟩ ⟨Ak ((s,.own ((s,0),g) t 0 0) :: tl),Ai ((((s,0),g),some (.arr e t [])) :: ol),g+1⟩:=by
 have:=Aag (G:=G) (S:=⟨Ak tl,Ai ol,g⟩) s e t ht hs;rw [M6] at this;have e2:upd (Ai ol) ((s,0),g) (some (.arr e t []))=Ai ((((s,0),g),some (.arr e t [])) :: ol):=Jc rfl;rw [e2] at this;exact this
theorem L5 {G:World->Prop} {tl:List (Nat×AV)} {ol:List (Oid×Option Ob)} {g:Nat} (s:Nat) (v v':AV) (h:Ak tl s=v) (e:v=v'):WeakG G ⟨Ak tl,Ai ol,g⟩ ⟨Ak ((s,v') :: tl),Ai ol,g⟩:=by
 subst e
 have:Ak ((s,v) :: tl)=Ak tl:=by
  funext i;simp only [Ak];split
  ·rename_i e; rw [e]; exact h.symm
  ·rfl
 rw [this]; exact WeakG.refl _
theorem Vu {G:World->Prop} {tl:List (Nat×AV)} {ol:List (Oid×Option Ob)} {g:Nat} (j:Oid) (o o':Ob) (h:Ai ol j=some o) (e:o=o') (hx:Gk (some o)=true:=by rfl):WeakG G ⟨Ak tl,Ai ol,g⟩ ⟨Ak tl,Ai ((j,some o') :: ol),g⟩:=by
 subst e
 have:Ai ((j,some o) :: ol)=Ai ol:=by
  rw [← Jc hx,Aar _ _ _ h]
 rw [this]; exact WeakG.refl _
theorem Jr {G:World->Prop} {tl:List (Nat×AV)} {ol:List (Oid×Option Ob)} {g:Nat} (s:Nat) (c:Oid) (k:Nat) (ty:TypeId) (cs ds:List AV) (e:TypeId) (t:Ty) (ht:t.flat=true) (hb:Ai ol c=some (.cells ty cs)) (hk:cs[k]? =some .nils) (hd:cs.set k (.own ((s,0),g) t 0 0)=ds) :
  WeakG G ⟨Ak tl,Ai ol,g⟩ ⟨Ak tl,Ai ((c,some (.cells ty ds)) :: (((s,0),g),some (.arr e t [])) :: ol),g+1⟩:=by
 subst hd;have:=Sd (G:=G) (S:=⟨Ak tl,Ai ol,g⟩) s c k ty cs e t ht hb hk;have e2:upd (upd (Ai ol) ((s,0),g) (some (.arr e t []))) c (some (.cells ty (cs.set k (.own ((s,0),g) t 0 0))))=Ai ((c,some (.cells ty (cs.set k (.own ((s,0),g) t 0 0)))) :: (((s,0),g),some (.arr e t [])) :: ol):=by rw [Jc rfl,Jc rfl]
 rw [← e2];exact this
def Acy (ol us:List (Oid×Ob)) (args:List AV) (v:AV):Bool :=
 (E3 ol&&(E3 us&&((ol.all fun q=>q.1.2==0)&&((us.all fun q=>q.1.2==1||(!q.2.isPool&&(Bk ol).contains q.1))&&(ndB (Bk us)&&ndB (Bm us))))))&&((ol.all fun q=>q.2.clo1 (Bk ol))&&((us.all fun q=>q.2.hp1 (Bk us))&&(AV.cloL (Bk ol) args&&AV.hpB (Bk us) v)))
def Ud (ol:List (Oid×Ob)):List (Oid×Ob)->Prop
 | []=>True
 | q :: r=>(match q.2 with
  | .mat _ p u xss=>∃ e,(p,Ob.pool e u xss)∈ol
  | _=>True)∧Ud ol r
theorem Lf {ol:List (Oid×Ob)}:∀ {l:List (Oid×Ob)},Ud ol l->∀ i e p u xss,(i,Ob.mat e p u xss)∈l->∃ e,(p,Ob.pool e u xss)∈ol
 | _ :: _,h,i,e,p,u,xss,hm=>by
  rcases List.mem_cons.1 hm with rfl | hm
  ·exact h.1
  ·exact Lf h.2 i e p u xss hm
theorem Xw {ol:List (Oid×Ob)} {p:Oid} {e:TypeId} {u:Ty} {xss:List (List u.D)}:(p,Ob.pool e u xss)∈ol->∀ k,k<xss.length->kid p k∈nmL ol:=by
 induction ol with
 | nil=>intro h; cases h
 | cons x r ih =>
  obtain ⟨x1,x2⟩:=x;intro h k hk;rcases List.mem_cons.1 h with h | h
  ·cases h;simp only [nmL,exL,List.map_append,List.mem_append];refine .inl (List.mem_map.2 ⟨(kid p k,.arr e u xss[k]),List.mem_map.2 ⟨(xss[k],k),?_,rfl⟩,rfl⟩);rw [List.mem_zipIdx_iff_getElem?]; exact gEg hk
  ·have:=ih h k hk;cases x2 <;> simp only [nmL,exL,List.map_cons,List.map_append] at this⊢ <;> first | exact List.mem_cons_of_mem _ this | exact List.mem_append_right _ this
theorem Jk {ol:List (Oid×Ob)} {i:Oid} (h:i∈Bk ol):i∈nmL ol:=by
 obtain ⟨o,ho,hp⟩:=Aa1 h;exact List.mem_map.2 ⟨_,O8 ho hp,rfl⟩
theorem Adh {D:Oid->Prop} {p:Oid} {u:Ty} (xss:List (List u.D)) (h:∀ k,k<xss.length->D (kid p k)):AV.hpL D (hdL p u xss):=by
 have key:∀ l:List (List u.D×Nat),(∀ x∈l,D (kid p x.2))->AV.hpL D (l.map fun x=>.own (kid p x.2) u 0 x.1.length):=by
  intro l
  induction l with
  | nil=>intro _; trivial
  | cons x l ih=>intro h; exact ⟨h x (by simp),ih fun y hy=>h y (by simp [hy])⟩
 refine key _ fun x hx=>h _ ?_
 obtain ⟨row,k⟩:=x;rw [List.mem_zipIdx_iff_getElem?] at hx;exact (gSi.1 hx).1
theorem Ada {D:List Oid} (o:Ob) (h:o.clo1 D=true) (hp:o.isPool=false) (hm:∀ e p u xss,o≠.mat e p u xss):o.exp.cloP (·∈D):=by
 cases o with
 | cells _ cs=>exact AV.cloPL_of cs h
 | vec _ _ _ cs=>exact AV.cloPL_of cs h
 | mat e p u xss=>exact absurd rfl (hm _ _ _ _)
 | arr _ _ _=>trivial
 | map _ _ _=>trivial
 | pool _ _ _=>cases hp
 | tv e m t xs=>exact Wu xs
theorem Adp {D:List Oid} (o:Ob) (h:o.hp1 D=true) (hp:o.isPool=false) (hm:∀ e p u xss,o≠.mat e p u xss):o.exp.hp (·∈D):=by
 cases o with
 | cells _ cs=>exact AV.hpB_PL cs h
 | vec _ _ _ cs=>exact AV.hpB_PL cs h
 | mat e p u xss=>exact absurd rfl (hm _ _ _ _)
 | arr _ _ _=>trivial
 | map _ _ _=>trivial
 | pool _ _ _=>cases hp
 | tv e m t xs=>cases h
theorem cloP_mono {D E:Oid->Prop} (hd:∀ i,D i->E i) (o:Ob) (h:o.cloP D):o.cloP E:=by
 cases o <;> first | exact AV.cloPL_mono hd _ h | exact h
theorem hp_mono {D E:Oid->Prop} (hd:∀ i,D i->E i) (o:Ob) (h:o.hp D):o.hp E:=by
 cases o <;> first | exact AV.hpL_mono hd _ h | exact h
section
variable {P:Program} {G:World->Prop} (hfol:P.follows .mixedOrders=true) {g:FuncId} {fn:Func} (hf:P.funcs[g]? =some fn) {ac:AC} {rs:List Res} (hc:A2 P fn=some (ac,rs)) {args:List AV} {r:RV} {n:Nat} (hN:fn.ntmps=n) (hn:args.length<=n)
include hfol hf hc hN hn
theorem A5 [IsP P] {tl:List (Nat×AV)} (htl:tmL 0 args=tl) (h:awp P G ac (fun e S=>∃ S',WeakG G S S'∧(e=.normal∨e=.ret)∧RetOK [] rs S' r) ⟨Ak tl,Ai [],1⟩):A7 P G g args r:=by
 refine Ab3 hfol hf hc hN hn ?_;rw [St.init_eq,htl];exact h
omit hN hn in
theorem Sf [IsP P] (hN:fn.ntmps=n) (hn:args.length<=n) {tl:List (Nat×AV)} (htl:tmL 0 args=tl) {ol us:List (Oid×Ob)} {v:AV} (hB:Acy ol us args v=true) (hm1:Ud ol ol) (hm2:Ud us us)
  (h:awp P G ac (fun e S=>∃ S',WeakG G S S'∧(e=.normal∨e=.ret)∧(∃ rvs,Res.evL S'.tm S'.ob rs=some rvs∧v=Ux rvs)∧∀ q∈exL us,S'.ob q.1=some q.2) ⟨Ak tl,Ai (Ar ol),1⟩):Od P G g args ol v us:=by
 simp only [Acy,Bool.and_eq_true] at hB;obtain ⟨⟨a1,a2,a3,a4,a5,a6⟩,b1,b2,b3,b4⟩:=hB;rw [List.all_eq_true] at a3 a4 b1 b2
 have h0:∀ {l:List (Oid×Ob)},E3 l=true->∀ q∈l,q.1.1.2=0:=fun h q hq=>by
  unfold E3 at h;rw [List.all_eq_true] at h;have:=h q hq;simp only [Bool.and_eq_true,beq_iff_eq] at this;exact this.1
 refine Aax hfol hf hc hN hn (fun q hq=>?_) (Ack (D3 a5) (D3 a6) (h0 a2)) (fun q hq=>?_) (AV.cloPL_mono (fun i hi=>Jk hi) _ (AV.cloPL_of args b3)) (AV.hp_mono (fun i hi=>Jk hi) _ (AV.hpB_P v b4)) ?_
 ·rcases Et hq with ⟨p,e,u,xss,k,row,m1,m2,rfl⟩ | ⟨o,m1,m2,m3⟩
  ·have:=a3 _ m1;rw [beq_iff_eq] at this;exact ⟨this,trivial⟩
  ·have:=a3 _ m1;refine ⟨by simpa using this,?_⟩;rw [m3];by_cases hmt:∃ e p u xss,o=.mat e p u xss
   ·obtain ⟨e,p,u,xss,rfl⟩:=hmt;obtain ⟨e',hp⟩:=Lf hm1 _ _ _ _ _ m1;exact Aak xss fun k hk=>Xw hp k hk
   ·exact cloP_mono (fun i hi=>Jk hi) _ (Ada o (b1 _ m1) m2 fun e p u xss h=>hmt ⟨e,p,u,xss,h⟩)
 ·rcases Et hq with ⟨p,e,u,xss,k,row,m1,m2,rfl⟩ | ⟨o,m1,m2,m3⟩
  ·have:=a4 _ m1;simp only [Ob.isPool,Bool.not_true,Bool.false_and,Bool.or_false,beq_iff_eq] at this;exact ⟨.inl this,.inl trivial⟩
  ·have:=a4 _ m1;simp only [Bool.or_eq_true,Bool.and_eq_true,beq_iff_eq] at this;refine ⟨this.imp id fun h=>Jk (List.contains_iff_mem.1 h.2),.inl ?_⟩;rw [m3];by_cases hmt:∃ e p u xss,o=.mat e p u xss
   ·obtain ⟨e,p,u,xss,rfl⟩:=hmt;obtain ⟨e',hp⟩:=Lf hm2 _ _ _ _ _ m1;exact Adh xss fun k hk=>Xw hp k hk
   ·exact hp_mono (fun i hi=>Jk hi) _ (Adp o (b2 _ m1) m2 fun e p u xss h=>hmt ⟨e,p,u,xss,h⟩)
 ·rw [Ya,htl];exact h
end
theorem A6 {G:World->Prop} {rs:List Res} {f:Nat->AV} {ob:Oid->Option Ob} {g:Nat} {r:RV} (avs:List AV) {vs:List Value} {e:AE} (h2:PartsR vs ob avs r.ps) (he:e=.normal∨e=.ret:=by simp) (h1:Res.evL f ob rs=some avs:=by kernel_rfl) (h3:ndB (Rt ob (Ml avs))=true:=by kernel_rfl) (h4:r.tup=decide (rs.length≠1):=by kernel_rfl):∃ S',WeakG G ⟨f,ob,g⟩ S'∧(e=.normal∨e=.ret)∧RetOK vs rs S' r :=
 ⟨_,WeakG.refl _,he,avs,r.ps,h1,h2,D3 h3,by cases r; cases h4; rfl⟩
theorem Acv {G:World->Prop} {rs:List Res} {S:St} {tl:List (Nat×AV)} {g:Nat} {v:AV} {us:List (Oid×Ob)} {e:AE} (rvs:List AV) (hw:WeakG G S ⟨Ak tl,Ai (Ar us),g⟩) (he:e=.normal∨e=.ret:=by simp) (h1:Res.evL (Ak tl) (Ai (Ar us)) rs=some rvs:=by kernel_rfl) (hv:v=Ux rvs:=by kernel_rfl) (h2:(E3 us&&(ndB (Bk us)&&ndB (Bm us)))=true:=by kernel_rfl) :
  ∃ S',WeakG G S S'∧(e=.normal∨e=.ret)∧(∃ rvs,Res.evL S'.tm S'.ob rs=some rvs∧v=Ux rvs)∧∀ q∈exL us,S'.ob q.1=some q.2:=by
 refine ⟨_,hw,he,⟨rvs,h1,hv⟩,fun q hq=>?_⟩;simp only [Bool.and_eq_true] at h2;obtain ⟨a1,a2,a3⟩:=h2
 have h0:∀ q∈us,q.1.1.2=0:=fun q hq=>by
  unfold E3 at a1;rw [List.all_eq_true] at a1;have:=a1 q hq;simp only [Bool.and_eq_true,beq_iff_eq] at this;exact this.1
 have:=Ij (rest:=[]) (D3 a2) (D3 a3) (fun p hp=>by obtain ⟨e,u,xss,hm⟩:=Adf hp; exact h0 _ hm) (fun i hi p hp k e=>by
  obtain ⟨o,ho,_⟩:=Aa1 hi;have:=h0 _ ho;rw [e] at this;simp [kid] at this) q hq
 rwa [List.append_nil] at this
section
variable {vs:List Value} {ob:Oid->Option Ob}
theorem Fa {cs r:List AV} {ls:List RL} {ps:List (Bool×List RL)} (h1:LeavesR vs ob cs ls) (h2:PartsR vs ob r ps):PartsR vs ob (.agg cs :: r) ((true,ls) :: ps):=⟨ls,ps,rfl,h1,h2⟩
theorem Av {c:AV} {r:List AV} {l:RL} {ps:List (Bool×List RL)} (hc:c.one=true) (h1:LeafR vs ob c l) (h2:PartsR vs ob r ps):PartsR vs ob (c :: r) ((false,[l]) :: ps):=by
 rw [Ip (by rintro ⟨_,rfl⟩; cases hc)];exact ⟨l,ps,rfl,h1,h2⟩
theorem Aw:PartsR vs ob [] []:=rfl
theorem Aq {c:AV} {cs:List AV} {l:RL} {ls:List RL} (h1:LeafR vs ob c l) (h2:LeavesR vs ob cs ls):LeavesR vs ob (c :: cs) (l :: ls):=⟨l,ls,rfl,h1,h2⟩
theorem Fd:LeavesR vs ob [] []:=rfl
theorem Ad3 {c:AV} {l:RL} (h:Li ob c=some l):LeafR vs ob c l:=.inl (.inl h)
theorem H4 {i:Oid} {t u:Ty} {e:TypeId} {xs:List u.D} {len:Nat} (h:ob i=some (.arr e u xs)) (hl:len=xs.length):LeafR vs ob (.own i t 0 len) (.new e u xs):=by
 subst hl;exact .inl (.inl (by simp only [Li,h,Nat.le_refl,and_self,if_true,List.take_length]))
theorem I8 {e:TypeId} {t:Ty} (h:t.flat=true):LeafR vs ob .nils (.new e t []):=.inl (.inr (.inr ⟨e,t,rfl,rfl,h⟩))
end
end Go.Proofs.YtjlcpiemabfpiaaDoor
namespace Go.Proofs.YtjlcpiemabfpiaaDoor
open Go.RowKit Go.Deep
abbrev tm (n:Nat):Opd:=.tmp n
abbrev cb (b:Bool):Opd:=.cst (.bool b)
abbrev ci (n:Int):Opd:=.cst (.int .i64 n)
abbrev xo (d:Nat) (q:Q):X:=⟨some d,none,q⟩
abbrev xn (q:Q):X:=⟨none,none,q⟩
abbrev qm (x:Opd):Q:=.i (.mov x)
abbrev ql (x:Opd):Q:=.i (.ld true 1 x)
abbrev qs (x y:Opd):Q:=.st true 1 x y
abbrev qf (k:Nat) (x:Opd):Q:=.i (.fld k x)
abbrev qb (o:BinOp) (x y:Opd):Q:=.i (.bin o x y)
abbrev qx (sz:Nat) (x y:Opd):Q:=.i (.idx sz x y)
abbrev qc (f:FuncId) (xs:List Opd) (tys:List (List (Option Ty))):Q:=.call (.cst (.fn f [])) xs tys
abbrev rg (xs:List X):AC:=.region xs false []
abbrev ai (n:Int):AV:=.int .i64 n
abbrev oi (a b:Nat):Oid:=((a,0),b)
def Abs (d:Option Nat) (v:AV) (tl:List (Nat×AV)):List (Nat×AV) :=
 match d with
 | some d=>(d,v) :: tl
 | none=>tl
theorem Aai (d:Option Nat) (v:AV) (tl:List (Nat×AV)):Gi d v (Ak tl)=Ak (Abs d v tl):=by
 cases d with
 | none=>rfl
 | some d=>simp only [Gi,Abs,M6]
noncomputable def Uf (g:Nat):Nat->Nat->List X->List (Nat×AV)->List (Oid×Option Ob)->Option (List (Nat×AV)×List (Oid×Option Ob))
 | 0,_,_,tl,ol=>some (tl,ol)
 | _+1,_,[],_,_=>none
 | n+1,k,x :: xs,tl,ol=>match Bg (g+k) x (Ak tl) (Ai ol) with
  | some (_,v,us)=>if Dn us then Uf g n (k+1) xs (Abs x.dst v tl) (us.reverseAux ol) else none
  | none=>none
theorem Adz {P:Program} {G:World->Prop} {g:Nat} {Kf:List (Nat×AV)->List (Oid×Option Ob)->Prop}:∀ (n k:Nat) (xs:List X) (tl:List (Nat×AV)) (ol:List (Oid×Option Ob)) (r:List (Nat×AV)×List (Oid×Option Ob)),Uf g n k xs tl ol=some r->XW P G g (k+n) (xs.drop n) r.1 r.2 Kf->XW P G g k xs tl ol Kf
 | 0,k,xs,tl,ol,r,h,hk=>by
  obtain rfl:=osj h;exact hk
 | n+1,k,[],tl,ol,r,h,hk=>by cases h
 | n+1,k,x :: xs,tl,ol,r,h,hk=>by
  simp only [Uf] at h;split at h
  ·rename_i c v us hst;split at h
   ·rename_i hx;obtain ⟨rs,tl',ol',h1,h2⟩:=Adz (P:=P) (G:=G) n (k+1) xs _ _ r h (by rw [show k+1+n=k+(n+1) by omega]; exact hk);exact ⟨(c,v,us) :: rs,tl',ol',⟨_,_,rfl,Ek hst,by rw [Aai,Ew _ _ hx]; exact h1⟩,h2⟩
   ·cases h
  ·cases h
theorem rsB {P:Program} {G:World->Prop} {g k:Nat} {xs:List X} {tl:List (Nat×AV)} {ol:List (Oid×Option Ob)} {Kf:List (Nat×AV)->List (Oid×Option Ob)->Prop} (n:Nat) (hk:XW P G g (k+n) (xs.drop n) ((Uf g n k xs tl ol).getD ([],[])).1 ((Uf g n k xs tl ol).getD ([],[])).2 Kf) (h:(Uf g n k xs tl ol).isSome=true:=by kernel_rfl):XW P G g k xs tl ol Kf:=by
 obtain ⟨r,hr⟩:=Option.isSome_iff_exists.1 h;rw [hr] at hk;exact Adz n k xs tl ol r hr hk
noncomputable def Zg (g:Nat):Nat->Nat->List X->List (Nat×AV)->List (Oid×Option Ob)->Option (List (Nat×AV))
 | 0,_,_,tl,_=>some tl
 | _+1,_,[],_,_=>none
 | n+1,k,x :: xs,tl,ol=>match Bg (g+k) x (Ak tl) (Ai ol) with
  | some (_,v,[])=>Zg g n (k+1) xs (Abs x.dst v tl) ol
  | _=>none
theorem Ad0 {P:Program} {G:World->Prop} {g:Nat} {ol:List (Oid×Option Ob)} {Kf:List (Nat×AV)->List (Oid×Option Ob)->Prop}:∀ (n k:Nat) (xs:List X) (tl:List (Nat×AV)) (r:List (Nat×AV)),Zg g n k xs tl ol=some r->XW P G g (k+n) (xs.drop n) r ol Kf->XW P G g k xs tl ol Kf
 | 0,k,xs,tl,r,h,hk=>by
  obtain rfl:=osj h;exact hk
 | n+1,k,[],tl,r,h,hk=>by cases h
 | n+1,k,x :: xs,tl,r,h,hk=>by
  simp only [Zg] at h;split at h
  ·rename_i c v hst;obtain ⟨rs,tl',ol',h1,h2⟩:=Ad0 (P:=P) (G:=G) n (k+1) xs _ r h (by rw [show k+1+n=k+(n+1) by omega]; exact hk);exact ⟨(c,v,[]) :: rs,tl',ol',⟨_,_,rfl,Ek hst,by rw [Aai]; exact h1⟩,h2⟩
  ·cases h
theorem rsT {P:Program} {G:World->Prop} {g k:Nat} {xs:List X} {tl:List (Nat×AV)} {ol:List (Oid×Option Ob)} {Kf:List (Nat×AV)->List (Oid×Option Ob)->Prop} (n:Nat) (hk:XW P G g (k+n) (xs.drop n) ((Zg g n k xs tl ol).getD []) ol Kf) (h:(Zg g n k xs tl ol).isSome=true:=by kernel_rfl):XW P G g k xs tl ol Kf:=by
 obtain ⟨r,hr⟩:=Option.isSome_iff_exists.1 h;rw [hr] at hk;exact Ad0 n k xs tl r hr hk
theorem Al {P:Program} {G:World->Prop} {g:Nat} {xs:List X} {bad:List (Nat×Nat)} {y:AC} {R:AE->St->Prop} {tl:List (Nat×AV)} {ol:List (Oid×Option Ob)} (h:awp P G y R ⟨Ak ((Uf g xs.length 0 xs tl ol).getD ([],[])).1,Ai ((Uf g xs.length 0 xs tl ol).getD ([],[])).2,g+xs.length⟩) (hs:(Uf g xs.length 0 xs tl ol).isSome=true:=by kernel_rfl):awp P G (.seq (.region xs false bad) y) R ⟨Ak tl,Ai ol,g⟩:=by
 refine Ab (Aa (g+xs.length) (rsB xs.length (by rw [List.drop_length]; exact Am (tn_ ⟨_,WeakG.refl _,h⟩)) hs) rfl)
section
variable {n:Nat} {d:Option Nat} {f:Nat->AV} {ob:Oid->Option Ob} {ol:List (Oid×Option Ob)}
theorem Acx {i:Oid} {e:TypeId} {t:Ty} {sz:Nat} {xs:List Opd} {r:Rec} (h:(Sj f i e t sz xs).map (fun r=>((1:Nat),r.1,r.2))=some r):evL f i (.mkV e t sz xs)=some r:=by
 simp only [evL];cases hq:Sj f i e t sz xs with
 | none=>rw [hq] at h; cases h
 | some q=>rw [hq] at h; obtain ⟨v,us⟩:=q; exact h
end
section
variable {P:Program} {G:World->Prop} {g k d:Nat} {gd:Option (Nat×Bool)} {q:Q} {xs:List X} {tl:List (Nat×AV)} {ol:List (Oid×Option Ob)} {bad:List (Nat×Nat)} {ra:List Rec} {da:List (List Oid)} {Kf:List (Nat×AV)->List (Oid×Option Ob)->Prop}
theorem Ad1 (v:AV) (i:Oid) (o:Ob) (hgd:Sc gd (Ak tl)) (h:evL (Ak tl) ((d,0),g+k) q=some (1,v,[(i,some o)])) (h3:XW P G g (k+1) xs ((d,v) :: tl) ((i,some o) :: ol) Kf) (hx:Gk (some o)=true:=by rfl):XW P G g k (⟨some d,gd,q⟩ :: xs) tl ol Kf:=Rj 1 v _ (Acp (d:=some d) hgd h) h3 (by simp only [Dn,List.all_cons,List.all_nil,hx]; rfl)
theorem Ad4 (v:AV) (i:Oid) (o:Ob) (hgd:Sc gd (Ak tl)) (h:evL (Ak tl) ((d,0),g+k) q=some (1,v,[(i,some o)])) (h3:XD P G bad g (k+1) xs ((d,v) :: tl) ((i,some o) :: ol) ((1,v,[(i,some o)]) :: ra) ((rdX (Ak tl) (Ai ol) ⟨some d,gd,q⟩) :: da) Kf) (hx:Gk (some o)=true:=by rfl):XD P G bad g k (⟨some d,gd,q⟩ :: xs) tl ol ra da Kf:=S6 1 v _ (Acp (d:=some d) hgd h) h3 (by simp only [Dn,List.all_cons,List.all_nil,hx]; rfl)
end
-- what arguments read as
section
variable {ol:List (Oid×Option Ob)} {n:Nat}
def Zp (zs:List AV) (ob:Oid->Option Ob) (θ:Oid->Oid):List (Oid×Ob)->Prop
 | []=>True
 | q :: r=>(match q.2 with
  | .pool _ _ xss=>∀ k,k<xss.length->Reached zs ob (kid (θ q.1) k)
  | _=>Reached zs ob (θ q.1))∧Zp zs ob θ r
theorem Lo {zs:List AV} {ob:Oid->Option Ob} {l:List (Oid×Oid)} (hl:Qq l=true):∀ {ol:List (Oid×Ob)},E3 ol=true->Zp zs ob (Bx l) ol->∀ j∈nmL ol,Reached zs ob (Bx l j)
 | [],_,_,j,hj=>by cases hj
 | (p,o) :: r,h0,h,j,hj=>by
  simp only [E3,List.all_cons,Bool.and_eq_true,beq_iff_eq] at h0;obtain ⟨⟨h1,_⟩,h2⟩:=h0;have ih:j∈nmL r->Reached zs ob (Bx l j):=fun hm=>Lo hl (ol:=r) (by simpa [E3] using h2) h.2 j hm
  cases o with
  | pool e u xss =>
   simp only [nmL,exL,List.map_append,List.mem_append] at hj;rcases hj with hj | hj
   ·obtain ⟨q,hq,rfl⟩:=List.mem_map.1 hj;obtain ⟨⟨row,k⟩,hx,rfl⟩:=List.mem_map.1 hq;rw [List.mem_zipIdx_iff_getElem?] at hx;show Reached zs ob (Bx l (kid p k));rw [Fk hl h1];exact h.1 k (gSi.1 hx).1
   ·exact ih hj
  | _ =>
   simp only [nmL,exL,List.map_cons,List.mem_cons] at hj;rcases hj with rfl | hj
   ·exact h.1
   ·exact ih hj
theorem Aaa {zs:List AV} {ob:Oid->Option Ob} {i:Oid} (h:(AV.nmsL zs).contains i=true):Reached zs ob i:=.arg (List.contains_iff_mem.1 h)
end
end Go.Proofs.YtjlcpiemabfpiaaDoor
namespace Go.Proofs.YtjlcpiemabfpiaaDoor
open Go.RowKit Go.Deep
section
variable {f:Nat->AV} {ob:Oid->Option Ob} {n:Nat} {d:Option Nat}
end
end Go.Proofs.YtjlcpiemabfpiaaDoor
namespace Go.Proofs.YtjlcpiemabfpiaaDoor
open Go.RowKit Go.Deep
abbrev T5:Ty:=.pair .int (.pair .int (.pair .int (.pair .int .int)))
section
variable {P:Program} {G:World->Prop} {g k d:Nat} {gd:Option (Nat×Bool)} {q:Q} {xs:List X} {tl:List (Nat×AV)} {ol:List (Oid×Option Ob)} {bad:List (Nat×Nat)} {ra:List Rec} {da:List (List Oid)} {Kf:List (Nat×AV)->List (Oid×Option Ob)->Prop}
theorem dz0 (v:AV) (h3:XD P G bad g (k+1) xs ((d,v) :: tl) ol ((0,v,[]) :: ra) ((rdX (Ak tl) (Ai ol) ⟨some d,gd,q⟩) :: da) Kf) (h:Bg (g+k) ⟨some d,gd,q⟩ (Ak tl) (only (rdX (Ak tl) (Ai ol) ⟨some d,gd,q⟩) (Ai ol))=some (0,v,[]):=by kernel_rfl):XD P G bad g k (⟨some d,gd,q⟩ :: xs) tl ol ra da Kf:=ds0 v h h3
theorem dzl (v:AV) (h3:XD P G bad g (k+1) xs ((d,v) :: tl) ol ((1,v,[]) :: ra) ((rdX (Ak tl) (Ai ol) ⟨some d,gd,q⟩) :: da) Kf) (h:Bg (g+k) ⟨some d,gd,q⟩ (Ak tl) (only (rdX (Ak tl) (Ai ol) ⟨some d,gd,q⟩) (Ai ol))=some (1,v,[]):=by kernel_rfl):XD P G bad g k (⟨some d,gd,q⟩ :: xs) tl ol ra da Kf:=dsl v h h3
theorem zc {fo:Opd} {ys:List Opd} {tys:List (List (Option Ty))} {F:FuncId} {rv:RV} {args:List AV} (v:AV) (us:List (Oid×Option Ob)) (zs:List AV) (hc:A7 P G F args rv) (h3:XW P G g (k+1) xs ((d,v) :: tl) (us.reverseAux ol) Kf) (h1:Iz (gnd (Ai ol) 8) zs=some zs:=by kernel_rfl) (hb:Bf P F=true:=by kernel_rfl) (hfo:fo.ev (Ak tl)=.fn F []:=by kernel_rfl) (hz:(ys++([]:List AV).map Opd.cst).map (Opd.ev (Ak tl))=zs:=by kernel_rfl) (hn:Ko tys zs=args:=by kernel_rfl) (hr:rv.out (Gt ((d,0),g+k)) zs=(v,us):=by kernel_rfl) (hx:Dn us=true:=by rfl) (hni:rv.noI=true:=by kernel_rfl):XW P G g k (⟨some d,none,.call fo ys tys⟩ :: xs) tl ol Kf:=Cu (caps:=[]) (args0:=zs) v us zs args trivial h1 hc hb h3 hfo hz hn hr hx hni
end
abbrev sI:Ty:=.slice .int
abbrev an (n:Nat):AV:=.int .i64 n
abbrev tI (x:List Int):AV:=.tree .int x
abbrev tS (x:List (List Int)):AV:=.tree (.slice .int) x
abbrev oI (a b n:Nat):AV:=.own (oi a b) .int 0 n
abbrev nI (a b:Nat) (x:List Int):Oid×Option Ob:=(oi a b,some (.arr 3 .int x))
abbrev xm (d s:Nat):X:=⟨some d,none,.i (.mov (.tmp s))⟩
abbrev xl (d s:Nat):X:=⟨some d,none,.i (.ld true 1 (.tmp s))⟩
abbrev xf (d k s:Nat):X:=⟨some d,none,.i (.fld k (.tmp s))⟩
abbrev xx (d z a b:Nat):X:=⟨some d,none,.i (.idx z (.tmp a) (.tmp b))⟩
abbrev xn1 (d s:Nat):X:=⟨some d,none,.i (.len (.tmp s))⟩
abbrev xa (d s:Nat):X:=⟨some d,none,.i (.bin .add (.tmp s) (.cst (.int .i64 1)))⟩
abbrev xs1 (d a b:Nat):X:=⟨some d,none,.i (.bin .lss (.tmp a) (.tmp b))⟩
section
variable {P:Program} {G:World->Prop} {g k d:Nat} {gd:Option (Nat×Bool)} {q:Q} {xs:List X} {tl:List (Nat×AV)} {ol:List (Oid×Option Ob)} {bad:List (Nat×Nat)} {ra:List Rec} {da:List (List Oid)} {Kf:List (Nat×AV)->List (Oid×Option Ob)->Prop}
theorem dzc {fo:Opd} {ys:List Opd} {tys:List (List (Option Ty))} {F:FuncId} {rv:RV} {args:List AV} (v:AV) (us:List (Oid×Option Ob)) (zs:List AV) (hc:A7 P G F args rv) (h3:XD P G bad g (k+1) xs ((d,v) :: tl) (us.reverseAux ol) ((1,v,us) :: ra) ((rdX (Ak tl) (Ai ol) ⟨some d,none,.call fo ys tys⟩) :: da) Kf) (h1:Iz (gnd (only (rdX (Ak tl) (Ai ol) ⟨some d,none,.call fo ys tys⟩) (Ai ol)) 8) zs=some zs:=by kernel_rfl) (hb:Bf P F=true:=by kernel_rfl) (hfo:fo.ev (Ak tl)=.fn F []:=by kernel_rfl) (hz:(ys++([]:List AV).map Opd.cst).map (Opd.ev (Ak tl))=zs:=by kernel_rfl) (hn:Ko tys zs=args:=by kernel_rfl) (hr:rv.out (Gt ((d,0),g+k)) zs=(v,us):=by kernel_rfl) (hx:Dn us=true:=by rfl) (hni:rv.noI=true:=by kernel_rfl):XD P G bad g k (⟨some d,none,.call fo ys tys⟩ :: xs) tl ol ra da Kf:=U2 (caps:=[]) (args0:=zs) v us zs args trivial h1 hc hb h3 hfo hz hn hr hx hni
theorem zI {sz:Nat} {x i:Opd} (t:Ty) {zs:List t.D} {y:t.D} {j:Nat} (hy:zs[j]? =some y) (h3:XW P G g (k+1) xs ((d,.telt none t y 0) :: tl) ol Kf) (hx:(x.ev (Ak tl)).un=.tree t zs:=by kernel_rfl) (hi:i.ev (Ak tl)=.int .i64 (j:Int):=by kernel_rfl) (hs:sz=t.size:=by rfl) (he:(x.ev (Ak tl)).tag=none:=by kernel_rfl):XW P G g k (⟨some d,none,.i (.idx sz x i)⟩ :: xs) tl ol Kf:=rs0 _ (P5 hx hi hs (Int.natCast_nonneg _) rfl hy he) h3
theorem dzI {sz:Nat} {x i:Opd} (t:Ty) {zs:List t.D} {y:t.D} {j:Nat} (hy:zs[j]? =some y) (h3:XD P G bad g (k+1) xs ((d,.telt none t y 0) :: tl) ol ((0,.telt none t y 0,[]) :: ra) ((rdX (Ak tl) (Ai ol) ⟨some d,none,.i (.idx sz x i)⟩) :: da) Kf) (hx:(x.ev (Ak tl)).un=.tree t zs:=by kernel_rfl) (hi:i.ev (Ak tl)=.int .i64 (j:Int):=by kernel_rfl) (hs:sz=t.size:=by rfl) (he:(x.ev (Ak tl)).tag=none:=by kernel_rfl):XD P G bad g k (⟨some d,none,.i (.idx sz x i)⟩ :: xs) tl ol ra da Kf:=ds0 _ (P5 hx hi hs (Int.natCast_nonneg _) rfl hy he) h3
theorem zO {sz:Nat} {x i:Opd} (o:Oid) (t:Ty) (len:Nat) {j:Nat} (hl:j<len) (h3:XW P G g (k+1) xs ((d,.elt o j 0) :: tl) ol Kf) (hx:x.ev (Ak tl)=.own o t 0 len:=by kernel_rfl) (hi:i.ev (Ak tl)=.int .i64 (j:Int):=by kernel_rfl) (hs:sz=t.size:=by rfl):XW P G g k (⟨some d,none,.i (.idx sz x i)⟩ :: xs) tl ol Kf:=rs0 _ (Bp hx hi hs (Int.natCast_nonneg _) rfl hl) h3
theorem zE {x:Opd} (i:Oid) {ws:List Int} {j:Nat} {z:Int} (hz:ws[j]? =some z) (h3:XW P G g (k+1) xs ((d,.int .i64 z) :: tl) ol Kf) (hx:x.ev (Ak tl)=.elt i j 0:=by kernel_rfl) (hob:Ai ol i=some (.arr 3 .int ws):=by kernel_rfl):XW P G g k (⟨some d,none,.i (.ld true 1 x)⟩ :: xs) tl ol Kf:=rsl _ (Hh (k:=0) (t:=.int) hx hob hz rfl) h3
theorem dzE {x:Opd} (i:Oid) {ws:List Int} {j:Nat} {z:Int} (hz:ws[j]? =some z) (h3:XD P G bad g (k+1) xs ((d,.int .i64 z) :: tl) ol ((1,.int .i64 z,[]) :: ra) ((rdX (Ak tl) (Ai ol) ⟨some d,none,.i (.ld true 1 x)⟩) :: da) Kf) (hx:x.ev (Ak tl)=.elt i j 0:=by kernel_rfl) (hob:only (rdX (Ak tl) (Ai ol) ⟨some d,none,.i (.ld true 1 x)⟩) (Ai ol) i=some (.arr 3 .int ws):=by kernel_rfl):XD P G bad g k (⟨some d,none,.i (.ld true 1 x)⟩ :: xs) tl ol ra da Kf:=dsl _ (Hh (k:=0) (t:=.int) hx hob hz rfl) h3
theorem zS {x y:Opd} (i:Oid) {ws:List Int} {j:Nat} {z:Int} (z1:Int) (hz:ws[j]? =some z) (h3:XW P G g (k+1) xs tl ((i,some (.arr 3 .int (ws.set j z1))) :: (i,none) :: ol) Kf) (hx:x.ev (Ak tl)=.elt i j 0:=by kernel_rfl) (hob:Ai ol i=some (.arr 3 .int ws):=by kernel_rfl) (hy:y.ev (Ak tl)=.int .i64 z1:=by kernel_rfl):XW P G g k (⟨none,none,.st true 1 x y⟩ :: xs) tl ol Kf:=Yo _ _ _ (Te (k:=0) (t:=.int) (cs:=[.int .i64 z1]) (x1:=z1) hx hob hz (by rw [hy]; rfl) rfl) h3
theorem zB {x y:Opd} {by_:Nat} (j q:Oid) (ws:List Int) (z:Int) (h:ws.length+1<=1073741824∧(ws.length+1)*by_<=140737488355328) (h3:XW P G g (k+1) xs ((d,.own (j.1,g+k) .int 0 (ws++[z]).length) :: tl) (((j.1,g+k),some (.arr 3 .int (ws++[z]))) :: (j,none) :: ol) Kf) (hx:x.ev (Ak tl)=.own j .int 0 ws.length:=by kernel_rfl) (hob:Ai ol j=some (.arr 3 .int ws):=by kernel_rfl) (hy:y.ev (Ak tl)=.own q .int 0 1:=by kernel_rfl) (hq:Ai ol q=some (.arr 3 .int [z]):=by kernel_rfl):XW P G g k (⟨some d,none,.append 3 .int by_ x y⟩ :: xs) tl ol Kf:=rs2 _ _ _ _ (K8 (t:=.int) (ys:=[z]) hx hob rfl hy (E4 hq rfl) rfl h) h3
theorem zA {x y:Opd} {j:Nat} (h:j+1<4611686018427387904) (h3:XW P G g (k+1) xs ((d,.int .i64 ((j+1:Nat):Int)) :: tl) ol Kf) (hx:x.ev (Ak tl)=.int .i64 j:=by kernel_rfl) (hy:y.ev (Ak tl)=.int .i64 1:=by kernel_rfl):XW P G g k (⟨some d,none,.i (.bin .add x y)⟩ :: xs) tl ol Kf:=rs0 _ (Ac4 hx hy h) h3
end
section
variable {n:Nat} {d:Option Nat} {f:Nat->AV} {ob:Oid->Option Ob}
theorem zi {sz:Nat} {x i:Opd} {t:Ty} {xs:List t.D} {y:t.D} {k:IntKind} {m:Int} {j:Nat} (h0:0<=m) (hy:xs[j]? =some y) (hx:(x.ev f).un=.tree t xs:=by kernel_rfl) (hi:i.ev f=.int k m:=by kernel_rfl) (hs:sz=t.size:=by rfl) (hj:m.toNat=j:=by rfl) {e:Option (Nat->Prop)} (he:(x.ev f).tag=e:=by kernel_rfl):Bg n ⟨d,none,.i (.idx sz x i)⟩ f ob=some (0,.telt e t y 0,[]):=P5 hx hi hs h0 hj hy he
theorem zo {sz:Nat} {x i:Opd} {t:Ty} {o:Oid} {len:Nat} {k:IntKind} {m:Int} {j:Nat} (h0:0<=m) (hl:j<len) (hx:x.ev f=.own o t 0 len:=by kernel_rfl) (hi:i.ev f=.int k m:=by kernel_rfl) (hs:sz=t.size:=by rfl) (hj:m.toNat=j:=by rfl):Bg n ⟨d,none,.i (.idx sz x i)⟩ f ob=some (0,.elt o j 0,[]):=Bp hx hi hs h0 hj hl
theorem zl {vs:List Value} {c:AV} {l:RL} (h:Li ob c=some l:=by kernel_rfl):LeafR vs ob c l:=Ad3 h
end
theorem zj {α:Type} {a b:α} (h:some a=some b):a=b:=osj h
theorem wr_ {G:World->Prop} {S:St} {K:St->Prop} (h:K S):∃ S',WeakG G S S'∧K S':=⟨S,WeakG.refl _,h⟩
end Go.Proofs.YtjlcpiemabfpiaaDoor
namespace Go.Proofs.YtjlcpiemabfpiaaDoor
open Go.RowKit Go.Deep
inductive Ctl (σ ρ:Type) where
 | next (s:σ)
 | out (r:ρ)
def Ctl.then {σ β:Type} (k:σ->Option β):Ctl σ β->Option β
 | .next t=>k t
 | .out r=>some r
section
variable {α β σ τ ρ:Type}
def og (c:Prop) [Decidable c] (k:Option α):Option α:=if c then k else none
theorem A4 {c:Prop} [Decidable c] {k:Option α} {r:α} (h:og c k=some r):c∧k=some r:=by
 unfold og at h;split at h
 ·rename_i hc; exact ⟨hc,h⟩
 ·cases h
theorem As {c:Prop} [Decidable c] (h:c) (k:Option α):og c k=k:=if_pos h
theorem Ag {o:Option α} {f:α->Option β} {b:β} (h:o.bind f=some b):∃ a,o=some a∧f a=some b:=Option.bind_eq_some_iff.1 h
theorem Ac {c:Bool} {a b:Option α} {r:α} (h:cond c a b=some r):(c=true∧a=some r)∨(c=false∧b=some r):=by
 cases c
 ·exact .inr ⟨rfl,h⟩
 ·exact .inl ⟨rfl,h⟩
def On (a:Option (Ctl τ β)) (k:τ->Option β):Option β :=
 a.bind (Ctl.then k)
theorem Y8 {a:Option (Ctl τ β)} {k:τ->Option β} {r:β} (h:On a k=some r):∃ v,a=some v∧Ctl.then k v=some r:=Ag h
def Bc (body:σ->Option (Ctl σ ρ)):Nat->σ->Option ρ
 | 0,_=>none
 | n+1,s=>(body s).bind (Ctl.then (Bc body n))
theorem We {body:σ->Option (Ctl σ ρ)} {n:Nat} {s:σ} {v:ρ} (h:Bc body (n+1) s=some v):∃ c,body s=some c∧Ctl.then (Bc body n) c=some v:=Ag h
theorem Xh {body:σ->Option (Ctl σ ρ)} {s:σ} {v:ρ} (h:Bc body 0 s=some v):False:=by cases h
def Vx (xs:List α) (n:Int):Option α:=if 0<=n then xs[n.toNat]? else none
theorem A1 {xs:List α} {k:Nat} {x:α} (h:xs[k]? =some x):k<xs.length:=(gSi.1 h).1
theorem Nj {xs:List α} {n:Int} {x:α} (h:Vx xs n=some x):0<=n∧n<xs.length∧xs[n.toNat]? =some x:=by
 unfold Vx at h;split at h
 ·rename_i h0;have:=A1 h;exact ⟨h0,by omega,h⟩
 ·cases h
theorem Pw {xs:List α} {n:Int} (h:0<=n):Vx xs n=xs[n.toNat]?:=if_pos h
end
section
variable {P:Program} {G:World->Prop} {σ τ β ρ:Type}
theorem Ax {x y:AC} {R:AE->St->Prop} {S:St} {A:Option τ} {k:τ->Option β} {r:β} (h:A.bind k=some r) (J:τ->St->Prop) (h1:∀ t,A=some t->awp P G x (Gj (fun S'=>∃ S'',WeakG G S' S''∧J t S'') R) S) (h2:∀ t S'',J t S''->k t=some r->awp P G y R S''):awp P G (.seq x y) R S:=by
 obtain ⟨t,ha,hk⟩:=Ag h;exact Td (J t) (h1 t ha) fun S'' hj=>h2 t S'' hj hk
theorem Ey {x y:AC} {R:AE->St->Prop} {S:St} {A:Option (Ctl τ β)} {k:τ->Option β} {r:β} (h:On A k=some r) (J:τ->St->Prop)
  (h1:∀ v,A=some v->Ctl.then k v=some r->awp P G x (Gj (fun S'=>∃ t S'',v=.next t∧WeakG G S' S''∧J t S'') R) S) (h2:∀ t S'',J t S''->k t=some r->awp P G y R S''):awp P G (.seq x y) R S:=by
 obtain ⟨v,ha,hk⟩:=Y8 h;refine Td (fun S''=>∃ t,v=.next t∧J t S'') (Cz (fun e S' hq=>?_) (h1 v ha hk)) fun S'' ⟨t,hv,hj⟩=>?_
 ·cases e with
  | normal=>obtain ⟨t,S'',hv,hw,hj⟩:=hq; exact ⟨S'',hw,t,hv,hj⟩
  | exit id=>exact hq
  | ret=>exact hq
 ·subst hv; exact h2 t S'' hj hk
theorem Bq {a:AC} {R:AE->St->Prop} {S:St} {body:σ->Option (Ctl σ ρ)} {fuel:Nat} {s0:σ} {v:ρ} (h:Bc body fuel s0=some v) (J:σ->St->Prop) (h0:∃ S0,WeakG G S S0∧J s0 S0)
  (h1:∀ n s S1 c,J s S1->body s=some c->Ctl.then (Bc body n) c=some v->awp P G a (Gj (fun S2=>∃ s' S3,WeakG G S2 S3∧J s' S3∧Bc body n s'=some v) R) S1):awp P G (.loop a) R S:=by
 obtain ⟨S0,hw,hj⟩:=h0;refine Y1 (fun (p:Nat×σ) S=>Bc body p.1 p.2=some v∧J p.2 S) (·.1) ⟨(fuel,s0),S0,hw,h,hj⟩ ?_;rintro ⟨n,s⟩ S1 ⟨hl,hj⟩;cases n with
 | zero=>exact (Xh hl).elim
 | succ n =>
  obtain ⟨c,hc,hn⟩:=We hl;refine Cz (fun e S2 hq=>?_) (h1 n s S1 c hj hc hn);cases e with
  | normal=>obtain ⟨s',S3,hw,hj,hl⟩:=hq; exact ⟨(n,s'),S3,hw,⟨hl,hj⟩,Nat.lt_succ_self n⟩
  | exit id=>exact hq
  | ret=>exact hq
end
theorem Jl (n:Nat):0<=(n:Int):=by omega
end Go.Proofs.YtjlcpiemabfpiaaDoor

namespace Go.Proofs.YtjlcpiemabfpiaaDoor
open Go.RowKit Go.Deep
def Gn (a0:Int):Option Bool:=some (isF a0)
def O2 (r:Bool):RV:=⟨false,[(false,[.sc (.bool r)])]⟩
theorem Oz {a0:Int} {r:Bool} (h:Gn a0=some r):A7 Tryd.prog Tab 30 [.int .i64 a0] (O2 r):=by
 obtain rfl:=osj h;intro w im vs hG hr;obtain ⟨u1,_,rfl,h1,h2⟩:=hr;obtain rfl:_=[]:=h2;obtain rfl:u1=.int .i64 a0:=h1;refine (Vb a0 w (hG w (Below.refl _ _))).mono ?_;rintro e w' ⟨rfl,rfl⟩;exact ⟨_,rfl,Below.refl _ _,[_],[],⟨_,[],rfl,rfl,rfl,rfl,rfl⟩,⟨trivial,fun _=>rfl⟩,rfl⟩
end Go.Proofs.YtjlcpiemabfpiaaDoor
namespace Go.Proofs.YtjlcpiemabfpiaaDoor
open Go.RowKit Go.Deep Go.Shelf
def Zi:Go.Shelf.Ren:=⟨fun | 171=>50 | 243=>64 | 246=>75 | 283=>82 | 284=>83 | 285=>84 | 286=>85 | 129=>87 | 317=>86 | 318=>88 | 319=>89 | 320=>90 | 337=>91 | 338=>92 | n=>n,fun | 3=>3 | 9=>9 | 2=>2 | 4=>4 | 171=>116 | 0=>0 | 53=>93 | 37=>77 | 5=>5 | 173=>119 | 212=>122 | 51=>108 | 20=>20 | 213=>123 | 46=>92 | 232=>126 | 233=>127 | n=>n,fun | 17=>6 | 18=>7 | 19=>8 | n=>n⟩
theorem Aaf:LaysM.n171 Tryd.prog Zi where
  mixed:=by kernel_rfl
  f129:=Tryd.func87.trans (congrArg some (by kernel_rfl))
  f171:=Tryd.func50.trans (congrArg some (by kernel_rfl))
  f243:=Tryd.func64.trans (congrArg some (by kernel_rfl))
  f246:=Tryd.func75.trans (congrArg some (by kernel_rfl))
  f283:=Tryd.func82.trans (congrArg some (by kernel_rfl))
  f284:=Tryd.func83.trans (congrArg some (by kernel_rfl))
  f285:=Tryd.func84.trans (congrArg some (by kernel_rfl))
  f286:=Tryd.func85.trans (congrArg some (by kernel_rfl))
  f317:=Tryd.func86.trans (congrArg some (by kernel_rfl))
  f318:=Tryd.func88.trans (congrArg some (by kernel_rfl))
  f319:=Tryd.func89.trans (congrArg some (by kernel_rfl))
  f320:=Tryd.func90.trans (congrArg some (by kernel_rfl))
  f337:=Tryd.func91.trans (congrArg some (by kernel_rfl))
  f338:=Tryd.func92.trans (congrArg some (by kernel_rfl))
  t0:=Tryd.underlying0
  a0:=Tryd.isAgg0
  z0:=Tryd.sizeOf0
  v0:=Tryd.zeroValue0
  t2:=Tryd.underlying2
  a2:=Tryd.isAgg2
  z2:=Tryd.sizeOf2
  v2:=Tryd.zeroValue2
  t3:=Tryd.underlying3
  a3:=Tryd.isAgg3
  z3:=Tryd.sizeOf3
  v3:=Tryd.zeroValue3
  t4:=Tryd.underlying4
  a4:=Tryd.isAgg4
  z4:=Tryd.sizeOf4
  v4:=Tryd.zeroValue4
  t5:=Tryd.underlying5
  a5:=Tryd.isAgg5
  z5:=Tryd.sizeOf5
  v5:=Tryd.zeroValue5
  t9:=Tryd.underlying9
  a9:=Tryd.isAgg9
  z9:=Tryd.sizeOf9
  v9:=Tryd.zeroValue9
  t20:=Tryd.underlying20
  a20:=Tryd.isAgg20
  z20:=Tryd.sizeOf20
  v20:=Tryd.zeroValue20
  t37:=Tryd.underlying77
  a37:=Tryd.isAgg77
  z37:=Tryd.sizeOf77
  v37:=Tryd.zeroValue77
  t46:=Tryd.underlying92
  a46:=Tryd.isAgg92
  z46:=Tryd.sizeOf92
  v46:=Tryd.zeroValue92
  t51:=Tryd.underlying108
  a51:=Tryd.isAgg108
  z51:=Tryd.sizeOf108
  v51:=Tryd.zeroValue108
  t53:=Tryd.underlying93
  a53:=Tryd.isAgg93
  z53:=Tryd.sizeOf93
  v53:=Tryd.zeroValue93
  t171:=Tryd.underlying116
  a171:=Tryd.isAgg116
  z171:=Tryd.sizeOf116
  v171:=Tryd.zeroValue116
  t173:=Tryd.underlying119
  a173:=Tryd.isAgg119
  z173:=Tryd.sizeOf119
  v173:=Tryd.zeroValue119
  t212:=Tryd.underlying122
  a212:=Tryd.isAgg122
  z212:=Tryd.sizeOf122
  v212:=Tryd.zeroValue122
  t213:=Tryd.underlying123
  a213:=Tryd.isAgg123
  z213:=Tryd.sizeOf123
  t232:=Tryd.underlying126
  a232:=Tryd.isAgg126
  z232:=Tryd.sizeOf126
  v232:=Tryd.zeroValue126
  t233:=Tryd.underlying127
  a233:=Tryd.isAgg127
  z233:=Tryd.sizeOf127
  v233:=Tryd.zeroValue127
  g17:=by kernel_rfl
  g18:=by kernel_rfl
  g19:=by kernel_rfl
  i0:=by kernel_rfl
  i2:=by kernel_rfl
  i3:=by kernel_rfl
  i4:=by kernel_rfl
  i5:=by kernel_rfl
  i9:=by kernel_rfl
  i20:=by kernel_rfl
  i37:=by kernel_rfl
  i46:=by kernel_rfl
  i51:=by kernel_rfl
  i53:=by kernel_rfl
  i171:=by kernel_rfl
  i173:=by kernel_rfl
  i212:=by kernel_rfl
  i232:=by kernel_rfl
  i233:=by kernel_rfl
  m17:=by kernel_rfl
  m18:=by kernel_rfl
  m19:=by kernel_rfl
end Go.Proofs.YtjlcpiemabfpiaaDoor

namespace Go.Proofs.YtjlcpiemabfpiaaDoor
open Go.RowKit Go.Deep Go.Shelf
def Vk:Go.Shelf.Ren:=⟨fun | 156=>38 | 165=>52 | 166=>53 | 169=>54 | 240=>65 | 241=>66 | 276=>76 | 277=>77 | n=>n,fun | 31=>30 | 9=>9 | 3=>3 | 4=>4 | 0=>0 | 20=>20 | 72=>79 | 76=>56 | 70=>76 | 37=>77 | 75=>55 | 127=>90 | 164=>101 | 5=>5 | 80=>45 | n=>n,fun  | n=>n⟩
theorem Vr:Lays.n156 Tryd.prog Vk where
  mixed:=by kernel_rfl
  f156:=Tryd.func38.trans (congrArg some (by kernel_rfl))
  f165:=Tryd.func52.trans (congrArg some (by kernel_rfl))
  f166:=Tryd.func53.trans (congrArg some (by kernel_rfl))
  f169:=Tryd.func54.trans (congrArg some (by kernel_rfl))
  f240:=Tryd.func65.trans (congrArg some (by kernel_rfl))
  f241:=Tryd.func66.trans (congrArg some (by kernel_rfl))
  f276:=Tryd.func76.trans (congrArg some (by kernel_rfl))
  f277:=Tryd.func77.trans (congrArg some (by kernel_rfl))
  t0:=Tryd.underlying0
  a0:=Tryd.isAgg0
  z0:=Tryd.sizeOf0
  v0:=Tryd.zeroValue0
  t3:=Tryd.underlying3
  a3:=Tryd.isAgg3
  z3:=Tryd.sizeOf3
  v3:=Tryd.zeroValue3
  t4:=Tryd.underlying4
  a4:=Tryd.isAgg4
  z4:=Tryd.sizeOf4
  v4:=Tryd.zeroValue4
  t9:=Tryd.underlying9
  a9:=Tryd.isAgg9
  z9:=Tryd.sizeOf9
  v9:=Tryd.zeroValue9
  t20:=Tryd.underlying20
  a20:=Tryd.isAgg20
  z20:=Tryd.sizeOf20
  v20:=Tryd.zeroValue20
  t31:=Tryd.underlying30
  a31:=Tryd.isAgg30
  z31:=Tryd.sizeOf30
  v31:=Tryd.zeroValue30
  t37:=Tryd.underlying77
  a37:=Tryd.isAgg77
  z37:=Tryd.sizeOf77
  v37:=Tryd.zeroValue77
  t70:=Tryd.underlying76
  a70:=Tryd.isAgg76
  z70:=Tryd.sizeOf76
  v70:=Tryd.zeroValue76
  t72:=Tryd.underlying79
  a72:=Tryd.isAgg79
  z72:=Tryd.sizeOf79
  v72:=Tryd.zeroValue79
  t75:=Tryd.underlying55
  a75:=Tryd.isAgg55
  z75:=Tryd.sizeOf55
  v75:=Tryd.zeroValue55
  t76:=Tryd.underlying56
  a76:=Tryd.isAgg56
  z76:=Tryd.sizeOf56
  v76:=Tryd.zeroValue56
  t127:=Tryd.underlying90
  a127:=Tryd.isAgg90
  z127:=Tryd.sizeOf90
  v127:=Tryd.zeroValue90
  t164:=Tryd.underlying101
  a164:=Tryd.isAgg101
  z164:=Tryd.sizeOf101
  v164:=Tryd.zeroValue101
theorem Ve:Builder.Extra Tryd.prog Vk where
  sizeBuilder:=by kernel_rfl
  liesBuilder:=by kernel_rfl
  t5:=Tryd.underlying5
  a5:=Tryd.isAgg5
  z5:=Tryd.sizeOf5
  v5:=Tryd.zeroValue5
  infoByte:=by kernel_rfl
  cellsByte:=by kernel_rfl
  sizeByte:=by kernel_rfl
  neB5:=by decide
end Go.Proofs.YtjlcpiemabfpiaaDoor

namespace Go.Proofs.YtjlcpiemabfpiaaDoor
open Go.RowKit Go.Deep Go.Shelf
def U7:Go.Shelf.Ren:=⟨fun | 155=>36 | 154=>51 | 138=>42 | 165=>52 | 143=>43 | 166=>53 | 197=>56 | 169=>54 | 195=>55 | 218=>57 | 240=>65 | 241=>66 | 219=>58 | 260=>67 | 276=>76 | 277=>77 | 217=>68 | 225=>69 | 224=>70 | 267=>71 | 266=>78 | 314=>79 | n=>n,fun | 9=>9 | 3=>3 | 4=>4 | 72=>79 | 0=>0 | 76=>56 | 105=>81 | 21=>21 | 5=>5 | 70=>76 | 20=>20 | 37=>77 | 75=>55 | 127=>90 | 164=>101 | 46=>92 | 119=>104 | 139=>107 | 138=>106 | 146=>109 | 51=>108 | 80=>45 | n=>n,fun | 1=>1 | 3=>4 | 4=>5 | n=>n⟩
theorem Aae:Lays.n155 Tryd.prog U7 where
  mixed:=by kernel_rfl
  f138:=Tryd.func42.trans (congrArg some (by kernel_rfl))
  f143:=Tryd.func43.trans (congrArg some (by kernel_rfl))
  f154:=Tryd.func51.trans (congrArg some (by kernel_rfl))
  f155:=Tryd.func36.trans (congrArg some (by kernel_rfl))
  f165:=Tryd.func52.trans (congrArg some (by kernel_rfl))
  f166:=Tryd.func53.trans (congrArg some (by kernel_rfl))
  f169:=Tryd.func54.trans (congrArg some (by kernel_rfl))
  f195:=Tryd.func55.trans (congrArg some (by kernel_rfl))
  f197:=Tryd.func56.trans (congrArg some (by kernel_rfl))
  f217:=Tryd.func68.trans (congrArg some (by kernel_rfl))
  f218:=Tryd.func57.trans (congrArg some (by kernel_rfl))
  f219:=Tryd.func58.trans (congrArg some (by kernel_rfl))
  f224:=Tryd.func70.trans (congrArg some (by kernel_rfl))
  f225:=Tryd.func69.trans (congrArg some (by kernel_rfl))
  f240:=Tryd.func65.trans (congrArg some (by kernel_rfl))
  f241:=Tryd.func66.trans (congrArg some (by kernel_rfl))
  f260:=Tryd.func67.trans (congrArg some (by kernel_rfl))
  f266:=Tryd.func78.trans (congrArg some (by kernel_rfl))
  f267:=Tryd.func71.trans (congrArg some (by kernel_rfl))
  f276:=Tryd.func76.trans (congrArg some (by kernel_rfl))
  f277:=Tryd.func77.trans (congrArg some (by kernel_rfl))
  f314:=Tryd.func79.trans (congrArg some (by kernel_rfl))
  t0:=Tryd.underlying0
  a0:=Tryd.isAgg0
  z0:=Tryd.sizeOf0
  v0:=Tryd.zeroValue0
  t3:=Tryd.underlying3
  a3:=Tryd.isAgg3
  z3:=Tryd.sizeOf3
  v3:=Tryd.zeroValue3
  t4:=Tryd.underlying4
  a4:=Tryd.isAgg4
  z4:=Tryd.sizeOf4
  v4:=Tryd.zeroValue4
  t5:=Tryd.underlying5
  a5:=Tryd.isAgg5
  z5:=Tryd.sizeOf5
  v5:=Tryd.zeroValue5
  t9:=Tryd.underlying9
  a9:=Tryd.isAgg9
  z9:=Tryd.sizeOf9
  v9:=Tryd.zeroValue9
  t20:=Tryd.underlying20
  a20:=Tryd.isAgg20
  z20:=Tryd.sizeOf20
  v20:=Tryd.zeroValue20
  t21:=Tryd.underlying21
  a21:=Tryd.isAgg21
  z21:=Tryd.sizeOf21
  v21:=Tryd.zeroValue21
  t37:=Tryd.underlying77
  a37:=Tryd.isAgg77
  z37:=Tryd.sizeOf77
  v37:=Tryd.zeroValue77
  t46:=Tryd.underlying92
  a46:=Tryd.isAgg92
  z46:=Tryd.sizeOf92
  v46:=Tryd.zeroValue92
  t51:=Tryd.underlying108
  a51:=Tryd.isAgg108
  z51:=Tryd.sizeOf108
  v51:=Tryd.zeroValue108
  t70:=Tryd.underlying76
  a70:=Tryd.isAgg76
  z70:=Tryd.sizeOf76
  v70:=Tryd.zeroValue76
  t72:=Tryd.underlying79
  a72:=Tryd.isAgg79
  z72:=Tryd.sizeOf79
  v72:=Tryd.zeroValue79
  t75:=Tryd.underlying55
  a75:=Tryd.isAgg55
  z75:=Tryd.sizeOf55
  v75:=Tryd.zeroValue55
  t76:=Tryd.underlying56
  a76:=Tryd.isAgg56
  z76:=Tryd.sizeOf56
  v76:=Tryd.zeroValue56
  t105:=Tryd.underlying81
  a105:=Tryd.isAgg81
  z105:=Tryd.sizeOf81
  v105:=Tryd.zeroValue81
  t119:=Tryd.underlying104
  a119:=Tryd.isAgg104
  z119:=Tryd.sizeOf104
  t127:=Tryd.underlying90
  a127:=Tryd.isAgg90
  z127:=Tryd.sizeOf90
  v127:=Tryd.zeroValue90
  t138:=Tryd.underlying106
  a138:=Tryd.isAgg106
  z138:=Tryd.sizeOf106
  v138:=Tryd.zeroValue106
  t139:=Tryd.underlying107
  a139:=Tryd.isAgg107
  z139:=Tryd.sizeOf107
  v139:=Tryd.zeroValue107
  t146:=Tryd.underlying109
  a146:=Tryd.isAgg109
  z146:=Tryd.sizeOf109
  v146:=Tryd.zeroValue109
  t164:=Tryd.underlying101
  a164:=Tryd.isAgg101
  z164:=Tryd.sizeOf101
  v164:=Tryd.zeroValue101
  g1:=by kernel_rfl
  g3:=by kernel_rfl
  g4:=by kernel_rfl
theorem Aat:Builder.Extra Tryd.prog U7 where
  sizeBuilder:=by kernel_rfl
  liesBuilder:=by kernel_rfl
  t5:=Tryd.underlying5
  a5:=Tryd.isAgg5
  z5:=Tryd.sizeOf5
  v5:=Tryd.zeroValue5
  infoByte:=by kernel_rfl
  cellsByte:=by kernel_rfl
  sizeByte:=by kernel_rfl
  neB5:=by decide
end Go.Proofs.YtjlcpiemabfpiaaDoor

namespace Go.Proofs.YtjlcpiemabfpiaaDoor
open Go.RowKit Go.Deep Go.Shelf
def U4:Go.Shelf.Ren:=⟨fun | 146=>15 | 221=>28 | 268=>41 | 138=>42 | 143=>43 | 195=>55 | 197=>56 | 218=>57 | 219=>58 | 260=>67 | 217=>68 | 225=>69 | 224=>70 | 267=>71 | 266=>78 | 314=>79 | n=>n,fun | 9=>9 | 31=>30 | 3=>3 | 4=>4 | 0=>0 | 105=>81 | 21=>21 | 5=>5 | 46=>92 | 119=>104 | 139=>107 | 138=>106 | 146=>109 | 51=>108 | n=>n,fun | 1=>1 | 3=>4 | 4=>5 | n=>n⟩
theorem Aa4:Lays.n146 Tryd.prog U4 where
  mixed:=by kernel_rfl
  f138:=Tryd.func42.trans (congrArg some (by kernel_rfl))
  f143:=Tryd.func43.trans (congrArg some (by kernel_rfl))
  f146:=Tryd.func15.trans (congrArg some (by kernel_rfl))
  f195:=Tryd.func55.trans (congrArg some (by kernel_rfl))
  f197:=Tryd.func56.trans (congrArg some (by kernel_rfl))
  f217:=Tryd.func68.trans (congrArg some (by kernel_rfl))
  f218:=Tryd.func57.trans (congrArg some (by kernel_rfl))
  f219:=Tryd.func58.trans (congrArg some (by kernel_rfl))
  f221:=Tryd.func28.trans (congrArg some (by kernel_rfl))
  f224:=Tryd.func70.trans (congrArg some (by kernel_rfl))
  f225:=Tryd.func69.trans (congrArg some (by kernel_rfl))
  f260:=Tryd.func67.trans (congrArg some (by kernel_rfl))
  f266:=Tryd.func78.trans (congrArg some (by kernel_rfl))
  f267:=Tryd.func71.trans (congrArg some (by kernel_rfl))
  f268:=Tryd.func41.trans (congrArg some (by kernel_rfl))
  f314:=Tryd.func79.trans (congrArg some (by kernel_rfl))
  t0:=Tryd.underlying0
  a0:=Tryd.isAgg0
  z0:=Tryd.sizeOf0
  v0:=Tryd.zeroValue0
  t3:=Tryd.underlying3
  a3:=Tryd.isAgg3
  z3:=Tryd.sizeOf3
  v3:=Tryd.zeroValue3
  t4:=Tryd.underlying4
  a4:=Tryd.isAgg4
  z4:=Tryd.sizeOf4
  v4:=Tryd.zeroValue4
  t5:=Tryd.underlying5
  a5:=Tryd.isAgg5
  z5:=Tryd.sizeOf5
  v5:=Tryd.zeroValue5
  t9:=Tryd.underlying9
  a9:=Tryd.isAgg9
  z9:=Tryd.sizeOf9
  v9:=Tryd.zeroValue9
  t21:=Tryd.underlying21
  a21:=Tryd.isAgg21
  z21:=Tryd.sizeOf21
  v21:=Tryd.zeroValue21
  t31:=Tryd.underlying30
  a31:=Tryd.isAgg30
  z31:=Tryd.sizeOf30
  v31:=Tryd.zeroValue30
  t46:=Tryd.underlying92
  a46:=Tryd.isAgg92
  z46:=Tryd.sizeOf92
  v46:=Tryd.zeroValue92
  t51:=Tryd.underlying108
  a51:=Tryd.isAgg108
  z51:=Tryd.sizeOf108
  v51:=Tryd.zeroValue108
  t105:=Tryd.underlying81
  a105:=Tryd.isAgg81
  z105:=Tryd.sizeOf81
  v105:=Tryd.zeroValue81
  t119:=Tryd.underlying104
  a119:=Tryd.isAgg104
  z119:=Tryd.sizeOf104
  t138:=Tryd.underlying106
  a138:=Tryd.isAgg106
  z138:=Tryd.sizeOf106
  v138:=Tryd.zeroValue106
  t139:=Tryd.underlying107
  a139:=Tryd.isAgg107
  z139:=Tryd.sizeOf107
  v139:=Tryd.zeroValue107
  t146:=Tryd.underlying109
  a146:=Tryd.isAgg109
  z146:=Tryd.sizeOf109
  v146:=Tryd.zeroValue109
  g1:=by kernel_rfl
  g3:=by kernel_rfl
  g4:=by kernel_rfl
end Go.Proofs.YtjlcpiemabfpiaaDoor

namespace Go.Proofs.YtjlcpiemabfpiaaDoor
open Go.RowKit Go.Deep Go.Shelf
def Abd:Go.Shelf.Ren:=⟨fun | 172=>29 | 244=>44 | 245=>45 | 247=>59 | 279=>60 | 280=>61 | 281=>62 | 282=>63 | 287=>72 | 316=>73 | 171=>50 | 205=>74 | 321=>80 | 322=>81 | 243=>64 | 246=>75 | 283=>82 | 284=>83 | 285=>84 | 286=>85 | 129=>87 | 317=>86 | 318=>88 | 319=>89 | 320=>90 | 337=>91 | 338=>92 | n=>n,fun | 9=>9 | 3=>3 | 75=>55 | 76=>56 | 4=>4 | 5=>5 | 167=>84 | 37=>77 | 0=>0 | 85=>85 | 2=>2 | 168=>87 | 53=>93 | 175=>94 | 46=>92 | 210=>98 | 127=>90 | 145=>115 | 143=>113 | 21=>21 | 171=>116 | 173=>119 | 212=>122 | 51=>108 | 20=>20 | 213=>123 | 232=>126 | 233=>127 | 80=>45 | n=>n,fun | 15=>2 | 16=>3 | 17=>6 | 18=>7 | 19=>8 | n=>n⟩
theorem Rm:LaysC.n172 Tryd.prog Abd where
  mixed:=by kernel_rfl
  f129:=Tryd.func87.trans (congrArg some (by kernel_rfl))
  f171:=Tryd.func50.trans (congrArg some (by kernel_rfl))
  f172:=Tryd.func29.trans (congrArg some (by kernel_rfl))
  f205:=Tryd.func74.trans (congrArg some (by kernel_rfl))
  f243:=Tryd.func64.trans (congrArg some (by kernel_rfl))
  f244:=Tryd.func44.trans (congrArg some (by kernel_rfl))
  f245:=Tryd.func45.trans (congrArg some (by kernel_rfl))
  f246:=Tryd.func75.trans (congrArg some (by kernel_rfl))
  f247:=Tryd.func59.trans (congrArg some (by kernel_rfl))
  f279:=Tryd.func60.trans (congrArg some (by kernel_rfl))
  f280:=Tryd.func61.trans (congrArg some (by kernel_rfl))
  f281:=Tryd.func62.trans (congrArg some (by kernel_rfl))
  f282:=Tryd.func63.trans (congrArg some (by kernel_rfl))
  f283:=Tryd.func82.trans (congrArg some (by kernel_rfl))
  f284:=Tryd.func83.trans (congrArg some (by kernel_rfl))
  f285:=Tryd.func84.trans (congrArg some (by kernel_rfl))
  f286:=Tryd.func85.trans (congrArg some (by kernel_rfl))
  f287:=Tryd.func72.trans (congrArg some (by kernel_rfl))
  f316:=Tryd.func73.trans (congrArg some (by kernel_rfl))
  f317:=Tryd.func86.trans (congrArg some (by kernel_rfl))
  f318:=Tryd.func88.trans (congrArg some (by kernel_rfl))
  f319:=Tryd.func89.trans (congrArg some (by kernel_rfl))
  f320:=Tryd.func90.trans (congrArg some (by kernel_rfl))
  f321:=Tryd.func80.trans (congrArg some (by kernel_rfl))
  f322:=Tryd.func81.trans (congrArg some (by kernel_rfl))
  f337:=Tryd.func91.trans (congrArg some (by kernel_rfl))
  f338:=Tryd.func92.trans (congrArg some (by kernel_rfl))
  t0:=Tryd.underlying0
  a0:=Tryd.isAgg0
  z0:=Tryd.sizeOf0
  v0:=Tryd.zeroValue0
  t2:=Tryd.underlying2
  a2:=Tryd.isAgg2
  z2:=Tryd.sizeOf2
  v2:=Tryd.zeroValue2
  t3:=Tryd.underlying3
  a3:=Tryd.isAgg3
  z3:=Tryd.sizeOf3
  v3:=Tryd.zeroValue3
  t4:=Tryd.underlying4
  a4:=Tryd.isAgg4
  z4:=Tryd.sizeOf4
  v4:=Tryd.zeroValue4
  t5:=Tryd.underlying5
  a5:=Tryd.isAgg5
  z5:=Tryd.sizeOf5
  v5:=Tryd.zeroValue5
  t9:=Tryd.underlying9
  a9:=Tryd.isAgg9
  z9:=Tryd.sizeOf9
  v9:=Tryd.zeroValue9
  t20:=Tryd.underlying20
  a20:=Tryd.isAgg20
  z20:=Tryd.sizeOf20
  v20:=Tryd.zeroValue20
  t21:=Tryd.underlying21
  a21:=Tryd.isAgg21
  z21:=Tryd.sizeOf21
  v21:=Tryd.zeroValue21
  t37:=Tryd.underlying77
  a37:=Tryd.isAgg77
  z37:=Tryd.sizeOf77
  v37:=Tryd.zeroValue77
  t46:=Tryd.underlying92
  a46:=Tryd.isAgg92
  z46:=Tryd.sizeOf92
  v46:=Tryd.zeroValue92
  t51:=Tryd.underlying108
  a51:=Tryd.isAgg108
  z51:=Tryd.sizeOf108
  v51:=Tryd.zeroValue108
  t53:=Tryd.underlying93
  a53:=Tryd.isAgg93
  z53:=Tryd.sizeOf93
  v53:=Tryd.zeroValue93
  t75:=Tryd.underlying55
  a75:=Tryd.isAgg55
  z75:=Tryd.sizeOf55
  v75:=Tryd.zeroValue55
  t76:=Tryd.underlying56
  a76:=Tryd.isAgg56
  z76:=Tryd.sizeOf56
  v76:=Tryd.zeroValue56
  t85:=Tryd.underlying85
  a85:=Tryd.isAgg85
  z85:=Tryd.sizeOf85
  v85:=Tryd.zeroValue85
  t127:=Tryd.underlying90
  a127:=Tryd.isAgg90
  z127:=Tryd.sizeOf90
  v127:=Tryd.zeroValue90
  t143:=Tryd.underlying113
  a143:=Tryd.isAgg113
  z143:=Tryd.sizeOf113
  v143:=Tryd.zeroValue113
  t145:=Tryd.underlying115
  a145:=Tryd.isAgg115
  z145:=Tryd.sizeOf115
  v145:=Tryd.zeroValue115
  t167:=Tryd.underlying84
  a167:=Tryd.isAgg84
  z167:=Tryd.sizeOf84
  v167:=Tryd.zeroValue84
  t168:=Tryd.underlying87
  a168:=Tryd.isAgg87
  z168:=Tryd.sizeOf87
  v168:=Tryd.zeroValue87
  t171:=Tryd.underlying116
  a171:=Tryd.isAgg116
  z171:=Tryd.sizeOf116
  v171:=Tryd.zeroValue116
  t173:=Tryd.underlying119
  a173:=Tryd.isAgg119
  z173:=Tryd.sizeOf119
  v173:=Tryd.zeroValue119
  t175:=Tryd.underlying94
  a175:=Tryd.isAgg94
  z175:=Tryd.sizeOf94
  v175:=Tryd.zeroValue94
  t210:=Tryd.underlying98
  a210:=Tryd.isAgg98
  z210:=Tryd.sizeOf98
  v210:=Tryd.zeroValue98
  t212:=Tryd.underlying122
  a212:=Tryd.isAgg122
  z212:=Tryd.sizeOf122
  v212:=Tryd.zeroValue122
  t213:=Tryd.underlying123
  a213:=Tryd.isAgg123
  z213:=Tryd.sizeOf123
  t232:=Tryd.underlying126
  a232:=Tryd.isAgg126
  z232:=Tryd.sizeOf126
  v232:=Tryd.zeroValue126
  t233:=Tryd.underlying127
  a233:=Tryd.isAgg127
  z233:=Tryd.sizeOf127
  v233:=Tryd.zeroValue127
  g15:=by kernel_rfl
  g16:=by kernel_rfl
  g17:=by kernel_rfl
  g18:=by kernel_rfl
  g19:=by kernel_rfl
  t80:=Tryd.underlying45
  a80:=Tryd.isAgg45
  z80:=Tryd.sizeOf45
  v80:=Tryd.zeroValue45
  i0:=by kernel_rfl
  i2:=by kernel_rfl
  i3:=by kernel_rfl
  i4:=by kernel_rfl
  i5:=by kernel_rfl
  i9:=by kernel_rfl
  i20:=by kernel_rfl
  i21:=by kernel_rfl
  i37:=by kernel_rfl
  i46:=by kernel_rfl
  i51:=by kernel_rfl
  i53:=by kernel_rfl
  i75:=by kernel_rfl
  i76:=by kernel_rfl
  i80:=by kernel_rfl
  i85:=by kernel_rfl
  i127:=by kernel_rfl
  i143:=by kernel_rfl
  i145:=by kernel_rfl
  i167:=by kernel_rfl
  i168:=by kernel_rfl
  i171:=by kernel_rfl
  i173:=by kernel_rfl
  i175:=by kernel_rfl
  i210:=by kernel_rfl
  i212:=by kernel_rfl
  i232:=by kernel_rfl
  i233:=by kernel_rfl
  m15:=by kernel_rfl
  m16:=by kernel_rfl
  m17:=by kernel_rfl
  m18:=by kernel_rfl
  m19:=by kernel_rfl
  c0:=by kernel_rfl
  c2:=by kernel_rfl
  c3:=by kernel_rfl
  c4:=by kernel_rfl
  c5:=by kernel_rfl
  c9:=by kernel_rfl
  c20:=by kernel_rfl
  c21:=by kernel_rfl
  c37:=by kernel_rfl
  c46:=by kernel_rfl
  c51:=by kernel_rfl
  c53:=by kernel_rfl
  c75:=by kernel_rfl
  c76:=by kernel_rfl
  c80:=by kernel_rfl
  c85:=by kernel_rfl
  c127:=by kernel_rfl
  c143:=by kernel_rfl
  c145:=by kernel_rfl
  c167:=by kernel_rfl
  c168:=by kernel_rfl
  c171:=by kernel_rfl
  c173:=by kernel_rfl
  c175:=by kernel_rfl
  c210:=by kernel_rfl
  c212:=by kernel_rfl
  c213:=by kernel_rfl
  c232:=by kernel_rfl
  c233:=by kernel_rfl
end Go.Proofs.YtjlcpiemabfpiaaDoor

namespace Go.Proofs.YtjlcpiemabfpiaaDoor
open Go.RowKit Go.Deep Go.Shelf
def Ad6 (n:Nat):ByteArray:=⟨(Lib.decDigits n).toArray⟩
def E5 (a0:Int):Option ByteArray:=og (0<=a0∧a0<100) (some (Ad6 a0.toNat))
def Oy (r:ByteArray):RV:=⟨false,[(false,[.sc (.str r)])]⟩
theorem Ol {a0:Int} {r:ByteArray} (h:E5 a0=some r):A7 Tryd.prog Tab 50 [.int .i64 a0] (Oy r):=by
 unfold E5 og at h;split at h
 ·rename_i hc;obtain rfl:=osj h;obtain ⟨n,rfl⟩:=Int.eq_ofNat_of_zero_le hc.1;intro w im vs hG hr;obtain ⟨u1,_,rfl,h1,h2⟩:=hr;obtain rfl:_=[]:=h2;obtain rfl:u1=.int .i64 (n:Int):=h1;refine (Any.strconv_Itoa_small { Aaf with } n (by omega) w).mono ?_;rintro e w' ⟨rfl,rfl⟩
  exact ⟨_,rfl,Below.refl _ _,
   [_],[],⟨_,[],rfl,rfl,rfl,rfl,rfl⟩,⟨trivial,fun _=>rfl⟩,rfl⟩
 ·cases h
def Yl (xs:List ByteArray) (sep:ByteArray):ByteArray:=⟨(Lib.join (xs.map (·.data.toList)) sep.data.toList).toArray⟩
def Dq (a0:List ByteArray) (a1:ByteArray):Option ByteArray:=og (a0.length<=1073741824∧(Yl a0 a1).size<=140737488355328) (some (Yl a0 a1))
def Oj (r:ByteArray):RV:=⟨false,[(false,[.sc (.str r)])]⟩
theorem Ir:Bf Tryd.prog 38=true:=by kernel_rfl
theorem It {a0:List ByteArray} {a1 r:ByteArray} (h:Dq a0 a1=some r):A7 Tryd.prog Tab 38 [.tree .str a0,.str a1] (Oj r):=by
 unfold Dq og at h;split at h
 ·rename_i hc;obtain rfl:=osj h;intro w im vs hG hr;obtain ⟨u1,_,rfl,h1,u2,_,rfl,h2,h3⟩:=hr;obtain rfl:_=[]:=h3;obtain rfl:u2=.string a1:=h2;obtain ⟨A,c,l,rfl,hl1,hl2,f,-,hf⟩:=h1
  have key:Calls Tryd.prog 38 #[.slice A a0.length c,.string a1] w fun e w'=>e=.returned (.string (Yl a0 a1))∧Below w.heap.size w w':=by
   by_cases h0:a0=[]
   ·subst h0;exact (Any.strings_Join_none Vr Ve A c a1 w).mono fun e w' ⟨he,hw⟩=>⟨he,hw▸Below.refl _ _⟩
   ·have hp:0<a0.length:=by cases a0 with | nil=>exact absurd rfl h0 | cons _ _=>simp
    obtain ⟨ad,rfl,-,hm⟩:=hf hp;obtain ⟨b,off,sp⟩:=ad;have hc0:w.cell? ⟨b,off,sp⟩=some (.string a0[0]):=by have:=(hm 0 hp).1; simpa [Addr.add] using this
    obtain rfl:sp=none:=World.cell?_spot hc0;refine Any.strings_Join Vr Ve b off c a0 a1 w (fun j x hx=>?_) (World.block_lt_of_cell? w _ hc0) (by omega) hl1 ?_
    ·obtain ⟨hj,rfl⟩:=gSi.1 hx;rw [show (⟨b,off+j,none⟩:Addr)=(⟨b,off,none⟩:Addr).add (j*Ty.str.size) from by simp [Addr.add,Ty.size]];exact (hm j hj).1
    ·have:=hc.2
     simpa [Yl,ByteArray.size] using this
  refine key.mono ?_;rintro e w' ⟨rfl,hb⟩;exact ⟨_,rfl,hb,[_],[],⟨_,[],rfl,rfl,rfl,rfl,rfl⟩,⟨trivial,fun _=>rfl⟩,rfl⟩
 ·cases h
def Adv (s old new:ByteArray):ByteArray:=⟨(Lib.replaceAll s.data.toList old.data.toList new.data.toList).toArray⟩
def Bo (a0 a1 a2:ByteArray):Option ByteArray:=og (a0.size<=1073741824∧(1<=a1.size∧a2.size<=1)) (some (Adv a0 a1 a2))
def I0 (r:ByteArray):RV:=⟨false,[(false,[.sc (.str r)])]⟩
theorem Fc {a0 a1 a2 r:ByteArray} (h:Bo a0 a1 a2=some r):A7 Tryd.prog Tab 36 [.str a0,.str a1,.str a2] (I0 r):=by
 unfold Bo og at h;split at h
 ·rename_i hc;obtain rfl:=osj h;intro w im vs hG hr;obtain ⟨u1,_,rfl,h1,u2,_,rfl,h2,u3,_,rfl,h3,h4⟩:=hr;obtain rfl:_=[]:=h4;obtain rfl:u1=.string a0:=h1;obtain rfl:u2=.string a1:=h2;obtain rfl:u3=.string a2:=h3;obtain ⟨m,hm⟩:=(hG w (Below.refl _ _)).len
  have hcount:Lib.countB a0 a1<=a0.size:=by
   have:=Lib.countB_mul_le a1 hc.2.1 a0.size a0 (Nat.le_refl _);have h2:Lib.countB a0 a1*1<=Lib.countB a0 a1*a1.size:=Nat.mul_le_mul_left _ hc.2.1;omega
  have hlen:a0.size+Lib.countB a0 a1*a2.size<=140737488355328:=by
   have:Lib.countB a0 a1*a2.size<=a0.size*1:=Nat.mul_le_mul hcount hc.2.2;omega
  refine (Any.strings_ReplaceAll Aae Aat a0 a1 a2 m w (by omega) hm hc.2.1 hlen).mono ?_;rintro e w' ⟨rfl,hb⟩;exact ⟨_,rfl,hb,[_],[],⟨_,[],rfl,rfl,rfl,rfl,rfl⟩,⟨trivial,fun _=>rfl⟩,rfl⟩
 ·cases h
def Uv (s sep:ByteArray):List ByteArray:=Lib.splitB sep 0 (Lib.countB s sep) s
def C4 (a0 a1:ByteArray):Option (List ByteArray):=og (a0.size<1073741823∧1<=a1.size) (some (Uv a0 a1))
def Nh (r:List ByteArray):RV:=⟨false,[(false,[.frz (.tree .str r)])]⟩
theorem Ht {a0 a1:ByteArray} {r:List ByteArray} (h:C4 a0 a1=some r):A7 Tryd.prog Tab 15 [.str a0,.str a1] (Nh r):=by
 unfold C4 og at h;split at h
 ·rename_i hc;obtain rfl:=osj h;intro w im vs hG hr;obtain ⟨u1,_,rfl,h1,u2,_,rfl,h2,h3⟩:=hr;obtain rfl:_=[]:=h3;obtain rfl:u1=.string a0:=h1;obtain rfl:u2=.string a1:=h2;obtain ⟨m,hm⟩:=(hG w (Below.refl _ _)).len;refine (Any.strings_Split Aa4 (by kernel_rfl) a0 a1 m w (by omega) hm hc.2).mono ?_;rintro e w' ⟨rfl,rfl⟩;have hlen:(Uv a0 a1).length=Lib.countB a0 a1+1:=Lib.splitB_all a1 hc.2 0 _ a0 rfl;have hle:=Lib.countB_le a1 hc.2 a0.size a0 (Nat.le_refl _)
  have hcell:∀ (i:Nat) (hi:i<(Uv a0 a1).length),(w.alloc (.cells ((Uv a0 a1).map Value.string).toArray (U4.t 9))).cell? ⟨w.heap.size,i,none⟩=some (.string (Uv a0 a1)[i]):=fun i hi=>by
   simp [hi]
  refine ⟨_,rfl,Below.alloc (Below.refl _ _) (Nat.le_refl _) _,[_],[],⟨_,[],rfl,⟨some ⟨w.heap.size,0,none⟩,Lib.countB a0 a1+1,(List.range (Uv a0 a1).length).flatMap fun i=>[⟨w.heap.size,i,none⟩],by rw [hlen],?_⟩,rfl,rfl,rfl⟩,⟨trivial,fun _=>rfl⟩,rfl⟩;refine ⟨by omega,?_,fun i=>[⟨w.heap.size,i,none⟩],rfl,fun _=>⟨_,rfl,Nat.le_refl _,fun i hi=>?_⟩⟩
  ·have:maxLen=1099511627776∨True:=.inr trivial
   first | omega | (refine Nat.le_trans (show Lib.countB a0 a1+1<=1073741824 by omega) (by decide))
  ·have ea:(⟨w.heap.size,0,none⟩:Addr).add (i*Ty.str.size)=⟨w.heap.size,i,none⟩:=by
    by_cases h:i=0 <;> simp [Addr.add,Ty.size,h]
   rw [ea];exact ⟨hcell i hi,rfl⟩
 ·cases h
def Wi (s:ByteArray):Int×Bool:=match Lib.atoiAll s.data.toList with
 | .ok v=>(v,false)
 | .range=>(Lib.atoiSat s.data.toList,true)
 | _=>(0,true)
def Do (a0:ByteArray):Option (Int×Bool):=og (a0.size<=1073741824) (some (Wi a0))
def O1 (r:Int×Bool):RV:=⟨true,[(false,[.sc (.int .i64 r.1)]),(false,[.sc (.err r.2)])]⟩
theorem Oo {a0:ByteArray} {r:Int×Bool} (h:Do a0=some r):A7 Tryd.prog Tab 29 [.str a0] (O1 r):=by
 unfold Do og at h;split at h
 ·rename_i hc;obtain rfl:=osj h;intro w im vs hG hr;obtain ⟨u1,_,rfl,h1,h2⟩:=hr;obtain rfl:_=[]:=h2;obtain rfl:u1=.string a0:=h1
  have key:Calls Tryd.prog 29 #[.string a0] w fun e w'=>(∃ ev,e=.returned (.tuple #[.int .i64 (Wi a0).1,ev])∧(((Wi a0).2=false∧ev=.nilIface)∨((Wi a0).2=true∧∃ t u,ev=.iface t u)))∧Below w.heap.size w w':=by
   have hT:=(hG w (Below.refl _ _)).2.2;unfold Wi;cases hA:Lib.atoiAll a0.data.toList with
   | ok v =>
    refine (Any.strconv_Atoi_ok Rm a0 (by omega) v hA w).mono ?_;rintro e w' ⟨rfl,hw⟩;refine ⟨⟨_,rfl,.inl ⟨rfl,rfl⟩⟩,?_⟩;rcases hw with rfl | ⟨t,rfl⟩
    ·exact Below.refl _ _
    ·exact Lib.bytesWorld_below _ _ _
   | range =>
    obtain ⟨ev,hv,hev⟩:=hT.2;refine (Any.strconv_Atoi_range Rm a0 (by omega) hA ev w hv hev).mono ?_;rintro e w' ⟨n,rfl,-,-,hb⟩;exact ⟨⟨_,rfl,.inr ⟨rfl,_,_,rfl⟩⟩,hb⟩
   | _ =>
    obtain ⟨ev,hv,hev⟩:=hT.1;refine (Any.strconv_Atoi_syntax Rm a0 (by omega) hA ev w hv hev).mono ?_;rintro e w' ⟨n,rfl,-,-,hb⟩;exact ⟨⟨_,rfl,.inr ⟨rfl,_,_,rfl⟩⟩,hb⟩
  refine key.mono ?_;rintro e w' ⟨⟨ev,rfl,hev⟩,hb⟩;exact ⟨_,rfl,hb,[_,_],[],⟨_,[_],rfl,rfl,rfl,_,[],rfl,hev,rfl,rfl,rfl⟩,⟨trivial,fun _=>rfl⟩,rfl⟩
 ·cases h
end Go.Proofs.YtjlcpiemabfpiaaDoor
namespace Go.Proofs.YtjlcpiemabfpiaaDoor
open Go.RowKit Go.Deep
set_option maxRecDepth 4000
def Og:AC :=
 (.seq (rg [xo 6 (qm (cb false))])
 (.seq (rg [xm 7 0,xm 8 1,xo 9 (qb .geq (tm 7) (tm 8)),xm 10 9,⟨some 11,some (10,true),qm (tm 0)⟩,⟨some 12,some (10,true),qm (tm 2)⟩,⟨some 13,some (10,true),qb .leq (tm 11) (tm 12)⟩,xo 14 (.i (.pick (tm 10) (tm 13) (cb false))),xm 6 14])
 .ret))
def Vp:List Res:=[.tmp 6]
theorem Uz:A2 Tryd.prog Tryd.f10=some (Og,Vp):=by kernel_rfl
theorem Dc:Bf Tryd.prog 10=true:=by kernel_rfl
def Bb (a0 a1 a2:Int):Option Bool :=
 (cond (decide (a1<=a0))
  (some (decide (a0<=a2)))
  (some false)).bind fun u0 =>
some u0
def Ur (r:Bool):RV:=⟨false,[(false,[.sc (.bool r)])]⟩
theorem Bl {a0 a1 a2:Int} {r:Bool} (h:Bb a0 a1 a2=some r):A7 Tryd.prog Tab 10 [ai a0,ai a1,ai a2] (Ur r):=by
 refine A5 (by kernel_rfl) Tryd.func10 Uz (n:=15) (by kernel_rfl) (by simp) rfl ?_;unfold Og;unfold Bb at h;refine Al (Ax h (fun (u0:Bool) S_=>S_=⟨Ak [(6,.bool u0)],Ai (Ar []),2⟩) ?_ ?_)
 ·intro v_ h;refine Aa 11 (rsT 4 ?_);rcases Ac h with ⟨q3,h⟩ | ⟨q3,h⟩
  ·have q3_:=of_decide_eq_true q3;refine rq 10 q3 (rsT 5 (Am (tn_ ?_)));obtain rfl:=zj h;exact ⟨_,Ad [],rfl⟩
  have q3_:=of_decide_eq_false q3;refine rq 10 q3 (rsT 5 (Am (tn_ ?_)));obtain rfl:=zj h;exact ⟨_,Ad [],rfl⟩
 rintro u0 _ rfl h
 (try dsimp only at h);refine Ah ?_;obtain rfl:=zj h;exact A6 [.bool u0] (Av rfl zl Aw)
def Ky:AC :=
 (.seq (rg [xo 6 (qm (cb false))])
 (.seq (rg [xm 7 0,xm 8 1,xo 9 (qb .geq (tm 7) (tm 8)),xm 10 9,⟨some 11,some (10,true),qm (tm 0)⟩,⟨some 12,some (10,true),qm (tm 2)⟩,⟨some 13,some (10,true),qb .leq (tm 11) (tm 12)⟩,xo 14 (.i (.pick (tm 10) (tm 13) (cb false))),xm 6 14])
 .ret))
def R0:List Res:=[.tmp 6]
theorem Rv:A2 Tryd.prog Tryd.f31=some (Ky,R0):=by kernel_rfl
theorem C0:Bf Tryd.prog 31=true:=by kernel_rfl
def Bi (a0 a1 a2:Int):Option Bool :=
 (cond (decide (a1<=a0))
  (some (decide (a0<=a2)))
  (some false)).bind fun u0 =>
some u0
def Q3 (r:Bool):RV:=⟨false,[(false,[.sc (.bool r)])]⟩
theorem B8 {a0 a1 a2:Int} {r:Bool} (h:Bi a0 a1 a2=some r):A7 Tryd.prog Tab 31 [ai a0,ai a1,ai a2] (Q3 r):=by
 refine A5 (by kernel_rfl) Tryd.func31 Rv (n:=15) (by kernel_rfl) (by simp) rfl ?_;unfold Ky;unfold Bi at h;refine Al (Ax h (fun (u0:Bool) S_=>S_=⟨Ak [(6,.bool u0)],Ai (Ar []),2⟩) ?_ ?_)
 ·intro v_ h;refine Aa 11 (rsT 4 ?_);rcases Ac h with ⟨q3,h⟩ | ⟨q3,h⟩
  ·have q3_:=of_decide_eq_true q3;refine rq 10 q3 (rsT 5 (Am (tn_ ?_)));obtain rfl:=zj h;exact ⟨_,Ad [],rfl⟩
  have q3_:=of_decide_eq_false q3;refine rq 10 q3 (rsT 5 (Am (tn_ ?_)));obtain rfl:=zj h;exact ⟨_,Ad [],rfl⟩
 rintro u0 _ rfl h
 (try dsimp only at h);refine Ah ?_;obtain rfl:=zj h;exact A6 [.bool u0] (Av rfl zl Aw)
def F9:AC :=
 (.seq (rg [xs1 10 9 8])
 (.seq (.cond (tm 10)
  .skip
  (.exit 0))
 (.seq (.block 1 (.seq (rg [xx 11 1 7 9,xl 12 11,xm 6 12])
 (.seq (rg [xm 13 6,xm 14 1,xo 15 (qb .sub (tm 14) (ci 1)),xo 16 (qc 31 [tm 13,ci 0,tm 15] [[],[],[]]),xo 17 (.i (.not (tm 16)))])
 (.cond (tm 17)
  (.seq (rg [xo 4 (qm (cb false))])
  .ret)
  .skip))))
 (rg [xa 18 9,xm 9 18]))))
def Iv:AC :=
 (.seq (rg [xo 4 (qm (cb false))])
 (.seq (.seq (rg [xm 7 0,xn1 8 7,xo 9 (qm (ci 0))])
 (.block 0 (.loop F9)))
 (.seq (rg [xo 4 (qm (cb true))])
 .ret)))
def Ow:List Res:=[.tmp 4]
theorem Ou:A2 Tryd.prog Tryd.f47=some (Iv,Ow):=by kernel_rfl
theorem Nf:Bf Tryd.prog 47=true:=by kernel_rfl
def Dy (a0:List Int) (a1:Int) (u0:Nat):Option (Ctl Nat (Ctl Unit Bool)) :=
 cond (decide ((u0:Int)<(a0.length:Int)))
 ((a0[u0]?).bind fun x10 =>
 (Bi x10 0 (wI (a1 - 1))).bind fun y12 =>
 cond (!y12)
  (some (Ctl.out (Ctl.out false)))
  (og (u0+1<4611686018427387904) <|
  some (Ctl.next (u0+1))))
 (some (Ctl.out (Ctl.next ())))
def C5 (a0:List Int) (a1:Int):Option Bool :=
 On (Bc (fun s_:Nat=>Dy a0 a1 s_) 4611686018427387904 0) fun _ =>
some true
def Nb (r:Bool):RV:=⟨false,[(false,[.sc (.bool r)])]⟩
theorem Nr {a0:List Int} {a1:Int} {r:Bool} (h:C5 a0 a1=some r):A7 Tryd.prog Tab 47 [tI a0,ai a1] (Nb r):=by
 refine A5 (by kernel_rfl) Tryd.func47 Ou (n:=19) (by kernel_rfl) (by simp) rfl ?_;unfold Iv;unfold C5 at h;refine Al (Ey h (fun (_:Unit) S_=>S_=⟨Ak [],Ai (Ar []),2⟩) ?_ ?_)
 ·intro v_ h hk2;refine Al (At (Bq h (fun (u0:Nat) S_=>S_=⟨Ak [(1,ai a1),(7,tI a0),(8,an a0.length),(9,an u0)],Ai (Ar []),2⟩) ⟨_,Ad [],rfl⟩ ?_));rintro n_ u0 _ c_ rfl h hn4
  (try dsimp only at h);unfold Dy at h;unfold F9;refine Al (Ab ?_);rcases Ac h with ⟨q7,h⟩ | ⟨q7,h⟩
  ·have q7_:=of_decide_eq_true q7;refine Ae q7 (Aj (tn_ (wr_ (Ab (At (Ab ?_))))));obtain ⟨x10,e10,h⟩:=Ag h;refine Aa 6 (zI .int e10 (rsT 2 (Am (tn_ (wr_ (Ab ?_))))));obtain ⟨y12,h12,h⟩:=Ag h;refine Aa 11 (rsT 3 (zc (.bool y12) [] [ai x10,ai 0,ai (wI (a1 - 1))] (B8 h12) (rsT 1 (Am (tn_ (wr_ ?_))))));rcases Ac h with ⟨q13,h⟩ | ⟨q13,h⟩
   ·refine Ae q13 (Al (Ah (br_ (tr_ (tr_ (br_ (tr_ ?_)))))));obtain rfl:=zj h;have h:=hn4
    (try dsimp only at h);obtain rfl:=zj h;have h:=hk2
    (try dsimp only at h);obtain rfl:=zj h;exact A6 [.bool false] (Av rfl zl Aw)
   refine Af q13 (Aj (bn_ (tn_ (wr_ ?_))));obtain ⟨g15,h⟩:=A4 h;refine Aa 13 (zA g15 (rsT 1 (Am (tn_ ?_))));obtain rfl:=zj h;exact ⟨u0+1,_,Ad [],rfl,hn4⟩
  have q7_:=of_decide_eq_false q7;refine Af q7 (Br (te_ (te_ (be_ (tn_ ?_)))));obtain rfl:=zj h;have h:=hn4
  (try dsimp only at h);obtain rfl:=zj h;exact ⟨(),_,rfl,Ad [],rfl⟩
 rintro _ _ rfl h
 (try dsimp only at h);refine Al (Ah ?_);obtain rfl:=zj h;exact A6 [.bool true] (Av rfl zl Aw)
def Hq:AC :=
 (.seq (rg [xo 4 (qm (cb false))])
 (.seq (rg [xm 5 1,xo 6 (qb .geq (tm 5) (ci 0)),xm 7 6,⟨some 8,some (7,true),qm (tm 1)⟩,⟨some 9,some (7,true),qm (tm 0)⟩,⟨some 10,some (7,true),qb .lss (tm 8) (tm 9)⟩,xo 11 (.i (.pick (tm 7) (tm 10) (cb false))),xm 4 11])
 .ret))
def Nt:List Res:=[.tmp 4]
theorem Nw:A2 Tryd.prog Tryd.f49=some (Hq,Nt):=by kernel_rfl
theorem Mw:Bf Tryd.prog 49=true:=by kernel_rfl
def Dk (a0 a1:Int):Option Bool :=
 (cond (decide (0<=a1))
  (some (decide (a1<a0)))
  (some false)).bind fun u0 =>
some u0
def Mg (r:Bool):RV:=⟨false,[(false,[.sc (.bool r)])]⟩
theorem Ms {a0 a1:Int} {r:Bool} (h:Dk a0 a1=some r):A7 Tryd.prog Tab 49 [ai a0,ai a1] (Mg r):=by
 refine A5 (by kernel_rfl) Tryd.func49 Nw (n:=12) (by kernel_rfl) (by simp) rfl ?_;unfold Hq;unfold Dk at h;refine Al (Ax h (fun (u0:Bool) S_=>S_=⟨Ak [(4,.bool u0)],Ai (Ar []),2⟩) ?_ ?_)
 ·intro v_ h;refine Aa 10 (rsT 3 ?_);rcases Ac h with ⟨q3,h⟩ | ⟨q3,h⟩
  ·have q3_:=of_decide_eq_true q3;refine rq 7 q3 (rsT 5 (Am (tn_ ?_)));obtain rfl:=zj h;exact ⟨_,Ad [],rfl⟩
  have q3_:=of_decide_eq_false q3;refine rq 7 q3 (rsT 5 (Am (tn_ ?_)));obtain rfl:=zj h;exact ⟨_,Ad [],rfl⟩
 rintro u0 _ rfl h
 (try dsimp only at h);refine Ah ?_;obtain rfl:=zj h;exact A6 [.bool u0] (Av rfl zl Aw)
def Hd:AC :=
 (.seq (.seq (rg [xm 7 3,xm 8 3,xo 9 (qb .mul (tm 7) (tm 8)),xm 10 0,xo 11 (qb .leq (tm 9) (tm 10))])
 (.cond (tm 11)
  .skip
  (.exit 0)))
 (.seq (.block 1 (.seq (rg [xm 14 0,xm 15 3,xo 16 (qb .rem (tm 14) (tm 15)),xo 17 (qb .eql (tm 16) (ci 0))])
 (.cond (tm 17)
  (.seq (rg [xo 2 (qm (cb false))])
  .ret)
  .skip)))
 (rg [xm 12 3,xa 13 12,xm 3 13])))
def Kv:AC :=
 (.seq (rg [xo 2 (qm (cb false))])
 (.seq (.seq (rg [xm 4 0,xo 5 (qc 10 [tm 4,ci 2,ci 97] [[],[],[]]),xo 6 (.i (.not (tm 5)))])
 (.cond (tm 6)
  (.seq (rg [xo 2 (qm (cb false))])
  .ret)
  .skip))
 (.seq (.seq (rg [xo 3 (qm (ci 2))])
 (.block 0 (.loop Hd)))
 (.seq (rg [xo 2 (qm (cb true))])
 .ret))))
def R7:List Res:=[.tmp 2]
theorem Rx:A2 Tryd.prog Tryd.f24=some (Kv,R7):=by kernel_rfl
def Dm (a0:Int) (u0:Nat):Option (Ctl Nat (Ctl Unit Bool)) :=
 cond (decide (wI ((u0:Int)*(u0:Int))<=a0))
 (og ((u0:Int)≠0) <|
 cond ((Int.tmod a0 (u0:Int))==0)
  (some (Ctl.out (Ctl.out false)))
  (og (u0+1<4611686018427387904) <|
  some (Ctl.next (u0+1))))
 (some (Ctl.out (Ctl.next ())))
def Es (a0:Int):Option Bool :=
 (Bb a0 2 97).bind fun y4 =>
cond (!y4)
 (some false)
 (On (Bc (fun s_:Nat=>Dm a0 s_) 4611686018427387904 2) fun _ =>
 some true)
def Qr (r:Bool):RV:=⟨false,[(false,[.sc (.bool r)])]⟩
theorem Rg {a0:Int} {r:Bool} (h:Es a0=some r):A7 Tryd.prog Tab 24 [ai a0] (Qr r):=by
 refine A5 (by kernel_rfl) Tryd.func24 Rx (n:=18) (by kernel_rfl) (by simp) rfl ?_;unfold Kv;unfold Es at h;refine Al (Ab (Ab ?_));obtain ⟨y4,h4,h⟩:=Ag h;refine Aa 5 (rsT 1 (zc (.bool y4) [] [ai a0,ai 2,ai 97] (Bl h4) (rsT 1 (Am (tn_ (wr_ ?_))))));rcases Ac h with ⟨q5,h⟩ | ⟨q5,h⟩
 ·refine Ae q5 (Al (Ah (tr_ ?_)));obtain rfl:=zj h;exact A6 [.bool false] (Av rfl zl Aw)
 refine Af q5 (Aj (tn_ (wr_ (Ey h (fun (_:Unit) S_=>S_=⟨Ak [],Ai (Ar []),2⟩) ?_ ?_))))
 ·intro v_ h hk7;refine Al (At (Bq h (fun (u0:Nat) S_=>S_=⟨Ak [(0,ai a0),(3,an u0)],Ai (Ar []),2⟩) ⟨_,Ad [],rfl⟩ ?_));rintro n_ u0 _ c_ rfl h hn9
  (try dsimp only at h);unfold Dm at h;unfold Hd;refine Ab (Al ?_);rcases Ac h with ⟨q12,h⟩ | ⟨q12,h⟩
  ·have q12_:=of_decide_eq_true q12;refine Ae q12 (Aj (tn_ (wr_ (Ab (At (Ab ?_))))));obtain ⟨g15,h⟩:=A4 h;refine Aa 11 (rsT 2 (rs0 (ai (Int.tmod a0 (u0:Int))) (Acw (k:=.i64) (a:=a0) (b:=(u0:Int)) (by kernel_rfl) (by kernel_rfl) g15) (rsT 1 (Am (tn_ (wr_ ?_))))));rcases Ac h with ⟨q16,h⟩ | ⟨q16,h⟩
   ·refine Ae q16 (Al (Ah (br_ (tr_ (tr_ (br_ (tr_ ?_)))))));obtain rfl:=zj h;have h:=hn9
    (try dsimp only at h);obtain rfl:=zj h;have h:=hk7
    (try dsimp only at h);obtain rfl:=zj h;exact A6 [.bool false] (Av rfl zl Aw)
   refine Af q16 (Aj (bn_ (tn_ (wr_ ?_))));obtain ⟨g18,h⟩:=A4 h;refine Aa 14 (rsT 1 (zA g18 (rsT 1 (Am (tn_ ?_)))));obtain rfl:=zj h;exact ⟨u0+1,_,Ad [],rfl,hn9⟩
  have q12_:=of_decide_eq_false q12;refine Af q12 (Br (te_ (te_ (be_ (tn_ ?_)))));obtain rfl:=zj h;have h:=hn9
  (try dsimp only at h);obtain rfl:=zj h;exact ⟨(),_,rfl,Ad [],rfl⟩
 rintro _ _ rfl h
 (try dsimp only at h);refine Al (Ah ?_);obtain rfl:=zj h;exact A6 [.bool true] (Av rfl zl Aw)
def G0:AC :=
 (.seq (.seq (rg [xm 8 7,xm 9 0,xo 10 (.i (.lenS (tm 9))),xs1 11 8 10])
 (.cond (tm 11)
  .skip
  (.exit 0)))
 (.seq (.block 1 (.seq (rg [xm 14 0,xm 15 7,xo 16 (.i (.char (tm 14) (tm 15))),xm 17 1,xo 18 (qb .eql (tm 16) (tm 17))])
 (.cond (tm 18)
  (.seq (rg [xm 19 5,xm 20 0,xm 21 6,xm 22 7,xo 23 (.sub (tm 20) (some (tm 21)) (some (tm 22))),xo 24 (.mkS 9 .str [tm 23]),xo 25 (.append 9 .str 16 (tm 19) (tm 24)),xm 5 25])
  (rg [xm 26 7,xa 27 26,xm 6 27]))
  .skip)))
 (rg [xm 12 7,xa 13 12,xm 7 13])))
def Jf:AC :=
 (.seq (rg [xo 4 (qm (.cst .nils))])
 (.seq (rg [xo 5 (qm (.cst .nils))])
 (.seq (rg [xo 6 (qm (ci 0))])
 (.seq (.seq (rg [xo 7 (qm (ci 0))])
 (.block 0 (.loop G0)))
 (.seq (rg [xm 28 5,xm 29 0,xm 30 6,xo 31 (.sub (tm 29) (some (tm 30)) none),xo 32 (.mkS 9 .str [tm 31]),xo 33 (.append 9 .str 16 (tm 28) (tm 32)),xm 4 33])
 .ret)))))
def P0:List Res:=[.tmp 4]
theorem P1:A2 Tryd.prog Tryd.f9=some (Jf,P0):=by kernel_rfl
def C8 (a0:ByteArray) (a1:Int) (u1 u0:Nat) (u2:List ByteArray):Option (Ctl (Nat×Nat×List ByteArray) (Nat×List ByteArray)) :=
 cond (decide ((u0:Int)<(a0.size:Int)))
 (((a0[u0]?).bind fun x12 =>
  cond ((x12.toNat:Int)==a1)
   (og ((0:Int)<=(u1:Int)∧(u1:Int)<=(u0:Int)∧(u0:Int)<=(a0.size:Int)) <|
   og (u2.length+1<=1073741824∧(u2.length+1)*16<=140737488355328) <|
   og (u0+1<4611686018427387904) <|
   some (u0+1,u2++([a0.extract u1 u0])))
   (some (u1,u2))).bind fun (u3,u4) =>
 og (u0+1<4611686018427387904) <|
 some (Ctl.next (u3,u0+1,u4)))
 (some (Ctl.out (u1,u2)))
def C1 (a0:ByteArray) (a1:Int):Option (List ByteArray) :=
 (Bc (fun s_:Nat×Nat×List ByteArray=>C8 a0 a1 s_.1 s_.2.1 s_.2.2) 4611686018427387904 (0,0,[])).bind fun (u0,u1) =>
og ((0:Int)<=(u0:Int)∧(u0:Int)<=(a0.size:Int)∧(a0.size:Int)<=(a0.size:Int)) <|
og (u1.length+1<=1073741824∧(u1.length+1)*16<=140737488355328) <|
some (u1++([a0.extract u0 a0.size]))
def O3 (r:List ByteArray):RV:=⟨false,[(false,[.new 9 .str r])]⟩
theorem Fv {a0:ByteArray} {a1:Int} {r:List ByteArray} (h:C1 a0 a1=some r):A7 Tryd.prog Tab 9 [.str a0,.int .u8 a1] (O3 r):=by
 refine A5 (by kernel_rfl) Tryd.func9 P1 (n:=34) (by kernel_rfl) (by simp) rfl ?_;unfold Jf;unfold C1 at h;refine Al (Al (Al (Ax h (fun t_ S_=>∃ (u3:Nat),∃ (u4:List ByteArray),t_=(u3,u4)∧S_=⟨Ak [(0,.str a0),(5,.own (oi 0 1) .str 0 u4.length),(6,an u3)],Ai (Ar [(oi 0 1,.arr 9 .str u4)]),2⟩) ?_ ?_)))
 ·intro v_ h;refine Al (At (Bq h (fun t_ S_=>∃ (u1:Nat),∃ (u0:Nat),∃ (u2:List ByteArray),t_=(u1,u0,u2)∧S_=⟨Ak [(0,.str a0),(1,.int .u8 a1),(5,.own (oi 0 1) .str 0 u2.length),(6,an u1),(7,an u0)],Ai (Ar [(oi 0 1,.arr 9 .str u2)]),2⟩) ⟨_,(Yn 5 9 .str rfl (by kernel_rfl)).trans (Ad [(oi 0 1,oi 5 5)]),⟨0,0,[],rfl,rfl⟩⟩ ?_));rintro n_ _ _ c_ ⟨u1,u0,u2,rfl,rfl⟩ h hn6
  (try dsimp only at h);unfold C8 at h;unfold G0;refine Ab (Al ?_);rcases Ac h with ⟨q9,h⟩ | ⟨q9,h⟩
  ·have q9_:=of_decide_eq_true q9;refine Ae q9 (Aj (tn_ (wr_ (Ax h (fun t_ S_=>∃ (u6:Nat),∃ (u5:List ByteArray),t_=(u6,u5)∧S_=⟨Ak [(0,.str a0),(1,.int .u8 a1),(5,.own (oi 0 1) .str 0 u5.length),(6,an u6),(7,an u0)],Ai (Ar [(oi 0 1,.arr 9 .str u5)]),2⟩) ?_ ?_))))
   ·intro v_ h;refine At (Ab ?_);obtain ⟨x12,e12,h⟩:=Ag h;refine Aa 11 (rsT 2 (rs0 (.int .u8 (x12.toNat:Int)) (Rc (s:=a0) (k:=.i64) (m:=(u0:Int)) (by kernel_rfl) (by kernel_rfl) (Jl _) rfl e12) (rsT 2 (Am (tn_ (wr_ ?_))))));rcases Ac h with ⟨q13,h⟩ | ⟨q13,h⟩
    ·refine Ae q13 (Ab ?_);obtain ⟨g15,h⟩:=A4 h;obtain ⟨g16,h⟩:=A4 h;refine Aa 19 (rsT 4 (rs0 (.str (a0.extract u1 u0)) (Acr (s:=a0) (l:=(u1:Int)) (h:=(u0:Int)) (by kernel_rfl) (by kernel_rfl) (by kernel_rfl) g15) (rsB 1 (rs2 (.own (oi 0 17) .str 0 ((u2++([a0.extract u1 u0])).length)) (oi 0 1) (oi 0 17) (.arr 9 .str (u2++([a0.extract u1 u0]))) (K8 (t:=.str) (t':=.str) (xs:=u2) (ys:=[a0.extract u1 u0]) (zs:=u2++([a0.extract u1 u0])) (j:=oi 0 1) (len:=u2.length) (c:=.own (oi 24 16) .str 0 1) (by kernel_rfl) (by kernel_rfl) rfl (by kernel_rfl) (E4 (e:=9) (by kernel_rfl) rfl) rfl g16) (rsT 1 (Am (tn_ (wr_ ?_))))))));obtain ⟨g17,h⟩:=A4 h;refine Aa 22 (rsT 1 (zA g17 (rsT 1 (Am (bn_ (tn_ ?_))))));obtain rfl:=zj h;exact ⟨_,Ad [(oi 0 1,oi 0 17)],⟨u0+1,u2++([a0.extract u1 u0]),rfl,rfl⟩⟩
    refine Af q13 (Aj (bn_ (tn_ ?_)));obtain rfl:=zj h;exact ⟨_,Ad [],⟨u1,u2,rfl,rfl⟩⟩
   rintro _ _ ⟨u6,u5,rfl,rfl⟩ h
   (try dsimp only at h);obtain ⟨g18,h⟩:=A4 h;refine Aa 5 (rsT 1 (zA g18 (rsT 1 (Am (tn_ ?_)))));obtain rfl:=zj h;exact ⟨(u6,u0+1,u5),_,Ad [],⟨u6,u0+1,u5,rfl,rfl⟩,hn6⟩
  have q9_:=of_decide_eq_false q9;refine Af q9 (Br (te_ (te_ (be_ (tn_ ?_)))));obtain rfl:=zj h;have h:=hn6
  (try dsimp only at h);obtain rfl:=zj h;exact ⟨_,Ad [],⟨u1,u2,rfl,rfl⟩⟩
 rintro _ _ ⟨u3,u4,rfl,rfl⟩ h
 (try dsimp only at h);refine Ab ?_;obtain ⟨g20,h⟩:=A4 h;obtain ⟨g21,h⟩:=A4 h;refine Aa 9 (rsT 3 (rs0 (.str (a0.extract u3 a0.size)) (Acr (s:=a0) (l:=(u3:Int)) (h:=(a0.size:Int)) (by kernel_rfl) (by kernel_rfl) (by kernel_rfl) g20) (rsB 1 (rs2 (.own (oi 0 7) .str 0 ((u4++([a0.extract u3 a0.size])).length)) (oi 0 1) (oi 0 7) (.arr 9 .str (u4++([a0.extract u3 a0.size]))) (K8 (t:=.str) (t':=.str) (xs:=u4) (ys:=[a0.extract u3 a0.size]) (zs:=u4++([a0.extract u3 a0.size])) (j:=oi 0 1) (len:=u4.length) (c:=.own (oi 32 6) .str 0 1) (by kernel_rfl) (by kernel_rfl) rfl (by kernel_rfl) (E4 (e:=9) (by kernel_rfl) rfl) rfl g21) (rsT 1 (Am (tn_ (wr_ (Ah ?_)))))))));obtain rfl:=zj h;exact A6 [.own (oi 0 7) .str 0 ((u4++([a0.extract u3 a0.size])).length)] (Av rfl (H4 (by kernel_rfl) rfl) Aw)
def Hm:AC :=
 (.seq (.seq (rg [xm 19 4,xm 20 0,xo 21 (.i (.lenS (tm 20))),xs1 22 19 21])
 (.cond (tm 22)
  .skip
  (.exit 0)))
 (.seq (.block 1 (.seq (.seq (rg [xm 25 0,xm 26 4,xo 27 (.i (.char (tm 25) (tm 26))),⟨some 28,none,.i (.bin .lss (tm 27) (.cst (.int .u8 48)))⟩,xm 29 28,⟨some 30,some (29,false),qm (tm 0)⟩,⟨some 31,some (29,false),qm (tm 4)⟩,⟨some 32,some (29,false),.i (.char (tm 30) (tm 31))⟩,⟨some 33,some (29,false),.i (.bin .gtr (tm 32) (.cst (.int .u8 57)))⟩,xo 34 (.i (.pick (tm 29) (cb true) (tm 33)))])
 (.cond (tm 34)
  (.seq (rg [xo 2 (qm (ci (-1)))])
  .ret)
  .skip))
 (rg [xm 35 3,xo 36 (qb .mul (ci 10) (tm 35)),xm 37 0,xm 38 4,xo 39 (.i (.char (tm 37) (tm 38))),⟨some 40,none,.i (.bin .sub (tm 39) (.cst (.int .u8 48)))⟩,xo 41 (.i (.conv .i64 (tm 40))),xo 42 (qb .add (tm 36) (tm 41)),xm 3 42])))
 (rg [xm 23 4,xa 24 23,xm 4 24])))
def Km:AC :=
 (.seq (rg [xo 2 (qm (ci 0))])
 (.seq (.seq (rg [xm 5 0,xo 6 (.i (.lenS (tm 5))),xo 7 (qc 10 [tm 6,ci 1,ci 6] [[],[],[]]),xo 8 (.i (.not (tm 7))),xm 9 8,⟨some 10,some (9,false),qm (tm 0)⟩,⟨some 11,some (9,false),.i (.char (tm 10) (ci 0))⟩,⟨some 12,some (9,false),.i (.bin .eql (tm 11) (.cst (.int .u8 48)))⟩,⟨some 13,some (9,false),qm (tm 12)⟩,⟨some 14,some (13,true),qm (tm 0)⟩,⟨some 15,some (13,true),.i (.lenS (tm 14))⟩,⟨some 16,some (13,true),qb .gtr (tm 15) (ci 1)⟩,⟨some 17,some (9,false),.i (.pick (tm 13) (tm 16) (cb false))⟩,xo 18 (.i (.pick (tm 9) (cb true) (tm 17)))])
 (.cond (tm 18)
  (.seq (rg [xo 2 (qm (ci (-1)))])
  .ret)
  .skip))
 (.seq (rg [xo 3 (qm (ci 0))])
 (.seq (.seq (rg [xo 4 (qm (ci 0))])
 (.block 0 (.loop Hm)))
 (.seq (rg [xm 43 3,xm 2 43])
 .ret)))))
def R8:List Res:=[.tmp 2]
theorem Rz:A2 Tryd.prog Tryd.f11=some (Km,R8):=by kernel_rfl
def Du (a0:ByteArray) (u1:Int) (u0:Nat):Option (Ctl (Int×Nat) (Ctl Int Int)) :=
 cond (decide ((u0:Int)<(a0.size:Int)))
 (((a0[u0]?).bind fun x20 =>
  cond (decide ((x20.toNat:Int)<48))
   (some true)
   ((a0[u0]?).bind fun x22 =>
   some (decide (57<(x22.toNat:Int))))).bind fun u2 =>
 cond u2
  (some (Ctl.out (Ctl.out (-1))))
  ((a0[u0]?).bind fun x25 =>
  og (u0+1<4611686018427387904) <|
  some (Ctl.next (wI (wI (10*u1)+wI (IntKind.u8.wrap ((x25.toNat:Int) - 48))),u0+1))))
 (some (Ctl.out (Ctl.next u1)))
def Bj (a0:ByteArray):Option Int :=
 ((Bb (a0.size:Int) 1 6).bind fun y4 =>
 cond (!y4)
  (some true)
  ((a0[0]?).bind fun x6 =>
  cond ((x6.toNat:Int)==48)
   (some (decide (1<(a0.size:Int))))
   (some false))).bind fun u0 =>
cond u0
 (some (-1))
 (On (Bc (fun s_:Int×Nat=>Du a0 s_.1 s_.2) 4611686018427387904 (0,0)) fun u1 =>
 some u1)
def Q9 (r:Int):RV:=⟨false,[(false,[.sc (.int .i64 r)])]⟩
theorem Ec {a0:ByteArray} {r:Int} (h:Bj a0=some r):A7 Tryd.prog Tab 11 [.str a0] (Q9 r):=by
 refine A5 (by kernel_rfl) Tryd.func11 Rz (n:=44) (by kernel_rfl) (by simp) rfl ?_;unfold Km;unfold Bj at h;refine Al (Ab (Ax h (fun (u3:Bool) S_=>S_=⟨Ak [(0,.str a0),(18,.bool u3)],Ai (Ar []),2⟩) ?_ ?_))
 ·intro v_ h;obtain ⟨y4,h4,h⟩:=Ag h;refine Aa 16 (rsT 2 (zc (.bool y4) [] [an a0.size,ai 1,ai 6] (Bl h4) (rsT 2 ?_)));rcases Ac h with ⟨q5,h⟩ | ⟨q5,h⟩
  ·refine rq 9 q5 (rsT 4 (rs0 (.tup []) (Tl (by kernel_rfl)) (rs0 (.tup []) (Tl (by kernel_rfl)) (rs0 (.tup []) (Tl (by kernel_rfl)) (rsT 2 (Am (tn_ ?_)))))));obtain rfl:=zj h;exact ⟨_,Ad [],rfl⟩
  obtain ⟨x6,e6,h⟩:=Ag h;refine rq 9 q5 (rsT 1 (rs0 (.int .u8 (x6.toNat:Int)) (Rc (s:=a0) (k:=.i64) (m:=0) (by kernel_rfl) (by kernel_rfl) (by decide) rfl e6) (rsT 2 ?_)));rcases Ac h with ⟨q7,h⟩ | ⟨q7,h⟩
  ·refine rq 13 q7 (rsT 5 (Am (tn_ ?_)));obtain rfl:=zj h;exact ⟨_,Ad [],rfl⟩
  refine rq 13 q7 (rsT 5 (Am (tn_ ?_)));obtain rfl:=zj h;exact ⟨_,Ad [],rfl⟩
 rintro u3 _ rfl h
 (try dsimp only at h);rcases Ac h with ⟨q8,h⟩ | ⟨q8,h⟩
 ·refine Ae q8 (Al (Ah (tr_ ?_)));obtain rfl:=zj h;exact A6 [ai (-1)] (Av rfl zl Aw)
 refine Af q8 (Aj (tn_ (wr_ (Al (Ey h (fun (u2:Int) S_=>S_=⟨Ak [(3,ai u2)],Ai (Ar []),2⟩) ?_ ?_)))))
 ·intro v_ h hk11;refine Al (At (Bq h (fun t_ S_=>∃ (u1:Int),∃ (u0:Nat),t_=(u1,u0)∧S_=⟨Ak [(0,.str a0),(3,ai u1),(4,an u0)],Ai (Ar []),2⟩) ⟨_,Ad [],⟨0,0,rfl,rfl⟩⟩ ?_));rintro n_ _ _ c_ ⟨u1,u0,rfl,rfl⟩ h hn13
  (try dsimp only at h);unfold Du at h;unfold Hm;refine Ab (Al ?_);rcases Ac h with ⟨q16,h⟩ | ⟨q16,h⟩
  ·have q16_:=of_decide_eq_true q16;refine Ae q16 (Aj (tn_ (wr_ (Ab (At (Ab (Ax h (fun (u4:Bool) S_=>S_=⟨Ak [(0,.str a0),(3,ai u1),(4,an u0),(34,.bool u4)],Ai (Ar []),2⟩) ?_ ?_)))))))
   ·intro v_ h;obtain ⟨x20,e20,h⟩:=Ag h;refine Aa 16 (rsT 2 (rs0 (.int .u8 (x20.toNat:Int)) (Rc (s:=a0) (k:=.i64) (m:=(u0:Int)) (by kernel_rfl) (by kernel_rfl) (Jl _) rfl e20) (rsT 2 ?_)));rcases Ac h with ⟨q21,h⟩ | ⟨q21,h⟩
    ·have q21_:=of_decide_eq_true q21;refine rq 29 q21 (rsT 5 (Am (tn_ ?_)));obtain rfl:=zj h;exact ⟨_,Ad [],rfl⟩
    have q21_:=of_decide_eq_false q21;obtain ⟨x22,e22,h⟩:=Ag h;refine rq 29 q21 (rsT 2 (rs0 (.int .u8 (x22.toNat:Int)) (Rc (s:=a0) (k:=.i64) (m:=(u0:Int)) (by kernel_rfl) (by kernel_rfl) (Jl _) rfl e22) (rsT 2 (Am (tn_ ?_)))));obtain rfl:=zj h;exact ⟨_,Ad [],rfl⟩
   rintro u4 _ rfl h
   (try dsimp only at h);rcases Ac h with ⟨q23,h⟩ | ⟨q23,h⟩
   ·refine Ae q23 (Al (Ah (tr_ (br_ (tr_ (tr_ (br_ (tr_ ?_))))))));obtain rfl:=zj h;have h:=hn13
    (try dsimp only at h);obtain rfl:=zj h;have h:=hk11
    (try dsimp only at h);obtain rfl:=zj h;exact A6 [ai (-1)] (Av rfl zl Aw)
   refine Af q23 (Aj (tn_ (wr_ ?_)));obtain ⟨x25,e25,h⟩:=Ag h;refine Aa 11 (rsT 4 (rs0 (.int .u8 (x25.toNat:Int)) (Rc (s:=a0) (k:=.i64) (m:=(u0:Int)) (by kernel_rfl) (by kernel_rfl) (Jl _) rfl e25) (rsT 4 (Am (bn_ (tn_ (wr_ ?_)))))));obtain ⟨g26,h⟩:=A4 h;refine Aa 14 (rsT 1 (zA g26 (rsT 1 (Am (tn_ ?_)))));obtain rfl:=zj h;exact ⟨(wI (wI (10*u1)+wI (IntKind.u8.wrap ((x25.toNat:Int) - 48))),u0+1),_,Ad [],⟨wI (wI (10*u1)+wI (IntKind.u8.wrap ((x25.toNat:Int) - 48))),u0+1,rfl,rfl⟩,hn13⟩
  have q16_:=of_decide_eq_false q16;refine Af q16 (Br (te_ (te_ (be_ (tn_ ?_)))));obtain rfl:=zj h;have h:=hn13
  (try dsimp only at h);obtain rfl:=zj h;exact ⟨u1,_,rfl,Ad [],rfl⟩
 rintro u2 _ rfl h
 (try dsimp only at h);refine Al (Ah ?_);obtain rfl:=zj h;exact A6 [ai u2] (Av rfl zl Aw)
def Mp:AC :=
 (.seq (rg [⟨some 2,none,.i (.mov (.cst (.str ⟨#[]⟩)))⟩])
 (.seq (.seq (rg [xm 3 0,xo 4 (qb .lss (tm 3) (ci 10))])
 (.cond (tm 4)
  (.seq (rg [xm 5 0,xo 6 (qb .add (ci 48) (tm 5)),xo 7 (.i (.conv .u8 (tm 6))),xo 8 (.mkV 5 .int 1 [tm 7]),xo 9 (.i (.b2s (tm 8))),xm 2 9])
  .ret)
  .skip))
 (.seq (.region [xm 10 0,xo 11 (qb .quo (tm 10) (ci 10)),xo 12 (qc 40 [tm 11] [[]]),xm 13 0,xo 14 (qb .rem (tm 13) (ci 10)),xo 15 (qb .add (ci 48) (tm 14)),xo 16 (.i (.conv .u8 (tm 15))),xo 17 (.mkV 5 .int 1 [tm 16]),xo 18 (.i (.b2s (tm 17))),xo 19 (qb .add (tm 12) (tm 18)),xm 2 19] true [(2,7),(2,8)])
 .ret)))
def Ua:List Res:=[.tmp 2]
theorem Ul:A2 Tryd.prog Tryd.f40=some (Mp,Ua):=by kernel_rfl
theorem Kq:Bf Tryd.prog 40=true:=by kernel_rfl
def Ee (rec_:Int->Option ByteArray) (a0:Int):Option ByteArray :=
 cond (decide (a0<10))
 (some (strOfNums [IntKind.u8.wrap (wI (48+a0))]))
 ((rec_ (wI (Int.tdiv a0 10))).bind fun y7 =>
 og (y7.size+(strOfNums [IntKind.u8.wrap (wI (48+Int.tmod a0 10))]).size<=9223372036854775807) <|
 some (y7++(strOfNums [IntKind.u8.wrap (wI (48+Int.tmod a0 10))])))
def D1:Nat->Int->Option ByteArray
 | 0=>fun _=>none
 | n_+1=>Ee (D1 n_)
def G7 (r:ByteArray):RV:=⟨false,[(false,[.sc (.str r)])]⟩
theorem Pj {rec_:Int->Option ByteArray} (ih_:∀ {a0:Int} {r:ByteArray} (h:rec_ a0=some r),A7 Tryd.prog Tab 40 [ai a0] (G7 r)) {a0:Int} {r:ByteArray} (h:Ee rec_ a0=some r):A7 Tryd.prog Tab 40 [ai a0] (G7 r):=by
 refine A5 (by kernel_rfl) Tryd.func40 Ul (n:=20) (by kernel_rfl) (by simp) rfl ?_;unfold Mp;unfold Ee at h;refine Al (Ab (Al ?_));rcases Ac h with ⟨q4,h⟩ | ⟨q4,h⟩
 ·have q4_:=of_decide_eq_true q4;refine Ae q4 (Ab (Aa 10 (rsT 3 (Ad1 (oI 8 7 1) (oi 8 7) (.vec 5 1 1 [.int .u8 (IntKind.u8.wrap (wI (48+a0)))]) trivial (Acx (by kernel_rfl)) (rsT 2 (Am (tn_ (wr_ (Ah (tr_ ?_))))))))));obtain rfl:=zj h;exact A6 [.str (strOfNums [IntKind.u8.wrap (wI (48+a0))])] (Av rfl zl Aw)
 have q4_:=of_decide_eq_false q4;refine Af q4 (Aj (tn_ (wr_ (Ab ?_))));obtain ⟨y7,h7,h⟩:=Ag h;obtain ⟨g8,h⟩:=A4 h;refine Bh 15 (dz0 (ai a0) (ds0 (ai (wI (Int.tdiv a0 10))) (Adw (k:=.i64) (a:=a0) (b:=10) (by kernel_rfl) (by kernel_rfl) (by decide)) (U2 (.str y7) [] [ai (wI (Int.tdiv a0 10))] _ (caps:=[]) (args0:=[ai (wI (Int.tdiv a0 10))]) trivial (by kernel_rfl) (ih_ h7) Kq (dz0 (ai a0) (ds0 (ai (Int.tmod a0 10)) (Acw (k:=.i64) (a:=a0) (b:=10) (by kernel_rfl) (by kernel_rfl) (by decide)) (dz0 (ai (wI (48+Int.tmod a0 10))) (dz0 (.int .u8 (IntKind.u8.wrap (wI (48+Int.tmod a0 10)))) (Ad4 (oI 17 11 1) (oi 17 11) (.vec 5 1 1 [.int .u8 (IntKind.u8.wrap (wI (48+Int.tmod a0 10)))]) trivial (Acx (by kernel_rfl)) (dzl (.str (strOfNums [IntKind.u8.wrap (wI (48+Int.tmod a0 10))])) (ds0 (.str (y7++(strOfNums [IntKind.u8.wrap (wI (48+Int.tmod a0 10))]))) (Ik (a:=y7) (b:=strOfNums [IntKind.u8.wrap (wI (48+Int.tmod a0 10))]) (by kernel_rfl) (by kernel_rfl) g8) (dz0 (.str (y7++(strOfNums [IntKind.u8.wrap (wI (48+Int.tmod a0 10))]))) (Kj (Bv (by kernel_rfl)) (tn_ (wr_ (Ah ?_)))))))))))))));obtain rfl:=zj h;exact A6 [.str (y7++(strOfNums [IntKind.u8.wrap (wI (48+Int.tmod a0 10))]))] (Av rfl zl Aw)
theorem Sb:∀ (n_:Nat) {a0:Int} {r:ByteArray} (h:D1 n_ a0=some r),A7 Tryd.prog Tab 40 [ai a0] (G7 r):=by
 intro n_
 induction n_ with
 | zero=>intros; rename_i h; cases h
 | succ n_ ih_=>intros; exact Pj ih_ (by assumption)
def Hp:AC :=
 (.seq (rg [xs1 10 9 8])
 (.seq (.cond (tm 10)
  .skip
  (.exit 0))
 (.seq (.block 1 (.seq (rg [xx 11 1 7 9,xl 12 11,xm 5 12])
 (rg [xm 13 3,xm 14 5,xo 15 (qc 50 [tm 14] [[]]),xo 16 (.mkS 9 .str [tm 15]),xo 17 (.append 9 .str 16 (tm 13) (tm 16)),xm 3 17])))
 (rg [xa 18 9,xm 9 18]))))
def Kt:AC :=
 (.seq (rg [⟨some 2,none,.i (.mov (.cst (.str ⟨#[]⟩)))⟩])
 (.seq (rg [xo 6 (.mkS 9 .str []),xm 3 6])
 (.seq (.seq (rg [xm 7 0,xn1 8 7,xo 9 (qm (ci 0))])
 (.block 0 (.loop Hp)))
 (.seq (rg [xm 19 3,⟨some 20,none,qc 38 [tm 19,.cst (.str ⟨#[44]⟩)] [[some .str],[]]⟩,xm 2 20])
 .ret))))
def R1:List Res:=[.tmp 2]
theorem R4:A2 Tryd.prog Tryd.f35=some (Kt,R1):=by kernel_rfl
theorem P7:Bf Tryd.prog 35=true:=by kernel_rfl
def Cv (a0:List Int) (u0:Nat) (u1:List ByteArray):Option (Ctl (Nat×List ByteArray) (List ByteArray)) :=
 cond (decide ((u0:Int)<(a0.length:Int)))
 ((a0[u0]?).bind fun x11 =>
 (E5 x11).bind fun y12 =>
 og (u1.length+1<=1073741824∧(u1.length+1)*16<=140737488355328) <|
 og (u0+1<4611686018427387904) <|
 some (Ctl.next (u0+1,u1++([y12]))))
 (some (Ctl.out u1))
def Dg (a0:List Int):Option ByteArray :=
 (Bc (fun s_:Nat×List ByteArray=>Cv a0 s_.1 s_.2) 4611686018427387904 (0,[])).bind fun u0 =>
(Dq u0 (⟨#[44]⟩:ByteArray)).bind fun y16 =>
some y16
def Qm (r:ByteArray):RV:=⟨false,[(false,[.sc (.str r)])]⟩
theorem I1 {a0:List Int} {r:ByteArray} (h:Dg a0=some r):A7 Tryd.prog Tab 35 [tI a0] (Qm r):=by
 refine A5 (by kernel_rfl) Tryd.func35 R4 (n:=21) (by kernel_rfl) (by simp) rfl ?_;unfold Kt;unfold Dg at h;refine Al (Al (Ax h (fun (u1:List ByteArray) S_=>S_=⟨Ak [(3,.own (oi 0 1) .str 0 u1.length)],Ai (Ar [(oi 0 1,.arr 9 .str u1)]),2⟩) ?_ ?_))
 ·intro v_ h;refine Al (At (Bq h (fun t_ S_=>∃ (u2:Nat),∃ (u0:List ByteArray),t_=(u2,u0)∧S_=⟨Ak [(3,.own (oi 0 1) .str 0 u0.length),(7,tI a0),(8,an a0.length),(9,an u2)],Ai (Ar [(oi 0 1,.arr 9 .str u0)]),2⟩) ⟨_,Ad [(oi 0 1,oi 6 2)],⟨0,[],rfl,rfl⟩⟩ ?_));rintro n_ _ _ c_ ⟨u2,u0,rfl,rfl⟩ h hn5
  (try dsimp only at h);unfold Cv at h;unfold Hp;refine Al (Ab ?_);rcases Ac h with ⟨q8,h⟩ | ⟨q8,h⟩
  ·have q8_:=of_decide_eq_true q8;refine Ae q8 (Aj (tn_ (wr_ (Ab (At (Ab ?_))))));obtain ⟨x11,e11,h⟩:=Ag h;refine Aa 6 (zI .int e11 (rsT 2 (Am (tn_ (wr_ ?_)))));obtain ⟨y12,h12,h⟩:=Ag h;obtain ⟨g13,h⟩:=A4 h;refine Aa 12 (rsT 2 (zc (.str y12) [] [ai x11] (Ol h12) (rsB 1 (rs2 (.own (oi 0 10) .str 0 ((u0++([y12])).length)) (oi 0 1) (oi 0 10) (.arr 9 .str (u0++([y12]))) (K8 (t:=.str) (t':=.str) (xs:=u0) (ys:=[y12]) (zs:=u0++([y12])) (j:=oi 0 1) (len:=u0.length) (c:=.own (oi 16 9) .str 0 1) (by kernel_rfl) (by kernel_rfl) rfl (by kernel_rfl) (E4 (e:=9) (by kernel_rfl) rfl) rfl g13) (rsT 1 (Am (bn_ (tn_ (wr_ ?_)))))))));obtain ⟨g14,h⟩:=A4 h;refine Aa 14 (zA g14 (rsT 1 (Am (tn_ ?_))));obtain rfl:=zj h;exact ⟨(u2+1,u0++([y12])),_,Ad [(oi 0 1,oi 0 10)],⟨u2+1,u0++([y12]),rfl,rfl⟩,hn5⟩
  have q8_:=of_decide_eq_false q8;refine Af q8 (Br (te_ (te_ (be_ (tn_ ?_)))));obtain rfl:=zj h;have h:=hn5
  (try dsimp only at h);obtain rfl:=zj h;exact ⟨_,Ad [],rfl⟩
 rintro u1 _ rfl h
 (try dsimp only at h);refine Ab ?_;obtain ⟨y16,h16,h⟩:=Ag h;refine Aa 5 (rsT 1 (Cu (.str y16) [] [.own (oi 0 1) .str 0 u1.length,.str (⟨#[44]⟩:ByteArray)] _ (caps:=[]) (args0:=[.tree .str u1,.str (⟨#[44]⟩:ByteArray)]) trivial (An (Eo (e:=9) (by kernel_rfl) rfl) (An (by kernel_rfl) Cq)) (It h16) Ir (rsT 1 (Am (tn_ (wr_ (Ah ?_)))))));obtain rfl:=zj h;exact A6 [.str y16] (Av rfl zl Aw)
end Go.Proofs.YtjlcpiemabfpiaaDoor

namespace Go.Proofs.YtjlcpiemabfpiaaDoor
open Go.RowKit Go.Deep
set_option maxRecDepth 4000
def Iw:AC :=
 (.seq (rg [xs1 18 17 16])
 (.seq (.cond (tm 18)
  .skip
  (.exit 0))
 (.seq (.block 1 (.seq (rg [xx 19 1 15 17,xl 20 19,xm 8 20])
 (.seq (rg [xm 22 8,xo 23 (qc 29 [tm 22] [[]]),xm 21 23,xo 24 (.i (.extr 0 (tm 21))),xo 25 (.i (.extr 1 (tm 21))),xm 9 24,xm 10 25])
 (.seq (.seq (rg [xm 26 10,xo 27 (.i (.isnil true (tm 26)))])
 (.cond (tm 27)
  (.seq (rg [⟨some 2,none,.i (.mov (.cst (.str ⟨#[]⟩)))⟩,xo 3 (qm (.cst .nils)),xo 4 (qm (cb false))])
  .ret)
  .skip))
 (rg [xm 28 6,xm 29 9,xo 30 (.mkS 3 .int [tm 29]),xo 31 (.append 3 .int 8 (tm 28) (tm 30)),xm 6 31])))))
 (rg [xa 32 17,xm 17 32]))))
def Mt:AC :=
 (.seq (rg [⟨some 2,none,.i (.mov (.cst (.str ⟨#[]⟩)))⟩,xo 3 (qm (.cst .nils)),xo 4 (qm (cb false))])
 (.seq (rg [xm 11 0,⟨some 12,none,qc 15 [tm 11,.cst (.str ⟨#[32]⟩)] [[],[]]⟩,xm 5 12])
 (.seq (rg [xo 13 (.mkS 3 .int []),xm 6 13])
 (.seq (.seq (rg [xm 14 5,xo 15 (.slice 1 (tm 14) (some (ci 1)) none none),xn1 16 15,xo 17 (qm (ci 0))])
 (.block 0 (.loop Iw)))
 (.seq (rg [xm 33 5,xo 34 (qx 1 (tm 33) (ci 0)),xl 35 34,xm 36 6,xm 2 35,xm 3 36,xo 4 (qm (cb true))])
 .ret)))))
def T8:List Res:=[.tmp 2,.tmp 3,.tmp 4]
theorem Ub:A2 Tryd.prog Tryd.f16=some (Mt,T8):=by kernel_rfl
def Bs (y3:List ByteArray) (u0:Nat) (u1:List Int):Option (Ctl (Nat×List Int) (Ctl (List Int) (ByteArray×List Int×Bool))) :=
 cond (decide ((u0:Int)<(((y3.drop 1).length:Nat):Int)))
 (((y3.drop 1)[u0]?).bind fun x14 =>
 (Do x14).bind fun y16 =>
 cond y16.2
  (some (Ctl.out (Ctl.out ((⟨#[]⟩:ByteArray),[],false))))
  (og (u1.length+1<=1073741824∧(u1.length+1)*8<=140737488355328) <|
  og (u0+1<4611686018427387904) <|
  some (Ctl.next (u0+1,u1++([y16.1])))))
 (some (Ctl.out (Ctl.next u1)))
def Dd (a0:ByteArray):Option (ByteArray×List Int×Bool) :=
 (C4 a0 (⟨#[32]⟩:ByteArray)).bind fun y3 =>
On (og ((0:Int)<=1∧1<=(y3.length:Int)∧(y3.length:Int)<=(y3.length:Int)∧(y3.length:Int)<=(y3.length:Int)) <|
 Bc (fun s_:Nat×List Int=>Bs y3 s_.1 s_.2) 4611686018427387904 (0,[])) fun u0 =>
(y3[0]?).bind fun x24 =>
some (x24,u0,true)
def Rq (r:ByteArray×List Int×Bool):RV:=⟨true,[(false,[.sc (.str r.1)]),(false,[.new 3 .int r.2.1]),(false,[.sc (.bool r.2.2)])]⟩
theorem Kp {a0:ByteArray} {r:ByteArray×List Int×Bool} (h:Dd a0=some r):A7 Tryd.prog Tab 16 [.str a0] (Rq r):=by
 refine A5 (by kernel_rfl) Tryd.func16 Ub (n:=37) (by kernel_rfl) (by simp) rfl ?_;unfold Mt;unfold Dd at h;refine Al (Ab ?_);obtain ⟨y3,h3,h⟩:=Ag h;refine Aa 7 (rsT 1 (zc (.tree .str y3) [] [.str a0,.str (⟨#[32]⟩:ByteArray)] (Ht h3) (rsT 1 (Am (tn_ (wr_ (Al (Ey h (fun (u2:List Int) S_=>S_=⟨Ak [(5,.tree .str y3),(6,oI 0 1 u2.length)],Ai (Ar [(oi 0 1,.arr 3 .int u2)]),2⟩) ?_ ?_))))))))
 ·intro v_ h hk5;refine Ab ?_;obtain ⟨g7,h⟩:=A4 h;refine Aa 13 (rsT 1 (rs0 (.tree .str (y3.drop 1)) (Wc (t:=.str) (xs:=y3) (zs:=y3.drop 1) (l:=1) (h:=(y3.length:Int)) (m:=(y3.length:Int)) (by kernel_rfl) (by kernel_rfl) (by kernel_rfl) (by kernel_rfl) rfl g7 (by first | (rw [show (y3.length:Int).toNat=y3.length from rfl,List.take_length]; done) | (rw [show (y3.length:Int).toNat=y3.length from rfl,List.take_length]; rfl))) (rsT 2 (Am (tn_ (wr_ (At (Bq h (fun t_ S_=>∃ (u1:Nat),∃ (u0:List Int),t_=(u1,u0)∧S_=⟨Ak [(5,.tree .str y3),(6,oI 0 1 u0.length),(15,.tree .str (y3.drop 1)),(16,an ((y3.drop 1).length)),(17,an u1)],Ai (Ar [(oi 0 1,.arr 3 .int u0)]),2⟩) ⟨_,Ad [(oi 0 1,oi 13 7)],⟨0,[],rfl,rfl⟩⟩ ?_))))))));rintro n_ _ _ c_ ⟨u1,u0,rfl,rfl⟩ h hn8
  (try dsimp only at h);unfold Bs at h;unfold Iw;refine Al (Ab ?_);rcases Ac h with ⟨q11,h⟩ | ⟨q11,h⟩
  ·have q11_:=of_decide_eq_true q11;refine Ae q11 (Aj (tn_ (wr_ (Ab (At (Ab ?_))))));obtain ⟨x14,e14,h⟩:=Ag h;refine Aa 6 (zI .str e14 (rsT 2 (Am (tn_ (wr_ (Ab ?_))))));obtain ⟨y16,h16,h⟩:=Ag h;refine Aa 13 (rsT 1 (zc (.tup [ai y16.1,.err y16.2]) [] [.str x14] (Oo h16) (rsT 5 (Am (tn_ (wr_ (Ab (Al ?_))))))));rcases Ac h with ⟨q19,h⟩ | ⟨q19,h⟩
   ·refine Ae q19 (Al (Ah (tr_ (br_ (tr_ (tr_ (br_ (tr_ ?_))))))));obtain rfl:=zj h;have h:=hn8
    (try dsimp only at h);obtain rfl:=zj h;have h:=hk5
    (try dsimp only at h);obtain rfl:=zj h;exact A6 [.str (⟨#[]⟩:ByteArray),.nils,.bool false] (Av rfl zl (Av rfl (I8 rfl) (Av rfl zl Aw)))
   refine Af q19 (Aj (tn_ (wr_ ?_)));obtain ⟨g21,h⟩:=A4 h;refine Aa 20 (rsB 3 (zB (oi 0 1) (oi 30 17) u0 (y16.1) g21 (rsT 1 (Am (bn_ (tn_ (wr_ ?_)))))));obtain ⟨g22,h⟩:=A4 h;refine Aa 22 (zA g22 (rsT 1 (Am (tn_ ?_))));obtain rfl:=zj h;exact ⟨(u1+1,u0++([y16.1])),_,Ad [(oi 0 1,oi 0 18)],⟨u1+1,u0++([y16.1]),rfl,rfl⟩,hn8⟩
  have q11_:=of_decide_eq_false q11;refine Af q11 (Br (te_ (te_ (be_ (tn_ ?_)))));obtain rfl:=zj h;have h:=hn8
  (try dsimp only at h);obtain rfl:=zj h;exact ⟨u0,_,rfl,Ad [],rfl⟩
 rintro u2 _ rfl h
 (try dsimp only at h);refine Ab ?_;obtain ⟨x24,e24,h⟩:=Ag h;refine Aa 9 (rsT 1 (rs0 (.telt none .str x24 0) (P5 (t:=.str) (xs:=y3) (k:=.i64) (m:=0) (by kernel_rfl) (by kernel_rfl) rfl (by decide) rfl e24) (rsT 5 (Am (tn_ (wr_ (Ah ?_)))))));obtain rfl:=zj h;exact A6 [.str x24,oI 0 1 u2.length,.bool true] (Av rfl zl (Av rfl (H4 (by kernel_rfl) rfl) (Av rfl zl Aw)))
def G5:AC :=
 (.seq (rg [xo 2 (.i (.alloc 35 [.int .i64 0,.int .i64 0,.int .i64 0,.int .i64 0,.int .i64 0])),xo 3 (qm (cb false))])
 (.seq (rg [xm 8 0,xo 9 (qc 16 [tm 8] [[]]),xm 7 9,xo 10 (.i (.extr 0 (tm 7))),xo 11 (.i (.extr 1 (tm 7))),xo 12 (.i (.extr 2 (tm 7))),xm 4 10,xm 5 11,xm 6 12])
 (.seq (.seq (rg [xm 13 6,xo 14 (.i (.not (tm 13)))])
 (.cond (tm 14)
  (.seq (rg [xo 15 (.build [.int .i64 0,.int .i64 0,.int .i64 0,.int .i64 0,.int .i64 0] []),xn (.st false 5 (tm 2) (tm 15)),xo 3 (qm (cb false))])
  .ret)
  .skip))
 (.seq (.block 0 (.seq (rg [xm 17 4,⟨some 18,none,.i (.bin .eql (tm 17) (.cst (.str ⟨#[105,110]⟩)))⟩,xm 19 18,⟨some 20,some (19,true),qm (tm 5)⟩,⟨some 21,some (19,true),.i (.len (tm 20))⟩,⟨some 22,some (19,true),qb .eql (tm 21) (ci 2)⟩,xo 23 (.i (.pick (tm 19) (tm 22) (cb false))),xm 16 23])
 (.cond (tm 16)
  (.seq (.region [xm 24 5,xo 25 (qx 1 (tm 24) (ci 0)),xl 26 25,xm 27 5,xo 28 (qx 1 (tm 27) (ci 1)),xl 29 28,xo 30 (.build [.int .i64 0,.int .i64 0,.int .i64 0,.int .i64 0,.int .i64 0] [(0,1,ci 1),(1,1,tm 26),(2,1,tm 29)]),xn (.st false 5 (tm 2) (tm 30)),xo 3 (qm (cb true))] true [])
  .ret)
  (.seq (rg [xm 32 4,⟨some 33,none,.i (.bin .eql (tm 32) (.cst (.str ⟨#[122,101,114,111]⟩)))⟩,xm 34 33,⟨some 35,some (34,true),qm (tm 5)⟩,⟨some 36,some (34,true),.i (.len (tm 35))⟩,⟨some 37,some (34,true),qb .eql (tm 36) (ci 1)⟩,xo 38 (.i (.pick (tm 34) (tm 37) (cb false))),xm 31 38])
  (.cond (tm 31)
   (.seq (rg [xm 39 5,xo 40 (qx 1 (tm 39) (ci 0)),xl 41 40,xo 42 (.build [.int .i64 0,.int .i64 0,.int .i64 0,.int .i64 0,.int .i64 0] [(0,1,ci 2),(1,1,tm 41)]),xn (.st false 5 (tm 2) (tm 42)),xo 3 (qm (cb true))])
   .ret)
   (.seq (rg [xm 44 4,⟨some 45,none,.i (.bin .eql (tm 44) (.cst (.str ⟨#[97,100,100]⟩)))⟩,xm 46 45,⟨some 47,some (46,true),qm (tm 5)⟩,⟨some 48,some (46,true),.i (.len (tm 47))⟩,⟨some 49,some (46,true),qb .eql (tm 48) (ci 3)⟩,xo 50 (.i (.pick (tm 46) (tm 49) (cb false))),xm 43 50])
   (.cond (tm 43)
    (.seq (.region [xm 51 5,xo 52 (qx 1 (tm 51) (ci 0)),xl 53 52,xm 54 5,xo 55 (qx 1 (tm 54) (ci 1)),xl 56 55,xm 57 5,xo 58 (qx 1 (tm 57) (ci 2)),xl 59 58,xo 60 (.build [.int .i64 0,.int .i64 0,.int .i64 0,.int .i64 0,.int .i64 0] [(0,1,ci 3),(1,1,tm 53),(2,1,tm 56),(3,1,tm 59)]),xn (.st false 5 (tm 2) (tm 60)),xo 3 (qm (cb true))] true [])
    .ret)
    (.seq (rg [xm 62 4,⟨some 63,none,.i (.bin .eql (tm 62) (.cst (.str ⟨#[115,99,97,108,101]⟩)))⟩,xm 64 63,⟨some 65,some (64,true),qm (tm 5)⟩,⟨some 66,some (64,true),.i (.len (tm 65))⟩,⟨some 67,some (64,true),qb .eql (tm 66) (ci 3)⟩,xo 68 (.i (.pick (tm 64) (tm 67) (cb false))),xm 61 68])
    (.cond (tm 61)
     (.seq (.region [xm 69 5,xo 70 (qx 1 (tm 69) (ci 0)),xl 71 70,xm 72 5,xo 73 (qx 1 (tm 72) (ci 1)),xl 74 73,xm 75 5,xo 76 (qx 1 (tm 75) (ci 2)),xl 77 76,xo 78 (.build [.int .i64 0,.int .i64 0,.int .i64 0,.int .i64 0,.int .i64 0] [(0,1,ci 4),(1,1,tm 71),(2,1,tm 74),(4,1,tm 77)]),xn (.st false 5 (tm 2) (tm 78)),xo 3 (qm (cb true))] true [])
     .ret)
     (.seq (rg [xm 80 4,⟨some 81,none,.i (.bin .eql (tm 80) (.cst (.str ⟨#[108,111,97,100]⟩)))⟩,xm 82 81,⟨some 83,some (82,true),qm (tm 5)⟩,⟨some 84,some (82,true),.i (.len (tm 83))⟩,⟨some 85,some (82,true),qb .eql (tm 84) (ci 2)⟩,xo 86 (.i (.pick (tm 82) (tm 85) (cb false))),xm 79 86])
     (.cond (tm 79)
      (.seq (.region [xm 87 5,xo 88 (qx 1 (tm 87) (ci 0)),xl 89 88,xm 90 5,xo 91 (qx 1 (tm 90) (ci 1)),xl 92 91,xo 93 (.build [.int .i64 0,.int .i64 0,.int .i64 0,.int .i64 0,.int .i64 0] [(0,1,ci 5),(1,1,tm 89),(2,1,tm 92)]),xn (.st false 5 (tm 2) (tm 93)),xo 3 (qm (cb true))] true [])
      .ret)
      (.seq (rg [xm 95 4,⟨some 96,none,.i (.bin .eql (tm 95) (.cst (.str ⟨#[115,116,111,114,101]⟩)))⟩,xm 97 96,⟨some 98,some (97,true),qm (tm 5)⟩,⟨some 99,some (97,true),.i (.len (tm 98))⟩,⟨some 100,some (97,true),qb .eql (tm 99) (ci 2)⟩,xo 101 (.i (.pick (tm 97) (tm 100) (cb false))),xm 94 101])
      (.cond (tm 94)
       (.seq (.region [xm 102 5,xo 103 (qx 1 (tm 102) (ci 0)),xl 104 103,xm 105 5,xo 106 (qx 1 (tm 105) (ci 1)),xl 107 106,xo 108 (.build [.int .i64 0,.int .i64 0,.int .i64 0,.int .i64 0,.int .i64 0] [(0,1,ci 6),(2,1,tm 104),(1,1,tm 107)]),xn (.st false 5 (tm 2) (tm 108)),xo 3 (qm (cb true))] true [])
       .ret)
       (.seq (rg [xm 110 4,⟨some 111,none,.i (.bin .eql (tm 110) (.cst (.str ⟨#[111,117,116]⟩)))⟩,xm 112 111,⟨some 113,some (112,true),qm (tm 5)⟩,⟨some 114,some (112,true),.i (.len (tm 113))⟩,⟨some 115,some (112,true),qb .eql (tm 114) (ci 2)⟩,xo 116 (.i (.pick (tm 112) (tm 115) (cb false))),xm 109 116])
       (.cond (tm 109)
        (.seq (.region [xm 117 5,xo 118 (qx 1 (tm 117) (ci 0)),xl 119 118,xm 120 5,xo 121 (qx 1 (tm 120) (ci 1)),xl 122 121,xo 123 (.build [.int .i64 0,.int .i64 0,.int .i64 0,.int .i64 0,.int .i64 0] [(0,1,ci 7),(2,1,tm 119),(1,1,tm 122)]),xn (.st false 5 (tm 2) (tm 123)),xo 3 (qm (cb true))] true [])
        .ret)
        .skip)))))))))))))))
 (.seq (rg [xo 124 (.build [.int .i64 0,.int .i64 0,.int .i64 0,.int .i64 0,.int .i64 0] []),xn (.st false 5 (tm 2) (tm 124)),xo 3 (qm (cb false))])
 .ret)))))
def Me:List Res:=[.cell 2 false 5,.tmp 3]
theorem Mz:A2 Tryd.prog Tryd.f17=some (G5,Me):=by kernel_rfl
def B5 (a0:ByteArray):Option (Int×Int×Int×Int×Int×Bool) :=
 (Dd a0).bind fun y3 =>
cond (!y3.2.2)
 (some (0,0,0,0,0,false))
 ((cond (y3.1.toList==(⟨#[105,110]⟩:ByteArray).toList)
   (some ((y3.2.1.length:Int)==2))
   (some false)).bind fun u0 =>
 cond u0
  ((y3.2.1[0]?).bind fun x13 =>
  (y3.2.1[1]?).bind fun x14 =>
  some (1,x13,x14,0,0,true))
  ((cond (y3.1.toList==(⟨#[122,101,114,111]⟩:ByteArray).toList)
    (some ((y3.2.1.length:Int)==1))
    (some false)).bind fun u1 =>
  cond u1
   ((y3.2.1[0]?).bind fun x19 =>
   some (2,x19,0,0,0,true))
   ((cond (y3.1.toList==(⟨#[97,100,100]⟩:ByteArray).toList)
     (some ((y3.2.1.length:Int)==3))
     (some false)).bind fun u2 =>
   cond u2
    ((y3.2.1[0]?).bind fun x24 =>
    (y3.2.1[1]?).bind fun x25 =>
    (y3.2.1[2]?).bind fun x26 =>
    some (3,x24,x25,x26,0,true))
    ((cond (y3.1.toList==(⟨#[115,99,97,108,101]⟩:ByteArray).toList)
      (some ((y3.2.1.length:Int)==3))
      (some false)).bind fun u3 =>
    cond u3
     ((y3.2.1[0]?).bind fun x31 =>
     (y3.2.1[1]?).bind fun x32 =>
     (y3.2.1[2]?).bind fun x33 =>
     some (4,x31,x32,0,x33,true))
     ((cond (y3.1.toList==(⟨#[108,111,97,100]⟩:ByteArray).toList)
       (some ((y3.2.1.length:Int)==2))
       (some false)).bind fun u4 =>
     cond u4
      ((y3.2.1[0]?).bind fun x38 =>
      (y3.2.1[1]?).bind fun x39 =>
      some (5,x38,x39,0,0,true))
      ((cond (y3.1.toList==(⟨#[115,116,111,114,101]⟩:ByteArray).toList)
        (some ((y3.2.1.length:Int)==2))
        (some false)).bind fun u5 =>
      cond u5
       ((y3.2.1[0]?).bind fun x44 =>
       (y3.2.1[1]?).bind fun x45 =>
       some (6,x45,x44,0,0,true))
       ((cond (y3.1.toList==(⟨#[111,117,116]⟩:ByteArray).toList)
         (some ((y3.2.1.length:Int)==2))
         (some false)).bind fun u6 =>
       cond u6
        ((y3.2.1[0]?).bind fun x50 =>
        (y3.2.1[1]?).bind fun x51 =>
        some (7,x51,x50,0,0,true))
        (some (0,0,0,0,0,false)))))))))
def Lr (r:Int×Int×Int×Int×Int×Bool):RV:=⟨true,[(true,[.sc (.int .i64 r.1),.sc (.int .i64 r.2.1),.sc (.int .i64 r.2.2.1),.sc (.int .i64 r.2.2.2.1),.sc (.int .i64 r.2.2.2.2.1)]),(false,[.sc (.bool r.2.2.2.2.2)])]⟩
set_option maxHeartbeats 1600000 in
theorem Ls {a0:ByteArray} {r:Int×Int×Int×Int×Int×Bool} (h:B5 a0=some r):A7 Tryd.prog Tab 17 [.str a0] (Lr r):=by
 refine A5 (by kernel_rfl) Tryd.func17 Mz (n:=125) (by kernel_rfl) (by simp) rfl ?_;unfold G5;unfold B5 at h;refine Al (Ab ?_);obtain ⟨y3,h3,h⟩:=Ag h;refine Aa 12 (rsT 1 (zc (.tup [.str y3.1,oI 144 4 y3.2.1.length,.bool y3.2.2]) [nI 144 4 y3.2.1] [.str a0] (Kp h3) (rsT 7 (Am (tn_ (wr_ (Ab (Al ?_))))))));rcases Ac h with ⟨q6,h⟩ | ⟨q6,h⟩
 ·refine Ae q6 (Al (Ah (tr_ ?_)));obtain rfl:=zj h;exact A6 [.agg [ai 0,ai 0,ai 0,ai 0,ai 0],.bool false] (Fa (Aq zl (Aq zl (Aq zl (Aq zl (Aq zl Fd))))) (Av rfl zl Aw))
 refine Af q6 (Aj (tn_ (wr_ (Ab (At (Ax h (fun (u0:Bool) S_=>S_=⟨Ak [(2,.box (oi 0 1) 0),(4,.str y3.1),(5,oI 1 1 y3.2.1.length),(16,.bool u0)],Ai (Ar [(oi 0 1,.cells 35 [ai 0,ai 0,ai 0,ai 0,ai 0]),(oi 1 1,.arr 3 .int y3.2.1)]),2⟩) ?_ ?_))))))
 ·intro v_ h;refine Aa 22 (rsT 3 ?_);rcases Ac h with ⟨q10,h⟩ | ⟨q10,h⟩
  ·refine rq 19 q10 (rsT 5 (Am (tn_ ?_)));obtain rfl:=zj h;exact ⟨_,Ad [(oi 0 1,oi 2 1),(oi 1 1,oi 144 4)],rfl⟩
  refine rq 19 q10 (rsT 5 (Am (tn_ ?_)));obtain rfl:=zj h;exact ⟨_,Ad [(oi 0 1,oi 2 1),(oi 1 1,oi 144 4)],rfl⟩
 rintro u0 _ rfl h
 (try dsimp only at h);rcases Ac h with ⟨q11,h⟩ | ⟨q11,h⟩
 ·refine Ae q11 (Ab ?_);obtain ⟨x13,e13,h⟩:=Ag h;obtain ⟨x14,e14,h⟩:=Ag h;refine Bh 11 (dz0 (oI 1 1 y3.2.1.length) (ds0 (.elt (oi 1 1) 0 0) (Bp (t:=.int) (o:=oi 1 1) (len:=y3.2.1.length) (k:=.i64) (m:=0) (by kernel_rfl) (by kernel_rfl) rfl (by decide) rfl (A1 e13)) (dzE (oi 1 1) e13 (dz0 (oI 1 1 y3.2.1.length) (ds0 (.elt (oi 1 1) 1 0) (Bp (t:=.int) (o:=oi 1 1) (len:=y3.2.1.length) (k:=.i64) (m:=1) (by kernel_rfl) (by kernel_rfl) rfl (by decide) rfl (A1 e14)) (dzE (oi 1 1) e14 (dz0 (.agg [ai 1,ai x13,ai x14,ai 0,ai 0]) (To (oi 0 1) (oi 0 1) (.cells 35 [ai 1,ai x13,ai x14,ai 0,ai 0]) (by kernel_rfl) (dz0 (.bool true) (Kj (Bv (by kernel_rfl)) (tn_ (wr_ (Ah (br_ (tr_ ?_)))))))))))))));obtain rfl:=zj h;exact A6 [.agg [ai 1,ai x13,ai x14,ai 0,ai 0],.bool true] (Fa (Aq zl (Aq zl (Aq zl (Aq zl (Aq zl Fd))))) (Av rfl zl Aw))
 refine Af q11 (Ax h (fun (u1:Bool) S_=>S_=⟨Ak [(2,.box (oi 0 1) 0),(4,.str y3.1),(5,oI 1 1 y3.2.1.length),(31,.bool u1)],Ai (Ar [(oi 0 1,.cells 35 [ai 0,ai 0,ai 0,ai 0,ai 0]),(oi 1 1,.arr 3 .int y3.2.1)]),2⟩) ?_ ?_)
 ·intro v_ h;refine Aa 10 (rsT 3 ?_);rcases Ac h with ⟨q16,h⟩ | ⟨q16,h⟩
  ·refine rq 34 q16 (rsT 5 (Am (tn_ ?_)));obtain rfl:=zj h;exact ⟨_,Ad [],rfl⟩
  refine rq 34 q16 (rsT 5 (Am (tn_ ?_)));obtain rfl:=zj h;exact ⟨_,Ad [],rfl⟩
 rintro u1 _ rfl h
 (try dsimp only at h);rcases Ac h with ⟨q17,h⟩ | ⟨q17,h⟩
 ·refine Ae q17 (Ab ?_);obtain ⟨x19,e19,h⟩:=Ag h;refine Aa 8 (rsT 1 (rs0 (.elt (oi 1 1) 0 0) (Bp (t:=.int) (o:=oi 1 1) (len:=y3.2.1.length) (k:=.i64) (m:=0) (by kernel_rfl) (by kernel_rfl) rfl (by decide) rfl (A1 e19)) (zE (oi 1 1) e19 (rsB 3 (Am (tn_ (wr_ (Ah (br_ (tr_ ?_))))))))));obtain rfl:=zj h;exact A6 [.agg [ai 2,ai x19,ai 0,ai 0,ai 0],.bool true] (Fa (Aq zl (Aq zl (Aq zl (Aq zl (Aq zl Fd))))) (Av rfl zl Aw))
 refine Af q17 (Ax h (fun (u2:Bool) S_=>S_=⟨Ak [(2,.box (oi 0 1) 0),(4,.str y3.1),(5,oI 1 1 y3.2.1.length),(43,.bool u2)],Ai (Ar [(oi 0 1,.cells 35 [ai 0,ai 0,ai 0,ai 0,ai 0]),(oi 1 1,.arr 3 .int y3.2.1)]),2⟩) ?_ ?_)
 ·intro v_ h;refine Aa 10 (rsT 3 ?_);rcases Ac h with ⟨q21,h⟩ | ⟨q21,h⟩
  ·refine rq 46 q21 (rsT 5 (Am (tn_ ?_)));obtain rfl:=zj h;exact ⟨_,Ad [],rfl⟩
  refine rq 46 q21 (rsT 5 (Am (tn_ ?_)));obtain rfl:=zj h;exact ⟨_,Ad [],rfl⟩
 rintro u2 _ rfl h
 (try dsimp only at h);rcases Ac h with ⟨q22,h⟩ | ⟨q22,h⟩
 ·refine Ae q22 (Ab ?_);obtain ⟨x24,e24,h⟩:=Ag h;obtain ⟨x25,e25,h⟩:=Ag h;obtain ⟨x26,e26,h⟩:=Ag h;refine Bh 14 (dz0 (oI 1 1 y3.2.1.length) (ds0 (.elt (oi 1 1) 0 0) (Bp (t:=.int) (o:=oi 1 1) (len:=y3.2.1.length) (k:=.i64) (m:=0) (by kernel_rfl) (by kernel_rfl) rfl (by decide) rfl (A1 e24)) (dzE (oi 1 1) e24 (dz0 (oI 1 1 y3.2.1.length) (ds0 (.elt (oi 1 1) 1 0) (Bp (t:=.int) (o:=oi 1 1) (len:=y3.2.1.length) (k:=.i64) (m:=1) (by kernel_rfl) (by kernel_rfl) rfl (by decide) rfl (A1 e25)) (dzE (oi 1 1) e25 (dz0 (oI 1 1 y3.2.1.length) (ds0 (.elt (oi 1 1) 2 0) (Bp (t:=.int) (o:=oi 1 1) (len:=y3.2.1.length) (k:=.i64) (m:=2) (by kernel_rfl) (by kernel_rfl) rfl (by decide) rfl (A1 e26)) (dzE (oi 1 1) e26 (dz0 (.agg [ai 3,ai x24,ai x25,ai x26,ai 0]) (To (oi 0 1) (oi 0 1) (.cells 35 [ai 3,ai x24,ai x25,ai x26,ai 0]) (by kernel_rfl) (dz0 (.bool true) (Kj (Bv (by kernel_rfl)) (tn_ (wr_ (Ah (br_ (tr_ ?_))))))))))))))))));obtain rfl:=zj h;exact A6 [.agg [ai 3,ai x24,ai x25,ai x26,ai 0],.bool true] (Fa (Aq zl (Aq zl (Aq zl (Aq zl (Aq zl Fd))))) (Av rfl zl Aw))
 refine Af q22 (Ax h (fun (u3:Bool) S_=>S_=⟨Ak [(2,.box (oi 0 1) 0),(4,.str y3.1),(5,oI 1 1 y3.2.1.length),(61,.bool u3)],Ai (Ar [(oi 0 1,.cells 35 [ai 0,ai 0,ai 0,ai 0,ai 0]),(oi 1 1,.arr 3 .int y3.2.1)]),2⟩) ?_ ?_)
 ·intro v_ h;refine Aa 10 (rsT 3 ?_);rcases Ac h with ⟨q28,h⟩ | ⟨q28,h⟩
  ·refine rq 64 q28 (rsT 5 (Am (tn_ ?_)));obtain rfl:=zj h;exact ⟨_,Ad [],rfl⟩
  refine rq 64 q28 (rsT 5 (Am (tn_ ?_)));obtain rfl:=zj h;exact ⟨_,Ad [],rfl⟩
 rintro u3 _ rfl h
 (try dsimp only at h);rcases Ac h with ⟨q29,h⟩ | ⟨q29,h⟩
 ·refine Ae q29 (Ab ?_);obtain ⟨x31,e31,h⟩:=Ag h;obtain ⟨x32,e32,h⟩:=Ag h;obtain ⟨x33,e33,h⟩:=Ag h;refine Bh 14 (dz0 (oI 1 1 y3.2.1.length) (ds0 (.elt (oi 1 1) 0 0) (Bp (t:=.int) (o:=oi 1 1) (len:=y3.2.1.length) (k:=.i64) (m:=0) (by kernel_rfl) (by kernel_rfl) rfl (by decide) rfl (A1 e31)) (dzE (oi 1 1) e31 (dz0 (oI 1 1 y3.2.1.length) (ds0 (.elt (oi 1 1) 1 0) (Bp (t:=.int) (o:=oi 1 1) (len:=y3.2.1.length) (k:=.i64) (m:=1) (by kernel_rfl) (by kernel_rfl) rfl (by decide) rfl (A1 e32)) (dzE (oi 1 1) e32 (dz0 (oI 1 1 y3.2.1.length) (ds0 (.elt (oi 1 1) 2 0) (Bp (t:=.int) (o:=oi 1 1) (len:=y3.2.1.length) (k:=.i64) (m:=2) (by kernel_rfl) (by kernel_rfl) rfl (by decide) rfl (A1 e33)) (dzE (oi 1 1) e33 (dz0 (.agg [ai 4,ai x31,ai x32,ai 0,ai x33]) (To (oi 0 1) (oi 0 1) (.cells 35 [ai 4,ai x31,ai x32,ai 0,ai x33]) (by kernel_rfl) (dz0 (.bool true) (Kj (Bv (by kernel_rfl)) (tn_ (wr_ (Ah (br_ (tr_ ?_))))))))))))))))));obtain rfl:=zj h;exact A6 [.agg [ai 4,ai x31,ai x32,ai 0,ai x33],.bool true] (Fa (Aq zl (Aq zl (Aq zl (Aq zl (Aq zl Fd))))) (Av rfl zl Aw))
 refine Af q29 (Ax h (fun (u4:Bool) S_=>S_=⟨Ak [(2,.box (oi 0 1) 0),(4,.str y3.1),(5,oI 1 1 y3.2.1.length),(79,.bool u4)],Ai (Ar [(oi 0 1,.cells 35 [ai 0,ai 0,ai 0,ai 0,ai 0]),(oi 1 1,.arr 3 .int y3.2.1)]),2⟩) ?_ ?_)
 ·intro v_ h;refine Aa 10 (rsT 3 ?_);rcases Ac h with ⟨q35,h⟩ | ⟨q35,h⟩
  ·refine rq 82 q35 (rsT 5 (Am (tn_ ?_)));obtain rfl:=zj h;exact ⟨_,Ad [],rfl⟩
  refine rq 82 q35 (rsT 5 (Am (tn_ ?_)));obtain rfl:=zj h;exact ⟨_,Ad [],rfl⟩
 rintro u4 _ rfl h
 (try dsimp only at h);rcases Ac h with ⟨q36,h⟩ | ⟨q36,h⟩
 ·refine Ae q36 (Ab ?_);obtain ⟨x38,e38,h⟩:=Ag h;obtain ⟨x39,e39,h⟩:=Ag h;refine Bh 11 (dz0 (oI 1 1 y3.2.1.length) (ds0 (.elt (oi 1 1) 0 0) (Bp (t:=.int) (o:=oi 1 1) (len:=y3.2.1.length) (k:=.i64) (m:=0) (by kernel_rfl) (by kernel_rfl) rfl (by decide) rfl (A1 e38)) (dzE (oi 1 1) e38 (dz0 (oI 1 1 y3.2.1.length) (ds0 (.elt (oi 1 1) 1 0) (Bp (t:=.int) (o:=oi 1 1) (len:=y3.2.1.length) (k:=.i64) (m:=1) (by kernel_rfl) (by kernel_rfl) rfl (by decide) rfl (A1 e39)) (dzE (oi 1 1) e39 (dz0 (.agg [ai 5,ai x38,ai x39,ai 0,ai 0]) (To (oi 0 1) (oi 0 1) (.cells 35 [ai 5,ai x38,ai x39,ai 0,ai 0]) (by kernel_rfl) (dz0 (.bool true) (Kj (Bv (by kernel_rfl)) (tn_ (wr_ (Ah (br_ (tr_ ?_)))))))))))))));obtain rfl:=zj h;exact A6 [.agg [ai 5,ai x38,ai x39,ai 0,ai 0],.bool true] (Fa (Aq zl (Aq zl (Aq zl (Aq zl (Aq zl Fd))))) (Av rfl zl Aw))
 refine Af q36 (Ax h (fun (u5:Bool) S_=>S_=⟨Ak [(2,.box (oi 0 1) 0),(4,.str y3.1),(5,oI 1 1 y3.2.1.length),(94,.bool u5)],Ai (Ar [(oi 0 1,.cells 35 [ai 0,ai 0,ai 0,ai 0,ai 0]),(oi 1 1,.arr 3 .int y3.2.1)]),2⟩) ?_ ?_)
 ·intro v_ h;refine Aa 10 (rsT 3 ?_);rcases Ac h with ⟨q41,h⟩ | ⟨q41,h⟩
  ·refine rq 97 q41 (rsT 5 (Am (tn_ ?_)));obtain rfl:=zj h;exact ⟨_,Ad [],rfl⟩
  refine rq 97 q41 (rsT 5 (Am (tn_ ?_)));obtain rfl:=zj h;exact ⟨_,Ad [],rfl⟩
 rintro u5 _ rfl h
 (try dsimp only at h);rcases Ac h with ⟨q42,h⟩ | ⟨q42,h⟩
 ·refine Ae q42 (Ab ?_);obtain ⟨x44,e44,h⟩:=Ag h;obtain ⟨x45,e45,h⟩:=Ag h;refine Bh 11 (dz0 (oI 1 1 y3.2.1.length) (ds0 (.elt (oi 1 1) 0 0) (Bp (t:=.int) (o:=oi 1 1) (len:=y3.2.1.length) (k:=.i64) (m:=0) (by kernel_rfl) (by kernel_rfl) rfl (by decide) rfl (A1 e44)) (dzE (oi 1 1) e44 (dz0 (oI 1 1 y3.2.1.length) (ds0 (.elt (oi 1 1) 1 0) (Bp (t:=.int) (o:=oi 1 1) (len:=y3.2.1.length) (k:=.i64) (m:=1) (by kernel_rfl) (by kernel_rfl) rfl (by decide) rfl (A1 e45)) (dzE (oi 1 1) e45 (dz0 (.agg [ai 6,ai x45,ai x44,ai 0,ai 0]) (To (oi 0 1) (oi 0 1) (.cells 35 [ai 6,ai x45,ai x44,ai 0,ai 0]) (by kernel_rfl) (dz0 (.bool true) (Kj (Bv (by kernel_rfl)) (tn_ (wr_ (Ah (br_ (tr_ ?_)))))))))))))));obtain rfl:=zj h;exact A6 [.agg [ai 6,ai x45,ai x44,ai 0,ai 0],.bool true] (Fa (Aq zl (Aq zl (Aq zl (Aq zl (Aq zl Fd))))) (Av rfl zl Aw))
 refine Af q42 (Ax h (fun (u6:Bool) S_=>S_=⟨Ak [(2,.box (oi 0 1) 0),(5,oI 1 1 y3.2.1.length),(109,.bool u6)],Ai (Ar [(oi 0 1,.cells 35 [ai 0,ai 0,ai 0,ai 0,ai 0]),(oi 1 1,.arr 3 .int y3.2.1)]),2⟩) ?_ ?_)
 ·intro v_ h;refine Aa 10 (rsT 3 ?_);rcases Ac h with ⟨q47,h⟩ | ⟨q47,h⟩
  ·refine rq 112 q47 (rsT 5 (Am (tn_ ?_)));obtain rfl:=zj h;exact ⟨_,Ad [],rfl⟩
  refine rq 112 q47 (rsT 5 (Am (tn_ ?_)));obtain rfl:=zj h;exact ⟨_,Ad [],rfl⟩
 rintro u6 _ rfl h
 (try dsimp only at h);rcases Ac h with ⟨q48,h⟩ | ⟨q48,h⟩
 ·refine Ae q48 (Ab ?_);obtain ⟨x50,e50,h⟩:=Ag h;obtain ⟨x51,e51,h⟩:=Ag h;refine Bh 11 (dz0 (oI 1 1 y3.2.1.length) (ds0 (.elt (oi 1 1) 0 0) (Bp (t:=.int) (o:=oi 1 1) (len:=y3.2.1.length) (k:=.i64) (m:=0) (by kernel_rfl) (by kernel_rfl) rfl (by decide) rfl (A1 e50)) (dzE (oi 1 1) e50 (dz0 (oI 1 1 y3.2.1.length) (ds0 (.elt (oi 1 1) 1 0) (Bp (t:=.int) (o:=oi 1 1) (len:=y3.2.1.length) (k:=.i64) (m:=1) (by kernel_rfl) (by kernel_rfl) rfl (by decide) rfl (A1 e51)) (dzE (oi 1 1) e51 (dz0 (.agg [ai 7,ai x51,ai x50,ai 0,ai 0]) (To (oi 0 1) (oi 0 1) (.cells 35 [ai 7,ai x51,ai x50,ai 0,ai 0]) (by kernel_rfl) (dz0 (.bool true) (Kj (Bv (by kernel_rfl)) (tn_ (wr_ (Ah (br_ (tr_ ?_)))))))))))))));obtain rfl:=zj h;exact A6 [.agg [ai 7,ai x51,ai x50,ai 0,ai 0],.bool true] (Fa (Aq zl (Aq zl (Aq zl (Aq zl (Aq zl Fd))))) (Av rfl zl Aw))
 refine Af q48 (Aj (bn_ (tn_ (wr_ (Al (Ah ?_))))));obtain rfl:=zj h;exact A6 [.agg [ai 0,ai 0,ai 0,ai 0,ai 0],.bool false] (Fa (Aq zl (Aq zl (Aq zl (Aq zl (Aq zl Fd))))) (Av rfl zl Aw))
end Go.Proofs.YtjlcpiemabfpiaaDoor

namespace Go.Proofs.YtjlcpiemabfpiaaDoor
open Go.RowKit Go.Deep
set_option maxRecDepth 4000
def Jq:AC :=
 (.seq (rg [xo 2 (.i (.box 35 (tm 0))),xo 3 (.i (.box 35 (tm 1))),xo 4 (qm (cb false))])
 (.seq (.seq (rg [xf 5 0 2,xl 6 5,xf 7 0 3,xl 8 7,xo 9 (qb .neq (tm 6) (tm 8))])
 (.cond (tm 9)
  (.seq (rg [xo 4 (qm (cb false))])
  .ret)
  .skip))
 (.seq (.seq (rg [xf 10 1 2,xl 11 10,xf 12 1 3,xl 13 12,xo 14 (qb .neq (tm 11) (tm 13))])
 (.cond (tm 14)
  (.seq (rg [xo 4 (qm (cb false))])
  .ret)
  .skip))
 (.seq (.seq (rg [xf 15 2 2,xl 16 15,xf 17 2 3,xl 18 17,xo 19 (qb .neq (tm 16) (tm 18))])
 (.cond (tm 19)
  (.seq (rg [xo 4 (qm (cb false))])
  .ret)
  .skip))
 (.seq (.seq (rg [xf 20 3 2,xl 21 20,xf 22 3 3,xl 23 22,xo 24 (qb .neq (tm 21) (tm 23))])
 (.cond (tm 24)
  (.seq (rg [xo 4 (qm (cb false))])
  .ret)
  .skip))
 (.seq (.seq (rg [xf 25 4 2,xl 26 25,xf 27 4 3,xl 28 27,xo 29 (qb .neq (tm 26) (tm 28))])
 (.cond (tm 29)
  (.seq (rg [xo 4 (qm (cb false))])
  .ret)
  .skip))
 (.seq (rg [xo 4 (qm (cb true))])
 .ret)))))))
def Qj:List Res:=[.tmp 4]
theorem Qb:A2 Tryd.prog Tryd.f39=some (Jq,Qj):=by kernel_rfl
def E0 (u0 u1:Int) (u2 u3:Int) (u4 u5:Int) (u6 u7:Int) (u8 u9:Int):Option Bool :=
 cond (u0 !=u5)
 (some false)
 (cond (u1 !=u6)
  (some false)
  (cond (u2 !=u7)
   (some false)
   (cond (u3 !=u8)
    (some false)
    (cond (u4 !=u9)
     (some false)
     (some true)))))
def Oq (r:Bool):RV:=⟨false,[(false,[.sc (.bool r)])]⟩
theorem Ok {u0 u1:Int} {u2 u3:Int} {u4 u5:Int} {u6 u7:Int} {u8 u9:Int} {r:Bool} (h:E0 u0 u1 u2 u3 u4 u5 u6 u7 u8 u9=some r):A7 Tryd.prog Tab 39 [.agg [ai u0,ai u1,ai u2,ai u3,ai u4],.agg [ai u5,ai u6,ai u7,ai u8,ai u9]] (Oq r):=by
 refine A5 (by kernel_rfl) Tryd.func39 Qb (n:=30) (by kernel_rfl) (by simp) rfl ?_;unfold Jq;unfold E0 at h;refine Al (Ab (Al ?_));rcases Ac h with ⟨q4,h⟩ | ⟨q4,h⟩
 ·refine Ae q4 (Al (Ah (tr_ ?_)));obtain rfl:=zj h;exact A6 [.bool false] (Av rfl zl Aw)
 refine Af q4 (Aj (tn_ (wr_ (Ab (Al ?_)))));rcases Ac h with ⟨q8,h⟩ | ⟨q8,h⟩
 ·refine Ae q8 (Al (Ah (tr_ ?_)));obtain rfl:=zj h;exact A6 [.bool false] (Av rfl zl Aw)
 refine Af q8 (Aj (tn_ (wr_ (Ab (Al ?_)))));rcases Ac h with ⟨q12,h⟩ | ⟨q12,h⟩
 ·refine Ae q12 (Al (Ah (tr_ ?_)));obtain rfl:=zj h;exact A6 [.bool false] (Av rfl zl Aw)
 refine Af q12 (Aj (tn_ (wr_ (Ab (Al ?_)))));rcases Ac h with ⟨q16,h⟩ | ⟨q16,h⟩
 ·refine Ae q16 (Al (Ah (tr_ ?_)));obtain rfl:=zj h;exact A6 [.bool false] (Av rfl zl Aw)
 refine Af q16 (Aj (tn_ (wr_ (Ab (Al ?_)))));rcases Ac h with ⟨q20,h⟩ | ⟨q20,h⟩
 ·refine Ae q20 (Al (Ah (tr_ ?_)));obtain rfl:=zj h;exact A6 [.bool false] (Av rfl zl Aw)
 refine Af q20 (Aj (tn_ (wr_ (Al (Ah ?_)))));obtain rfl:=zj h;exact A6 [.bool true] (Av rfl zl Aw)
def Ga:AC :=
 (.seq (.seq (rg [xm 11 5,xm 12 0,xn1 13 12,xs1 14 11 13])
 (.cond (tm 14)
  .skip
  (.exit 0)))
 (.seq (.block 1 (.seq (.region [xm 17 0,xm 18 5,xx 19 5 17 18,xo 20 (.i (.ld false 5 (tm 19))),xm 21 1,xm 22 5,xx 23 5 21 22,xo 24 (.i (.ld false 5 (tm 23))),xo 25 (qc 39 [tm 20,tm 24] [[none,none,none,none,none],[none,none,none,none,none]]),xo 26 (.i (.not (tm 25)))] true [])
 (.cond (tm 26)
  (.seq (rg [xo 4 (qm (cb false))])
  .ret)
  .skip)))
 (rg [xm 15 5,xa 16 15,xm 5 16])))
def Iu:AC :=
 (.seq (rg [xo 4 (qm (cb false))])
 (.seq (.seq (rg [xm 6 0,xn1 7 6,xm 8 1,xn1 9 8,xo 10 (qb .neq (tm 7) (tm 9))])
 (.cond (tm 10)
  (.seq (rg [xo 4 (qm (cb false))])
  .ret)
  .skip))
 (.seq (.seq (rg [xo 5 (qm (ci 0))])
 (.block 0 (.loop Ga)))
 (.seq (rg [xo 4 (qm (cb true))])
 .ret))))
def Ot:List Res:=[.tmp 4]
theorem O0:A2 Tryd.prog Tryd.f20=some (Iu,Ot):=by kernel_rfl
def Cy (a0:List (Int×Int×Int×Int×Int)) (a1:List (Int×Int×Int×Int×Int)) (u0:Nat):Option (Ctl Nat (Ctl Unit Bool)) :=
 cond (decide ((u0:Int)<(a0.length:Int)))
 ((a0[u0]?).bind fun x14 =>
 (a1[u0]?).bind fun x15 =>
 (E0 x14.1 x14.2.1 x14.2.2.1 x14.2.2.2.1 x14.2.2.2.2 x15.1 x15.2.1 x15.2.2.1 x15.2.2.2.1 x15.2.2.2.2).bind fun y16 =>
 cond (!y16)
  (some (Ctl.out (Ctl.out false)))
  (og (u0+1<4611686018427387904) <|
  some (Ctl.next (u0+1))))
 (some (Ctl.out (Ctl.next ())))
def D2 (a0:List (Int×Int×Int×Int×Int)) (a1:List (Int×Int×Int×Int×Int)):Option Bool :=
 cond ((a0.length:Int) !=(a1.length:Int))
 (some false)
 (On (Bc (fun s_:Nat=>Cy a0 a1 s_) 4611686018427387904 0) fun _ =>
 some true)
def Nx (r:Bool):RV:=⟨false,[(false,[.sc (.bool r)])]⟩
theorem Ng {a0:List (Int×Int×Int×Int×Int)} {a1:List (Int×Int×Int×Int×Int)} {r:Bool} (h:D2 a0 a1=some r):A7 Tryd.prog Tab 20 [.tree T5 a0,.tree T5 a1] (Nx r):=by
 refine A5 (by kernel_rfl) Tryd.func20 O0 (n:=27) (by kernel_rfl) (by simp) rfl ?_;unfold Iu;unfold D2 at h;refine Al (Ab (Al ?_));rcases Ac h with ⟨q4,h⟩ | ⟨q4,h⟩
 ·refine Ae q4 (Al (Ah (tr_ ?_)));obtain rfl:=zj h;exact A6 [.bool false] (Av rfl zl Aw)
 refine Af q4 (Aj (tn_ (wr_ (Ey h (fun (_:Unit) S_=>S_=⟨Ak [],Ai (Ar []),2⟩) ?_ ?_))))
 ·intro v_ h hk6;refine Al (At (Bq h (fun (u0:Nat) S_=>S_=⟨Ak [(0,.tree T5 a0),(1,.tree T5 a1),(5,an u0)],Ai (Ar []),2⟩) ⟨_,Ad [],rfl⟩ ?_));rintro n_ u0 _ c_ rfl h hn8
  (try dsimp only at h);unfold Cy at h;unfold Ga;refine Ab (Al ?_);rcases Ac h with ⟨q11,h⟩ | ⟨q11,h⟩
  ·have q11_:=of_decide_eq_true q11;refine Ae q11 (Aj (tn_ (wr_ (Ab (At (Ab ?_))))));obtain ⟨x14,e14,h⟩:=Ag h;obtain ⟨x15,e15,h⟩:=Ag h;obtain ⟨y16,h16,h⟩:=Ag h;refine Bh 16 (dz0 (.tree T5 a0) (dz0 (an u0) (dzI T5 e14 (dz0 (.agg [ai x14.1,ai x14.2.1,ai x14.2.2.1,ai x14.2.2.2.1,ai x14.2.2.2.2]) (dz0 (.tree T5 a1) (dz0 (an u0) (dzI T5 e15 (dz0 (.agg [ai x15.1,ai x15.2.1,ai x15.2.2.1,ai x15.2.2.2.1,ai x15.2.2.2.2]) (dzc (.bool y16) [] [.agg [ai x14.1,ai x14.2.1,ai x14.2.2.1,ai x14.2.2.2.1,ai x14.2.2.2.2],.agg [ai x15.1,ai x15.2.1,ai x15.2.2.1,ai x15.2.2.2.1,ai x15.2.2.2.2]] (Ok h16) (dz0 (.bool (!y16)) (Kj (Bv (by kernel_rfl)) (tn_ (wr_ ?_)))))))))))));rcases Ac h with ⟨q17,h⟩ | ⟨q17,h⟩
   ·refine Ae q17 (Al (Ah (br_ (tr_ (tr_ (br_ (tr_ ?_)))))));obtain rfl:=zj h;have h:=hn8
    (try dsimp only at h);obtain rfl:=zj h;have h:=hk6
    (try dsimp only at h);obtain rfl:=zj h;exact A6 [.bool false] (Av rfl zl Aw)
   refine Af q17 (Aj (bn_ (tn_ (wr_ ?_))));obtain ⟨g19,h⟩:=A4 h;refine Aa 19 (rsT 1 (zA g19 (rsT 1 (Am (tn_ ?_)))));obtain rfl:=zj h;exact ⟨u0+1,_,Ad [],rfl,hn8⟩
  have q11_:=of_decide_eq_false q11;refine Af q11 (Br (te_ (te_ (be_ (tn_ ?_)))));obtain rfl:=zj h;have h:=hn8
  (try dsimp only at h);obtain rfl:=zj h;exact ⟨(),_,rfl,Ad [],rfl⟩
 rintro _ _ rfl h
 (try dsimp only at h);refine Al (Ah ?_);obtain rfl:=zj h;exact A6 [.bool true] (Av rfl zl Aw)
def Hc:AC :=
 (.seq (rg [xo 2 (.i (.box 24 (tm 0))),xo 3 (.i (.box 24 (tm 1))),xo 4 (qm (cb false))])
 (.seq (.seq (rg [xf 5 0 2,xl 6 5,xf 7 0 3,xl 8 7,xo 9 (qb .neq (tm 6) (tm 8))])
 (.cond (tm 9)
  (.seq (rg [xo 4 (qm (cb false))])
  .ret)
  .skip))
 (.seq (.seq (rg [xf 10 1 2,xl 11 10,xf 12 1 3,xl 13 12,xo 14 (qb .neq (tm 11) (tm 13))])
 (.cond (tm 14)
  (.seq (rg [xo 4 (qm (cb false))])
  .ret)
  .skip))
 (.seq (.seq (rg [xf 15 2 2,xl 16 15,xf 17 2 3,xl 18 17,xo 19 (qb .neq (tm 16) (tm 18))])
 (.cond (tm 19)
  (.seq (rg [xo 4 (qm (cb false))])
  .ret)
  .skip))
 (.seq (.seq (rg [xf 20 3 2,xl 21 20,xf 22 3 3,xl 23 22,xo 24 (qb .neq (tm 21) (tm 23))])
 (.cond (tm 24)
  (.seq (rg [xo 4 (qm (cb false))])
  .ret)
  .skip))
 (.seq (.seq (rg [xf 25 4 2,xl 26 25,xf 27 4 3,xl 28 27,⟨some 29,none,qc 20 [tm 26,tm 28] [[some T5],[some T5]]⟩,xo 30 (.i (.not (tm 29)))])
 (.cond (tm 30)
  (.seq (rg [xo 4 (qm (cb false))])
  .ret)
  .skip))
 (.seq (rg [xo 4 (qm (cb true))])
 .ret)))))))
def Nz:List Res:=[.tmp 4]
theorem M9:A2 Tryd.prog Tryd.f6=some (Hc,Nz):=by kernel_rfl
theorem Gu:Bf Tryd.prog 6=true:=by kernel_rfl
def Cx (u0 u1:Int) (u2 u3:Int) (u4:List (Int×Int×Int×Int×Int)) (u5 u6:Int) (u7 u8:Int) (u9:List (Int×Int×Int×Int×Int)):Option Bool :=
 cond (u0 !=u5)
 (some false)
 (cond (u1 !=u6)
  (some false)
  (cond (u2 !=u7)
   (some false)
   (cond (u3 !=u8)
    (some false)
    ((D2 u4 u9).bind fun y20 =>
    cond (!y20)
     (some false)
     (some true)))))
def M2 (r:Bool):RV:=⟨false,[(false,[.sc (.bool r)])]⟩
theorem G1 {u2 u3:Int} {u4 u5:Int} {u0:List (Int×Int×Int×Int×Int)} {u6 u7:Int} {u8 u9:Int} {u1:List (Int×Int×Int×Int×Int)} {r:Bool} (h:Cx u2 u3 u4 u5 u0 u6 u7 u8 u9 u1=some r):A7 Tryd.prog Tab 6 [.agg [ai u2,ai u3,ai u4,ai u5,.tree T5 u0],.agg [ai u6,ai u7,ai u8,ai u9,.tree T5 u1]] (M2 r):=by
 refine A5 (by kernel_rfl) Tryd.func6 M9 (n:=31) (by kernel_rfl) (by simp) rfl ?_;unfold Hc;unfold Cx at h;refine Al (Ab (Al ?_));rcases Ac h with ⟨q4,h⟩ | ⟨q4,h⟩
 ·refine Ae q4 (Al (Ah (tr_ ?_)));obtain rfl:=zj h;exact A6 [.bool false] (Av rfl zl Aw)
 refine Af q4 (Aj (tn_ (wr_ (Ab (Al ?_)))));rcases Ac h with ⟨q8,h⟩ | ⟨q8,h⟩
 ·refine Ae q8 (Al (Ah (tr_ ?_)));obtain rfl:=zj h;exact A6 [.bool false] (Av rfl zl Aw)
 refine Af q8 (Aj (tn_ (wr_ (Ab (Al ?_)))));rcases Ac h with ⟨q12,h⟩ | ⟨q12,h⟩
 ·refine Ae q12 (Al (Ah (tr_ ?_)));obtain rfl:=zj h;exact A6 [.bool false] (Av rfl zl Aw)
 refine Af q12 (Aj (tn_ (wr_ (Ab (Al ?_)))));rcases Ac h with ⟨q16,h⟩ | ⟨q16,h⟩
 ·refine Ae q16 (Al (Ah (tr_ ?_)));obtain rfl:=zj h;exact A6 [.bool false] (Av rfl zl Aw)
 refine Af q16 (Aj (tn_ (wr_ (Ab (Ab ?_)))));obtain ⟨y20,h20,h⟩:=Ag h;refine Aa 30 (rsT 4 (zc (.bool y20) [] [.tree T5 u0,.tree T5 u1] (Ng h20) (rsT 1 (Am (tn_ (wr_ ?_))))));rcases Ac h with ⟨q21,h⟩ | ⟨q21,h⟩
 ·refine Ae q21 (Al (Ah (tr_ ?_)));obtain rfl:=zj h;exact A6 [.bool false] (Av rfl zl Aw)
 refine Af q21 (Aj (tn_ (wr_ (Al (Ah ?_)))));obtain rfl:=zj h;exact A6 [.bool true] (Av rfl zl Aw)
def Fn:AC :=
 (.seq (.seq (rg [xm 6 5,xm 7 0,xn1 8 7,xs1 9 6 8])
 (.cond (tm 9)
  .skip
  (.exit 0)))
 (.seq (.block 1 (.seq (rg [xm 12 0,xm 13 5,xm 14 1,xx 15 5 12 13,xf 16 0 15,xn (qs (tm 16) (tm 14))])
 (.seq (rg [xm 17 1,xa 18 17,xm 1 18])
 (.seq (rg [xm 19 0,xm 20 5,xm 21 1,xx 22 5 19 20,xf 23 1 22,xn (qs (tm 23) (tm 21))])
 (.seq (rg [xm 24 1,xa 25 24,xm 1 25])
 (.seq (rg [xm 26 0,xm 27 5,xm 28 1,xx 29 5 26 27,xf 30 2 29,xn (qs (tm 30) (tm 28))])
 (.seq (rg [xm 31 1,xa 32 31,xm 1 32])
 (.seq (rg [xm 33 0,xm 34 5,xm 35 1,xx 36 5 33 34,xf 37 3 36,xn (qs (tm 37) (tm 35))])
 (.seq (rg [xm 38 1,xa 39 38,xm 1 39])
 (.seq (rg [xm 40 0,xm 41 5,xm 42 1,xx 43 5 40 41,xf 44 4 43,xn (qs (tm 44) (tm 42))])
 (rg [xm 45 1,xa 46 45,xm 1 46])))))))))))
 (rg [xm 10 5,xa 11 10,xm 5 11])))
def Gz:AC :=
 (.seq (rg [xo 4 (qm (ci 0))])
 (.seq (.seq (rg [xo 5 (qm (ci 0))])
 (.block 0 (.loop Fn)))
 (.seq (rg [xm 47 1,xm 4 47])
 .ret)))
def L8:List Res:=[.tmp 4]
theorem L1:A2 Tryd.prog Tryd.f21=some (Gz,L8):=by kernel_rfl
theorem K6:Bf Tryd.prog 21=true:=by kernel_rfl
def Ck  (u1:Int) (u0:Nat) (u2:List (Int×Int×Int×Int×Int)):Option (Ctl (Int×Nat×(List (Int×Int×Int×Int×Int))) (Int×(List (Int×Int×Int×Int×Int)))) :=
 cond (decide ((u0:Int)<(u2.length:Int)))
 ((u2[u0]?).bind fun x11 =>
 ((u2.set u0 (u1,x11.2))[u0]?).bind fun x14 =>
 (((u2.set u0 (u1,x11.2)).set u0 (x14.1,wI (u1+1),x14.2.2))[u0]?).bind fun x17 =>
 ((((u2.set u0 (u1,x11.2)).set u0 (x14.1,wI (u1+1),x14.2.2)).set u0 (x17.1,x17.2.1,wI (wI (u1+1)+1),x17.2.2.2))[u0]?).bind fun x20 =>
 (((((u2.set u0 (u1,x11.2)).set u0 (x14.1,wI (u1+1),x14.2.2)).set u0 (x17.1,x17.2.1,wI (wI (u1+1)+1),x17.2.2.2)).set u0 (x20.1,x20.2.1,x20.2.2.1,wI (wI (wI (u1+1)+1)+1),x20.2.2.2.2))[u0]?).bind fun x23 =>
 og (u0+1<4611686018427387904) <|
 some (Ctl.next (wI (wI (wI (wI (wI (u1+1)+1)+1)+1)+1),u0+1,((((u2.set u0 (u1,x11.2)).set u0 (x14.1,wI (u1+1),x14.2.2)).set u0 (x17.1,x17.2.1,wI (wI (u1+1)+1),x17.2.2.2)).set u0 (x20.1,x20.2.1,x20.2.2.1,wI (wI (wI (u1+1)+1)+1),x20.2.2.2.2)).set u0 (x23.1,x23.2.1,x23.2.2.1,x23.2.2.2.1,wI (wI (wI (wI (u1+1)+1)+1)+1)))))
 (some (Ctl.out (u1,u2)))
def C6 (a0:List (Int×Int×Int×Int×Int)) (a1:Int):Option ((List (Int×Int×Int×Int×Int))×Int) :=
 (Bc (fun s_:Int×Nat×(List (Int×Int×Int×Int×Int))=>Ck s_.1 s_.2.1 s_.2.2) 4611686018427387904 (a1,0,a0)).bind fun (u0,l3_p0) =>
some (l3_p0,u0)
theorem Lg {a0:List (Int×Int×Int×Int×Int)} {a1:Int} {r:(List (Int×Int×Int×Int×Int))×Int} (h:C6 a0 a1=some r) {n_a0:Nat} (hn_a0:n_a0=a0.length):Od Tryd.prog Tab 21 [.own (oi 0 0) T5 0 n_a0,ai a1] [(oi 0 0,.arr 35 T5 a0)] (ai r.2) [(oi 0 0,.arr 35 T5 r.1)]:=by
 refine Sf (by kernel_rfl) Tryd.func21 L1 (n:=48) (by kernel_rfl) (by simp) rfl (by kernel_rfl) ⟨trivial,trivial⟩ ⟨trivial,trivial⟩ ?_;unfold Gz;unfold C6 at h;refine Al (Ax h (fun t_ S_=>∃ (u3:Int),∃ (l3_p0:List (Int×Int×Int×Int×Int)),t_=(u3,l3_p0)∧S_=⟨Ak [(1,ai u3)],Ai (Ar [(oi 0 0,.arr 35 T5 l3_p0)]),2⟩) ?_ ?_)
 ·intro v_ h;refine Al (At (Bq h (fun t_ S_=>∃ (u1:Int),∃ (u0:Nat),∃ (u2:List (Int×Int×Int×Int×Int)),t_=(u1,u0,u2)∧S_=⟨Ak [(0,.own (oi 0 0) T5 0 u2.length),(1,ai u1),(5,an u0)],Ai (Ar [(oi 0 0,.arr 35 T5 u2)]),2⟩) ⟨_,(L5 0 (.own (oi 0 0) T5 0 n_a0) (.own (oi 0 0) T5 0 a0.length) (by kernel_rfl) (congrArg (fun z_=>((.own (oi 0 0) T5 0 z_):AV)) (hn_a0:n_a0=a0.length))).trans (Ad []),⟨a1,0,a0,rfl,rfl⟩⟩ ?_));rintro n_ _ _ c_ ⟨u1,u0,u2,rfl,rfl⟩ h hn5
  (try dsimp only at h);unfold Ck at h;unfold Fn;refine Ab (Al ?_);rcases Ac h with ⟨q8,h⟩ | ⟨q8,h⟩
  ·have q8_:=of_decide_eq_true q8;refine Ae q8 (Aj (tn_ (wr_ (Ab (At (Ab ?_))))));obtain ⟨x11,e11,h⟩:=Ag h;refine Aa 12 (rsT 3 (zO (oi 0 0) T5 u2.length (A1 e11) (rsT 1 (Yo (oi 0 0) (oi 0 0) (.arr 35 T5 (u2.set u0 (u1,x11.2))) (Te (i:=oi 0 0) (j:=u0) (k:=0) (e:=35) (t:=T5) (xs:=u2) (cs:=[ai u1,ai x11.2.1,ai x11.2.2.1,ai x11.2.2.2.1,ai x11.2.2.2.2]) (x1:=(u1,x11.2)) (by kernel_rfl) (by kernel_rfl) e11 (by kernel_rfl) (by kernel_rfl)) (Am (tn_ (wr_ (Al (Ab ?_)))))))));obtain ⟨x14,e14,h⟩:=Ag h;refine Aa 21 (rsT 3 (rs0 (.elt (oi 0 0) u0 0) (zo (t:=T5) (o:=oi 0 0) (len:=u2.length) (k:=.i64) (m:=(u0:Int)) (Jl _) (Nat.lt_of_lt_of_le (A1 e14) (Nat.le_of_eq (Eq.symm ((rfl:u2.length=u2.length).trans List.length_set.symm))))) (rsT 1 (Yo (oi 0 0) (oi 0 0) (.arr 35 T5 ((u2.set u0 (u1,x11.2)).set u0 (x14.1,wI (u1+1),x14.2.2))) (Te (i:=oi 0 0) (j:=u0) (k:=1) (e:=35) (t:=T5) (xs:=u2.set u0 (u1,x11.2)) (cs:=[ai x14.1,ai (wI (u1+1)),ai x14.2.2.1,ai x14.2.2.2.1,ai x14.2.2.2.2]) (x1:=(x14.1,wI (u1+1),x14.2.2)) (by kernel_rfl) (by kernel_rfl) e14 (by kernel_rfl) (by kernel_rfl)) (Am (tn_ (wr_ (Al (Ab ?_)))))))));obtain ⟨x17,e17,h⟩:=Ag h;refine Aa 30 (rsT 3 (rs0 (.elt (oi 0 0) u0 0) (zo (t:=T5) (o:=oi 0 0) (len:=u2.length) (k:=.i64) (m:=(u0:Int)) (Jl _) (Nat.lt_of_lt_of_le (A1 e17) (Nat.le_of_eq (Eq.symm (((rfl:u2.length=u2.length).trans List.length_set.symm).trans List.length_set.symm))))) (rsT 1 (Yo (oi 0 0) (oi 0 0) (.arr 35 T5 (((u2.set u0 (u1,x11.2)).set u0 (x14.1,wI (u1+1),x14.2.2)).set u0 (x17.1,x17.2.1,wI (wI (u1+1)+1),x17.2.2.2))) (Te (i:=oi 0 0) (j:=u0) (k:=2) (e:=35) (t:=T5) (xs:=(u2.set u0 (u1,x11.2)).set u0 (x14.1,wI (u1+1),x14.2.2)) (cs:=[ai x17.1,ai x17.2.1,ai (wI (wI (u1+1)+1)),ai x17.2.2.2.1,ai x17.2.2.2.2]) (x1:=(x17.1,x17.2.1,wI (wI (u1+1)+1),x17.2.2.2)) (by kernel_rfl) (by kernel_rfl) e17 (by kernel_rfl) (by kernel_rfl)) (Am (tn_ (wr_ (Al (Ab ?_)))))))));obtain ⟨x20,e20,h⟩:=Ag h;refine Aa 39 (rsT 3 (rs0 (.elt (oi 0 0) u0 0) (zo (t:=T5) (o:=oi 0 0) (len:=u2.length) (k:=.i64) (m:=(u0:Int)) (Jl _) (Nat.lt_of_lt_of_le (A1 e20) (Nat.le_of_eq (Eq.symm ((((rfl:u2.length=u2.length).trans List.length_set.symm).trans List.length_set.symm).trans List.length_set.symm))))) (rsT 1 (Yo (oi 0 0) (oi 0 0) (.arr 35 T5 ((((u2.set u0 (u1,x11.2)).set u0 (x14.1,wI (u1+1),x14.2.2)).set u0 (x17.1,x17.2.1,wI (wI (u1+1)+1),x17.2.2.2)).set u0 (x20.1,x20.2.1,x20.2.2.1,wI (wI (wI (u1+1)+1)+1),x20.2.2.2.2))) (Te (i:=oi 0 0) (j:=u0) (k:=3) (e:=35) (t:=T5) (xs:=((u2.set u0 (u1,x11.2)).set u0 (x14.1,wI (u1+1),x14.2.2)).set u0 (x17.1,x17.2.1,wI (wI (u1+1)+1),x17.2.2.2)) (cs:=[ai x20.1,ai x20.2.1,ai x20.2.2.1,ai (wI (wI (wI (u1+1)+1)+1)),ai x20.2.2.2.2]) (x1:=(x20.1,x20.2.1,x20.2.2.1,wI (wI (wI (u1+1)+1)+1),x20.2.2.2.2)) (by kernel_rfl) (by kernel_rfl) e20 (by kernel_rfl) (by kernel_rfl)) (Am (tn_ (wr_ (Al (Ab ?_)))))))));obtain ⟨x23,e23,h⟩:=Ag h;refine Aa 48 (rsT 3 (rs0 (.elt (oi 0 0) u0 0) (zo (t:=T5) (o:=oi 0 0) (len:=u2.length) (k:=.i64) (m:=(u0:Int)) (Jl _) (Nat.lt_of_lt_of_le (A1 e23) (Nat.le_of_eq (Eq.symm (((((rfl:u2.length=u2.length).trans List.length_set.symm).trans List.length_set.symm).trans List.length_set.symm).trans List.length_set.symm))))) (rsT 1 (Yo (oi 0 0) (oi 0 0) (.arr 35 T5 (((((u2.set u0 (u1,x11.2)).set u0 (x14.1,wI (u1+1),x14.2.2)).set u0 (x17.1,x17.2.1,wI (wI (u1+1)+1),x17.2.2.2)).set u0 (x20.1,x20.2.1,x20.2.2.1,wI (wI (wI (u1+1)+1)+1),x20.2.2.2.2)).set u0 (x23.1,x23.2.1,x23.2.2.1,x23.2.2.2.1,wI (wI (wI (wI (u1+1)+1)+1)+1)))) (Te (i:=oi 0 0) (j:=u0) (k:=4) (e:=35) (t:=T5) (xs:=(((u2.set u0 (u1,x11.2)).set u0 (x14.1,wI (u1+1),x14.2.2)).set u0 (x17.1,x17.2.1,wI (wI (u1+1)+1),x17.2.2.2)).set u0 (x20.1,x20.2.1,x20.2.2.1,wI (wI (wI (u1+1)+1)+1),x20.2.2.2.2)) (cs:=[ai x23.1,ai x23.2.1,ai x23.2.2.1,ai x23.2.2.2.1,ai (wI (wI (wI (wI (u1+1)+1)+1)+1))]) (x1:=(x23.1,x23.2.1,x23.2.2.1,x23.2.2.2.1,wI (wI (wI (wI (u1+1)+1)+1)+1))) (by kernel_rfl) (by kernel_rfl) e23 (by kernel_rfl) (by kernel_rfl)) (Am (tn_ (wr_ (Aa 51 (rsT 3 (Am (bn_ (tn_ (wr_ ?_)))))))))))));obtain ⟨g24,h⟩:=A4 h;refine Aa 54 (rsT 1 (zA g24 (rsT 1 (Am (tn_ ?_)))));obtain rfl:=zj h;exact ⟨(wI (wI (wI (wI (wI (u1+1)+1)+1)+1)+1),u0+1,((((u2.set u0 (u1,x11.2)).set u0 (x14.1,wI (u1+1),x14.2.2)).set u0 (x17.1,x17.2.1,wI (wI (u1+1)+1),x17.2.2.2)).set u0 (x20.1,x20.2.1,x20.2.2.1,wI (wI (wI (u1+1)+1)+1),x20.2.2.2.2)).set u0 (x23.1,x23.2.1,x23.2.2.1,x23.2.2.2.1,wI (wI (wI (wI (u1+1)+1)+1)+1))),_,(L5 0 (.own (oi 0 0) T5 0 u2.length) (.own (oi 0 0) T5 0 ((((((u2.set u0 (u1,x11.2)).set u0 (x14.1,wI (u1+1),x14.2.2)).set u0 (x17.1,x17.2.1,wI (wI (u1+1)+1),x17.2.2.2)).set u0 (x20.1,x20.2.1,x20.2.2.1,wI (wI (wI (u1+1)+1)+1),x20.2.2.2.2)).set u0 (x23.1,x23.2.1,x23.2.2.1,x23.2.2.2.1,wI (wI (wI (wI (u1+1)+1)+1)+1))).length)) (by kernel_rfl) (congrArg (fun z_=>((.own (oi 0 0) T5 0 z_):AV)) (((((((rfl:u2.length=u2.length).trans List.length_set.symm).trans List.length_set.symm).trans List.length_set.symm).trans List.length_set.symm).trans List.length_set.symm):u2.length=(((((u2.set u0 (u1,x11.2)).set u0 (x14.1,wI (u1+1),x14.2.2)).set u0 (x17.1,x17.2.1,wI (wI (u1+1)+1),x17.2.2.2)).set u0 (x20.1,x20.2.1,x20.2.2.1,wI (wI (wI (u1+1)+1)+1),x20.2.2.2.2)).set u0 (x23.1,x23.2.1,x23.2.2.1,x23.2.2.2.1,wI (wI (wI (wI (u1+1)+1)+1)+1))).length))).trans (Ad []),⟨wI (wI (wI (wI (wI (u1+1)+1)+1)+1)+1),u0+1,((((u2.set u0 (u1,x11.2)).set u0 (x14.1,wI (u1+1),x14.2.2)).set u0 (x17.1,x17.2.1,wI (wI (u1+1)+1),x17.2.2.2)).set u0 (x20.1,x20.2.1,x20.2.2.1,wI (wI (wI (u1+1)+1)+1),x20.2.2.2.2)).set u0 (x23.1,x23.2.1,x23.2.2.1,x23.2.2.2.1,wI (wI (wI (wI (u1+1)+1)+1)+1)),rfl,rfl⟩,hn5⟩
  have q8_:=of_decide_eq_false q8;refine Af q8 (Br (te_ (te_ (be_ (tn_ ?_)))));obtain rfl:=zj h;have h:=hn5
  (try dsimp only at h);obtain rfl:=zj h;exact ⟨_,Ad [],⟨u1,u2,rfl,rfl⟩⟩
 rintro _ _ ⟨u3,l3_p0,rfl,rfl⟩ h
 (try dsimp only at h);refine Al (Ah ?_);obtain rfl:=zj h;exact Acv [ai u3] (Ad (tl:=[(4,ai u3)]) (g:=2) [])
def Gg:AC :=
 (.seq (rg [xo 2 (.i (.box 24 (tm 0))),xo 4 (qm (ci 0))])
 (.seq (rg [xf 5 4 2,xl 6 5,xm 7 1,⟨some 8,none,qc 21 [tm 6,tm 7] [[some T5],[]]⟩,xm 1 8])
 (.seq (rg [xm 9 1,xm 4 9])
 .ret)))
def Lc:List Res:=[.tmp 4]
theorem K2:A2 Tryd.prog Tryd.f7=some (Gg,Lc):=by kernel_rfl
theorem Ke:Bf Tryd.prog 7=true:=by kernel_rfl
def C3 (u1 u2:Int) (u3 u4:Int) (u0:List (Int×Int×Int×Int×Int)) (a1:Int):Option ((List (Int×Int×Int×Int×Int))×Int) :=
 (C6 u0 a1).bind fun y4 =>
og (y4.1.length=(u0.length)) <|
some (y4.1,y4.2)
theorem J2 {u1 u2:Int} {u3 u4:Int} {u0:List (Int×Int×Int×Int×Int)} {a1:Int} {r:(List (Int×Int×Int×Int×Int))×Int} (h:C3 u1 u2 u3 u4 u0 a1=some r) {n_a0_4:Nat} (hn_a0_4:n_a0_4=u0.length):Od Tryd.prog Tab 7 [.agg [ai u1,ai u2,ai u3,ai u4,.own (oi 0 0) T5 0 n_a0_4],ai a1] [(oi 0 0,.arr 35 T5 u0)] (ai r.2) [(oi 0 0,.arr 35 T5 r.1)]:=by
 refine Sf (by kernel_rfl) Tryd.func7 K2 (n:=10) (by kernel_rfl) (by simp) rfl (by kernel_rfl) ⟨trivial,trivial⟩ ⟨trivial,trivial⟩ ?_;unfold Gg;unfold C3 at h
 (try rw [← hn_a0_4] at h)
 refine Al (Ab ?_);obtain ⟨y4,h4,h⟩:=Ag h;obtain ⟨g5,h⟩:=A4 h;refine Aa 8 (rsT 3 (Aaq (ai y4.2) [(oi 0 0,some (.arr 35 T5 y4.1)),(oi 0 0,none)] [] [.own (oi 0 0) T5 0 n_a0_4,ai a1] (caps:=[]) trivial (Lg h4 hn_a0_4) K6 ⟨by kernel_rfl,trivial⟩ (.cons (.ren (by kernel_rfl)) (.cons (.ren (by kernel_rfl)) .nil)) (Lo (by kernel_rfl) (by kernel_rfl) ⟨Aaa (by kernel_rfl),trivial⟩) (rsT 1 (Am (tn_ (wr_ (Al (Ah ?_))))))));obtain rfl:=zj h;exact Acv [ai y4.2] (Ad (tl:=[(4,ai y4.2)]) (g:=2) [])
def Fp:AC :=
 (.seq (.seq (rg [xm 6 5,xm 7 0,xn1 8 7,xs1 9 6 8])
 (.cond (tm 9)
  .skip
  (.exit 0)))
 (.seq (.block 1 (.seq (.seq (rg [xm 12 0,xm 13 5,xx 14 5 12 13,xf 15 0 14,xl 16 15,xm 17 1,xo 18 (qb .neq (tm 16) (tm 17))])
 (.cond (tm 18)
  (.seq (rg [xo 4 (qm (ci (-1)))])
  .ret)
  .skip))
 (.seq (rg [xm 19 1,xa 20 19,xm 1 20])
 (.seq (.seq (rg [xm 21 0,xm 22 5,xx 23 5 21 22,xf 24 1 23,xl 25 24,xm 26 1,xo 27 (qb .neq (tm 25) (tm 26))])
 (.cond (tm 27)
  (.seq (rg [xo 4 (qm (ci (-1)))])
  .ret)
  .skip))
 (.seq (rg [xm 28 1,xa 29 28,xm 1 29])
 (.seq (.seq (rg [xm 30 0,xm 31 5,xx 32 5 30 31,xf 33 2 32,xl 34 33,xm 35 1,xo 36 (qb .neq (tm 34) (tm 35))])
 (.cond (tm 36)
  (.seq (rg [xo 4 (qm (ci (-1)))])
  .ret)
  .skip))
 (.seq (rg [xm 37 1,xa 38 37,xm 1 38])
 (.seq (.seq (rg [xm 39 0,xm 40 5,xx 41 5 39 40,xf 42 3 41,xl 43 42,xm 44 1,xo 45 (qb .neq (tm 43) (tm 44))])
 (.cond (tm 45)
  (.seq (rg [xo 4 (qm (ci (-1)))])
  .ret)
  .skip))
 (.seq (rg [xm 46 1,xa 47 46,xm 1 47])
 (.seq (.seq (rg [xm 48 0,xm 49 5,xx 50 5 48 49,xf 51 4 50,xl 52 51,xm 53 1,xo 54 (qb .neq (tm 52) (tm 53))])
 (.cond (tm 54)
  (.seq (rg [xo 4 (qm (ci (-1)))])
  .ret)
  .skip))
 (rg [xm 55 1,xa 56 55,xm 1 56])))))))))))
 (rg [xm 10 5,xa 11 10,xm 5 11])))
def G4:AC :=
 (.seq (rg [xo 4 (qm (ci 0))])
 (.seq (.seq (rg [xo 5 (qm (ci 0))])
 (.block 0 (.loop Fp)))
 (.seq (rg [xm 57 1,xm 4 57])
 .ret)))
def Mn:List Res:=[.tmp 4]
theorem M3:A2 Tryd.prog Tryd.f22=some (G4,Mn):=by kernel_rfl
def Cl (a0:List (Int×Int×Int×Int×Int)) (u0:Int) (u1:Nat):Option (Ctl (Int×Nat) (Ctl Int Int)) :=
 cond (decide ((u1:Int)<(a0.length:Int)))
 ((a0[u1]?).bind fun x11 =>
 cond (x11.1 !=u0)
  (some (Ctl.out (Ctl.out (-1))))
  (cond (x11.2.1 !=(wI (u0+1)))
   (some (Ctl.out (Ctl.out (-1))))
   (cond (x11.2.2.1 !=(wI (wI (u0+1)+1)))
    (some (Ctl.out (Ctl.out (-1))))
    (cond (x11.2.2.2.1 !=(wI (wI (wI (u0+1)+1)+1)))
     (some (Ctl.out (Ctl.out (-1))))
     (cond (x11.2.2.2.2 !=(wI (wI (wI (wI (u0+1)+1)+1)+1)))
      (some (Ctl.out (Ctl.out (-1))))
      (og (u1+1<4611686018427387904) <|
      some (Ctl.next (wI (wI (wI (wI (wI (u0+1)+1)+1)+1)+1),u1+1))))))))
 (some (Ctl.out (Ctl.next u0)))
def Da (a0:List (Int×Int×Int×Int×Int)) (a1:Int):Option Int :=
 On (Bc (fun s_:Int×Nat=>Cl a0 s_.1 s_.2) 4611686018427387904 (a1,0)) fun u0 =>
some u0
def Lk (r:Int):RV:=⟨false,[(false,[.sc (.int .i64 r)])]⟩
theorem Lp {a0:List (Int×Int×Int×Int×Int)} {a1 r:Int} (h:Da a0 a1=some r):A7 Tryd.prog Tab 22 [.tree T5 a0,ai a1] (Lk r):=by
 refine A5 (by kernel_rfl) Tryd.func22 M3 (n:=58) (by kernel_rfl) (by simp) rfl ?_;unfold G4;unfold Da at h;refine Al (Ey h (fun (u2:Int) S_=>S_=⟨Ak [(1,ai u2)],Ai (Ar []),2⟩) ?_ ?_)
 ·intro v_ h hk2;refine Al (At (Bq h (fun t_ S_=>∃ (u0:Int),∃ (u1:Nat),t_=(u0,u1)∧S_=⟨Ak [(0,.tree T5 a0),(1,ai u0),(5,an u1)],Ai (Ar []),2⟩) ⟨_,Ad [],⟨a1,0,rfl,rfl⟩⟩ ?_));rintro n_ _ _ c_ ⟨u0,u1,rfl,rfl⟩ h hn4
  (try dsimp only at h);unfold Cl at h;unfold Fp;refine Ab (Al ?_);rcases Ac h with ⟨q7,h⟩ | ⟨q7,h⟩
  ·have q7_:=of_decide_eq_true q7;refine Ae q7 (Aj (tn_ (wr_ (Ab (At (Ab (Ab ?_)))))));obtain ⟨x11,e11,h⟩:=Ag h;refine Aa 13 (rsT 2 (zI T5 e11 (rsT 4 (Am (tn_ (wr_ ?_))))));rcases Ac h with ⟨q12,h⟩ | ⟨q12,h⟩
   ·refine Ae q12 (Al (Ah (tr_ (br_ (tr_ (tr_ (br_ (tr_ ?_))))))));obtain rfl:=zj h;have h:=hn4
    (try dsimp only at h);obtain rfl:=zj h;have h:=hk2
    (try dsimp only at h);obtain rfl:=zj h;exact A6 [ai (-1)] (Av rfl zl Aw)
   refine Af q12 (Aj (tn_ (wr_ (Al (Ab (Ab (Aa 23 (rsT 2 (zI T5 e11 (rsT 4 (Am (tn_ (wr_ ?_)))))))))))));rcases Ac h with ⟨q17,h⟩ | ⟨q17,h⟩
   ·refine Ae q17 (Al (Ah (tr_ (br_ (tr_ (tr_ (br_ (tr_ ?_))))))));obtain rfl:=zj h;have h:=hn4
    (try dsimp only at h);obtain rfl:=zj h;have h:=hk2
    (try dsimp only at h);obtain rfl:=zj h;exact A6 [ai (-1)] (Av rfl zl Aw)
   refine Af q17 (Aj (tn_ (wr_ (Al (Ab (Ab (Aa 33 (rsT 2 (zI T5 e11 (rsT 4 (Am (tn_ (wr_ ?_)))))))))))));rcases Ac h with ⟨q22,h⟩ | ⟨q22,h⟩
   ·refine Ae q22 (Al (Ah (tr_ (br_ (tr_ (tr_ (br_ (tr_ ?_))))))));obtain rfl:=zj h;have h:=hn4
    (try dsimp only at h);obtain rfl:=zj h;have h:=hk2
    (try dsimp only at h);obtain rfl:=zj h;exact A6 [ai (-1)] (Av rfl zl Aw)
   refine Af q22 (Aj (tn_ (wr_ (Al (Ab (Ab (Aa 43 (rsT 2 (zI T5 e11 (rsT 4 (Am (tn_ (wr_ ?_)))))))))))));rcases Ac h with ⟨q27,h⟩ | ⟨q27,h⟩
   ·refine Ae q27 (Al (Ah (tr_ (br_ (tr_ (tr_ (br_ (tr_ ?_))))))));obtain rfl:=zj h;have h:=hn4
    (try dsimp only at h);obtain rfl:=zj h;have h:=hk2
    (try dsimp only at h);obtain rfl:=zj h;exact A6 [ai (-1)] (Av rfl zl Aw)
   refine Af q27 (Aj (tn_ (wr_ (Al (Ab (Ab (Aa 53 (rsT 2 (zI T5 e11 (rsT 4 (Am (tn_ (wr_ ?_)))))))))))));rcases Ac h with ⟨q32,h⟩ | ⟨q32,h⟩
   ·refine Ae q32 (Al (Ah (tr_ (br_ (tr_ (tr_ (br_ (tr_ ?_))))))));obtain rfl:=zj h;have h:=hn4
    (try dsimp only at h);obtain rfl:=zj h;have h:=hk2
    (try dsimp only at h);obtain rfl:=zj h;exact A6 [ai (-1)] (Av rfl zl Aw)
   refine Af q32 (Aj (tn_ (wr_ (Aa 56 (rsT 3 (Am (bn_ (tn_ (wr_ ?_)))))))));obtain ⟨g34,h⟩:=A4 h;refine Aa 59 (rsT 1 (zA g34 (rsT 1 (Am (tn_ ?_)))));obtain rfl:=zj h;exact ⟨(wI (wI (wI (wI (wI (u0+1)+1)+1)+1)+1),u1+1),_,Ad [],⟨wI (wI (wI (wI (wI (u0+1)+1)+1)+1)+1),u1+1,rfl,rfl⟩,hn4⟩
  have q7_:=of_decide_eq_false q7;refine Af q7 (Br (te_ (te_ (be_ (tn_ ?_)))));obtain rfl:=zj h;have h:=hn4
  (try dsimp only at h);obtain rfl:=zj h;exact ⟨u0,_,rfl,Ad [],rfl⟩
 rintro u2 _ rfl h
 (try dsimp only at h);refine Al (Ah ?_);obtain rfl:=zj h;exact A6 [ai u2] (Av rfl zl Aw)
def Gl:AC :=
 (.seq (rg [xo 2 (.i (.box 24 (tm 0))),xo 4 (qm (ci 0))])
 (.seq (rg [xf 5 4 2,xl 6 5,xm 7 1,⟨some 8,none,qc 22 [tm 6,tm 7] [[some T5],[]]⟩,xm 1 8])
 (.seq (.seq (rg [xm 9 1,xo 10 (qb .lss (tm 9) (ci 0))])
 (.cond (tm 10)
  (.seq (rg [xo 4 (qm (ci (-1)))])
  .ret)
  .skip))
 (.seq (rg [xm 11 1,xm 4 11])
 .ret))))
def Lj:List Res:=[.tmp 4]
theorem Lw:A2 Tryd.prog Tryd.f8=some (Gl,Lj):=by kernel_rfl
theorem Fy:Bf Tryd.prog 8=true:=by kernel_rfl
def Cf (u1 u2:Int) (u3 u4:Int) (u0:List (Int×Int×Int×Int×Int)) (a1:Int):Option Int :=
 (Da u0 a1).bind fun y3 =>
cond (decide (y3<0))
 (some (-1))
 (some y3)
def J7 (r:Int):RV:=⟨false,[(false,[.sc (.int .i64 r)])]⟩
theorem Fw {u1 u2:Int} {u3 u4:Int} {u0:List (Int×Int×Int×Int×Int)} {a1 r:Int} (h:Cf u1 u2 u3 u4 u0 a1=some r):A7 Tryd.prog Tab 8 [.agg [ai u1,ai u2,ai u3,ai u4,.tree T5 u0],ai a1] (J7 r):=by
 refine A5 (by kernel_rfl) Tryd.func8 Lw (n:=12) (by kernel_rfl) (by simp) rfl ?_;unfold Gl;unfold Cf at h;refine Al (Ab ?_);obtain ⟨y3,h3,h⟩:=Ag h;refine Aa 8 (rsT 3 (zc (ai y3) [] [.tree T5 u0,ai a1] (Lp h3) (rsT 1 (Am (tn_ (wr_ (Ab (Al ?_))))))));rcases Ac h with ⟨q6,h⟩ | ⟨q6,h⟩
 ·have q6_:=of_decide_eq_true q6;refine Ae q6 (Al (Ah (tr_ ?_)));obtain rfl:=zj h;exact A6 [ai (-1)] (Av rfl zl Aw)
 have q6_:=of_decide_eq_false q6;refine Af q6 (Aj (tn_ (wr_ (Al (Ah ?_)))));obtain rfl:=zj h;exact A6 [ai y3] (Av rfl zl Aw)
end Go.Proofs.YtjlcpiemabfpiaaDoor

