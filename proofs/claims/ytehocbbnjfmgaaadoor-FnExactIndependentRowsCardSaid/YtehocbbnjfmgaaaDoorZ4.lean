/- Lemmas on the program and on partial functions that stand in place of its code (part 4); no condition beyond those that each one states. -/
import Derived.Test.YtehocbbnjfmgaaaDoorZ3
import Derived.KernelRfl
import Derived.IntWalk
namespace Go.Proofs.YtehocbbnjfmgaaaDoor
section
open Go.RowKit Go.Deep
section
variable {P:Program} {G:World->Prop}
theorem Ab {x y:AC} {R:AE->St->Prop} {S:St} (h:awp P G x (Ik (fun S'=>∃ S'',WeakG G S' S''∧awp P G y R S'') R) S):awp P G (.seq x y) R S:=h
theorem W7 {x y:AC} {R:AE->St->Prop} {S:St} (K:St->Prop) (h:awp P G x (Ik (fun S'=>∃ S'',WeakG G S' S''∧K S'') R) S) (k:∀ S'',K S''->awp P G y R S''):awp P G (.seq x y) R S:=by
 unfold awp
 exact Cz (fun e S hq=>by
  cases e with
  | normal=>obtain ⟨S'',hw,hk⟩:=hq; exact ⟨S'',hw,k S'' hk⟩
  | exit id=>exact hq
  | ret=>exact hq) h
def Ajd (rs:List Rec) (ds:List (List Oid)):List (Nat×Nat)->Bool
 | []=>true
 | p :: ps=>(let ri:=rs.getD p.2 (0,.any,[]); let rj:=rs.getD p.1 (0,.any,[]); let di:=ds.getD p.2 []; let dj:=ds.getD p.1 []
   ((!(ri.1==2)||rj.1==0)&&(!(rj.1==2)||ri.1==0))||((!(ri.1==2)||ri.2.2.all fun u=> !dj.contains u.1)&&((!(rj.1==2)||rj.2.2.all fun u=> !di.contains u.1)&&ri.2.2.all fun u=>rj.2.2.all fun v=> !(u.1==v.1))))&&Ajd rs ds ps
theorem Bx {rs:List Rec} {ds:List (List Oid)}:∀ {bad:List (Nat×Nat)},Ajd rs ds bad=true->Acl rs ds bad
 | [],_=>trivial
 | p :: ps,h=>by
  simp only [Ajd,Bool.and_eq_true] at h;refine ⟨?_,Bx h.2⟩;have h1:=h.1;simp only [Bool.or_eq_true,Bool.and_eq_true,Bool.not_eq_true',beq_eq_false_iff_ne,beq_iff_eq,List.all_eq_true,List.contains_eq_mem,decide_eq_false_iff_not] at h1;unfold Jw;rcases h1 with ⟨a,b⟩ | ⟨a,b,c⟩
  ·refine .inl ⟨fun e=>?_,fun e=>?_⟩
   ·rcases a with a | a
    ·exact absurd e a
    ·exact a
   ·rcases b with b | b
    ·exact absurd e b
    ·exact b
  ·refine .inr ⟨fun e=>?_,fun e=>?_,c⟩
   ·rcases a with a | a
    ·exact absurd e a
    ·exact a
   ·rcases b with b | b
    ·exact absurd e b
    ·exact b
def XW (P:Program) (G:World->Prop) (g k:Nat) (xs:List X) (tl:List (Nat×AV)) (ol:List (Oid×Option Ob)) (Kf:List (Nat×AV)->List (Oid×Option Ob)->Prop):Prop :=
 ∃ rs tl' ol',Ajn P G g k xs (Al tl) (Af ol) rs (Al tl') (Af ol')∧Kf tl' ol'
def XD (P:Program) (G:World->Prop) (bad:List (Nat×Nat)) (g k:Nat) (xs:List X) (tl:List (Nat×AV)) (ol:List (Oid×Option Ob)) (ra:List Rec) (da:List (List Oid)) (Kf:List (Nat×AV)->List (Oid×Option Ob)->Prop):Prop :=
 ∃ rs ds tl' ol',Afk P G g k xs (Al tl) (Af ol) rs ds (Al tl') (Af ol')∧Acl (ra.reverse++rs) (da.reverse++ds) bad∧Kf tl' ol'
theorem Aa {xs:List X} {bad:List (Nat×Nat)} {R:AE->St->Prop} {tl:List (Nat×AV)} {ol:List (Oid×Option Ob)} {g:Nat} (g':Nat) (h:XW P G g 0 xs tl ol fun tl' ol'=>R .normal ⟨Al tl',Af ol',g'⟩) (hn:g+xs.length=g':=by kernel_rfl):awp P G (.region xs false bad) R ⟨Al tl,Af ol,g⟩:=by
 obtain ⟨rs,tl',ol',h,hr⟩:=h;exact ⟨rs,_,_,h,by subst hn; exact hr⟩
theorem Bb {xs:List X} {bad:List (Nat×Nat)} {R:AE->St->Prop} {tl:List (Nat×AV)} {ol:List (Oid×Option Ob)} {g:Nat} (g':Nat) (h:XD P G bad g 0 xs tl ol [] [] fun tl' ol'=>R .normal ⟨Al tl',Af ol',g'⟩) (hn:g+xs.length=g':=by kernel_rfl):awp P G (.region xs true bad) R ⟨Al tl,Af ol,g⟩:=by
 obtain ⟨rs,ds,tl',ol',h,hb,hr⟩:=h;exact ⟨rs,ds,_,_,h,hb,by subst hn; exact hr⟩
theorem Lt (tl:List (Nat×AV)) (d:Nat) (v:AV):upd (Al tl) d v=Al ((d,v) :: tl):=by
 funext i;rfl
def Ks:Option Ob->Bool
 | some (.pool ..)=>false
 | some (.mat ..)=>false
 | some (.tv ..)=>false
 | _=>true
def Fb (us:List (Oid×Option Ob)):Bool:=us.all fun u=>Ks u.2
theorem Hd {ol:List (Oid×Option Ob)} {j:Oid} {o:Option Ob} (h:Ks o=true):upd (Af ol) j o=Af ((j,o) :: ol):=by
 cases o with
 | none=>funext i; rfl
 | some o=>cases o <;> first | (funext i; rfl) | cases h
theorem Gg:∀ (us ol:List (Oid×Option Ob)),Fb us=true->Ar us (Af ol)=Af (us.reverseAux ol)
 | [],_,_=>rfl
 | (j,o) :: us,ol,h=>by
  simp only [Fb,List.all_cons,Bool.and_eq_true] at h;show Ar us (upd (Af ol) j o)=_;rw [Hd h.1];exact Gg us _ h.2
theorem Hb {p:Bool} {n:Nat} {x:X} {f:Nat->AV} {ob:Oid->Option Ob} {r:Rec} (h:Ba n x f ob=some r):Dp P G p n x f ob r:=by
 unfold Ba at h;unfold Dp;split at h
 ·exact .inl (.inl (.inl h))
 ·split at h
  ·rename_i hc;exact ⟨true,hc,by rw [if_pos rfl]; exact .inl (.inl (.inl h))⟩
  ·rename_i hc;exact ⟨false,hc,by rw [if_neg (by simp)]; exact (osj h).symm⟩
  ·cases h
def Ph (gd:Option (Nat×Bool)) (f:Nat->AV):Prop :=
 match gd with
 | none=>True
 | some (s,c)=>f s=.bool c
theorem T6 {s:Nat} {b:Bool} {f:Nat->AV} (h:Ph (some (s,b)) f):gdv (f s) b=some true:=by
 rw [show f s=.bool b from h]; simp [gdv]
theorem Du {s:Nat} {b c:Bool} {f:Nat->AV} (h:f s=.bool c) (hc:c=b):Ph (some (s,b)) f:=by subst hc; exact h
theorem Aeo {p:Bool} {n:Nat} {d:Option Nat} {gd:Option (Nat×Bool)} {fo:Opd} {xs:List Opd} {tys:List (List (Option Ty))} {f:Nat->AV} {ob:Oid->Option Ob} {F:FuncId} {caps args0 args:List AV} {rv:RV} {r:AV×List (Oid×Option Ob)}
  (hgd:Ph gd f) (hfo:fo.ev f=.fn F caps) (h1:L3 (gnd ob 8) ((xs++caps.map Opd.cst).map (Opd.ev f))=some args0) (hn:Lv tys args0=args) (hb:A2 P F=true) (hc:A6 P G F args rv) (hni:rv.noI=true) (hr:rv.out (Ct ((d.getD 0,0),n)) ((xs++caps.map Opd.cst).map (Opd.ev f))=r) :
  Dp P G p n ⟨d,gd,.call fo xs tys⟩ f ob (1,r.1,r.2):=by
 subst hn;have key:EvR P G p f ob ((d.getD 0,0),n) (.call fo xs tys) (1,r.1,r.2):=.inr ⟨fo,xs,tys,F,caps,rfl,hfo,.inl ⟨rfl,hb,args0,rv,.inl ⟨h1,hni⟩,hc,hr⟩⟩;unfold Dp;cases gd with
 | none=>exact key
 | some sb=>exact ⟨true,T6 hgd,by rw [if_pos rfl]; exact key⟩
theorem Aex {n:Nat} {d:Option Nat} {gd:Option (Nat×Bool)} {fo:Opd} {xs:List Opd} {tys:List (List (Option Ty))} {f:Nat->AV} {ob:Oid->Option Ob} {F:FuncId} {caps zs args:List AV} {v:AV} {ol us:List (Oid×Ob)} (θ:Oid->Oid)
  (hgd:Ph gd f) (hfo:fo.ev f=.fn F caps) (hz:(xs++caps.map Opd.cst).map (Opd.ev f)=zs) (h1:Nc θ (Sa ((nmL ol).map θ) ob) zs args) (h2:∀ q∈exL ol,ob (θ q.1)=some (q.2.ren θ)) (h3:∀ q∈exL ol,∀ q'∈exL ol,θ q.1=θ q'.1->q.1=q'.1) (h4:∀ j∈nmL ol,Reached zs ob (θ j))
  (h5:∀ q∈exL us,q.1.2=1∨(q.1.2=0∧q.1∈nmL ol)) (hb:A2 P F=true) (hc:Eg P G F args ol v us) :
  Dp P G false n ⟨d,gd,.call fo xs tys⟩ f ob (2,v.ren (B0 θ ((d.getD 0,0),n)),Hp θ ((d.getD 0,0),n) ol us):=by
 have hN:Aio P G f ob ((d.getD 0,0),n) F (xs++caps.map Opd.cst) (v.ren (B0 θ ((d.getD 0,0),n)),Hp θ ((d.getD 0,0),n) ol us):=by
  rw [← hz] at h1 h4;refine ⟨hb,θ,args,ol,us,v,h1,h2,fun j k hj hk e=>?_,h4,hc,fun j hj=>?_,rfl⟩
  ·obtain ⟨q,hq,rfl⟩:=List.mem_map.1 hj;obtain ⟨q',hq',rfl⟩:=List.mem_map.1 hk;exact h3 q hq q' hq' e
  ·obtain ⟨q,hq,rfl⟩:=List.mem_map.1 hj;rcases h5 q hq with h | ⟨_,h⟩
   ·exact .inl (by rw [h]; decide)
   ·exact .inr h
 have key:EvR P G false f ob ((d.getD 0,0),n) (.call fo xs tys) (2,v.ren (B0 θ ((d.getD 0,0),n)),Hp θ ((d.getD 0,0),n) ol us):=.inr ⟨fo,xs,tys,F,caps,rfl,hfo,.inr ⟨rfl,rfl,hN⟩⟩;unfold Dp;cases gd with
 | none=>exact key
 | some sb=>exact ⟨true,T6 hgd,by rw [if_pos rfl]; exact key⟩
theorem Aml {n:Nat} {d:Option Nat} {gd:Option (Nat×Bool)} {q:Q} {f:Nat->AV} {ob:Oid->Option Ob} {r:Rec} (hgd:Ph gd f) (h:evL f ((d.getD 0,0),n) q=some r):Dp P G false n ⟨d,gd,q⟩ f ob r:=by
 have key:EvR P G false f ob ((d.getD 0,0),n) q r:=.inl (.inl (.inr h));unfold Dp;cases gd with
 | none=>exact key
 | some sb=>exact ⟨true,T6 hgd,by rw [if_pos rfl]; exact key⟩
theorem Ajw {n:Nat} {d:Option Nat} {gd:Option (Nat×Bool)} {q:Q} {f:Nat->AV} {ob:Oid->Option Ob} {r:Rec} (hgd:Ph gd f) (h:Aab f ((d.getD 0,0),n) q r):Dp P G false n ⟨d,gd,q⟩ f ob r:=by
 have key:EvR P G false f ob ((d.getD 0,0),n) q r:=.inl (.inr h);unfold Dp;cases gd with
 | none=>exact key
 | some sb=>exact ⟨true,T6 hgd,by rw [if_pos rfl]; exact key⟩
theorem As {g k:Nat} {tl:List (Nat×AV)} {ol:List (Oid×Option Ob)} {Kf:List (Nat×AV)->List (Oid×Option Ob)->Prop} (h:Kf tl ol):XW P G g k [] tl ol Kf:=⟨[],tl,ol,⟨rfl,rfl,rfl⟩,h⟩
theorem Ky {bad:List (Nat×Nat)} {g k:Nat} {tl:List (Nat×AV)} {ol:List (Oid×Option Ob)} {ra:List Rec} {da:List (List Oid)} {Kf:List (Nat×AV)->List (Oid×Option Ob)->Prop} (hb:Acl (ra.reverse++[]) (da.reverse++[]) bad) (h:Kf tl ol):XD P G bad g k [] tl ol ra da Kf:=⟨[],[],tl,ol,⟨rfl,rfl,rfl,rfl⟩,hb,h⟩
section
variable {g k d:Nat} {gd:Option (Nat×Bool)} {q:Q} {xs:List X} {tl:List (Nat×AV)} {ol:List (Oid×Option Ob)} {bad:List (Nat×Nat)} {ra:List Rec} {da:List (List Oid)} {Kf:List (Nat×AV)->List (Oid×Option Ob)->Prop}
theorem Ac9 (c:Nat) (v:AV) (us ol':List (Oid×Option Ob)) (h:Dp P G false (g+k) ⟨some d,gd,q⟩ (Al tl) (Af ol) (c,v,us)) (he:Ar us (Af ol)=Af ol') (h3:XW P G g (k+1) xs ((d,v) :: tl) ol' Kf):XW P G g k (⟨some d,gd,q⟩ :: xs) tl ol Kf :=
 by
 obtain ⟨rs,tl',ol',h3,hk⟩:=h3;exact ⟨_,tl',ol',⟨_,_,rfl,h,by simp only [Ih,Lt,he]; exact h3⟩,hk⟩
theorem Aje (c:Nat) (v:AV) (us ol':List (Oid×Option Ob)) (h:Dp P G false (g+k) ⟨none,gd,q⟩ (Al tl) (Af ol) (c,v,us)) (he:Ar us (Af ol)=Af ol') (h3:XW P G g (k+1) xs tl ol' Kf):XW P G g k (⟨none,gd,q⟩ :: xs) tl ol Kf :=
 by
 obtain ⟨rs,tl',ol',h3,hk⟩:=h3;exact ⟨_,tl',ol',⟨_,_,rfl,h,by simp only [Ih,he]; exact h3⟩,hk⟩
theorem Agm (c:Nat) (v:AV) (us ol':List (Oid×Option Ob)) (h:Dp P G false (g+k) ⟨some d,gd,q⟩ (Al tl) (only (rdX (Al tl) (Af ol) ⟨some d,gd,q⟩) (Af ol)) (c,v,us)) (he:Ar us (Af ol)=Af ol') (h3:XD P G bad g (k+1) xs ((d,v) :: tl) ol' ((c,v,us) :: ra) ((rdX (Al tl) (Af ol) ⟨some d,gd,q⟩) :: da) Kf):XD P G bad g k (⟨some d,gd,q⟩ :: xs) tl ol ra da Kf :=
 by
 obtain ⟨rs,ds,tl',ol',h3,hb,hk⟩:=h3;refine ⟨_,_,tl',ol',⟨_,rs,ds,rfl,rfl,h,by simp only [Ih,Lt,he]; exact h3⟩,?_,hk⟩
 simpa using hb
theorem Ai9 (c:Nat) (v:AV) (us ol':List (Oid×Option Ob)) (h:Dp P G false (g+k) ⟨none,gd,q⟩ (Al tl) (only (rdX (Al tl) (Af ol) ⟨none,gd,q⟩) (Af ol)) (c,v,us)) (he:Ar us (Af ol)=Af ol') (h3:XD P G bad g (k+1) xs tl ol' ((c,v,us) :: ra) ((rdX (Al tl) (Af ol) ⟨none,gd,q⟩) :: da) Kf):XD P G bad g k (⟨none,gd,q⟩ :: xs) tl ol ra da Kf :=
 by
 obtain ⟨rs,ds,tl',ol',h3,hb,hk⟩:=h3;refine ⟨_,_,tl',ol',⟨_,rs,ds,rfl,rfl,h,by simp only [Ih,he]; exact h3⟩,?_,hk⟩
 simpa using hb
theorem Xn (c:Nat) (v:AV) (us:List (Oid×Option Ob)) (h:Dp P G false (g+k) ⟨some d,gd,q⟩ (Al tl) (Af ol) (c,v,us)) (h3:XW P G g (k+1) xs ((d,v) :: tl) (us.reverseAux ol) Kf) (hx:Fb us=true):XW P G g k (⟨some d,gd,q⟩ :: xs) tl ol Kf:=Ac9 c v us _ h (Gg us ol hx) h3
theorem Alq (c:Nat) (v:AV) (us:List (Oid×Option Ob)) (h:Dp P G false (g+k) ⟨none,gd,q⟩ (Al tl) (Af ol) (c,v,us)) (h3:XW P G g (k+1) xs tl (us.reverseAux ol) Kf) (hx:Fb us=true):XW P G g k (⟨none,gd,q⟩ :: xs) tl ol Kf:=Aje c v us _ h (Gg us ol hx) h3
theorem Abq (c:Nat) (v:AV) (us:List (Oid×Option Ob)) (h:Dp P G false (g+k) ⟨some d,gd,q⟩ (Al tl) (only (rdX (Al tl) (Af ol) ⟨some d,gd,q⟩) (Af ol)) (c,v,us)) (h3:XD P G bad g (k+1) xs ((d,v) :: tl) (us.reverseAux ol) ((c,v,us) :: ra) ((rdX (Al tl) (Af ol) ⟨some d,gd,q⟩) :: da) Kf) (hx:Fb us=true):XD P G bad g k (⟨some d,gd,q⟩ :: xs) tl ol ra da Kf:=Agm c v us _ h (Gg us ol hx) h3
theorem Ama (c:Nat) (v:AV) (us:List (Oid×Option Ob)) (h:Dp P G false (g+k) ⟨none,gd,q⟩ (Al tl) (only (rdX (Al tl) (Af ol) ⟨none,gd,q⟩) (Af ol)) (c,v,us)) (h3:XD P G bad g (k+1) xs tl (us.reverseAux ol) ((c,v,us) :: ra) ((rdX (Al tl) (Af ol) ⟨none,gd,q⟩) :: da) Kf) (hx:Fb us=true):XD P G bad g k (⟨none,gd,q⟩ :: xs) tl ol ra da Kf:=Ai9 c v us _ h (Gg us ol hx) h3
theorem Amw {ol':List (Oid×Option Ob)} (he:Af ol=Af ol') (h:XW P G g k xs tl ol' Kf):XW P G g k xs tl ol Kf:=by
 obtain ⟨rs,tl',ol2,h1,h2⟩:=h;exact ⟨rs,tl',ol2,by rw [he]; exact h1,h2⟩
theorem Ae3 {ol':List (Oid×Option Ob)} (he:Af ol=Af ol') (h:XD P G bad g k xs tl ol' ra da Kf):XD P G bad g k xs tl ol ra da Kf:=by
 obtain ⟨rs,ds,tl',ol2,h1,h2⟩:=h;exact ⟨rs,ds,tl',ol2,by rw [he]; exact h1,h2⟩
-- the shape of most steps: what the machine says is found by reckoning
theorem rs0 (v:AV) (h:Ba (g+k) ⟨some d,gd,q⟩ (Al tl) (Af ol)=some (0,v,[])) (h3:XW P G g (k+1) xs ((d,v) :: tl) ol Kf):XW P G g k (⟨some d,gd,q⟩ :: xs) tl ol Kf:=Xn 0 v [] (Hb h) h3 rfl
theorem rsl (v:AV) (h:Ba (g+k) ⟨some d,gd,q⟩ (Al tl) (Af ol)=some (1,v,[])) (h3:XW P G g (k+1) xs ((d,v) :: tl) ol Kf):XW P G g k (⟨some d,gd,q⟩ :: xs) tl ol Kf:=Xn 1 v [] (Hb h) h3 rfl
theorem rs1 (v:AV) (i:Oid) (o:Ob) (h:Ba (g+k) ⟨some d,gd,q⟩ (Al tl) (Af ol)=some (1,v,[(i,some o)])) (h3:XW P G g (k+1) xs ((d,v) :: tl) ((i,some o) :: ol) Kf) (hx:Ks (some o)=true:=by rfl):XW P G g k (⟨some d,gd,q⟩ :: xs) tl ol Kf:=Xn 1 v _ (Hb h) h3 (by simp only [Fb,List.all_cons,List.all_nil,hx]; rfl)
theorem rs2 (v:AV) (j i:Oid) (o:Ob) (h:Ba (g+k) ⟨some d,gd,q⟩ (Al tl) (Af ol)=some (2,v,[(j,none),(i,some o)])) (h3:XW P G g (k+1) xs ((d,v) :: tl) ((i,some o) :: (j,none) :: ol) Kf) (hx:Ks (some o)=true:=by rfl):XW P G g k (⟨some d,gd,q⟩ :: xs) tl ol Kf:=Xn 2 v _ (Hb h) h3 (by simp only [Fb,List.all_cons,List.all_nil,hx]; rfl)
theorem Afl (j i:Oid) (o:Ob) (h:Ba (g+k) ⟨none,gd,q⟩ (Al tl) (Af ol)=some (2,.any,[(j,none),(i,some o)])) (h3:XW P G g (k+1) xs tl ((i,some o) :: (j,none) :: ol) Kf) (hx:Ks (some o)=true:=by rfl):XW P G g k (⟨none,gd,q⟩ :: xs) tl ol Kf:=Alq 2 _ _ (Hb h) h3 (by simp only [Fb,List.all_cons,List.all_nil,hx]; rfl)
theorem ds0 (v:AV) (h:Ba (g+k) ⟨some d,gd,q⟩ (Al tl) (only (rdX (Al tl) (Af ol) ⟨some d,gd,q⟩) (Af ol))=some (0,v,[])) (h3:XD P G bad g (k+1) xs ((d,v) :: tl) ol ((0,v,[]) :: ra) ((rdX (Al tl) (Af ol) ⟨some d,gd,q⟩) :: da) Kf):XD P G bad g k (⟨some d,gd,q⟩ :: xs) tl ol ra da Kf:=Abq 0 v [] (Hb h) h3 rfl
theorem dsl (v:AV) (h:Ba (g+k) ⟨some d,gd,q⟩ (Al tl) (only (rdX (Al tl) (Af ol) ⟨some d,gd,q⟩) (Af ol))=some (1,v,[])) (h3:XD P G bad g (k+1) xs ((d,v) :: tl) ol ((1,v,[]) :: ra) ((rdX (Al tl) (Af ol) ⟨some d,gd,q⟩) :: da) Kf):XD P G bad g k (⟨some d,gd,q⟩ :: xs) tl ol ra da Kf:=Abq 1 v [] (Hb h) h3 rfl
theorem ds1 (v:AV) (i:Oid) (o:Ob) (h:Ba (g+k) ⟨some d,gd,q⟩ (Al tl) (only (rdX (Al tl) (Af ol) ⟨some d,gd,q⟩) (Af ol))=some (1,v,[(i,some o)])) (h3:XD P G bad g (k+1) xs ((d,v) :: tl) ((i,some o) :: ol) ((1,v,[(i,some o)]) :: ra) ((rdX (Al tl) (Af ol) ⟨some d,gd,q⟩) :: da) Kf) (hx:Ks (some o)=true:=by rfl):XD P G bad g k (⟨some d,gd,q⟩ :: xs) tl ol ra da Kf:=Abq 1 v _ (Hb h) h3 (by simp only [Fb,List.all_cons,List.all_nil,hx]; rfl)
theorem Aca (j i:Oid) (o:Ob) (h:Ba (g+k) ⟨none,gd,q⟩ (Al tl) (only (rdX (Al tl) (Af ol) ⟨none,gd,q⟩) (Af ol))=some (2,.any,[(j,none),(i,some o)])) (h3:XD P G bad g (k+1) xs tl ((i,some o) :: (j,none) :: ol) ((2,.any,[(j,none),(i,some o)]) :: ra) ((rdX (Al tl) (Af ol) ⟨none,gd,q⟩) :: da) Kf) (hx:Ks (some o)=true:=by rfl):XD P G bad g k (⟨none,gd,q⟩ :: xs) tl ol ra da Kf:=Ama 2 _ _ (Hb h) h3 (by simp only [Fb,List.all_cons,List.all_nil,hx]; rfl)
section
variable {fo:Opd} {ys:List Opd} {tys:List (List (Option Ty))} {F:FuncId} {caps:List AV} {rv:RV} {args0:List AV}
theorem E3 (v:AV) (us:List (Oid×Option Ob)) (zs args:List AV) (hgd:Ph gd (Al tl)) (h1:L3 (gnd (Af ol) 8) zs=some args0) (hc:A6 P G F args rv) (hb:A2 P F=true) (h3:XW P G g (k+1) xs ((d,v) :: tl) (us.reverseAux ol) Kf) (hfo:fo.ev (Al tl)=.fn F caps:=by kernel_rfl) (hz:(ys++caps.map Opd.cst).map (Opd.ev (Al tl))=zs:=by kernel_rfl) (hn:Lv tys args0=args:=by kernel_rfl) (hr:rv.out (Ct ((d,0),g+k)) zs=(v,us):=by kernel_rfl) (hx:Fb us=true:=by rfl) (hni:rv.noI=true:=by kernel_rfl):XW P G g k (⟨some d,gd,.call fo ys tys⟩ :: xs) tl ol Kf:=by
 subst hz;exact Xn 1 v us (Aeo (P:=P) (G:=G) (p:=false) (n:=g+k) (d:=some d) hgd hfo h1 hn hb hc hni hr) h3 hx
theorem Fw (v:AV) (us:List (Oid×Option Ob)) (zs args:List AV) (hgd:Ph gd (Al tl)) (h1:L3 (gnd (only (rdX (Al tl) (Af ol) ⟨some d,gd,.call fo ys tys⟩) (Af ol)) 8) zs=some args0) (hc:A6 P G F args rv) (hb:A2 P F=true) (h3:XD P G bad g (k+1) xs ((d,v) :: tl) (us.reverseAux ol) ((1,v,us) :: ra) ((rdX (Al tl) (Af ol) ⟨some d,gd,.call fo ys tys⟩) :: da) Kf) (hfo:fo.ev (Al tl)=.fn F caps:=by kernel_rfl) (hz:(ys++caps.map Opd.cst).map (Opd.ev (Al tl))=zs:=by kernel_rfl) (hn:Lv tys args0=args:=by kernel_rfl) (hr:rv.out (Ct ((d,0),g+k)) zs=(v,us):=by kernel_rfl) (hx:Fb us=true:=by rfl) (hni:rv.noI=true:=by kernel_rfl):XD P G bad g k (⟨some d,gd,.call fo ys tys⟩ :: xs) tl ol ra da Kf:=by
 subst hz;exact Abq 1 v us (Aeo (P:=P) (G:=G) (p:=false) (n:=g+k) (d:=some d) hgd hfo h1 hn hb hc hni hr) h3 hx
def Aes (l:List (Oid×Oid)) (ol us:List (Oid×Ob)) (n:Nat) (ol0:List (Oid×Option Ob)):Bool:=L1 l&&(E1 ol&&(Akn (Bc l) ol&&(Adr ol us&&Jh n ol0)))
theorem Aat {l:List (Oid×Oid)} {ol us:List (Oid×Ob)} {n:Nat} {ol0:List (Oid×Option Ob)} (h:Aes l ol us n ol0=true) (hR:Zg ol0 (Bc l) ol) :
  (∀ q∈exL ol,Af ol0 (Bc l q.1)=some (q.2.ren (Bc l)))∧(∀ q∈exL ol,∀ q'∈exL ol,Bc l q.1=Bc l q'.1->q.1=q'.1)∧(∀ q∈exL us,q.1.2=1∨(q.1.2=0∧q.1∈nmL ol))∧∀ i:Oid,i.2=n->Ar (Hp (Bc l) i ol us) (Af ol0)=Af (Ao (Mg (B0 (Bc l) i) us)++(H6 (Bc l) ol++ol0)):=by
 simp only [Aes,Bool.and_eq_true] at h;obtain ⟨c1,c2,c3,c4,c5⟩:=h;refine ⟨Yu c1 hR (Aay c2),Ai5 (fun p e u xss hm k=>Gl c1 ?_ k) c3 c2,Za c4,fun i hi=>Ah0 c1 c2 hR c4 (by rw [hi]; exact c5) c3⟩;unfold E1 at c2;rw [List.all_eq_true] at c2;have:=c2 _ hm;simp only [Bool.and_eq_true,beq_iff_eq] at this;exact this.1
theorem Dn (v:AV) (ul:List (Oid×Option Ob)) (l:List (Oid×Oid)) (zs:List AV) {args:List AV} {ol0 us:List (Oid×Ob)} {v0:AV} (hgd:Ph gd (Al tl)) (hc:Eg P G F args ol0 v0 us) (hb:A2 P F=true) (hR:Zg ol (Bc l) ol0) (h1:Nc (Bc l) (Sa ((nmL ol0).map (Bc l)) (Af ol)) zs args) (h4:∀ j∈nmL ol0,Reached zs (Af ol) (Bc l j)) (h3:XW P G g (k+1) xs ((d,v) :: tl) (ul++ol) Kf) (hfo:fo.ev (Al tl)=.fn F caps:=by kernel_rfl) (hz:(ys++caps.map Opd.cst).map (Opd.ev (Al tl))=zs:=by kernel_rfl) (hB:Aes l ol0 us (g+k) ol=true:=by kernel_rfl) (hv:v0.ren (B0 (Bc l) ((d,0),g+k))=v:=by kernel_rfl) (hu:Ao (Mg (B0 (Bc l) ((d,0),g+k)) us)++H6 (Bc l) ol0=ul:=by kernel_rfl):XW P G g k (⟨some d,gd,.call fo ys tys⟩ :: xs) tl ol Kf:=by
 subst hv hu;obtain ⟨q1,q2,q3,q4⟩:=Aat hB hR;exact Ac9 2 _ _ _ (Aex (n:=g+k) (d:=some d) (Bc l) hgd hfo hz h1 q1 q2 h4 q3 hb hc) (q4 ((d,0),g+k) rfl) (by rw [List.append_assoc] at h3; exact h3)
theorem S6 (v:AV) (ul:List (Oid×Option Ob)) (l:List (Oid×Oid)) (zs:List AV) {args:List AV} {ol0 us:List (Oid×Ob)} {v0:AV} (hgd:Ph gd (Al tl)) (hc:Eg P G F args ol0 v0 us) (hb:A2 P F=true) (hR:Zg ol (Bc l) ol0) (h1:Nc (Bc l) (Sa ((nmL ol0).map (Bc l)) (only (rdX (Al tl) (Af ol) ⟨some d,gd,.call fo ys tys⟩) (Af ol))) zs args) (h4:∀ j∈nmL ol0,Reached zs (only (rdX (Al tl) (Af ol) ⟨some d,gd,.call fo ys tys⟩) (Af ol)) (Bc l j)) (hd:∀ q∈exL ol0,Bc l q.1∈rdX (Al tl) (Af ol) ⟨some d,gd,.call fo ys tys⟩) (h3:XD P G bad g (k+1) xs ((d,v) :: tl) (ul++ol) ((2,v,Hp (Bc l) ((d,0),g+k) ol0 us) :: ra) ((rdX (Al tl) (Af ol) ⟨some d,gd,.call fo ys tys⟩) :: da) Kf) (hfo:fo.ev (Al tl)=.fn F caps:=by kernel_rfl) (hz:(ys++caps.map Opd.cst).map (Opd.ev (Al tl))=zs:=by kernel_rfl) (hB:Aes l ol0 us (g+k) ol=true:=by kernel_rfl) (hv:v0.ren (B0 (Bc l) ((d,0),g+k))=v:=by kernel_rfl) (hu:Ao (Mg (B0 (Bc l) ((d,0),g+k)) us)++H6 (Bc l) ol0=ul:=by kernel_rfl):XD P G bad g k (⟨some d,gd,.call fo ys tys⟩ :: xs) tl ol ra da Kf:=by
 subst hv hu;obtain ⟨q1,q2,q3,q4⟩:=Aat hB hR;exact Agm 2 _ _ _ (Aex (n:=g+k) (d:=some d) (Bc l) hgd hfo hz h1 (fun q hq=>by unfold only; rw [if_pos (hd q hq)]; exact q1 q hq) q2 h4 q3 hb hc) (q4 ((d,0),g+k) rfl) (by rw [List.append_assoc] at h3; exact h3)
end
end
-- what arguments read as
theorem Ck {g:AV->Option AV}:L3 g []=some []:=rfl
theorem Au {g:AV->Option AV} {c d:AV} {cs ds:List AV} (h:g c=some d) (hs:L3 g cs=some ds):L3 g (c :: cs)=some (d :: ds):=by simp only [L3,h,hs]
section
variable {ob:Oid->Option Ob} {n:Nat}
theorem Qa {i:Oid} {t u:Ty} {e:TypeId} {xs:List u.D} {len:Nat} (h:ob i=some (.arr e u xs)) (hl:len=xs.length):gnd ob (n+1) (.own i t 0 len)=some (.tree u xs):=by
 subst hl;simp only [gnd,h,Nat.zero_add,Nat.le_refl,if_true,List.drop_zero,List.take_length]
theorem H9 {cs ds:List AV} (h:L3 (gnd ob n) cs=some ds):gnd ob (n+1) (.agg cs)=some (.agg ds):=by simp only [gnd,h,Option.map_some]
end
-- steps that hang on something
section
variable {n:Nat} {d:Option Nat} {f:Nat->AV} {ob:Oid->Option Ob}
theorem Lp {s:Nat} {b c:Bool} {q:Q} {r:Option Rec} (hs:f s=.bool c) (hc:c=b) (h:Ba n ⟨d,none,q⟩ f ob=r):Ba n ⟨d,some (s,b),q⟩ f ob=r:=by
 subst hc;simp only [Ba,hs,gdv,beq_self_eq_true]; exact h
theorem Fg {s:Nat} {b c:Bool} {q:Q} (hs:f s=.bool c) (hc:c= !b):Ba n ⟨d,some (s,b),q⟩ f ob=some (0,.tup [],[]):=by
 subst hc;cases b <;> simp [Ba,hs,gdv]
theorem Aj7 {c x y:Opd} {b:Bool} (h:c.ev f=.bool b) (hb:b=true):Ba n ⟨d,none,.i (.pick c x y)⟩ f ob=some (0,x.ev f,[]):=by
 subst hb; simp [Ba,ev,evN,h]
theorem Ajj {c x y:Opd} {b:Bool} (h:c.ev f=.bool b) (hb:b=false):Ba n ⟨d,none,.i (.pick c x y)⟩ f ob=some (0,y.ev f,[]):=by
 subst hb; simp [Ba,ev,evN,h]
theorem Alt {sz:Nat} {x i:Opd} {t:Ty} {xs:List t.D} {y:t.D} {k:IntKind} {m:Int} {j:Nat} (hx:(x.ev f).un=.tree t xs) (hi:i.ev f=.int k m) (hs:sz=t.size) (h0:0<=m) (hj:m.toNat=j) (hy:xs[j]? =some y) {g:Option (Nat->Prop)} (hg:(x.ev f).tag=g:=by kernel_rfl):Ba n ⟨d,none,.i (.idx sz x i)⟩ f ob=some (0,.telt g t y 0,[]):=by
 subst hs hj hg;simp [Ba,ev,evN,hx,hi,h0,hy]
theorem Alz {sz:Nat} {x i:Opd} {t:Ty} {o:Oid} {len:Nat} {k:IntKind} {m:Int} {j:Nat} (hx:x.ev f=.own o t 0 len) (hi:i.ev f=.int k m) (hs:sz=t.size) (h0:0<=m) (hj:m.toNat=j) (hl:j<len):Ba n ⟨d,none,.i (.idx sz x i)⟩ f ob=some (0,.elt o j 0,[]):=by
 subst hs hj;have:m<(len:Int):=by omega
 simp [Ba,ev,evN,hx,hi,h0,AV.un,this]
theorem Aly {sz:Nat} {x i:Opd} {t:Ty} {o:Oid} {off len:Nat} {k:IntKind} {m:Int} {j:Nat} (hx:x.ev f=.own o t off len) (hi:i.ev f=.int k m) (hs:sz=t.size) (h0:0<=m) (hj:off+m.toNat=j) (hl:m.toNat<len):Ba n ⟨d,none,.i (.idx sz x i)⟩ f ob=some (0,.elt o j 0,[]):=by
 subst hs hj;have:m<(len:Int):=by omega
 simp [Ba,ev,evN,hx,hi,h0,AV.un,this]
theorem Ip {one:Bool} {m:Nat} {x:Opd} {i:Oid} {j k:Nat} {e:TypeId} {t:Ty} {xs:List t.D} {y:t.D} {c:AV} (hx:x.ev f=.elt i j k) (hob:ob i=some (.arr e t xs)) (hy:xs[j]? =some y) (hc:Db one m k (t.av y)=some c):Ba n ⟨d,none,.i (.ld one m x)⟩ f ob=some (1,c,[]):=by
 simp [Ba,ev,evN,evR,hx,hob,hy,hc]
theorem Tl {one:Bool} {m:Nat} {x y:Opd} {i:Oid} {j k:Nat} {e:TypeId} {t:Ty} {xs:List t.D} {x0 x1:t.D} {cs:List AV} (hx:x.ev f=.elt i j k) (hob:ob i=some (.arr e t xs)) (hy:xs[j]? =some x0) (hc:Ji one m k (t.av x0) (y.ev f)=some cs) (hd:t.ofAV cs=some x1):Ba n ⟨d,none,.st one m x y⟩ f ob=some (2,.any,[(i,none),(i,some (.arr e t (xs.set j x1)))]):=by
 simp [Ba,ev,Y2,hx,hob,hy,hc,hd]
theorem Ahi {e:TypeId} {t:Ty} {by_:Nat} {l c:Opd} {k k':IntKind} {m m':Int} {j:Nat} (hl:l.ev f=.int k m) (hc:c.ev f=.int k' m') (h:0<=m∧m<=m'∧m'<=1073741824∧(by_:Int)*m'<=140737488355328) (hj:m.toNat=j):Ba n ⟨d,none,.make e t by_ l c⟩ f ob=some (1,.own ((d.getD 0,0),n) t 0 j,[(((d.getD 0,0),n),some (.arr e t (List.replicate j t.dflt)))]):=by
 subst hj;simp only [Ba,ev,Tc,hl,hc,if_pos h]
theorem Aih {t t':Ty} {i:Oid} {e:TypeId} {xs:List t.D} {len:Nat} (h:ob i=some (.arr e t xs)) (hl:len=xs.length):Ej ob t (.own i t' 0 len)=some xs:=by
 subst hl;simp only [Ej,h,Nat.zero_add,Nat.le_refl,if_true,Ty.eq?_self,Cq,List.drop_zero,List.take_length]
theorem Ad0 {t:Ty} {xs:List t.D}:Ej ob t (.tree t xs)=some xs:=by simp only [Ej,Ty.eq?_self,Cq]
theorem Yz {e:TypeId} {t t':Ty} {by_:Nat} {x y:Opd} {c:AV} {ys xs zs:List t.D} {j:Oid} {len:Nat} (hx:x.ev f=.own j t' 0 len) (hob:ob j=some (.arr e t xs)) (hl:len=xs.length) (hy:y.ev f=c) (hs:Ej ob t c=some ys) (hz:zs=xs++ys) (h:xs.length+ys.length<=1073741824∧(xs.length+ys.length)*by_<=140737488355328) :
  Ba n ⟨d,none,.append e t by_ x y⟩ f ob=some (2,.own (j.1,n) t 0 zs.length,[(j,none),((j.1,n),some (.arr e t zs))]):=by
 subst hl hz;simp only [Ba,ev,Hi,hx,hy,hs,hob,Ty.eq?_self,Nat.le_refl,true_and,h.1,h.2,and_self,if_true,Cq,List.take_length,List.length_append]
theorem Aim {sz:Nat} {x:Opd} {lo hi:Option Opd} {t:Ty} {i:Oid} {off len o' j:Nat} {l h:Int} (hx:x.ev f=.own i t off len) (hl:C8 f 0 lo=some l) (hh:C8 f len hi=some h) (hs:t.size=sz) (hb:0<=l∧l<=h∧h<=len) (ho:off+l.toNat=o') (hj:(h - l).toNat=j) :
  Ba n ⟨d,none,.slice sz x lo hi none⟩ f ob=some (0,.own i t o' j,[]):=by
 subst hs ho hj;simp only [Ba,ev,My,hx,AV.un,hl,hh,true_and,hb.1,hb.2.1,hb.2.2,and_self,if_true]
theorem Al7 {x y:Opd} {j:Nat} (hx:x.ev f=.int .i64 j) (hy:y.ev f=.int .i64 1) (h:j+1<4611686018427387904):Ba n ⟨d,none,.i (.bin .add x y)⟩ f ob=some (0,.int .i64 ((j+1:Nat):Int),[]):=by
 have:IntKind.i64.wrap ((j:Int)+1)=((j+1:Nat):Int):=by rw [Go.IntWalk.i64_in _ (by omega)]; rfl
 simp [Ba,ev,evN,Ul,hx,hy,this]
theorem Amv {x y:Opd} {k:IntKind} {a b:Int} (hx:x.ev f=.int k a) (hy:y.ev f=.int k b) (h:b≠0):Ba n ⟨d,none,.i (.bin .quo x y)⟩ f ob=some (0,.int k (k.wrap (a.tdiv b)),[]):=by
 simp [Ba,ev,evN,Ul,hx,hy,h]
theorem Lr {x y:Opd} {k:IntKind} {a b:Int} (hx:x.ev f=.int k a) (hy:y.ev f=.int k b) (h:b≠0):Ba n ⟨d,none,.i (.bin .rem x y)⟩ f ob=some (0,.int k (a.tmod b),[]):=by
 simp [Ba,ev,evN,Ul,hx,hy,h]
end
theorem Ag {c:Opd} {x y:AC} {R:AE->St->Prop} {S:St} {t:Bool} (ht:t=true) (h1:awp P G x R S) (h:c.ev S.tm=.bool t:=by kernel_rfl):awp P G (.cond c x y) R S:=by
 subst ht; exact .inl ⟨true,h,fun _=>h1,fun h=>(nomatch h)⟩
theorem Ah {c:Opd} {x y:AC} {R:AE->St->Prop} {S:St} {t:Bool} (ht:t=false) (h2:awp P G y R S) (h:c.ev S.tm=.bool t:=by kernel_rfl):awp P G (.cond c x y) R S:=by
 subst ht; exact .inl ⟨false,h,fun h=>(nomatch h),fun _=>h2⟩
theorem Ai {i:Nat} {a:AC} {R:AE->St->Prop} {S:St} (h:awp P G a (G9 i R) S):awp P G (.block i a) R S:=h
theorem Afd {a:AC} {R:AE->St->Prop} {S:St} {α:Type} (I:α->St->Prop) (μ:α->Nat) (h0:∃ s S0,WeakG G S S0∧I s S0) (h1:∀ s S1,I s S1->awp P G a (Ik (fun S2=>∃ s' S3,WeakG G S2 S3∧I s' S3∧μ s'<μ s) R) S1):awp P G (.loop a) R S:=⟨α,I,μ,h0,h1⟩
theorem Ax {i:Nat} {R:AE->St->Prop} {S:St} (h:R (.exit i) S):awp P G (.exit i) R S:=h
theorem Aj {R:AE->St->Prop} {S:St} (h:R .normal S):awp P G .skip R S:=h
theorem Ak {R:AE->St->Prop} {S:St} (h:R .ret S):awp P G .ret R S:=h
end
section
variable {K:St->Prop} {R:AE->St->Prop} {S:St} {i j:Nat}
theorem tn_ (h:K S):Ik K R .normal S:=h
theorem te_ (h:R (.exit i) S):Ik K R (.exit i) S:=h
theorem tr_ (h:R .ret S):Ik K R .ret S:=h
theorem bn_ (h:R .normal S):G9 i R .normal S:=h
theorem be_ (h:R .normal S):G9 i R (.exit i) S:=by simpa [G9] using h
theorem br_ (h:R .ret S):G9 i R .ret S:=h
end
def tmL:Nat->List AV->List (Nat×AV)
 | _,[]=>[]
 | k,v :: r=>(k,v) :: tmL (k+1) r
theorem Aag:∀ (l:List AV) (k i:Nat),Al (tmL k l) (k+i)=l.getD i .any
 | [],k,i=>by simp [tmL,Al]
 | v :: r,k,i=>by
  cases i with
  | zero=>simp [tmL,Al]
  | succ i =>
   have:=Aag r (k+1) i;simp only [tmL,Al];rw [if_neg (by omega),show k+(i+1)=k+1+i by omega,this];simp
theorem Afa (args:List AV):(fun i=>args.getD i .any)=Al (tmL 0 args):=by
 funext i;have:=Aag args 0 i;rw [Nat.zero_add] at this;exact this.symm
theorem St.init_eq (args:List AV):St.init args=⟨Al (tmL 0 args),Af [],1⟩:=by
 unfold St.init;rw [Afa];rfl
theorem Agb {G:World->Prop} {tl:List (Nat×AV)} {ol:List (Oid×Option Ob)} {g:Nat} (s:Nat) (e:TypeId) (t:Ty) (ht:t.flat=true) (hs:Al tl s=.nils):WeakG G ⟨Al tl,Af ol,g⟩ ⟨Al ((s,.own ((s,0),g) t 0 0) :: tl),Af ((((s,0),g),some (.arr e t [])) :: ol),g+1⟩:=by
 have:=Aiy (G:=G) (S:=⟨Al tl,Af ol,g⟩) s e t ht hs;rw [Lt] at this;have e2:upd (Af ol) ((s,0),g) (some (.arr e t []))=Af ((((s,0),g),some (.arr e t [])) :: ol):=Hd rfl;rw [e2] at this;exact this
theorem Bn {G:World->Prop} {tl:List (Nat×AV)} {ol:List (Oid×Option Ob)} {g:Nat} (s:Nat) (v v':AV) (h:Al tl s=v) (e:v=v'):WeakG G ⟨Al tl,Af ol,g⟩ ⟨Al ((s,v') :: tl),Af ol,g⟩:=by
 subst e
 have:Al ((s,v) :: tl)=Al tl:=by
  funext i;simp only [Al];split
  ·rename_i e; rw [e]; exact h.symm
  ·rfl
 rw [this]; exact WeakG.refl _
theorem Ke {G:World->Prop} {tl:List (Nat×AV)} {ol:List (Oid×Option Ob)} {g:Nat} (j:Oid) (o o':Ob) (h:Af ol j=some o) (e:o=o') (hx:Ks (some o)=true:=by rfl):WeakG G ⟨Al tl,Af ol,g⟩ ⟨Al tl,Af ((j,some o') :: ol),g⟩:=by
 subst e
 have:Af ((j,some o) :: ol)=Af ol:=by
  rw [← Hd hx,Ahd _ _ _ h]
 rw [this]; exact WeakG.refl _
theorem Te {G:World->Prop} {tl:List (Nat×AV)} {ol:List (Oid×Option Ob)} {g:Nat} (s:Nat) (e:TypeId) (t:Ty) (hs:Al tl s=.nils):WeakG G ⟨Al tl,Af ol,g⟩ ⟨Al ((s,.own ((s,0),g) t 0 0) :: tl),Af ((((s,0),g),some (.vec e 1 0 [])) :: ol),g+1⟩:=by
 have:=Afs (G:=G) (S:=⟨Al tl,Af ol,g⟩) s e t hs;rw [Lt] at this;have e2:upd (Af ol) ((s,0),g) (some (.vec e 1 0 []))=Af ((((s,0),g),some (.vec e 1 0 [])) :: ol):=Hd rfl;rw [e2] at this;exact this
theorem Sj {G:World->Prop} {tl:List (Nat×AV)} {ol:List (Oid×Option Ob)} {g:Nat} (s:Nat) (c:Oid) (k:Nat) (ty:TypeId) (cs ds:List AV) (e:TypeId) (t:Ty) (hb:Af ol c=some (.cells ty cs)) (hk:cs[k]? =some .nils) (hd:cs.set k (.own ((s,0),g) t 0 0)=ds) :
  WeakG G ⟨Al tl,Af ol,g⟩ ⟨Al tl,Af ((c,some (.cells ty ds)) :: (((s,0),g),some (.vec e 1 0 [])) :: ol),g+1⟩:=by
 subst hd;have:=Vt (G:=G) (S:=⟨Al tl,Af ol,g⟩) s c k ty cs e t hb hk;have e2:upd (upd (Af ol) ((s,0),g) (some (.vec e 1 0 []))) c (some (.cells ty (cs.set k (.own ((s,0),g) t 0 0))))=Af ((c,some (.cells ty (cs.set k (.own ((s,0),g) t 0 0)))) :: (((s,0),g),some (.vec e 1 0 [])) :: ol):=by rw [Hd rfl,Hd rfl]
 rw [← e2];exact this
def Ala (ol us:List (Oid×Ob)) (args:List AV) (v:AV):Bool :=
 (E1 ol&&(E1 us&&((ol.all fun q=>q.1.2==0)&&((us.all fun q=>q.1.2==1||(!q.2.isPool&&(Bi ol).contains q.1))&&(ndB (Bi us)&&ndB (Bk us))))))&&((ol.all fun q=>q.2.clo1 (Bi ol))&&((us.all fun q=>q.2.hp1 (Bi us))&&(AV.cloL (Bi ol) args&&AV.hpB (Bi us) v)))
def Zx (ol:List (Oid×Ob)):List (Oid×Ob)->Prop
 | []=>True
 | q :: r=>(match q.2 with
  | .mat _ p u xss=>∃ e,(p,Ob.pool e u xss)∈ol
  | _=>True)∧Zx ol r
theorem N0 {ol:List (Oid×Ob)}:∀ {l:List (Oid×Ob)},Zx ol l->∀ i e p u xss,(i,Ob.mat e p u xss)∈l->∃ e,(p,Ob.pool e u xss)∈ol
 | _ :: _,h,i,e,p,u,xss,hm=>by
  rcases List.mem_cons.1 hm with rfl | hm
  ·exact h.1
  ·exact N0 h.2 i e p u xss hm
theorem Ad4 {ol:List (Oid×Ob)} {p:Oid} {e:TypeId} {u:Ty} {xss:List (List u.D)}:(p,Ob.pool e u xss)∈ol->∀ k,k<xss.length->kid p k∈nmL ol:=by
 induction ol with
 | nil=>intro h; cases h
 | cons x r ih =>
  obtain ⟨x1,x2⟩:=x;intro h k hk;rcases List.mem_cons.1 h with h | h
  ·cases h;simp only [nmL,exL,List.map_append,List.mem_append];refine .inl (List.mem_map.2 ⟨(kid p k,.arr e u xss[k]),List.mem_map.2 ⟨(xss[k],k),?_,rfl⟩,rfl⟩);rw [List.mem_zipIdx_iff_getElem?]; exact gEg hk
  ·have:=ih h k hk;cases x2 <;> simp only [nmL,exL,List.map_cons,List.map_append] at this⊢ <;> first | exact List.mem_cons_of_mem _ this | exact List.mem_append_right _ this
theorem Lz {ol:List (Oid×Ob)} {i:Oid} (h:i∈Bi ol):i∈nmL ol:=by
 obtain ⟨o,ho,hp⟩:=Ag5 h;exact List.mem_map.2 ⟨_,Sx ho hp,rfl⟩
theorem Amc {D:Oid->Prop} {p:Oid} {u:Ty} (xss:List (List u.D)) (h:∀ k,k<xss.length->D (kid p k)):AV.hpL D (hdL p u xss):=by
 have key:∀ l:List (List u.D×Nat),(∀ x∈l,D (kid p x.2))->AV.hpL D (l.map fun x=>.own (kid p x.2) u 0 x.1.length):=by
  intro l
  induction l with
  | nil=>intro _; trivial
  | cons x l ih=>intro h; exact ⟨h x (by simp),ih fun y hy=>h y (by simp [hy])⟩
 refine key _ fun x hx=>h _ ?_
 obtain ⟨row,k⟩:=x;rw [List.mem_zipIdx_iff_getElem?] at hx;exact (gSi.1 hx).1
theorem Al5 {D:List Oid} (o:Ob) (h:o.clo1 D=true) (hp:o.isPool=false) (hm:∀ e p u xss,o≠.mat e p u xss):o.exp.cloP (·∈D):=by
 cases o with
 | cells _ cs=>exact AV.cloPL_of cs h
 | vec _ _ _ cs=>exact AV.cloPL_of cs h
 | mat e p u xss=>exact absurd rfl (hm _ _ _ _)
 | arr _ _ _=>trivial
 | map _ _ _=>trivial
 | pool _ _ _=>cases hp
 | tv e m t xs=>exact Acv xs
theorem Amm {D:List Oid} (o:Ob) (h:o.hp1 D=true) (hp:o.isPool=false) (hm:∀ e p u xss,o≠.mat e p u xss):o.exp.hp (·∈D):=by
 cases o with
 | cells _ cs=>exact AV.hpB_PL cs h
 | vec _ _ _ cs=>exact AV.hpB_PL cs h
 | mat e p u xss=>exact absurd rfl (hm _ _ _ _)
 | arr _ _ _=>trivial
 | map _ _ _=>trivial
 | pool _ _ _=>cases hp
 | tv e m t xs=>cases h
theorem cloP_mono {D E:Oid->Prop} (hd:∀ i,D i->E i) (o:Ob) (h:o.cloP D):o.cloP E:=by
 cases o <;> first | exact AV.cloPL_mono hd _ h | exact h
theorem hp_mono {D E:Oid->Prop} (hd:∀ i,D i->E i) (o:Ob) (h:o.hp D):o.hp E:=by
 cases o <;> first | exact AV.hpL_mono hd _ h | exact h
section
variable {P:Program} {G:World->Prop} (hfol:P.follows .mixedOrders=true) {g:FuncId} {fn:Func} (hf:P.funcs[g]? =some fn) {ac:AC} {rs:List Res} (hc:Ap P fn=some (ac,rs)) {args:List AV} {r:RV} {n:Nat} (hN:fn.ntmps=n) (hn:args.length<=n)
include hfol hf hc hN hn
theorem A5 [IsP P] {tl:List (Nat×AV)} (htl:tmL 0 args=tl) (h:awp P G ac (fun e S=>∃ S',WeakG G S S'∧(e=.normal∨e=.ret)∧RetOK [] rs S' r) ⟨Al tl,Af [],1⟩):A6 P G g args r:=by
 refine Akm hfol hf hc hN hn ?_;rw [St.init_eq,htl];exact h
omit hN hn in
theorem Cn [IsP P] (hN:fn.ntmps=n) (hn:args.length<=n) {tl:List (Nat×AV)} (htl:tmL 0 args=tl) {ol us:List (Oid×Ob)} {v:AV} (hB:Ala ol us args v=true) (hm1:Zx ol ol) (hm2:Zx us us)
  (h:awp P G ac (fun e S=>∃ S',WeakG G S S'∧(e=.normal∨e=.ret)∧(∃ rvs,Res.evL S'.tm S'.ob rs=some rvs∧v=Aaq rvs)∧∀ q∈exL us,S'.ob q.1=some q.2) ⟨Al tl,Af (Ao ol),1⟩):Eg P G g args ol v us:=by
 simp only [Ala,Bool.and_eq_true] at hB;obtain ⟨⟨a1,a2,a3,a4,a5,a6⟩,b1,b2,b3,b4⟩:=hB;rw [List.all_eq_true] at a3 a4 b1 b2
 have h0:∀ {l:List (Oid×Ob)},E1 l=true->∀ q∈l,q.1.1.2=0:=fun h q hq=>by
  unfold E1 at h;rw [List.all_eq_true] at h;have:=h q hq;simp only [Bool.and_eq_true,beq_iff_eq] at this;exact this.1
 refine Agh hfol hf hc hN hn (fun q hq=>?_) (Ah4 (Et a5) (Et a6) (h0 a2)) (fun q hq=>?_) (AV.cloPL_mono (fun i hi=>Lz hi) _ (AV.cloPL_of args b3)) (AV.hp_mono (fun i hi=>Lz hi) _ (AV.hpB_P v b4)) ?_
 ·rcases Fo hq with ⟨p,e,u,xss,k,row,m1,m2,rfl⟩ | ⟨o,m1,m2,m3⟩
  ·have:=a3 _ m1;rw [beq_iff_eq] at this;exact ⟨this,trivial⟩
  ·have:=a3 _ m1;refine ⟨by simpa using this,?_⟩;rw [m3];by_cases hmt:∃ e p u xss,o=.mat e p u xss
   ·obtain ⟨e,p,u,xss,rfl⟩:=hmt;obtain ⟨e',hp⟩:=N0 hm1 _ _ _ _ _ m1;exact Ahn xss fun k hk=>Ad4 hp k hk
   ·exact cloP_mono (fun i hi=>Lz hi) _ (Al5 o (b1 _ m1) m2 fun e p u xss h=>hmt ⟨e,p,u,xss,h⟩)
 ·rcases Fo hq with ⟨p,e,u,xss,k,row,m1,m2,rfl⟩ | ⟨o,m1,m2,m3⟩
  ·have:=a4 _ m1;simp only [Ob.isPool,Bool.not_true,Bool.false_and,Bool.or_false,beq_iff_eq] at this;exact ⟨.inl this,trivial⟩
  ·have:=a4 _ m1;simp only [Bool.or_eq_true,Bool.and_eq_true,beq_iff_eq] at this;refine ⟨this.imp id fun h=>Lz (List.contains_iff_mem.1 h.2),?_⟩;rw [m3];by_cases hmt:∃ e p u xss,o=.mat e p u xss
   ·obtain ⟨e,p,u,xss,rfl⟩:=hmt;obtain ⟨e',hp⟩:=N0 hm2 _ _ _ _ _ m1;exact Amc xss fun k hk=>Ad4 hp k hk
   ·exact hp_mono (fun i hi=>Lz hi) _ (Amm o (b2 _ m1) m2 fun e p u xss h=>hmt ⟨e,p,u,xss,h⟩)
 ·rw [Afa,htl];exact h
end
theorem Bl {G:World->Prop} {rs:List Res} {f:Nat->AV} {ob:Oid->Option Ob} {g:Nat} {r:RV} (avs:List AV) {vs:List Value} {e:AE} (h2:PartsR vs ob avs r.ps) (he:e=.normal∨e=.ret:=by simp) (h1:Res.evL f ob rs=some avs:=by kernel_rfl) (h3:ndB (V5 ob (Pi avs))=true:=by kernel_rfl) (h4:r.tup=decide (rs.length≠1):=by kernel_rfl):∃ S',WeakG G ⟨f,ob,g⟩ S'∧(e=.normal∨e=.ret)∧RetOK vs rs S' r :=
 ⟨_,WeakG.refl _,he,avs,r.ps,h1,h2,Et h3,by cases r; cases h4; rfl⟩
theorem Gq {G:World->Prop} {rs:List Res} {S:St} {tl:List (Nat×AV)} {g:Nat} {v:AV} {us:List (Oid×Ob)} {e:AE} (rvs:List AV) (hw:WeakG G S ⟨Al tl,Af (Ao us),g⟩) (he:e=.normal∨e=.ret:=by simp) (h1:Res.evL (Al tl) (Af (Ao us)) rs=some rvs:=by kernel_rfl) (hv:v=Aaq rvs:=by kernel_rfl) (h2:(E1 us&&(ndB (Bi us)&&ndB (Bk us)))=true:=by kernel_rfl) :
  ∃ S',WeakG G S S'∧(e=.normal∨e=.ret)∧(∃ rvs,Res.evL S'.tm S'.ob rs=some rvs∧v=Aaq rvs)∧∀ q∈exL us,S'.ob q.1=some q.2:=by
 refine ⟨_,hw,he,⟨rvs,h1,hv⟩,fun q hq=>?_⟩;simp only [Bool.and_eq_true] at h2;obtain ⟨a1,a2,a3⟩:=h2
 have h0:∀ q∈us,q.1.1.2=0:=fun q hq=>by
  unfold E1 at a1;rw [List.all_eq_true] at a1;have:=a1 q hq;simp only [Bool.and_eq_true,beq_iff_eq] at this;exact this.1
 have:=K6 (rest:=[]) (Et a2) (Et a3) (fun p hp=>by obtain ⟨e,u,xss,hm⟩:=Al0 hp; exact h0 _ hm) (fun i hi p hp k e=>by
  obtain ⟨o,ho,_⟩:=Ag5 hi;have:=h0 _ ho;rw [e] at this;simp [kid] at this) q hq
 rwa [List.append_nil] at this
section
variable {vs:List Value} {ob:Oid->Option Ob}
theorem A7 {c:AV} {r:List AV} {l:RL} {ps:List (Bool×List RL)} (hc:c.one=true) (h1:LeafR vs ob c l) (h2:PartsR vs ob r ps):PartsR vs ob (c :: r) ((false,[l]) :: ps):=by
 rw [Kq (by rintro ⟨_,rfl⟩; cases hc)];exact ⟨l,ps,rfl,h1,h2⟩
theorem A8:PartsR vs ob [] []:=rfl
theorem Amy {c:AV} {l:RL} (h:Oc ob c=some l):LeafR vs ob c l:=.inl (.inl h)
theorem Xz {i:Oid} {t u:Ty} {e:TypeId} {xs:List u.D} {len:Nat} (h:ob i=some (.arr e u xs)) (hl:len=xs.length):LeafR vs ob (.own i t 0 len) (.new e u xs):=by
 subst hl;exact .inl (.inl (by simp only [Oc,h,Nat.le_refl,and_self,if_true,List.take_length]))
end
end
section
open Go.RowKit Go.Deep
abbrev tm (n:Nat):Opd:=.tmp n
abbrev cb (b:Bool):Opd:=.cst (.bool b)
abbrev ci (n:Int):Opd:=.cst (.int .i64 n)
abbrev xo (d:Nat) (q:Q):X:=⟨some d,none,q⟩
abbrev xn (q:Q):X:=⟨none,none,q⟩
abbrev qm (x:Opd):Q:=.i (.mov x)
abbrev ql (x:Opd):Q:=.i (.ld true 1 x)
abbrev qs (x y:Opd):Q:=.st true 1 x y
abbrev qf (k:Nat) (x:Opd):Q:=.i (.fld k x)
abbrev qb (o:BinOp) (x y:Opd):Q:=.i (.bin o x y)
abbrev qx (sz:Nat) (x y:Opd):Q:=.i (.idx sz x y)
abbrev qc (f:FuncId) (xs:List Opd) (tys:List (List (Option Ty))):Q:=.call (.cst (.fn f [])) xs tys
abbrev rg (xs:List X):AC:=.region xs false []
abbrev ai (n:Int):AV:=.int .i64 n
abbrev oi (a b:Nat):Oid:=((a,0),b)
def Ale (d:Option Nat) (v:AV) (tl:List (Nat×AV)):List (Nat×AV) :=
 match d with
 | some d=>(d,v) :: tl
 | none=>tl
theorem Al2 (d:Option Nat) (v:AV) (tl:List (Nat×AV)):Ih d v (Al tl)=Al (Ale d v tl):=by
 cases d with
 | none=>rfl
 | some d=>simp only [Ih,Ale,Lt]
noncomputable def Zd (g:Nat):Nat->Nat->List X->List (Nat×AV)->List (Oid×Option Ob)->Option (List (Nat×AV)×List (Oid×Option Ob))
 | 0,_,_,tl,ol=>some (tl,ol)
 | _+1,_,[],_,_=>none
 | n+1,k,x :: xs,tl,ol=>match Ba (g+k) x (Al tl) (Af ol) with
  | some (_,v,us)=>if Fb us then Zd g n (k+1) xs (Ale x.dst v tl) (us.reverseAux ol) else none
  | none=>none
theorem Amo {P:Program} {G:World->Prop} {g:Nat} {Kf:List (Nat×AV)->List (Oid×Option Ob)->Prop}:∀ (n k:Nat) (xs:List X) (tl:List (Nat×AV)) (ol:List (Oid×Option Ob)) (r:List (Nat×AV)×List (Oid×Option Ob)),Zd g n k xs tl ol=some r->XW P G g (k+n) (xs.drop n) r.1 r.2 Kf->XW P G g k xs tl ol Kf
 | 0,k,xs,tl,ol,r,h,hk=>by
  obtain rfl:=osj h;exact hk
 | n+1,k,[],tl,ol,r,h,hk=>by cases h
 | n+1,k,x :: xs,tl,ol,r,h,hk=>by
  simp only [Zd] at h;split at h
  ·rename_i c v us hst;split at h
   ·rename_i hx;obtain ⟨rs,tl',ol',h1,h2⟩:=Amo (P:=P) (G:=G) n (k+1) xs _ _ r h (by rw [show k+1+n=k+(n+1) by omega]; exact hk);exact ⟨(c,v,us) :: rs,tl',ol',⟨_,_,rfl,Hb hst,by rw [Al2,Gg _ _ hx]; exact h1⟩,h2⟩
   ·cases h
  ·cases h
theorem rsB {P:Program} {G:World->Prop} {g k:Nat} {xs:List X} {tl:List (Nat×AV)} {ol:List (Oid×Option Ob)} {Kf:List (Nat×AV)->List (Oid×Option Ob)->Prop} (n:Nat) (hk:XW P G g (k+n) (xs.drop n) ((Zd g n k xs tl ol).getD ([],[])).1 ((Zd g n k xs tl ol).getD ([],[])).2 Kf) (h:(Zd g n k xs tl ol).isSome=true:=by kernel_rfl):XW P G g k xs tl ol Kf:=by
 obtain ⟨r,hr⟩:=Option.isSome_iff_exists.1 h;rw [hr] at hk;exact Amo n k xs tl ol r hr hk
theorem Am {P:Program} {G:World->Prop} {g:Nat} {xs:List X} {bad:List (Nat×Nat)} {y:AC} {R:AE->St->Prop} {tl:List (Nat×AV)} {ol:List (Oid×Option Ob)} (h:awp P G y R ⟨Al ((Zd g xs.length 0 xs tl ol).getD ([],[])).1,Af ((Zd g xs.length 0 xs tl ol).getD ([],[])).2,g+xs.length⟩) (hs:(Zd g xs.length 0 xs tl ol).isSome=true:=by kernel_rfl):awp P G (.seq (.region xs false bad) y) R ⟨Al tl,Af ol,g⟩:=by
 refine Ab (Aa (g+xs.length) (rsB xs.length (by rw [List.drop_length]; exact As (tn_ ⟨_,WeakG.refl _,h⟩)) hs) rfl)
theorem Xt {i:Oid} {ob:Oid->Option Ob}:only [i] ob i=ob i:=if_pos (List.mem_singleton.2 rfl)
section
variable {n:Nat} {d:Option Nat} {f:Nat->AV} {ob:Oid->Option Ob} {ol:List (Oid×Option Ob)}
theorem Eo {x:Opd} {o p:Oid} {e1:TypeId} {u:Ty} {xss:List (List u.D)} {row:List u.D} {j:Nat} (hx:x.ev f=.elt o j 0) (hob:ob o=some (.vec e1 1 xss.length (hdL p u xss))) (hr:xss[j]? =some row):Ba n ⟨d,none,.i (.ld true 1 x)⟩ f ob=some (1,.own (kid p j) u 0 row.length,[]):=by
 have h:(hdL p u xss)[j*1+0]? =some (.own (kid p j) u 0 row.length):=by rw [Cl]; simp [hr]
 simp only [Nat.mul_one,Nat.add_zero] at h;simp [Ba,ev,evN,evR,hx,hob,Db,h]
theorem Aaj {x y:Opd} {o:Oid} {e1:TypeId} {m:Nat} {cs:List AV} {v:AV} {j:Nat} (hx:x.ev f=.elt o j 0) (hob:ob o=some (.vec e1 1 m cs)) (hy:y.ev f=v) (hv:v.one=true) (hj:j<cs.length):Ba n ⟨d,none,.st true 1 x y⟩ f ob=some (2,.any,[(o,none),(o,some (.vec e1 1 m (cs.set j v)))]):=by
 simp [Ba,ev,Y2,hx,hob,hy,Ji,hv,hj]
theorem Y9 {x y:Opd} {o q:Oid} {e1 e2:TypeId} {u:Ty} {t':Ty} {b:Nat} {p:Oid} {xss:List (List u.D)} {cs:List AV} {len:Nat} (hx:x.ev f=.own o t' 0 len) (hob:ob o=some (.vec e1 1 xss.length (hdL p u xss))) (hl:len=xss.length) {t2:Ty} (hy:y.ev f=.own q t2 0 1) (hq:ob q=some (.vec e2 1 1 cs)) (hc:cs.length=1) (h:xss.length+1<=1073741824∧(xss.length+1)*b<=140737488355328) :
  Ba n ⟨d,none,.appV e1 (.slice u) b x y⟩ f ob=some (2,.own (o.1,n) (.slice u) 0 (xss.length+1),[(o,none),((o.1,n),some (.vec e1 1 (xss.length+1) (hdL p u xss++cs)))]):=by
 subst hl;have h1:List.take (xss.length*1) (hdL p u xss)=hdL p u xss:=by rw [Nat.mul_one]; exact List.take_of_length_le (by rw [Dj]; exact Nat.le_refl _)
 have h2:List.take (1*1) (List.drop (0*1) cs)=cs:=by simp only [Nat.zero_mul,List.drop_zero,Nat.mul_one]; exact List.take_of_length_le (by omega)
 simp only [Ba,ev,Io,hx,hy,V2,hq,hob,Ty.size,true_and,Nat.zero_add,Nat.le_refl,if_true,h1,h2,h.1,h.2,and_self]
theorem Aer {i:Oid} {e:TypeId} {t:Ty} {sz:Nat} {xs:List Opd} {r:Rec} (h:(Xy f i e t sz xs).map (fun r=>((1:Nat),r.1,r.2))=some r):evL f i (.mkV e t sz xs)=some r:=by
 simp only [evL];cases hq:Xy f i e t sz xs with
 | none=>rw [hq] at h; cases h
 | some q=>rw [hq] at h; obtain ⟨v,us⟩:=q; exact h
theorem Ya {i:Oid} {e:TypeId} (e':TypeId) {u:Ty} {b:Nat} {x y:Opd} {k k':IntKind} {m c:Int} {j:Nat} (hx:x.ev f=.int k m) (hy:y.ev f=.int k' c) (h:0<=m∧m<=c∧c<=1073741824∧(b:Int)*c<=140737488355328) (hfl:u.flat=true) (hj:m.toNat=j) :
  Aab f i (.makeV e (.slice u) b [.nils] x y) (1,RV.out ⟨false,[(false,[.newM e e' u (List.replicate j [])])]⟩ (Ct i) []):=by
 subst hj;exact ⟨e,e',u,b,x,y,k,k',m,c,rfl,hx,hy,h,hfl,rfl⟩
theorem Ajv {i:Oid} {e e':TypeId} {u:Ty} {xss:List (List u.D)} (h:Jh i.2 ol=true):Ar (RV.out ⟨false,[(false,[.newM e e' u xss])]⟩ (Ct i) []).2 (Af ol)=Af ((Ct i 0,some (.mat e (Ct i 0) u xss)) :: (Ct i 0,some (.pool e' u xss)) :: ol):=by
 have e0:(RV.out ⟨false,[(false,[.newM e e' u xss])]⟩ (Ct i) []).2=(Ct i 0,some (.vec e 1 xss.length (hdL (Ct i 0) u xss))) :: (Tw (Ct i 0) e' u xss++[]):=rfl;rw [e0,List.append_nil];show Ar (Tw (Ct i 0) e' u xss) (upd (Af ol) (Ct i 0) (some (.vec e 1 xss.length (hdL (Ct i 0) u xss))))=_
 rw [Hd rfl,Aa0 (fun k=>by
  have:Af ((Ct i 0,some (.vec e 1 xss.length (hdL (Ct i 0) u xss))) :: ol) (kid (Ct i 0) k)=if kid (Ct i 0) k=Ct i 0 then some (.vec e 1 xss.length (hdL (Ct i 0) u xss)) else Af ol (kid (Ct i 0) k):=by simp only [Af]
  rw [this,if_neg (fun e=>by have:=congrArg (fun i:Oid=>i.1.2) e; simp [kid,Ct] at this)];exact K5 h _ rfl)]
 funext j;have h2:∀ j,Af ((Ct i 0,some (.vec e 1 xss.length (hdL (Ct i 0) u xss))) :: ol) j=if j=Ct i 0 then some (.vec e 1 xss.length (hdL (Ct i 0) u xss)) else Af ol j:=fun j=>by simp only [Af]
 rw [Km,H5,H5,h2];by_cases hj:j=Ct i 0
 ·subst hj;rw [if_pos rfl,if_neg (fun h=>h.2.2 rfl),if_pos rfl]
 ·rw [if_neg hj,if_neg hj]
end
section
variable {P:Program} {G:World->Prop} {g k d:Nat} {gd:Option (Nat×Bool)} {q:Q} {xs:List X} {tl:List (Nat×AV)} {ol:List (Oid×Option Ob)} {bad:List (Nat×Nat)} {ra:List Rec} {da:List (List Oid)} {Kf:List (Nat×AV)->List (Oid×Option Ob)->Prop}
theorem Akk (v:AV) (i:Oid) (o:Ob) (hgd:Ph gd (Al tl)) (h:evL (Al tl) ((d,0),g+k) q=some (1,v,[(i,some o)])) (h3:XW P G g (k+1) xs ((d,v) :: tl) ((i,some o) :: ol) Kf) (hx:Ks (some o)=true:=by rfl):XW P G g k (⟨some d,gd,q⟩ :: xs) tl ol Kf:=Xn 1 v _ (Aml (d:=some d) hgd h) h3 (by simp only [Fb,List.all_cons,List.all_nil,hx]; rfl)
theorem Acw (v:AV) (i:Oid) (e e':TypeId) (u:Ty) (xss:List (List u.D)) (hgd:Ph gd (Al tl)) (h:Aab (Al tl) ((d,0),g+k) q (1,RV.out ⟨false,[(false,[.newM e e' u xss])]⟩ (Ct ((d,0),g+k)) [])) (hi:Ct ((d,0),g+k) 0=i) (hv:AV.own i (.slice u) 0 xss.length=v) (hn:Jh (g+k) ol=true) (h3:XW P G g (k+1) xs ((d,v) :: tl) ((i,some (.mat e i u xss)) :: (i,some (.pool e' u xss)) :: ol) Kf):XW P G g k (⟨some d,gd,q⟩ :: xs) tl ol Kf:=by
 subst hi hv;exact Ac9 1 _ _ _ (Ajw (d:=some d) hgd h) (Ajv hn) h3
end
-- what arguments read as
section
variable {ol:List (Oid×Option Ob)} {n:Nat}
theorem Va {α:Type} {g:List AV->Option α}:∀ {cs:List AV} {xs:List α},cs.length=xs.length->(∀ (k:Nat) (c:AV) (x:α),cs[k]? =some c->xs[k]? =some x->g [c]=some x)->Mh g 1 xs.length cs=some xs
 | [],[],_,_=>rfl
 | c :: cs,x :: xs,hl,h=>by
  have h0:=h 0 c x rfl rfl;have ih:=Va (g:=g) (cs:=cs) (xs:=xs) (by simpa using hl) (fun k c x h1 h2=>h (k+1) c x h1 h2);simp only [List.length_cons,Mh,List.take_succ_cons,List.take_zero,List.drop_succ_cons,List.drop_zero,h0,ih]
 | [],_ :: _,hl,_=>by simp at hl
 | _ :: _,[],hl,_=>by simp at hl
theorem Ahl {ob:Oid->Option Ob} {o p:Oid} {e1 e:TypeId} {u:Ty} {xss:List (List u.D)} {m len:Nat} (ho:ob o=some (.vec e1 1 m (hdL p u xss))) (hm:m=xss.length) (hk:∀ k row,xss[k]? =some row->ob (kid p k)=some (.arr e u row)) {t':Ty} (hl:len<=xss.length):Aa7 ob 1 (rdC ob (.slice u)) (.own o t' 0 len)=some (xss.take len):=by
 have h1:(((hdL p u xss).drop (0*1)).take (len*1))=hdL p u (xss.take len):=by
  simp only [Nat.zero_mul,List.drop_zero,Nat.mul_one];apply List.ext_getElem?;intro j;rw [List.getElem?_take,Cl,Cl,List.getElem?_take];split <;> rfl
 have hlen:(xss.take len).length=len:=by rw [List.length_take]; omega
 simp only [Aa7,ho];rw [if_pos ⟨trivial,by omega⟩,h1]
 have:=Va (g:=rdC ob (.slice u)) (cs:=hdL p u (xss.take len)) (xs:=xss.take len) Dj (fun k c x hc hx=>by
  rw [Cl,hx] at hc;obtain rfl:=osj hc;rw [List.getElem?_take] at hx;split at hx
  ·have:=hk k x hx;simp only [rdC,Ej,this,Nat.zero_add,Nat.le_refl,if_true,Ty.eq?_self,Cq,List.drop_zero,List.take_length]
  ·cases hx)
 rw [hlen] at this;exact this
theorem D9 {ob:Oid->Option Ob} {o p:Oid} {e1 e:TypeId} {u:Ty} {xss:List (List u.D)} {len:Nat} (ho:ob o=some (.vec e1 1 xss.length (hdL p u xss))) (hk:∀ k row,xss[k]? =some row->ob (kid p k)=some (.arr e u row)) (hl:len=xss.length):gnd ob (n+1) (.own o (.slice u) 0 len)=some (.tree (.slice u) xss):=by
 subst hl;have:=Ahl (t':=.slice u) ho rfl hk (Nat.le_refl _);rw [List.take_length] at this;simp only [gnd,ho,Ty.size,this,Option.map_some]
theorem Bz {p:Oid} {e:TypeId} {u:Ty} {xss:List (List u.D)} (h:Dm ol p=some (.pool e u xss)):∀ k row,xss[k]? =some row->Af ol (kid p k)=some (.arr e u row):=fun _ _ hx=>Be h hx
def Xb (θ:Oid->Oid) (ol0:List (Oid×Ob)) (i:Oid):Bool:=ol0.all fun q=>if q.2.isPool then !(i.1.1==(θ q.1).1.1&&(i.2==(θ q.1).2&&i.1.2 !=0)) else i !=θ q.1
theorem Mv {l:List (Oid×Oid)} {ob:Oid->Option Ob} {ol0:List (Oid×Ob)} {i:Oid} (hl:L1 l=true) (h0:E1 ol0=true) (h:Xb (Bc l) ol0 i=true):Sa ((nmL ol0).map (Bc l)) ob i=ob i:=by
 unfold Sa;rw [if_neg];intro hm;obtain ⟨j,hj,rfl⟩:=List.mem_map.1 hm;obtain ⟨q,hq,rfl⟩:=List.mem_map.1 hj;unfold Xb at h;rw [List.all_eq_true] at h;unfold E1 at h0;rw [List.all_eq_true] at h0;rcases Fo hq with ⟨p,e,u,xss,k,row,m1,m2,rfl⟩ | ⟨o,m1,m2,m3⟩
 ·have:=h _ m1;have hz:=h0 _ m1;simp only [Bool.and_eq_true,beq_iff_eq] at hz;rw [Gl hl hz.1] at this;simp [Ob.isPool,kid] at this
 ·have:=h _ m1;simp [m2] at this
theorem Mz {l:List (Oid×Oid)} {ob:Oid->Option Ob} {ol0:List (Oid×Ob)} {p:Oid} {e:TypeId} {u:Ty} {xss:List (List u.D)} (hl:L1 l=true) (h0:E1 ol0=true) (hk:∀ k row,xss[k]? =some row->ob (kid p k)=some (.arr e u row)) (hn:(ol0.all fun q=> !((Bc l q.1).1.1==p.1.1&&((Bc l q.1).2==p.2)))=true):∀ k row,xss[k]? =some row->Sa ((nmL ol0).map (Bc l)) ob (kid p k)=some (.arr e u row):=by
 intro k row hx;rw [Mv hl h0,hk k row hx];unfold Xb;rw [List.all_eq_true] at hn ⊢;intro q hq;have:=hn q hq;simp only [Bool.not_eq_true',Bool.and_eq_false_iff,beq_eq_false_iff_ne,ne_eq] at this;split
 ·simp only [Bool.not_eq_true',Bool.and_eq_false_iff,beq_eq_false_iff_ne,ne_eq,kid];rcases this with h | h
  ·exact .inl fun e=>h e.symm
  ·exact .inr (.inl fun e=>h e.symm)
 ·simp only [bne_iff_ne,ne_eq];intro e;rw [← e] at this;rcases this with h | h <;> exact h rfl
theorem Ak4 {ri rj:Rec} {di dj:List Oid} (h:Ajd [rj,ri] [dj,di] [(0,1)]=true):Jw ri rj di dj:=(Bx h).1
theorem Aet {l:List (Oid×Oid)} {i:Oid} {ol us:List (Oid×Ob)} (hB:Adr ol us=true):∀ u∈Hp (Bc l) i ol us,u.1.2=i.2∨u.1∈(nmL ol).map (Bc l):=by
 intro u hu;rcases List.mem_append.1 hu with hu | hu
 ·obtain ⟨q,hq,rfl⟩:=List.mem_map.1 hu;exact .inr (List.mem_map.2 ⟨q.1,List.mem_map.2 ⟨q,hq,rfl⟩,rfl⟩)
 ·obtain ⟨q,hq,rfl⟩:=List.mem_map.1 hu;rcases Za hB q hq with h | ⟨h,h'⟩
  ·exact .inl (by simp [B0,h])
  ·exact .inr (List.mem_map.2 ⟨q.1,h',by simp [B0,h]⟩)
def Ae0 (l:List (Oid×Oid)) (i:Oid) (ol us:List (Oid×Ob)) (r:Rec) (d:List Oid):Bool:=L1 l&&(E1 ol&&(Adr ol us&&((d.all fun x=>x.2 !=i.2&&Xb (Bc l) ol x)&&((r.2.2.all fun u=>u.1.2 !=i.2&&Xb (Bc l) ol u.1)&&r.1 !=2))))
theorem Aac {l:List (Oid×Oid)} {ol:List (Oid×Ob)} {i:Oid} (hl:L1 l=true) (h0:E1 ol=true) (h:Xb (Bc l) ol i=true):i∉(nmL ol).map (Bc l):=by
 intro hm;have:=Mv (ob:=fun _=>some (.map 0 .int [])) hl h0 h;unfold Sa at this;rw [if_pos hm] at this;cases this
theorem U9 {l:List (Oid×Oid)} {i:Oid} {ol us:List (Oid×Ob)} {r:Rec} {d:List Oid} (h:Ae0 l i ol us r d=true):(∀ u∈Hp (Bc l) i ol us,u.1∉d)∧(∀ u∈Hp (Bc l) i ol us,∀ v∈r.2.2,u.1≠v.1)∧r.1≠2:=by
 simp only [Ae0,Bool.and_eq_true,bne_iff_ne,ne_eq] at h;obtain ⟨h1,h2,h3,h4,h5,h6⟩:=h;rw [List.all_eq_true] at h4 h5;refine ⟨fun u hu hd=>?_,fun u hu v hv e=>?_,h6⟩
 ·have:=h4 _ hd;simp only [Bool.and_eq_true,bne_iff_ne,ne_eq] at this;rcases Aet h3 u hu with h | h
  ·exact this.1 h
  ·exact Aac h1 h2 this.2 h
 ·have:=h5 _ hv;simp only [Bool.and_eq_true,bne_iff_ne,ne_eq] at this;rcases Aet h3 u hu with h | h
  ·exact this.1 (by rw [← e]; exact h)
  ·exact Aac h1 h2 this.2 (by rw [← e]; exact h)
theorem Acq {l:List (Oid×Oid)} {i:Oid} {ol us:List (Oid×Ob)} {v:AV} {rj:Rec} {di dj:List Oid} (h:Ae0 l i ol us rj dj=true):Jw (2,v,Hp (Bc l) i ol us) rj di dj:=by
 obtain ⟨h1,h2,h3⟩:=U9 h;exact .inr ⟨fun _=>h1,fun e=>absurd e h3,h2⟩
theorem Aci {l:List (Oid×Oid)} {i:Oid} {ol us:List (Oid×Ob)} {v:AV} {ri:Rec} {di dj:List Oid} (h:Ae0 l i ol us ri di=true):Jw ri (2,v,Hp (Bc l) i ol us) di dj:=by
 obtain ⟨h1,h2,h3⟩:=U9 h;exact .inr ⟨fun e=>absurd e h3,fun _=>h1,fun u hu v hv e=>h2 v hv u hu e.symm⟩
def Aha (zs:List AV) (ob:Oid->Option Ob) (θ:Oid->Oid):List (Oid×Ob)->Prop
 | []=>True
 | q :: r=>(match q.2 with
  | .pool _ _ xss=>∀ k,k<xss.length->Reached zs ob (kid (θ q.1) k)
  | _=>Reached zs ob (θ q.1))∧Aha zs ob θ r
theorem A9 {zs:List AV} {ob:Oid->Option Ob} {l:List (Oid×Oid)} (hl:L1 l=true):∀ {ol:List (Oid×Ob)},E1 ol=true->Aha zs ob (Bc l) ol->∀ j∈nmL ol,Reached zs ob (Bc l j)
 | [],_,_,j,hj=>by cases hj
 | (p,o) :: r,h0,h,j,hj=>by
  simp only [E1,List.all_cons,Bool.and_eq_true,beq_iff_eq] at h0;obtain ⟨⟨h1,_⟩,h2⟩:=h0;have ih:j∈nmL r->Reached zs ob (Bc l j):=fun hm=>A9 hl (ol:=r) (by simpa [E1] using h2) h.2 j hm
  cases o with
  | pool e u xss =>
   simp only [nmL,exL,List.map_append,List.mem_append] at hj;rcases hj with hj | hj
   ·obtain ⟨q,hq,rfl⟩:=List.mem_map.1 hj;obtain ⟨⟨row,k⟩,hx,rfl⟩:=List.mem_map.1 hq;rw [List.mem_zipIdx_iff_getElem?] at hx;show Reached zs ob (Bc l (kid p k));rw [Gl hl h1];exact h.1 k (gSi.1 hx).1
   ·exact ih hj
  | _ =>
   simp only [nmL,exL,List.map_cons,List.mem_cons] at hj;rcases hj with rfl | hj
   ·exact h.1
   ·exact ih hj
theorem Bj {zs:List AV} {ob:Oid->Option Ob} {i:Oid} (h:(AV.nmsL zs).contains i=true):Reached zs ob i:=.arg (List.contains_iff_mem.1 h)
theorem Ek {zs:List AV} {ob:Oid->Option Ob} {k i:Oid} {ty:TypeId} {cs:List AV} (h1:Reached zs ob k) (h2:ob k=some (.cells ty cs)) (h:(AV.nmsL cs).contains i=true):Reached zs ob i:=.cells h1 h2 (List.contains_iff_mem.1 h)
theorem Ajq {p:Oid} {u:Ty} {xss:List (List u.D)} {k:Nat} (h:k<xss.length):kid p k∈AV.nmsL (hdL p u xss):=by
 have key:∀ cs:List AV,∀ c∈cs,∀ i∈c.nms,i∈AV.nmsL cs:=by
  intro cs
  induction cs with
  | nil=>intro c h; cases h
  | cons x r ih =>
   intro c hc i hi;rcases List.mem_cons.1 hc with rfl | hc
   ·exact List.mem_append_left _ hi
   ·exact List.mem_append_right _ (ih c hc i hi)
 refine key _ (.own (kid p k) u 0 xss[k].length) ?_ _ (List.mem_singleton.2 rfl);apply List.mem_iff_getElem?.2;exact ⟨k,by rw [Cl,gEg h]; rfl⟩
theorem E0 {zs:List AV} {ob:Oid->Option Ob} {o p:Oid} {e1:TypeId} {m:Nat} {u:Ty} {xss:List (List u.D)} (h1:Reached zs ob o) (h2:ob o=some (.vec e1 1 m (hdL p u xss))):∀ k,k<xss.length->Reached zs ob (kid p k):=fun _ hk=>.vec h1 h2 (Ajq hk)
end
theorem Yc {L:List Oid} {l:List (Oid×Oid)} {xs:List (Oid×Ob)} (h:(xs.all fun q=>L.contains (Bc l q.1))=true):∀ q∈xs,Bc l q.1∈L:=fun q hq=>by
 have:=List.all_eq_true.1 h q hq
 simpa using this
end
section
open Go.RowKit Go.Deep
def NeL (i:Oid):List Oid->Prop
 | []=>True
 | x :: r=>x≠i∧NeL i r
theorem Aj8 {L M:List Oid} {ob:Oid->Option Ob} {i:Oid} (hL:M=L) (h:NeL i L):Sa M ob i=ob i:=by
 subst hL;unfold Sa;rw [if_neg];intro hm
 induction M with
 | nil=>cases hm
 | cons x r ih =>
  rcases List.mem_cons.1 hm with rfl | hm
  ·exact h.1 rfl
  ·exact ih h.2 hm
theorem Alo {p:Oid} {j k:Nat} (h:j≠k):kid p j≠kid p k:=fun e=>h (D6 e)
theorem Mw {L:List Oid} {ob:Oid->Option Ob} {i:Oid} (h:i∈L):only L ob i=ob i:=if_pos h
theorem Acg {f:Nat->AV} {ob:Oid->Option Ob} {d:Option Nat} {gd:Option (Nat×Bool)} {fo y:Opd} {ys:List Opd} {tys:List (List (Option Ty))} {i:Oid} {t:Ty} {off len:Nat} (n:Nat) (hy:ys[n]? =some y) (he:y.ev f=.own i t off len):i∈rdX f ob ⟨d,gd,.call fo ys tys⟩:=by
 refine List.mem_flatMap.2 ⟨y,List.mem_cons_of_mem _ (List.mem_of_getElem? hy),?_⟩;rw [he];show i∈G0 ob (7+1) (.own i t off len);unfold G0;dsimp only;split <;> simp
theorem Alm {L:List Oid} {l:List (Oid×Oid)}:∀ q∈exL [],Bc l q.1∈L:=fun _ h=>by cases h
theorem Ame {L:List Oid} {l:List (Oid×Oid)} {i:Oid} {e:TypeId} {t:Ty} {xs:List t.D} {r:List (Oid×Ob)} (h:Bc l i∈L) (hr:∀ q∈exL r,Bc l q.1∈L):∀ q∈exL ((i,.arr e t xs) :: r),Bc l q.1∈L:=fun q hq=>by
 rcases List.mem_cons.1 hq with rfl | hq
 ·exact h
 ·exact hr q hq
theorem Amu {ob:Oid->Option Ob} {o:Oid} {e1:TypeId} {sz m n:Nat} {cs:List AV} (h:ob o=some (.vec e1 sz n cs)) (e:m=n):ob o=some (.vec e1 sz m cs):=by rw [e]; exact h
theorem Aee {α:Type} {xs:List α} {k:Nat} (h:k<=xs.length):k=(xs.take k).length:=by rw [List.length_take]; omega
theorem Af8 {G:World->Prop} {S:St} {o:Oid} {e1:TypeId} {sz n k:Nat} {cs:List AV} (ho:S.ob o=some (.vec e1 sz n cs)) (hk:k<=n):WeakG G S ⟨S.tm,upd S.ob o (some (.vec e1 sz k (cs.take (k*sz)))),S.gen⟩:=by
 intro w0 B N a w hr;obtain ⟨σ,hm,hf,hB⟩:=hr.ex
 have was:∀ i x,upd S.ob o (some (.vec e1 sz k (cs.take (k*sz)))) i=some x->∃ y,S.ob i=some y:=fun i x hx=>by
  by_cases h:i=o
  ·subst h; exact ⟨_,ho⟩
  ·rw [Av _ _ _ _ h] at hx; exact ⟨x,hx⟩
 have hL:Later σ σ (imm S.ob σ) (imm (upd S.ob o (some (.vec e1 sz k (cs.take (k*sz))))) σ) w w:=⟨fun _ _ h=>h,fun b _ hb i x c s hx hs=>by obtain ⟨y,hy⟩:=was i x hx; exact hb i y c s hy hs,fun _ _ _=>rfl,Nat.le_refl _⟩
 refine ⟨⟨σ,⟨hm.below,hm.inv,hm.gen,hm.lt,hm.cap,fun i j b c s c' s' x y hx hy e1 e2=>?_,fun i x l hx hl=>?_⟩,fun t=>AV.Rep.later hL _ _ (hf t),hB.trans hL⟩,hr.size,hr.defers,fun i hi=>?_⟩
 ·obtain ⟨x',hx'⟩:=was i x hx;obtain ⟨y',hy'⟩:=was j y hy;exact hm.inj i j b c s c' s' x' y' hx' hy' e1 e2
 ·by_cases h:i=o
  ·subst h;have hx:upd S.ob i (some (.vec e1 sz k (cs.take (k*sz)))) i=some x:=hx;rw [A3] at hx;obtain rfl:=osj hx;obtain ⟨vs,p1,p2,p3,p4⟩:=hm.obs i _ l ho hl;refine ⟨vs.take (k*sz),p1.take hk (fun g cap e=>?_) (fun e=>?_),(AV.RepL.later hL _ _ p2).take _,fun v hv=>p3 v (List.mem_of_mem_take hv),p4⟩
   ·cases l with
    | nil=>cases e
    | at_ b c s=>cases e; rfl
   ·cases l with
    | nil=>rfl
    | at_ b c s=>cases e
  ·have hx:upd S.ob o (some (.vec e1 sz k (cs.take (k*sz)))) i=some x:=hx;rw [Av _ _ _ _ h] at hx;exact (hm.obs i x l hx hl).later hL fun _ _ _ _=>rfl
 ·by_cases h:i=o
  ·subst h; exact hr.obg i (by rw [ho]; simp)
  ·have hi:upd S.ob o (some (.vec e1 sz k (cs.take (k*sz)))) i≠none:=hi;rw [Av _ _ _ _ h] at hi;exact hr.obg i hi
theorem Acz {G:World->Prop} {tl:List (Nat×AV)} {ol:List (Oid×Option Ob)} {g:Nat} (s:Nat) (o p:Oid) {e1 e:TypeId} {u:Ty} {xss:List (List u.D)} {n k:Nat} (hfl:u.flat=true) (ho:Af ol o=some (.vec e1 1 n (hdL p u xss))) (hn:n=xss.length) (hp:Dm ol p=some (.pool e u xss)) (hk:k<=n) (hpo:(o.1.1==p.1.1&&o.2==p.2&&o.1.2 !=0)=false) (hog:(o.2==g)=false) (hfr:Jh g ((p,some (.pool e u [])) :: ol)=true) :
  WeakG G ⟨Al tl,Af ol,g⟩ ⟨Al tl,Af ((o,some (.mat e1 ((s,0),g) u (xss.take k))) :: (((s,0),g),some (.pool e u (xss.take k))) :: (p,some (.pool e u [])) :: (o,some (.vec e1 1 k ((hdL p u xss).take k))) :: ol),g+1⟩:=by
 have h1:WeakG G ⟨Al tl,Af ol,g⟩ ⟨Al tl,Af ((o,some (.vec e1 1 k ((hdL p u xss).take k))) :: ol),g⟩:=by
  have:=Af8 (G:=G) (S:=⟨Al tl,Af ol,g⟩) ho hk;rw [Nat.mul_one] at this;rw [← Hd rfl];exact this
 refine h1.trans ?_;have hok:∀ j,kid p j≠o:=fun j e=>by rw [← e] at hpo; simp [kid] at hpo
 have hpool:Dm ((o,some (.vec e1 1 k ((hdL p u xss).take k))) :: ol) p=some (.pool e u xss):=by
  show (if p.1.1=o.1.1∧p.2=o.2∧o.1.2≠0 then none else Dm ol p)=_;rw [if_neg,hp];rintro ⟨a1,a2,a3⟩;rw [a1,a2] at hpo;simp [a3] at hpo
 refine G5 s o (fun j=>kid p j) [(p,some (.pool e u []))] hfl (by show Af _ o=_; simp only [Af]; rw [if_pos trivial]) (by rw [List.length_take]; omega) (fun j row hj=>?_) (fun a b _ _ hab=>D6 hab) hog ?_ (fun i hi=>?_)
 ·rw [List.getElem?_take] at hj ⊢;split at hj
  ·rename_i hlt;rw [if_pos hlt,Cl,hj];exact ⟨rfl,row,Be hpool hj,Nat.le_refl _,(List.take_length).symm⟩
  ·cases hj
 ·simp only [Jh,List.all_append,List.all_cons,List.all_nil,Bool.and_true,Bool.and_eq_true,bne_iff_ne] at hfr ⊢;exact ⟨hfr.1,by simpa using hog,hfr.2⟩
 ·simp only [List.cons_append,List.nil_append,Gi];split
  ·exact .inl rfl
  ·rename_i h2;exact .inr ⟨rfl,fun j _ e=>h2 (by rw [e]; exact ⟨rfl,rfl,by simp [kid]⟩)⟩
theorem Adn {G:World->Prop} {tl:List (Nat×AV)} {ol:List (Oid×Option Ob)} {g:Nat} (s:Nat) (o p:Oid) {e1 e:TypeId} {u:Ty} {xss:List (List u.D)} {k:Nat} (hfl:u.flat=true) (ho:Af ol o=some (.vec e1 1 k ((hdL p u xss).take k))) (hp:Dm ol p=some (.pool e u xss)) (hk:k<=xss.length) (hog:(o.2==g)=false) (hfr:Jh g ((p,some (.pool e u [])) :: ol)=true) :
  WeakG G ⟨Al tl,Af ol,g⟩ ⟨Al tl,Af ((o,some (.mat e1 ((s,0),g) u (xss.take k))) :: (((s,0),g),some (.pool e u (xss.take k))) :: (p,some (.pool e u [])) :: ol),g+1⟩:=by
 refine G5 s o (fun j=>kid p j) [(p,some (.pool e u []))] hfl ho (by rw [List.length_take]; omega) (fun j row hj=>?_) (fun a b _ _ hab=>D6 hab) hog hfr (fun i hi=>?_)
 ·rw [List.getElem?_take] at hj ⊢;split at hj
  ·rename_i hlt;rw [if_pos hlt,Cl,hj];exact ⟨rfl,row,Be hp hj,Nat.le_refl _,(List.take_length).symm⟩
  ·cases hj
 ·simp only [List.cons_append,List.nil_append,Gi];split
  ·exact .inl rfl
  ·rename_i h2;exact .inr ⟨rfl,fun j _ e=>h2 (by rw [e]; exact ⟨rfl,rfl,by simp [kid]⟩)⟩
section
variable {f:Nat->AV} {ob:Oid->Option Ob} {n:Nat} {d:Option Nat}
theorem Afw {sz:Nat} {x hi mx:Opd} {i:Oid} {t:Ty} {len N:Nat} {e:TypeId} {cs:List AV} {kh km:IntKind} {h m:Int} {j:Nat} (hx:x.ev f=.own i t 0 len) (hob:ob i=some (.vec e 1 N cs)) (hh:hi.ev f=.int kh h) (hm:mx.ev f=.int km m) (hs:t.size=sz) (hb:0<=h∧h<=m∧m<=(len:Int)) (hj:h.toNat=j) (hk:j<=N) :
  Ba n ⟨d,none,.slice sz x none (some hi) (some mx)⟩ f ob=some (2,.own ((d.getD 0,0),n) t 0 j,[(i,none),(((d.getD 0,0),n),some (.vec e 1 j (cs.take j)))]):=by
 subst hj;simp [Ba,ev,My,Gt,C8,hx,hob,hh,hm,hs,hb,Yb,hk,AV.un]
end
end
section
open Go.RowKit Go.Deep
section
variable {P:Program} {G:World->Prop} {g k d:Nat} {gd:Option (Nat×Bool)} {q:Q} {xs:List X} {tl:List (Nat×AV)} {ol:List (Oid×Option Ob)} {bad:List (Nat×Nat)} {ra:List Rec} {da:List (List Oid)} {Kf:List (Nat×AV)->List (Oid×Option Ob)->Prop}
theorem rz0 (v:AV) (h3:XW P G g (k+1) xs ((d,v) :: tl) ol Kf) (h:Ba (g+k) ⟨some d,gd,q⟩ (Al tl) (Af ol)=some (0,v,[]):=by kernel_rfl):XW P G g k (⟨some d,gd,q⟩ :: xs) tl ol Kf:=rs0 v h h3
theorem rzl (v:AV) (h3:XW P G g (k+1) xs ((d,v) :: tl) ol Kf) (h:Ba (g+k) ⟨some d,gd,q⟩ (Al tl) (Af ol)=some (1,v,[]):=by kernel_rfl):XW P G g k (⟨some d,gd,q⟩ :: xs) tl ol Kf:=rsl v h h3
theorem dz0 (v:AV) (h3:XD P G bad g (k+1) xs ((d,v) :: tl) ol ((0,v,[]) :: ra) ((rdX (Al tl) (Af ol) ⟨some d,gd,q⟩) :: da) Kf) (h:Ba (g+k) ⟨some d,gd,q⟩ (Al tl) (only (rdX (Al tl) (Af ol) ⟨some d,gd,q⟩) (Af ol))=some (0,v,[]):=by kernel_rfl):XD P G bad g k (⟨some d,gd,q⟩ :: xs) tl ol ra da Kf:=ds0 v h h3
theorem dzl (v:AV) (h3:XD P G bad g (k+1) xs ((d,v) :: tl) ol ((1,v,[]) :: ra) ((rdX (Al tl) (Af ol) ⟨some d,gd,q⟩) :: da) Kf) (h:Ba (g+k) ⟨some d,gd,q⟩ (Al tl) (only (rdX (Al tl) (Af ol) ⟨some d,gd,q⟩) (Af ol))=some (1,v,[]):=by kernel_rfl):XD P G bad g k (⟨some d,gd,q⟩ :: xs) tl ol ra da Kf:=dsl v h h3
theorem zs {s:Nat} {b c:Bool} (hc:c= !b) (h3:XW P G g (k+1) xs ((d,.tup []) :: tl) ol Kf) (hs:Al tl s=.bool c:=by kernel_rfl):XW P G g k (⟨some d,some (s,b),q⟩ :: xs) tl ol Kf:=rs0 (.tup []) (Fg hs hc) h3
theorem zc {fo:Opd} {ys:List Opd} {tys:List (List (Option Ty))} {F:FuncId} {rv:RV} {args:List AV} (v:AV) (us:List (Oid×Option Ob)) (zs:List AV) (hc:A6 P G F args rv) (h3:XW P G g (k+1) xs ((d,v) :: tl) (us.reverseAux ol) Kf) (h1:L3 (gnd (Af ol) 8) zs=some zs:=by kernel_rfl) (hb:A2 P F=true:=by kernel_rfl) (hfo:fo.ev (Al tl)=.fn F []:=by kernel_rfl) (hz:(ys++([]:List AV).map Opd.cst).map (Opd.ev (Al tl))=zs:=by kernel_rfl) (hn:Lv tys zs=args:=by kernel_rfl) (hr:rv.out (Ct ((d,0),g+k)) zs=(v,us):=by kernel_rfl) (hx:Fb us=true:=by rfl) (hni:rv.noI=true:=by kernel_rfl):XW P G g k (⟨some d,none,.call fo ys tys⟩ :: xs) tl ol Kf:=E3 (caps:=[]) (args0:=zs) v us zs args trivial h1 hc hb h3 hfo hz hn hr hx hni
end
section
variable {n:Nat} {d:Option Nat} {f:Nat->AV} {ob:Oid->Option Ob}
theorem zi {sz:Nat} {x i:Opd} {t:Ty} {xs:List t.D} {y:t.D} {k:IntKind} {m:Int} {j:Nat} (h0:0<=m) (hy:xs[j]? =some y) (hx:(x.ev f).un=.tree t xs:=by kernel_rfl) (hi:i.ev f=.int k m:=by kernel_rfl) (hs:sz=t.size:=by rfl) (hj:m.toNat=j:=by rfl) {e:Option (Nat->Prop)} (he:(x.ev f).tag=e:=by kernel_rfl):Ba n ⟨d,none,.i (.idx sz x i)⟩ f ob=some (0,.telt e t y 0,[]):=Alt hx hi hs h0 hj hy he
theorem zo {sz:Nat} {x i:Opd} {t:Ty} {o:Oid} {len:Nat} {k:IntKind} {m:Int} {j:Nat} (h0:0<=m) (hl:j<len) (hx:x.ev f=.own o t 0 len:=by kernel_rfl) (hi:i.ev f=.int k m:=by kernel_rfl) (hs:sz=t.size:=by rfl) (hj:m.toNat=j:=by rfl):Ba n ⟨d,none,.i (.idx sz x i)⟩ f ob=some (0,.elt o j 0,[]):=Alz hx hi hs h0 hj hl
theorem zg {s:Nat} {b c:Bool} {q:Q} {r:Option Rec} (hc:c=b) (hs:f s=.bool c:=by kernel_rfl) (h:Ba n ⟨d,none,q⟩ f ob=r:=by kernel_rfl):Ba n ⟨d,some (s,b),q⟩ f ob=r:=Lp hs hc h
theorem zT {c x y:Opd} {b:Bool} (hb:b=true) (h:c.ev f=.bool b:=by kernel_rfl):Ba n ⟨d,none,.i (.pick c x y)⟩ f ob=some (0,x.ev f,[]):=Aj7 h hb
theorem zF {c x y:Opd} {b:Bool} (hb:b=false) (h:c.ev f=.bool b:=by kernel_rfl):Ba n ⟨d,none,.i (.pick c x y)⟩ f ob=some (0,y.ev f,[]):=Ajj h hb
theorem za {x y:Opd} {j:Nat} (h:j+1<4611686018427387904) (hx:x.ev f=.int .i64 j:=by kernel_rfl) (hy:y.ev f=.int .i64 1:=by kernel_rfl):Ba n ⟨d,none,.i (.bin .add x y)⟩ f ob=some (0,.int .i64 ((j+1:Nat):Int),[]):=Al7 hx hy h
theorem zl {vs:List Value} {c:AV} {l:RL} (h:Oc ob c=some l:=by kernel_rfl):LeafR vs ob c l:=Amy h
end
theorem zj {α:Type} {a b:α} (h:some a=some b):a=b:=osj h
theorem wr_ {G:World->Prop} {S:St} {K:St->Prop} (h:K S):∃ S',WeakG G S S'∧K S':=⟨S,WeakG.refl _,h⟩
end
section
open Go.RowKit Go.Deep
inductive Ctl (σ ρ:Type) where
 | next (s:σ)
 | out (r:ρ)
def Ctl.then {σ β:Type} (k:σ->Option β):Ctl σ β->Option β
 | .next t=>k t
 | .out r=>some r
section
variable {α β σ τ ρ:Type}
def og (c:Prop) [Decidable c] (k:Option α):Option α:=if c then k else none
theorem Aq {c:Prop} [Decidable c] {k:Option α} {r:α} (h:og c k=some r):c∧k=some r:=by
 unfold og at h;split at h
 ·rename_i hc; exact ⟨hc,h⟩
 ·cases h
theorem An {c:Prop} [Decidable c] (h:c) (k:Option α):og c k=k:=if_pos h
theorem Ae {o:Option α} {f:α->Option β} {b:β} (h:o.bind f=some b):∃ a,o=some a∧f a=some b:=Option.bind_eq_some_iff.1 h
theorem Ad {c:Bool} {a b:Option α} {r:α} (h:cond c a b=some r):(c=true∧a=some r)∨(c=false∧b=some r):=by
 cases c
 ·exact .inr ⟨rfl,h⟩
 ·exact .inl ⟨rfl,h⟩
def M9 (a:Option (Ctl τ β)) (k:τ->Option β):Option β :=
 a.bind (Ctl.then k)
theorem Afg {a:Option (Ctl τ β)} {k:τ->Option β} {r:β} (h:M9 a k=some r):∃ v,a=some v∧Ctl.then k v=some r:=Ae h
def A1 (body:σ->Option (Ctl σ ρ)):Nat->σ->Option ρ
 | 0,_=>none
 | n+1,s=>(body s).bind (Ctl.then (A1 body n))
theorem Acd {body:σ->Option (Ctl σ ρ)} {n:Nat} {s:σ} {v:ρ} (h:A1 body (n+1) s=some v):∃ c,body s=some c∧Ctl.then (A1 body n) c=some v:=Ae h
theorem Ada {body:σ->Option (Ctl σ ρ)} {s:σ} {v:ρ} (h:A1 body 0 s=some v):False:=by cases h
def Q7 (xs:List α) (n:Int):Option α:=if 0<=n then xs[n.toNat]? else none
theorem At {xs:List α} {k:Nat} {x:α} (h:xs[k]? =some x):k<xs.length:=(gSi.1 h).1
theorem Ew {xs:List α} {n:Int} {x:α} (h:Q7 xs n=some x):0<=n∧n<xs.length∧xs[n.toNat]? =some x:=by
 unfold Q7 at h;split at h
 ·rename_i h0;have:=At h;exact ⟨h0,by omega,h⟩
 ·cases h
theorem F1 {xs:List α} {n:Int} (h:0<=n):Q7 xs n=xs[n.toNat]?:=if_pos h
end
section
variable {P:Program} {G:World->Prop} {σ τ β ρ:Type}
theorem Ay {x y:AC} {R:AE->St->Prop} {S:St} {A:Option τ} {k:τ->Option β} {r:β} (h:A.bind k=some r) (J:τ->St->Prop) (h1:∀ t,A=some t->awp P G x (Ik (fun S'=>∃ S'',WeakG G S' S''∧J t S'') R) S) (h2:∀ t S'',J t S''->k t=some r->awp P G y R S''):awp P G (.seq x y) R S:=by
 obtain ⟨t,ha,hk⟩:=Ae h;exact W7 (J t) (h1 t ha) fun S'' hj=>h2 t S'' hj hk
theorem Ds {x y:AC} {R:AE->St->Prop} {S:St} {A:Option (Ctl τ β)} {k:τ->Option β} {r:β} (h:M9 A k=some r) (J:τ->St->Prop)
  (h1:∀ v,A=some v->Ctl.then k v=some r->awp P G x (Ik (fun S'=>∃ t S'',v=.next t∧WeakG G S' S''∧J t S'') R) S) (h2:∀ t S'',J t S''->k t=some r->awp P G y R S''):awp P G (.seq x y) R S:=by
 obtain ⟨v,ha,hk⟩:=Afg h;refine W7 (fun S''=>∃ t,v=.next t∧J t S'') (Cz (fun e S' hq=>?_) (h1 v ha hk)) fun S'' ⟨t,hv,hj⟩=>?_
 ·cases e with
  | normal=>obtain ⟨t,S'',hv,hw,hj⟩:=hq; exact ⟨S'',hw,t,hv,hj⟩
  | exit id=>exact hq
  | ret=>exact hq
 ·subst hv; exact h2 t S'' hj hk
theorem Az {a:AC} {R:AE->St->Prop} {S:St} {body:σ->Option (Ctl σ ρ)} {fuel:Nat} {s0:σ} {v:ρ} (h:A1 body fuel s0=some v) (J:σ->St->Prop) (h0:∃ S0,WeakG G S S0∧J s0 S0)
  (h1:∀ n s S1 c,J s S1->body s=some c->Ctl.then (A1 body n) c=some v->awp P G a (Ik (fun S2=>∃ s' S3,WeakG G S2 S3∧J s' S3∧A1 body n s'=some v) R) S1):awp P G (.loop a) R S:=by
 obtain ⟨S0,hw,hj⟩:=h0;refine Afd (fun (p:Nat×σ) S=>A1 body p.1 p.2=some v∧J p.2 S) (·.1) ⟨(fuel,s0),S0,hw,h,hj⟩ ?_;rintro ⟨n,s⟩ S1 ⟨hl,hj⟩;cases n with
 | zero=>exact (Ada hl).elim
 | succ n =>
  obtain ⟨c,hc,hn⟩:=Acd hl;refine Cz (fun e S2 hq=>?_) (h1 n s S1 c hj hc hn);cases e with
  | normal=>obtain ⟨s',S3,hw,hj,hl⟩:=hq; exact ⟨(n,s'),S3,hw,⟨hl,hj⟩,Nat.lt_succ_self n⟩
  | exit id=>exact hq
  | ret=>exact hq
end
theorem A0 (n:Nat):0<=(n:Int):=by omega
end
section
open Go.RowKit Go.Deep
def Ir (a0:Int):Option Bool:=some (isF a0)
def Sf (r:Bool):RV:=⟨false,[(false,[.sc (.bool r)])]⟩
theorem Er:A2 Tryd.prog 39=true:=by kernel_rfl
theorem Em {a0:Int} {r:Bool} (h:Ir a0=some r):A6 Tryd.prog Tab 39 [.int .i64 a0] (Sf r):=by
 obtain rfl:=osj h;intro w im vs hG hr;obtain ⟨u1,_,rfl,h1,h2⟩:=hr;obtain rfl:_=[]:=h2;obtain rfl:u1=.int .i64 a0:=h1;refine (Z7 a0 w (hG w (Below.refl _ _))).mono ?_;rintro e w' ⟨rfl,rfl⟩;exact ⟨_,rfl,Below.refl _ _,[_],[],⟨_,[],rfl,rfl,rfl,rfl,rfl⟩,⟨trivial,fun _=>rfl⟩,rfl⟩
end
section
open Go.RowKit Go.Deep
set_option maxRecDepth 4000
def Nv:AC :=
 (.seq (rg [xo 4 (qm (ci 0))])
 (.seq (rg [xo 5 (qm (tm 1)),xo 6 (qm (tm 0)),xo 7 (.i (.len (tm 6))),xo 8 (qb .sub (tm 5) (tm 7)),xo 1 (qm (tm 8))])
 (.seq (.seq (rg [xo 9 (qm (tm 1)),xo 10 (qb .lss (tm 9) (ci 0))])
 (.cond (tm 10)
  (.seq (rg [xo 4 (qm (ci (-1)))])
  .ret)
  .skip))
 (.seq (rg [xo 11 (qm (tm 1)),xo 4 (qm (tm 11))])
 .ret))))
def Wd:List Res:=[.tmp 4]
theorem W4:Ap Tryd.prog Tryd.f33=some (Nv,Wd):=by kernel_rfl
def Ga (a0:List Int) (a1:Int):Option Int :=
 cond (decide (wI (a1 - ((a0.length:Nat):Int))<0))
 (some (-1))
 (some (wI (a1 - ((a0.length:Nat):Int))))
def Ue (r:Int):RV:=⟨false,[(false,[.sc (.int .i64 r)])]⟩
theorem Tz {a0:List Int} {a1:Int} {r:Int} (h:Ga a0 a1=some r):A6 Tryd.prog Tab 33 [.tree .int a0,ai a1] (Ue r):=by
 refine A5 (by kernel_rfl) Tryd.func33 W4 (n:=12) (by kernel_rfl) (by simp) (tl:=[(0,.tree .int a0),(1,ai a1)]) rfl ?_;unfold Nv;unfold Ga at h;refine Am ?_;refine Am ?_;refine Ab ?_;refine Am ?_;rcases Ad h with ⟨q5,h⟩ | ⟨q5,h⟩
 ·have q5_:=of_decide_eq_true q5;refine Ag q5 ?_;refine Am ?_;refine Ak (tr_ ?_);obtain rfl:=zj h;exact Bl [ai (-1)] (A7 rfl zl A8)
 have q5_:=of_decide_eq_false q5;refine Ah q5 ?_;refine Aj (tn_ ?_);refine wr_ ?_;refine Am ?_;refine Ak ?_;obtain rfl:=zj h;exact Bl [ai (wI (a1 - ((a0.length:Nat):Int)))] (A7 rfl zl A8)
def J0:AC :=
 (.seq (.seq (rg [xo 8 (qm (tm 4)),xo 9 (qm (tm 0)),xo 10 (.i (.len (tm 9))),xo 11 (qb .lss (tm 8) (tm 10))])
 (.cond (tm 11)
  .skip
  (.exit 0)))
 (.seq (.block 1 (rg [xo 14 (qm (tm 3)),xo 15 (qm (tm 4)),xo 16 (qm (tm 0)),xo 17 (qm (tm 4)),xo 18 (qx 1 (tm 16) (tm 17)),xo 19 (ql (tm 18)),xo 20 (qx 1 (tm 14) (tm 15)),xn (qs (tm 20) (tm 19))]))
 (rg [xo 12 (qm (tm 4)),xo 13 (qb .add (tm 12) (ci 1)),xo 4 (qm (tm 13))])))
def Ng:AC :=
 (.seq (rg [xo 2 (qm (.cst .nils))])
 (.seq (rg [xo 5 (qm (tm 0)),xo 6 (.i (.len (tm 5))),xo 7 (.make 3 .int 8 (tm 6) (tm 6)),xo 3 (qm (tm 7))])
 (.seq (.seq (rg [xo 4 (qm (ci 0))])
 (.block 0 (.loop J0)))
 (.seq (rg [xo 21 (qm (tm 3)),xo 2 (qm (tm 21))])
 .ret))))
def V4:List Res:=[.tmp 2]
theorem Wy:Ap Tryd.prog Tryd.f38=some (Ng,V4):=by kernel_rfl
def Dv (a0:List Int) (l6_m4:Nat) (l6_m3:List Int):Option (Ctl (Nat×List Int) (List Int)) :=
 cond (decide (((l6_m4:Nat):Int)<((a0.length:Nat):Int)))
 (Option.bind (a0[l6_m4]?) fun x11 =>
 Option.bind (l6_m3[l6_m4]?) fun x12 =>
 og (l6_m4+1<4611686018427387904) <|
 some (Ctl.next (l6_m4+1,l6_m3.set l6_m4 x11)))
 (some (Ctl.out l6_m3))
def F8 (a0:List Int):Option (List Int) :=
 og (0<=((a0.length:Nat):Int)∧((a0.length:Nat):Int)<=((a0.length:Nat):Int)∧((a0.length:Nat):Int)<=1073741824∧(8:Int)*((a0.length:Nat):Int)<=140737488355328) <|
Option.bind (A1 (fun s_:Nat×List Int=>Dv a0 s_.1 s_.2) 4611686018427387904 (0,List.replicate a0.length (0:Int))) fun l4_m3 =>
some l4_m3
def T3 (r:List Int):RV:=⟨false,[(false,[.new 3 .int r])]⟩
theorem Un {a0:List Int} {r:List Int} (h:F8 a0=some r):A6 Tryd.prog Tab 38 [.tree .int a0] (T3 r):=by
 refine A5 (by kernel_rfl) Tryd.func38 Wy (n:=22) (by kernel_rfl) (by simp) (tl:=[(0,.tree .int a0)]) rfl ?_;unfold Ng;unfold F8 at h;refine Am ?_;refine Ab ?_;obtain ⟨g3,h⟩:=Aq h;refine Aa 6 ?_;refine rz0 (.tree .int a0) ?_;refine rz0 (ai ((a0.length:Nat):Int)) ?_;refine rs1 (.own (oi 7 4) .int 0 a0.length) (oi 7 4) (.arr 3 .int (List.replicate a0.length (0:Int))) (Ahi (t:=.int) (k:=.i64) (k':=.i64) (m:=((a0.length:Nat):Int)) (m':=((a0.length:Nat):Int)) (by kernel_rfl) (by kernel_rfl) g3 rfl) ?_;refine rsB 1 ?_;refine As (tn_ ?_);refine wr_ ?_;refine Ay h (fun (l4_m3:List Int) S_=>S_=⟨Al [(3,.own (oi 0 1) .int 0 l4_m3.length)],Af (Ao [(oi 0 1,.arr 3 .int l4_m3)]),2⟩) ?_ ?_
 ·intro v_ h;refine Am ?_;refine Ai ?_;refine Az h (fun t_ S_=>∃ (l6_m4:Nat),∃ (l6_m3:List Int),t_=(l6_m4,l6_m3)∧S_=⟨Al [(0,.tree .int a0),(3,.own (oi 0 1) .int 0 l6_m3.length),(4,ai ((l6_m4:Nat):Int))],Af (Ao [(oi 0 1,.arr 3 .int l6_m3)]),2⟩) ⟨_,(Bn 3 (.own (oi 7 4) .int 0 a0.length) (.own (oi 7 4) .int 0 ((List.replicate a0.length (0:Int)).length)) (by kernel_rfl) (congrArg (fun z_=>((.own (oi 7 4) .int 0 z_):AV)) (List.length_replicate.symm:a0.length=(List.replicate a0.length (0:Int)).length))).trans (Ac [(oi 0 1,oi 7 4)]),⟨0,List.replicate a0.length (0:Int),rfl,rfl⟩⟩ ?_;rintro n_ _ _ c_ ⟨l6_m4,l6_m3,rfl,rfl⟩ h hn6
  (try dsimp only at h);unfold Dv at h;unfold J0;refine Ab ?_;refine Am ?_;rcases Ad h with ⟨q9,h⟩ | ⟨q9,h⟩
  ·have q9_:=of_decide_eq_true q9;refine Ag q9 ?_;refine Aj (tn_ ?_);refine wr_ ?_;refine Ab ?_;refine Ai ?_;obtain ⟨x11,e11,h⟩:=Ae h;obtain ⟨x12,e12,h⟩:=Ae h;refine Aa 14 ?_;refine rz0 (.own (oi 0 1) .int 0 l6_m3.length) ?_;refine rz0 (ai ((l6_m4:Nat):Int)) ?_;refine rz0 (.tree .int a0) ?_;refine rz0 (ai ((l6_m4:Nat):Int)) ?_;refine rs0 (.telt none .int x11 0) (zi (t:=.int) (xs:=a0) (k:=.i64) (m:=((l6_m4:Nat):Int)) (A0 _) e11) ?_;refine rz0 (ai x11) ?_;refine rs0 (.elt (oi 0 1) l6_m4 0) (zo (t:=.int) (o:=oi 0 1) (len:=l6_m3.length) (k:=.i64) (m:=((l6_m4:Nat):Int)) (A0 _) (At e12)) ?_;refine Afl (oi 0 1) (oi 0 1) (.arr 3 .int (l6_m3.set l6_m4 x11)) (Tl (i:=oi 0 1) (j:=l6_m4) (k:=0) (e:=3) (t:=.int) (xs:=l6_m3) (cs:=[ai x11]) (x1:=x11) (by kernel_rfl) (by kernel_rfl) e12 (by kernel_rfl) (by kernel_rfl)) ?_;refine As (bn_ (tn_ ?_));refine wr_ ?_;obtain ⟨g13,h⟩:=Aq h;refine Aa 17 ?_;refine rz0 (ai ((l6_m4:Nat):Int)) ?_;refine rs0 (ai ((l6_m4+1:Nat):Int)) (za g13) ?_;refine rsB 1 ?_;refine As (tn_ ?_);obtain rfl:=zj h;exact ⟨(l6_m4+1,l6_m3.set l6_m4 x11),_,(Bn 3 (.own (oi 0 1) .int 0 l6_m3.length) (.own (oi 0 1) .int 0 ((l6_m3.set l6_m4 x11).length)) (by kernel_rfl) (congrArg (fun z_=>((.own (oi 0 1) .int 0 z_):AV)) (((rfl:l6_m3.length=l6_m3.length).trans List.length_set.symm):l6_m3.length=(l6_m3.set l6_m4 x11).length))).trans (Ac []),⟨l6_m4+1,l6_m3.set l6_m4 x11,rfl,rfl⟩,hn6⟩
  have q9_:=of_decide_eq_false q9;refine Ah q9 ?_;refine Ax (te_ (te_ (be_ (tn_ ?_))));obtain rfl:=zj h;have h:=hn6
  (try dsimp only at h);obtain rfl:=zj h;exact ⟨_,Ac [],rfl⟩
 rintro l4_m3 _ rfl h
 (try dsimp only at h);refine Am ?_;refine Ak ?_;obtain rfl:=zj h;exact Bl [.own (oi 0 1) .int 0 l4_m3.length] (A7 rfl (Xz (by kernel_rfl) rfl) A8)
def Kl:AC :=
 (.seq (.seq (rg [xo 11 (qm (tm 5)),xo 12 (qm (tm 0)),xo 13 (.i (.len (tm 12))),xo 14 (qb .lss (tm 11) (tm 13))])
 (.cond (tm 14)
  .skip
  (.exit 0)))
 (.seq (.block 1 (.seq (.region [xo 17 (qm (tm 0)),xo 18 (qm (tm 5)),xo 19 (qx 1 (tm 17) (tm 18)),xo 20 (ql (tm 19)),xo 21 (qm (tm 1)),xo 22 (qm (tm 5)),xo 23 (qx 1 (tm 21) (tm 22)),xo 24 (ql (tm 23)),xo 25 (qb .neq (tm 20) (tm 24))] true [])
 (.cond (tm 25)
  (.seq (rg [xo 4 (qm (cb false))])
  .ret)
  .skip)))
 (rg [xo 15 (qm (tm 5)),xo 16 (qb .add (tm 15) (ci 1)),xo 5 (qm (tm 16))])))
def Nr:AC :=
 (.seq (rg [xo 4 (qm (cb false))])
 (.seq (.seq (rg [xo 6 (qm (tm 0)),xo 7 (.i (.len (tm 6))),xo 8 (qm (tm 1)),xo 9 (.i (.len (tm 8))),xo 10 (qb .neq (tm 7) (tm 9))])
 (.cond (tm 10)
  (.seq (rg [xo 4 (qm (cb false))])
  .ret)
  .skip))
 (.seq (.seq (rg [xo 5 (qm (ci 0))])
 (.block 0 (.loop Kl)))
 (.seq (rg [xo 4 (qm (cb true))])
 .ret))))
def We:List Res:=[.tmp 4]
theorem V0:Ap Tryd.prog Tryd.f46=some (Nr,We):=by kernel_rfl
theorem Tq:A2 Tryd.prog 46=true:=by kernel_rfl
def Dw (a0:List Int) (a1:List Int) (l8_m5:Nat):Option (Ctl Nat (Ctl Unit Bool)) :=
 cond (decide (((l8_m5:Nat):Int)<((a0.length:Nat):Int)))
 (Option.bind (a0[l8_m5]?) fun x14 =>
 Option.bind (a1[l8_m5]?) fun x15 =>
 cond (x14 !=x15)
  (some (Ctl.out (Ctl.out false)))
  (og (l8_m5+1<4611686018427387904) <|
  some (Ctl.next (l8_m5+1))))
 (some (Ctl.out (Ctl.next ())))
def F6 (a0:List Int) (a1:List Int):Option Bool :=
 cond (((a0.length:Nat):Int) !=((a1.length:Nat):Int))
 (some false)
 (M9 (A1 (fun s_:Nat=>Dw a0 a1 s_) 4611686018427387904 0) fun _ =>
 some true)
def U6 (r:Bool):RV:=⟨false,[(false,[.sc (.bool r)])]⟩
theorem To {a0:List Int} {a1:List Int} {r:Bool} (h:F6 a0 a1=some r):A6 Tryd.prog Tab 46 [.tree .int a0,.tree .int a1] (U6 r):=by
 refine A5 (by kernel_rfl) Tryd.func46 V0 (n:=26) (by kernel_rfl) (by simp) (tl:=[(0,.tree .int a0),(1,.tree .int a1)]) rfl ?_;unfold Nr;unfold F6 at h;refine Am ?_;refine Ab ?_;refine Am ?_;rcases Ad h with ⟨q4,h⟩ | ⟨q4,h⟩
 ·refine Ag q4 ?_;refine Am ?_;refine Ak (tr_ ?_);obtain rfl:=zj h;exact Bl [.bool false] (A7 rfl zl A8)
 refine Ah q4 ?_;refine Aj (tn_ ?_);refine wr_ ?_;refine Ds h (fun (_:Unit) S_=>S_=⟨Al [],Af (Ao []),2⟩) ?_ ?_
 ·intro v_ h hk6;refine Am ?_;refine Ai ?_;refine Az h (fun (l8_m5:Nat) S_=>S_=⟨Al [(0,.tree .int a0),(1,.tree .int a1),(5,ai ((l8_m5:Nat):Int))],Af (Ao []),2⟩) ⟨_,Ac [],rfl⟩ ?_;rintro n_ l8_m5 _ c_ rfl h hn8
  (try dsimp only at h);unfold Dw at h;unfold Kl;refine Ab ?_;refine Am ?_;rcases Ad h with ⟨q11,h⟩ | ⟨q11,h⟩
  ·have q11_:=of_decide_eq_true q11;refine Ag q11 ?_;refine Aj (tn_ ?_);refine wr_ ?_;refine Ab ?_;refine Ai ?_;refine Ab ?_;obtain ⟨x14,e14,h⟩:=Ae h;obtain ⟨x15,e15,h⟩:=Ae h;refine Bb 15 ?_;refine dz0 (.tree .int a0) ?_;refine dz0 (ai ((l8_m5:Nat):Int)) ?_;refine ds0 (.telt none .int x14 0) (zi (t:=.int) (xs:=a0) (k:=.i64) (m:=((l8_m5:Nat):Int)) (A0 _) e14) ?_;refine dz0 (ai x14) ?_;refine dz0 (.tree .int a1) ?_;refine dz0 (ai ((l8_m5:Nat):Int)) ?_;refine ds0 (.telt none .int x15 0) (zi (t:=.int) (xs:=a1) (k:=.i64) (m:=((l8_m5:Nat):Int)) (A0 _) e15) ?_;refine dz0 (ai x15) ?_;refine dz0 (.bool (x14 !=x15)) ?_;refine Ky (Bx (by kernel_rfl)) (tn_ ?_);refine wr_ ?_;rcases Ad h with ⟨q16,h⟩ | ⟨q16,h⟩
   ·refine Ag q16 ?_;refine Am ?_;refine Ak (br_ (tr_ (tr_ (br_ (tr_ ?_)))));obtain rfl:=zj h;have h:=hn8
    (try dsimp only at h);obtain rfl:=zj h;have h:=hk6
    (try dsimp only at h);obtain rfl:=zj h;exact Bl [.bool false] (A7 rfl zl A8)
   refine Ah q16 ?_;refine Aj (bn_ (tn_ ?_));refine wr_ ?_;obtain ⟨g18,h⟩:=Aq h;refine Aa 18 ?_;refine rz0 (ai ((l8_m5:Nat):Int)) ?_;refine rs0 (ai ((l8_m5+1:Nat):Int)) (za g18) ?_;refine rsB 1 ?_;refine As (tn_ ?_);obtain rfl:=zj h;exact ⟨l8_m5+1,_,Ac [],rfl,hn8⟩
  have q11_:=of_decide_eq_false q11;refine Ah q11 ?_;refine Ax (te_ (te_ (be_ (tn_ ?_))));obtain rfl:=zj h;have h:=hn8
  (try dsimp only at h);obtain rfl:=zj h;exact ⟨(),_,rfl,Ac [],rfl⟩
 rintro _ _ rfl h
 (try dsimp only at h);refine Am ?_;refine Ak ?_;obtain rfl:=zj h;exact Bl [.bool true] (A7 rfl zl A8)
def Ig:AC :=
 (.seq (.seq (rg [xo 6 (qm (tm 5)),xo 7 (qm (tm 0)),xo 8 (.i (.len (tm 7))),xo 9 (qb .lss (tm 6) (tm 8))])
 (.cond (tm 9)
  .skip
  (.exit 0)))
 (.seq (.block 1 (.seq (rg [xo 12 (qm (tm 0)),xo 13 (qm (tm 5)),xo 14 (qm (tm 1)),xo 15 (qx 1 (tm 12) (tm 13)),xn (qs (tm 15) (tm 14))])
 (rg [xo 16 (qm (tm 1)),xo 17 (qb .add (tm 16) (ci 1)),xo 1 (qm (tm 17))])))
 (rg [xo 10 (qm (tm 5)),xo 11 (qb .add (tm 10) (ci 1)),xo 5 (qm (tm 11))])))
def Lb:AC :=
 (.seq (rg [xo 4 (qm (ci 0))])
 (.seq (.seq (rg [xo 5 (qm (ci 0))])
 (.block 0 (.loop Ig)))
 (.seq (rg [xo 18 (qm (tm 1)),xo 4 (qm (tm 18))])
 .ret)))
def R0:List Res:=[.tmp 4]
theorem R5:Ap Tryd.prog Tryd.f47=some (Lb,R0):=by kernel_rfl
theorem Qo:A2 Tryd.prog 47=true:=by kernel_rfl
def C9  (l5_m1:Int) (l5_m5:Nat) (l5_m0:List Int):Option (Ctl (Int×Nat×List Int) (Int×List Int)) :=
 cond (decide (((l5_m5:Nat):Int)<((l5_m0.length:Nat):Int)))
 (Option.bind (l5_m0[l5_m5]?) fun x11 =>
 og (l5_m5+1<4611686018427387904) <|
 some (Ctl.next (wI (l5_m1+1),l5_m5+1,l5_m0.set l5_m5 l5_m1)))
 (some (Ctl.out (l5_m1,l5_m0)))
def Eu (a0:List Int) (a1:Int):Option (List Int×Int) :=
 Option.bind (A1 (fun s_:Int×Nat×List Int=>C9 s_.1 s_.2.1 s_.2.2) 4611686018427387904 (a1,0,a0)) fun (l3_m1,l3_p0) =>
some (l3_p0,l3_m1)
theorem Rd {a0:List Int} {a1:Int} {r:List Int×Int} (h:Eu a0 a1=some r) {n_a0:Nat} (hn_a0:n_a0=a0.length):Eg Tryd.prog Tab 47 [.own (oi 0 0) .int 0 n_a0,ai a1] [(oi 0 0,.arr 3 .int a0)] (ai r.2) [(oi 0 0,.arr 3 .int r.1)]:=by
 refine Cn (by kernel_rfl) Tryd.func47 R5 (n:=19) (by kernel_rfl) (by simp) (tl:=[(0,.own (oi 0 0) .int 0 n_a0),(1,ai a1)]) rfl (by kernel_rfl) ⟨trivial,trivial⟩ ⟨trivial,trivial⟩ ?_;unfold Lb;unfold Eu at h;refine Am ?_;refine Ay h (fun t_ S_=>∃ (l3_m1:Int),∃ (l3_p0:List Int),t_=(l3_m1,l3_p0)∧S_=⟨Al [(1,ai l3_m1)],Af (Ao [(oi 0 0,.arr 3 .int l3_p0)]),2⟩) ?_ ?_
 ·intro v_ h;refine Am ?_;refine Ai ?_;refine Az h (fun t_ S_=>∃ (l5_m1:Int),∃ (l5_m5:Nat),∃ (l5_m0:List Int),t_=(l5_m1,l5_m5,l5_m0)∧S_=⟨Al [(0,.own (oi 0 0) .int 0 l5_m0.length),(1,ai l5_m1),(5,ai ((l5_m5:Nat):Int))],Af (Ao [(oi 0 0,.arr 3 .int l5_m0)]),2⟩) ⟨_,(Bn 0 (.own (oi 0 0) .int 0 n_a0) (.own (oi 0 0) .int 0 a0.length) (by kernel_rfl) (congrArg (fun z_=>((.own (oi 0 0) .int 0 z_):AV)) (hn_a0:n_a0=a0.length))).trans (Ac []),⟨a1,0,a0,rfl,rfl⟩⟩ ?_;rintro n_ _ _ c_ ⟨l5_m1,l5_m5,l5_m0,rfl,rfl⟩ h hn5
  (try dsimp only at h);unfold C9 at h;unfold Ig;refine Ab ?_;refine Am ?_;rcases Ad h with ⟨q8,h⟩ | ⟨q8,h⟩
  ·have q8_:=of_decide_eq_true q8;refine Ag q8 ?_;refine Aj (tn_ ?_);refine wr_ ?_;refine Ab ?_;refine Ai ?_;refine Ab ?_;obtain ⟨x11,e11,h⟩:=Ae h;refine Aa 11 ?_;refine rz0 (.own (oi 0 0) .int 0 l5_m0.length) ?_;refine rz0 (ai ((l5_m5:Nat):Int)) ?_;refine rz0 (ai l5_m1) ?_;refine rs0 (.elt (oi 0 0) l5_m5 0) (zo (t:=.int) (o:=oi 0 0) (len:=l5_m0.length) (k:=.i64) (m:=((l5_m5:Nat):Int)) (A0 _) (At e11)) ?_;refine Afl (oi 0 0) (oi 0 0) (.arr 3 .int (l5_m0.set l5_m5 l5_m1)) (Tl (i:=oi 0 0) (j:=l5_m5) (k:=0) (e:=3) (t:=.int) (xs:=l5_m0) (cs:=[ai l5_m1]) (x1:=l5_m1) (by kernel_rfl) (by kernel_rfl) e11 (by kernel_rfl) (by kernel_rfl)) ?_;refine As (tn_ ?_);refine wr_ ?_;refine Aa 14 ?_;refine rsB 3 ?_;refine As (bn_ (tn_ ?_));refine wr_ ?_;obtain ⟨g12,h⟩:=Aq h;refine Aa 17 ?_;refine rz0 (ai ((l5_m5:Nat):Int)) ?_;refine rs0 (ai ((l5_m5+1:Nat):Int)) (za g12) ?_;refine rsB 1 ?_;refine As (tn_ ?_);obtain rfl:=zj h;exact ⟨(wI (l5_m1+1),l5_m5+1,l5_m0.set l5_m5 l5_m1),_,(Bn 0 (.own (oi 0 0) .int 0 l5_m0.length) (.own (oi 0 0) .int 0 ((l5_m0.set l5_m5 l5_m1).length)) (by kernel_rfl) (congrArg (fun z_=>((.own (oi 0 0) .int 0 z_):AV)) (((rfl:l5_m0.length=l5_m0.length).trans List.length_set.symm):l5_m0.length=(l5_m0.set l5_m5 l5_m1).length))).trans (Ac []),⟨wI (l5_m1+1),l5_m5+1,l5_m0.set l5_m5 l5_m1,rfl,rfl⟩,hn5⟩
  have q8_:=of_decide_eq_false q8;refine Ah q8 ?_;refine Ax (te_ (te_ (be_ (tn_ ?_))));obtain rfl:=zj h;have h:=hn5
  (try dsimp only at h);obtain rfl:=zj h;exact ⟨_,Ac [],⟨l5_m1,l5_m0,rfl,rfl⟩⟩
 rintro _ _ ⟨l3_m1,l3_p0,rfl,rfl⟩ h
 (try dsimp only at h);refine Am ?_;refine Ak ?_;obtain rfl:=zj h;exact Gq [ai l3_m1] (Ac (tl:=[(4,ai l3_m1)]) (g:=2) [])
def Iu:AC :=
 (.seq (.seq (rg [xo 6 (qm (tm 5)),xo 7 (qm (tm 0)),xo 8 (.i (.len (tm 7))),xo 9 (qb .lss (tm 6) (tm 8))])
 (.cond (tm 9)
  .skip
  (.exit 0)))
 (.seq (.block 1 (.seq (.seq (rg [xo 12 (qm (tm 0)),xo 13 (qm (tm 5)),xo 14 (qx 1 (tm 12) (tm 13)),xo 15 (ql (tm 14)),xo 16 (qm (tm 1)),xo 17 (qb .neq (tm 15) (tm 16))])
 (.cond (tm 17)
  (.seq (rg [xo 4 (qm (ci (-1)))])
  .ret)
  .skip))
 (rg [xo 18 (qm (tm 1)),xo 19 (qb .add (tm 18) (ci 1)),xo 1 (qm (tm 19))])))
 (rg [xo 10 (qm (tm 5)),xo 11 (qb .add (tm 10) (ci 1)),xo 5 (qm (tm 11))])))
def Lo:AC :=
 (.seq (rg [xo 4 (qm (ci 0))])
 (.seq (.seq (rg [xo 5 (qm (ci 0))])
 (.block 0 (.loop Iu)))
 (.seq (rg [xo 20 (qm (tm 1)),xo 4 (qm (tm 20))])
 .ret)))
def R7:List Res:=[.tmp 4]
theorem Rs:Ap Tryd.prog Tryd.f48=some (Lo,R7):=by kernel_rfl
def C5 (a0:List Int) (l4_m1:Int) (l4_m5:Nat):Option (Ctl (Int×Nat) (Ctl Int Int)) :=
 cond (decide (((l4_m5:Nat):Int)<((a0.length:Nat):Int)))
 (Option.bind (a0[l4_m5]?) fun x11 =>
 cond (x11 !=l4_m1)
  (some (Ctl.out (Ctl.out (-1))))
  (og (l4_m5+1<4611686018427387904) <|
  some (Ctl.next (wI (l4_m1+1),l4_m5+1))))
 (some (Ctl.out (Ctl.next l4_m1)))
def Ef (a0:List Int) (a1:Int):Option Int :=
 M9 (A1 (fun s_:Int×Nat=>C5 a0 s_.1 s_.2) 4611686018427387904 (a1,0)) fun l2_m1 =>
some l2_m1
def Q1 (r:Int):RV:=⟨false,[(false,[.sc (.int .i64 r)])]⟩
theorem Q5 {a0:List Int} {a1:Int} {r:Int} (h:Ef a0 a1=some r):A6 Tryd.prog Tab 48 [.tree .int a0,ai a1] (Q1 r):=by
 refine A5 (by kernel_rfl) Tryd.func48 Rs (n:=21) (by kernel_rfl) (by simp) (tl:=[(0,.tree .int a0),(1,ai a1)]) rfl ?_;unfold Lo;unfold Ef at h;refine Am ?_;refine Ds h (fun (l2_m1:Int) S_=>S_=⟨Al [(1,ai l2_m1)],Af (Ao []),2⟩) ?_ ?_
 ·intro v_ h hk2;refine Am ?_;refine Ai ?_;refine Az h (fun t_ S_=>∃ (l4_m1:Int),∃ (l4_m5:Nat),t_=(l4_m1,l4_m5)∧S_=⟨Al [(0,.tree .int a0),(1,ai l4_m1),(5,ai ((l4_m5:Nat):Int))],Af (Ao []),2⟩) ⟨_,Ac [],⟨a1,0,rfl,rfl⟩⟩ ?_;rintro n_ _ _ c_ ⟨l4_m1,l4_m5,rfl,rfl⟩ h hn4
  (try dsimp only at h);unfold C5 at h;unfold Iu;refine Ab ?_;refine Am ?_;rcases Ad h with ⟨q7,h⟩ | ⟨q7,h⟩
  ·have q7_:=of_decide_eq_true q7;refine Ag q7 ?_;refine Aj (tn_ ?_);refine wr_ ?_;refine Ab ?_;refine Ai ?_;refine Ab ?_;refine Ab ?_;obtain ⟨x11,e11,h⟩:=Ae h;refine Aa 12 ?_;refine rz0 (.tree .int a0) ?_;refine rz0 (ai ((l4_m5:Nat):Int)) ?_;refine rs0 (.telt none .int x11 0) (zi (t:=.int) (xs:=a0) (k:=.i64) (m:=((l4_m5:Nat):Int)) (A0 _) e11) ?_;refine rsB 3 ?_;refine As (tn_ ?_);refine wr_ ?_;rcases Ad h with ⟨q12,h⟩ | ⟨q12,h⟩
   ·refine Ag q12 ?_;refine Am ?_;refine Ak (tr_ (br_ (tr_ (tr_ (br_ (tr_ ?_))))));obtain rfl:=zj h;have h:=hn4
    (try dsimp only at h);obtain rfl:=zj h;have h:=hk2
    (try dsimp only at h);obtain rfl:=zj h;exact Bl [ai (-1)] (A7 rfl zl A8)
   refine Ah q12 ?_;refine Aj (tn_ ?_);refine wr_ ?_;refine Aa 15 ?_;refine rsB 3 ?_;refine As (bn_ (tn_ ?_));refine wr_ ?_;obtain ⟨g14,h⟩:=Aq h;refine Aa 18 ?_;refine rz0 (ai ((l4_m5:Nat):Int)) ?_;refine rs0 (ai ((l4_m5+1:Nat):Int)) (za g14) ?_;refine rsB 1 ?_;refine As (tn_ ?_);obtain rfl:=zj h;exact ⟨(wI (l4_m1+1),l4_m5+1),_,Ac [],⟨wI (l4_m1+1),l4_m5+1,rfl,rfl⟩,hn4⟩
  have q7_:=of_decide_eq_false q7;refine Ah q7 ?_;refine Ax (te_ (te_ (be_ (tn_ ?_))));obtain rfl:=zj h;have h:=hn4
  (try dsimp only at h);obtain rfl:=zj h;exact ⟨l4_m1,_,rfl,Ac [],rfl⟩
 rintro l2_m1 _ rfl h
 (try dsimp only at h);refine Am ?_;refine Ak ?_;obtain rfl:=zj h;exact Bl [ai l2_m1] (A7 rfl zl A8)
def Ro:AC :=
 (.seq (rg [xo 6 (qm (cb false))])
 (.seq (rg [xo 7 (qm (tm 0)),xo 8 (qm (tm 1)),xo 9 (qb .geq (tm 7) (tm 8)),xo 10 (qm (tm 9)),⟨some 11,some (10,true),qm (tm 0)⟩,⟨some 12,some (10,true),qm (tm 2)⟩,⟨some 13,some (10,true),qb .leq (tm 11) (tm 12)⟩,xo 14 (.i (.pick (tm 10) (tm 13) (cb false))),xo 6 (qm (tm 14))])
 .ret))
def Abj:List Res:=[.tmp 6]
theorem Abb:Ap Tryd.prog Tryd.f35=some (Ro,Abj):=by kernel_rfl
theorem D8:A2 Tryd.prog 35=true:=by kernel_rfl
def D5 (a0:Int) (a1:Int) (a2:Int):Option Bool :=
 Option.bind (cond (decide (a1<=a0))
  (some (decide (a0<=a2)))
  (some false)) fun l2_m6 =>
some l2_m6
def Y6 (r:Bool):RV:=⟨false,[(false,[.sc (.bool r)])]⟩
theorem Cv {a0:Int} {a1:Int} {a2:Int} {r:Bool} (h:D5 a0 a1 a2=some r):A6 Tryd.prog Tab 35 [ai a0,ai a1,ai a2] (Y6 r):=by
 refine A5 (by kernel_rfl) Tryd.func35 Abb (n:=15) (by kernel_rfl) (by simp) (tl:=[(0,ai a0),(1,ai a1),(2,ai a2)]) rfl ?_;unfold Ro;unfold D5 at h;refine Am ?_;refine Ay h (fun (l2_m6:Bool) S_=>S_=⟨Al [(6,.bool l2_m6)],Af (Ao []),2⟩) ?_ ?_
 ·intro v_ h;rcases Ad h with ⟨q3,h⟩ | ⟨q3,h⟩
  ·have q3_:=of_decide_eq_true q3;refine Aa 11 ?_;refine rz0 (ai a0) ?_;refine rz0 (ai a1) ?_;refine rz0 (.bool (decide (a1<=a0))) ?_;refine rz0 (.bool (decide (a1<=a0))) ?_;refine rs0 (ai a0) (zg q3) ?_;refine rs0 (ai a2) (zg q3) ?_;refine rs0 (.bool (decide (a0<=a2))) (zg q3) ?_;refine rs0 (.bool (decide (a0<=a2))) (zT q3) ?_;refine rsB 1 ?_;refine As (tn_ ?_);obtain rfl:=zj h;exact ⟨_,Ac [],rfl⟩
  have q3_:=of_decide_eq_false q3;refine Aa 11 ?_;refine rz0 (ai a0) ?_;refine rz0 (ai a1) ?_;refine rz0 (.bool (decide (a1<=a0))) ?_;refine rz0 (.bool (decide (a1<=a0))) ?_;refine zs q3 ?_;refine zs q3 ?_;refine zs q3 ?_;refine rs0 (.bool false) (zF q3) ?_;refine rsB 1 ?_;refine As (tn_ ?_);obtain rfl:=zj h;exact ⟨_,Ac [],rfl⟩
 rintro l2_m6 _ rfl h
 (try dsimp only at h);refine Ak ?_;obtain rfl:=zj h;exact Bl [.bool l2_m6] (A7 rfl zl A8)
def J6:AC :=
 (.seq (.seq (rg [xo 7 (qm (tm 3)),xo 8 (qm (tm 3)),xo 9 (qb .mul (tm 7) (tm 8)),xo 10 (qm (tm 0)),xo 11 (qb .leq (tm 9) (tm 10))])
 (.cond (tm 11)
  .skip
  (.exit 0)))
 (.seq (.block 1 (.seq (rg [xo 14 (qm (tm 0)),xo 15 (qm (tm 3)),xo 16 (qb .rem (tm 14) (tm 15)),xo 17 (qb .eql (tm 16) (ci 0))])
 (.cond (tm 17)
  (.seq (rg [xo 2 (qm (cb false))])
  .ret)
  .skip)))
 (rg [xo 12 (qm (tm 3)),xo 13 (qb .add (tm 12) (ci 1)),xo 3 (qm (tm 13))])))
def Nt:AC :=
 (.seq (rg [xo 2 (qm (cb false))])
 (.seq (.seq (rg [xo 4 (qm (tm 0)),xo 5 (qc 35 [tm 4,ci 2,ci 97] [[],[],[]]),xo 6 (.i (.not (tm 5)))])
 (.cond (tm 6)
  (.seq (rg [xo 2 (qm (cb false))])
  .ret)
  .skip))
 (.seq (.seq (rg [xo 3 (qm (ci 2))])
 (.block 0 (.loop J6)))
 (.seq (rg [xo 2 (qm (cb true))])
 .ret))))
def Wi:List Res:=[.tmp 2]
theorem Wa:Ap Tryd.prog Tryd.f34=some (Nt,Wi):=by kernel_rfl
def Dr (a0:Int) (l9_m3:Nat):Option (Ctl Nat (Ctl Unit Bool)) :=
 cond (decide (wI (((l9_m3:Nat):Int)*((l9_m3:Nat):Int))<=a0))
 (og (((l9_m3:Nat):Int)≠0) <|
 cond ((Int.tmod a0 ((l9_m3:Nat):Int))==0)
  (some (Ctl.out (Ctl.out false)))
  (og (l9_m3+1<4611686018427387904) <|
  some (Ctl.next (l9_m3+1))))
 (some (Ctl.out (Ctl.next ())))
def F4 (a0:Int):Option Bool :=
 Option.bind (D5 a0 2 97) fun y4 =>
cond (!y4)
 (some false)
 (M9 (A1 (fun s_:Nat=>Dr a0 s_) 4611686018427387904 2) fun _ =>
 some true)
def Uv (r:Bool):RV:=⟨false,[(false,[.sc (.bool r)])]⟩
theorem Fc {a0:Int} {r:Bool} (h:F4 a0=some r):A6 Tryd.prog Tab 34 [ai a0] (Uv r):=by
 refine A5 (by kernel_rfl) Tryd.func34 Wa (n:=18) (by kernel_rfl) (by simp) (tl:=[(0,ai a0)]) rfl ?_;unfold Nt;unfold F4 at h;refine Am ?_;refine Ab ?_;refine Ab ?_;obtain ⟨y4,h4,h⟩:=Ae h;refine Aa 5 ?_;refine rz0 (ai a0) ?_;refine zc (.bool y4) [] [ai a0,ai 2,ai 97] (Cv h4) ?_;refine rsB 1 ?_;refine As (tn_ ?_);refine wr_ ?_;rcases Ad h with ⟨q5,h⟩ | ⟨q5,h⟩
 ·refine Ag q5 ?_;refine Am ?_;refine Ak (tr_ ?_);obtain rfl:=zj h;exact Bl [.bool false] (A7 rfl zl A8)
 refine Ah q5 ?_;refine Aj (tn_ ?_);refine wr_ ?_;refine Ds h (fun (_:Unit) S_=>S_=⟨Al [],Af (Ao []),2⟩) ?_ ?_
 ·intro v_ h hk7;refine Am ?_;refine Ai ?_;refine Az h (fun (l9_m3:Nat) S_=>S_=⟨Al [(0,ai a0),(3,ai ((l9_m3:Nat):Int))],Af (Ao []),2⟩) ⟨_,Ac [],rfl⟩ ?_;rintro n_ l9_m3 _ c_ rfl h hn9
  (try dsimp only at h);unfold Dr at h;unfold J6;refine Ab ?_;refine Am ?_;rcases Ad h with ⟨q12,h⟩ | ⟨q12,h⟩
  ·have q12_:=of_decide_eq_true q12;refine Ag q12 ?_;refine Aj (tn_ ?_);refine wr_ ?_;refine Ab ?_;refine Ai ?_;refine Ab ?_;obtain ⟨g15,h⟩:=Aq h;refine Aa 11 ?_;refine rz0 (ai a0) ?_;refine rz0 (ai ((l9_m3:Nat):Int)) ?_;refine rs0 (ai (Int.tmod a0 ((l9_m3:Nat):Int))) (Lr (k:=.i64) (a:=a0) (b:=((l9_m3:Nat):Int)) (by kernel_rfl) (by kernel_rfl) g15) ?_;refine rsB 1 ?_;refine As (tn_ ?_);refine wr_ ?_;rcases Ad h with ⟨q16,h⟩ | ⟨q16,h⟩
   ·refine Ag q16 ?_;refine Am ?_;refine Ak (br_ (tr_ (tr_ (br_ (tr_ ?_)))));obtain rfl:=zj h;have h:=hn9
    (try dsimp only at h);obtain rfl:=zj h;have h:=hk7
    (try dsimp only at h);obtain rfl:=zj h;exact Bl [.bool false] (A7 rfl zl A8)
   refine Ah q16 ?_;refine Aj (bn_ (tn_ ?_));refine wr_ ?_;obtain ⟨g18,h⟩:=Aq h;refine Aa 14 ?_;refine rz0 (ai ((l9_m3:Nat):Int)) ?_;refine rs0 (ai ((l9_m3+1:Nat):Int)) (za g18) ?_;refine rsB 1 ?_;refine As (tn_ ?_);obtain rfl:=zj h;exact ⟨l9_m3+1,_,Ac [],rfl,hn9⟩
  have q12_:=of_decide_eq_false q12;refine Ah q12 ?_;refine Ax (te_ (te_ (be_ (tn_ ?_))));obtain rfl:=zj h;have h:=hn9
  (try dsimp only at h);obtain rfl:=zj h;exact ⟨(),_,rfl,Ac [],rfl⟩
 rintro _ _ rfl h
 (try dsimp only at h);refine Am ?_;refine Ak ?_;obtain rfl:=zj h;exact Bl [.bool true] (A7 rfl zl A8)
def Ll:AC :=
 (.seq (rg [xo 12 (qb .lss (tm 11) (tm 10))])
 (.seq (.cond (tm 12)
  .skip
  (.exit 0))
 (.seq (.block 1 (.seq (rg [xo 13 (qx 1 (tm 9) (tm 11)),xo 14 (ql (tm 13)),xo 8 (qm (tm 14))])
 (.seq (rg [xo 15 (qm (tm 8)),xo 16 (qm (tm 1)),xo 17 (qm (tm 2)),xo 18 (qc 35 [tm 15,tm 16,tm 17] [[],[],[]]),xo 19 (.i (.not (tm 18)))])
 (.cond (tm 19)
  (.seq (rg [xo 6 (qm (cb false))])
  .ret)
  .skip))))
 (rg [xo 20 (qb .add (tm 11) (ci 1)),xo 11 (qm (tm 20))]))))
def P2:AC :=
 (.seq (rg [xo 6 (qm (cb false))])
 (.seq (.seq (rg [xo 9 (qm (tm 0)),xo 10 (.i (.len (tm 9))),xo 11 (qm (ci 0))])
 (.block 0 (.loop Ll)))
 (.seq (rg [xo 6 (qm (cb true))])
 .ret)))
def Yp:List Res:=[.tmp 6]
theorem Zm:Ap Tryd.prog Tryd.f68=some (P2,Yp):=by kernel_rfl
def Gd (a0:List Int) (a1:Int) (a2:Int) (l4_m11:Nat):Option (Ctl Nat (Ctl Unit Bool)) :=
 cond (decide (((l4_m11:Nat):Int)<((a0.length:Nat):Int)))
 (Option.bind (a0[l4_m11]?) fun x10 =>
 Option.bind (D5 x10 a1 a2) fun y12 =>
 cond (!y12)
  (some (Ctl.out (Ctl.out false)))
  (og (l4_m11+1<4611686018427387904) <|
  some (Ctl.next (l4_m11+1))))
 (some (Ctl.out (Ctl.next ())))
def Gn (a0:List Int) (a1:Int) (a2:Int):Option Bool :=
 M9 (A1 (fun s_:Nat=>Gd a0 a1 a2 s_) 4611686018427387904 0) fun _ =>
some true
def Wn (r:Bool):RV:=⟨false,[(false,[.sc (.bool r)])]⟩
theorem Wo {a0:List Int} {a1:Int} {a2:Int} {r:Bool} (h:Gn a0 a1 a2=some r):A6 Tryd.prog Tab 68 [.tree .int a0,ai a1,ai a2] (Wn r):=by
 refine A5 (by kernel_rfl) Tryd.func68 Zm (n:=21) (by kernel_rfl) (by simp) (tl:=[(0,.tree .int a0),(1,ai a1),(2,ai a2)]) rfl ?_;unfold P2;unfold Gn at h;refine Am ?_;refine Ds h (fun (_:Unit) S_=>S_=⟨Al [],Af (Ao []),2⟩) ?_ ?_
 ·intro v_ h hk2;refine Am ?_;refine Ai ?_;refine Az h (fun (l4_m11:Nat) S_=>S_=⟨Al [(1,ai a1),(2,ai a2),(9,.tree .int a0),(10,ai ((a0.length:Nat):Int)),(11,ai ((l4_m11:Nat):Int))],Af (Ao []),2⟩) ⟨_,Ac [],rfl⟩ ?_;rintro n_ l4_m11 _ c_ rfl h hn4
  (try dsimp only at h);unfold Gd at h;unfold Ll;refine Am ?_;refine Ab ?_;rcases Ad h with ⟨q7,h⟩ | ⟨q7,h⟩
  ·have q7_:=of_decide_eq_true q7;refine Ag q7 ?_;refine Aj (tn_ ?_);refine wr_ ?_;refine Ab ?_;refine Ai ?_;refine Ab ?_;obtain ⟨x10,e10,h⟩:=Ae h;refine Aa 6 ?_;refine rs0 (.telt none .int x10 0) (zi (t:=.int) (xs:=a0) (k:=.i64) (m:=((l4_m11:Nat):Int)) (A0 _) e10) ?_;refine rsB 2 ?_;refine As (tn_ ?_);refine wr_ ?_;refine Ab ?_;obtain ⟨y12,h12,h⟩:=Ae h;refine Aa 11 ?_;refine rz0 (ai x10) ?_;refine rz0 (ai a1) ?_;refine rz0 (ai a2) ?_;refine zc (.bool y12) [] [ai x10,ai a1,ai a2] (Cv h12) ?_;refine rsB 1 ?_;refine As (tn_ ?_);refine wr_ ?_;rcases Ad h with ⟨q13,h⟩ | ⟨q13,h⟩
   ·refine Ag q13 ?_;refine Am ?_;refine Ak (br_ (tr_ (tr_ (br_ (tr_ ?_)))));obtain rfl:=zj h;have h:=hn4
    (try dsimp only at h);obtain rfl:=zj h;have h:=hk2
    (try dsimp only at h);obtain rfl:=zj h;exact Bl [.bool false] (A7 rfl zl A8)
   refine Ah q13 ?_;refine Aj (bn_ (tn_ ?_));refine wr_ ?_;obtain ⟨g15,h⟩:=Aq h;refine Aa 13 ?_;refine rs0 (ai ((l4_m11+1:Nat):Int)) (za g15) ?_;refine rsB 1 ?_;refine As (tn_ ?_);obtain rfl:=zj h;exact ⟨l4_m11+1,_,Ac [],rfl,hn4⟩
  have q7_:=of_decide_eq_false q7;refine Ah q7 ?_;refine Ax (te_ (te_ (be_ (tn_ ?_))));obtain rfl:=zj h;have h:=hn4
  (try dsimp only at h);obtain rfl:=zj h;exact ⟨(),_,rfl,Ac [],rfl⟩
 rintro _ _ rfl h
 (try dsimp only at h);refine Am ?_;refine Ak ?_;obtain rfl:=zj h;exact Bl [.bool true] (A7 rfl zl A8)
def Pp:AC :=
 (.seq (rg [xo 2 (qm (.cst .nils))])
 (.seq (rg [xo 3 (.mkS 3 .int []),xo 4 (qm (tm 0)),xo 5 (.append 3 .int 8 (tm 3) (tm 4)),xo 2 (qm (tm 5))])
 .ret))
def Yy:List Res:=[.tmp 2]
theorem Y7:Ap Tryd.prog Tryd.f24=some (Pp,Yy):=by kernel_rfl
theorem Wp:A2 Tryd.prog 24=true:=by kernel_rfl
def Fl (a0:List Int):Option (List Int) :=
 og (0+a0.length<=1073741824∧(0+a0.length)*8<=140737488355328) <|
some a0
def W0 (r:List Int):RV:=⟨false,[(false,[.new 3 .int r])]⟩
theorem Nl {a0:List Int} {r:List Int} (h:Fl a0=some r):A6 Tryd.prog Tab 24 [.tree .int a0] (W0 r):=by
 refine A5 (by kernel_rfl) Tryd.func24 Y7 (n:=6) (by kernel_rfl) (by simp) (tl:=[(0,.tree .int a0)]) rfl ?_;unfold Pp;unfold Fl at h;refine Am ?_;refine Ab ?_;obtain ⟨g3,h⟩:=Aq h;refine Aa 6 ?_;refine rs1 (.own (oi 3 2) .int 0 0) (oi 3 2) (.arr 3 .int []) (by kernel_rfl) ?_;refine rz0 (.tree .int a0) ?_;refine rs2 (.own (oi 3 4) .int 0 a0.length) (oi 3 2) (oi 3 4) (.arr 3 .int a0) (Yz (t:=.int) (t':=.int) (xs:=[]) (ys:=a0) (zs:=a0) (j:=oi 3 2) (len:=0) (c:=.tree .int a0) (by kernel_rfl) (by kernel_rfl) rfl (by kernel_rfl) Ad0 rfl g3) ?_;refine rsB 1 ?_;refine As (tn_ ?_);refine wr_ ?_;refine Ak ?_;obtain rfl:=zj h;exact Bl [.own (oi 3 4) .int 0 a0.length] (A7 rfl (Xz (by kernel_rfl) rfl) A8)
def Rq:AC :=
 (.seq (rg [xo 4 (qm (cb false))])
 (.seq (rg [xo 5 (qm (tm 1)),xo 6 (qm (tm 0)),xo 7 (qb .sub (tm 6) (ci 1)),xo 8 (qc 68 [tm 5,ci 0,tm 7] [[some .int],[],[]]),xo 4 (qm (tm 8))])
 .ret))
def Abc:List Res:=[.tmp 4]
theorem Abm:Ap Tryd.prog Tryd.f59=some (Rq,Abc):=by kernel_rfl
theorem Yt:A2 Tryd.prog 59=true:=by kernel_rfl
def He (a0:Int) (a1:List Int):Option Bool :=
 Option.bind (Gn a1 0 (wI (a0 - 1))) fun y3 =>
some y3
def Y0 (r:Bool):RV:=⟨false,[(false,[.sc (.bool r)])]⟩
theorem Zb {a0:Int} {a1:List Int} {r:Bool} (h:He a0 a1=some r):A6 Tryd.prog Tab 59 [ai a0,.tree .int a1] (Y0 r):=by
 refine A5 (by kernel_rfl) Tryd.func59 Abm (n:=9) (by kernel_rfl) (by simp) (tl:=[(0,ai a0),(1,.tree .int a1)]) rfl ?_;unfold Rq;unfold He at h;refine Am ?_;refine Ab ?_;obtain ⟨y3,h3,h⟩:=Ae h;refine Aa 7 ?_;refine rz0 (.tree .int a1) ?_;refine rz0 (ai a0) ?_;refine rz0 (ai (wI (a0 - 1))) ?_;refine zc (.bool y3) [] [.tree .int a1,ai 0,ai (wI (a0 - 1))] (Wo h3) ?_;refine rsB 1 ?_;refine As (tn_ ?_);refine wr_ ?_;refine Ak ?_;obtain rfl:=zj h;exact Bl [.bool y3] (A7 rfl zl A8)
def Pe:AC :=
 (.seq (rg [xo 6 (qm (ci 0))])
 (.seq (rg [xo 7 (qm (tm 1)),xo 8 (qm (tm 2)),xo 9 (qb .mul (tm 7) (tm 8)),xo 10 (qm (tm 0)),xo 11 (qb .rem (tm 9) (tm 10)),xo 6 (qm (tm 11))])
 .ret))
def Z0:List Res:=[.tmp 6]
theorem X7:Ap Tryd.prog Tryd.f53=some (Pe,Z0):=by kernel_rfl
theorem Nm:A2 Tryd.prog 53=true:=by kernel_rfl
def Fr (a0:Int) (a1:Int) (a2:Int):Option Int :=
 og (a0≠0) <|
some (Int.tmod (wI (a1*a2)) a0)
def Vy (r:Int):RV:=⟨false,[(false,[.sc (.int .i64 r)])]⟩
theorem Ny {a0:Int} {a1:Int} {a2:Int} {r:Int} (h:Fr a0 a1 a2=some r):A6 Tryd.prog Tab 53 [ai a0,ai a1,ai a2] (Vy r):=by
 refine A5 (by kernel_rfl) Tryd.func53 X7 (n:=12) (by kernel_rfl) (by simp) (tl:=[(0,ai a0),(1,ai a1),(2,ai a2)]) rfl ?_;unfold Pe;unfold Fr at h;refine Am ?_;refine Ab ?_;obtain ⟨g3,h⟩:=Aq h;refine Aa 8 ?_;refine rz0 (ai a1) ?_;refine rz0 (ai a2) ?_;refine rz0 (ai (wI (a1*a2))) ?_;refine rz0 (ai a0) ?_;refine rs0 (ai (Int.tmod (wI (a1*a2)) a0)) (Lr (k:=.i64) (a:=wI (a1*a2)) (b:=a0) (by kernel_rfl) (by kernel_rfl) g3) ?_;refine rsB 1 ?_;refine As (tn_ ?_);refine wr_ ?_;refine Ak ?_;obtain rfl:=zj h;exact Bl [ai (Int.tmod (wI (a1*a2)) a0)] (A7 rfl zl A8)
def Ni:AC :=
 (.seq (rg [xo 6 (qm (cb false))])
 (.seq (rg [xo 7 (qm (tm 0)),xo 8 (qm (tm 1)),xo 9 (qb .geq (tm 7) (tm 8)),xo 10 (qm (tm 9)),⟨some 11,some (10,true),qm (tm 0)⟩,⟨some 12,some (10,true),qm (tm 2)⟩,⟨some 13,some (10,true),qb .leq (tm 11) (tm 12)⟩,xo 14 (.i (.pick (tm 10) (tm 13) (cb false))),xo 6 (qm (tm 14))])
 .ret))
def Wg:List Res:=[.tmp 6]
theorem V6:Ap Tryd.prog Tryd.f40=some (Ni,Wg):=by kernel_rfl
theorem C2:A2 Tryd.prog 40=true:=by kernel_rfl
def Ev (a0:Int) (a1:Int) (a2:Int):Option Bool :=
 Option.bind (cond (decide (a1<=a0))
  (some (decide (a0<=a2)))
  (some false)) fun l2_m6 =>
some l2_m6
def U5 (r:Bool):RV:=⟨false,[(false,[.sc (.bool r)])]⟩
theorem Da {a0:Int} {a1:Int} {a2:Int} {r:Bool} (h:Ev a0 a1 a2=some r):A6 Tryd.prog Tab 40 [ai a0,ai a1,ai a2] (U5 r):=by
 refine A5 (by kernel_rfl) Tryd.func40 V6 (n:=15) (by kernel_rfl) (by simp) (tl:=[(0,ai a0),(1,ai a1),(2,ai a2)]) rfl ?_;unfold Ni;unfold Ev at h;refine Am ?_;refine Ay h (fun (l2_m6:Bool) S_=>S_=⟨Al [(6,.bool l2_m6)],Af (Ao []),2⟩) ?_ ?_
 ·intro v_ h;rcases Ad h with ⟨q3,h⟩ | ⟨q3,h⟩
  ·have q3_:=of_decide_eq_true q3;refine Aa 11 ?_;refine rz0 (ai a0) ?_;refine rz0 (ai a1) ?_;refine rz0 (.bool (decide (a1<=a0))) ?_;refine rz0 (.bool (decide (a1<=a0))) ?_;refine rs0 (ai a0) (zg q3) ?_;refine rs0 (ai a2) (zg q3) ?_;refine rs0 (.bool (decide (a0<=a2))) (zg q3) ?_;refine rs0 (.bool (decide (a0<=a2))) (zT q3) ?_;refine rsB 1 ?_;refine As (tn_ ?_);obtain rfl:=zj h;exact ⟨_,Ac [],rfl⟩
  have q3_:=of_decide_eq_false q3;refine Aa 11 ?_;refine rz0 (ai a0) ?_;refine rz0 (ai a1) ?_;refine rz0 (.bool (decide (a1<=a0))) ?_;refine rz0 (.bool (decide (a1<=a0))) ?_;refine zs q3 ?_;refine zs q3 ?_;refine zs q3 ?_;refine rs0 (.bool false) (zF q3) ?_;refine rsB 1 ?_;refine As (tn_ ?_);obtain rfl:=zj h;exact ⟨_,Ac [],rfl⟩
 rintro l2_m6 _ rfl h
 (try dsimp only at h);refine Ak ?_;obtain rfl:=zj h;exact Bl [.bool l2_m6] (A7 rfl zl A8)
def J5:AC :=
 (.seq (rg [xo 4 (qm (cb false))])
 (.seq (rg [xo 5 (qm (tm 1)),xo 6 (qb .geq (tm 5) (ci 0)),xo 7 (qm (tm 6)),⟨some 8,some (7,true),qm (tm 1)⟩,⟨some 9,some (7,true),qm (tm 0)⟩,⟨some 10,some (7,true),qb .lss (tm 8) (tm 9)⟩,xo 11 (.i (.pick (tm 7) (tm 10) (cb false))),xo 4 (qm (tm 11))])
 .ret))
def Qr:List Res:=[.tmp 4]
theorem Qd:Ap Tryd.prog Tryd.f69=some (J5,Qr):=by kernel_rfl
def D2 (a0:Int) (a1:Int):Option Bool :=
 Option.bind (cond (decide (0<=a1))
  (some (decide (a1<a0)))
  (some false)) fun l2_m4 =>
some l2_m4
def Ow (r:Bool):RV:=⟨false,[(false,[.sc (.bool r)])]⟩
theorem Pz {a0:Int} {a1:Int} {r:Bool} (h:D2 a0 a1=some r):A6 Tryd.prog Tab 69 [ai a0,ai a1] (Ow r):=by
 refine A5 (by kernel_rfl) Tryd.func69 Qd (n:=12) (by kernel_rfl) (by simp) (tl:=[(0,ai a0),(1,ai a1)]) rfl ?_;unfold J5;unfold D2 at h;refine Am ?_;refine Ay h (fun (l2_m4:Bool) S_=>S_=⟨Al [(4,.bool l2_m4)],Af (Ao []),2⟩) ?_ ?_
 ·intro v_ h;rcases Ad h with ⟨q3,h⟩ | ⟨q3,h⟩
  ·have q3_:=of_decide_eq_true q3;refine Aa 10 ?_;refine rz0 (ai a1) ?_;refine rz0 (.bool (decide (0<=a1))) ?_;refine rz0 (.bool (decide (0<=a1))) ?_;refine rs0 (ai a1) (zg q3) ?_;refine rs0 (ai a0) (zg q3) ?_;refine rs0 (.bool (decide (a1<a0))) (zg q3) ?_;refine rs0 (.bool (decide (a1<a0))) (zT q3) ?_;refine rsB 1 ?_;refine As (tn_ ?_);obtain rfl:=zj h;exact ⟨_,Ac [],rfl⟩
  have q3_:=of_decide_eq_false q3;refine Aa 10 ?_;refine rz0 (ai a1) ?_;refine rz0 (.bool (decide (0<=a1))) ?_;refine rz0 (.bool (decide (0<=a1))) ?_;refine zs q3 ?_;refine zs q3 ?_;refine zs q3 ?_;refine rs0 (.bool false) (zF q3) ?_;refine rsB 1 ?_;refine As (tn_ ?_);obtain rfl:=zj h;exact ⟨_,Ac [],rfl⟩
 rintro l2_m4 _ rfl h
 (try dsimp only at h);refine Ak ?_;obtain rfl:=zj h;exact Bl [.bool l2_m4] (A7 rfl zl A8)
def I8:AC :=
 (.seq (rg [xo 16 (qb .lss (tm 15) (tm 14))])
 (.seq (.cond (tm 16)
  .skip
  (.exit 0))
 (.seq (.block 1 (.seq (rg [xo 17 (qx 1 (tm 13) (tm 15)),xo 18 (ql (tm 17)),xo 8 (qm (tm 18))])
 (.seq (rg [xo 19 (qm (tm 0)),xo 20 (qm (tm 8)),xo 21 (qc 69 [tm 19,tm 20] [[],[]]),xo 22 (.i (.not (tm 21)))])
 (.cond (tm 22)
  (.seq (rg [xo 6 (qm (cb false))])
  .ret)
  .skip))))
 (rg [xo 23 (qb .add (tm 15) (ci 1)),xo 15 (qm (tm 23))]))))
def Lk:AC :=
 (.seq (rg [xo 6 (qm (cb false))])
 (.seq (.seq (rg [xo 9 (qm (tm 1)),xo 10 (.i (.len (tm 9))),xo 11 (qm (tm 2)),xo 12 (qb .neq (tm 10) (tm 11))])
 (.cond (tm 12)
  (.seq (rg [xo 6 (qm (cb false))])
  .ret)
  .skip))
 (.seq (.seq (rg [xo 13 (qm (tm 1)),xo 14 (.i (.len (tm 13))),xo 15 (qm (ci 0))])
 (.block 0 (.loop I8)))
 (.seq (rg [xo 6 (qm (cb true))])
 .ret))))
def Sb:List Res:=[.tmp 6]
theorem R3:Ap Tryd.prog Tryd.f61=some (Lk,Sb):=by kernel_rfl
def Eb (a1:List Int) (a0:Int) (l8_m15:Nat):Option (Ctl Nat (Ctl Unit Bool)) :=
 cond (decide (((l8_m15:Nat):Int)<((a1.length:Nat):Int)))
 (Option.bind (a1[l8_m15]?) fun x14 =>
 Option.bind (D2 a0 x14) fun y16 =>
 cond (!y16)
  (some (Ctl.out (Ctl.out false)))
  (og (l8_m15+1<4611686018427387904) <|
  some (Ctl.next (l8_m15+1))))
 (some (Ctl.out (Ctl.next ())))
def Ep (a0:Int) (a1:List Int) (a2:Int):Option Bool :=
 cond (((a1.length:Nat):Int) !=a2)
 (some false)
 (M9 (A1 (fun s_:Nat=>Eb a1 a0 s_) 4611686018427387904 0) fun _ =>
 some true)
def Ql (r:Bool):RV:=⟨false,[(false,[.sc (.bool r)])]⟩
theorem Qe {a0:Int} {a1:List Int} {a2:Int} {r:Bool} (h:Ep a0 a1 a2=some r):A6 Tryd.prog Tab 61 [ai a0,.tree .int a1,ai a2] (Ql r):=by
 refine A5 (by kernel_rfl) Tryd.func61 R3 (n:=24) (by kernel_rfl) (by simp) (tl:=[(0,ai a0),(1,.tree .int a1),(2,ai a2)]) rfl ?_;unfold Lk;unfold Ep at h;refine Am ?_;refine Ab ?_;refine Am ?_;rcases Ad h with ⟨q4,h⟩ | ⟨q4,h⟩
 ·refine Ag q4 ?_;refine Am ?_;refine Ak (tr_ ?_);obtain rfl:=zj h;exact Bl [.bool false] (A7 rfl zl A8)
 refine Ah q4 ?_;refine Aj (tn_ ?_);refine wr_ ?_;refine Ds h (fun (_:Unit) S_=>S_=⟨Al [],Af (Ao []),2⟩) ?_ ?_
 ·intro v_ h hk6;refine Am ?_;refine Ai ?_;refine Az h (fun (l8_m15:Nat) S_=>S_=⟨Al [(0,ai a0),(13,.tree .int a1),(14,ai ((a1.length:Nat):Int)),(15,ai ((l8_m15:Nat):Int))],Af (Ao []),2⟩) ⟨_,Ac [],rfl⟩ ?_;rintro n_ l8_m15 _ c_ rfl h hn8
  (try dsimp only at h);unfold Eb at h;unfold I8;refine Am ?_;refine Ab ?_;rcases Ad h with ⟨q11,h⟩ | ⟨q11,h⟩
  ·have q11_:=of_decide_eq_true q11;refine Ag q11 ?_;refine Aj (tn_ ?_);refine wr_ ?_;refine Ab ?_;refine Ai ?_;refine Ab ?_;obtain ⟨x14,e14,h⟩:=Ae h;refine Aa 6 ?_;refine rs0 (.telt none .int x14 0) (zi (t:=.int) (xs:=a1) (k:=.i64) (m:=((l8_m15:Nat):Int)) (A0 _) e14) ?_;refine rsB 2 ?_;refine As (tn_ ?_);refine wr_ ?_;refine Ab ?_;obtain ⟨y16,h16,h⟩:=Ae h;refine Aa 10 ?_;refine rz0 (ai a0) ?_;refine rz0 (ai x14) ?_;refine zc (.bool y16) [] [ai a0,ai x14] (Pz h16) ?_;refine rsB 1 ?_;refine As (tn_ ?_);refine wr_ ?_;rcases Ad h with ⟨q17,h⟩ | ⟨q17,h⟩
   ·refine Ag q17 ?_;refine Am ?_;refine Ak (br_ (tr_ (tr_ (br_ (tr_ ?_)))));obtain rfl:=zj h;have h:=hn8
    (try dsimp only at h);obtain rfl:=zj h;have h:=hk6
    (try dsimp only at h);obtain rfl:=zj h;exact Bl [.bool false] (A7 rfl zl A8)
   refine Ah q17 ?_;refine Aj (bn_ (tn_ ?_));refine wr_ ?_;obtain ⟨g19,h⟩:=Aq h;refine Aa 12 ?_;refine rs0 (ai ((l8_m15+1:Nat):Int)) (za g19) ?_;refine rsB 1 ?_;refine As (tn_ ?_);obtain rfl:=zj h;exact ⟨l8_m15+1,_,Ac [],rfl,hn8⟩
  have q11_:=of_decide_eq_false q11;refine Ah q11 ?_;refine Ax (te_ (te_ (be_ (tn_ ?_))));obtain rfl:=zj h;have h:=hn8
  (try dsimp only at h);obtain rfl:=zj h;exact ⟨(),_,rfl,Ac [],rfl⟩
 rintro _ _ rfl h
 (try dsimp only at h);refine Am ?_;refine Ak ?_;obtain rfl:=zj h;exact Bl [.bool true] (A7 rfl zl A8)
def Uj:AC :=
 (.seq (rg [xo 4 (qm (ci 0))])
 (.seq (rg [xo 5 (qm (tm 1)),xo 6 (qm (tm 0)),xo 7 (qb .rem (tm 5) (tm 6)),xo 1 (qm (tm 7))])
 (.seq (.seq (rg [xo 8 (qm (tm 1)),xo 9 (qb .lss (tm 8) (ci 0))])
 (.cond (tm 9)
  (rg [xo 10 (qm (tm 1)),xo 11 (qm (tm 0)),xo 12 (qb .add (tm 10) (tm 11)),xo 1 (qm (tm 12))])
  .skip))
 (.seq (rg [xo 13 (qm (tm 1)),xo 4 (qm (tm 13))])
 .ret))))
def Acu:List Res:=[.tmp 4]
theorem Acn:Ap Tryd.prog Tryd.f62=some (Uj,Acu):=by kernel_rfl
def I4 (a0:Int) (a1:Int):Option Int :=
 og (a0≠0) <|
Option.bind (cond (decide (Int.tmod a1 a0<0))
  (some (wI (Int.tmod a1 a0+a0)))
  (some (Int.tmod a1 a0))) fun l4_m1 =>
some l4_m1
def Abu (r:Int):RV:=⟨false,[(false,[.sc (.int .i64 r)])]⟩
theorem Abo {a0:Int} {a1:Int} {r:Int} (h:I4 a0 a1=some r):A6 Tryd.prog Tab 62 [ai a0,ai a1] (Abu r):=by
 refine A5 (by kernel_rfl) Tryd.func62 Acn (n:=14) (by kernel_rfl) (by simp) (tl:=[(0,ai a0),(1,ai a1)]) rfl ?_;unfold Uj;unfold I4 at h;refine Am ?_;refine Ab ?_;obtain ⟨g3,h⟩:=Aq h;refine Aa 6 ?_;refine rz0 (ai a1) ?_;refine rz0 (ai a0) ?_;refine rs0 (ai (Int.tmod a1 a0)) (Lr (k:=.i64) (a:=a1) (b:=a0) (by kernel_rfl) (by kernel_rfl) g3) ?_;refine rsB 1 ?_;refine As (tn_ ?_);refine wr_ ?_;refine Ay h (fun (l4_m1:Int) S_=>S_=⟨Al [(1,ai l4_m1)],Af (Ao []),2⟩) ?_ ?_
 ·intro v_ h;refine Am ?_;rcases Ad h with ⟨q6,h⟩ | ⟨q6,h⟩
  ·have q6_:=of_decide_eq_true q6;refine Ag q6 ?_;refine Aa 12 ?_;refine rsB 4 ?_;refine As (tn_ ?_);obtain rfl:=zj h;exact ⟨_,Ac [],rfl⟩
  have q6_:=of_decide_eq_false q6;refine Ah q6 ?_;refine Aj (tn_ ?_);obtain rfl:=zj h;exact ⟨_,Ac [],rfl⟩
 rintro l4_m1 _ rfl h
 (try dsimp only at h);refine Am ?_;refine Ak ?_;obtain rfl:=zj h;exact Bl [ai l4_m1] (A7 rfl zl A8)
def O9:AC :=
 (.seq (rg [xo 2 (qm (.cst .nils))])
 (.seq (rg [xo 3 (.mkS 3 .int []),xo 4 (qm (tm 0)),xo 5 (.append 3 .int 8 (tm 3) (tm 4)),xo 2 (qm (tm 5))])
 .ret))
def Z3:List Res:=[.tmp 2]
theorem Y3:Ap Tryd.prog Tryd.f55=some (O9,Z3):=by kernel_rfl
def Fm (a0:List Int):Option (List Int) :=
 og (0+a0.length<=1073741824∧(0+a0.length)*8<=140737488355328) <|
some a0
def Wm (r:List Int):RV:=⟨false,[(false,[.new 3 .int r])]⟩
theorem Np {a0:List Int} {r:List Int} (h:Fm a0=some r):A6 Tryd.prog Tab 55 [.tree .int a0] (Wm r):=by
 refine A5 (by kernel_rfl) Tryd.func55 Y3 (n:=6) (by kernel_rfl) (by simp) (tl:=[(0,.tree .int a0)]) rfl ?_;unfold O9;unfold Fm at h;refine Am ?_;refine Ab ?_;obtain ⟨g3,h⟩:=Aq h;refine Aa 6 ?_;refine rs1 (.own (oi 3 2) .int 0 0) (oi 3 2) (.arr 3 .int []) (by kernel_rfl) ?_;refine rz0 (.tree .int a0) ?_;refine rs2 (.own (oi 3 4) .int 0 a0.length) (oi 3 2) (oi 3 4) (.arr 3 .int a0) (Yz (t:=.int) (t':=.int) (xs:=[]) (ys:=a0) (zs:=a0) (j:=oi 3 2) (len:=0) (c:=.tree .int a0) (by kernel_rfl) (by kernel_rfl) rfl (by kernel_rfl) Ad0 rfl g3) ?_;refine rsB 1 ?_;refine As (tn_ ?_);refine wr_ ?_;refine Ak ?_;obtain rfl:=zj h;exact Bl [.own (oi 3 4) .int 0 a0.length] (A7 rfl (Xz (by kernel_rfl) rfl) A8)
def Kp:AC :=
 (.seq (rg [xo 14 (qb .lss (tm 13) (tm 12))])
 (.seq (.cond (tm 14)
  .skip
  (.exit 0))
 (.seq (.block 1 (.seq (rg [xo 15 (qm (tm 13)),xo 5 (qm (tm 15))])
 (.seq (.region [xo 16 (qm (tm 0)),xo 17 (qm (tm 5)),xo 18 (qx 1 (tm 16) (tm 17)),xo 19 (ql (tm 18)),xo 20 (qm (tm 1)),xo 21 (qm (tm 5)),xo 22 (qx 1 (tm 20) (tm 21)),xo 23 (ql (tm 22)),xo 24 (qb .neq (tm 19) (tm 23))] true [])
 (.cond (tm 24)
  (.seq (rg [xo 4 (qm (cb false))])
  .ret)
  .skip))))
 (rg [xo 25 (qb .add (tm 13) (ci 1)),xo 13 (qm (tm 25))]))))
def Nj:AC :=
 (.seq (rg [xo 4 (qm (cb false))])
 (.seq (.seq (rg [xo 6 (qm (tm 0)),xo 7 (.i (.len (tm 6))),xo 8 (qm (tm 1)),xo 9 (.i (.len (tm 8))),xo 10 (qb .neq (tm 7) (tm 9))])
 (.cond (tm 10)
  (.seq (rg [xo 4 (qm (cb false))])
  .ret)
  .skip))
 (.seq (.seq (rg [xo 11 (qm (tm 0)),xo 12 (.i (.len (tm 11))),xo 13 (qm (ci 0))])
 (.block 0 (.loop Kp)))
 (.seq (rg [xo 4 (qm (cb true))])
 .ret))))
def Wu:List Res:=[.tmp 4]
theorem Wx:Ap Tryd.prog Tryd.f49=some (Nj,Wu):=by kernel_rfl
theorem T9:A2 Tryd.prog 49=true:=by kernel_rfl
def D0 (a0:List Int) (a1:List Int) (l8_m13:Nat):Option (Ctl Nat (Ctl Unit Bool)) :=
 cond (decide (((l8_m13:Nat):Int)<((a0.length:Nat):Int)))
 (Option.bind (a0[l8_m13]?) fun x15 =>
 Option.bind (a1[l8_m13]?) fun x16 =>
 cond (x15 !=x16)
  (some (Ctl.out (Ctl.out false)))
  (og (l8_m13+1<4611686018427387904) <|
  some (Ctl.next (l8_m13+1))))
 (some (Ctl.out (Ctl.next ())))
def F9 (a0:List Int) (a1:List Int):Option Bool :=
 cond (((a0.length:Nat):Int) !=((a1.length:Nat):Int))
 (some false)
 (M9 (A1 (fun s_:Nat=>D0 a0 a1 s_) 4611686018427387904 0) fun _ =>
 some true)
def Vn (r:Bool):RV:=⟨false,[(false,[.sc (.bool r)])]⟩
theorem U0 {a0:List Int} {a1:List Int} {r:Bool} (h:F9 a0 a1=some r):A6 Tryd.prog Tab 49 [.tree .int a0,.tree .int a1] (Vn r):=by
 refine A5 (by kernel_rfl) Tryd.func49 Wx (n:=26) (by kernel_rfl) (by simp) (tl:=[(0,.tree .int a0),(1,.tree .int a1)]) rfl ?_;unfold Nj;unfold F9 at h;refine Am ?_;refine Ab ?_;refine Am ?_;rcases Ad h with ⟨q4,h⟩ | ⟨q4,h⟩
 ·refine Ag q4 ?_;refine Am ?_;refine Ak (tr_ ?_);obtain rfl:=zj h;exact Bl [.bool false] (A7 rfl zl A8)
 refine Ah q4 ?_;refine Aj (tn_ ?_);refine wr_ ?_;refine Ds h (fun (_:Unit) S_=>S_=⟨Al [],Af (Ao []),2⟩) ?_ ?_
 ·intro v_ h hk6;refine Am ?_;refine Ai ?_;refine Az h (fun (l8_m13:Nat) S_=>S_=⟨Al [(0,.tree .int a0),(1,.tree .int a1),(12,ai ((a0.length:Nat):Int)),(13,ai ((l8_m13:Nat):Int))],Af (Ao []),2⟩) ⟨_,Ac [],rfl⟩ ?_;rintro n_ l8_m13 _ c_ rfl h hn8
  (try dsimp only at h);unfold D0 at h;unfold Kp;refine Am ?_;refine Ab ?_;rcases Ad h with ⟨q11,h⟩ | ⟨q11,h⟩
  ·have q11_:=of_decide_eq_true q11;refine Ag q11 ?_;refine Aj (tn_ ?_);refine wr_ ?_;refine Ab ?_;refine Ai ?_;refine Am ?_;refine Ab ?_;obtain ⟨x15,e15,h⟩:=Ae h;obtain ⟨x16,e16,h⟩:=Ae h;refine Bb 14 ?_;refine dz0 (.tree .int a0) ?_;refine dz0 (ai ((l8_m13:Nat):Int)) ?_;refine ds0 (.telt none .int x15 0) (zi (t:=.int) (xs:=a0) (k:=.i64) (m:=((l8_m13:Nat):Int)) (A0 _) e15) ?_;refine dz0 (ai x15) ?_;refine dz0 (.tree .int a1) ?_;refine dz0 (ai ((l8_m13:Nat):Int)) ?_;refine ds0 (.telt none .int x16 0) (zi (t:=.int) (xs:=a1) (k:=.i64) (m:=((l8_m13:Nat):Int)) (A0 _) e16) ?_;refine dz0 (ai x16) ?_;refine dz0 (.bool (x15 !=x16)) ?_;refine Ky (Bx (by kernel_rfl)) (tn_ ?_);refine wr_ ?_;rcases Ad h with ⟨q17,h⟩ | ⟨q17,h⟩
   ·refine Ag q17 ?_;refine Am ?_;refine Ak (br_ (tr_ (tr_ (br_ (tr_ ?_)))));obtain rfl:=zj h;have h:=hn8
    (try dsimp only at h);obtain rfl:=zj h;have h:=hk6
    (try dsimp only at h);obtain rfl:=zj h;exact Bl [.bool false] (A7 rfl zl A8)
   refine Ah q17 ?_;refine Aj (bn_ (tn_ ?_));refine wr_ ?_;obtain ⟨g19,h⟩:=Aq h;refine Aa 16 ?_;refine rs0 (ai ((l8_m13+1:Nat):Int)) (za g19) ?_;refine rsB 1 ?_;refine As (tn_ ?_);obtain rfl:=zj h;exact ⟨l8_m13+1,_,Ac [],rfl,hn8⟩
  have q11_:=of_decide_eq_false q11;refine Ah q11 ?_;refine Ax (te_ (te_ (be_ (tn_ ?_))));obtain rfl:=zj h;have h:=hn8
  (try dsimp only at h);obtain rfl:=zj h;exact ⟨(),_,rfl,Ac [],rfl⟩
 rintro _ _ rfl h
 (try dsimp only at h);refine Am ?_;refine Ak ?_;obtain rfl:=zj h;exact Bl [.bool true] (A7 rfl zl A8)
end
section
open Go.RowKit Go.Deep
theorem Al3 {f:Nat->AV} {ob:Oid->Option Ob} {d:Option Nat} {gd:Option (Nat×Bool)} {fo y:Opd} {ys:List Opd} {tys:List (List (Option Ty))} {i p:Oid} {t u:Ty} {off len z m k:Nat} {e1:TypeId} {xss:List (List u.D)} (n:Nat) (hy:ys[n]? =some y) (he:y.ev f=.own i t off len) (hob:ob i=some (.vec e1 z m (hdL p u xss))) (hk:k<xss.length):kid p k∈rdX f ob ⟨d,gd,.call fo ys tys⟩:=by
 refine List.mem_flatMap.2 ⟨y,List.mem_cons_of_mem _ (List.mem_of_getElem? hy),?_⟩;rw [he];show kid p k∈G0 ob (7+1) (.own i t off len);unfold G0;dsimp only;rw [hob];refine List.mem_cons_of_mem _ (List.mem_flatMap.2 ⟨.own (kid p k) u 0 xss[k].length,List.mem_of_getElem? (i:=k) (by rw [Cl,gEg hk]; rfl),?_⟩);exact List.mem_singleton.2 rfl
theorem Ot {f:Nat->AV} {ob:Oid->Option Ob} {d:Option Nat} {gd:Option (Nat×Bool)} {fo y:Opd} {ys:List Opd} {tys:List (List (Option Ty))} {i p:Oid} {t u:Ty} {off len z m:Nat} {e e1:TypeId} {xss:List (List u.D)} (n:Nat) (hy:ys[n]? =some y) (he:y.ev f=.own i t off len) (hob:ob i=some (.vec e1 z m (hdL p u xss))) (hr:∀ (k:Nat) (row:List u.D),xss[k]? =some row->ob (kid p k)=some (.arr e u row)) (k:Nat) (row:List u.D) (h:xss[k]? =some row):only (rdX f ob ⟨d,gd,.call fo ys tys⟩) ob (kid p k)=some (.arr e u row):=(Mw (Al3 n hy he hob (gSi.1 h).1)).trans (hr k row h)
end
section
open Go.RowKit Go.Deep
theorem Akb {f:Nat->AV} {ob:Oid->Option Ob} {d:Option Nat} {gd:Option (Nat×Bool)} {fo y:Opd} {ys:List Opd} {tys:List (List (Option Ty))} {az:List AV} {i p:Oid} {t u:Ty} {off len z m k:Nat} {e1:TypeId} {xss:List (List u.D)} (n j:Nat) (hy:ys[n]? =some y) (he:y.ev f=.agg az) (hj:az[j]? =some (.own i t off len)) (hob:ob i=some (.vec e1 z m (hdL p u xss))) (hk:k<xss.length):kid p k∈rdX f ob ⟨d,gd,.call fo ys tys⟩:=by
 refine List.mem_flatMap.2 ⟨y,List.mem_cons_of_mem _ (List.mem_of_getElem? hy),?_⟩;rw [he];show kid p k∈G0 ob (7+1) (.agg az);unfold G0;dsimp only;refine List.mem_flatMap.2 ⟨_,List.mem_of_getElem? hj,?_⟩;show kid p k∈G0 ob (6+1) (.own i t off len);unfold G0;dsimp only;rw [hob];refine List.mem_cons_of_mem _ (List.mem_flatMap.2 ⟨.own (kid p k) u 0 xss[k].length,List.mem_of_getElem? (i:=k) (by rw [Cl,gEg hk]; rfl),?_⟩);exact List.mem_singleton.2 rfl
theorem Tn {f:Nat->AV} {ob:Oid->Option Ob} {d:Option Nat} {gd:Option (Nat×Bool)} {fo y:Opd} {ys:List Opd} {tys:List (List (Option Ty))} (az:List AV) {i p:Oid} {t u:Ty} {off len z m:Nat} {e e1:TypeId} {xss:List (List u.D)} (n j:Nat) (hy:ys[n]? =some y) (he:y.ev f=.agg az) (hj:az[j]? =some (.own i t off len)) (hob:ob i=some (.vec e1 z m (hdL p u xss))) (hr:∀ (k:Nat) (row:List u.D),xss[k]? =some row->ob (kid p k)=some (.arr e u row)) (k:Nat) (row:List u.D) (h:xss[k]? =some row):only (rdX f ob ⟨d,gd,.call fo ys tys⟩) ob (kid p k)=some (.arr e u row):=(Mw (Akb n j hy he hj hob (gSi.1 h).1)).trans (hr k row h)
theorem Ad1 {f:Nat->AV} {ob:Oid->Option Ob} {d:Option Nat} {gd:Option (Nat×Bool)} {fo y:Opd} {ys:List Opd} {tys:List (List (Option Ty))} (az:List AV) {i:Oid} {t:Ty} {off len:Nat} (n j:Nat) (hy:ys[n]? =some y) (he:y.ev f=.agg az) (hj:az[j]? =some (.own i t off len)):i∈rdX f ob ⟨d,gd,.call fo ys tys⟩:=by
 refine List.mem_flatMap.2 ⟨y,List.mem_cons_of_mem _ (List.mem_of_getElem? hy),?_⟩;rw [he];show i∈G0 ob (7+1) (.agg az);unfold G0;dsimp only;refine List.mem_flatMap.2 ⟨_,List.mem_of_getElem? hj,?_⟩;show i∈G0 ob (6+1) (.own i t off len);unfold G0;dsimp only;split <;> simp
section
variable {n:Nat} {d:Option Nat} {f:Nat->AV} {ob:Oid->Option Ob}
end
end
end Go.Proofs.YtehocbbnjfmgaaaDoor
