/- Lemmas on the program and on partial functions that stand in place of its code (part 4); no condition beyond those that each one states. -/
import Derived.Test.YtgljmpiofhlkjaaDoorZ3
import Derived.KernelRfl
import Derived.IntWalk
import Derived.Shelf.Strconv.Itoa3
import Derived.Shelf.Strings.OnBuilder
namespace Go.Proofs.YtgljmpiofhlkjaaDoor
section
open Go.RowKit Go.Deep
section
variable {P:Program} {G:World->Prop}
theorem Ab {x y:AC} {R:AE->St->Prop} {S:St} (h:awp P G x (F7 (fun S'=>∃ S'',WeakG G S' S''∧awp P G y R S'') R) S):awp P G (.seq x y) R S:=h
theorem Su {x y:AC} {R:AE->St->Prop} {S:St} (K:St->Prop) (h:awp P G x (F7 (fun S'=>∃ S'',WeakG G S' S''∧K S'') R) S) (k:∀ S'',K S''->awp P G y R S''):awp P G (.seq x y) R S:=by
 unfold awp
 exact Cj (fun e S hq=>by
  cases e with
  | normal=>obtain ⟨S'',hw,hk⟩:=hq; exact ⟨S'',hw,k S'' hk⟩
  | exit id=>exact hq
  | ret=>exact hq) h
def Ad1 (rs:List Rec) (ds:List (List Oid)):List (Nat×Nat)->Bool
 | []=>true
 | p :: ps=>(let ri:=rs.getD p.2 (0,.any,[]); let rj:=rs.getD p.1 (0,.any,[]); let di:=ds.getD p.2 []; let dj:=ds.getD p.1 []
   ((!(ri.1==2)||rj.1==0)&&(!(rj.1==2)||ri.1==0))||((!(ri.1==2)||ri.2.2.all fun u=> !dj.contains u.1)&&((!(rj.1==2)||rj.2.2.all fun u=> !di.contains u.1)&&ri.2.2.all fun u=>rj.2.2.all fun v=> !(u.1==v.1))))&&Ad1 rs ds ps
theorem Cf {rs:List Rec} {ds:List (List Oid)}:∀ {bad:List (Nat×Nat)},Ad1 rs ds bad=true->Wg rs ds bad
 | [],_=>trivial
 | p :: ps,h=>by
  simp only [Ad1,Bool.and_eq_true] at h;refine ⟨?_,Cf h.2⟩;have h1:=h.1;simp only [Bool.or_eq_true,Bool.and_eq_true,Bool.not_eq_true',beq_eq_false_iff_ne,beq_iff_eq,List.all_eq_true,List.contains_eq_mem,decide_eq_false_iff_not] at h1;unfold Kz;rcases h1 with ⟨a,b⟩ | ⟨a,b,c⟩
  ·refine .inl ⟨fun e=>?_,fun e=>?_⟩
   ·rcases a with a | a
    ·exact absurd e a
    ·exact a
   ·rcases b with b | b
    ·exact absurd e b
    ·exact b
  ·refine .inr ⟨fun e=>?_,fun e=>?_,c⟩
   ·rcases a with a | a
    ·exact absurd e a
    ·exact a
   ·rcases b with b | b
    ·exact absurd e b
    ·exact b
def XW (P:Program) (G:World->Prop) (g k:Nat) (xs:List X) (tl:List (Nat×AV)) (ol:List (Oid×Option Ob)) (Kf:List (Nat×AV)->List (Oid×Option Ob)->Prop):Prop :=
 ∃ rs tl' ol',Acw P G g k xs (Al tl) (Ah ol) rs (Al tl') (Ah ol')∧Kf tl' ol'
def XD (P:Program) (G:World->Prop) (bad:List (Nat×Nat)) (g k:Nat) (xs:List X) (tl:List (Nat×AV)) (ol:List (Oid×Option Ob)) (ra:List Rec) (da:List (List Oid)) (Kf:List (Nat×AV)->List (Oid×Option Ob)->Prop):Prop :=
 ∃ rs ds tl' ol',Yq P G g k xs (Al tl) (Ah ol) rs ds (Al tl') (Ah ol')∧Wg (ra.reverse++rs) (da.reverse++ds) bad∧Kf tl' ol'
theorem Aa {xs:List X} {bad:List (Nat×Nat)} {R:AE->St->Prop} {tl:List (Nat×AV)} {ol:List (Oid×Option Ob)} {g:Nat} (g':Nat) (h:XW P G g 0 xs tl ol fun tl' ol'=>R .normal ⟨Al tl',Ah ol',g'⟩) (hn:g+xs.length=g':=by kernel_rfl):awp P G (.region xs false bad) R ⟨Al tl,Ah ol,g⟩:=by
 obtain ⟨rs,tl',ol',h,hr⟩:=h;exact ⟨rs,_,_,h,by subst hn; exact hr⟩
theorem Ze {tl:List (Nat×AV)} {d:Nat} {v:AV} (h:Al tl d=v):Al ((d,v) :: tl)=Al tl:=by
 funext i;show (if i=d then v else Al tl i)=Al tl i;split
 ·rename_i e; rw [e,h]
 ·rfl
theorem rq {xs:List X} {tl:List (Nat×AV)} {ol:List (Oid×Option Ob)} {g k:Nat} {Kf:List (Nat×AV)->List (Oid×Option Ob)->Prop} (d:Nat) {b c:Bool} (q:b=c) (h:XW P G g k xs ((d,.bool c) :: tl) ol Kf) (hd:Al tl d=.bool b:=by kernel_rfl):XW P G g k xs tl ol Kf:=by
 subst q;unfold XW at *
 rwa [Ze hd] at h
theorem Be {xs:List X} {bad:List (Nat×Nat)} {R:AE->St->Prop} {tl:List (Nat×AV)} {ol:List (Oid×Option Ob)} {g:Nat} (g':Nat) (h:XD P G bad g 0 xs tl ol [] [] fun tl' ol'=>R .normal ⟨Al tl',Ah ol',g'⟩) (hn:g+xs.length=g':=by kernel_rfl):awp P G (.region xs true bad) R ⟨Al tl,Ah ol,g⟩:=by
 obtain ⟨rs,ds,tl',ol',h,hb,hr⟩:=h;exact ⟨rs,ds,_,_,h,hb,by subst hn; exact hr⟩
theorem Qc (tl:List (Nat×AV)) (d:Nat) (v:AV):upd (Al tl) d v=Al ((d,v) :: tl):=by
 funext i;rfl
def H1:Option Ob->Bool
 | some (.pool ..)=>false
 | some (.mat ..)=>false
 | some (.tv ..)=>false
 | _=>true
def D3 (us:List (Oid×Option Ob)):Bool:=us.all fun u=>H1 u.2
theorem Vf {ol:List (Oid×Option Ob)} {j:Oid} {o:Option Ob} (h:H1 o=true):upd (Ah ol) j o=Ah ((j,o) :: ol):=by
 cases o with
 | none=>funext i; rfl
 | some o=>cases o <;> first | (funext i; rfl) | cases h
theorem Fm:∀ (us ol:List (Oid×Option Ob)),D3 us=true->Ak us (Ah ol)=Ah (us.reverseAux ol)
 | [],_,_=>rfl
 | (j,o) :: us,ol,h=>by
  simp only [D3,List.all_cons,Bool.and_eq_true] at h;show Ak us (upd (Ah ol) j o)=_;rw [Vf h.1];exact Fm us _ h.2
theorem E5 {p:Bool} {n:Nat} {x:X} {f:Nat->AV} {ob:Oid->Option Ob} {r:Rec} (h:Bh n x f ob=some r):D1 P G p n x f ob r:=by
 unfold Bh at h;unfold D1;split at h
 ·exact .inl (.inl (.inl h))
 ·split at h
  ·rename_i hc;exact ⟨true,hc,by rw [if_pos rfl]; exact .inl (.inl (.inl h))⟩
  ·rename_i hc;exact ⟨false,hc,by rw [if_neg (by simp)]; exact (osj h).symm⟩
  ·cases h
def Ro (gd:Option (Nat×Bool)) (f:Nat->AV):Prop :=
 match gd with
 | none=>True
 | some (s,c)=>f s=.bool c
theorem Wj {s:Nat} {b:Bool} {f:Nat->AV} (h:Ro (some (s,b)) f):gdv (f s) b=some true:=by
 rw [show f s=.bool b from h]; simp [gdv]
theorem K2 {s:Nat} {b:Bool} {f:Nat->AV} (h:f s=.bool b):Ro (some (s,b)) f:=h
theorem Xo {p:Bool} {n:Nat} {d:Option Nat} {gd:Option (Nat×Bool)} {fo:Opd} {xs:List Opd} {tys:List (List (Option Ty))} {f:Nat->AV} {ob:Oid->Option Ob} {F:FuncId} {caps args0 args:List AV} {rv:RV} {r:AV×List (Oid×Option Ob)}
  (hgd:Ro gd f) (hfo:fo.ev f=.fn F caps) (h1:I1 (gnd ob 8) ((xs++caps.map Opd.cst).map (Opd.ev f))=some args0) (hn:Kk tys args0=args) (hb:Bu P F=true) (hc:Ay P G F args rv) (hni:rv.noI=true) (hr:rv.out (Gi ((d.getD 0,0),n)) ((xs++caps.map Opd.cst).map (Opd.ev f))=r) :
  D1 P G p n ⟨d,gd,.call fo xs tys⟩ f ob (1,r.1,r.2):=by
 subst hn;have key:EvR P G p f ob ((d.getD 0,0),n) (.call fo xs tys) (1,r.1,r.2):=.inr ⟨fo,xs,tys,F,caps,rfl,hfo,.inl ⟨rfl,hb,args0,rv,.inl ⟨h1,hni⟩,hc,hr⟩⟩;unfold D1;cases gd with
 | none=>exact key
 | some sb=>exact ⟨true,Wj hgd,by rw [if_pos rfl]; exact key⟩
theorem Acp {n:Nat} {d:Option Nat} {gd:Option (Nat×Bool)} {fo:Opd} {xs:List Opd} {tys:List (List (Option Ty))} {f:Nat->AV} {ob:Oid->Option Ob} {F:FuncId} {caps zs args:List AV} {v:AV} {ol us:List (Oid×Ob)} (θ:Oid->Oid)
  (hgd:Ro gd f) (hfo:fo.ev f=.fn F caps) (hz:(xs++caps.map Opd.cst).map (Opd.ev f)=zs) (h1:Lq θ (Abv ((nmL ol).map θ) ob) zs args) (h2:∀ q∈exL ol,ob (θ q.1)=some (q.2.ren θ)) (h3:∀ q∈exL ol,∀ q'∈exL ol,θ q.1=θ q'.1->q.1=q'.1) (h4:∀ j∈nmL ol,Reached zs ob (θ j))
  (h5:∀ q∈exL us,q.1.2=1∨(q.1.2=0∧q.1∈nmL ol)) (hb:Bu P F=true) (hc:Iq P G F args ol v us) :
  D1 P G false n ⟨d,gd,.call fo xs tys⟩ f ob (2,v.ren (Bf θ ((d.getD 0,0),n)),Fo θ ((d.getD 0,0),n) ol us):=by
 have hN:Zs P G f ob ((d.getD 0,0),n) F (xs++caps.map Opd.cst) (v.ren (Bf θ ((d.getD 0,0),n)),Fo θ ((d.getD 0,0),n) ol us):=by
  rw [← hz] at h1 h4;refine ⟨hb,θ,args,ol,us,v,h1,h2,fun j k hj hk e=>?_,h4,hc,fun j hj=>?_,rfl⟩
  ·obtain ⟨q,hq,rfl⟩:=List.mem_map.1 hj;obtain ⟨q',hq',rfl⟩:=List.mem_map.1 hk;exact h3 q hq q' hq' e
  ·obtain ⟨q,hq,rfl⟩:=List.mem_map.1 hj;rcases h5 q hq with h | ⟨_,h⟩
   ·exact .inl (by rw [h]; decide)
   ·exact .inr h
 have key:EvR P G false f ob ((d.getD 0,0),n) (.call fo xs tys) (2,v.ren (Bf θ ((d.getD 0,0),n)),Fo θ ((d.getD 0,0),n) ol us):=.inr ⟨fo,xs,tys,F,caps,rfl,hfo,.inr ⟨rfl,rfl,hN⟩⟩;unfold D1;cases gd with
 | none=>exact key
 | some sb=>exact ⟨true,Wj hgd,by rw [if_pos rfl]; exact key⟩
theorem Ac9 {n:Nat} {d:Option Nat} {gd:Option (Nat×Bool)} {q:Q} {f:Nat->AV} {ob:Oid->Option Ob} {r:Rec} (hgd:Ro gd f) (h:evL f ((d.getD 0,0),n) q=some r):D1 P G false n ⟨d,gd,q⟩ f ob r:=by
 have key:EvR P G false f ob ((d.getD 0,0),n) q r:=.inl (.inl (.inr h));unfold D1;cases gd with
 | none=>exact key
 | some sb=>exact ⟨true,Wj hgd,by rw [if_pos rfl]; exact key⟩
theorem As {g k:Nat} {tl:List (Nat×AV)} {ol:List (Oid×Option Ob)} {Kf:List (Nat×AV)->List (Oid×Option Ob)->Prop} (h:Kf tl ol):XW P G g k [] tl ol Kf:=⟨[],tl,ol,⟨rfl,rfl,rfl⟩,h⟩
theorem N9 {bad:List (Nat×Nat)} {g k:Nat} {tl:List (Nat×AV)} {ol:List (Oid×Option Ob)} {ra:List Rec} {da:List (List Oid)} {Kf:List (Nat×AV)->List (Oid×Option Ob)->Prop} (hb:Wg (ra.reverse++[]) (da.reverse++[]) bad) (h:Kf tl ol):XD P G bad g k [] tl ol ra da Kf:=⟨[],[],tl,ol,⟨rfl,rfl,rfl,rfl⟩,hb,h⟩
section
variable {g k d:Nat} {gd:Option (Nat×Bool)} {q:Q} {xs:List X} {tl:List (Nat×AV)} {ol:List (Oid×Option Ob)} {bad:List (Nat×Nat)} {ra:List Rec} {da:List (List Oid)} {Kf:List (Nat×AV)->List (Oid×Option Ob)->Prop}
theorem Zo (c:Nat) (v:AV) (us ol':List (Oid×Option Ob)) (h:D1 P G false (g+k) ⟨some d,gd,q⟩ (Al tl) (Ah ol) (c,v,us)) (he:Ak us (Ah ol)=Ah ol') (h3:XW P G g (k+1) xs ((d,v) :: tl) ol' Kf):XW P G g k (⟨some d,gd,q⟩ :: xs) tl ol Kf :=
 by
 obtain ⟨rs,tl',ol',h3,hk⟩:=h3;exact ⟨_,tl',ol',⟨_,_,rfl,h,by simp only [Gj,Qc,he]; exact h3⟩,hk⟩
theorem Ac1 (c:Nat) (v:AV) (us ol':List (Oid×Option Ob)) (h:D1 P G false (g+k) ⟨none,gd,q⟩ (Al tl) (Ah ol) (c,v,us)) (he:Ak us (Ah ol)=Ah ol') (h3:XW P G g (k+1) xs tl ol' Kf):XW P G g k (⟨none,gd,q⟩ :: xs) tl ol Kf :=
 by
 obtain ⟨rs,tl',ol',h3,hk⟩:=h3;exact ⟨_,tl',ol',⟨_,_,rfl,h,by simp only [Gj,he]; exact h3⟩,hk⟩
theorem Aec (c:Nat) (v:AV) (us ol':List (Oid×Option Ob)) (h:D1 P G false (g+k) ⟨some d,gd,q⟩ (Al tl) (only (rdX (Al tl) (Ah ol) ⟨some d,gd,q⟩) (Ah ol)) (c,v,us)) (he:Ak us (Ah ol)=Ah ol') (h3:XD P G bad g (k+1) xs ((d,v) :: tl) ol' ((c,v,us) :: ra) ((rdX (Al tl) (Ah ol) ⟨some d,gd,q⟩) :: da) Kf):XD P G bad g k (⟨some d,gd,q⟩ :: xs) tl ol ra da Kf :=
 by
 obtain ⟨rs,ds,tl',ol',h3,hb,hk⟩:=h3;refine ⟨_,_,tl',ol',⟨_,rs,ds,rfl,rfl,h,by simp only [Gj,Qc,he]; exact h3⟩,?_,hk⟩
 simpa using hb
theorem Sh (c:Nat) (v:AV) (us:List (Oid×Option Ob)) (h:D1 P G false (g+k) ⟨some d,gd,q⟩ (Al tl) (Ah ol) (c,v,us)) (h3:XW P G g (k+1) xs ((d,v) :: tl) (us.reverseAux ol) Kf) (hx:D3 us=true):XW P G g k (⟨some d,gd,q⟩ :: xs) tl ol Kf:=Zo c v us _ h (Fm us ol hx) h3
theorem Adl (c:Nat) (v:AV) (us:List (Oid×Option Ob)) (h:D1 P G false (g+k) ⟨none,gd,q⟩ (Al tl) (Ah ol) (c,v,us)) (h3:XW P G g (k+1) xs tl (us.reverseAux ol) Kf) (hx:D3 us=true):XW P G g k (⟨none,gd,q⟩ :: xs) tl ol Kf:=Ac1 c v us _ h (Fm us ol hx) h3
theorem V4 (c:Nat) (v:AV) (us:List (Oid×Option Ob)) (h:D1 P G false (g+k) ⟨some d,gd,q⟩ (Al tl) (only (rdX (Al tl) (Ah ol) ⟨some d,gd,q⟩) (Ah ol)) (c,v,us)) (h3:XD P G bad g (k+1) xs ((d,v) :: tl) (us.reverseAux ol) ((c,v,us) :: ra) ((rdX (Al tl) (Ah ol) ⟨some d,gd,q⟩) :: da) Kf) (hx:D3 us=true):XD P G bad g k (⟨some d,gd,q⟩ :: xs) tl ol ra da Kf:=Aec c v us _ h (Fm us ol hx) h3
-- the shape of most steps: what the machine says is found by reckoning
theorem rs0 (v:AV) (h:Bh (g+k) ⟨some d,gd,q⟩ (Al tl) (Ah ol)=some (0,v,[])) (h3:XW P G g (k+1) xs ((d,v) :: tl) ol Kf):XW P G g k (⟨some d,gd,q⟩ :: xs) tl ol Kf:=Sh 0 v [] (E5 h) h3 rfl
theorem rsl (v:AV) (h:Bh (g+k) ⟨some d,gd,q⟩ (Al tl) (Ah ol)=some (1,v,[])) (h3:XW P G g (k+1) xs ((d,v) :: tl) ol Kf):XW P G g k (⟨some d,gd,q⟩ :: xs) tl ol Kf:=Sh 1 v [] (E5 h) h3 rfl
theorem rs1 (v:AV) (i:Oid) (o:Ob) (h:Bh (g+k) ⟨some d,gd,q⟩ (Al tl) (Ah ol)=some (1,v,[(i,some o)])) (h3:XW P G g (k+1) xs ((d,v) :: tl) ((i,some o) :: ol) Kf) (hx:H1 (some o)=true:=by rfl):XW P G g k (⟨some d,gd,q⟩ :: xs) tl ol Kf:=Sh 1 v _ (E5 h) h3 (by simp only [D3,List.all_cons,List.all_nil,hx]; rfl)
theorem rs2 (v:AV) (j i:Oid) (o:Ob) (h:Bh (g+k) ⟨some d,gd,q⟩ (Al tl) (Ah ol)=some (2,v,[(j,none),(i,some o)])) (h3:XW P G g (k+1) xs ((d,v) :: tl) ((i,some o) :: (j,none) :: ol) Kf) (hx:H1 (some o)=true:=by rfl):XW P G g k (⟨some d,gd,q⟩ :: xs) tl ol Kf:=Sh 2 v _ (E5 h) h3 (by simp only [D3,List.all_cons,List.all_nil,hx]; rfl)
theorem Ad6 (j i:Oid) (o:Ob) (h:Bh (g+k) ⟨none,gd,q⟩ (Al tl) (Ah ol)=some (2,.any,[(j,none),(i,some o)])) (h3:XW P G g (k+1) xs tl ((i,some o) :: (j,none) :: ol) Kf) (hx:H1 (some o)=true:=by rfl):XW P G g k (⟨none,gd,q⟩ :: xs) tl ol Kf:=Adl 2 _ _ (E5 h) h3 (by simp only [D3,List.all_cons,List.all_nil,hx]; rfl)
theorem ds0 (v:AV) (h:Bh (g+k) ⟨some d,gd,q⟩ (Al tl) (only (rdX (Al tl) (Ah ol) ⟨some d,gd,q⟩) (Ah ol))=some (0,v,[])) (h3:XD P G bad g (k+1) xs ((d,v) :: tl) ol ((0,v,[]) :: ra) ((rdX (Al tl) (Ah ol) ⟨some d,gd,q⟩) :: da) Kf):XD P G bad g k (⟨some d,gd,q⟩ :: xs) tl ol ra da Kf:=V4 0 v [] (E5 h) h3 rfl
theorem dsl (v:AV) (h:Bh (g+k) ⟨some d,gd,q⟩ (Al tl) (only (rdX (Al tl) (Ah ol) ⟨some d,gd,q⟩) (Ah ol))=some (1,v,[])) (h3:XD P G bad g (k+1) xs ((d,v) :: tl) ol ((1,v,[]) :: ra) ((rdX (Al tl) (Ah ol) ⟨some d,gd,q⟩) :: da) Kf):XD P G bad g k (⟨some d,gd,q⟩ :: xs) tl ol ra da Kf:=V4 1 v [] (E5 h) h3 rfl
theorem ds1 (v:AV) (i:Oid) (o:Ob) (h:Bh (g+k) ⟨some d,gd,q⟩ (Al tl) (only (rdX (Al tl) (Ah ol) ⟨some d,gd,q⟩) (Ah ol))=some (1,v,[(i,some o)])) (h3:XD P G bad g (k+1) xs ((d,v) :: tl) ((i,some o) :: ol) ((1,v,[(i,some o)]) :: ra) ((rdX (Al tl) (Ah ol) ⟨some d,gd,q⟩) :: da) Kf) (hx:H1 (some o)=true:=by rfl):XD P G bad g k (⟨some d,gd,q⟩ :: xs) tl ol ra da Kf:=V4 1 v _ (E5 h) h3 (by simp only [D3,List.all_cons,List.all_nil,hx]; rfl)
section
variable {fo:Opd} {ys:List Opd} {tys:List (List (Option Ty))} {F:FuncId} {caps:List AV} {rv:RV} {args0:List AV}
theorem Ii (v:AV) (us:List (Oid×Option Ob)) (zs args:List AV) (hgd:Ro gd (Al tl)) (h1:I1 (gnd (Ah ol) 8) zs=some args0) (hc:Ay P G F args rv) (hb:Bu P F=true) (h3:XW P G g (k+1) xs ((d,v) :: tl) (us.reverseAux ol) Kf) (hfo:fo.ev (Al tl)=.fn F caps:=by kernel_rfl) (hz:(ys++caps.map Opd.cst).map (Opd.ev (Al tl))=zs:=by kernel_rfl) (hn:Kk tys args0=args:=by kernel_rfl) (hr:rv.out (Gi ((d,0),g+k)) zs=(v,us):=by kernel_rfl) (hx:D3 us=true:=by rfl) (hni:rv.noI=true:=by kernel_rfl):XW P G g k (⟨some d,gd,.call fo ys tys⟩ :: xs) tl ol Kf:=by
 subst hz;exact Sh 1 v us (Xo (P:=P) (G:=G) (p:=false) (n:=g+k) (d:=some d) hgd hfo h1 hn hb hc hni hr) h3 hx
theorem Aau (v:AV) (us:List (Oid×Option Ob)) (zs args:List AV) (hgd:Ro gd (Al tl)) (h1:I1 (gnd (only (rdX (Al tl) (Ah ol) ⟨some d,gd,.call fo ys tys⟩) (Ah ol)) 8) zs=some args0) (hc:Ay P G F args rv) (hb:Bu P F=true) (h3:XD P G bad g (k+1) xs ((d,v) :: tl) (us.reverseAux ol) ((1,v,us) :: ra) ((rdX (Al tl) (Ah ol) ⟨some d,gd,.call fo ys tys⟩) :: da) Kf) (hfo:fo.ev (Al tl)=.fn F caps:=by kernel_rfl) (hz:(ys++caps.map Opd.cst).map (Opd.ev (Al tl))=zs:=by kernel_rfl) (hn:Kk tys args0=args:=by kernel_rfl) (hr:rv.out (Gi ((d,0),g+k)) zs=(v,us):=by kernel_rfl) (hx:D3 us=true:=by rfl) (hni:rv.noI=true:=by kernel_rfl):XD P G bad g k (⟨some d,gd,.call fo ys tys⟩ :: xs) tl ol ra da Kf:=by
 subst hz;exact V4 1 v us (Xo (P:=P) (G:=G) (p:=false) (n:=g+k) (d:=some d) hgd hfo h1 hn hb hc hni hr) h3 hx
def Z6 (l:List (Oid×Oid)) (ol us:List (Oid×Ob)) (n:Nat) (ol0:List (Oid×Option Ob)):Bool:=Pj l&&(D5 ol&&(Acv (Bg l) ol&&(Aan ol us&&Xq n ol0)))
theorem Z4 {l:List (Oid×Oid)} {ol us:List (Oid×Ob)} {n:Nat} {ol0:List (Oid×Option Ob)} (h:Z6 l ol us n ol0=true) (hR:Vx ol0 (Bg l) ol) :
  (∀ q∈exL ol,Ah ol0 (Bg l q.1)=some (q.2.ren (Bg l)))∧(∀ q∈exL ol,∀ q'∈exL ol,Bg l q.1=Bg l q'.1->q.1=q'.1)∧(∀ q∈exL us,q.1.2=1∨(q.1.2=0∧q.1∈nmL ol))∧∀ i:Oid,i.2=n->Ak (Fo (Bg l) i ol us) (Ah ol0)=Ah (Aq (Jx (Bf (Bg l) i) us)++(Gw (Bg l) ol++ol0)):=by
 simp only [Z6,Bool.and_eq_true] at h;obtain ⟨c1,c2,c3,c4,c5⟩:=h;refine ⟨Uq c1 hR (Vd c2),Z0 (fun p e u xss hm k=>Fi c1 ?_ k) c3 c2,X4 c4,fun i hi=>Aab c1 c2 hR c4 (by rw [hi]; exact c5) c3⟩;unfold D5 at c2;rw [List.all_eq_true] at c2;have:=c2 _ hm;simp only [Bool.and_eq_true,beq_iff_eq] at this;exact this.1
theorem Qn (v:AV) (ul:List (Oid×Option Ob)) (l:List (Oid×Oid)) (zs:List AV) {args:List AV} {ol0 us:List (Oid×Ob)} {v0:AV} (hgd:Ro gd (Al tl)) (hc:Iq P G F args ol0 v0 us) (hb:Bu P F=true) (hR:Vx ol (Bg l) ol0) (h1:Lq (Bg l) (Abv ((nmL ol0).map (Bg l)) (Ah ol)) zs args) (h4:∀ j∈nmL ol0,Reached zs (Ah ol) (Bg l j)) (h3:XW P G g (k+1) xs ((d,v) :: tl) (ul++ol) Kf) (hfo:fo.ev (Al tl)=.fn F caps:=by kernel_rfl) (hz:(ys++caps.map Opd.cst).map (Opd.ev (Al tl))=zs:=by kernel_rfl) (hB:Z6 l ol0 us (g+k) ol=true:=by kernel_rfl) (hv:v0.ren (Bf (Bg l) ((d,0),g+k))=v:=by kernel_rfl) (hu:Aq (Jx (Bf (Bg l) ((d,0),g+k)) us)++Gw (Bg l) ol0=ul:=by kernel_rfl):XW P G g k (⟨some d,gd,.call fo ys tys⟩ :: xs) tl ol Kf:=by
 subst hv hu;obtain ⟨q1,q2,q3,q4⟩:=Z4 hB hR;exact Zo 2 _ _ _ (Acp (n:=g+k) (d:=some d) (Bg l) hgd hfo hz h1 q1 q2 h4 q3 hb hc) (q4 ((d,0),g+k) rfl) (by rw [List.append_assoc] at h3; exact h3)
end
end
-- what arguments read as
theorem Z5 {g:AV->Option AV}:I1 g []=some []:=rfl
theorem Om {g:AV->Option AV} {c d:AV} {cs ds:List AV} (h:g c=some d) (hs:I1 g cs=some ds):I1 g (c :: cs)=some (d :: ds):=by simp only [I1,h,hs]
section
variable {ob:Oid->Option Ob} {n:Nat}
theorem W8 {i:Oid} {t u:Ty} {e:TypeId} {xs:List u.D} {len:Nat} (h:ob i=some (.arr e u xs)) (hl:len=xs.length):gnd ob (n+1) (.own i t 0 len)=some (.tree u xs):=by
 subst hl;simp only [gnd,h,Nat.zero_add,Nat.le_refl,if_true,List.drop_zero,List.take_length]
end
-- steps that hang on something
section
variable {n:Nat} {d:Option Nat} {f:Nat->AV} {ob:Oid->Option Ob}
theorem Ws {sz:Nat} {x i:Opd} {t:Ty} {xs:List t.D} {y:t.D} {k:IntKind} {m:Int} {j:Nat} (hx:(x.ev f).un=.tree t xs) (hi:i.ev f=.int k m) (hs:sz=t.size) (h0:0<=m) (hj:m.toNat=j) (hy:xs[j]? =some y) {g:Option (Nat->Prop)} (hg:(x.ev f).tag=g:=by kernel_rfl):Bh n ⟨d,none,.i (.idx sz x i)⟩ f ob=some (0,.telt g t y 0,[]):=by
 subst hs hj hg;simp [Bh,ev,evN,hx,hi,h0,hy]
theorem W9 {sz:Nat} {x i:Opd} {t:Ty} {o:Oid} {len:Nat} {k:IntKind} {m:Int} {j:Nat} (hx:x.ev f=.own o t 0 len) (hi:i.ev f=.int k m) (hs:sz=t.size) (h0:0<=m) (hj:m.toNat=j) (hl:j<len):Bh n ⟨d,none,.i (.idx sz x i)⟩ f ob=some (0,.elt o j 0,[]):=by
 subst hs hj;have:m<(len:Int):=by omega
 simp [Bh,ev,evN,hx,hi,h0,AV.un,this]
theorem Vv {one:Bool} {m:Nat} {x:Opd} {i:Oid} {j k:Nat} {e:TypeId} {t:Ty} {xs:List t.D} {y:t.D} {c:AV} (hx:x.ev f=.elt i j k) (hob:ob i=some (.arr e t xs)) (hy:xs[j]? =some y) (hc:Cv one m k (t.av y)=some c):Bh n ⟨d,none,.i (.ld one m x)⟩ f ob=some (1,c,[]):=by
 simp [Bh,ev,evN,evR,hx,hob,hy,hc]
theorem Adg {one:Bool} {m:Nat} {x y:Opd} {i:Oid} {j k:Nat} {e:TypeId} {t:Ty} {xs:List t.D} {x0 x1:t.D} {cs:List AV} (hx:x.ev f=.elt i j k) (hob:ob i=some (.arr e t xs)) (hy:xs[j]? =some x0) (hc:E6 one m k (t.av x0) (y.ev f)=some cs) (hd:t.ofAV cs=some x1):Bh n ⟨d,none,.st one m x y⟩ f ob=some (2,.any,[(i,none),(i,some (.arr e t (xs.set j x1)))]):=by
 simp [Bh,ev,Ul,hx,hob,hy,hc,hd]
theorem Tj {e:TypeId} {t:Ty} {by_:Nat} {l c:Opd} {k k':IntKind} {m m':Int} {j:Nat} (hl:l.ev f=.int k m) (hc:c.ev f=.int k' m') (h:0<=m∧m<=m'∧m'<=1073741824∧(by_:Int)*m'<=140737488355328) (hj:m.toNat=j):Bh n ⟨d,none,.make e t by_ l c⟩ f ob=some (1,.own ((d.getD 0,0),n) t 0 j,[(((d.getD 0,0),n),some (.arr e t (List.replicate j t.dflt)))]):=by
 subst hj;simp only [Bh,ev,Qu,hl,hc,if_pos h]
theorem Abn {t t':Ty} {i:Oid} {e:TypeId} {xs:List t.D} {len:Nat} (h:ob i=some (.arr e t xs)) (hl:len=xs.length):Dg ob t (.own i t' 0 len)=some xs:=by
 subst hl;simp only [Dg,h,Nat.zero_add,Nat.le_refl,if_true,Ty.eq?_self,Cy,List.drop_zero,List.take_length]
theorem Z9 {e:TypeId} {t t':Ty} {by_:Nat} {x y:Opd} {c:AV} {ys xs zs:List t.D} {j:Oid} {len:Nat} (hx:x.ev f=.own j t' 0 len) (hob:ob j=some (.arr e t xs)) (hl:len=xs.length) (hy:y.ev f=c) (hs:Dg ob t c=some ys) (hz:zs=xs++ys) (h:xs.length+ys.length<=1073741824∧(xs.length+ys.length)*by_<=140737488355328) :
  Bh n ⟨d,none,.append e t by_ x y⟩ f ob=some (2,.own (j.1,n) t 0 zs.length,[(j,none),((j.1,n),some (.arr e t zs))]):=by
 subst hl hz;simp only [Bh,ev,Fc,hx,hy,hs,hob,Ty.eq?_self,Nat.le_refl,true_and,h.1,h.2,and_self,if_true,Cy,List.take_length,List.length_append]
theorem Adv {x y:Opd} {j:Nat} (hx:x.ev f=.int .i64 j) (hy:y.ev f=.int .i64 1) (h:j+1<4611686018427387904):Bh n ⟨d,none,.i (.bin .add x y)⟩ f ob=some (0,.int .i64 ((j+1:Nat):Int),[]):=by
 have:IntKind.i64.wrap ((j:Int)+1)=((j+1:Nat):Int):=by rw [Go.IntWalk.i64_in _ (by omega)]; rfl
 simp [Bh,ev,evN,Nc,hx,hy,this]
theorem Aem {x y:Opd} {k:IntKind} {a b:Int} (hx:x.ev f=.int k a) (hy:y.ev f=.int k b) (h:b≠0):Bh n ⟨d,none,.i (.bin .quo x y)⟩ f ob=some (0,.int k (k.wrap (a.tdiv b)),[]):=by
 simp [Bh,ev,evN,Nc,hx,hy,h]
theorem Aei {x y:Opd} {k:IntKind} {a b:Int} (hx:x.ev f=.int k a) (hy:y.ev f=.int k b) (h:b≠0):Bh n ⟨d,none,.i (.bin .rem x y)⟩ f ob=some (0,.int k (a.tmod b),[]):=by
 simp [Bh,ev,evN,Nc,hx,hy,h]
theorem Ch {x y:Opd} {a b:ByteArray} (hx:x.ev f=.str a) (hy:y.ev f=.str b) (h:(a.size+b.size:Nat)<=9223372036854775807):Bh n ⟨d,none,.i (.bin .add x y)⟩ f ob=some (0,.str (a++b),[]):=by
 simp [Bh,ev,evN,Nc,hx,hy,h]
end
theorem Af {c:Opd} {x y:AC} {R:AE->St->Prop} {S:St} {t:Bool} (ht:t=true) (h1:awp P G x R S) (h:c.ev S.tm=.bool t:=by kernel_rfl):awp P G (.cond c x y) R S:=by
 subst ht; exact .inl ⟨true,h,fun _=>h1,fun h=>(nomatch h)⟩
theorem Ae {c:Opd} {x y:AC} {R:AE->St->Prop} {S:St} {t:Bool} (ht:t=false) (h2:awp P G y R S) (h:c.ev S.tm=.bool t:=by kernel_rfl):awp P G (.cond c x y) R S:=by
 subst ht; exact .inl ⟨false,h,fun h=>(nomatch h),fun _=>h2⟩
theorem An {i:Nat} {a:AC} {R:AE->St->Prop} {S:St} (h:awp P G a (E0 i R) S):awp P G (.block i a) R S:=h
theorem Yt {a:AC} {R:AE->St->Prop} {S:St} {α:Type} (I:α->St->Prop) (μ:α->Nat) (h0:∃ s S0,WeakG G S S0∧I s S0) (h1:∀ s S1,I s S1->awp P G a (F7 (fun S2=>∃ s' S3,WeakG G S2 S3∧I s' S3∧μ s'<μ s) R) S1):awp P G (.loop a) R S:=⟨α,I,μ,h0,h1⟩
theorem A8 {i:Nat} {R:AE->St->Prop} {S:St} (h:R (.exit i) S):awp P G (.exit i) R S:=h
theorem Aj {R:AE->St->Prop} {S:St} (h:R .normal S):awp P G .skip R S:=h
theorem Ai {R:AE->St->Prop} {S:St} (h:R .ret S):awp P G .ret R S:=h
end
section
variable {K:St->Prop} {R:AE->St->Prop} {S:St} {i j:Nat}
theorem tn_ (h:K S):F7 K R .normal S:=h
theorem te_ (h:R (.exit i) S):F7 K R (.exit i) S:=h
theorem tr_ (h:R .ret S):F7 K R .ret S:=h
theorem bn_ (h:R .normal S):E0 i R .normal S:=h
theorem be_ (h:R .normal S):E0 i R (.exit i) S:=by simpa [E0] using h
theorem br_ (h:R .ret S):E0 i R .ret S:=h
end
def tmL:Nat->List AV->List (Nat×AV)
 | _,[]=>[]
 | k,v :: r=>(k,v) :: tmL (k+1) r
theorem Uy:∀ (l:List AV) (k i:Nat),Al (tmL k l) (k+i)=l.getD i .any
 | [],k,i=>by simp [tmL,Al]
 | v :: r,k,i=>by
  cases i with
  | zero=>simp [tmL,Al]
  | succ i =>
   have:=Uy r (k+1) i;simp only [tmL,Al];rw [if_neg (by omega),show k+(i+1)=k+1+i by omega,this];simp
theorem Yb (args:List AV):(fun i=>args.getD i .any)=Al (tmL 0 args):=by
 funext i;have:=Uy args 0 i;rw [Nat.zero_add] at this;exact this.symm
theorem St.init_eq (args:List AV):St.init args=⟨Al (tmL 0 args),Ah [],1⟩:=by
 unfold St.init;rw [Yb];rfl
theorem D7 {G:World->Prop} {tl:List (Nat×AV)} {ol:List (Oid×Option Ob)} {g:Nat} (s:Nat) (v v':AV) (h:Al tl s=v) (e:v=v'):WeakG G ⟨Al tl,Ah ol,g⟩ ⟨Al ((s,v') :: tl),Ah ol,g⟩:=by
 subst e
 have:Al ((s,v) :: tl)=Al tl:=by
  funext i;simp only [Al];split
  ·rename_i e; rw [e]; exact h.symm
  ·rfl
 rw [this]; exact WeakG.refl _
theorem Abw {G:World->Prop} {tl:List (Nat×AV)} {ol:List (Oid×Option Ob)} {g:Nat} (j:Oid) (o o':Ob) (h:Ah ol j=some o) (e:o=o') (hx:H1 (some o)=true:=by rfl):WeakG G ⟨Al tl,Ah ol,g⟩ ⟨Al tl,Ah ((j,some o') :: ol),g⟩:=by
 subst e
 have:Ah ((j,some o) :: ol)=Ah ol:=by
  rw [← Vf hx,Aaf _ _ _ h]
 rw [this]; exact WeakG.refl _
def Tu (ol:List (Oid×Ob)):List (Oid×Ob)->Prop
 | []=>True
 | q :: r=>(match q.2 with
  | .mat _ p u xss=>∃ e,(p,Ob.pool e u xss)∈ol
  | _=>True)∧Tu ol r
theorem Ku {ol:List (Oid×Ob)}:∀ {l:List (Oid×Ob)},Tu ol l->∀ i e p u xss,(i,Ob.mat e p u xss)∈l->∃ e,(p,Ob.pool e u xss)∈ol
 | _ :: _,h,i,e,p,u,xss,hm=>by
  rcases List.mem_cons.1 hm with rfl | hm
  ·exact h.1
  ·exact Ku h.2 i e p u xss hm
theorem X2 {ol:List (Oid×Ob)} {p:Oid} {e:TypeId} {u:Ty} {xss:List (List u.D)}:(p,Ob.pool e u xss)∈ol->∀ k,k<xss.length->kid p k∈nmL ol:=by
 induction ol with
 | nil=>intro h; cases h
 | cons x r ih =>
  obtain ⟨x1,x2⟩:=x;intro h k hk;rcases List.mem_cons.1 h with h | h
  ·cases h;simp only [nmL,exL,List.map_append,List.mem_append];refine .inl (List.mem_map.2 ⟨(kid p k,.arr e u xss[k]),List.mem_map.2 ⟨(xss[k],k),?_,rfl⟩,rfl⟩);rw [List.mem_zipIdx_iff_getElem?]; exact gEg hk
  ·have:=ih h k hk;cases x2 <;> simp only [nmL,exL,List.map_cons,List.map_append] at this⊢ <;> first | exact List.mem_cons_of_mem _ this | exact List.mem_append_right _ this
theorem Gf {ol:List (Oid×Ob)} {i:Oid} (h:i∈A6 ol):i∈nmL ol:=by
 obtain ⟨o,ho,hp⟩:=Zx h;exact List.mem_map.2 ⟨_,Og ho hp,rfl⟩
theorem Ads {D:Oid->Prop} {p:Oid} {u:Ty} (xss:List (List u.D)) (h:∀ k,k<xss.length->D (kid p k)):AV.hpL D (hdL p u xss):=by
 have key:∀ l:List (List u.D×Nat),(∀ x∈l,D (kid p x.2))->AV.hpL D (l.map fun x=>.own (kid p x.2) u 0 x.1.length):=by
  intro l
  induction l with
  | nil=>intro _; trivial
  | cons x l ih=>intro h; exact ⟨h x (by simp),ih fun y hy=>h y (by simp [hy])⟩
 refine key _ fun x hx=>h _ ?_
 obtain ⟨row,k⟩:=x;rw [List.mem_zipIdx_iff_getElem?] at hx;exact (gSi.1 hx).1
theorem Ad4 {D:List Oid} (o:Ob) (h:o.clo1 D=true) (hp:o.isPool=false) (hm:∀ e p u xss,o≠.mat e p u xss):o.exp.cloP (·∈D):=by
 cases o with
 | cells _ cs=>exact AV.cloPL_of cs h
 | vec _ _ _ cs=>exact AV.cloPL_of cs h
 | mat e p u xss=>exact absurd rfl (hm _ _ _ _)
 | arr _ _ _=>trivial
 | map _ _ _=>trivial
 | pool _ _ _=>cases hp
 | tv e m t xs=>exact Wx xs
theorem Adh {D:List Oid} (o:Ob) (h:o.hp1 D=true) (hp:o.isPool=false) (hm:∀ e p u xss,o≠.mat e p u xss):o.exp.hp (·∈D):=by
 cases o with
 | cells _ cs=>exact AV.hpB_PL cs h
 | vec _ _ _ cs=>exact AV.hpB_PL cs h
 | mat e p u xss=>exact absurd rfl (hm _ _ _ _)
 | arr _ _ _=>trivial
 | map _ _ _=>trivial
 | pool _ _ _=>cases hp
 | tv e m t xs=>cases h
theorem cloP_mono {D E:Oid->Prop} (hd:∀ i,D i->E i) (o:Ob) (h:o.cloP D):o.cloP E:=by
 cases o <;> first | exact AV.cloPL_mono hd _ h | exact h
theorem hp_mono {D E:Oid->Prop} (hd:∀ i,D i->E i) (o:Ob) (h:o.hp D):o.hp E:=by
 cases o <;> first | exact AV.hpL_mono hd _ h | exact h
section
variable {P:Program} {G:World->Prop} (hfol:P.follows .mixedOrders=true) {g:FuncId} {fn:Func} (hf:P.funcs[g]? =some fn) {ac:AC} {rs:List Res} (hc:Ap P fn=some (ac,rs)) {args:List AV} {r:RV} {n:Nat} (hN:fn.ntmps=n) (hn:args.length<=n)
include hfol hf hc hN hn
theorem A0 [IsP P] {tl:List (Nat×AV)} (htl:tmL 0 args=tl) (h:awp P G ac (fun e S=>∃ S',WeakG G S S'∧(e=.normal∨e=.ret)∧RetOK [] rs S' r) ⟨Al tl,Ah [],1⟩):Ay P G g args r:=by
 refine Acb hfol hf hc hN hn ?_;rw [St.init_eq,htl];exact h
omit hN hn in
end
theorem A7 {G:World->Prop} {rs:List Res} {f:Nat->AV} {ob:Oid->Option Ob} {g:Nat} {r:RV} (avs:List AV) {vs:List Value} {e:AE} (h2:PartsR vs ob avs r.ps) (he:e=.normal∨e=.ret:=by simp) (h1:Res.evL f ob rs=some avs:=by kernel_rfl) (h3:ndB (Ru ob (Ll avs))=true:=by kernel_rfl) (h4:r.tup=decide (rs.length≠1):=by kernel_rfl):∃ S',WeakG G ⟨f,ob,g⟩ S'∧(e=.normal∨e=.ret)∧RetOK vs rs S' r :=
 ⟨_,WeakG.refl _,he,avs,r.ps,h1,h2,Cp h3,by cases r; cases h4; rfl⟩
theorem Ada {G:World->Prop} {rs:List Res} {S:St} {tl:List (Nat×AV)} {g:Nat} {v:AV} {us:List (Oid×Ob)} {e:AE} (rvs:List AV) (hw:WeakG G S ⟨Al tl,Ah (Aq us),g⟩) (he:e=.normal∨e=.ret:=by simp) (h1:Res.evL (Al tl) (Ah (Aq us)) rs=some rvs:=by kernel_rfl) (hv:v=Vz rvs:=by kernel_rfl) (h2:(D5 us&&(ndB (A6 us)&&ndB (Ba us)))=true:=by kernel_rfl) :
  ∃ S',WeakG G S S'∧(e=.normal∨e=.ret)∧(∃ rvs,Res.evL S'.tm S'.ob rs=some rvs∧v=Vz rvs)∧∀ q∈exL us,S'.ob q.1=some q.2:=by
 refine ⟨_,hw,he,⟨rvs,h1,hv⟩,fun q hq=>?_⟩;simp only [Bool.and_eq_true] at h2;obtain ⟨a1,a2,a3⟩:=h2
 have h0:∀ q∈us,q.1.1.2=0:=fun q hq=>by
  unfold D5 at a1;rw [List.all_eq_true] at a1;have:=a1 q hq;simp only [Bool.and_eq_true,beq_iff_eq] at this;exact this.1
 have:=H8 (rest:=[]) (Cp a2) (Cp a3) (fun p hp=>by obtain ⟨e,u,xss,hm⟩:=Aea hp; exact h0 _ hm) (fun i hi p hp k e=>by
  obtain ⟨o,ho,_⟩:=Zx hi;have:=h0 _ ho;rw [e] at this;simp [kid] at this) q hq
 rwa [List.append_nil] at this
section
variable {vs:List Value} {ob:Oid->Option Ob}
theorem At {c:AV} {r:List AV} {l:RL} {ps:List (Bool×List RL)} (hc:c.one=true) (h1:LeafR vs ob c l) (h2:PartsR vs ob r ps):PartsR vs ob (c :: r) ((false,[l]) :: ps):=by
 rw [Hy (by rintro ⟨_,rfl⟩; cases hc)];exact ⟨l,ps,rfl,h1,h2⟩
theorem Ax:PartsR vs ob [] []:=rfl
theorem Aex {c:AV} {l:RL} (h:K3 ob c=some l):LeafR vs ob c l:=.inl (.inl h)
theorem U6 {i:Oid} {t u:Ty} {e:TypeId} {xs:List u.D} {len:Nat} (h:ob i=some (.arr e u xs)) (hl:len=xs.length):LeafR vs ob (.own i t 0 len) (.new e u xs):=by
 subst hl;exact .inl (.inl (by simp only [K3,h,Nat.le_refl,and_self,if_true,List.take_length]))
end
end
section
open Go.RowKit Go.Deep
abbrev tm (n:Nat):Opd:=.tmp n
abbrev cb (b:Bool):Opd:=.cst (.bool b)
abbrev ci (n:Int):Opd:=.cst (.int .i64 n)
abbrev xo (d:Nat) (q:Q):X:=⟨some d,none,q⟩
abbrev xn (q:Q):X:=⟨none,none,q⟩
abbrev qm (x:Opd):Q:=.i (.mov x)
abbrev ql (x:Opd):Q:=.i (.ld true 1 x)
abbrev qs (x y:Opd):Q:=.st true 1 x y
abbrev qf (k:Nat) (x:Opd):Q:=.i (.fld k x)
abbrev qb (o:BinOp) (x y:Opd):Q:=.i (.bin o x y)
abbrev qc (f:FuncId) (xs:List Opd) (tys:List (List (Option Ty))):Q:=.call (.cst (.fn f [])) xs tys
abbrev rg (xs:List X):AC:=.region xs false []
abbrev ai (n:Int):AV:=.int .i64 n
abbrev oi (a b:Nat):Oid:=((a,0),b)
def Acc (d:Option Nat) (v:AV) (tl:List (Nat×AV)):List (Nat×AV) :=
 match d with
 | some d=>(d,v) :: tl
 | none=>tl
theorem Aal (d:Option Nat) (v:AV) (tl:List (Nat×AV)):Gj d v (Al tl)=Al (Acc d v tl):=by
 cases d with
 | none=>rfl
 | some d=>simp only [Gj,Acc,Qc]
noncomputable def Um (g:Nat):Nat->Nat->List X->List (Nat×AV)->List (Oid×Option Ob)->Option (List (Nat×AV)×List (Oid×Option Ob))
 | 0,_,_,tl,ol=>some (tl,ol)
 | _+1,_,[],_,_=>none
 | n+1,k,x :: xs,tl,ol=>match Bh (g+k) x (Al tl) (Ah ol) with
  | some (_,v,us)=>if D3 us then Um g n (k+1) xs (Acc x.dst v tl) (us.reverseAux ol) else none
  | none=>none
theorem Aen {P:Program} {G:World->Prop} {g:Nat} {Kf:List (Nat×AV)->List (Oid×Option Ob)->Prop}:∀ (n k:Nat) (xs:List X) (tl:List (Nat×AV)) (ol:List (Oid×Option Ob)) (r:List (Nat×AV)×List (Oid×Option Ob)),Um g n k xs tl ol=some r->XW P G g (k+n) (xs.drop n) r.1 r.2 Kf->XW P G g k xs tl ol Kf
 | 0,k,xs,tl,ol,r,h,hk=>by
  obtain rfl:=osj h;exact hk
 | n+1,k,[],tl,ol,r,h,hk=>by cases h
 | n+1,k,x :: xs,tl,ol,r,h,hk=>by
  simp only [Um] at h;split at h
  ·rename_i c v us hst;split at h
   ·rename_i hx;obtain ⟨rs,tl',ol',h1,h2⟩:=Aen (P:=P) (G:=G) n (k+1) xs _ _ r h (by rw [show k+1+n=k+(n+1) by omega]; exact hk);exact ⟨(c,v,us) :: rs,tl',ol',⟨_,_,rfl,E5 hst,by rw [Aal,Fm _ _ hx]; exact h1⟩,h2⟩
   ·cases h
  ·cases h
theorem rsB {P:Program} {G:World->Prop} {g k:Nat} {xs:List X} {tl:List (Nat×AV)} {ol:List (Oid×Option Ob)} {Kf:List (Nat×AV)->List (Oid×Option Ob)->Prop} (n:Nat) (hk:XW P G g (k+n) (xs.drop n) ((Um g n k xs tl ol).getD ([],[])).1 ((Um g n k xs tl ol).getD ([],[])).2 Kf) (h:(Um g n k xs tl ol).isSome=true:=by kernel_rfl):XW P G g k xs tl ol Kf:=by
 obtain ⟨r,hr⟩:=Option.isSome_iff_exists.1 h;rw [hr] at hk;exact Aen n k xs tl ol r hr hk
noncomputable def Aam (g:Nat):Nat->Nat->List X->List (Nat×AV)->List (Oid×Option Ob)->Option (List (Nat×AV))
 | 0,_,_,tl,_=>some tl
 | _+1,_,[],_,_=>none
 | n+1,k,x :: xs,tl,ol=>match Bh (g+k) x (Al tl) (Ah ol) with
  | some (_,v,[])=>Aam g n (k+1) xs (Acc x.dst v tl) ol
  | _=>none
theorem Aej {P:Program} {G:World->Prop} {g:Nat} {ol:List (Oid×Option Ob)} {Kf:List (Nat×AV)->List (Oid×Option Ob)->Prop}:∀ (n k:Nat) (xs:List X) (tl:List (Nat×AV)) (r:List (Nat×AV)),Aam g n k xs tl ol=some r->XW P G g (k+n) (xs.drop n) r ol Kf->XW P G g k xs tl ol Kf
 | 0,k,xs,tl,r,h,hk=>by
  obtain rfl:=osj h;exact hk
 | n+1,k,[],tl,r,h,hk=>by cases h
 | n+1,k,x :: xs,tl,r,h,hk=>by
  simp only [Aam] at h;split at h
  ·rename_i c v hst;obtain ⟨rs,tl',ol',h1,h2⟩:=Aej (P:=P) (G:=G) n (k+1) xs _ r h (by rw [show k+1+n=k+(n+1) by omega]; exact hk);exact ⟨(c,v,[]) :: rs,tl',ol',⟨_,_,rfl,E5 hst,by rw [Aal]; exact h1⟩,h2⟩
  ·cases h
theorem rsT {P:Program} {G:World->Prop} {g k:Nat} {xs:List X} {tl:List (Nat×AV)} {ol:List (Oid×Option Ob)} {Kf:List (Nat×AV)->List (Oid×Option Ob)->Prop} (n:Nat) (hk:XW P G g (k+n) (xs.drop n) ((Aam g n k xs tl ol).getD []) ol Kf) (h:(Aam g n k xs tl ol).isSome=true:=by kernel_rfl):XW P G g k xs tl ol Kf:=by
 obtain ⟨r,hr⟩:=Option.isSome_iff_exists.1 h;rw [hr] at hk;exact Aej n k xs tl r hr hk
theorem Am {P:Program} {G:World->Prop} {g:Nat} {xs:List X} {bad:List (Nat×Nat)} {y:AC} {R:AE->St->Prop} {tl:List (Nat×AV)} {ol:List (Oid×Option Ob)} (h:awp P G y R ⟨Al ((Um g xs.length 0 xs tl ol).getD ([],[])).1,Ah ((Um g xs.length 0 xs tl ol).getD ([],[])).2,g+xs.length⟩) (hs:(Um g xs.length 0 xs tl ol).isSome=true:=by kernel_rfl):awp P G (.seq (.region xs false bad) y) R ⟨Al tl,Ah ol,g⟩:=by
 refine Ab (Aa (g+xs.length) (rsB xs.length (by rw [List.drop_length]; exact As (tn_ ⟨_,WeakG.refl _,h⟩)) hs) rfl)
section
variable {n:Nat} {d:Option Nat} {f:Nat->AV} {ob:Oid->Option Ob} {ol:List (Oid×Option Ob)}
theorem Adi {i:Oid} {e:TypeId} {t:Ty} {sz:Nat} {xs:List Opd} {r:Rec} (h:(Sn f i e t sz xs).map (fun r=>((1:Nat),r.1,r.2))=some r):evL f i (.mkV e t sz xs)=some r:=by
 simp only [evL];cases hq:Sn f i e t sz xs with
 | none=>rw [hq] at h; cases h
 | some q=>rw [hq] at h; obtain ⟨v,us⟩:=q; exact h
end
section
variable {P:Program} {G:World->Prop} {g k d:Nat} {gd:Option (Nat×Bool)} {q:Q} {xs:List X} {tl:List (Nat×AV)} {ol:List (Oid×Option Ob)} {bad:List (Nat×Nat)} {ra:List Rec} {da:List (List Oid)} {Kf:List (Nat×AV)->List (Oid×Option Ob)->Prop}
theorem Ae0 (v:AV) (i:Oid) (o:Ob) (hgd:Ro gd (Al tl)) (h:evL (Al tl) ((d,0),g+k) q=some (1,v,[(i,some o)])) (h3:XW P G g (k+1) xs ((d,v) :: tl) ((i,some o) :: ol) Kf) (hx:H1 (some o)=true:=by rfl):XW P G g k (⟨some d,gd,q⟩ :: xs) tl ol Kf:=Sh 1 v _ (Ac9 (d:=some d) hgd h) h3 (by simp only [D3,List.all_cons,List.all_nil,hx]; rfl)
theorem Aev (v:AV) (i:Oid) (o:Ob) (hgd:Ro gd (Al tl)) (h:evL (Al tl) ((d,0),g+k) q=some (1,v,[(i,some o)])) (h3:XD P G bad g (k+1) xs ((d,v) :: tl) ((i,some o) :: ol) ((1,v,[(i,some o)]) :: ra) ((rdX (Al tl) (Ah ol) ⟨some d,gd,q⟩) :: da) Kf) (hx:H1 (some o)=true:=by rfl):XD P G bad g k (⟨some d,gd,q⟩ :: xs) tl ol ra da Kf:=V4 1 v _ (Ac9 (d:=some d) hgd h) h3 (by simp only [D3,List.all_cons,List.all_nil,hx]; rfl)
end
-- what arguments read as
section
variable {ol:List (Oid×Option Ob)} {n:Nat}
theorem Pr {α:Type} {g:List AV->Option α}:∀ {cs:List AV} {xs:List α},cs.length=xs.length->(∀ (k:Nat) (c:AV) (x:α),cs[k]? =some c->xs[k]? =some x->g [c]=some x)->It g 1 xs.length cs=some xs
 | [],[],_,_=>rfl
 | c :: cs,x :: xs,hl,h=>by
  have h0:=h 0 c x rfl rfl;have ih:=Pr (g:=g) (cs:=cs) (xs:=xs) (by simpa using hl) (fun k c x h1 h2=>h (k+1) c x h1 h2);simp only [List.length_cons,It,List.take_succ_cons,List.take_zero,List.drop_succ_cons,List.drop_zero,h0,ih]
 | [],_ :: _,hl,_=>by simp at hl
 | _ :: _,[],hl,_=>by simp at hl
theorem Aba {ob:Oid->Option Ob} {o p:Oid} {e1 e:TypeId} {u:Ty} {xss:List (List u.D)} {m len:Nat} (ho:ob o=some (.vec e1 1 m (hdL p u xss))) (hm:m=xss.length) (hk:∀ k row,xss[k]? =some row->ob (kid p k)=some (.arr e u row)) {t':Ty} (hl:len<=xss.length):Vb ob 1 (rdC ob (.slice u)) (.own o t' 0 len)=some (xss.take len):=by
 have h1:(((hdL p u xss).drop (0*1)).take (len*1))=hdL p u (xss.take len):=by
  simp only [Nat.zero_mul,List.drop_zero,Nat.mul_one];apply List.ext_getElem?;intro j;rw [List.getElem?_take,Od,Od,List.getElem?_take];split <;> rfl
 have hlen:(xss.take len).length=len:=by rw [List.length_take]; omega
 simp only [Vb,ho];rw [if_pos ⟨trivial,by omega⟩,h1]
 have:=Pr (g:=rdC ob (.slice u)) (cs:=hdL p u (xss.take len)) (xs:=xss.take len) Yc (fun k c x hc hx=>by
  rw [Od,hx] at hc;obtain rfl:=osj hc;rw [List.getElem?_take] at hx;split at hx
  ·have:=hk k x hx;simp only [rdC,Dg,this,Nat.zero_add,Nat.le_refl,if_true,Ty.eq?_self,Cy,List.drop_zero,List.take_length]
  ·cases hx)
 rw [hlen] at this;exact this
theorem Adr {ob:Oid->Option Ob} {o p:Oid} {e1 e:TypeId} {u:Ty} {xss:List (List u.D)} {len:Nat} (ho:ob o=some (.vec e1 1 xss.length (hdL p u xss))) (hk:∀ k row,xss[k]? =some row->ob (kid p k)=some (.arr e u row)) (hl:len=xss.length):gnd ob (n+1) (.own o (.slice u) 0 len)=some (.tree (.slice u) xss):=by
 subst hl;have:=Aba (t':=.slice u) ho rfl hk (Nat.le_refl _);rw [List.take_length] at this;simp only [gnd,ho,Ty.size,this,Option.map_some]
def Zw (zs:List AV) (ob:Oid->Option Ob) (θ:Oid->Oid):List (Oid×Ob)->Prop
 | []=>True
 | q :: r=>(match q.2 with
  | .pool _ _ xss=>∀ k,k<xss.length->Reached zs ob (kid (θ q.1) k)
  | _=>Reached zs ob (θ q.1))∧Zw zs ob θ r
theorem E3 {zs:List AV} {ob:Oid->Option Ob} {l:List (Oid×Oid)} (hl:Pj l=true):∀ {ol:List (Oid×Ob)},D5 ol=true->Zw zs ob (Bg l) ol->∀ j∈nmL ol,Reached zs ob (Bg l j)
 | [],_,_,j,hj=>by cases hj
 | (p,o) :: r,h0,h,j,hj=>by
  simp only [D5,List.all_cons,Bool.and_eq_true,beq_iff_eq] at h0;obtain ⟨⟨h1,_⟩,h2⟩:=h0;have ih:j∈nmL r->Reached zs ob (Bg l j):=fun hm=>E3 hl (ol:=r) (by simpa [D5] using h2) h.2 j hm
  cases o with
  | pool e u xss =>
   simp only [nmL,exL,List.map_append,List.mem_append] at hj;rcases hj with hj | hj
   ·obtain ⟨q,hq,rfl⟩:=List.mem_map.1 hj;obtain ⟨⟨row,k⟩,hx,rfl⟩:=List.mem_map.1 hq;rw [List.mem_zipIdx_iff_getElem?] at hx;show Reached zs ob (Bg l (kid p k));rw [Fi hl h1];exact h.1 k (gSi.1 hx).1
   ·exact ih hj
  | _ =>
   simp only [nmL,exL,List.map_cons,List.mem_cons] at hj;rcases hj with rfl | hj
   ·exact h.1
   ·exact ih hj
theorem B5 {zs:List AV} {ob:Oid->Option Ob} {i:Oid} (h:(AV.nmsL zs).contains i=true):Reached zs ob i:=.arg (List.contains_iff_mem.1 h)
theorem I8 {zs:List AV} {ob:Oid->Option Ob} {k i:Oid} {ty:TypeId} {cs:List AV} (h1:Reached zs ob k) (h2:ob k=some (.cells ty cs)) (h:(AV.nmsL cs).contains i=true):Reached zs ob i:=.cells h1 h2 (List.contains_iff_mem.1 h)
end
end
section
open Go.RowKit Go.Deep
section
variable {f:Nat->AV} {ob:Oid->Option Ob} {n:Nat} {d:Option Nat}
end
end
section
open Go.RowKit Go.Deep
section
variable {P:Program} {G:World->Prop} {g k d:Nat} {gd:Option (Nat×Bool)} {q:Q} {xs:List X} {tl:List (Nat×AV)} {ol:List (Oid×Option Ob)} {bad:List (Nat×Nat)} {ra:List Rec} {da:List (List Oid)} {Kf:List (Nat×AV)->List (Oid×Option Ob)->Prop}
theorem dz0 (v:AV) (h3:XD P G bad g (k+1) xs ((d,v) :: tl) ol ((0,v,[]) :: ra) ((rdX (Al tl) (Ah ol) ⟨some d,gd,q⟩) :: da) Kf) (h:Bh (g+k) ⟨some d,gd,q⟩ (Al tl) (only (rdX (Al tl) (Ah ol) ⟨some d,gd,q⟩) (Ah ol))=some (0,v,[]):=by kernel_rfl):XD P G bad g k (⟨some d,gd,q⟩ :: xs) tl ol ra da Kf:=ds0 v h h3
theorem dzl (v:AV) (h3:XD P G bad g (k+1) xs ((d,v) :: tl) ol ((1,v,[]) :: ra) ((rdX (Al tl) (Ah ol) ⟨some d,gd,q⟩) :: da) Kf) (h:Bh (g+k) ⟨some d,gd,q⟩ (Al tl) (only (rdX (Al tl) (Ah ol) ⟨some d,gd,q⟩) (Ah ol))=some (1,v,[]):=by kernel_rfl):XD P G bad g k (⟨some d,gd,q⟩ :: xs) tl ol ra da Kf:=dsl v h h3
theorem zc {fo:Opd} {ys:List Opd} {tys:List (List (Option Ty))} {F:FuncId} {rv:RV} {args:List AV} (v:AV) (us:List (Oid×Option Ob)) (zs:List AV) (hc:Ay P G F args rv) (h3:XW P G g (k+1) xs ((d,v) :: tl) (us.reverseAux ol) Kf) (h1:I1 (gnd (Ah ol) 8) zs=some zs:=by kernel_rfl) (hb:Bu P F=true:=by kernel_rfl) (hfo:fo.ev (Al tl)=.fn F []:=by kernel_rfl) (hz:(ys++([]:List AV).map Opd.cst).map (Opd.ev (Al tl))=zs:=by kernel_rfl) (hn:Kk tys zs=args:=by kernel_rfl) (hr:rv.out (Gi ((d,0),g+k)) zs=(v,us):=by kernel_rfl) (hx:D3 us=true:=by rfl) (hni:rv.noI=true:=by kernel_rfl):XW P G g k (⟨some d,none,.call fo ys tys⟩ :: xs) tl ol Kf:=Ii (caps:=[]) (args0:=zs) v us zs args trivial h1 hc hb h3 hfo hz hn hr hx hni
end
abbrev sI:Ty:=.slice .int
abbrev an (n:Nat):AV:=.int .i64 n
abbrev tI (x:List Int):AV:=.tree .int x
abbrev oI (a b n:Nat):AV:=.own (oi a b) .int 0 n
abbrev nI (a b:Nat) (x:List Int):Oid×Option Ob:=(oi a b,some (.arr 3 .int x))
abbrev xm (d s:Nat):X:=⟨some d,none,.i (.mov (.tmp s))⟩
abbrev xl (d s:Nat):X:=⟨some d,none,.i (.ld true 1 (.tmp s))⟩
abbrev xf (d k s:Nat):X:=⟨some d,none,.i (.fld k (.tmp s))⟩
abbrev xx (d z a b:Nat):X:=⟨some d,none,.i (.idx z (.tmp a) (.tmp b))⟩
abbrev xn1 (d s:Nat):X:=⟨some d,none,.i (.len (.tmp s))⟩
abbrev xa (d s:Nat):X:=⟨some d,none,.i (.bin .add (.tmp s) (.cst (.int .i64 1)))⟩
abbrev xs1 (d a b:Nat):X:=⟨some d,none,.i (.bin .lss (.tmp a) (.tmp b))⟩
section
variable {P:Program} {G:World->Prop} {g k d:Nat} {gd:Option (Nat×Bool)} {q:Q} {xs:List X} {tl:List (Nat×AV)} {ol:List (Oid×Option Ob)} {bad:List (Nat×Nat)} {ra:List Rec} {da:List (List Oid)} {Kf:List (Nat×AV)->List (Oid×Option Ob)->Prop}
theorem dzc {fo:Opd} {ys:List Opd} {tys:List (List (Option Ty))} {F:FuncId} {rv:RV} {args:List AV} (v:AV) (us:List (Oid×Option Ob)) (zs:List AV) (hc:Ay P G F args rv) (h3:XD P G bad g (k+1) xs ((d,v) :: tl) (us.reverseAux ol) ((1,v,us) :: ra) ((rdX (Al tl) (Ah ol) ⟨some d,none,.call fo ys tys⟩) :: da) Kf) (h1:I1 (gnd (only (rdX (Al tl) (Ah ol) ⟨some d,none,.call fo ys tys⟩) (Ah ol)) 8) zs=some zs:=by kernel_rfl) (hb:Bu P F=true:=by kernel_rfl) (hfo:fo.ev (Al tl)=.fn F []:=by kernel_rfl) (hz:(ys++([]:List AV).map Opd.cst).map (Opd.ev (Al tl))=zs:=by kernel_rfl) (hn:Kk tys zs=args:=by kernel_rfl) (hr:rv.out (Gi ((d,0),g+k)) zs=(v,us):=by kernel_rfl) (hx:D3 us=true:=by rfl) (hni:rv.noI=true:=by kernel_rfl):XD P G bad g k (⟨some d,none,.call fo ys tys⟩ :: xs) tl ol ra da Kf:=Aau (caps:=[]) (args0:=zs) v us zs args trivial h1 hc hb h3 hfo hz hn hr hx hni
theorem zI {sz:Nat} {x i:Opd} (t:Ty) {zs:List t.D} {y:t.D} {j:Nat} (hy:zs[j]? =some y) (h3:XW P G g (k+1) xs ((d,.telt none t y 0) :: tl) ol Kf) (hx:(x.ev (Al tl)).un=.tree t zs:=by kernel_rfl) (hi:i.ev (Al tl)=.int .i64 (j:Int):=by kernel_rfl) (hs:sz=t.size:=by rfl) (he:(x.ev (Al tl)).tag=none:=by kernel_rfl):XW P G g k (⟨some d,none,.i (.idx sz x i)⟩ :: xs) tl ol Kf:=rs0 _ (Ws hx hi hs (Int.natCast_nonneg _) rfl hy he) h3
theorem dzI {sz:Nat} {x i:Opd} (t:Ty) {zs:List t.D} {y:t.D} {j:Nat} (hy:zs[j]? =some y) (h3:XD P G bad g (k+1) xs ((d,.telt none t y 0) :: tl) ol ((0,.telt none t y 0,[]) :: ra) ((rdX (Al tl) (Ah ol) ⟨some d,none,.i (.idx sz x i)⟩) :: da) Kf) (hx:(x.ev (Al tl)).un=.tree t zs:=by kernel_rfl) (hi:i.ev (Al tl)=.int .i64 (j:Int):=by kernel_rfl) (hs:sz=t.size:=by rfl) (he:(x.ev (Al tl)).tag=none:=by kernel_rfl):XD P G bad g k (⟨some d,none,.i (.idx sz x i)⟩ :: xs) tl ol ra da Kf:=ds0 _ (Ws hx hi hs (Int.natCast_nonneg _) rfl hy he) h3
theorem zO {sz:Nat} {x i:Opd} (o:Oid) (t:Ty) (len:Nat) {j:Nat} (hl:j<len) (h3:XW P G g (k+1) xs ((d,.elt o j 0) :: tl) ol Kf) (hx:x.ev (Al tl)=.own o t 0 len:=by kernel_rfl) (hi:i.ev (Al tl)=.int .i64 (j:Int):=by kernel_rfl) (hs:sz=t.size:=by rfl):XW P G g k (⟨some d,none,.i (.idx sz x i)⟩ :: xs) tl ol Kf:=rs0 _ (W9 hx hi hs (Int.natCast_nonneg _) rfl hl) h3
theorem dzO {sz:Nat} {x i:Opd} (o:Oid) (t:Ty) (len:Nat) {j:Nat} (hl:j<len) (h3:XD P G bad g (k+1) xs ((d,.elt o j 0) :: tl) ol ((0,.elt o j 0,[]) :: ra) ((rdX (Al tl) (Ah ol) ⟨some d,none,.i (.idx sz x i)⟩) :: da) Kf) (hx:x.ev (Al tl)=.own o t 0 len:=by kernel_rfl) (hi:i.ev (Al tl)=.int .i64 (j:Int):=by kernel_rfl) (hs:sz=t.size:=by rfl):XD P G bad g k (⟨some d,none,.i (.idx sz x i)⟩ :: xs) tl ol ra da Kf:=ds0 _ (W9 hx hi hs (Int.natCast_nonneg _) rfl hl) h3
theorem zE {x:Opd} (i:Oid) {ws:List Int} {j:Nat} {z:Int} (hz:ws[j]? =some z) (h3:XW P G g (k+1) xs ((d,.int .i64 z) :: tl) ol Kf) (hx:x.ev (Al tl)=.elt i j 0:=by kernel_rfl) (hob:Ah ol i=some (.arr 3 .int ws):=by kernel_rfl):XW P G g k (⟨some d,none,.i (.ld true 1 x)⟩ :: xs) tl ol Kf:=rsl _ (Vv (k:=0) (t:=.int) hx hob hz rfl) h3
theorem dzE {x:Opd} (i:Oid) {ws:List Int} {j:Nat} {z:Int} (hz:ws[j]? =some z) (h3:XD P G bad g (k+1) xs ((d,.int .i64 z) :: tl) ol ((1,.int .i64 z,[]) :: ra) ((rdX (Al tl) (Ah ol) ⟨some d,none,.i (.ld true 1 x)⟩) :: da) Kf) (hx:x.ev (Al tl)=.elt i j 0:=by kernel_rfl) (hob:only (rdX (Al tl) (Ah ol) ⟨some d,none,.i (.ld true 1 x)⟩) (Ah ol) i=some (.arr 3 .int ws):=by kernel_rfl):XD P G bad g k (⟨some d,none,.i (.ld true 1 x)⟩ :: xs) tl ol ra da Kf:=dsl _ (Vv (k:=0) (t:=.int) hx hob hz rfl) h3
theorem zS {x y:Opd} (i:Oid) {ws:List Int} {j:Nat} {z:Int} (z1:Int) (hz:ws[j]? =some z) (h3:XW P G g (k+1) xs tl ((i,some (.arr 3 .int (ws.set j z1))) :: (i,none) :: ol) Kf) (hx:x.ev (Al tl)=.elt i j 0:=by kernel_rfl) (hob:Ah ol i=some (.arr 3 .int ws):=by kernel_rfl) (hy:y.ev (Al tl)=.int .i64 z1:=by kernel_rfl):XW P G g k (⟨none,none,.st true 1 x y⟩ :: xs) tl ol Kf:=Ad6 _ _ _ (Adg (k:=0) (t:=.int) (cs:=[.int .i64 z1]) (x1:=z1) hx hob hz (by rw [hy]; rfl) rfl) h3
theorem zA {x y:Opd} {j:Nat} (h:j+1<4611686018427387904) (h3:XW P G g (k+1) xs ((d,.int .i64 ((j+1:Nat):Int)) :: tl) ol Kf) (hx:x.ev (Al tl)=.int .i64 j:=by kernel_rfl) (hy:y.ev (Al tl)=.int .i64 1:=by kernel_rfl):XW P G g k (⟨some d,none,.i (.bin .add x y)⟩ :: xs) tl ol Kf:=rs0 _ (Adv hx hy h) h3
end
section
variable {n:Nat} {d:Option Nat} {f:Nat->AV} {ob:Oid->Option Ob}
theorem zi {sz:Nat} {x i:Opd} {t:Ty} {xs:List t.D} {y:t.D} {k:IntKind} {m:Int} {j:Nat} (h0:0<=m) (hy:xs[j]? =some y) (hx:(x.ev f).un=.tree t xs:=by kernel_rfl) (hi:i.ev f=.int k m:=by kernel_rfl) (hs:sz=t.size:=by rfl) (hj:m.toNat=j:=by rfl) {e:Option (Nat->Prop)} (he:(x.ev f).tag=e:=by kernel_rfl):Bh n ⟨d,none,.i (.idx sz x i)⟩ f ob=some (0,.telt e t y 0,[]):=Ws hx hi hs h0 hj hy he
theorem zo {sz:Nat} {x i:Opd} {t:Ty} {o:Oid} {len:Nat} {k:IntKind} {m:Int} {j:Nat} (h0:0<=m) (hl:j<len) (hx:x.ev f=.own o t 0 len:=by kernel_rfl) (hi:i.ev f=.int k m:=by kernel_rfl) (hs:sz=t.size:=by rfl) (hj:m.toNat=j:=by rfl):Bh n ⟨d,none,.i (.idx sz x i)⟩ f ob=some (0,.elt o j 0,[]):=W9 hx hi hs h0 hj hl
theorem zl {vs:List Value} {c:AV} {l:RL} (h:K3 ob c=some l:=by kernel_rfl):LeafR vs ob c l:=Aex h
end
theorem zj {α:Type} {a b:α} (h:some a=some b):a=b:=osj h
theorem wr_ {G:World->Prop} {S:St} {K:St->Prop} (h:K S):∃ S',WeakG G S S'∧K S':=⟨S,WeakG.refl _,h⟩
end
section
open Go.RowKit Go.Deep
inductive Ctl (σ ρ:Type) where
 | next (s:σ)
 | out (r:ρ)
def Ctl.then {σ β:Type} (k:σ->Option β):Ctl σ β->Option β
 | .next t=>k t
 | .out r=>some r
section
variable {α β σ τ ρ:Type}
def og (c:Prop) [Decidable c] (k:Option α):Option α:=if c then k else none
theorem Au {c:Prop} [Decidable c] {k:Option α} {r:α} (h:og c k=some r):c∧k=some r:=by
 unfold og at h;split at h
 ·rename_i hc; exact ⟨hc,h⟩
 ·cases h
theorem A5 {c:Prop} [Decidable c] (h:c) (k:Option α):og c k=k:=if_pos h
theorem Ag {o:Option α} {f:α->Option β} {b:β} (h:o.bind f=some b):∃ a,o=some a∧f a=some b:=Option.bind_eq_some_iff.1 h
theorem Ad {c:Bool} {a b:Option α} {r:α} (h:cond c a b=some r):(c=true∧a=some r)∨(c=false∧b=some r):=by
 cases c
 ·exact .inr ⟨rfl,h⟩
 ·exact .inl ⟨rfl,h⟩
def Qb (a:Option (Ctl τ β)) (k:τ->Option β):Option β :=
 a.bind (Ctl.then k)
theorem Y1 {a:Option (Ctl τ β)} {k:τ->Option β} {r:β} (h:Qb a k=some r):∃ v,a=some v∧Ctl.then k v=some r:=Ag h
def A9 (body:σ->Option (Ctl σ ρ)):Nat->σ->Option ρ
 | 0,_=>none
 | n+1,s=>(body s).bind (Ctl.then (A9 body n))
theorem Wl {body:σ->Option (Ctl σ ρ)} {n:Nat} {s:σ} {v:ρ} (h:A9 body (n+1) s=some v):∃ c,body s=some c∧Ctl.then (A9 body n) c=some v:=Ag h
theorem Xb {body:σ->Option (Ctl σ ρ)} {s:σ} {v:ρ} (h:A9 body 0 s=some v):False:=by cases h
def J0 (xs:List α) (n:Int):Option α:=if 0<=n then xs[n.toNat]? else none
theorem Bj {xs:List α} {k:Nat} {x:α} (h:xs[k]? =some x):k<xs.length:=(gSi.1 h).1
theorem Em {xs:List α} {n:Int} {x:α} (h:J0 xs n=some x):0<=n∧n<xs.length∧xs[n.toNat]? =some x:=by
 unfold J0 at h;split at h
 ·rename_i h0;have:=Bj h;exact ⟨h0,by omega,h⟩
 ·cases h
theorem Q6 {xs:List α} {n:Int} (h:0<=n):J0 xs n=xs[n.toNat]?:=if_pos h
end
section
variable {P:Program} {G:World->Prop} {σ τ β ρ:Type}
theorem A3 {x y:AC} {R:AE->St->Prop} {S:St} {A:Option τ} {k:τ->Option β} {r:β} (h:A.bind k=some r) (J:τ->St->Prop) (h1:∀ t,A=some t->awp P G x (F7 (fun S'=>∃ S'',WeakG G S' S''∧J t S'') R) S) (h2:∀ t S'',J t S''->k t=some r->awp P G y R S''):awp P G (.seq x y) R S:=by
 obtain ⟨t,ha,hk⟩:=Ag h;exact Su (J t) (h1 t ha) fun S'' hj=>h2 t S'' hj hk
theorem Gc {x y:AC} {R:AE->St->Prop} {S:St} {A:Option (Ctl τ β)} {k:τ->Option β} {r:β} (h:Qb A k=some r) (J:τ->St->Prop)
  (h1:∀ v,A=some v->Ctl.then k v=some r->awp P G x (F7 (fun S'=>∃ t S'',v=.next t∧WeakG G S' S''∧J t S'') R) S) (h2:∀ t S'',J t S''->k t=some r->awp P G y R S''):awp P G (.seq x y) R S:=by
 obtain ⟨v,ha,hk⟩:=Y1 h;refine Su (fun S''=>∃ t,v=.next t∧J t S'') (Cj (fun e S' hq=>?_) (h1 v ha hk)) fun S'' ⟨t,hv,hj⟩=>?_
 ·cases e with
  | normal=>obtain ⟨t,S'',hv,hw,hj⟩:=hq; exact ⟨S'',hw,t,hv,hj⟩
  | exit id=>exact hq
  | ret=>exact hq
 ·subst hv; exact h2 t S'' hj hk
theorem Bb {a:AC} {R:AE->St->Prop} {S:St} {body:σ->Option (Ctl σ ρ)} {fuel:Nat} {s0:σ} {v:ρ} (h:A9 body fuel s0=some v) (J:σ->St->Prop) (h0:∃ S0,WeakG G S S0∧J s0 S0)
  (h1:∀ n s S1 c,J s S1->body s=some c->Ctl.then (A9 body n) c=some v->awp P G a (F7 (fun S2=>∃ s' S3,WeakG G S2 S3∧J s' S3∧A9 body n s'=some v) R) S1):awp P G (.loop a) R S:=by
 obtain ⟨S0,hw,hj⟩:=h0;refine Yt (fun (p:Nat×σ) S=>A9 body p.1 p.2=some v∧J p.2 S) (·.1) ⟨(fuel,s0),S0,hw,h,hj⟩ ?_;rintro ⟨n,s⟩ S1 ⟨hl,hj⟩;cases n with
 | zero=>exact (Xb hl).elim
 | succ n =>
  obtain ⟨c,hc,hn⟩:=Wl hl;refine Cj (fun e S2 hq=>?_) (h1 n s S1 c hj hc hn);cases e with
  | normal=>obtain ⟨s',S3,hw,hj,hl⟩:=hq; exact ⟨(n,s'),S3,hw,⟨hl,hj⟩,Nat.lt_succ_self n⟩
  | exit id=>exact hq
  | ret=>exact hq
end
theorem F3 (n:Nat):0<=(n:Int):=by omega
end

section
open Go.RowKit Go.Deep
end
section
open Go.RowKit Go.Deep Go.Shelf
def Abg:Go.Shelf.Ren:=⟨fun | 171=>46 | 243=>69 | 246=>80 | 283=>86 | 284=>87 | 285=>88 | 286=>89 | 129=>97 | 317=>96 | 318=>98 | 319=>99 | 320=>100 | 337=>105 | 338=>106 | n=>n,fun | 3=>3 | 9=>9 | 2=>2 | 4=>4 | 171=>123 | 0=>0 | 53=>124 | 37=>98 | 5=>5 | 173=>127 | 212=>136 | 51=>137 | 20=>20 | 213=>138 | 46=>139 | 232=>148 | 233=>149 | n=>n,fun | 17=>1 | 18=>5 | 19=>6 | n=>n⟩
theorem Aai:LaysM.n171 Tryd.prog Abg where
  mixed:=by kernel_rfl
  f129:=Tryd.func97.trans (congrArg some (by kernel_rfl))
  f171:=Tryd.func46.trans (congrArg some (by kernel_rfl))
  f243:=Tryd.func69.trans (congrArg some (by kernel_rfl))
  f246:=Tryd.func80.trans (congrArg some (by kernel_rfl))
  f283:=Tryd.func86.trans (congrArg some (by kernel_rfl))
  f284:=Tryd.func87.trans (congrArg some (by kernel_rfl))
  f285:=Tryd.func88.trans (congrArg some (by kernel_rfl))
  f286:=Tryd.func89.trans (congrArg some (by kernel_rfl))
  f317:=Tryd.func96.trans (congrArg some (by kernel_rfl))
  f318:=Tryd.func98.trans (congrArg some (by kernel_rfl))
  f319:=Tryd.func99.trans (congrArg some (by kernel_rfl))
  f320:=Tryd.func100.trans (congrArg some (by kernel_rfl))
  f337:=Tryd.func105.trans (congrArg some (by kernel_rfl))
  f338:=Tryd.func106.trans (congrArg some (by kernel_rfl))
  t0:=Tryd.underlying0
  a0:=Tryd.isAgg0
  z0:=Tryd.sizeOf0
  v0:=Tryd.zeroValue0
  t2:=Tryd.underlying2
  a2:=Tryd.isAgg2
  z2:=Tryd.sizeOf2
  v2:=Tryd.zeroValue2
  t3:=Tryd.underlying3
  a3:=Tryd.isAgg3
  z3:=Tryd.sizeOf3
  v3:=Tryd.zeroValue3
  t4:=Tryd.underlying4
  a4:=Tryd.isAgg4
  z4:=Tryd.sizeOf4
  v4:=Tryd.zeroValue4
  t5:=Tryd.underlying5
  a5:=Tryd.isAgg5
  z5:=Tryd.sizeOf5
  v5:=Tryd.zeroValue5
  t9:=Tryd.underlying9
  a9:=Tryd.isAgg9
  z9:=Tryd.sizeOf9
  v9:=Tryd.zeroValue9
  t20:=Tryd.underlying20
  a20:=Tryd.isAgg20
  z20:=Tryd.sizeOf20
  v20:=Tryd.zeroValue20
  t37:=Tryd.underlying98
  a37:=Tryd.isAgg98
  z37:=Tryd.sizeOf98
  v37:=Tryd.zeroValue98
  t46:=Tryd.underlying139
  a46:=Tryd.isAgg139
  z46:=Tryd.sizeOf139
  v46:=Tryd.zeroValue139
  t51:=Tryd.underlying137
  a51:=Tryd.isAgg137
  z51:=Tryd.sizeOf137
  v51:=Tryd.zeroValue137
  t53:=Tryd.underlying124
  a53:=Tryd.isAgg124
  z53:=Tryd.sizeOf124
  v53:=Tryd.zeroValue124
  t171:=Tryd.underlying123
  a171:=Tryd.isAgg123
  z171:=Tryd.sizeOf123
  v171:=Tryd.zeroValue123
  t173:=Tryd.underlying127
  a173:=Tryd.isAgg127
  z173:=Tryd.sizeOf127
  v173:=Tryd.zeroValue127
  t212:=Tryd.underlying136
  a212:=Tryd.isAgg136
  z212:=Tryd.sizeOf136
  v212:=Tryd.zeroValue136
  t213:=Tryd.underlying138
  a213:=Tryd.isAgg138
  z213:=Tryd.sizeOf138
  t232:=Tryd.underlying148
  a232:=Tryd.isAgg148
  z232:=Tryd.sizeOf148
  v232:=Tryd.zeroValue148
  t233:=Tryd.underlying149
  a233:=Tryd.isAgg149
  z233:=Tryd.sizeOf149
  v233:=Tryd.zeroValue149
  g17:=by kernel_rfl
  g18:=by kernel_rfl
  g19:=by kernel_rfl
  i0:=by kernel_rfl
  i2:=by kernel_rfl
  i3:=by kernel_rfl
  i4:=by kernel_rfl
  i5:=by kernel_rfl
  i9:=by kernel_rfl
  i20:=by kernel_rfl
  i37:=by kernel_rfl
  i46:=by kernel_rfl
  i51:=by kernel_rfl
  i53:=by kernel_rfl
  i171:=by kernel_rfl
  i173:=by kernel_rfl
  i212:=by kernel_rfl
  i232:=by kernel_rfl
  i233:=by kernel_rfl
  m17:=by kernel_rfl
  m18:=by kernel_rfl
  m19:=by kernel_rfl
end

section
open Go.RowKit Go.Deep Go.Shelf
def Vs:Go.Shelf.Ren:=⟨fun | 156=>49 | 165=>72 | 166=>73 | 169=>74 | 240=>81 | 241=>82 | 276=>90 | 277=>91 | n=>n,fun | 31=>72 | 9=>9 | 3=>3 | 4=>4 | 0=>0 | 20=>20 | 72=>105 | 76=>109 | 70=>103 | 37=>98 | 75=>108 | 127=>119 | 164=>129 | 5=>5 | 80=>53 | n=>n,fun  | n=>n⟩
theorem Vn:Lays.n156 Tryd.prog Vs where
  mixed:=by kernel_rfl
  f156:=Tryd.func49.trans (congrArg some (by kernel_rfl))
  f165:=Tryd.func72.trans (congrArg some (by kernel_rfl))
  f166:=Tryd.func73.trans (congrArg some (by kernel_rfl))
  f169:=Tryd.func74.trans (congrArg some (by kernel_rfl))
  f240:=Tryd.func81.trans (congrArg some (by kernel_rfl))
  f241:=Tryd.func82.trans (congrArg some (by kernel_rfl))
  f276:=Tryd.func90.trans (congrArg some (by kernel_rfl))
  f277:=Tryd.func91.trans (congrArg some (by kernel_rfl))
  t0:=Tryd.underlying0
  a0:=Tryd.isAgg0
  z0:=Tryd.sizeOf0
  v0:=Tryd.zeroValue0
  t3:=Tryd.underlying3
  a3:=Tryd.isAgg3
  z3:=Tryd.sizeOf3
  v3:=Tryd.zeroValue3
  t4:=Tryd.underlying4
  a4:=Tryd.isAgg4
  z4:=Tryd.sizeOf4
  v4:=Tryd.zeroValue4
  t9:=Tryd.underlying9
  a9:=Tryd.isAgg9
  z9:=Tryd.sizeOf9
  v9:=Tryd.zeroValue9
  t20:=Tryd.underlying20
  a20:=Tryd.isAgg20
  z20:=Tryd.sizeOf20
  v20:=Tryd.zeroValue20
  t31:=Tryd.underlying72
  a31:=Tryd.isAgg72
  z31:=Tryd.sizeOf72
  v31:=Tryd.zeroValue72
  t37:=Tryd.underlying98
  a37:=Tryd.isAgg98
  z37:=Tryd.sizeOf98
  v37:=Tryd.zeroValue98
  t70:=Tryd.underlying103
  a70:=Tryd.isAgg103
  z70:=Tryd.sizeOf103
  v70:=Tryd.zeroValue103
  t72:=Tryd.underlying105
  a72:=Tryd.isAgg105
  z72:=Tryd.sizeOf105
  v72:=Tryd.zeroValue105
  t75:=Tryd.underlying108
  a75:=Tryd.isAgg108
  z75:=Tryd.sizeOf108
  v75:=Tryd.zeroValue108
  t76:=Tryd.underlying109
  a76:=Tryd.isAgg109
  z76:=Tryd.sizeOf109
  v76:=Tryd.zeroValue109
  t127:=Tryd.underlying119
  a127:=Tryd.isAgg119
  z127:=Tryd.sizeOf119
  v127:=Tryd.zeroValue119
  t164:=Tryd.underlying129
  a164:=Tryd.isAgg129
  z164:=Tryd.sizeOf129
  v164:=Tryd.zeroValue129
theorem Ve:Builder.Extra Tryd.prog Vs where
  sizeBuilder:=by kernel_rfl
  liesBuilder:=by kernel_rfl
  t5:=Tryd.underlying5
  a5:=Tryd.isAgg5
  z5:=Tryd.sizeOf5
  v5:=Tryd.zeroValue5
  infoByte:=by kernel_rfl
  cellsByte:=by kernel_rfl
  sizeByte:=by kernel_rfl
  neB5:=by decide
end

section
open Go.RowKit Go.Deep Go.Shelf
def Aez (n:Nat):ByteArray:=⟨(Lib.decDigits n).toArray⟩
def Bn (a0:Int):Option ByteArray:=og (0<=a0∧a0<=1000) (some (Aez a0.toNat))
def Nt (r:ByteArray):RV:=⟨false,[(false,[.sc (.str r)])]⟩
theorem Fn {a0:Int} {r:ByteArray} (h:Bn a0=some r):Ay Tryd.prog Tab 46 [.int .i64 a0] (Nt r):=by
 unfold Bn og at h;split at h
 ·rename_i hc;obtain rfl:=osj h;obtain ⟨n,rfl⟩:=Int.eq_ofNat_of_zero_le hc.1;intro w im vs hG hr;obtain ⟨u1,_,rfl,h1,h2⟩:=hr;obtain rfl:_=[]:=h2;obtain rfl:u1=.int .i64 (n:Int):=h1;refine (Any.strconv_Itoa Aai (n:Int) (by omega) (by omega) w (hG w (Below.refl _ _))).mono ?_;rintro e w' ⟨rfl,k,os,rfl⟩;rw [show Lib.itoa (n:Int)=Lib.decDigits n from by unfold Lib.itoa; rw [if_neg (by omega)]; rfl];have hb:Below w.heap.size w (Sort.grow (w.drewN k) os):=⟨rfl,rfl,rfl,by simp [Sort.grow,World.drewN],fun j hj=>by simp [Sort.grow,World.drewN,Array.getElem?_append_left hj]⟩
  exact ⟨_,rfl,hb,
   [_],[],⟨_,[],rfl,rfl,rfl,rfl,rfl⟩,⟨trivial,fun _=>rfl⟩,rfl⟩
 ·cases h
def Y8 (xs:List ByteArray) (sep:ByteArray):ByteArray:=⟨(Lib.join (xs.map (·.data.toList)) sep.data.toList).toArray⟩
def C5 (a0:List ByteArray) (a1:ByteArray):Option ByteArray:=og (a0.length<=1073741824∧(Y8 a0 a1).size<=140737488355328) (some (Y8 a0 a1))
def Np (r:ByteArray):RV:=⟨false,[(false,[.sc (.str r)])]⟩
theorem Ie:Bu Tryd.prog 49=true:=by kernel_rfl
theorem Ih {a0:List ByteArray} {a1 r:ByteArray} (h:C5 a0 a1=some r):Ay Tryd.prog Tab 49 [.tree .str a0,.str a1] (Np r):=by
 unfold C5 og at h;split at h
 ·rename_i hc;obtain rfl:=osj h;intro w im vs hG hr;obtain ⟨u1,_,rfl,h1,u2,_,rfl,h2,h3⟩:=hr;obtain rfl:_=[]:=h3;obtain rfl:u2=.string a1:=h2;obtain ⟨A,c,l,rfl,hl1,hl2,f,-,hf⟩:=h1
  have key:Calls Tryd.prog 49 #[.slice A a0.length c,.string a1] w fun e w'=>e=.returned (.string (Y8 a0 a1))∧Below w.heap.size w w':=by
   by_cases h0:a0=[]
   ·subst h0;exact (Any.strings_Join_none Vn Ve A c a1 w).mono fun e w' ⟨he,hw⟩=>⟨he,hw▸Below.refl _ _⟩
   ·have hp:0<a0.length:=by cases a0 with | nil=>exact absurd rfl h0 | cons _ _=>simp
    obtain ⟨ad,rfl,-,hm⟩:=hf hp;obtain ⟨b,off,sp⟩:=ad;have hc0:w.cell? ⟨b,off,sp⟩=some (.string a0[0]):=by have:=(hm 0 hp).1; simpa [Addr.add] using this
    obtain rfl:sp=none:=World.cell?_spot hc0;refine Any.strings_Join Vn Ve b off c a0 a1 w (fun j x hx=>?_) (World.block_lt_of_cell? w _ hc0) (by omega) hl1 ?_
    ·obtain ⟨hj,rfl⟩:=gSi.1 hx;rw [show (⟨b,off+j,none⟩:Addr)=(⟨b,off,none⟩:Addr).add (j*Ty.str.size) from by simp [Addr.add,Ty.size]];exact (hm j hj).1
    ·have:=hc.2
     simpa [Y8,ByteArray.size] using this
  refine key.mono ?_;rintro e w' ⟨rfl,hb⟩;exact ⟨_,rfl,hb,[_],[],⟨_,[],rfl,rfl,rfl,rfl,rfl⟩,⟨trivial,fun _=>rfl⟩,rfl⟩
 ·cases h
end
section
open Go.RowKit Go.Deep
theorem gw3 (w:World):Calls Tryd.prog 68 #[.int .i64 3] w fun e w'=>e=.returned (.agg #[.int .i64 1,.int .i64 2])∧Below w.heap.size w w':=by
 go_enter Tryd.func68,Tryd.ntmps68
 go_wp2
 refine bodyPost_ret (v:=.agg #[.int .i64 1,.int .i64 2]) (by simp [results,Tryd.results68,go_sem]) rfl ⟨rfl,?_⟩;exact (by repeat (first | with_reducible exact Below.refl _ _ | ((with_reducible refine Below.setCell ?_ ?_ _); rotate_left; focus (first | (simp; done) | omega | (simp; omega))) | ((with_reducible refine Below.alloc ?_ ?_ _); rotate_left; focus (first | (simp; done) | omega | (simp; omega))) | (with_reducible refine Below.drew ?_) | (with_reducible refine below_draws_ ?_ _)))
theorem gw4 (w:World):Calls Tryd.prog 68 #[.int .i64 4] w fun e w'=>e=.returned (.agg #[.int .i64 1,.int .i64 0])∧Below w.heap.size w w':=by
 go_enter Tryd.func68,Tryd.ntmps68
 go_wp2
 refine bodyPost_ret (v:=.agg #[.int .i64 1,.int .i64 0]) (by simp [results,Tryd.results68,go_sem]) rfl ⟨rfl,?_⟩;exact (by repeat (first | with_reducible exact Below.refl _ _ | ((with_reducible refine Below.setCell ?_ ?_ _); rotate_left; focus (first | (simp; done) | omega | (simp; omega))) | ((with_reducible refine Below.alloc ?_ ?_ _); rotate_left; focus (first | (simp; done) | omega | (simp; omega))) | (with_reducible refine Below.drew ?_) | (with_reducible refine below_draws_ ?_ _)))
theorem gw5 (w:World):Calls Tryd.prog 68 #[.int .i64 5] w fun e w'=>e=.returned (.agg #[.int .i64 2,.int .i64 1])∧Below w.heap.size w w':=by
 go_enter Tryd.func68,Tryd.ntmps68
 go_wp2
 refine bodyPost_ret (v:=.agg #[.int .i64 2,.int .i64 1]) (by simp [results,Tryd.results68,go_sem]) rfl ⟨rfl,?_⟩;exact (by repeat (first | with_reducible exact Below.refl _ _ | ((with_reducible refine Below.setCell ?_ ?_ _); rotate_left; focus (first | (simp; done) | omega | (simp; omega))) | ((with_reducible refine Below.alloc ?_ ?_ _); rotate_left; focus (first | (simp; done) | omega | (simp; omega))) | (with_reducible refine Below.drew ?_) | (with_reducible refine below_draws_ ?_ _)))
theorem gw6 (w:World):Calls Tryd.prog 68 #[.int .i64 6] w fun e w'=>e=.returned (.agg #[.int .i64 0,.int .i64 1])∧Below w.heap.size w w':=by
 go_enter Tryd.func68,Tryd.ntmps68
 go_wp2
 refine bodyPost_ret (v:=.agg #[.int .i64 0,.int .i64 1]) (by simp [results,Tryd.results68,go_sem]) rfl ⟨rfl,?_⟩;exact (by repeat (first | with_reducible exact Below.refl _ _ | ((with_reducible refine Below.setCell ?_ ?_ _); rotate_left; focus (first | (simp; done) | omega | (simp; omega))) | ((with_reducible refine Below.alloc ?_ ?_ _); rotate_left; focus (first | (simp; done) | omega | (simp; omega))) | (with_reducible refine Below.drew ?_) | (with_reducible refine below_draws_ ?_ _)))
theorem gw7 (w:World):Calls Tryd.prog 68 #[.int .i64 7] w fun e w'=>e=.returned (.agg #[.int .i64 1,.int .i64 1])∧Below w.heap.size w w':=by
 go_enter Tryd.func68,Tryd.ntmps68
 go_wp2
 refine bodyPost_ret (v:=.agg #[.int .i64 1,.int .i64 1]) (by simp [results,Tryd.results68,go_sem]) rfl ⟨rfl,?_⟩;exact (by repeat (first | with_reducible exact Below.refl _ _ | ((with_reducible refine Below.setCell ?_ ?_ _); rotate_left; focus (first | (simp; done) | omega | (simp; omega))) | ((with_reducible refine Below.alloc ?_ ?_ _); rotate_left; focus (first | (simp; done) | omega | (simp; omega))) | (with_reducible refine Below.drew ?_) | (with_reducible refine below_draws_ ?_ _)))
theorem gw8 (w:World):Calls Tryd.prog 68 #[.int .i64 8] w fun e w'=>e=.returned (.agg #[.int .i64 1,.int .i64 1])∧Below w.heap.size w w':=by
 go_enter Tryd.func68,Tryd.ntmps68
 go_wp2
 refine bodyPost_ret (v:=.agg #[.int .i64 1,.int .i64 1]) (by simp [results,Tryd.results68,go_sem]) rfl ⟨rfl,?_⟩;exact (by repeat (first | with_reducible exact Below.refl _ _ | ((with_reducible refine Below.setCell ?_ ?_ _); rotate_left; focus (first | (simp; done) | omega | (simp; omega))) | ((with_reducible refine Below.alloc ?_ ?_ _); rotate_left; focus (first | (simp; done) | omega | (simp; omega))) | (with_reducible refine Below.drew ?_) | (with_reducible refine below_draws_ ?_ _)))
theorem gw9 (w:World):Calls Tryd.prog 68 #[.int .i64 9] w fun e w'=>e=.returned (.agg #[.int .i64 2,.int .i64 1])∧Below w.heap.size w w':=by
 go_enter Tryd.func68,Tryd.ntmps68
 go_wp2
 refine bodyPost_ret (v:=.agg #[.int .i64 2,.int .i64 1]) (by simp [results,Tryd.results68,go_sem]) rfl ⟨rfl,?_⟩;exact (by repeat (first | with_reducible exact Below.refl _ _ | ((with_reducible refine Below.setCell ?_ ?_ _); rotate_left; focus (first | (simp; done) | omega | (simp; omega))) | ((with_reducible refine Below.alloc ?_ ?_ _); rotate_left; focus (first | (simp; done) | omega | (simp; omega))) | (with_reducible refine Below.drew ?_) | (with_reducible refine below_draws_ ?_ _)))
theorem Aew (w:World):Calls Tryd.prog 68 #[.int .i64 10] w fun e w'=>e=.returned (.agg #[.int .i64 0,.int .i64 1])∧Below w.heap.size w w':=by
 go_enter Tryd.func68,Tryd.ntmps68
 go_wp2
 refine bodyPost_ret (v:=.agg #[.int .i64 0,.int .i64 1]) (by simp [results,Tryd.results68,go_sem]) rfl ⟨rfl,?_⟩;exact (by repeat (first | with_reducible exact Below.refl _ _ | ((with_reducible refine Below.setCell ?_ ?_ _); rotate_left; focus (first | (simp; done) | omega | (simp; omega))) | ((with_reducible refine Below.alloc ?_ ?_ _); rotate_left; focus (first | (simp; done) | omega | (simp; omega))) | (with_reducible refine Below.drew ?_) | (with_reducible refine below_draws_ ?_ _)))
theorem Aet (w:World):Calls Tryd.prog 68 #[.int .i64 11] w fun e w'=>e=.returned (.agg #[.int .i64 1,.int .i64 2])∧Below w.heap.size w w':=by
 go_enter Tryd.func68,Tryd.ntmps68
 go_wp2
 refine bodyPost_ret (v:=.agg #[.int .i64 1,.int .i64 2]) (by simp [results,Tryd.results68,go_sem]) rfl ⟨rfl,?_⟩;exact (by repeat (first | with_reducible exact Below.refl _ _ | ((with_reducible refine Below.setCell ?_ ?_ _); rotate_left; focus (first | (simp; done) | omega | (simp; omega))) | ((with_reducible refine Below.alloc ?_ ?_ _); rotate_left; focus (first | (simp; done) | omega | (simp; omega))) | (with_reducible refine Below.drew ?_) | (with_reducible refine below_draws_ ?_ _)))
theorem Aes (w:World):Calls Tryd.prog 68 #[.int .i64 12] w fun e w'=>e=.returned (.agg #[.int .i64 1,.int .i64 0])∧Below w.heap.size w w':=by
 go_enter Tryd.func68,Tryd.ntmps68
 go_wp2
 refine bodyPost_ret (v:=.agg #[.int .i64 1,.int .i64 0]) (by simp [results,Tryd.results68,go_sem]) rfl ⟨rfl,?_⟩;exact (by repeat (first | with_reducible exact Below.refl _ _ | ((with_reducible refine Below.setCell ?_ ?_ _); rotate_left; focus (first | (simp; done) | omega | (simp; omega))) | ((with_reducible refine Below.alloc ?_ ?_ _); rotate_left; focus (first | (simp; done) | omega | (simp; omega))) | (with_reducible refine Below.drew ?_) | (with_reducible refine below_draws_ ?_ _)))
theorem Aeu (w:World):Calls Tryd.prog 68 #[.int .i64 13] w fun e w'=>e=.returned (.agg #[.int .i64 1,.int .i64 1])∧Below w.heap.size w w':=by
 go_enter Tryd.func68,Tryd.ntmps68
 go_wp2
 refine bodyPost_ret (v:=.agg #[.int .i64 1,.int .i64 1]) (by simp [results,Tryd.results68,go_sem]) rfl ⟨rfl,?_⟩;exact (by repeat (first | with_reducible exact Below.refl _ _ | ((with_reducible refine Below.setCell ?_ ?_ _); rotate_left; focus (first | (simp; done) | omega | (simp; omega))) | ((with_reducible refine Below.alloc ?_ ?_ _); rotate_left; focus (first | (simp; done) | omega | (simp; omega))) | (with_reducible refine Below.drew ?_) | (with_reducible refine below_draws_ ?_ _)))
theorem Aey (w:World):Calls Tryd.prog 68 #[.int .i64 14] w fun e w'=>e=.returned (.agg #[.int .i64 1,.int .i64 1])∧Below w.heap.size w w':=by
 go_enter Tryd.func68,Tryd.ntmps68
 go_wp2
 refine bodyPost_ret (v:=.agg #[.int .i64 1,.int .i64 1]) (by simp [results,Tryd.results68,go_sem]) rfl ⟨rfl,?_⟩;exact (by repeat (first | with_reducible exact Below.refl _ _ | ((with_reducible refine Below.setCell ?_ ?_ _); rotate_left; focus (first | (simp; done) | omega | (simp; omega))) | ((with_reducible refine Below.alloc ?_ ?_ _); rotate_left; focus (first | (simp; done) | omega | (simp; omega))) | (with_reducible refine Below.drew ?_) | (with_reducible refine below_draws_ ?_ _)))
def gwV (k:Int):Int×Int:=if k=3 then (1,2) else if k=4 then (1,0) else if k=5 then (2,1) else if k=6 then (0,1) else if k=9 then (2,1) else if k=10 then (0,1) else if k=11 then (1,2) else if k=12 then (1,0) else (1,1)
def Df (a0:Int):Option (Int×Int):=og (3<=a0∧a0<=14) (some (gwV a0))
def H0 (r:Int×Int):RV:=⟨false,[(true,[.sc (.int .i64 r.1),.sc (.int .i64 r.2)])]⟩
theorem Ad0 (k:Int) (h:3<=k∧k<=14) (w:World):Calls Tryd.prog 68 #[.int .i64 k] w fun e w'=>e=.returned (.agg #[.int .i64 (gwV k).1,.int .i64 (gwV k).2])∧Below w.heap.size w w':=by
 have hk:k=3∨k=4∨k=5∨k=6∨k=7∨k=8∨k=9∨k=10∨k=11∨k=12∨k=13∨k=14:=by omega
 rcases hk with rfl | rfl | rfl | rfl | rfl | rfl | rfl | rfl | rfl | rfl | rfl | rfl
 ·exact gw3 w
 ·exact gw4 w
 ·exact gw5 w
 ·exact gw6 w
 ·exact gw7 w
 ·exact gw8 w
 ·exact gw9 w
 ·exact Aew w
 ·exact Aet w
 ·exact Aes w
 ·exact Aeu w
 ·exact Aey w
theorem H6 {a0:Int} {r:Int×Int} (h:Df a0=some r):Ay Tryd.prog Tab 68 [.int .i64 a0] (H0 r):=by
 obtain ⟨hb,h⟩:=Au h;obtain rfl:=osj h;intro w im vs hG hr;obtain ⟨u1,_,rfl,h1,h2⟩:=hr;obtain rfl:_=[]:=h2;obtain rfl:u1=.int .i64 a0:=h1;refine (Ad0 a0 hb w).mono ?_;rintro e w' ⟨rfl,hw⟩;exact ⟨_,rfl,hw,[_,_],[],⟨_,_,rfl,rfl,rfl,_,_,rfl,rfl,rfl,rfl,rfl⟩,⟨trivial,fun _=>rfl⟩,rfl⟩
end
section
open Go.RowKit Go.Deep
set_option maxRecDepth 4000
def J5:AC :=
 (.seq (rg [xo 4 (qm (ci 0))])
 (.seq (rg [xm 5 1,xm 6 0,xn1 7 6,xo 8 (qb .sub (tm 5) (tm 7)),xm 1 8])
 (.seq (.seq (rg [xm 9 1,xo 10 (qb .lss (tm 9) (ci 0))])
 (.cond (tm 10)
  (.seq (rg [xo 4 (qm (ci (-1)))])
  .ret)
  .skip))
 (.seq (rg [xm 11 1,xm 4 11])
 .ret))))
def R7:List Res:=[.tmp 4]
theorem Rs:Ap Tryd.prog Tryd.f16=some (J5,R7):=by kernel_rfl
def Cc (a0:List Int) (a1:Int):Option Int :=
 cond (decide (wI (a1 - (a0.length:Int))<0))
 (some (-1))
 (some (wI (a1 - (a0.length:Int))))
def Q5 (r:Int):RV:=⟨false,[(false,[.sc (.int .i64 r)])]⟩
theorem Et {a0:List Int} {a1 r:Int} (h:Cc a0 a1=some r):Ay Tryd.prog Tab 16 [tI a0,ai a1] (Q5 r):=by
 refine A0 (by kernel_rfl) Tryd.func16 Rs (n:=12) (by kernel_rfl) (by simp) rfl ?_;unfold J5;unfold Cc at h;refine Am (Am (Ab (Am ?_)));rcases Ad h with ⟨q5,h⟩ | ⟨q5,h⟩
 ·have q5_:=of_decide_eq_true q5;refine Af q5 (Am (Ai (tr_ ?_)));obtain rfl:=zj h;exact A7 [ai (-1)] (At rfl zl Ax)
 have q5_:=of_decide_eq_false q5;refine Ae q5 (Aj (tn_ (wr_ (Am (Ai ?_)))));obtain rfl:=zj h;exact A7 [ai (wI (a1 - (a0.length:Int)))] (At rfl zl Ax)
def Hc:AC :=
 (.seq (.seq (rg [xm 8 4,xm 9 0,xn1 10 9,xs1 11 8 10])
 (.cond (tm 11)
  .skip
  (.exit 0)))
 (.seq (.block 1 (rg [xm 14 3,xm 15 4,xm 16 0,xm 17 4,xx 18 1 16 17,xl 19 18,xx 20 1 14 15,xn (qs (tm 20) (tm 19))]))
 (rg [xm 12 4,xa 13 12,xm 4 13])))
def J2:AC :=
 (.seq (rg [xo 2 (qm (.cst .nils))])
 (.seq (rg [xm 5 0,xn1 6 5,xo 7 (.make 3 .int 8 (tm 6) (tm 6)),xm 3 7])
 (.seq (.seq (rg [xo 4 (qm (ci 0))])
 (.block 0 (.loop Hc)))
 (.seq (rg [xm 21 3,xm 2 21])
 .ret))))
def R1:List Res:=[.tmp 2]
theorem Rd:Ap Tryd.prog Tryd.f20=some (J2,R1):=by kernel_rfl
def C1 (a0:List Int) (u0:Nat) (u1:List Int):Option (Ctl (Nat×List Int) (List Int)) :=
 cond (decide ((u0:Int)<(a0.length:Int)))
 ((a0[u0]?).bind fun x11 =>
 (u1[u0]?).bind fun x12 =>
 og (u0+1<4611686018427387904) <|
 some (Ctl.next (u0+1,u1.set u0 x11)))
 (some (Ctl.out u1))
def B9 (a0:List Int):Option (List Int) :=
 og (0<=(a0.length:Int)∧(a0.length:Int)<=(a0.length:Int)∧(a0.length:Int)<=1073741824∧(8:Int)*(a0.length:Int)<=140737488355328) <|
(A9 (fun s_:Nat×List Int=>C1 a0 s_.1 s_.2) 4611686018427387904 (0,List.replicate a0.length (0:Int))).bind fun u0 =>
some u0
def Pw (r:List Int):RV:=⟨false,[(false,[.new 3 .int r])]⟩
theorem Ep {a0 r:List Int} (h:B9 a0=some r):Ay Tryd.prog Tab 20 [tI a0] (Pw r):=by
 refine A0 (by kernel_rfl) Tryd.func20 Rd (n:=22) (by kernel_rfl) (by simp) rfl ?_;unfold J2;unfold B9 at h;refine Am (Ab ?_);obtain ⟨g3,h⟩:=Au h;refine Aa 6 (rsT 2 (rs1 (oI 7 4 a0.length) (oi 7 4) (.arr 3 .int (List.replicate a0.length (0:Int))) (Tj (t:=.int) (k:=.i64) (k':=.i64) (m:=(a0.length:Int)) (m':=(a0.length:Int)) (by kernel_rfl) (by kernel_rfl) g3 rfl) (rsT 1 (As (tn_ (wr_ (A3 h (fun (u2:List Int) S_=>S_=⟨Al [(3,oI 0 1 u2.length)],Ah (Aq [(oi 0 1,.arr 3 .int u2)]),2⟩) ?_ ?_)))))))
 ·intro v_ h;refine Am (An (Bb h (fun t_ S_=>∃ (u1:Nat),∃ (u0:List Int),t_=(u1,u0)∧S_=⟨Al [(0,tI a0),(3,oI 0 1 u0.length),(4,an u1)],Ah (Aq [(oi 0 1,.arr 3 .int u0)]),2⟩) ⟨_,(D7 3 (oI 7 4 a0.length) (oI 7 4 ((List.replicate a0.length (0:Int)).length)) (by kernel_rfl) (congrArg (fun z_=>((oI 7 4 z_):AV)) (List.length_replicate.symm:a0.length=(List.replicate a0.length (0:Int)).length))).trans (Ac [(oi 0 1,oi 7 4)]),⟨0,List.replicate a0.length (0:Int),rfl,rfl⟩⟩ ?_));rintro n_ _ _ c_ ⟨u1,u0,rfl,rfl⟩ h hn6
  (try dsimp only at h);unfold C1 at h;unfold Hc;refine Ab (Am ?_);rcases Ad h with ⟨q9,h⟩ | ⟨q9,h⟩
  ·have q9_:=of_decide_eq_true q9;refine Af q9 (Aj (tn_ (wr_ (Ab (An ?_)))));obtain ⟨x11,e11,h⟩:=Ag h;obtain ⟨x12,e12,h⟩:=Ag h;refine Aa 14 (rsT 4 (zI .int e11 (rsT 1 (zO (oi 0 1) .int u0.length (Bj e12) (zS (oi 0 1) (x11) e12 (As (bn_ (tn_ (wr_ ?_)))))))));obtain ⟨g13,h⟩:=Au h;refine Aa 17 (rsT 1 (zA g13 (rsT 1 (As (tn_ ?_)))));obtain rfl:=zj h;exact ⟨(u1+1,u0.set u1 x11),_,(D7 3 (oI 0 1 u0.length) (oI 0 1 ((u0.set u1 x11).length)) (by kernel_rfl) (congrArg (fun z_=>((oI 0 1 z_):AV)) (((rfl:u0.length=u0.length).trans List.length_set.symm):u0.length=(u0.set u1 x11).length))).trans (Ac []),⟨u1+1,u0.set u1 x11,rfl,rfl⟩,hn6⟩
  have q9_:=of_decide_eq_false q9;refine Ae q9 (A8 (te_ (te_ (be_ (tn_ ?_)))));obtain rfl:=zj h;have h:=hn6
  (try dsimp only at h);obtain rfl:=zj h;exact ⟨_,Ac [],rfl⟩
 rintro u2 _ rfl h
 (try dsimp only at h);refine Am (Ai ?_);obtain rfl:=zj h;exact A7 [oI 0 1 u2.length] (At rfl (U6 (by kernel_rfl) rfl) Ax)
def Hg:AC :=
 (.seq (.seq (rg [xm 11 5,xm 12 0,xn1 13 12,xs1 14 11 13])
 (.cond (tm 14)
  .skip
  (.exit 0)))
 (.seq (.block 1 (.seq (.region [xm 17 0,xm 18 5,xx 19 1 17 18,xl 20 19,xm 21 1,xm 22 5,xx 23 1 21 22,xl 24 23,xo 25 (qb .neq (tm 20) (tm 24))] true [])
 (.cond (tm 25)
  (.seq (rg [xo 4 (qm (cb false))])
  .ret)
  .skip)))
 (rg [xm 15 5,xa 16 15,xm 5 16])))
def Kc:AC :=
 (.seq (rg [xo 4 (qm (cb false))])
 (.seq (.seq (rg [xm 6 0,xn1 7 6,xm 8 1,xn1 9 8,xo 10 (qb .neq (tm 7) (tm 9))])
 (.cond (tm 10)
  (.seq (rg [xo 4 (qm (cb false))])
  .ret)
  .skip))
 (.seq (.seq (rg [xo 5 (qm (ci 0))])
 (.block 0 (.loop Hg)))
 (.seq (rg [xo 4 (qm (cb true))])
 .ret))))
def Rj:List Res:=[.tmp 4]
theorem Rp:Ap Tryd.prog Tryd.f24=some (Kc,Rj):=by kernel_rfl
def C3 (a0 a1:List Int) (u0:Nat):Option (Ctl Nat (Ctl Unit Bool)) :=
 cond (decide ((u0:Int)<(a0.length:Int)))
 ((a0[u0]?).bind fun x14 =>
 (a1[u0]?).bind fun x15 =>
 cond (x14 !=x15)
  (some (Ctl.out (Ctl.out false)))
  (og (u0+1<4611686018427387904) <|
  some (Ctl.next (u0+1))))
 (some (Ctl.out (Ctl.next ())))
def Ca (a0 a1:List Int):Option Bool :=
 cond ((a0.length:Int) !=(a1.length:Int))
 (some false)
 (Qb (A9 (fun s_:Nat=>C3 a0 a1 s_) 4611686018427387904 0) fun _ =>
 some true)
def Qy (r:Bool):RV:=⟨false,[(false,[.sc (.bool r)])]⟩
theorem Ev {a0 a1:List Int} {r:Bool} (h:Ca a0 a1=some r):Ay Tryd.prog Tab 24 [tI a0,tI a1] (Qy r):=by
 refine A0 (by kernel_rfl) Tryd.func24 Rp (n:=26) (by kernel_rfl) (by simp) rfl ?_;unfold Kc;unfold Ca at h;refine Am (Ab (Am ?_));rcases Ad h with ⟨q4,h⟩ | ⟨q4,h⟩
 ·refine Af q4 (Am (Ai (tr_ ?_)));obtain rfl:=zj h;exact A7 [.bool false] (At rfl zl Ax)
 refine Ae q4 (Aj (tn_ (wr_ (Gc h (fun (_:Unit) S_=>S_=⟨Al [],Ah (Aq []),2⟩) ?_ ?_))))
 ·intro v_ h hk6;refine Am (An (Bb h (fun (u0:Nat) S_=>S_=⟨Al [(0,tI a0),(1,tI a1),(5,an u0)],Ah (Aq []),2⟩) ⟨_,Ac [],rfl⟩ ?_));rintro n_ u0 _ c_ rfl h hn8
  (try dsimp only at h);unfold C3 at h;unfold Hg;refine Ab (Am ?_);rcases Ad h with ⟨q11,h⟩ | ⟨q11,h⟩
  ·have q11_:=of_decide_eq_true q11;refine Af q11 (Aj (tn_ (wr_ (Ab (An (Ab ?_))))));obtain ⟨x14,e14,h⟩:=Ag h;obtain ⟨x15,e15,h⟩:=Ag h;refine Be 15 (dz0 (tI a0) (dz0 (an u0) (dzI .int e14 (dz0 (ai x14) (dz0 (tI a1) (dz0 (an u0) (dzI .int e15 (dz0 (ai x15) (dz0 (.bool (x14 !=x15)) (N9 (Cf (by kernel_rfl)) (tn_ (wr_ ?_))))))))))));rcases Ad h with ⟨q16,h⟩ | ⟨q16,h⟩
   ·refine Af q16 (Am (Ai (br_ (tr_ (tr_ (br_ (tr_ ?_)))))));obtain rfl:=zj h;have h:=hn8
    (try dsimp only at h);obtain rfl:=zj h;have h:=hk6
    (try dsimp only at h);obtain rfl:=zj h;exact A7 [.bool false] (At rfl zl Ax)
   refine Ae q16 (Aj (bn_ (tn_ (wr_ ?_))));obtain ⟨g18,h⟩:=Au h;refine Aa 18 (rsT 1 (zA g18 (rsT 1 (As (tn_ ?_)))));obtain rfl:=zj h;exact ⟨u0+1,_,Ac [],rfl,hn8⟩
  have q11_:=of_decide_eq_false q11;refine Ae q11 (A8 (te_ (te_ (be_ (tn_ ?_)))));obtain rfl:=zj h;have h:=hn8
  (try dsimp only at h);obtain rfl:=zj h;exact ⟨(),_,rfl,Ac [],rfl⟩
 rintro _ _ rfl h
 (try dsimp only at h);refine Am (Ai ?_);obtain rfl:=zj h;exact A7 [.bool true] (At rfl zl Ax)
def Nb:AC :=
 (.seq (rg [xo 6 (qm (cb false))])
 (.seq (rg [xm 7 0,xm 8 1,xo 9 (qb .geq (tm 7) (tm 8)),xm 10 9,⟨some 11,some (10,true),qm (tm 0)⟩,⟨some 12,some (10,true),qm (tm 2)⟩,⟨some 13,some (10,true),qb .leq (tm 11) (tm 12)⟩,xo 14 (.i (.pick (tm 10) (tm 13) (cb false))),xm 6 14])
 .ret))
def Us:List Res:=[.tmp 6]
theorem V2:Ap Tryd.prog Tryd.f33=some (Nb,Us):=by kernel_rfl
theorem T0:Bu Tryd.prog 33=true:=by kernel_rfl
def Cb (a0 a1 a2:Int):Option Bool :=
 (cond (decide (a1<=a0))
  (some (decide (a0<=a2)))
  (some false)).bind fun u0 =>
some u0
def T6 (r:Bool):RV:=⟨false,[(false,[.sc (.bool r)])]⟩
theorem Dw {a0 a1 a2:Int} {r:Bool} (h:Cb a0 a1 a2=some r):Ay Tryd.prog Tab 33 [ai a0,ai a1,ai a2] (T6 r):=by
 refine A0 (by kernel_rfl) Tryd.func33 V2 (n:=15) (by kernel_rfl) (by simp) rfl ?_;unfold Nb;unfold Cb at h;refine Am (A3 h (fun (u0:Bool) S_=>S_=⟨Al [(6,.bool u0)],Ah (Aq []),2⟩) ?_ ?_)
 ·intro v_ h;refine Aa 11 (rsT 4 ?_);rcases Ad h with ⟨q3,h⟩ | ⟨q3,h⟩
  ·have q3_:=of_decide_eq_true q3;refine rq 10 q3 (rsT 5 (As (tn_ ?_)));obtain rfl:=zj h;exact ⟨_,Ac [],rfl⟩
  have q3_:=of_decide_eq_false q3;refine rq 10 q3 (rsT 5 (As (tn_ ?_)));obtain rfl:=zj h;exact ⟨_,Ac [],rfl⟩
 rintro u0 _ rfl h
 (try dsimp only at h);refine Ai ?_;obtain rfl:=zj h;exact A7 [.bool u0] (At rfl zl Ax)
def Ic:AC :=
 (.seq (rg [xs1 12 11 10])
 (.seq (.cond (tm 12)
  .skip
  (.exit 0))
 (.seq (.block 1 (.seq (rg [xx 13 1 9 11,xl 14 13,xm 8 14])
 (.seq (rg [xm 15 8,xm 16 1,xm 17 2,xo 18 (qc 33 [tm 15,tm 16,tm 17] [[],[],[]]),xo 19 (.i (.not (tm 18)))])
 (.cond (tm 19)
  (.seq (rg [xo 6 (qm (cb false))])
  .ret)
  .skip))))
 (rg [xa 20 11,xm 11 20]))))
def Ma:AC :=
 (.seq (rg [xo 6 (qm (cb false))])
 (.seq (.seq (rg [xm 9 0,xn1 10 9,xo 11 (qm (ci 0))])
 (.block 0 (.loop Ic)))
 (.seq (rg [xo 6 (qm (cb true))])
 .ret)))
def Td:List Res:=[.tmp 6]
theorem Ti:Ap Tryd.prog Tryd.f34=some (Ma,Td):=by kernel_rfl
theorem E7:Bu Tryd.prog 34=true:=by kernel_rfl
def Ed (a0:List Int) (a1 a2:Int) (u0:Nat):Option (Ctl Nat (Ctl Unit Bool)) :=
 cond (decide ((u0:Int)<(a0.length:Int)))
 ((a0[u0]?).bind fun x10 =>
 (Cb x10 a1 a2).bind fun y12 =>
 cond (!y12)
  (some (Ctl.out (Ctl.out false)))
  (og (u0+1<4611686018427387904) <|
  some (Ctl.next (u0+1))))
 (some (Ctl.out (Ctl.next ())))
def Cw (a0:List Int) (a1 a2:Int):Option Bool :=
 Qb (A9 (fun s_:Nat=>Ed a0 a1 a2 s_) 4611686018427387904 0) fun _ =>
some true
def Rv (r:Bool):RV:=⟨false,[(false,[.sc (.bool r)])]⟩
theorem E8 {a0:List Int} {a1 a2:Int} {r:Bool} (h:Cw a0 a1 a2=some r):Ay Tryd.prog Tab 34 [tI a0,ai a1,ai a2] (Rv r):=by
 refine A0 (by kernel_rfl) Tryd.func34 Ti (n:=21) (by kernel_rfl) (by simp) rfl ?_;unfold Ma;unfold Cw at h;refine Am (Gc h (fun (_:Unit) S_=>S_=⟨Al [],Ah (Aq []),2⟩) ?_ ?_)
 ·intro v_ h hk2;refine Am (An (Bb h (fun (u0:Nat) S_=>S_=⟨Al [(1,ai a1),(2,ai a2),(9,tI a0),(10,an a0.length),(11,an u0)],Ah (Aq []),2⟩) ⟨_,Ac [],rfl⟩ ?_));rintro n_ u0 _ c_ rfl h hn4
  (try dsimp only at h);unfold Ed at h;unfold Ic;refine Am (Ab ?_);rcases Ad h with ⟨q7,h⟩ | ⟨q7,h⟩
  ·have q7_:=of_decide_eq_true q7;refine Af q7 (Aj (tn_ (wr_ (Ab (An (Ab ?_))))));obtain ⟨x10,e10,h⟩:=Ag h;refine Aa 6 (zI .int e10 (rsT 2 (As (tn_ (wr_ (Ab ?_))))));obtain ⟨y12,h12,h⟩:=Ag h;refine Aa 11 (rsT 3 (zc (.bool y12) [] [ai x10,ai a1,ai a2] (Dw h12) (rsT 1 (As (tn_ (wr_ ?_))))));rcases Ad h with ⟨q13,h⟩ | ⟨q13,h⟩
   ·refine Af q13 (Am (Ai (br_ (tr_ (tr_ (br_ (tr_ ?_)))))));obtain rfl:=zj h;have h:=hn4
    (try dsimp only at h);obtain rfl:=zj h;have h:=hk2
    (try dsimp only at h);obtain rfl:=zj h;exact A7 [.bool false] (At rfl zl Ax)
   refine Ae q13 (Aj (bn_ (tn_ (wr_ ?_))));obtain ⟨g15,h⟩:=Au h;refine Aa 13 (zA g15 (rsT 1 (As (tn_ ?_))));obtain rfl:=zj h;exact ⟨u0+1,_,Ac [],rfl,hn4⟩
  have q7_:=of_decide_eq_false q7;refine Ae q7 (A8 (te_ (te_ (be_ (tn_ ?_)))));obtain rfl:=zj h;have h:=hn4
  (try dsimp only at h);obtain rfl:=zj h;exact ⟨(),_,rfl,Ac [],rfl⟩
 rintro _ _ rfl h
 (try dsimp only at h);refine Am (Ai ?_);obtain rfl:=zj h;exact A7 [.bool true] (At rfl zl Ax)
def Kd:AC :=
 (.seq (rg [xo 6 (qm (cb false))])
 (.seq (rg [xm 7 0,xm 8 1,xo 9 (qb .geq (tm 7) (tm 8)),xm 10 9,⟨some 11,some (10,true),qm (tm 0)⟩,⟨some 12,some (10,true),qm (tm 2)⟩,⟨some 13,some (10,true),qb .leq (tm 11) (tm 12)⟩,xo 14 (.i (.pick (tm 10) (tm 13) (cb false))),xm 6 14])
 .ret))
def R5:List Res:=[.tmp 6]
theorem Rw:Ap Tryd.prog Tryd.f42=some (Kd,R5):=by kernel_rfl
def B8 (a0 a1 a2:Int):Option Bool :=
 (cond (decide (a1<=a0))
  (some (decide (a0<=a2)))
  (some false)).bind fun u0 =>
some u0
def Qr (r:Bool):RV:=⟨false,[(false,[.sc (.bool r)])]⟩
theorem Eo {a0 a1 a2:Int} {r:Bool} (h:B8 a0 a1 a2=some r):Ay Tryd.prog Tab 42 [ai a0,ai a1,ai a2] (Qr r):=by
 refine A0 (by kernel_rfl) Tryd.func42 Rw (n:=15) (by kernel_rfl) (by simp) rfl ?_;unfold Kd;unfold B8 at h;refine Am (A3 h (fun (u0:Bool) S_=>S_=⟨Al [(6,.bool u0)],Ah (Aq []),2⟩) ?_ ?_)
 ·intro v_ h;refine Aa 11 (rsT 4 ?_);rcases Ad h with ⟨q3,h⟩ | ⟨q3,h⟩
  ·have q3_:=of_decide_eq_true q3;refine rq 10 q3 (rsT 5 (As (tn_ ?_)));obtain rfl:=zj h;exact ⟨_,Ac [],rfl⟩
  have q3_:=of_decide_eq_false q3;refine rq 10 q3 (rsT 5 (As (tn_ ?_)));obtain rfl:=zj h;exact ⟨_,Ac [],rfl⟩
 rintro u0 _ rfl h
 (try dsimp only at h);refine Ai ?_;obtain rfl:=zj h;exact A7 [.bool u0] (At rfl zl Ax)
end

section
open Go.RowKit Go.Deep
end
section
open Go.RowKit Go.Deep
section
variable {n:Nat} {d:Option Nat} {f:Nat->AV} {ob:Oid->Option Ob}
end
end
section
open Go.RowKit Go.Deep
end
section
open Go.RowKit Go.Deep
def GN (G:World->Prop) (n:Nat) (w:World):Prop:=G w∧n<=w.heap.size
def AV.toR (R:Nat->Prop):AV->AV
 | .tree t xs=>.ftr R t xs
 | c=>c
def RL.toR (R:Nat->Prop):RL->RL
 | .frz c=>.frz (c.toR R)
 | .imm c=>.imm (c.toR R)
 | l=>l
def RV.toR (R:Nat->Prop) (r:RV):RV:=⟨r.tup,r.ps.map fun p=>(p.1,p.2.map (RL.toR R))⟩
section
variable {P:Program} {G:World->Prop} {f:FuncId} {args:List AV} {r:RV} {n:Nat} {R:Nat->Prop}
theorem Xz (h:Ay P G f args r):Ay P (GN G n) f args r:=fun w im vs hG hr=>h w im vs (fun w' hb=>(hG w' hb).1) hr
theorem Xk {c:AV} (h:c.gndB=true):(c.toR R).gndB=true:=by
 cases c <;> first | exact h | rfl
theorem X8 {c:AV} {im im':Nat->Prop} {w:World} {u:Value} (hg:c.gndB=true) (h1:∀ b,im b->im' b) (h2:∀ b,im b->R b) (h:AV.Rep (fun _=>none) im w c u):AV.Rep (fun _=>none) im' w (c.toR R) u:=by
 cases c <;> first | exact F8 h1 _ hg _ h | skip
 obtain ⟨A,c,l,e,hs⟩:=h;exact ⟨A,c,l,e,Bd (fun b _ hb=>⟨h1 b hb,h2 b hb⟩) hs⟩
theorem Fk {lo:Nat} {im im':Nat->Prop} {vs:List Value} {w:World} (hR:∀ b,lo<=b->R b) (him:∀ b,im' b->im b):∀ {rs:List RL} {us:List Value} {ls:List Loc},(∀ l∈rs,l.isI=true->∀ b,im' b->R b)->RL.RepL lo im' vs w rs us ls->RL.RepL lo im vs w (rs.map (RL.toR R)) us ls
 | [],_,_,_,h=>h
 | .sc c :: _,_,_,hI,⟨u,us',e,q1,q2,q3⟩=>⟨u,us',e,(by cases c <;> first | exact q1 | cases q2),q2,Fk hR him (fun l hl=>hI l (List.mem_cons_of_mem _ hl)) q3⟩
 | .new _ _ _ :: _,_,_,hI,⟨l,ls',us',e1,e2,q1,q2,q3,q4⟩=>⟨l,ls',us',e1,e2,q1,q2,q3,Fk hR him (fun l hl=>hI l (List.mem_cons_of_mem _ hl)) q4⟩
 | .newM _ _ _ _ :: _,_,_,hI,⟨l,kl,ls',us',ks,e1,e2,q,q4⟩=>⟨l,kl,ls',us',ks,e1,e2,q,Fk hR him (fun l hl=>hI l (List.mem_cons_of_mem _ hl)) q4⟩
 | .arg _ _ :: _,_,_,hI,⟨u,us',e,q1,q3⟩=>⟨u,us',e,q1,Fk hR him (fun l hl=>hI l (List.mem_cons_of_mem _ hl)) q3⟩
 | .argS _ _ _ _ _ :: _,_,_,hI,⟨A,m,c,us',e,q1,q3⟩=>⟨A,m,c,us',e,q1,Fk hR him (fun l hl=>hI l (List.mem_cons_of_mem _ hl)) q3⟩
 | .frz c :: _,_,_,hI,⟨u,us',e,q1,q2,q3⟩=>⟨u,us',e,X8 q2 (fun _ h=>h) (fun b hb=>hR b hb) q1,Xk q2,Fk hR him (fun l hl=>hI l (List.mem_cons_of_mem _ hl)) q3⟩
 | .imm c :: _,_,_,hI,⟨u,us',e,q1,q2,q3⟩=>⟨u,us',e,X8 q2 (fun b hb=>hb.imp (him b) id) (fun b hb=>hb.elim (hI _ List.mem_cons_self rfl b) (hR b)) q1,Xk q2,Fk hR him (fun l hl=>hI l (List.mem_cons_of_mem _ hl)) q3⟩
theorem O2:∀ (ps:List (Bool×List RL)) (us:List Value),Eg (ps.map fun p=>(p.1,p.2.map (RL.toR R))) us=Eg ps us
 | [],_=>rfl
 | (b,rs) :: ps,us=>by simp only [List.map_cons,Eg,List.length_map,O2 ps]
theorem Pk (r:RV):(r.toR R).leaves=r.leaves.map (RL.toR R):=by
 simp only [RV.leaves,RV.toR,List.flatMap_map,List.map_flatMap]
theorem Ado (l:RL):(l.toR R).fi=l.fi:=by cases l <;> rfl
theorem Acy {lo:Nat} {im im':Nat->Prop} {vs:List Value} {w:World} {u:Value} (hR:∀ b,lo<=b->R b) (him:∀ b,im' b->im b) (hI:(∃ l∈r.leaves,l.isI=true)->∀ b,im' b->R b) (h:r.Rep lo im' vs w u):(r.toR R).Rep lo im vs w u:=by
 obtain ⟨us,ls,q1,⟨q2,q3⟩,q4⟩:=h;refine ⟨us,ls,by rw [Pk]; exact Fk hR him (fun l hl hi=>hI ⟨l,hl,hi⟩) q1,⟨q2,fun ⟨c,hc,hd⟩=>q3 ?_⟩,?_⟩
 ·rw [Pk] at hc;obtain ⟨l,hl,e⟩:=List.mem_map.1 hc;subst e;rw [Ado] at hd;exact ⟨l,hl,hd⟩
 ·rw [q4]; simp only [RV.toR,O2]
theorem Add (hR:∀ b,n<=b->R b) (h:Ay P G f args r) (hni:r.noI=true:=by kernel_rfl):Ay P (GN G n) f args (r.toR R):=by
 intro w im vs hG hr;have hn:n<=w.heap.size:=(hG w (Below.refl _ _)).2;refine (h w im vs (fun w' hb=>(hG w' hb).1) hr).mono ?_;rintro e w' ⟨u,rfl,hb,hrv⟩;refine ⟨u,rfl,hb,Acy (fun b hb=>hR b (Nat.le_trans hn hb)) (fun _ h=>h) (fun ⟨l,hl,hi⟩=>?_) hrv⟩;have:=List.all_eq_true.1 hni l hl;rw [hi] at this; cases this
mutual
def AV.unR (R:Nat->Prop):AV->AV->Prop
 | .tree t xs,d=>d=.ftr R t xs
 | .agg cs,d=>∃ ds,d=.agg ds∧AV.unRL R cs ds
 | c,d=>c.scal=true∧d=c
def AV.unRL (R:Nat->Prop):List AV->List AV->Prop
 | [],ds=>ds=[]
 | c :: cs,ds=>∃ d ds',ds=d :: ds'∧AV.unR R c d∧AV.unRL R cs ds'
end
mutual
theorem Acm {im:Nat->Prop} {w:World}:∀ (c d:AV) (u:Value),AV.unR R c d->AV.Rep (fun _=>none) im w d u->AV.Rep (fun _=>none) (fun b=>im b∧R b) w c u
 | .tree t xs,d,u,h,hr=>by
  have h:d=.ftr R t xs:=h;subst h;exact hr
 | .agg cs,d,u,⟨ds,e,h⟩,hr=>by
  subst e;obtain ⟨us,e,hr⟩:=hr;exact ⟨us,e,V1 cs ds us h hr⟩
 | .int ..,d,u,⟨_,e⟩,hr=>by subst e; exact hr
 | .bool ..,d,u,⟨_,e⟩,hr=>by subst e; exact hr
 | .str ..,d,u,⟨_,e⟩,hr=>by subst e; exact hr
 | .nils,d,u,⟨_,e⟩,hr=>by subst e; exact hr
 | .any,d,u,⟨h,_⟩,_=>by cases h
 | .mtree ..,d,u,⟨h,_⟩,_=>by cases h
 | .ftr ..,d,u,⟨h,_⟩,_=>by cases h
 | .mp _,d,u,⟨h,_⟩,_=>by cases h
 | .tup _,d,u,⟨h,_⟩,_=>by cases h
 | .fn ..,d,u,⟨h,_⟩,_=>by cases h
 | .ref _,d,u,⟨h,_⟩,_=>by cases h
 | .own ..,d,u,⟨h,_⟩,_=>by cases h
 | .box ..,d,u,⟨h,_⟩,_=>by cases h
 | .elt ..,d,u,⟨h,_⟩,_=>by cases h
 | .sla ..,d,u,⟨h,_⟩,_=>by cases h
 | .telt ..,d,u,⟨h,_⟩,_=>by cases h
 | .giv ..,d,u,⟨h,_⟩,_=>by cases h
 | .abool ..,d,u,⟨h,_⟩,_=>by cases h
theorem V1 {im:Nat->Prop} {w:World}:∀ (cs ds:List AV) (us:List Value),AV.unRL R cs ds->AV.RepL (fun _=>none) im w ds us->AV.RepL (fun _=>none) (fun b=>im b∧R b) w cs us
 | [],ds,us,h,hr=>by obtain rfl:ds=[]:=h; exact hr
 | c :: cs,ds,us,⟨d,ds',e,h1,h2⟩,hr=>by
  subst e;obtain ⟨u,us',e,r1,r2⟩:=hr;exact ⟨u,us',e,Acm c d u h1 r1,V1 cs ds' us' h2 r2⟩
end
end
-- rows of things that nobody writes
theorem Yh {m:Option (Nat->Prop)} {t:Ty} (xs:List t.D):(tvC m t xs).length=xs.length*t.size:=by
 unfold tvC
 induction xs with
 | nil=>simp
 | cons x xs ih=>rw [List.flatMap_cons,List.length_append,ih,C0,List.length_cons,Nat.succ_mul]; omega
theorem Wi {ob:Oid->Option Ob} (m:Option (Nat->Prop)):∀ (t:Ty) (x:t.D),rdC ob t (t.avM m x)=some x
 | .int,_=>rfl
 | .bool,_=>rfl
 | .str,_=>rfl
 | .slice t,xs=>by
  have:Dg ob t (trM m t xs)=some xs:=by cases m <;> simp only [trM,Dg,Ty.eq?_self,Cy]
  simp only [Ty.avM,rdC,this]
 | .pair a b,x=>by
  have h1:(a.avM m x.1++b.avM m x.2).take a.size=a.avM m x.1:=List.take_left' (C0 m a x.1);have h2:(a.avM m x.1++b.avM m x.2).drop a.size=b.avM m x.2:=List.drop_left' (C0 m a x.1);simp only [Ty.avM,rdC,h1,h2,Wi m a,Wi m b]
theorem Sc {ob:Oid->Option Ob} {m:Option (Nat->Prop)} {t:Ty}:∀ (xs:List t.D),It (rdC ob t) t.size xs.length (tvC m t xs)=some xs
 | []=>rfl
 | x :: xs=>by
  have h1:(tvC m t (x :: xs)).take t.size=t.avM m x:=List.take_left' (C0 m t x);have h2:(tvC m t (x :: xs)).drop t.size=tvC m t xs:=List.drop_left' (C0 m t x);simp only [List.length_cons,It,h1,h2,Wi,Sc xs]
section
variable {ob:Oid->Option Ob}
theorem Aeq {n len:Nat} {o:Oid} {e:TypeId} {m:Option (Nat->Prop)} {t:Ty} {xs:List t.D} (ho:ob o=some (.vec e t.size xs.length (tvC m t xs))) (hl:len=xs.length):gnd ob (n+1) (.own o t 0 len)=some (.tree t xs):=by
 subst hl
 have:Vb ob t.size (rdC ob t) (.own o t 0 xs.length)=some xs:=by
  simp only [Vb,ho];rw [if_pos ⟨trivial,by omega⟩,Nat.zero_mul,List.drop_zero,List.take_of_length_le (by rw [Yh]; exact Nat.le_refl _)];exact Sc xs
 simp only [gnd,ho,this,Option.map_some]
end
theorem Z7 {G:World->Prop} {tl:List (Nat×AV)} {ol:List (Oid×Option Ob)} {g:Nat} (o:Oid) (e:TypeId) (m:Option (Nat->Prop)) (t:Ty) (xs:List t.D) {N:Nat} (h:Ah ol o=some (.vec e t.size N (tvC m t xs))) (hN:N=xs.length):WeakG G ⟨Al tl,Ah ol,g⟩ ⟨Al tl,Ah ((o,some (.tv e m t xs)) :: ol),g⟩:=by
 subst hN
 have:Ah ((o,some (.tv e m t xs)) :: ol)=Ah ol:=by
  funext i;show (if i=o then some (.vec e t.size xs.length (tvC m t xs)) else Ah ol i)=Ah ol i;by_cases hi:i=o
  ·rw [if_pos hi,hi,h]
  ·rw [if_neg hi]
 rw [this]; exact WeakG.refl _
section
variable {n:Nat} {d:Option Nat} {f:Nat->AV} {ob:Oid->Option Ob}
end
-- results
inductive Wb (R:Nat->Prop) (ob:Oid->Option Ob):AV->AV->Prop
 | ftr {t:Ty} {xs:List t.D}:Wb R ob (.ftr R t xs) (.tree t xs)
 | nil {t:Ty}:Wb R ob .nils (.tree t [])
 | arr {i:Oid} {t u:Ty} {e:TypeId} {xs:List u.D} {len:Nat}:ob i=some (.arr e u xs)->len=xs.length->Wb R ob (.own i t 0 len) (.tree u xs)
 | mat {o p:Oid} {e1 e:TypeId} {u:Ty} {xss:List (List u.D)} {len:Nat}:ob o=some (.vec e1 1 xss.length (hdL p u xss))->(∀ k row,xss[k]? =some row->ob (kid p k)=some (.arr e u row))->len=xss.length->Wb R ob (.own o (.slice u) 0 len) (.tree (.slice u) xss)
 | tv {o:Oid} {e:TypeId} {t:Ty} {xs:List t.D} {len:Nat}:ob o=some (.vec e t.size xs.length (tvC (some R) t xs))->len=xs.length->Wb R ob (.own o t 0 len) (.tree t xs)
section
variable {G:World->Prop} {w0 w:World} {ob:Oid->Option Ob} {σ:Oid->Option Loc} {K:Nat->Prop}
theorem Tw {im im':Nat->Prop} {i:Oid} {t:Ty} {off len:Nat} {v:Value} (h:AV.Rep σ im w (.own i t off len) v):AV.Rep σ im' w (.own i t off len) v:=h
theorem Aee {im im':Nat->Prop} {p:Oid} {u:Ty} {xss:List (List u.D)} {vs:List Value} (h:AV.RepL σ im w (hdL p u xss) vs):AV.RepL σ im' w (hdL p u xss) vs:=by
 have key:∀ (l:List (List u.D×Nat)) (vs:List Value),AV.RepL σ im w (l.map fun x=>.own (kid p x.2) u 0 x.1.length) vs->AV.RepL σ im' w (l.map fun x=>.own (kid p x.2) u 0 x.1.length) vs:=by
  intro l
  induction l with
  | nil=>intro vs h; exact h
  | cons x l ih=>rintro vs ⟨v,vs',e,h1,h2⟩; exact ⟨v,vs',e,Tw h1,ih vs' h2⟩
 exact key _ _ h
theorem Wy {im R:Nat->Prop}:∀ (t:Ty) (x:t.D) (vs:List Value),AV.RepL σ im w (t.avM (some R) x) vs->AV.RepL σ R w (t.av x) vs
 | .int,_,_,⟨v,vs',e,h1,h2⟩=>⟨v,vs',e,h1,h2⟩
 | .bool,_,_,⟨v,vs',e,h1,h2⟩=>⟨v,vs',e,h1,h2⟩
 | .str,_,_,⟨v,vs',e,h1,h2⟩=>⟨v,vs',e,h1,h2⟩
 | .slice t,xs,_,⟨v,vs',e,⟨A,c,l,e1,hs⟩,h2⟩=>⟨v,vs',e,⟨A,c,l,e1,Bd (fun b _ hb=>hb.2) hs⟩,h2⟩
 | .pair a b,x,vs,h=>by
  have hl:=h.length;have h1:=h.take a.size;have h2:=h.drop a.size;have e1:((Ty.pair a b).avM (some R) x).take a.size=a.avM (some R) x.1:=List.take_left' (C0 _ a x.1);have e2:((Ty.pair a b).avM (some R) x).drop a.size=b.avM (some R) x.2:=List.drop_left' (C0 _ a x.1);rw [e1] at h1;rw [e2] at h2;have:=(Wy a x.1 _ h1).append (Wy b x.2 _ h2);rw [List.take_append_drop] at this;exact this
theorem Abl {im R:Nat->Prop} {t:Ty}:∀ (xs:List t.D) (vs:List Value),AV.RepL σ im w (tvC (some R) t xs) vs->AV.RepL σ R w (tvC none t xs) vs
 | [],_,h=>h
 | x :: xs,vs,h=>by
  have h1:=h.take t.size;have h2:=h.drop t.size;have e1:(tvC (some R) t (x :: xs)).take t.size=t.avM (some R) x:=List.take_left' (C0 _ t x);have e2:(tvC (some R) t (x :: xs)).drop t.size=tvC (some R) t xs:=List.drop_left' (C0 _ t x);rw [e1] at h1;rw [e2] at h2
  have hav:∀ (t:Ty) (x:t.D),t.avM none x=t.av x:=by
   intro t
   induction t with
   | pair a b ha hb=>intro x; simp only [Ty.avM,Ty.av,ha,hb]
   | _=>intro x; rfl
  have h1':=Wy t x _ h1;rw [← hav] at h1';have:=h1'.append (Abl xs _ h2);rw [List.take_append_drop] at this;exact this
theorem Abp {R:Nat->Prop} (hM:Mem0 G w0 ob σ K w) (hR:∀ b,w0.heap.size<=b->R b) {c d:AV} {v:Value} (h:Wb R ob c d) (hr:AV.Rep σ (imm ob σ) w c v):AV.Rep (fun _=>none) R w d v:=by
 cases h with
 | ftr=>obtain ⟨A,c,l,e,hs⟩:=hr; exact ⟨A,c,l,e,Bd (fun b _ hb=>hb.2) hs⟩
 | nil=>exact ⟨none,0,[],hr,by simp,by simp [maxLen],fun _=>[],by simp,fun h=>absurd h (by simp)⟩
 | @arr i t u e xs len h1 h2 =>
  refine Hp (ob:=fun j=>if j=i then some (.arr e u xs) else none) (σ:=σ) (im:=R) (lo:=w0.heap.size) (fun j o l hj hl=>?_) (fun _ hb=>hb) (fun j o b c s _ hs=>hR b (hM.lt j b c s hs).1) 1 _ _ _ (W8 (e:=e) (if_pos rfl) h2) (Tw hr);split at hj
  ·rename_i e'; subst e';obtain rfl:=osj hj;exact hM.obs j _ l h1 hl
  ·cases hj
 | @mat o p e1 e u xss len h1 h2 h3 =>
  refine Hp (ob:=fun j=>match ob j with | some (.arr e u xs)=>some (.arr e u xs) | _=>if j=o then some (.vec e1 1 xss.length (hdL p u xss)) else none) (σ:=σ) (im:=R) (lo:=w0.heap.size) (fun j q l hj hl=>?_) (fun _ hb=>hb) (fun j o b c s _ hs=>hR b (hM.lt j b c s hs).1) 1 _ _ _ (Adr (p:=p) (e1:=e1) (e:=e) (by simp only [h1]; rw [if_pos trivial]) (fun k row hk=>by simp only [h2 k row hk]) h3) (Tw hr);split at hj
  ·rename_i e' u' xs' hj';obtain rfl:=osj hj;exact hM.obs j _ l hj' hl
  ·split at hj
   ·rename_i e'; subst e';obtain rfl:=osj hj;obtain ⟨vs,g1,g2,g3⟩:=hM.obs j _ l h1 hl;exact ⟨vs,g1,Aee g2,g3⟩
   ·cases hj
 | @tv o e t xs len h1 h2 =>
  refine Hp (ob:=fun j=>if j=o then some (.vec e t.size xs.length (tvC none t xs)) else none) (σ:=σ) (im:=R) (lo:=w0.heap.size) (fun j q l hj hl=>?_) (fun _ hb=>hb) (fun j o b c s _ hs=>hR b (hM.lt j b c s hs).1) 1 _ _ _ (Aeq (m:=none) (e:=e) (if_pos rfl) h2) (Tw hr);split at hj
  ·rename_i e'; subst e';obtain rfl:=osj hj;obtain ⟨vs,g1,g2,g3⟩:=hM.obs j _ l h1 hl;exact ⟨vs,g1,Abl xs vs g2,g3⟩
  ·cases hj
def RL.zl:Bool->AV->RL
 | true,d=>.frz d
 | false,d=>.imm d
def zR (z:Bool) (im:Nat->Prop) (n:Nat) (b:Nat):Prop:=if z then n<=b else im b∨n<=b
theorem Ade {z:Bool} {im:Nat->Prop} {n b:Nat} (h:n<=b):zR z im n b:=by cases z; exact .inr h; exact h
def V5 (R:Nat->Prop) (z:Bool) (ob:Oid->Option Ob) (c:AV) (l:RL):Prop:=(c.scal=true∧l=.sc c)∨∃ d,l=.zl z d∧d.gndB=true∧Wb R ob c d
def Gq (R:Nat->Prop) (z:Bool) (ob:Oid->Option Ob):List AV->List RL->Prop
 | [],ls=>ls=[]
 | c :: cs,ls=>∃ l ls',ls=l :: ls'∧V5 R z ob c l∧Gq R z ob cs ls'
def Hv (R:Nat->Prop) (z:Bool) (ob:Oid->Option Ob):List (Bool×List AV)->List (Bool×List RL)->Prop
 | [],ps=>ps=[]
 | (b,cs) :: r,ps=>∃ ls ps',ps=(b,ls) :: ps'∧Gq R z ob cs ls∧(b=false->cs.length=1)∧Hv R z ob r ps'
def Ac6:List (Bool×List AV)->List AV
 | []=>[]
 | (b,cs) :: r=>(if b then .agg cs else cs.headD .any) :: Ac6 r
def Adx (R:Nat->Prop) (z:Bool) (rs:List Res) (S:St) (r:RV):Prop :=
 ∃ gs ps,Res.evL S.tm S.ob rs=some (Ac6 gs)∧Hv R z S.ob gs ps∧r=⟨decide (rs.length≠1),ps⟩
theorem Nj {z:Bool} (hM:Mem0 G w0 ob σ K w) {im:Nat->Prop} {vs0:List Value}:∀ {cs:List AV} {ls:List RL} {us:List Value},Gq (zR z im w0.heap.size) z ob cs ls->AV.RepL σ (imm ob σ) w cs us->RL.RepL w0.heap.size im vs0 w ls us []∧ls.length=us.length
 | [],ls,us,h,hr=>by obtain rfl:ls=[]:=h; exact ⟨⟨hr,rfl⟩,by rw [show us=[] from hr]; rfl⟩
 | c :: cs,ls,us,⟨l,ls',e,h1,h2⟩,⟨u,us',e',r1,r2⟩=>by
  subst e e';obtain ⟨q1,q2⟩:=Nj hM (im:=im) (vs0:=vs0) h2 r2;refine ⟨?_,by simp [q2]⟩;rcases h1 with ⟨a1,rfl⟩ | ⟨d,rfl,a1,a2⟩
  ·exact ⟨u,us',rfl,(by cases c <;> first | exact r1 | cases a1),a1,q1⟩
  ·have hr:=Abp hM (fun _ h=>Ade h) a2 r1;cases z with
   | true=>exact ⟨u,us',rfl,F8 (fun b h=>h) _ a1 _ hr,a1,q1⟩
   | false=>exact ⟨u,us',rfl,F8 (fun b h=>h) _ a1 _ hr,a1,q1⟩
theorem Vr {lo:Nat} {im:Nat->Prop} {vs:List Value} {w:World}:∀ {rs:List RL} {us:List Value} {rs':List RL} {us':List Value},(∀ l∈rs,(∃ c,l=.sc c)∨(∃ d,l=.frz d)∨∃ d,l=.imm d)->RL.RepL lo im vs w rs us []->RL.RepL lo im vs w rs' us' []->RL.RepL lo im vs w (rs++rs') (us++us') []
 | [],_,_,_,_,⟨e,_⟩,h=>by subst e; exact h
 | l :: rs,us,rs',us',hk,h,h'=>by
  have hk':=fun l hl=>hk l (List.mem_cons_of_mem _ hl)
  rcases hk l List.mem_cons_self with ⟨c,rfl⟩ | ⟨d,rfl⟩ | ⟨d,rfl⟩ <;> obtain ⟨u,us1,rfl,q1,q2,q3⟩:=h <;> exact ⟨u,us1++us',rfl,q1,q2,Vr hk' q3 h'⟩
theorem Lw {R:Nat->Prop} {z:Bool}:∀ {cs:List AV} {ls:List RL},Gq R z ob cs ls->∀ l∈ls,(∃ c,l=.sc c)∨(∃ d,l=.frz d)∨∃ d,l=.imm d
 | [],ls,h,l,hl=>by rw [show ls=[] from h] at hl; cases hl
 | c :: cs,ls,⟨l0,ls',e,h1,h2⟩,l,hl=>by
  subst e;rcases List.mem_cons.1 hl with rfl | hl
  ·rcases h1 with ⟨_,rfl⟩ | ⟨d,rfl,_⟩
   ·exact .inl ⟨_,rfl⟩
   ·cases z with
    | true=>exact .inr (.inl ⟨_,rfl⟩)
    | false=>exact .inr (.inr ⟨_,rfl⟩)
  ·exact Lw h2 l hl
theorem Qp {z:Bool} (hM:Mem0 G w0 ob σ K w) {im:Nat->Prop} {vs0:List Value}:∀ {gs:List (Bool×List AV)} {ps:List (Bool×List RL)} {us:List Value},Hv (zR z im w0.heap.size) z ob gs ps->AV.RepL σ (imm ob σ) w (Ac6 gs) us->∃ vs,RL.RepL w0.heap.size im vs0 w (ps.flatMap (·.2)) vs []∧Eg ps vs=us
 | [],ps,us,h,hr=>by
  obtain rfl:ps=[]:=h;exact ⟨[],⟨rfl,rfl⟩,hr.symm⟩
 | (b,cs) :: gs,ps,us,⟨ls,ps',e,h1,h2,h3⟩,⟨u,us',e',r1,r2⟩=>by
  subst e e';obtain ⟨vs,q1,q2⟩:=Qp hM (im:=im) (vs0:=vs0) h3 r2
  have key:∀ ws:List Value,AV.RepL σ (imm ob σ) w cs ws->(if b then Value.agg ws.toArray else ws.headD undef)=u->∃ vs,RL.RepL w0.heap.size im vs0 w (((b,ls) :: ps').flatMap (·.2)) vs []∧Eg ((b,ls) :: ps') vs=u :: us':=fun ws hw hu=>by
   obtain ⟨a1,a2⟩:=Nj hM (im:=im) (vs0:=vs0) h1 hw;refine ⟨ws++vs,Vr (Lw h1) a1 q1,?_⟩;simp only [Eg];rw [List.drop_left' a2.symm,q2,List.take_left' a2.symm];congr 1;cases b with
   | true=>exact hu
   | false =>
    have hl:=h2 rfl;rw [← hw.length] at hl;cases ws with
    | nil=>simp at hl
    | cons w0 ws=>exact hu
  cases b with
  | true =>
   obtain ⟨ws,e1,e2⟩:=r1;exact key ws e2 (by rw [e1]; rfl)
  | false =>
   have hl:=h2 rfl;obtain ⟨c,rfl⟩:=List.length_eq_one_iff.1 hl;exact key [u] ⟨u,[],rfl,r1,rfl⟩ rfl
end
theorem Abk {P:Program} [IsP P] {G:World->Prop} (hfol:P.follows .mixedOrders=true) {g:FuncId} {fn:Func} (hf:P.funcs[g]? =some fn) {ac:AC} {rs:List Res} (hc0:Ap P fn=some (ac,rs)) {args:List AV} {args':(Nat->Prop)->List AV} {r:RV} {n:Nat} (z:Bool) (hN:fn.ntmps=n) (hn:∀ R,(args' R).length<=n) {tl:(Nat->Prop)->List (Nat×AV)} (htl:∀ R,tmL 0 (args' R)=tl R) (ha:∀ (R im:Nat->Prop) (w:World) (us:List Value),(∀ b,im b->z=false->R b)->AV.RepL (fun _=>none) im w args us->AV.RepL (fun _=>none) im w (args' R) us)
  (h:∀ (n:Nat) (R:Nat->Prop),(∀ b,n<=b->R b)->awp P (GN G n) ac (fun e S=>∃ S',WeakG (GN G n) S S'∧(e=.normal∨e=.ret)∧Adx R z rs S' r) ⟨Al (tl R),Ah [],1⟩):Ay P G g args r:=by
 subst hN
 have h0:∃ c,fn.body=some c∧AC.of P fn.ntmps c=some ac∧Res.ofL P fn.results.toList=some rs:=by
  unfold Ap at hc0;split at hc0
  ·rename_i c hb;split at hc0
   ·rename_i ac' rs' h1 h2;obtain ⟨rfl,rfl⟩:=Prod.mk.inj (osj hc0);exact ⟨c,hb,h1,h2⟩
   ·cases hc0
  ·cases hc0
 obtain ⟨c,hb,hc,hrs⟩:=h0;intro w im vs hG hargs
 replace h:=h w.heap.size (zR z im w.heap.size) fun _ h=>Ade h
 replace hn:=hn (zR z im w.heap.size)
 rw [← htl,← St.init_eq] at h
 replace hargs:=ha (zR z im w.heap.size) im w vs (fun b hb e=>by subst e; exact .inl hb) hargs
 generalize args' (zR z im w.heap.size)=args at h hn hargs;have hlen:vs.length=args.length:=hargs.length
 have hany:∀ (cs:List AV) (us:List Value),AV.RepL (fun _=>none) im w cs us->AV.RepL (fun _=>none) (imm (fun _=>none) (fun _=>none)) w cs us:=fun cs us h' =>
  AV.RepL.later ⟨fun _ _ h=>h,(fun _ _ _ _ _ _ _ h=>by cases h),fun _ _ _=>rfl,Nat.le_refl _⟩ cs us h'
 have hreps:Io (GN G w.heap.size) w ⟨fun _=>none,fun _=>False,w,fun _ _ h=>(nomatch h)⟩ fn.ntmps (St.init args) { tmps:=vs.toArray++Array.replicate (fn.ntmps - vs.toArray.size) undef,defers:=[] } w:=by
  refine ⟨⟨fun _=>none,⟨Below.refl _ _,fun w' hb=>⟨hG w' hb,hb.size⟩,(fun _ _ h=>by cases h),(fun _ _ _ _ h=>by cases h),(fun _ _ _ _ h=>by cases h),(fun _ _ _ _ _ _ _ _ _ h=>by cases h),(fun _ _ _ h=>by cases h)⟩,fun t=>?_,⟨fun _ _ h=>h,fun _ _ h=>h.elim,fun _ _ h=>h.elim,Nat.le_refl _⟩⟩,by simp; omega,rfl,fun i h=>absurd rfl h⟩;simp only [St.init,gDg];cases ht:args[t]? with
  | none=>trivial
  | some c =>
   obtain ⟨v,hv,hr⟩:=(hany _ _ hargs).get ht;have hlt:t<vs.length:=(gSi.1 hv).1
   have e:(vs.toArray++Array.replicate (fn.ntmps - vs.toArray.size) undef).getD t undef=v:=by
    rw [Array.getD_eq_getD_getElem?,Array.getElem?_append_left (by simpa using hlt)];simp [hv]
   rw [e];exact hr
 refine calls_of_wp hf hb (Code.wp_mono (fun e a' w' hq=>?_) (M3 hfol c ac _ _ _ w hc h hreps));obtain ⟨e',S0,rfl,⟨S',hweak,hend,gs,ps,h1,h2,h4⟩,hr⟩:=hq
 replace hr:=hweak _ _ _ _ _ hr
 obtain ⟨σ,hM,hF,_⟩:=hr.ex
 have hrun:∀ (vars:List ResultVar) (rs:List Res) (avs:List AV),Res.ofL P vars=some rs->Res.evL S'.tm S'.ob rs=some avs ->
   ∃ us,(vars.mapM (V3 a'.tmps)).run P w'=.ok us w'∧AV.RepL σ (imm S'.ob σ) w' avs us∧us.length=vars.length∧rs.length=vars.length:=by
  intro vars
  induction vars with
  | nil =>
   intro rs avs q1 q2;obtain rfl:[]=rs:=osj q1;obtain rfl:[]=avs:=osj q2;exact ⟨[],rfl,rfl,rfl,rfl⟩
  | cons v vars ih =>
   intro rs avs q1 q2;simp only [Res.ofL] at q1;split at q1
   ·rename_i x xs p1 p2;obtain rfl:=osj q1;simp only [Res.evL] at q2;split at q2
    ·rename_i y ys p3 p4;obtain rfl:=osj q2;obtain ⟨u,r1,r2⟩:=Res.run hM hF p1 p3;obtain ⟨us,r3,r4,r5,r6⟩:=ih _ _ p2 p4;refine ⟨u :: us,?_,⟨u,us,rfl,r2,r4⟩,by simp [r5],by simp [r6]⟩;rw [List.mapM_cons,Sem.run_bind,r1];simp only [Result.andThen_ok,Sem.run_bind,r3,Sem.run_pure]
    ·cases q2
   ·cases q1
 obtain ⟨us,u1,u2,u3,u4⟩:=hrun fn.results.toList rs _ hrs h1;obtain ⟨vs',f1,f3⟩:=Qp (im:=im) (vs0:=vs) hM h2 u2;have hres:(results fn a'.tmps).run P w'=.ok (if fn.results.size=1 then us.headD undef else .tuple us.toArray) w':=Je u1 (by rw [u3]; simp)
 have hrv:r.Rep w.heap.size im vs w' (if fn.results.size=1 then us.headD undef else .tuple us.toArray):=by
  subst h4;refine ⟨vs',[],f1,⟨trivial,fun _=>rfl⟩,?_⟩;simp only [f3];have:rs.length=fn.results.size:=by rw [u4]; simp
  rw [this];by_cases h1:fn.results.size=1 <;> simp [h1]
 have fin:∃ u,(results fn a'.tmps).run P w'=.ok u w'∧∃ v,Ending.returned u=.returned v∧Below w.heap.size w w'∧r.Rep w.heap.size im vs w' v:=⟨_,hres,_,rfl,hM.below,hrv⟩
 rcases hend with rfl | rfl
 ·exact ⟨hr.defers,fin⟩
 ·exact ⟨hr.defers,fin⟩
theorem Ov {P:Program} [IsP P] {G:World->Prop} (hfol:P.follows .mixedOrders=true) {g:FuncId} {fn:Func} (hf:P.funcs[g]? =some fn) {ac:AC} {rs:List Res} (hc0:Ap P fn=some (ac,rs)) {args:List AV} {r:RV} {n:Nat} (hN:fn.ntmps=n) (hn:args.length<=n) {tl:List (Nat×AV)} (htl:tmL 0 args=tl)
  (h:∀ (n:Nat) (R:Nat->Prop),(∀ b,n<=b->R b)->awp P (GN G n) ac (fun e S=>∃ S',WeakG (GN G n) S S'∧(e=.normal∨e=.ret)∧Adx R true rs S' r) ⟨Al tl,Ah [],1⟩):Ay P G g args r :=
 Abk hfol hf hc0 (args':=fun _=>args) true hN (fun _=>hn) (tl:=fun _=>tl) (fun _=>htl) (fun _ _ _ _ _ h=>h) h
mutual
theorem Aa5 {R im:Nat->Prop} {w:World} (hR:∀ b,im b->R b):∀ (c d:AV) (u:Value),AV.unR R c d->AV.Rep (fun _=>none) im w c u->AV.Rep (fun _=>none) im w d u
 | .tree t xs,d,u,h,⟨A,c,l,e,hs⟩=>by
  have h:d=.ftr R t xs:=h;subst h;exact ⟨A,c,l,e,Bd (fun b _ hb=>⟨hb,hR b hb⟩) hs⟩
 | .agg cs,d,u,⟨ds,e,h⟩,hr=>by
  subst e;obtain ⟨us,e,hr⟩:=hr;exact ⟨us,e,Sb hR cs ds us h hr⟩
 | .int ..,d,u,⟨_,e⟩,hr=>by subst e; exact hr
 | .bool ..,d,u,⟨_,e⟩,hr=>by subst e; exact hr
 | .str ..,d,u,⟨_,e⟩,hr=>by subst e; exact hr
 | .nils,d,u,⟨_,e⟩,hr=>by subst e; exact hr
 | .any,d,u,⟨h,_⟩,_=>by cases h
 | .mtree ..,d,u,⟨h,_⟩,_=>by cases h
 | .ftr ..,d,u,⟨h,_⟩,_=>by cases h
 | .mp _,d,u,⟨h,_⟩,_=>by cases h
 | .tup _,d,u,⟨h,_⟩,_=>by cases h
 | .fn ..,d,u,⟨h,_⟩,_=>by cases h
 | .ref _,d,u,⟨h,_⟩,_=>by cases h
 | .own ..,d,u,⟨h,_⟩,_=>by cases h
 | .box ..,d,u,⟨h,_⟩,_=>by cases h
 | .elt ..,d,u,⟨h,_⟩,_=>by cases h
 | .sla ..,d,u,⟨h,_⟩,_=>by cases h
 | .telt ..,d,u,⟨h,_⟩,_=>by cases h
 | .giv ..,d,u,⟨h,_⟩,_=>by cases h
 | .abool ..,d,u,⟨h,_⟩,_=>by cases h
theorem Sb {R im:Nat->Prop} {w:World} (hR:∀ b,im b->R b):∀ (cs ds:List AV) (us:List Value),AV.unRL R cs ds->AV.RepL (fun _=>none) im w cs us->AV.RepL (fun _=>none) im w ds us
 | [],ds,us,h,hr=>by obtain rfl:ds=[]:=h; exact hr
 | c :: cs,ds,us,⟨d,ds',e,h1,h2⟩,hr=>by
  subst e;obtain ⟨u,us',e,r1,r2⟩:=hr;exact ⟨u,us',e,Aa5 hR c d u h1 r1,Sb hR cs ds' us' h2 r2⟩
end
theorem Abz {G:World->Prop} {R:Nat->Prop} {z:Bool} {rs:List Res} {tm:Nat->AV} {ob:Oid->Option Ob} {g:Nat} {r:RV} (gs:List (Bool×List AV)) {e:AE} (h2:Hv R z ob gs r.ps) (he:e=.normal∨e=.ret:=by simp) (h1:Res.evL tm ob rs=some (Ac6 gs):=by kernel_rfl) (h4:r.tup=decide (rs.length≠1):=by kernel_rfl):∃ S',WeakG G ⟨tm,ob,g⟩ S'∧(e=.normal∨e=.ret)∧Adx R z rs S' r :=
 ⟨_,WeakG.refl _,he,gs,r.ps,h1,h2,by cases r; cases h4; rfl⟩
section
variable {R:Nat->Prop} {z:Bool} {ob:Oid->Option Ob}
theorem Wr:Hv R z ob [] []:=rfl
theorem Zp {cs:List AV} {r:List (Bool×List AV)} {ls:List RL} {ps:List (Bool×List RL)} (h1:Gq R z ob cs ls) (h2:Hv R z ob r ps):Hv R z ob ((true,cs) :: r) ((true,ls) :: ps):=⟨ls,ps,rfl,h1,(fun h=>by cases h),h2⟩
theorem Ady {c:AV} {r:List (Bool×List AV)} {l:RL} {ps:List (Bool×List RL)} (h1:V5 R z ob c l) (h2:Hv R z ob r ps):Hv R z ob ((false,[c]) :: r) ((false,[l]) :: ps):=⟨[l],ps,rfl,⟨l,[],rfl,h1,rfl⟩,fun _=>rfl,h2⟩
theorem Zy:Gq R z ob [] []:=rfl
theorem Gv {c:AV} {cs:List AV} {l:RL} {ls:List RL} (h1:V5 R z ob c l) (h2:Gq R z ob cs ls):Gq R z ob (c :: cs) (l :: ls):=⟨l,ls,rfl,h1,h2⟩
theorem Zl {c:AV} (h:c.scal=true:=by kernel_rfl):V5 R z ob c (.sc c):=.inl ⟨h,rfl⟩
theorem Mo {c:AV} {t:Ty} {xs:List t.D} (h:Wb R ob c (.tree t xs)):V5 R z ob c (.zl z (.tree t xs)):=.inr ⟨_,rfl,rfl,h⟩
end
section
variable {P:Program} {G:World->Prop} {g k d:Nat} {gd:Option (Nat×Bool)} {xs:List X} {tl:List (Nat×AV)} {ol:List (Oid×Option Ob)} {bad:List (Nat×Nat)} {ra:List Rec} {da:List (List Oid)} {Kf:List (Nat×AV)->List (Oid×Option Ob)->Prop}
variable {fo:Opd} {ys:List Opd} {tys:List (List (Option Ty))} {F:FuncId} {caps:List AV} {rv:RV}
end
end
section
open Go.RowKit Go.Deep
def Ty.zav:Ty->List AV
 | .int=>[.int .i64 0]
 | .bool=>[.bool false]
 | .str=>[.str ByteArray.empty]
 | .slice _=>[.nils]
 | .pair a b=>a.zav++b.zav
theorem Jp:∀ t:Ty,t.zav.length=t.size
 | .int | .bool | .str | .slice _=>rfl
 | .pair a b=>by simp only [Ty.zav,List.length_append,Jp a,Jp b,Ty.size]
section
variable {σ:Oid->Option Loc} {im:Nat->Prop} {w:World}
theorem M8 {R:Nat->Prop} {t:Ty} {v:Value} (h1:v=.slice none 0 0):∃ A c l,v=.slice A ([]:List t.D).length c∧Sl R w t A c ([]:List t.D) l :=
 ⟨none,0,[],h1,by simp,by simp [maxLen],fun _=>[],by simp,fun h=>absurd h (by simp)⟩
theorem Ui (m:Option (Nat->Prop)):∀ (t:Ty) (vs:List Value),AV.RepL σ im w t.zav vs->AV.RepL σ im w (t.avM m t.dflt) vs
 | .int,_,h | .bool,_,h | .str,_,h=>h
 | .slice t,_,⟨v,vs',e,h1,h2⟩=>by
  refine ⟨v,vs',e,?_,h2⟩;have h1:v=.slice none 0 0:=h1;cases m with
  | none=>exact M8 h1
  | some n=>exact M8 h1
 | .pair a b,vs,h=>by
  have h1:=h.take a.size;have h2:=h.drop a.size;have e1:(Ty.pair a b).zav.take a.size=a.zav:=List.take_left' (Jp a);have e2:(Ty.pair a b).zav.drop a.size=b.zav:=List.drop_left' (Jp a);rw [e1] at h1;rw [e2] at h2;have:=(Ui m a _ h1).append (Ui m b _ h2);rw [List.take_append_drop] at this;exact this
theorem Vm (m:Option (Nat->Prop)) (t:Ty):∀ (n:Nat) (vs:List Value),AV.RepL σ im w (Oz n t.zav) vs->AV.RepL σ im w (tvC m t (List.replicate n t.dflt)) vs
 | 0,_,h=>h
 | n+1,vs,h=>by
  have e:Oz (n+1) t.zav=t.zav++Oz n t.zav:=by simp only [Oz,List.replicate_succ,List.flatten_cons]
  rw [e] at h;have h1:=h.take t.size;have h2:=h.drop t.size;rw [List.take_left' (Jp t)] at h1;rw [List.drop_left' (Jp t)] at h2;have:=(Ui m t _ h1).append (Vm m t n _ h2);rw [List.take_append_drop] at this;exact this
end
theorem Y0 {G:World->Prop} {tl:List (Nat×AV)} {ol:List (Oid×Option Ob)} {g:Nat} (o:Oid) {e:TypeId} {sz n:Nat} {cs ds:List AV} (h:Ah ol o=some (.vec e sz n cs)) (hr:∀ (σ:Oid->Option Loc) (im:Nat->Prop) (w:World) (vs:List Value),AV.RepL σ im w cs vs->AV.RepL σ im w ds vs) :
  WeakG G ⟨Al tl,Ah ol,g⟩ ⟨Al tl,upd (Ah ol) o (some (.vec e sz n ds)),g⟩:=by
 intro w0 B N a w hR;obtain ⟨σ,hm,hf,hB⟩:=hR.ex
 have hwas:∀ i x,upd (Ah ol) o (some (.vec e sz n ds)) i=some x->∃ y,Ah ol i=some y:=fun i x hx=>by
  by_cases hi:i=o
  ·subst hi; exact ⟨_,h⟩
  ·rw [Av _ _ _ _ hi] at hx; exact ⟨x,hx⟩
 have him:∀ b,imm (Ah ol) σ b->imm (upd (Ah ol) o (some (.vec e sz n ds))) σ b:=fun b hb i x c s hx hs=>by
  obtain ⟨y,hy⟩:=hwas i x hx;exact hb i y c s hy hs
 have hL:Later σ σ (imm (Ah ol) σ) (imm (upd (Ah ol) o (some (.vec e sz n ds))) σ) w w:=⟨fun _ _ h=>h,fun b _ hb=>him b hb,fun _ _ _=>rfl,Nat.le_refl _⟩
 refine ⟨⟨σ,⟨hm.below,hm.inv,hm.gen,hm.lt,hm.cap,fun i j b c s c' s' x y hi hj=>?_,fun i x l hx hl=>?_⟩,fun t=>AV.Rep.later hL _ _ (hf t),hB.trans hL⟩,hR.size,hR.defers,fun i hi=>?_⟩
 ·obtain ⟨x',hx'⟩:=hwas i x hi;obtain ⟨y',hy'⟩:=hwas j y hj;exact hm.inj i j b c s c' s' x' y' hx' hy'
 ·have hx:upd (Ah ol) o (some (.vec e sz n ds)) i=some x:=hx;by_cases hi:i=o
  ·subst hi;rw [Aw] at hx;obtain rfl:=osj hx;obtain ⟨vs,p1,p2,p3,p4⟩:=hm.obs i _ l h hl;exact ⟨vs,p1,hr _ _ _ _ (AV.RepL.later hL _ _ p2),p3,p4⟩
  ·rw [Av _ _ _ _ hi] at hx;exact (hm.obs i x l hx hl).later hL fun _ _ _ _=>rfl
 ·refine hR.obg i fun hn=>hi ?_
  show upd (Ah ol) o (some (.vec e sz n ds)) i=none;by_cases hio:i=o
  ·subst hio;have hn:Ah ol i=none:=hn;rw [h] at hn; cases hn
  ·rw [Av _ _ _ _ hio]; exact hn
theorem Adz {ol:List (Oid×Option Ob)} {o:Oid} {e:TypeId} {m:Option (Nat->Prop)} {t:Ty} {xs:List t.D} {N:Nat} (hN:N=xs.length):upd (Ah ol) o (some (.vec e t.size N (tvC m t xs)))=Ah ((o,some (.tv e m t xs)) :: ol):=by
 subst hN;funext i;show _=if i=o then some (Ob.vec e t.size xs.length (tvC m t xs)) else Ah ol i
 by_cases hi:i=o
 ·subst hi; rw [Aw,if_pos rfl]
 ·rw [Av _ _ _ _ hi,if_neg hi]
theorem Zt {G:World->Prop} {tl:List (Nat×AV)} {ol:List (Oid×Option Ob)} {g:Nat} (o:Oid) (e:TypeId) (m:Option (Nat->Prop)) (t:Ty) {n sz:Nat} {zc:List AV} (h:Ah ol o=some (.vec e sz n (Oz n zc))) (hz:t.zav=zc) (hs:t.size=sz):WeakG G ⟨Al tl,Ah ol,g⟩ ⟨Al tl,Ah ((o,some (.tv e m t (List.replicate n t.dflt))) :: ol),g⟩:=by
 subst hz hs;rw [← Adz (N:=n) (by simp)];exact Y0 o h fun σ im w vs hv=>Vm m t n vs hv
theorem M5 {m:Option (Nat->Prop)} {t:Ty}:∀ {xs:List t.D} {j:Nat} {z:t.D},xs[j]? =some z->tvC m t xs=tvC m t (xs.take j)++(t.avM m z++tvC m t (xs.drop (j+1)))
 | [],_,_,h=>by simp at h
 | y :: r,0,z,h=>by obtain rfl:=osj h; rfl
 | y :: r,j+1,z,h=>by
  have ih:=M5 (m:=m) (xs:=r) (j:=j) (z:=z) (by simpa using h);have e:tvC m t (y :: r)=t.avM m y++tvC m t r:=rfl;have e2:tvC m t ((y :: r).take (j+1))=t.avM m y++tvC m t (r.take j):=rfl;rw [e,e2,ih,List.append_assoc]; rfl
theorem Ab8 {m:Option (Nat->Prop)} {t:Ty} {xs:List t.D} {j:Nat} {z:t.D} (h:j<xs.length):tvC m t (xs.set j z)=tvC m t (xs.take j)++(t.avM m z++tvC m t (xs.drop (j+1))):=by
 rw [M5 (xs:=xs.set j z) (j:=j) (z:=z) (by rw [List.getElem?_set_self h]),List.take_set_of_le (Nat.le_refl _),List.drop_set_of_lt (by omega)]
section
variable {n:Nat} {d:Option Nat} {f:Nat->AV} {ob:Oid->Option Ob}
theorem Zq {e:TypeId} {t:Ty} {b:Nat} {zc:List AV} {x y:Opd} {k k':IntKind} {m c:Int} {j:Nat} (hx:x.ev f=.int k m) (hy:y.ev f=.int k' c) (hz:t.size=zc.length) (h:0<=m∧m<=c∧c<=1073741824∧(b:Int)*c<=140737488355328) (hj:m.toNat=j) :
  Bh n ⟨d,none,.makeV e t b zc x y⟩ f ob=some (1,.own ((d.getD 0,0),n) t 0 j,[(((d.getD 0,0),n),some (.vec e zc.length j (Oz j zc)))]):=by
 subst hj;simp only [Bh,ev,Lm,hx,hy];rw [if_pos ⟨hz,h⟩]
theorem Ael {one:Bool} {k m1:Nat} {x y:Opd} {o:Oid} {e1:TypeId} {t:Ty} {N j:Nat} {m:Option (Nat->Prop)} {xs:List t.D} {z z1:t.D} (hx:x.ev f=.elt o j k) (hob:ob o=some (.vec e1 t.size N (tvC m t xs))) (hz:xs[j]? =some z) (hc:E6 one m1 k (t.avM m z) (y.ev f)=some (t.avM m z1)) :
  Bh n ⟨d,none,.st one m1 x y⟩ f ob=some (2,.any,[(o,none),(o,some (.vec e1 t.size N (tvC m t (xs.set j z1))))]):=by
 have hj:=(gSi.1 hz).1;have hl:(tvC m t (xs.take j)).length=j*t.size:=by rw [Yh,List.length_take,Nat.min_eq_left (by omega)]
 have e:E6 one m1 (j*t.size+k) (tvC m t xs) (y.ev f)=some (tvC m t (xs.set j z1)):=by
  rw [Ab8 hj,M5 hz];have hz0:=C0 m t z;generalize tvC m t (xs.take j)=A at hl ⊢;generalize tvC m t (xs.drop (j+1))=B;generalize t.avM m z=C at hc hz0 ⊢;generalize t.avM m z1=D at hc ⊢;generalize y.ev f=v at hc ⊢;rw [← hl];unfold E6 at hc ⊢;cases one with
  | true =>
   rw [if_pos rfl] at hc ⊢;split at hc
   ·rename_i hk;obtain rfl:=osj hc;rw [if_pos ⟨by simp; omega,hk.2⟩,List.set_append,if_neg (by omega),Nat.add_sub_cancel_left,List.set_append,if_pos hk.1]
   ·cases hc
  | false =>
   rw [if_neg (by simp)] at hc ⊢;split at hc
   ·rename_i ds;split at hc
    ·rename_i hk;obtain rfl:=osj hc;rw [if_pos ⟨hk.1,by simp; omega,hk.2.2⟩];congr 1;rw [List.take_append,List.take_of_length_le (by omega),Nat.add_sub_cancel_left,List.take_append_of_le_length (by omega),Nat.add_assoc,← List.drop_drop,List.drop_left' rfl,List.drop_append_of_le_length (by omega)];simp only [List.append_assoc]
    ·cases hc
   ·cases hc
 simp only [Bh,ev,Ul,hx,hob,e,Option.map_some]
end
end
section
open Go.RowKit Go.Deep
end
section
open Go.RowKit Go.Deep
section
variable {n:Nat} {d:Option Nat} {f:Nat->AV} {ob:Oid->Option Ob}
end
end
section
open Go.RowKit Go.Deep
set_option maxRecDepth 4000
def Kg:AC :=
 (.seq (rg [xo 2 (.i (.box 63 (tm 0))),xo 4 (qm (ci 0))])
 (.seq (rg [xf 5 2 2,xl 6 5,xm 7 1,xo 8 (qc 16 [tm 6,tm 7] [[some .int],[]]),xm 1 8])
 (.seq (.seq (rg [xm 9 1,xo 10 (qb .lss (tm 9) (ci 0))])
 (.cond (tm 10)
  (.seq (rg [xo 4 (qm (ci (-1)))])
  .ret)
  .skip))
 (.seq (rg [xf 11 3 2,xl 12 11,xm 13 1,xo 14 (qc 16 [tm 12,tm 13] [[some .int],[]]),xm 1 14])
 (.seq (.seq (rg [xm 15 1,xo 16 (qb .lss (tm 15) (ci 0))])
 (.cond (tm 16)
  (.seq (rg [xo 4 (qm (ci (-1)))])
  .ret)
  .skip))
 (.seq (rg [xm 17 1,xm 4 17])
 .ret))))))
def Re:List Res:=[.tmp 4]
theorem Rg:Ap Tryd.prog Tryd.f32=some (Kg,Re):=by kernel_rfl
def D8 (u2 u3:Int) (u0 u1:List Int) (a1:Int):Option Int :=
 (Cc u0 a1).bind fun y3 =>
cond (decide (y3<0))
 (some (-1))
 ((Cc u1 y3).bind fun y9 =>
 cond (decide (y9<0))
  (some (-1))
  (some y9))
def Pe (r:Int):RV:=⟨false,[(false,[.sc (.int .i64 r)])]⟩
theorem Q3 {u2 u3:Int} {u0 u1:List Int} {a1 r:Int} (h:D8 u2 u3 u0 u1 a1=some r):Ay Tryd.prog Tab 32 [.agg [ai u2,ai u3,tI u0,tI u1],ai a1] (Pe r):=by
 refine A0 (by kernel_rfl) Tryd.func32 Rg (n:=18) (by kernel_rfl) (by simp) rfl ?_;unfold Kg;unfold D8 at h;refine Am (Ab ?_);obtain ⟨y3,h3,h⟩:=Ag h;refine Aa 8 (rsT 3 (zc (ai y3) [] [tI u0,ai a1] (Et h3) (rsT 1 (As (tn_ (wr_ (Ab (Am ?_))))))));rcases Ad h with ⟨q6,h⟩ | ⟨q6,h⟩
 ·have q6_:=of_decide_eq_true q6;refine Af q6 (Am (Ai (tr_ ?_)));obtain rfl:=zj h;exact A7 [ai (-1)] (At rfl zl Ax)
 have q6_:=of_decide_eq_false q6;refine Ae q6 (Aj (tn_ (wr_ (Ab ?_))));obtain ⟨y9,h9,h⟩:=Ag h;refine Aa 15 (rsT 3 (zc (ai y9) [] [tI u1,ai y3] (Et h9) (rsT 1 (As (tn_ (wr_ (Ab (Am ?_))))))));rcases Ad h with ⟨q12,h⟩ | ⟨q12,h⟩
 ·have q12_:=of_decide_eq_true q12;refine Af q12 (Am (Ai (tr_ ?_)));obtain rfl:=zj h;exact A7 [ai (-1)] (At rfl zl Ax)
 have q12_:=of_decide_eq_false q12;refine Ae q12 (Aj (tn_ (wr_ (Am (Ai ?_)))));obtain rfl:=zj h;exact A7 [ai y9] (At rfl zl Ax)
def Gx:AC :=
 (.seq (.seq (rg [xm 12 5,xm 13 0,xn1 14 13,xs1 15 12 14])
 (.cond (tm 15)
  .skip
  (.exit 0)))
 (.seq (.block 1 (.seq (rg [xm 18 0,xm 19 5,xx 20 4 18 19,xo 21 (.i (.ld false 4 (tm 20))),xm 22 1,xo 23 (qc 32 [tm 21,tm 22] [[none,none,some .int,some .int],[]]),xm 1 23])
 (.seq (rg [xm 24 1,xo 25 (qb .lss (tm 24) (ci 0))])
 (.cond (tm 25)
  (.seq (rg [xo 4 (qm (ci (-1)))])
  .ret)
  .skip))))
 (rg [xm 16 5,xa 17 16,xm 5 17])))
def Is:AC :=
 (.seq (rg [xo 4 (qm (ci 0))])
 (.seq (rg [xm 6 1,xm 7 0,xn1 8 7,xo 9 (qb .sub (tm 6) (tm 8)),xm 1 9])
 (.seq (.seq (rg [xm 10 1,xo 11 (qb .lss (tm 10) (ci 0))])
 (.cond (tm 11)
  (.seq (rg [xo 4 (qm (ci (-1)))])
  .ret)
  .skip))
 (.seq (.seq (rg [xo 5 (qm (ci 0))])
 (.block 0 (.loop Gx)))
 (.seq (rg [xm 26 1,xm 4 26])
 .ret)))))
def O3:List Res:=[.tmp 4]
theorem Pf:Ap Tryd.prog Tryd.f15=some (Is,O3):=by kernel_rfl
def Ct (a0:List (Int×Int×(List Int)×List Int)) (u1:Int) (u0:Nat):Option (Ctl (Int×Nat) (Ctl Int Int)) :=
 cond (decide ((u0:Int)<(a0.length:Int)))
 ((a0[u0]?).bind fun x15 =>
 (D8 x15.1 x15.2.1 x15.2.2.1 x15.2.2.2 u1).bind fun y16 =>
 cond (decide (y16<0))
  (some (Ctl.out (Ctl.out (-1))))
  (og (u0+1<4611686018427387904) <|
  some (Ctl.next (y16,u0+1))))
 (some (Ctl.out (Ctl.next u1)))
def Dq (a0:List (Int×Int×(List Int)×List Int)) (a1:Int):Option Int :=
 cond (decide (wI (a1 - (a0.length:Int))<0))
 (some (-1))
 (Qb (A9 (fun s_:Int×Nat=>Ct a0 s_.1 s_.2) 4611686018427387904 (wI (a1 - (a0.length:Int)),0)) fun u0 =>
 some u0)
def Nw (r:Int):RV:=⟨false,[(false,[.sc (.int .i64 r)])]⟩
theorem N5 {a0:List (Int×Int×(List Int)×List Int)} {a1 r:Int} (h:Dq a0 a1=some r):Ay Tryd.prog Tab 15 [.tree (.pair .int (.pair .int (.pair sI sI))) a0,ai a1] (Nw r):=by
 refine A0 (by kernel_rfl) Tryd.func15 Pf (n:=27) (by kernel_rfl) (by simp) rfl ?_;unfold Is;unfold Dq at h;refine Am (Am (Ab (Am ?_)));rcases Ad h with ⟨q5,h⟩ | ⟨q5,h⟩
 ·have q5_:=of_decide_eq_true q5;refine Af q5 (Am (Ai (tr_ ?_)));obtain rfl:=zj h;exact A7 [ai (-1)] (At rfl zl Ax)
 have q5_:=of_decide_eq_false q5;refine Ae q5 (Aj (tn_ (wr_ (Gc h (fun (u2:Int) S_=>S_=⟨Al [(1,ai u2)],Ah (Aq []),2⟩) ?_ ?_))))
 ·intro v_ h hk7;refine Am (An (Bb h (fun t_ S_=>∃ (u1:Int),∃ (u0:Nat),t_=(u1,u0)∧S_=⟨Al [(0,.tree (.pair .int (.pair .int (.pair sI sI))) a0),(1,ai u1),(5,an u0)],Ah (Aq []),2⟩) ⟨_,Ac [],⟨wI (a1 - (a0.length:Int)),0,rfl,rfl⟩⟩ ?_));rintro n_ _ _ c_ ⟨u1,u0,rfl,rfl⟩ h hn9
  (try dsimp only at h);unfold Ct at h;unfold Gx;refine Ab (Am ?_);rcases Ad h with ⟨q12,h⟩ | ⟨q12,h⟩
  ·have q12_:=of_decide_eq_true q12;refine Af q12 (Aj (tn_ (wr_ (Ab (An (Ab ?_))))));obtain ⟨x15,e15,h⟩:=Ag h;obtain ⟨y16,h16,h⟩:=Ag h;refine Aa 13 (rsT 2 (rs0 (.telt none (.pair .int (.pair .int (.pair sI sI))) x15 0) (zi (t:=.pair .int (.pair .int (.pair sI sI))) (xs:=a0) (k:=.i64) (m:=(u0:Int)) (F3 _) e15) (rsT 2 (zc (ai y16) [] [.agg [ai x15.1,ai x15.2.1,tI x15.2.2.1,tI x15.2.2.2],ai u1] (Q3 h16) (rsT 1 (As (tn_ (wr_ (Am ?_)))))))));rcases Ad h with ⟨q18,h⟩ | ⟨q18,h⟩
   ·have q18_:=of_decide_eq_true q18;refine Af q18 (Am (Ai (br_ (tr_ (tr_ (br_ (tr_ ?_)))))));obtain rfl:=zj h;have h:=hn9
    (try dsimp only at h);obtain rfl:=zj h;have h:=hk7
    (try dsimp only at h);obtain rfl:=zj h;exact A7 [ai (-1)] (At rfl zl Ax)
   have q18_:=of_decide_eq_false q18;refine Ae q18 (Aj (bn_ (tn_ (wr_ ?_))));obtain ⟨g20,h⟩:=Au h;refine Aa 18 (rsT 1 (zA g20 (rsT 1 (As (tn_ ?_)))));obtain rfl:=zj h;exact ⟨(y16,u0+1),_,Ac [],⟨y16,u0+1,rfl,rfl⟩,hn9⟩
  have q12_:=of_decide_eq_false q12;refine Ae q12 (A8 (te_ (te_ (be_ (tn_ ?_)))));obtain rfl:=zj h;have h:=hn9
  (try dsimp only at h);obtain rfl:=zj h;exact ⟨u1,_,rfl,Ac [],rfl⟩
 rintro u2 _ rfl h
 (try dsimp only at h);refine Am (Ai ?_);obtain rfl:=zj h;exact A7 [ai u2] (At rfl zl Ax)
def I0:AC :=
 (.seq (rg [xo 2 (.i (.box 25 (tm 0))),xo 4 (qm (ci 0))])
 (.seq (rg [xf 5 1 2,xl 6 5,xm 7 1,⟨some 8,none,qc 15 [tm 6,tm 7] [[some (.pair .int (.pair .int (.pair sI sI)))],[]]⟩,xm 1 8])
 (.seq (.seq (rg [xm 9 1,xo 10 (qb .lss (tm 9) (ci 0))])
 (.cond (tm 10)
  (.seq (rg [xo 4 (qm (ci (-1)))])
  .ret)
  .skip))
 (.seq (rg [xf 11 2 2,xl 12 11,xm 13 1,xo 14 (qc 16 [tm 12,tm 13] [[some .int],[]]),xm 1 14])
 (.seq (.seq (rg [xm 15 1,xo 16 (qb .lss (tm 15) (ci 0))])
 (.cond (tm 16)
  (.seq (rg [xo 4 (qm (ci (-1)))])
  .ret)
  .skip))
 (.seq (rg [xf 17 3 2,xl 18 17,xm 19 1,xo 20 (qc 16 [tm 18,tm 19] [[some .int],[]]),xm 1 20])
 (.seq (.seq (rg [xm 21 1,xo 22 (qb .lss (tm 21) (ci 0))])
 (.cond (tm 22)
  (.seq (rg [xo 4 (qm (ci (-1)))])
  .ret)
  .skip))
 (.seq (rg [xm 23 1,xm 4 23])
 .ret))))))))
def P0:List Res:=[.tmp 4]
theorem Qi:Ap Tryd.prog Tryd.f5=some (I0,P0):=by kernel_rfl
def Du (u3:Int) (u0:List (Int×Int×(List Int)×List Int)) (u1 u2:List Int) (a1:Int):Option Int :=
 (Dq u0 a1).bind fun y3 =>
cond (decide (y3<0))
 (some (-1))
 ((Cc u1 y3).bind fun y9 =>
 cond (decide (y9<0))
  (some (-1))
  ((Cc u2 y9).bind fun y15 =>
  cond (decide (y15<0))
   (some (-1))
   (some y15)))
def N4 (r:Int):RV:=⟨false,[(false,[.sc (.int .i64 r)])]⟩
theorem N3 {u3:Int} {u0:List (Int×Int×(List Int)×List Int)} {u1 u2:List Int} {a1 r:Int} (h:Du u3 u0 u1 u2 a1=some r):Ay Tryd.prog Tab 5 [.agg [ai u3,.tree (.pair .int (.pair .int (.pair sI sI))) u0,tI u1,tI u2],ai a1] (N4 r):=by
 refine A0 (by kernel_rfl) Tryd.func5 Qi (n:=24) (by kernel_rfl) (by simp) rfl ?_;unfold I0;unfold Du at h;refine Am (Ab ?_);obtain ⟨y3,h3,h⟩:=Ag h;refine Aa 8 (rsT 3 (zc (ai y3) [] [.tree (.pair .int (.pair .int (.pair sI sI))) u0,ai a1] (N5 h3) (rsT 1 (As (tn_ (wr_ (Ab (Am ?_))))))));rcases Ad h with ⟨q6,h⟩ | ⟨q6,h⟩
 ·have q6_:=of_decide_eq_true q6;refine Af q6 (Am (Ai (tr_ ?_)));obtain rfl:=zj h;exact A7 [ai (-1)] (At rfl zl Ax)
 have q6_:=of_decide_eq_false q6;refine Ae q6 (Aj (tn_ (wr_ (Ab ?_))));obtain ⟨y9,h9,h⟩:=Ag h;refine Aa 15 (rsT 3 (zc (ai y9) [] [tI u1,ai y3] (Et h9) (rsT 1 (As (tn_ (wr_ (Ab (Am ?_))))))));rcases Ad h with ⟨q12,h⟩ | ⟨q12,h⟩
 ·have q12_:=of_decide_eq_true q12;refine Af q12 (Am (Ai (tr_ ?_)));obtain rfl:=zj h;exact A7 [ai (-1)] (At rfl zl Ax)
 have q12_:=of_decide_eq_false q12;refine Ae q12 (Aj (tn_ (wr_ (Ab ?_))));obtain ⟨y15,h15,h⟩:=Ag h;refine Aa 22 (rsT 3 (zc (ai y15) [] [tI u2,ai y9] (Et h15) (rsT 1 (As (tn_ (wr_ (Ab (Am ?_))))))));rcases Ad h with ⟨q18,h⟩ | ⟨q18,h⟩
 ·have q18_:=of_decide_eq_true q18;refine Af q18 (Am (Ai (tr_ ?_)));obtain rfl:=zj h;exact A7 [ai (-1)] (At rfl zl Ax)
 have q18_:=of_decide_eq_false q18;refine Ae q18 (Aj (tn_ (wr_ (Am (Ai ?_)))));obtain rfl:=zj h;exact A7 [ai y15] (At rfl zl Ax)
def J6:AC :=
 (.seq (rg [xo 1 (.i (.box 63 (tm 0))),xo 2 (.i (.alloc 66 [.int .i64 0,.int .i64 0,.nils,.nils]))])
 (.seq (rg [xo 3 (.i (.alloc 66 [.int .i64 0,.int .i64 0,.nils,.nils]))])
 (.seq (rg [xf 4 0 1,xl 5 4,xf 6 0 3,xn (qs (tm 6) (tm 5))])
 (.seq (rg [xf 7 1 1,xl 8 7,xf 9 1 3,xn (qs (tm 9) (tm 8))])
 (.seq (rg [xf 10 2 1,xl 11 10,xo 12 (qc 20 [tm 11] [[some .int]]),xf 13 2 3,xn (qs (tm 13) (tm 12))])
 (.seq (rg [xf 14 3 1,xl 15 14,xo 16 (qc 20 [tm 15] [[some .int]]),xf 17 3 3,xn (qs (tm 17) (tm 16))])
 (.seq (rg [xo 18 (.i (.ld false 4 (tm 3))),xn (.st false 4 (tm 2) (tm 18))])
 .ret)))))))
def Rk:List Res:=[.cell 2 false 4]
theorem R2:Ap Tryd.prog Tryd.f41=some (J6,Rk):=by kernel_rfl
def D6 (u0 u1:Int) (u2 u3:List Int):Option (Int×Int×List Int×List Int) :=
 (B9 u2).bind fun y6 =>
(B9 u3).bind fun y8 =>
some (u0,u1,y6,y8)
def O7 (r:Int×Int×List Int×List Int):RV:=⟨false,[(true,[.sc (.int .i64 r.1),.sc (.int .i64 r.2.1),.frz (tI r.2.2.1),.frz (tI r.2.2.2)])]⟩
theorem Qw {u0 u1:Int} {u2 u3:List Int} {r:Int×Int×List Int×List Int} (h:D6 u0 u1 u2 u3=some r):Ay Tryd.prog Tab 41 [.agg [ai u0,ai u1,tI u2,tI u3]] (O7 r):=by
 refine Ov (by kernel_rfl) Tryd.func41 R2 (n:=19) (by kernel_rfl) (by simp) (tl:=[(0,.agg [ai u0,ai u1,tI u2,tI u3])]) rfl fun zn_ nz_ hz_=>?_
 unfold J6;unfold D6 at h;refine Am (Am (Am (Am (Ab ?_))));obtain ⟨y6,h6,h⟩:=Ag h;refine Aa 17 (rsT 2 (zc (oI 192 14 y6.length) [nI 192 14 y6] [tI u2] (Xz (Ep h6)) (rsB 2 (As (tn_ (wr_ (Ab ?_)))))));obtain ⟨y8,h8,h⟩:=Ag h;refine Aa 22 (rsT 2 (zc (oI 256 19 y8.length) [nI 256 19 y8] [tI u3] (Xz (Ep h8)) (rsB 2 (As (tn_ (wr_ (Am (Ai ?_))))))));obtain rfl:=zj h;exact Abz [(true,[ai u0,ai u1,oI 192 14 y6.length,oI 256 19 y8.length])] (Zp (Gv Zl (Gv Zl (Gv (Mo (.arr (e:=3) (by kernel_rfl) rfl)) (Gv (Mo (.arr (e:=3) (by kernel_rfl) rfl)) Zy)))) Wr)
def Gk:AC :=
 (.seq (.seq (rg [xm 8 4,xm 9 0,xn1 10 9,xs1 11 8 10])
 (.cond (tm 11)
  .skip
  (.exit 0)))
 (.seq (.block 1 (rg [xm 14 3,xm 15 4,xm 16 0,xm 17 4,xx 18 4 16 17,xo 19 (.i (.ld false 4 (tm 18))),xo 20 (qc 41 [tm 19] [[none,none,some .int,some .int]]),xx 21 4 14 15,xn (.st false 4 (tm 21) (tm 20))]))
 (rg [xm 12 4,xa 13 12,xm 4 13])))
def I7:AC :=
 (.seq (rg [xo 2 (qm (.cst .nils))])
 (.seq (rg [xm 5 0,xn1 6 5,⟨some 7,none,.makeV 66 (.pair .int (.pair .int (.pair sI sI))) 64 [.int .i64 0,.int .i64 0,.nils,.nils] (tm 6) (tm 6)⟩,xm 3 7])
 (.seq (.seq (rg [xo 4 (qm (ci 0))])
 (.block 0 (.loop Gk)))
 (.seq (rg [xm 22 3,xm 2 22])
 .ret))))
def Ot:List Res:=[.tmp 2]
theorem Ph:Ap Tryd.prog Tryd.f19=some (I7,Ot):=by kernel_rfl
def Cq (a0:List (Int×Int×(List Int)×List Int)) (u0:Nat) (u1:List (Int×Int×(List Int)×List Int)):Option (Ctl (Nat×(List (Int×Int×(List Int)×List Int))) (List (Int×Int×(List Int)×List Int))) :=
 cond (decide ((u0:Int)<(a0.length:Int)))
 ((a0[u0]?).bind fun x11 =>
 (D6 x11.1 x11.2.1 x11.2.2.1 x11.2.2.2).bind fun y12 =>
 (u1[u0]?).bind fun x13 =>
 og (u0+1<4611686018427387904) <|
 some (Ctl.next (u0+1,u1.set u0 y12)))
 (some (Ctl.out u1))
def Di (a0:List (Int×Int×(List Int)×List Int)):Option (List (Int×Int×(List Int)×List Int)) :=
 og (0<=(a0.length:Int)∧(a0.length:Int)<=(a0.length:Int)∧(a0.length:Int)<=1073741824∧(64:Int)*(a0.length:Int)<=140737488355328) <|
(A9 (fun s_:Nat×(List (Int×Int×(List Int)×List Int))=>Cq a0 s_.1 s_.2) 4611686018427387904 (0,List.replicate a0.length (Ty.dflt (.pair .int (.pair .int (.pair sI sI)))))).bind fun u0 =>
some u0
def N2 (r:List (Int×Int×(List Int)×List Int)):RV:=⟨false,[(false,[.frz (.tree (.pair .int (.pair .int (.pair sI sI))) r)])]⟩
theorem N7 {a0:List (Int×Int×(List Int)×List Int)} {r:List (Int×Int×(List Int)×List Int)} (h:Di a0=some r):Ay Tryd.prog Tab 19 [.tree (.pair .int (.pair .int (.pair sI sI))) a0] (N2 r):=by
 refine Ov (by kernel_rfl) Tryd.func19 Ph (n:=23) (by kernel_rfl) (by simp) (tl:=[(0,.tree (.pair .int (.pair .int (.pair sI sI))) a0)]) rfl fun zn_ nz_ hz_=>?_
 unfold I7;unfold Di at h;refine Am (Ab ?_);obtain ⟨g3,h⟩:=Au h;refine Aa 6 (rsT 2 (rs1 (.own (oi 7 4) (.pair .int (.pair .int (.pair sI sI))) 0 a0.length) (oi 7 4) (.vec 66 4 a0.length (Oz a0.length [ai 0,ai 0,.nils,.nils])) (Zq (t:=.pair .int (.pair .int (.pair sI sI))) (k:=.i64) (k':=.i64) (m:=(a0.length:Int)) (c:=(a0.length:Int)) (j:=a0.length) (by kernel_rfl) (by kernel_rfl) (by kernel_rfl) g3 rfl) (rsT 1 (As (tn_ ⟨_,Zt (n:=a0.length) (sz:=4) (zc:=[ai 0,ai 0,.nils,.nils]) (oi 7 4) 66 (some nz_) (.pair .int (.pair .int (.pair sI sI))) (by kernel_rfl) (by kernel_rfl) (by kernel_rfl),A3 h (fun (u2:List (Int×Int×(List Int)×List Int)) S_=>S_=⟨Al [(3,.own (oi 0 1) (.pair .int (.pair .int (.pair sI sI))) 0 u2.length)],Ah (Aq [(oi 0 1,.tv 66 (some nz_) (.pair .int (.pair .int (.pair sI sI))) u2)]),2⟩) ?_ ?_⟩)))))
 ·intro v_ h;refine Am (An (Bb h (fun t_ S_=>∃ (u1:Nat),∃ (u0:List (Int×Int×(List Int)×List Int)),t_=(u1,u0)∧S_=⟨Al [(0,.tree (.pair .int (.pair .int (.pair sI sI))) a0),(3,.own (oi 0 1) (.pair .int (.pair .int (.pair sI sI))) 0 u0.length),(4,an u1)],Ah (Aq [(oi 0 1,.tv 66 (some nz_) (.pair .int (.pair .int (.pair sI sI))) u0)]),2⟩) ⟨_,(D7 3 (.own (oi 7 4) (.pair .int (.pair .int (.pair sI sI))) 0 a0.length) (.own (oi 7 4) (.pair .int (.pair .int (.pair sI sI))) 0 ((List.replicate a0.length (Ty.dflt (.pair .int (.pair .int (.pair sI sI))))).length)) (by kernel_rfl) (congrArg (fun z_=>((.own (oi 7 4) (.pair .int (.pair .int (.pair sI sI))) 0 z_):AV)) (List.length_replicate.symm:a0.length=(List.replicate a0.length (Ty.dflt (.pair .int (.pair .int (.pair sI sI))))).length))).trans (Ac [(oi 0 1,oi 7 4)]),⟨0,List.replicate a0.length (Ty.dflt (.pair .int (.pair .int (.pair sI sI)))),rfl,rfl⟩⟩ ?_));rintro n_ _ _ c_ ⟨u1,u0,rfl,rfl⟩ h hn6
  (try dsimp only at h);unfold Cq at h;unfold Gk;refine Ab (Am ?_);rcases Ad h with ⟨q9,h⟩ | ⟨q9,h⟩
  ·have q9_:=of_decide_eq_true q9;refine Af q9 (Aj (tn_ (wr_ (Ab (An ?_)))));obtain ⟨x11,e11,h⟩:=Ag h;obtain ⟨y12,h12,h⟩:=Ag h;obtain ⟨x13,e13,h⟩:=Ag h;refine Aa 15 (rsT 4 (rs0 (.telt none (.pair .int (.pair .int (.pair sI sI))) x11 0) (zi (t:=.pair .int (.pair .int (.pair sI sI))) (xs:=a0) (k:=.i64) (m:=(u1:Int)) (F3 _) e11) (rsT 1 (zc (.agg [ai y12.1,ai y12.2.1,.ftr nz_ .int y12.2.2.1,.ftr nz_ .int y12.2.2.2]) [] [.agg [ai x11.1,ai x11.2.1,tI x11.2.2.1,tI x11.2.2.2]] (Add hz_ (Qw h12)) (rs0 (.elt (oi 0 1) u1 0) (zo (t:=.pair .int (.pair .int (.pair sI sI))) (o:=oi 0 1) (len:=u0.length) (k:=.i64) (m:=(u1:Int)) (F3 _) (Bj e13)) (Ad6 (oi 0 1) (oi 0 1) (.vec 66 4 u0.length (tvC (some nz_) (.pair .int (.pair .int (.pair sI sI))) (u0.set u1 y12))) (Ael (k:=0) (j:=u1) (N:=u0.length) (o:=oi 0 1) (e1:=66) (t:=.pair .int (.pair .int (.pair sI sI))) (m:=some nz_) (xs:=u0) (z:=x13) (z1:=y12) (by kernel_rfl) (by kernel_rfl) e13 (by kernel_rfl)) (As (bn_ (tn_ ⟨_,Z7 (N:=u0.length) (oi 0 1) 66 (some nz_) (.pair .int (.pair .int (.pair sI sI))) (u0.set u1 y12) (by kernel_rfl) (Eq.trans (b:=u0.length) rfl List.length_set.symm),?_⟩)))))))));obtain ⟨g14,h⟩:=Au h;refine Aa 18 (rsT 1 (zA g14 (rsT 1 (As (tn_ ?_)))));obtain rfl:=zj h;exact ⟨(u1+1,u0.set u1 y12),_,(D7 3 (.own (oi 0 1) (.pair .int (.pair .int (.pair sI sI))) 0 u0.length) (.own (oi 0 1) (.pair .int (.pair .int (.pair sI sI))) 0 ((u0.set u1 y12).length)) (by kernel_rfl) (congrArg (fun z_=>((.own (oi 0 1) (.pair .int (.pair .int (.pair sI sI))) 0 z_):AV)) ((Eq.trans (b:=u0.length) rfl List.length_set.symm):u0.length=(u0.set u1 y12).length))).trans (Ac []),⟨u1+1,u0.set u1 y12,rfl,rfl⟩,hn6⟩
  have q9_:=of_decide_eq_false q9;refine Ae q9 (A8 (te_ (te_ (be_ (tn_ ?_)))));obtain rfl:=zj h;have h:=hn6
  (try dsimp only at h);obtain rfl:=zj h;exact ⟨_,Ac [],rfl⟩
 rintro u2 _ rfl h
 (try dsimp only at h);refine Am (Ai ?_);obtain rfl:=zj h;exact Abz [(false,[.own (oi 0 1) (.pair .int (.pair .int (.pair sI sI))) 0 u2.length])] (Ady (Mo (.tv (e:=66) (by kernel_rfl) rfl)) Wr)
def Im:AC :=
 (.seq (rg [xo 1 (.i (.box 25 (tm 0))),xo 2 (.i (.alloc 31 [.int .i64 0,.nils,.nils,.nils]))])
 (.seq (rg [xo 3 (.i (.alloc 31 [.int .i64 0,.nils,.nils,.nils]))])
 (.seq (rg [xf 4 0 1,xl 5 4,xf 6 0 3,xn (qs (tm 6) (tm 5))])
 (.seq (rg [xf 7 1 1,xl 8 7,⟨some 9,none,qc 19 [tm 8] [[some (.pair .int (.pair .int (.pair sI sI)))]]⟩,xf 10 1 3,xn (qs (tm 10) (tm 9))])
 (.seq (rg [xf 11 2 1,xl 12 11,xo 13 (qc 20 [tm 12] [[some .int]]),xf 14 2 3,xn (qs (tm 14) (tm 13))])
 (.seq (rg [xf 15 3 1,xl 16 15,xo 17 (qc 20 [tm 16] [[some .int]]),xf 18 3 3,xn (qs (tm 18) (tm 17))])
 (.seq (rg [xo 19 (.i (.ld false 4 (tm 3))),xn (.st false 4 (tm 2) (tm 19))])
 .ret)))))))
def Qh:List Res:=[.cell 2 false 4]
theorem Qe:Ap Tryd.prog Tryd.f7=some (Im,Qh):=by kernel_rfl
def Ci (u0:Int) (u1:List (Int×Int×(List Int)×List Int)) (u2 u3:List Int):Option (Int×(List (Int×Int×(List Int)×List Int))×List Int×List Int) :=
 (Di u1).bind fun y5 =>
(B9 u2).bind fun y7 =>
(B9 u3).bind fun y9 =>
some (u0,y5,y7,y9)
def Nz (r:Int×(List (Int×Int×(List Int)×List Int))×List Int×List Int):RV:=⟨false,[(true,[.sc (.int .i64 r.1),.frz (.tree (.pair .int (.pair .int (.pair sI sI))) r.2.1),.frz (tI r.2.2.1),.frz (tI r.2.2.2)])]⟩
theorem Fp {u0:Int} {u1:List (Int×Int×(List Int)×List Int)} {u2 u3:List Int} {r:Int×(List (Int×Int×(List Int)×List Int))×List Int×List Int} (h:Ci u0 u1 u2 u3=some r):Ay Tryd.prog Tab 7 [.agg [ai u0,.tree (.pair .int (.pair .int (.pair sI sI))) u1,tI u2,tI u3]] (Nz r):=by
 refine Ov (by kernel_rfl) Tryd.func7 Qe (n:=20) (by kernel_rfl) (by simp) (tl:=[(0,.agg [ai u0,.tree (.pair .int (.pair .int (.pair sI sI))) u1,tI u2,tI u3])]) rfl fun zn_ nz_ hz_=>?_
 unfold Im;unfold Ci at h;refine Am (Am (Am (Ab ?_)));obtain ⟨y5,h5,h⟩:=Ag h;refine Aa 13 (rsT 2 (zc (.ftr nz_ (.pair .int (.pair .int (.pair sI sI))) y5) [] [.tree (.pair .int (.pair .int (.pair sI sI))) u1] (Add hz_ (N7 h5)) (rsB 2 (As (tn_ (wr_ (Ab ?_)))))));obtain ⟨y7,h7,h⟩:=Ag h;refine Aa 18 (rsT 2 (zc (oI 208 15 y7.length) [nI 208 15 y7] [tI u2] (Xz (Ep h7)) (rsB 2 (As (tn_ (wr_ (Ab ?_)))))));obtain ⟨y9,h9,h⟩:=Ag h;refine Aa 23 (rsT 2 (zc (oI 272 20 y9.length) [nI 272 20 y9] [tI u3] (Xz (Ep h9)) (rsB 2 (As (tn_ (wr_ (Am (Ai ?_))))))));obtain rfl:=zj h;exact Abz [(true,[ai u0,.ftr nz_ (.pair .int (.pair .int (.pair sI sI))) y5,oI 208 15 y7.length,oI 272 20 y9.length])] (Zp (Gv Zl (Gv (Mo .ftr) (Gv (Mo (.arr (e:=3) (by kernel_rfl) rfl)) (Gv (Mo (.arr (e:=3) (by kernel_rfl) rfl)) Zy)))) Wr)
def Kh:AC :=
 (.seq (rg [xo 2 (.i (.box 66 (tm 0))),xo 3 (.i (.box 66 (tm 1))),xo 4 (qm (cb false))])
 (.seq (.seq (rg [xf 5 0 2,xl 6 5,xf 7 0 3,xl 8 7,xo 9 (qb .neq (tm 6) (tm 8))])
 (.cond (tm 9)
  (.seq (rg [xo 4 (qm (cb false))])
  .ret)
  .skip))
 (.seq (.seq (rg [xf 10 1 2,xl 11 10,xf 12 1 3,xl 13 12,xo 14 (qb .neq (tm 11) (tm 13))])
 (.cond (tm 14)
  (.seq (rg [xo 4 (qm (cb false))])
  .ret)
  .skip))
 (.seq (.seq (rg [xf 15 2 2,xl 16 15,xf 17 2 3,xl 18 17,xo 19 (qc 24 [tm 16,tm 18] [[some .int],[some .int]]),xo 20 (.i (.not (tm 19)))])
 (.cond (tm 20)
  (.seq (rg [xo 4 (qm (cb false))])
  .ret)
  .skip))
 (.seq (.seq (rg [xf 21 3 2,xl 22 21,xf 23 3 3,xl 24 23,xo 25 (qc 24 [tm 22,tm 24] [[some .int],[some .int]]),xo 26 (.i (.not (tm 25)))])
 (.cond (tm 26)
  (.seq (rg [xo 4 (qm (cb false))])
  .ret)
  .skip))
 (.seq (rg [xo 4 (qm (cb true))])
 .ret))))))
def R4:List Res:=[.tmp 4]
theorem Rx:Ap Tryd.prog Tryd.f50=some (Kh,R4):=by kernel_rfl
def Eb (u0 u1:Int) (u2 u3:List Int) (u4 u5:Int) (u6 u7:List Int):Option Bool :=
 cond (u0 !=u4)
 (some false)
 (cond (u1 !=u5)
  (some false)
  ((Ca u2 u6).bind fun y12 =>
  cond (!y12)
   (some false)
   ((Ca u3 u7).bind fun y17 =>
   cond (!y17)
    (some false)
    (some true))))
def Pu (r:Bool):RV:=⟨false,[(false,[.sc (.bool r)])]⟩
theorem Oq {u4 u5:Int} {u0 u1:List Int} {u6 u7:Int} {u2 u3:List Int} {r:Bool} (h:Eb u4 u5 u0 u1 u6 u7 u2 u3=some r):Ay Tryd.prog Tab 50 [.agg [ai u4,ai u5,tI u0,tI u1],.agg [ai u6,ai u7,tI u2,tI u3]] (Pu r):=by
 refine A0 (by kernel_rfl) Tryd.func50 Rx (n:=27) (by kernel_rfl) (by simp) rfl ?_;unfold Kh;unfold Eb at h;refine Am (Ab (Am ?_));rcases Ad h with ⟨q4,h⟩ | ⟨q4,h⟩
 ·refine Af q4 (Am (Ai (tr_ ?_)));obtain rfl:=zj h;exact A7 [.bool false] (At rfl zl Ax)
 refine Ae q4 (Aj (tn_ (wr_ (Ab (Am ?_)))));rcases Ad h with ⟨q8,h⟩ | ⟨q8,h⟩
 ·refine Af q8 (Am (Ai (tr_ ?_)));obtain rfl:=zj h;exact A7 [.bool false] (At rfl zl Ax)
 refine Ae q8 (Aj (tn_ (wr_ (Ab (Ab ?_)))));obtain ⟨y12,h12,h⟩:=Ag h;refine Aa 20 (rsT 4 (zc (.bool y12) [] [tI u0,tI u2] (Ev h12) (rsT 1 (As (tn_ (wr_ ?_))))));rcases Ad h with ⟨q13,h⟩ | ⟨q13,h⟩
 ·refine Af q13 (Am (Ai (tr_ ?_)));obtain rfl:=zj h;exact A7 [.bool false] (At rfl zl Ax)
 refine Ae q13 (Aj (tn_ (wr_ (Ab (Ab ?_)))));obtain ⟨y17,h17,h⟩:=Ag h;refine Aa 26 (rsT 4 (zc (.bool y17) [] [tI u1,tI u3] (Ev h17) (rsT 1 (As (tn_ (wr_ ?_))))));rcases Ad h with ⟨q18,h⟩ | ⟨q18,h⟩
 ·refine Af q18 (Am (Ai (tr_ ?_)));obtain rfl:=zj h;exact A7 [.bool false] (At rfl zl Ax)
 refine Ae q18 (Aj (tn_ (wr_ (Am (Ai ?_)))));obtain rfl:=zj h;exact A7 [.bool true] (At rfl zl Ax)
def Gl:AC :=
 (.seq (.seq (rg [xm 11 5,xm 12 0,xn1 13 12,xs1 14 11 13])
 (.cond (tm 14)
  .skip
  (.exit 0)))
 (.seq (.block 1 (.seq (.region [xm 17 0,xm 18 5,xx 19 4 17 18,xo 20 (.i (.ld false 4 (tm 19))),xm 21 1,xm 22 5,xx 23 4 21 22,xo 24 (.i (.ld false 4 (tm 23))),xo 25 (qc 50 [tm 20,tm 24] [[none,none,some .int,some .int],[none,none,some .int,some .int]]),xo 26 (.i (.not (tm 25)))] true [])
 (.cond (tm 26)
  (.seq (rg [xo 4 (qm (cb false))])
  .ret)
  .skip)))
 (rg [xm 15 5,xa 16 15,xm 5 16])))
def I3:AC :=
 (.seq (rg [xo 4 (qm (cb false))])
 (.seq (.seq (rg [xm 6 0,xn1 7 6,xm 8 1,xn1 9 8,xo 10 (qb .neq (tm 7) (tm 9))])
 (.cond (tm 10)
  (.seq (rg [xo 4 (qm (cb false))])
  .ret)
  .skip))
 (.seq (.seq (rg [xo 5 (qm (ci 0))])
 (.block 0 (.loop Gl)))
 (.seq (rg [xo 4 (qm (cb true))])
 .ret))))
def P2:List Res:=[.tmp 4]
theorem P6:Ap Tryd.prog Tryd.f23=some (I3,P2):=by kernel_rfl
def Cr (a0:List (Int×Int×(List Int)×List Int)) (a1:List (Int×Int×(List Int)×List Int)) (u0:Nat):Option (Ctl Nat (Ctl Unit Bool)) :=
 cond (decide ((u0:Int)<(a0.length:Int)))
 ((a0[u0]?).bind fun x14 =>
 (a1[u0]?).bind fun x15 =>
 (Eb x14.1 x14.2.1 x14.2.2.1 x14.2.2.2 x15.1 x15.2.1 x15.2.2.1 x15.2.2.2).bind fun y16 =>
 cond (!y16)
  (some (Ctl.out (Ctl.out false)))
  (og (u0+1<4611686018427387904) <|
  some (Ctl.next (u0+1))))
 (some (Ctl.out (Ctl.next ())))
def Ds (a0:List (Int×Int×(List Int)×List Int)) (a1:List (Int×Int×(List Int)×List Int)):Option Bool :=
 cond ((a0.length:Int) !=(a1.length:Int))
 (some false)
 (Qb (A9 (fun s_:Nat=>Cr a0 a1 s_) 4611686018427387904 0) fun _ =>
 some true)
def Ns (r:Bool):RV:=⟨false,[(false,[.sc (.bool r)])]⟩
theorem Oa {a0:List (Int×Int×(List Int)×List Int)} {a1:List (Int×Int×(List Int)×List Int)} {r:Bool} (h:Ds a0 a1=some r):Ay Tryd.prog Tab 23 [.tree (.pair .int (.pair .int (.pair sI sI))) a0,.tree (.pair .int (.pair .int (.pair sI sI))) a1] (Ns r):=by
 refine A0 (by kernel_rfl) Tryd.func23 P6 (n:=27) (by kernel_rfl) (by simp) rfl ?_;unfold I3;unfold Ds at h;refine Am (Ab (Am ?_));rcases Ad h with ⟨q4,h⟩ | ⟨q4,h⟩
 ·refine Af q4 (Am (Ai (tr_ ?_)));obtain rfl:=zj h;exact A7 [.bool false] (At rfl zl Ax)
 refine Ae q4 (Aj (tn_ (wr_ (Gc h (fun (_:Unit) S_=>S_=⟨Al [],Ah (Aq []),2⟩) ?_ ?_))))
 ·intro v_ h hk6;refine Am (An (Bb h (fun (u0:Nat) S_=>S_=⟨Al [(0,.tree (.pair .int (.pair .int (.pair sI sI))) a0),(1,.tree (.pair .int (.pair .int (.pair sI sI))) a1),(5,an u0)],Ah (Aq []),2⟩) ⟨_,Ac [],rfl⟩ ?_));rintro n_ u0 _ c_ rfl h hn8
  (try dsimp only at h);unfold Cr at h;unfold Gl;refine Ab (Am ?_);rcases Ad h with ⟨q11,h⟩ | ⟨q11,h⟩
  ·have q11_:=of_decide_eq_true q11;refine Af q11 (Aj (tn_ (wr_ (Ab (An (Ab ?_))))));obtain ⟨x14,e14,h⟩:=Ag h;obtain ⟨x15,e15,h⟩:=Ag h;obtain ⟨y16,h16,h⟩:=Ag h;refine Be 16 (dz0 (.tree (.pair .int (.pair .int (.pair sI sI))) a0) (dz0 (an u0) (ds0 (.telt none (.pair .int (.pair .int (.pair sI sI))) x14 0) (zi (t:=.pair .int (.pair .int (.pair sI sI))) (xs:=a0) (k:=.i64) (m:=(u0:Int)) (F3 _) e14) (dz0 (.agg [ai x14.1,ai x14.2.1,tI x14.2.2.1,tI x14.2.2.2]) (dz0 (.tree (.pair .int (.pair .int (.pair sI sI))) a1) (dz0 (an u0) (ds0 (.telt none (.pair .int (.pair .int (.pair sI sI))) x15 0) (zi (t:=.pair .int (.pair .int (.pair sI sI))) (xs:=a1) (k:=.i64) (m:=(u0:Int)) (F3 _) e15) (dz0 (.agg [ai x15.1,ai x15.2.1,tI x15.2.2.1,tI x15.2.2.2]) (dzc (.bool y16) [] [.agg [ai x14.1,ai x14.2.1,tI x14.2.2.1,tI x14.2.2.2],.agg [ai x15.1,ai x15.2.1,tI x15.2.2.1,tI x15.2.2.2]] (Oq h16) (dz0 (.bool (!y16)) (N9 (Cf (by kernel_rfl)) (tn_ (wr_ ?_)))))))))))));rcases Ad h with ⟨q17,h⟩ | ⟨q17,h⟩
   ·refine Af q17 (Am (Ai (br_ (tr_ (tr_ (br_ (tr_ ?_)))))));obtain rfl:=zj h;have h:=hn8
    (try dsimp only at h);obtain rfl:=zj h;have h:=hk6
    (try dsimp only at h);obtain rfl:=zj h;exact A7 [.bool false] (At rfl zl Ax)
   refine Ae q17 (Aj (bn_ (tn_ (wr_ ?_))));obtain ⟨g19,h⟩:=Au h;refine Aa 19 (rsT 1 (zA g19 (rsT 1 (As (tn_ ?_)))));obtain rfl:=zj h;exact ⟨u0+1,_,Ac [],rfl,hn8⟩
  have q11_:=of_decide_eq_false q11;refine Ae q11 (A8 (te_ (te_ (be_ (tn_ ?_)))));obtain rfl:=zj h;have h:=hn8
  (try dsimp only at h);obtain rfl:=zj h;exact ⟨(),_,rfl,Ac [],rfl⟩
 rintro _ _ rfl h
 (try dsimp only at h);refine Am (Ai ?_);obtain rfl:=zj h;exact A7 [.bool true] (At rfl zl Ax)
def Ip:AC :=
 (.seq (rg [xo 2 (.i (.box 31 (tm 0))),xo 3 (.i (.box 31 (tm 1))),xo 4 (qm (cb false))])
 (.seq (.seq (rg [xf 5 0 2,xl 6 5,xf 7 0 3,xl 8 7,xo 9 (qb .neq (tm 6) (tm 8))])
 (.cond (tm 9)
  (.seq (rg [xo 4 (qm (cb false))])
  .ret)
  .skip))
 (.seq (.seq (rg [xf 10 1 2,xl 11 10,xf 12 1 3,xl 13 12,⟨some 14,none,qc 23 [tm 11,tm 13] [[some (.pair .int (.pair .int (.pair sI sI)))],[some (.pair .int (.pair .int (.pair sI sI)))]]⟩,xo 15 (.i (.not (tm 14)))])
 (.cond (tm 15)
  (.seq (rg [xo 4 (qm (cb false))])
  .ret)
  .skip))
 (.seq (.seq (rg [xf 16 2 2,xl 17 16,xf 18 2 3,xl 19 18,xo 20 (qc 24 [tm 17,tm 19] [[some .int],[some .int]]),xo 21 (.i (.not (tm 20)))])
 (.cond (tm 21)
  (.seq (rg [xo 4 (qm (cb false))])
  .ret)
  .skip))
 (.seq (.seq (rg [xf 22 3 2,xl 23 22,xf 24 3 3,xl 25 24,xo 26 (qc 24 [tm 23,tm 25] [[some .int],[some .int]]),xo 27 (.i (.not (tm 26)))])
 (.cond (tm 27)
  (.seq (rg [xo 4 (qm (cb false))])
  .ret)
  .skip))
 (.seq (rg [xo 4 (qm (cb true))])
 .ret))))))
def O8:List Res:=[.tmp 4]
theorem Pt:Ap Tryd.prog Tryd.f9=some (Ip,O8):=by kernel_rfl
def Dk (u0:Int) (u1:List (Int×Int×(List Int)×List Int)) (u2 u3:List Int) (u4:Int) (u5:List (Int×Int×(List Int)×List Int)) (u6 u7:List Int):Option Bool :=
 cond (u0 !=u4)
 (some false)
 ((Ds u1 u5).bind fun y8 =>
 cond (!y8)
  (some false)
  ((Ca u2 u6).bind fun y13 =>
  cond (!y13)
   (some false)
   ((Ca u3 u7).bind fun y18 =>
   cond (!y18)
    (some false)
    (some true))))
def Ny (r:Bool):RV:=⟨false,[(false,[.sc (.bool r)])]⟩
theorem N8 {u6:Int} {u0:List (Int×Int×(List Int)×List Int)} {u1 u2:List Int} {u7:Int} {u3:List (Int×Int×(List Int)×List Int)} {u4 u5:List Int} {r:Bool} (h:Dk u6 u0 u1 u2 u7 u3 u4 u5=some r):Ay Tryd.prog Tab 9 [.agg [ai u6,.tree (.pair .int (.pair .int (.pair sI sI))) u0,tI u1,tI u2],.agg [ai u7,.tree (.pair .int (.pair .int (.pair sI sI))) u3,tI u4,tI u5]] (Ny r):=by
 refine A0 (by kernel_rfl) Tryd.func9 Pt (n:=28) (by kernel_rfl) (by simp) rfl ?_;unfold Ip;unfold Dk at h;refine Am (Ab (Am ?_));rcases Ad h with ⟨q4,h⟩ | ⟨q4,h⟩
 ·refine Af q4 (Am (Ai (tr_ ?_)));obtain rfl:=zj h;exact A7 [.bool false] (At rfl zl Ax)
 refine Ae q4 (Aj (tn_ (wr_ (Ab (Ab ?_)))));obtain ⟨y8,h8,h⟩:=Ag h;refine Aa 15 (rsT 4 (zc (.bool y8) [] [.tree (.pair .int (.pair .int (.pair sI sI))) u0,.tree (.pair .int (.pair .int (.pair sI sI))) u3] (Oa h8) (rsT 1 (As (tn_ (wr_ ?_))))));rcases Ad h with ⟨q9,h⟩ | ⟨q9,h⟩
 ·refine Af q9 (Am (Ai (tr_ ?_)));obtain rfl:=zj h;exact A7 [.bool false] (At rfl zl Ax)
 refine Ae q9 (Aj (tn_ (wr_ (Ab (Ab ?_)))));obtain ⟨y13,h13,h⟩:=Ag h;refine Aa 21 (rsT 4 (zc (.bool y13) [] [tI u1,tI u4] (Ev h13) (rsT 1 (As (tn_ (wr_ ?_))))));rcases Ad h with ⟨q14,h⟩ | ⟨q14,h⟩
 ·refine Af q14 (Am (Ai (tr_ ?_)));obtain rfl:=zj h;exact A7 [.bool false] (At rfl zl Ax)
 refine Ae q14 (Aj (tn_ (wr_ (Ab (Ab ?_)))));obtain ⟨y18,h18,h⟩:=Ag h;refine Aa 27 (rsT 4 (zc (.bool y18) [] [tI u2,tI u5] (Ev h18) (rsT 1 (As (tn_ (wr_ ?_))))));rcases Ad h with ⟨q19,h⟩ | ⟨q19,h⟩
 ·refine Af q19 (Am (Ai (tr_ ?_)));obtain rfl:=zj h;exact A7 [.bool false] (At rfl zl Ax)
 refine Ae q19 (Aj (tn_ (wr_ (Am (Ai ?_)))));obtain rfl:=zj h;exact A7 [.bool true] (At rfl zl Ax)
end

section
open Go.RowKit Go.Deep
set_option maxRecDepth 4000
def J3:AC :=
 (.seq (rg [xo 1 (.i (.box 95 (tm 0))),xo 2 (qm (cb false))])
 (.seq (.seq (rg [xf 3 2 1,xl 4 3,⟨some 5,none,.i (.bin .neq (tm 4) (.cst (.str ⟨#[]⟩)))⟩,xm 6 5,⟨some 7,some (6,false),qf 0 (tm 1)⟩,⟨some 8,some (6,false),ql (tm 7)⟩,⟨some 9,some (6,false),qc 33 [tm 8,ci 1,ci 14] [[],[],[]]⟩,⟨some 10,some (6,false),.i (.not (tm 9))⟩,xo 11 (.i (.pick (tm 6) (cb true) (tm 10)))])
 (.cond (tm 11)
  (.seq (rg [xo 2 (qm (cb false))])
  .ret)
  .skip))
 (.seq (.seq (rg [xf 12 0 1,xl 13 12])
 (.block 0 (.seq (rg [xo 15 (qb .eql (tm 13) (ci 1)),xm 14 15])
 (.cond (tm 14)
  (.seq (rg [xf 16 1 1,xl 17 16,xo 18 (qc 33 [tm 17,ci 0,ci 12] [[],[],[]]),xm 2 18])
  .ret)
  (.seq (.seq (rg [xo 20 (qb .eql (tm 13) (ci 7)),xm 19 20])
  (.cond (tm 19)
   .skip
   (rg [xo 21 (qb .eql (tm 13) (ci 13)),xm 19 21])))
  (.cond (tm 19)
   (.seq (rg [xf 22 1 1,xl 23 22,xo 24 (qc 33 [tm 23,ci 0,ci 96] [[],[],[]]),xm 2 24])
   .ret)
   .skip))))))
 (.seq (rg [xf 25 1 1,xl 26 25,xo 27 (qb .eql (tm 26) (ci 0)),xm 2 27])
 .ret))))
def Rr:List Res:=[.tmp 2]
theorem Rl:Ap Tryd.prog Tryd.f64=some (J3,Rr):=by kernel_rfl
theorem P4:Bu Tryd.prog 64=true:=by kernel_rfl
def Ea (u0 u1:Int) (u2:ByteArray):Option Bool :=
 (cond (!(u2.toList==(⟨#[]⟩:ByteArray).toList))
  (some true)
  ((Cb u0 1 14).bind fun y5 =>
  some (!y5))).bind fun u3 =>
cond u3
 (some false)
 (cond (u0==1)
  ((Cb u1 0 12).bind fun y13 =>
  some y13)
  ((cond (u0==7)
    (some (u0==7))
    (some (u0==13))).bind fun u4 =>
  cond u4
   ((Cb u1 0 96).bind fun y19 =>
   some y19)
   (some (u1==0))))
def Pd (r:Bool):RV:=⟨false,[(false,[.sc (.bool r)])]⟩
theorem O1 {u1 u0:Int} {u2:ByteArray} {r:Bool} (h:Ea u1 u0 u2=some r):Ay Tryd.prog Tab 64 [.agg [ai u1,ai u0,.str u2]] (Pd r):=by
 refine A0 (by kernel_rfl) Tryd.func64 Rl (n:=28) (by kernel_rfl) (by simp) rfl ?_;unfold J3;unfold Ea at h;refine Am (Ab (A3 h (fun (u3:Bool) S_=>S_=⟨Al [(1,.box (oi 0 1) 0),(11,.bool u3)],Ah (Aq [(oi 0 1,.cells 95 [ai u1,ai u0,.str u2])]),2⟩) ?_ ?_))
 ·intro v_ h;refine Aa 12 (rsT 4 ?_);rcases Ad h with ⟨q4,h⟩ | ⟨q4,h⟩
  ·refine rq 6 q4 (rsT 5 (As (tn_ ?_)));obtain rfl:=zj h;exact ⟨_,Ac [(oi 0 1,oi 1 1)],rfl⟩
  obtain ⟨y5,h5,h⟩:=Ag h;refine rq 6 q4 (rsT 2 (Ii (.bool y5) [] [ai u1,ai 1,ai 14] _ (caps:=[]) (args0:=[ai u1,ai 1,ai 14]) (K2 (by kernel_rfl)) (by kernel_rfl) (Dw h5) T0 (rsT 2 (As (tn_ ?_)))));obtain rfl:=zj h;exact ⟨_,Ac [(oi 0 1,oi 1 1)],rfl⟩
 rintro u3 _ rfl h
 (try dsimp only at h);rcases Ad h with ⟨q6,h⟩ | ⟨q6,h⟩
 ·refine Af q6 (Am (Ai (tr_ ?_)));obtain rfl:=zj h;exact A7 [.bool false] (At rfl zl Ax)
 refine Ae q6 (Aj (tn_ (wr_ (Ab (Am (An (Am ?_)))))));rcases Ad h with ⟨q11,h⟩ | ⟨q11,h⟩
 ·refine Af q11 (Ab ?_);obtain ⟨y13,h13,h⟩:=Ag h;refine Aa 10 (rsT 2 (zc (.bool y13) [] [ai u0,ai 0,ai 12] (Dw h13) (rsT 1 (As (tn_ (wr_ (Ai (br_ (tr_ ?_)))))))));obtain rfl:=zj h;exact A7 [.bool y13] (At rfl zl Ax)
 refine Ae q11 (A3 h (fun (u4:Bool) S_=>S_=⟨Al [(1,.box (oi 0 1) 0),(19,.bool u4)],Ah (Aq [(oi 0 1,.cells 95 [ai u1,ai u0,.str u2])]),2⟩) ?_ ?_)
 ·intro v_ h;refine Am ?_;rcases Ad h with ⟨q16,h⟩ | ⟨q16,h⟩
  ·refine Af q16 (Aj (tn_ ?_));obtain rfl:=zj h;exact ⟨_,Ac [],rfl⟩
  refine Ae q16 (Aa 10 (rsT 2 (As (tn_ ?_))));obtain rfl:=zj h;exact ⟨_,Ac [],rfl⟩
 rintro u4 _ rfl h
 (try dsimp only at h);rcases Ad h with ⟨q17,h⟩ | ⟨q17,h⟩
 ·refine Af q17 (Ab ?_);obtain ⟨y19,h19,h⟩:=Ag h;refine Aa 6 (rsT 2 (zc (.bool y19) [] [ai u0,ai 0,ai 96] (Dw h19) (rsT 1 (As (tn_ (wr_ (Ai (br_ (tr_ ?_)))))))));obtain rfl:=zj h;exact A7 [.bool y19] (At rfl zl Ax)
 refine Ae q17 (Aj (bn_ (tn_ (wr_ (Am (Ai ?_))))));obtain rfl:=zj h;exact A7 [.bool (u0==0)] (At rfl zl Ax)
def Kj:AC :=
 (.seq (rg [xo 2 (qm (ci 0)),xo 3 (qm (ci 0))])
 (.seq (.seq (rg [xm 4 0])
 (.block 0 (.seq (rg [xo 6 (qb .eql (tm 4) (ci 2)),xm 5 6])
 (.cond (tm 5)
  (.seq (rg [xo 2 (qm (ci 2)),xo 3 (qm (ci 2))])
  .ret)
  (.seq (.seq (rg [xo 8 (qb .eql (tm 4) (ci 3)),xm 7 8])
  (.cond (tm 7)
   .skip
   (rg [xo 9 (qb .eql (tm 4) (ci 11)),xm 7 9])))
  (.cond (tm 7)
   (.seq (rg [xo 2 (qm (ci 1)),xo 3 (qm (ci 2))])
   .ret)
   (.seq (.seq (rg [xo 11 (qb .eql (tm 4) (ci 4)),xm 10 11])
   (.cond (tm 10)
    .skip
    (rg [xo 12 (qb .eql (tm 4) (ci 12)),xm 10 12])))
   (.cond (tm 10)
    (.seq (rg [xo 2 (qm (ci 1)),xo 3 (qm (ci 0))])
    .ret)
    (.seq (.seq (rg [xo 14 (qb .eql (tm 4) (ci 5)),xm 13 14])
    (.cond (tm 13)
     .skip
     (rg [xo 15 (qb .eql (tm 4) (ci 9)),xm 13 15])))
    (.cond (tm 13)
     (.seq (rg [xo 2 (qm (ci 2)),xo 3 (qm (ci 1))])
     .ret)
     (.seq (.seq (rg [xo 17 (qb .eql (tm 4) (ci 6)),xm 16 17])
     (.cond (tm 16)
      .skip
      (rg [xo 18 (qb .eql (tm 4) (ci 10)),xm 16 18])))
     (.cond (tm 16)
      (.seq (rg [xo 2 (qm (ci 0)),xo 3 (qm (ci 1))])
      .ret)
      .skip))))))))))))
 (.seq (rg [xo 2 (qm (ci 1)),xo 3 (qm (ci 1))])
 .ret)))
def Rf:List Res:=[.tmp 2,.tmp 3]
theorem Ri:Ap Tryd.prog Tryd.f65=some (Kj,Rf):=by kernel_rfl
def E9 (a0:Int):Option (Int×Int) :=
 cond (a0==2)
 (some (2,2))
 ((cond (a0==3)
   (some (a0==3))
   (some (a0==11))).bind fun u0 =>
 cond u0
  (some (1,2))
  ((cond (a0==4)
    (some (a0==4))
    (some (a0==12))).bind fun u1 =>
  cond u1
   (some (1,0))
   ((cond (a0==5)
     (some (a0==5))
     (some (a0==9))).bind fun u2 =>
   cond u2
    (some (2,1))
    ((cond (a0==6)
      (some (a0==6))
      (some (a0==10))).bind fun u3 =>
    cond u3
     (some (0,1))
     (some (1,1))))))
def Qa (r:Int×Int):RV:=⟨true,[(false,[.sc (.int .i64 r.1)]),(false,[.sc (.int .i64 r.2)])]⟩
theorem Ow {a0:Int} {r:Int×Int} (h:E9 a0=some r):Ay Tryd.prog Tab 65 [ai a0] (Qa r):=by
 refine A0 (by kernel_rfl) Tryd.func65 Ri (n:=19) (by kernel_rfl) (by simp) rfl ?_;unfold Kj;unfold E9 at h;refine Am (Ab (Am (An (Am ?_))));rcases Ad h with ⟨q5,h⟩ | ⟨q5,h⟩
 ·refine Af q5 (Am (Ai (br_ (tr_ ?_))));obtain rfl:=zj h;exact A7 [ai 2,ai 2] (At rfl zl (At rfl zl Ax))
 refine Ae q5 (A3 h (fun (u0:Bool) S_=>S_=⟨Al [(4,ai a0),(7,.bool u0)],Ah (Aq []),2⟩) ?_ ?_)
 ·intro v_ h;refine Am ?_;rcases Ad h with ⟨q9,h⟩ | ⟨q9,h⟩
  ·refine Af q9 (Aj (tn_ ?_));obtain rfl:=zj h;exact ⟨_,Ac [],rfl⟩
  refine Ae q9 (Aa 10 (rsT 2 (As (tn_ ?_))));obtain rfl:=zj h;exact ⟨_,Ac [],rfl⟩
 rintro u0 _ rfl h
 (try dsimp only at h);rcases Ad h with ⟨q10,h⟩ | ⟨q10,h⟩
 ·refine Af q10 (Am (Ai (br_ (tr_ ?_))));obtain rfl:=zj h;exact A7 [ai 1,ai 2] (At rfl zl (At rfl zl Ax))
 refine Ae q10 (A3 h (fun (u1:Bool) S_=>S_=⟨Al [(4,ai a0),(10,.bool u1)],Ah (Aq []),2⟩) ?_ ?_)
 ·intro v_ h;refine Am ?_;rcases Ad h with ⟨q14,h⟩ | ⟨q14,h⟩
  ·refine Af q14 (Aj (tn_ ?_));obtain rfl:=zj h;exact ⟨_,Ac [],rfl⟩
  refine Ae q14 (Aa 6 (rsT 2 (As (tn_ ?_))));obtain rfl:=zj h;exact ⟨_,Ac [],rfl⟩
 rintro u1 _ rfl h
 (try dsimp only at h);rcases Ad h with ⟨q15,h⟩ | ⟨q15,h⟩
 ·refine Af q15 (Am (Ai (br_ (tr_ ?_))));obtain rfl:=zj h;exact A7 [ai 1,ai 0] (At rfl zl (At rfl zl Ax))
 refine Ae q15 (A3 h (fun (u2:Bool) S_=>S_=⟨Al [(4,ai a0),(13,.bool u2)],Ah (Aq []),2⟩) ?_ ?_)
 ·intro v_ h;refine Am ?_;rcases Ad h with ⟨q19,h⟩ | ⟨q19,h⟩
  ·refine Af q19 (Aj (tn_ ?_));obtain rfl:=zj h;exact ⟨_,Ac [],rfl⟩
  refine Ae q19 (Aa 6 (rsT 2 (As (tn_ ?_))));obtain rfl:=zj h;exact ⟨_,Ac [],rfl⟩
 rintro u2 _ rfl h
 (try dsimp only at h);rcases Ad h with ⟨q20,h⟩ | ⟨q20,h⟩
 ·refine Af q20 (Am (Ai (br_ (tr_ ?_))));obtain rfl:=zj h;exact A7 [ai 2,ai 1] (At rfl zl (At rfl zl Ax))
 refine Ae q20 (A3 h (fun (u3:Bool) S_=>S_=⟨Al [(16,.bool u3)],Ah (Aq []),2⟩) ?_ ?_)
 ·intro v_ h;refine Am ?_;rcases Ad h with ⟨q24,h⟩ | ⟨q24,h⟩
  ·refine Af q24 (Aj (tn_ ?_));obtain rfl:=zj h;exact ⟨_,Ac [],rfl⟩
  refine Ae q24 (Aa 6 (rsT 2 (As (tn_ ?_))));obtain rfl:=zj h;exact ⟨_,Ac [],rfl⟩
 rintro u3 _ rfl h
 (try dsimp only at h);rcases Ad h with ⟨q25,h⟩ | ⟨q25,h⟩
 ·refine Af q25 (Am (Ai (br_ (tr_ ?_))));obtain rfl:=zj h;exact A7 [ai 0,ai 1] (At rfl zl (At rfl zl Ax))
 refine Ae q25 (Aj (bn_ (tn_ (wr_ (Am (Ai ?_))))));obtain rfl:=zj h;exact A7 [ai 1,ai 1] (At rfl zl (At rfl zl Ax))
def Ka:AC :=
 (.seq (rg [xo 2 (.i (.box 66 (tm 0))),xo 4 (qm (cb false))])
 (.seq (.seq (rg [xf 7 0 2,xl 8 7,xo 9 (qc 33 [tm 8,ci 3,ci 14] [[],[],[]]),xo 10 (.i (.not (tm 9))),xm 11 10,⟨some 12,some (11,false),qf 0 (tm 2)⟩,⟨some 13,some (11,false),ql (tm 12)⟩,⟨some 14,some (11,false),qf 1 (tm 2)⟩,⟨some 15,some (11,false),ql (tm 14)⟩,⟨some 16,some (11,false),.build [.int .i64 0,.int .i64 0,.str ⟨#[]⟩] [(0,1,tm 13),(1,1,tm 15)]⟩,⟨some 17,some (11,false),qc 64 [tm 16] [[none,none,none]]⟩,⟨some 18,some (11,false),.i (.not (tm 17))⟩,xo 19 (.i (.pick (tm 11) (cb true) (tm 18)))])
 (.cond (tm 19)
  (.seq (rg [xo 4 (qm (cb false))])
  .ret)
  .skip))
 (.seq (rg [xf 21 0 2,xl 22 21,xo 23 (qc 65 [tm 22] [[]]),xm 20 23,xo 24 (.i (.extr 0 (tm 20))),xo 25 (.i (.extr 1 (tm 20))),xm 5 24,xm 6 25])
 (.seq (rg [xf 26 2 2,xl 27 26,xn1 28 27,xm 29 5,xo 30 (qb .eql (tm 28) (tm 29)),xm 31 30,⟨some 32,some (31,true),qf 3 (tm 2)⟩,⟨some 33,some (31,true),ql (tm 32)⟩,⟨some 34,some (31,true),.i (.len (tm 33))⟩,⟨some 35,some (31,true),qm (tm 6)⟩,⟨some 36,some (31,true),qb .eql (tm 34) (tm 35)⟩,xo 37 (.i (.pick (tm 31) (tm 36) (cb false))),xm 38 37,⟨some 39,some (38,true),qf 2 (tm 2)⟩,⟨some 40,some (38,true),ql (tm 39)⟩,⟨some 41,some (38,true),qm (tm 1)⟩,⟨some 42,some (38,true),qb .sub (tm 41) (ci 1)⟩,⟨some 43,some (38,true),qc 34 [tm 40,ci 0,tm 42] [[some .int],[],[]]⟩,xo 44 (.i (.pick (tm 38) (tm 43) (cb false))),xm 45 44,⟨some 46,some (45,true),qf 3 (tm 2)⟩,⟨some 47,some (45,true),ql (tm 46)⟩,⟨some 48,some (45,true),qm (tm 1)⟩,⟨some 49,some (45,true),qb .sub (tm 48) (ci 1)⟩,⟨some 50,some (45,true),qc 34 [tm 47,ci 0,tm 49] [[some .int],[],[]]⟩,xo 51 (.i (.pick (tm 45) (tm 50) (cb false))),xm 4 51])
 .ret))))
def Rm:List Res:=[.tmp 4]
theorem Rz:Ap Tryd.prog Tryd.f35=some (Ka,Rm):=by kernel_rfl
def Dc (u0 u3:Int) (u1 u2:List Int) (a1:Int):Option Bool :=
 ((Cb u0 3 14).bind fun y4 =>
 cond (!y4)
  (some true)
  ((Ea u0 u3 (⟨#[]⟩:ByteArray)).bind fun y6 =>
  some (!y6))).bind fun u4 =>
cond u4
 (some false)
 ((E9 u0).bind fun y10 =>
 (cond ((u1.length:Int)==y10.1)
   (cond ((u2.length:Int)==y10.2)
    ((Cw u1 0 (wI (a1 - 1))).bind fun y14 =>
    cond y14
     ((Cw u2 0 (wI (a1 - 1))).bind fun y16 =>
     some y16)
     (some false))
    (some false))
   (some false)).bind fun u5 =>
 some u5)
def O5 (r:Bool):RV:=⟨false,[(false,[.sc (.bool r)])]⟩
theorem Qf {u0 u1:Int} {u2 u3:List Int} {a1:Int} {r:Bool} (h:Dc u0 u1 u2 u3 a1=some r):Ay Tryd.prog Tab 35 [.agg [ai u0,ai u1,tI u2,tI u3],ai a1] (O5 r):=by
 refine A0 (by kernel_rfl) Tryd.func35 Rz (n:=52) (by kernel_rfl) (by simp) rfl ?_;unfold Ka;unfold Dc at h;refine Am (Ab (A3 h (fun (u5:Bool) S_=>S_=⟨Al [(1,ai a1),(2,.box (oi 0 1) 0),(19,.bool u5)],Ah (Aq [(oi 0 1,.cells 66 [ai u0,ai u1,tI u2,tI u3])]),2⟩) ?_ ?_))
 ·intro v_ h;obtain ⟨y4,h4,h⟩:=Ag h;refine Aa 16 (rsT 2 (zc (.bool y4) [] [ai u0,ai 3,ai 14] (Dw h4) (rsT 2 ?_)));rcases Ad h with ⟨q5,h⟩ | ⟨q5,h⟩
  ·refine rq 11 q5 (rsT 8 (As (tn_ ?_)));obtain rfl:=zj h;exact ⟨_,Ac [(oi 0 1,oi 2 1)],rfl⟩
  obtain ⟨y6,h6,h⟩:=Ag h;refine rq 11 q5 (rsT 5 (Ii (.bool y6) [] [.agg [ai u0,ai u1,.str (⟨#[]⟩:ByteArray)]] _ (caps:=[]) (args0:=[.agg [ai u0,ai u1,.str (⟨#[]⟩:ByteArray)]]) (K2 (by kernel_rfl)) (by kernel_rfl) (O1 h6) P4 (rsT 2 (As (tn_ ?_)))));obtain rfl:=zj h;exact ⟨_,Ac [(oi 0 1,oi 2 1)],rfl⟩
 rintro u5 _ rfl h
 (try dsimp only at h);rcases Ad h with ⟨q7,h⟩ | ⟨q7,h⟩
 ·refine Af q7 (Am (Ai (tr_ ?_)));obtain rfl:=zj h;exact A7 [.bool false] (At rfl zl Ax)
 refine Ae q7 (Aj (tn_ (wr_ (Ab ?_))));obtain ⟨y10,h10,h⟩:=Ag h;refine Aa 10 (rsT 2 (zc (.tup [ai y10.1,ai y10.2]) [] [ai u0] (Ow h10) (rsT 5 (As (tn_ (wr_ (A3 h (fun (u4:Bool) S_=>S_=⟨Al [(4,.bool u4)],Ah (Aq []),2⟩) ?_ ?_)))))))
 ·intro v_ h;refine Aa 37 (rsT 6 ?_);rcases Ad h with ⟨q12,h⟩ | ⟨q12,h⟩
  ·refine rq 31 q12 (rsT 7 ?_);rcases Ad h with ⟨q13,h⟩ | ⟨q13,h⟩
   ·obtain ⟨y14,h14,h⟩:=Ag h;refine rq 38 q13 (rsT 4 (Ii (.bool y14) [] [tI u2,ai 0,ai (wI (a1 - 1))] _ (caps:=[]) (args0:=[tI u2,ai 0,ai (wI (a1 - 1))]) (K2 (by kernel_rfl)) (by kernel_rfl) (E8 h14) E7 (rsT 2 ?_)));rcases Ad h with ⟨q15,h⟩ | ⟨q15,h⟩
    ·obtain ⟨y16,h16,h⟩:=Ag h;refine rq 45 q15 (rsT 4 (Ii (.bool y16) [] [tI u3,ai 0,ai (wI (a1 - 1))] _ (caps:=[]) (args0:=[tI u3,ai 0,ai (wI (a1 - 1))]) (K2 (by kernel_rfl)) (by kernel_rfl) (E8 h16) E7 (rsT 2 (As (tn_ ?_)))));obtain rfl:=zj h;exact ⟨_,Ac [],rfl⟩
    refine rq 45 q15 (rsT 7 (As (tn_ ?_)));obtain rfl:=zj h;exact ⟨_,Ac [],rfl⟩
   refine rq 38 q13 (rsT 14 (As (tn_ ?_)));obtain rfl:=zj h;exact ⟨_,Ac [],rfl⟩
  refine rq 31 q12 (rsT 21 (As (tn_ ?_)));obtain rfl:=zj h;exact ⟨_,Ac [],rfl⟩
 rintro u4 _ rfl h
 (try dsimp only at h);refine Ai ?_;obtain rfl:=zj h;exact A7 [.bool u4] (At rfl zl Ax)
def Fy:AC :=
 (.seq (rg [xs1 75 74 73])
 (.seq (.cond (tm 75)
  .skip
  (.exit 8))
 (.seq (.block 9 (.seq (rg [xx 76 1 72 74,xl 77 76,xm 15 77])
 (rg [xm 78 5,xm 79 15,xx 80 1 78 79,xl 81 80,xa 82 81,xx 83 1 78 79,xn (qs (tm 83) (tm 82))])))
 (rg [xa 84 74,xm 74 84]))))
def Ga:AC :=
 (.seq (rg [xs1 61 60 59])
 (.seq (.cond (tm 61)
  .skip
  (.exit 6))
 (.seq (.block 7 (.seq (rg [xx 62 1 58 60,xl 63 62,xm 13 63])
 (rg [xm 64 4,xm 65 13,xx 66 1 64 65,xl 67 66,xa 68 67,xx 69 1 64 65,xn (qs (tm 69) (tm 68))])))
 (rg [xa 70 60,xm 60 70]))))
def Gd:AC :=
 (.seq (rg [xs1 54 53 52])
 (.seq (.cond (tm 54)
  .skip
  (.exit 4))
 (.seq (.block 5 (.seq (rg [xx 55 4 51 53,xo 56 (.i (.ld false 4 (tm 55))),xo 11 (.i (.alloc 66 [.int .i64 0,.int .i64 0,.nils,.nils])),xn (.st false 4 (tm 11) (tm 56))])
 (.seq (.seq (rg [xf 57 3 11,xl 58 57,xn1 59 58,xo 60 (qm (ci 0))])
 (.block 6 (.loop Ga)))
 (.seq (rg [xf 71 2 11,xl 72 71,xn1 73 72,xo 74 (qm (ci 0))])
 (.block 8 (.loop Fy))))))
 (rg [xa 85 53,xm 53 85]))))
def Gh:AC :=
 (.seq (rg [xs1 40 39 38])
 (.seq (.cond (tm 40)
  .skip
  (.exit 2))
 (.seq (.block 3 (.seq (rg [xx 41 1 37 39,xl 42 41,xm 9 42])
 (rg [xm 43 5,xm 44 9,xx 45 1 43 44,xl 46 45,xa 47 46,xx 48 1 43 44,xn (qs (tm 48) (tm 47))])))
 (rg [xa 49 39,xm 39 49]))))
def F5:AC :=
 (.seq (rg [xs1 26 25 24])
 (.seq (.cond (tm 26)
  .skip
  (.exit 0))
 (.seq (.block 1 (.seq (rg [xx 27 1 23 25,xl 28 27,xm 7 28])
 (rg [xm 29 4,xm 30 7,xx 31 1 29 30,xl 32 31,xa 33 32,xx 34 1 29 30,xn (qs (tm 34) (tm 33))])))
 (rg [xa 35 25,xm 25 35]))))
def Ig:AC :=
 (.seq (rg [xo 1 (.i (.box 31 (tm 0))),xo 2 (qm (.cst .nils)),xo 3 (qm (.cst .nils))])
 (.seq (rg [xf 16 0 1,xl 17 16,xo 18 (.make 3 .int 8 (tm 17) (tm 17)),xm 4 18])
 (.seq (rg [xf 19 0 1,xl 20 19,xo 21 (.make 3 .int 8 (tm 20) (tm 20)),xm 5 21])
 (.seq (.seq (rg [xf 22 2 1,xl 23 22,xn1 24 23,xo 25 (qm (ci 0))])
 (.block 0 (.loop F5)))
 (.seq (.seq (rg [xf 36 3 1,xl 37 36,xn1 38 37,xo 39 (qm (ci 0))])
 (.block 2 (.loop Gh)))
 (.seq (.seq (rg [xf 50 1 1,xl 51 50,xn1 52 51,xo 53 (qm (ci 0))])
 (.block 4 (.loop Gd)))
 (.seq (rg [xm 86 4,xm 87 5,xm 2 86,xm 3 87])
 .ret)))))))
def Nq:List Res:=[.tmp 2,.tmp 3]
theorem N6:Ap Tryd.prog Tryd.f36=some (Ig,Nq):=by kernel_rfl
def Ei (u2:List Int) (u0:Nat) (u1:List Int):Option (Ctl (Nat×List Int) (List Int)) :=
 cond (decide ((u0:Int)<(u2.length:Int)))
 ((u2[u0]?).bind fun x14 =>
 (J0 u1 x14).bind fun x15 =>
 og (u0+1<4611686018427387904) <|
 some (Ctl.next (u0+1,u1.set x14.toNat (wI (x15+1)))))
 (some (Ctl.out u1))
def Ef (u2:List Int) (u0:Nat) (u1:List Int):Option (Ctl (Nat×List Int) (List Int)) :=
 cond (decide ((u0:Int)<(u2.length:Int)))
 ((u2[u0]?).bind fun x25 =>
 (J0 u1 x25).bind fun x26 =>
 og (u0+1<4611686018427387904) <|
 some (Ctl.next (u0+1,u1.set x25.toNat (wI (x26+1)))))
 (some (Ctl.out u1))
def Eh (x36:Int×Int×(List Int)×List Int) (u0:Nat) (u1:List Int):Option (Ctl (Nat×List Int) (List Int)) :=
 cond (decide ((u0:Int)<(x36.2.2.2.length:Int)))
 ((x36.2.2.2[u0]?).bind fun x45 =>
 (J0 u1 x45).bind fun x46 =>
 og (u0+1<4611686018427387904) <|
 some (Ctl.next (u0+1,u1.set x45.toNat (wI (x46+1)))))
 (some (Ctl.out u1))
def Ee (x36:Int×Int×(List Int)×List Int) (u2:List Int) (u0:Nat) (u1:List Int):Option (Ctl (Nat×List Int) (List Int×List Int)) :=
 cond (decide ((u0:Int)<(x36.2.2.1.length:Int)))
 ((x36.2.2.1[u0]?).bind fun x55 =>
 (J0 u1 x55).bind fun x56 =>
 og (u0+1<4611686018427387904) <|
 some (Ctl.next (u0+1,u1.set x55.toNat (wI (x56+1)))))
 (some (Ctl.out (u2,u1)))
def Ck (u1:List (Int×Int×(List Int)×List Int)) (u0:Nat) (u2 u3:List Int):Option (Ctl (Nat×List Int×List Int) (List Int×List Int)) :=
 cond (decide ((u0:Int)<(u1.length:Int)))
 (((u1[u0]?).bind fun x36 =>
  (A9 (fun s_:Nat×List Int=>Eh x36 s_.1 s_.2) 4611686018427387904 (0,u2)).bind fun u4 =>
  A9 (fun s_:Nat×List Int=>Ee x36 u4 s_.1 s_.2) 4611686018427387904 (0,u3)).bind fun (u5,u6) =>
 og (u0+1<4611686018427387904) <|
 some (Ctl.next (u0+1,u5,u6)))
 (some (Ctl.out (u2,u3)))
def Co (u0:Int) (u1:List (Int×Int×(List Int)×List Int)) (u2 u3:List Int):Option (List Int×List Int) :=
 og (0<=u0∧u0<=u0∧u0<=1073741824∧(8:Int)*u0<=140737488355328) <|
og (0<=u0∧u0<=u0∧u0<=1073741824∧(8:Int)*u0<=140737488355328) <|
(A9 (fun s_:Nat×List Int=>Ei u2 s_.1 s_.2) 4611686018427387904 (0,List.replicate u0.toNat (0:Int))).bind fun u4 =>
(A9 (fun s_:Nat×List Int=>Ef u3 s_.1 s_.2) 4611686018427387904 (0,List.replicate u0.toNat (0:Int))).bind fun u5 =>
(A9 (fun s_:Nat×List Int×List Int=>Ck u1 s_.1 s_.2.1 s_.2.2) 4611686018427387904 (0,u4,u5)).bind fun (u6,u7) =>
some (u6,u7)
def Ms (r:List Int×List Int):RV:=⟨true,[(false,[.new 3 .int r.1]),(false,[.new 3 .int r.2])]⟩
set_option maxHeartbeats 1600000 in
theorem Mf {u0:Int} {u1:List (Int×Int×(List Int)×List Int)} {u8 u9:List Int} {r:List Int×List Int} (h:Co u0 u1 u8 u9=some r):Ay Tryd.prog Tab 36 [.agg [ai u0,.tree (.pair .int (.pair .int (.pair sI sI))) u1,tI u8,tI u9]] (Ms r):=by
 refine A0 (by kernel_rfl) Tryd.func36 N6 (n:=88) (by kernel_rfl) (by simp) rfl ?_;unfold Ig;unfold Co at h;refine Am (Ab ?_);obtain ⟨g3,h⟩:=Au h;refine Aa 8 (rsT 2 (rs1 (oI 18 6 u0.toNat) (oi 18 6) (.arr 3 .int (List.replicate u0.toNat (0:Int))) (Tj (t:=.int) (k:=.i64) (k':=.i64) (m:=u0) (m':=u0) (by kernel_rfl) (by kernel_rfl) g3 rfl) (rsT 1 (As (tn_ (wr_ (Ab ?_)))))));obtain ⟨g5,h⟩:=Au h;refine Aa 12 (rsT 2 (rs1 (oI 21 10 u0.toNat) (oi 21 10) (.arr 3 .int (List.replicate u0.toNat (0:Int))) (Tj (t:=.int) (k:=.i64) (k':=.i64) (m:=u0) (m':=u0) (by kernel_rfl) (by kernel_rfl) g5 rfl) (rsT 1 (As (tn_ (wr_ (A3 h (fun (ua:List Int) S_=>S_=⟨Al [(1,.box (oi 0 1) 0),(4,oI 1 1 ua.length),(5,oI 2 1 ((List.replicate u0.toNat (0:Int)).length))],Ah (Aq [(oi 0 1,.cells 31 [ai u0,.tree (.pair .int (.pair .int (.pair sI sI))) u1,tI u8,tI u9]),(oi 1 1,.arr 3 .int ua),(oi 2 1,.arr 3 .int (List.replicate u0.toNat (0:Int)))]),2⟩) ?_ ?_)))))))
 ·intro v_ h;refine Am (An (Bb h (fun t_ S_=>∃ (uf:Nat),∃ (u3:List Int),t_=(uf,u3)∧S_=⟨Al [(1,.box (oi 0 1) 0),(4,oI 1 1 u3.length),(5,oI 2 1 ((List.replicate u0.toNat (0:Int)).length)),(23,tI u8),(24,an u8.length),(25,an uf)],Ah (Aq [(oi 0 1,.cells 31 [ai u0,.tree (.pair .int (.pair .int (.pair sI sI))) u1,tI u8,tI u9]),(oi 1 1,.arr 3 .int u3),(oi 2 1,.arr 3 .int (List.replicate u0.toNat (0:Int)))]),2⟩) ⟨_,(D7 4 (oI 18 6 u0.toNat) (oI 18 6 ((List.replicate u0.toNat (0:Int)).length)) (by kernel_rfl) (congrArg (fun z_=>((oI 18 6 z_):AV)) (List.length_replicate.symm:u0.toNat=(List.replicate u0.toNat (0:Int)).length))).trans ((D7 5 (oI 21 10 u0.toNat) (oI 21 10 ((List.replicate u0.toNat (0:Int)).length)) (by kernel_rfl) (congrArg (fun z_=>((oI 21 10 z_):AV)) (List.length_replicate.symm:u0.toNat=(List.replicate u0.toNat (0:Int)).length))).trans (Ac [(oi 0 1,oi 1 1),(oi 1 1,oi 18 6),(oi 2 1,oi 21 10)])),⟨0,List.replicate u0.toNat (0:Int),rfl,rfl⟩⟩ ?_));rintro n_ _ _ c_ ⟨uf,u3,rfl,rfl⟩ h hn8
  (try dsimp only at h);unfold Ei at h;unfold F5;refine Am (Ab ?_);rcases Ad h with ⟨q11,h⟩ | ⟨q11,h⟩
  ·have q11_:=of_decide_eq_true q11;refine Af q11 (Aj (tn_ (wr_ (Ab (An (Ab ?_))))));obtain ⟨x14,e14,h⟩:=Ag h;refine Aa 6 (zI .int e14 (rsT 2 (As (tn_ (wr_ ?_)))));obtain ⟨x15,f15,h⟩:=Ag h;obtain ⟨p15,b15,e15⟩:=Em f15;refine Aa 13 (rsT 2 (rs0 (.elt (oi 1 1) x14.toNat 0) (zo (t:=.int) (o:=oi 1 1) (len:=u3.length) (k:=.i64) (m:=x14) p15 (Bj e15)) (zE (oi 1 1) e15 (rsT 1 (rs0 (.elt (oi 1 1) x14.toNat 0) (zo (t:=.int) (o:=oi 1 1) (len:=u3.length) (k:=.i64) (m:=x14) p15 (Bj e15)) (zS (oi 1 1) (wI (x15+1)) e15 (As (bn_ (tn_ (wr_ ?_))))))))));obtain ⟨g16,h⟩:=Au h;refine Aa 15 (zA g16 (rsT 1 (As (tn_ ?_))));obtain rfl:=zj h;exact ⟨(uf+1,u3.set x14.toNat (wI (x15+1))),_,(D7 4 (oI 1 1 u3.length) (oI 1 1 ((u3.set x14.toNat (wI (x15+1))).length)) (by kernel_rfl) (congrArg (fun z_=>((oI 1 1 z_):AV)) (((rfl:u3.length=u3.length).trans List.length_set.symm):u3.length=(u3.set x14.toNat (wI (x15+1))).length))).trans (Ac []),⟨uf+1,u3.set x14.toNat (wI (x15+1)),rfl,rfl⟩,hn8⟩
  have q11_:=of_decide_eq_false q11;refine Ae q11 (A8 (te_ (te_ (be_ (tn_ ?_)))));obtain rfl:=zj h;have h:=hn8
  (try dsimp only at h);obtain rfl:=zj h;exact ⟨_,Ac [],rfl⟩
 rintro ua _ rfl h
 (try dsimp only at h);refine A3 h (fun (ul:List Int) S_=>S_=⟨Al [(1,.box (oi 0 1) 0),(4,oI 1 1 ua.length),(5,oI 2 1 ul.length)],Ah (Aq [(oi 0 1,.cells 31 [ai u0,.tree (.pair .int (.pair .int (.pair sI sI))) u1,tI u8,tI u9]),(oi 1 1,.arr 3 .int ua),(oi 2 1,.arr 3 .int ul)]),2⟩) ?_ ?_
 ·intro v_ h;refine Am (An (Bb h (fun t_ S_=>∃ (ug:Nat),∃ (u4:List Int),t_=(ug,u4)∧S_=⟨Al [(1,.box (oi 0 1) 0),(4,oI 1 1 ua.length),(5,oI 2 1 u4.length),(37,tI u9),(38,an u9.length),(39,an ug)],Ah (Aq [(oi 0 1,.cells 31 [ai u0,.tree (.pair .int (.pair .int (.pair sI sI))) u1,tI u8,tI u9]),(oi 1 1,.arr 3 .int ua),(oi 2 1,.arr 3 .int u4)]),2⟩) ⟨_,Ac [],⟨0,List.replicate u0.toNat (0:Int),rfl,rfl⟩⟩ ?_));rintro n_ _ _ c_ ⟨ug,u4,rfl,rfl⟩ h hn19
  (try dsimp only at h);unfold Ef at h;unfold Gh;refine Am (Ab ?_);rcases Ad h with ⟨q22,h⟩ | ⟨q22,h⟩
  ·have q22_:=of_decide_eq_true q22;refine Af q22 (Aj (tn_ (wr_ (Ab (An (Ab ?_))))));obtain ⟨x25,e25,h⟩:=Ag h;refine Aa 6 (zI .int e25 (rsT 2 (As (tn_ (wr_ ?_)))));obtain ⟨x26,f26,h⟩:=Ag h;obtain ⟨p26,b26,e26⟩:=Em f26;refine Aa 13 (rsT 2 (rs0 (.elt (oi 2 1) x25.toNat 0) (zo (t:=.int) (o:=oi 2 1) (len:=u4.length) (k:=.i64) (m:=x25) p26 (Bj e26)) (zE (oi 2 1) e26 (rsT 1 (rs0 (.elt (oi 2 1) x25.toNat 0) (zo (t:=.int) (o:=oi 2 1) (len:=u4.length) (k:=.i64) (m:=x25) p26 (Bj e26)) (zS (oi 2 1) (wI (x26+1)) e26 (As (bn_ (tn_ (wr_ ?_))))))))));obtain ⟨g27,h⟩:=Au h;refine Aa 15 (zA g27 (rsT 1 (As (tn_ ?_))));obtain rfl:=zj h;exact ⟨(ug+1,u4.set x25.toNat (wI (x26+1))),_,(D7 5 (oI 2 1 u4.length) (oI 2 1 ((u4.set x25.toNat (wI (x26+1))).length)) (by kernel_rfl) (congrArg (fun z_=>((oI 2 1 z_):AV)) (((rfl:u4.length=u4.length).trans List.length_set.symm):u4.length=(u4.set x25.toNat (wI (x26+1))).length))).trans (Ac []),⟨ug+1,u4.set x25.toNat (wI (x26+1)),rfl,rfl⟩,hn19⟩
  have q22_:=of_decide_eq_false q22;refine Ae q22 (A8 (te_ (te_ (be_ (tn_ ?_)))));obtain rfl:=zj h;have h:=hn19
  (try dsimp only at h);obtain rfl:=zj h;exact ⟨_,Ac [],rfl⟩
 rintro ul _ rfl h
 (try dsimp only at h);refine A3 h (fun t_ S_=>∃ (uh:List Int),∃ (ui:List Int),t_=(uh,ui)∧S_=⟨Al [(4,oI 0 1 uh.length),(5,oI 1 1 ui.length)],Ah (Aq [(oi 0 1,.arr 3 .int uh),(oi 1 1,.arr 3 .int ui)]),2⟩) ?_ ?_
 ·intro v_ h;refine Am (An (Bb h (fun t_ S_=>∃ (u6:Nat),∃ (ub:List Int),∃ (u7:List Int),t_=(u6,ub,u7)∧S_=⟨Al [(4,oI 0 1 ub.length),(5,oI 1 1 u7.length),(51,.tree (.pair .int (.pair .int (.pair sI sI))) u1),(52,an u1.length),(53,an u6)],Ah (Aq [(oi 0 1,.arr 3 .int ub),(oi 1 1,.arr 3 .int u7)]),2⟩) ⟨_,Ac [(oi 0 1,oi 1 1),(oi 1 1,oi 2 1)],⟨0,ua,ul,rfl,rfl⟩⟩ ?_));rintro n_ _ _ c_ ⟨u6,ub,u7,rfl,rfl⟩ h hn30
  (try dsimp only at h);unfold Ck at h;unfold Gd;refine Am (Ab ?_);rcases Ad h with ⟨q33,h⟩ | ⟨q33,h⟩
  ·have q33_:=of_decide_eq_true q33;refine Af q33 (Aj (tn_ (wr_ (A3 h (fun t_ S_=>∃ (uc:List Int),∃ (ud:List Int),t_=(uc,ud)∧S_=⟨Al [(4,oI 0 1 uc.length),(5,oI 1 1 ud.length),(51,.tree (.pair .int (.pair .int (.pair sI sI))) u1),(52,an u1.length),(53,an u6)],Ah (Aq [(oi 0 1,.arr 3 .int uc),(oi 1 1,.arr 3 .int ud)]),2⟩) ?_ ?_))))
   ·intro v_ h;refine An (Ab ?_);obtain ⟨x36,e36,h⟩:=Ag h;refine Aa 7 (rs0 (.telt none (.pair .int (.pair .int (.pair sI sI))) x36 0) (zi (t:=.pair .int (.pair .int (.pair sI sI))) (xs:=u1) (k:=.i64) (m:=(u6:Int)) (F3 _) e36) (rsB 3 (As (tn_ (wr_ (A3 h (fun (ue:List Int) S_=>S_=⟨Al [(4,oI 0 1 ue.length),(5,oI 1 1 u7.length),(11,.box (oi 2 1) 0),(51,.tree (.pair .int (.pair .int (.pair sI sI))) u1),(52,an u1.length),(53,an u6)],Ah (Aq [(oi 0 1,.arr 3 .int ue),(oi 1 1,.arr 3 .int u7),(oi 2 1,.cells 66 [ai x36.1,ai x36.2.1,tI x36.2.2.1,tI x36.2.2.2])]),2⟩) ?_ ?_))))))
    ·intro v_ h;refine Am (An (Bb h (fun t_ S_=>∃ (uj:Nat),∃ (u5:List Int),t_=(uj,u5)∧S_=⟨Al [(4,oI 0 1 u5.length),(5,oI 1 1 u7.length),(11,.box (oi 2 1) 0),(51,.tree (.pair .int (.pair .int (.pair sI sI))) u1),(52,an u1.length),(53,an u6),(58,tI x36.2.2.2),(59,an x36.2.2.2.length),(60,an uj)],Ah (Aq [(oi 0 1,.arr 3 .int u5),(oi 1 1,.arr 3 .int u7),(oi 2 1,.cells 66 [ai x36.1,ai x36.2.1,tI x36.2.2.1,tI x36.2.2.2])]),2⟩) ⟨_,Ac [(oi 2 1,oi 11 5)],⟨0,ub,rfl,rfl⟩⟩ ?_));rintro n_ _ _ c_ ⟨uj,u5,rfl,rfl⟩ h hn39
     (try dsimp only at h);unfold Eh at h;unfold Ga;refine Am (Ab ?_);rcases Ad h with ⟨q42,h⟩ | ⟨q42,h⟩
     ·have q42_:=of_decide_eq_true q42;refine Af q42 (Aj (tn_ (wr_ (Ab (An (Ab ?_))))));obtain ⟨x45,e45,h⟩:=Ag h;refine Aa 6 (zI .int e45 (rsT 2 (As (tn_ (wr_ ?_)))));obtain ⟨x46,f46,h⟩:=Ag h;obtain ⟨p46,b46,e46⟩:=Em f46;refine Aa 13 (rsT 2 (rs0 (.elt (oi 0 1) x45.toNat 0) (zo (t:=.int) (o:=oi 0 1) (len:=u5.length) (k:=.i64) (m:=x45) p46 (Bj e46)) (zE (oi 0 1) e46 (rsT 1 (rs0 (.elt (oi 0 1) x45.toNat 0) (zo (t:=.int) (o:=oi 0 1) (len:=u5.length) (k:=.i64) (m:=x45) p46 (Bj e46)) (zS (oi 0 1) (wI (x46+1)) e46 (As (bn_ (tn_ (wr_ ?_))))))))));obtain ⟨g47,h⟩:=Au h;refine Aa 15 (zA g47 (rsT 1 (As (tn_ ?_))));obtain rfl:=zj h;exact ⟨(uj+1,u5.set x45.toNat (wI (x46+1))),_,(D7 4 (oI 0 1 u5.length) (oI 0 1 ((u5.set x45.toNat (wI (x46+1))).length)) (by kernel_rfl) (congrArg (fun z_=>((oI 0 1 z_):AV)) (((rfl:u5.length=u5.length).trans List.length_set.symm):u5.length=(u5.set x45.toNat (wI (x46+1))).length))).trans (Ac []),⟨uj+1,u5.set x45.toNat (wI (x46+1)),rfl,rfl⟩,hn39⟩
     have q42_:=of_decide_eq_false q42;refine Ae q42 (A8 (te_ (te_ (be_ (tn_ ?_)))));obtain rfl:=zj h;have h:=hn39
     (try dsimp only at h);obtain rfl:=zj h;exact ⟨_,Ac [],rfl⟩
    rintro ue _ rfl h
    (try dsimp only at h);refine Am (An (Bb h (fun t_ S_=>∃ (uk:Nat),∃ (u2:List Int),t_=(uk,u2)∧S_=⟨Al [(4,oI 0 1 ue.length),(5,oI 1 1 u2.length),(51,.tree (.pair .int (.pair .int (.pair sI sI))) u1),(52,an u1.length),(53,an u6),(72,tI x36.2.2.1),(73,an x36.2.2.1.length),(74,an uk)],Ah (Aq [(oi 0 1,.arr 3 .int ue),(oi 1 1,.arr 3 .int u2)]),2⟩) ⟨_,Ac [],⟨0,u7,rfl,rfl⟩⟩ ?_));rintro n_ _ _ c_ ⟨uk,u2,rfl,rfl⟩ h hn49
    (try dsimp only at h);unfold Ee at h;unfold Fy;refine Am (Ab ?_);rcases Ad h with ⟨q52,h⟩ | ⟨q52,h⟩
    ·have q52_:=of_decide_eq_true q52;refine Af q52 (Aj (tn_ (wr_ (Ab (An (Ab ?_))))));obtain ⟨x55,e55,h⟩:=Ag h;refine Aa 6 (zI .int e55 (rsT 2 (As (tn_ (wr_ ?_)))));obtain ⟨x56,f56,h⟩:=Ag h;obtain ⟨p56,b56,e56⟩:=Em f56;refine Aa 13 (rsT 2 (rs0 (.elt (oi 1 1) x55.toNat 0) (zo (t:=.int) (o:=oi 1 1) (len:=u2.length) (k:=.i64) (m:=x55) p56 (Bj e56)) (zE (oi 1 1) e56 (rsT 1 (rs0 (.elt (oi 1 1) x55.toNat 0) (zo (t:=.int) (o:=oi 1 1) (len:=u2.length) (k:=.i64) (m:=x55) p56 (Bj e56)) (zS (oi 1 1) (wI (x56+1)) e56 (As (bn_ (tn_ (wr_ ?_))))))))));obtain ⟨g57,h⟩:=Au h;refine Aa 15 (zA g57 (rsT 1 (As (tn_ ?_))));obtain rfl:=zj h;exact ⟨(uk+1,u2.set x55.toNat (wI (x56+1))),_,(D7 5 (oI 1 1 u2.length) (oI 1 1 ((u2.set x55.toNat (wI (x56+1))).length)) (by kernel_rfl) (congrArg (fun z_=>((oI 1 1 z_):AV)) (((rfl:u2.length=u2.length).trans List.length_set.symm):u2.length=(u2.set x55.toNat (wI (x56+1))).length))).trans (Ac []),⟨uk+1,u2.set x55.toNat (wI (x56+1)),rfl,rfl⟩,hn49⟩
    have q52_:=of_decide_eq_false q52;refine Ae q52 (A8 (te_ (te_ (be_ (bn_ (tn_ ?_))))));obtain rfl:=zj h;have h:=hn49
    (try dsimp only at h);obtain rfl:=zj h;exact ⟨_,Ac [],⟨ue,u2,rfl,rfl⟩⟩
   rintro _ _ ⟨uc,ud,rfl,rfl⟩ h
   (try dsimp only at h);obtain ⟨g58,h⟩:=Au h;refine Aa 4 (zA g58 (rsT 1 (As (tn_ ?_))));obtain rfl:=zj h;exact ⟨(u6+1,uc,ud),_,Ac [],⟨u6+1,uc,ud,rfl,rfl⟩,hn30⟩
  have q33_:=of_decide_eq_false q33;refine Ae q33 (A8 (te_ (te_ (be_ (tn_ ?_)))));obtain rfl:=zj h;have h:=hn30
  (try dsimp only at h);obtain rfl:=zj h;exact ⟨_,Ac [],⟨ub,u7,rfl,rfl⟩⟩
 rintro _ _ ⟨uh,ui,rfl,rfl⟩ h
 (try dsimp only at h);refine Am (Ai ?_);obtain rfl:=zj h;exact A7 [oI 0 1 uh.length,oI 1 1 ui.length] (At rfl (U6 (by kernel_rfl) rfl) (At rfl (U6 (by kernel_rfl) rfl) Ax))
def Gt:AC :=
 (.seq (rg [xs1 69 68 67])
 (.seq (.cond (tm 69)
  .skip
  (.exit 2))
 (.seq (.block 3 (.seq (rg [xm 70 68,xm 7 70])
 (.seq (.region [xm 71 5,xm 72 7,xx 73 1 71 72,xl 74 73,xm 75 6,xm 76 7,xx 77 1 75 76,xl 78 77,xo 79 (qb .add (tm 74) (tm 78)),xo 80 (qb .eql (tm 79) (ci 0))] true [])
 (.cond (tm 80)
  (.seq (rg [xo 2 (qm (cb false))])
  .ret)
  .skip))))
 (rg [xa 81 68,xm 68 81]))))
def Gr:AC :=
 (.seq (rg [xs1 52 51 50])
 (.seq (.cond (tm 52)
  .skip
  (.exit 0))
 (.seq (.block 1 (.seq (rg [xx 53 4 49 51,xo 54 (.i (.ld false 4 (tm 53))),xo 4 (.i (.alloc 66 [.int .i64 0,.int .i64 0,.nils,.nils])),xn (.st false 4 (tm 4) (tm 54))])
 (.seq (rg [xo 55 (.i (.ld false 4 (tm 4))),xf 56 0 1,xl 57 56,xo 58 (qc 35 [tm 55,tm 57] [[none,none,some .int,some .int],[]]),xo 59 (.i (.not (tm 58)))])
 (.cond (tm 59)
  (.seq (rg [xo 2 (qm (cb false))])
  .ret)
  .skip))))
 (rg [xa 60 51,xm 51 60]))))
def Ix:AC :=
 (.seq (rg [xo 1 (.i (.box 31 (tm 0))),xo 2 (qm (cb false))])
 (.seq (.seq (rg [xf 8 0 1,xl 9 8,xo 10 (qc 33 [tm 9,ci 0,ci 100] [[],[],[]]),xo 11 (.i (.not (tm 10))),xm 12 11,⟨some 13,some (12,false),qf 1 (tm 1)⟩,⟨some 14,some (12,false),ql (tm 13)⟩,⟨some 15,some (12,false),.i (.len (tm 14))⟩,⟨some 16,some (12,false),qb .gtr (tm 15) (ci 60)⟩,xo 17 (.i (.pick (tm 12) (cb true) (tm 16))),xm 18 17,⟨some 19,some (18,false),qf 2 (tm 1)⟩,⟨some 20,some (18,false),ql (tm 19)⟩,⟨some 21,some (18,false),.i (.len (tm 20))⟩,⟨some 22,some (18,false),qb .gtr (tm 21) (ci 12)⟩,xo 23 (.i (.pick (tm 18) (cb true) (tm 22))),xm 24 23,⟨some 25,some (24,false),qf 3 (tm 1)⟩,⟨some 26,some (24,false),ql (tm 25)⟩,⟨some 27,some (24,false),.i (.len (tm 26))⟩,⟨some 28,some (24,false),qb .gtr (tm 27) (ci 12)⟩,xo 29 (.i (.pick (tm 24) (cb true) (tm 28))),xm 30 29,⟨some 31,some (30,false),qf 2 (tm 1)⟩,⟨some 32,some (30,false),ql (tm 31)⟩,⟨some 33,some (30,false),qf 0 (tm 1)⟩,⟨some 34,some (30,false),ql (tm 33)⟩,⟨some 35,some (30,false),qb .sub (tm 34) (ci 1)⟩,⟨some 36,some (30,false),qc 34 [tm 32,ci 0,tm 35] [[some .int],[],[]]⟩,⟨some 37,some (30,false),.i (.not (tm 36))⟩,xo 38 (.i (.pick (tm 30) (cb true) (tm 37))),xm 39 38,⟨some 40,some (39,false),qf 3 (tm 1)⟩,⟨some 41,some (39,false),ql (tm 40)⟩,⟨some 42,some (39,false),qf 0 (tm 1)⟩,⟨some 43,some (39,false),ql (tm 42)⟩,⟨some 44,some (39,false),qb .sub (tm 43) (ci 1)⟩,⟨some 45,some (39,false),qc 34 [tm 41,ci 0,tm 44] [[some .int],[],[]]⟩,⟨some 46,some (39,false),.i (.not (tm 45))⟩,xo 47 (.i (.pick (tm 39) (cb true) (tm 46)))])
 (.cond (tm 47)
  (.seq (rg [xo 2 (qm (cb false))])
  .ret)
  .skip))
 (.seq (.seq (rg [xf 48 1 1,xl 49 48,xn1 50 49,xo 51 (qm (ci 0))])
 (.block 0 (.loop Gr)))
 (.seq (rg [xo 62 (.i (.ld false 4 (tm 1))),⟨some 63,none,qc 36 [tm 62] [[none,some (.pair .int (.pair .int (.pair sI sI))),some .int,some .int]]⟩,xm 61 63,xo 64 (.i (.extr 0 (tm 61))),xo 65 (.i (.extr 1 (tm 61))),xm 5 64,xm 6 65])
 (.seq (.seq (rg [xm 66 5,xn1 67 66,xo 68 (qm (ci 0))])
 (.block 2 (.loop Gt)))
 (.seq (rg [xo 2 (qm (cb true))])
 .ret))))))
def Pp:List Res:=[.tmp 2]
theorem P1:Ap Tryd.prog Tryd.f17=some (Ix,Pp):=by kernel_rfl
def Dh (u1:List (Int×Int×(List Int)×List Int)) (u2:Int) (u0:Nat):Option (Ctl Nat (Ctl Unit Bool)) :=
 cond (decide ((u0:Int)<(u1.length:Int)))
 ((u1[u0]?).bind fun x22 =>
 (Dc x22.1 x22.2.1 x22.2.2.1 x22.2.2.2 u2).bind fun y24 =>
 cond (!y24)
  (some (Ctl.out (Ctl.out false)))
  (og (u0+1<4611686018427387904) <|
  some (Ctl.next (u0+1))))
 (some (Ctl.out (Ctl.next ())))
def Cu (y29:List Int×List Int) (u0:Nat):Option (Ctl Nat (Ctl Unit Bool)) :=
 cond (decide ((u0:Int)<(y29.1.length:Int)))
 ((y29.1[u0]?).bind fun x39 =>
 (y29.2[u0]?).bind fun x40 =>
 cond ((wI (x39+x40))==0)
  (some (Ctl.out (Ctl.out false)))
  (og (u0+1<4611686018427387904) <|
  some (Ctl.next (u0+1))))
 (some (Ctl.out (Ctl.next ())))
def Dn (u0:Int) (u1:List (Int×Int×(List Int)×List Int)) (u2 u3:List Int):Option Bool :=
 ((Cb u0 0 100).bind fun y4 =>
 cond (!y4)
  (some true)
  (cond (decide (60<(u1.length:Int)))
   (some true)
   (cond (decide (12<(u2.length:Int)))
    (some true)
    (cond (decide (12<(u3.length:Int)))
     (some true)
     ((Cw u2 0 (wI (u0 - 1))).bind fun y9 =>
     cond (!y9)
      (some true)
      ((Cw u3 0 (wI (u0 - 1))).bind fun y11 =>
      some (!y11))))))).bind fun u4 =>
cond u4
 (some false)
 (Qb (A9 (fun s_:Nat=>Dh u1 u0 s_) 4611686018427387904 0) fun _ =>
 (Co u0 u1 u2 u3).bind fun y29 =>
 Qb (A9 (fun s_:Nat=>Cu y29 s_) 4611686018427387904 0) fun _ =>
 some true)
def N0 (r:Bool):RV:=⟨false,[(false,[.sc (.bool r)])]⟩
set_option maxHeartbeats 1600000 in
theorem Nl {u0:Int} {u1:List (Int×Int×(List Int)×List Int)} {u2 u3:List Int} {r:Bool} (h:Dn u0 u1 u2 u3=some r):Ay Tryd.prog Tab 17 [.agg [ai u0,.tree (.pair .int (.pair .int (.pair sI sI))) u1,tI u2,tI u3]] (N0 r):=by
 refine A0 (by kernel_rfl) Tryd.func17 P1 (n:=82) (by kernel_rfl) (by simp) rfl ?_;unfold Ix;unfold Dn at h;refine Am (Ab (A3 h (fun (u6:Bool) S_=>S_=⟨Al [(1,.box (oi 0 1) 0),(47,.bool u6)],Ah (Aq [(oi 0 1,.cells 31 [ai u0,.tree (.pair .int (.pair .int (.pair sI sI))) u1,tI u2,tI u3])]),2⟩) ?_ ?_))
 ·intro v_ h;obtain ⟨y4,h4,h⟩:=Ag h;refine Aa 43 (rsT 2 (zc (.bool y4) [] [ai u0,ai 0,ai 100] (Dw h4) (rsT 2 ?_)));rcases Ad h with ⟨q5,h⟩ | ⟨q5,h⟩
  ·refine rq 12 q5 (rsT 35 (As (tn_ ?_)));obtain rfl:=zj h;exact ⟨_,Ac [(oi 0 1,oi 1 1)],rfl⟩
  refine rq 12 q5 (rsT 6 ?_);rcases Ad h with ⟨q6,h⟩ | ⟨q6,h⟩
  ·have q6_:=of_decide_eq_true q6;refine rq 18 q6 (rsT 29 (As (tn_ ?_)));obtain rfl:=zj h;exact ⟨_,Ac [(oi 0 1,oi 1 1)],rfl⟩
  have q6_:=of_decide_eq_false q6;refine rq 18 q6 (rsT 6 ?_);rcases Ad h with ⟨q7,h⟩ | ⟨q7,h⟩
  ·have q7_:=of_decide_eq_true q7;refine rq 24 q7 (rsT 23 (As (tn_ ?_)));obtain rfl:=zj h;exact ⟨_,Ac [(oi 0 1,oi 1 1)],rfl⟩
  have q7_:=of_decide_eq_false q7;refine rq 24 q7 (rsT 6 ?_);rcases Ad h with ⟨q8,h⟩ | ⟨q8,h⟩
  ·have q8_:=of_decide_eq_true q8;refine rq 30 q8 (rsT 17 (As (tn_ ?_)));obtain rfl:=zj h;exact ⟨_,Ac [(oi 0 1,oi 1 1)],rfl⟩
  have q8_:=of_decide_eq_false q8;obtain ⟨y9,h9,h⟩:=Ag h;refine rq 30 q8 (rsT 5 (Ii (.bool y9) [] [tI u2,ai 0,ai (wI (u0 - 1))] _ (caps:=[]) (args0:=[tI u2,ai 0,ai (wI (u0 - 1))]) (K2 (by kernel_rfl)) (by kernel_rfl) (E8 h9) E7 (rsT 3 ?_)));rcases Ad h with ⟨q10,h⟩ | ⟨q10,h⟩
  ·refine rq 39 q10 (rsT 8 (As (tn_ ?_)));obtain rfl:=zj h;exact ⟨_,Ac [(oi 0 1,oi 1 1)],rfl⟩
  obtain ⟨y11,h11,h⟩:=Ag h;refine rq 39 q10 (rsT 5 (Ii (.bool y11) [] [tI u3,ai 0,ai (wI (u0 - 1))] _ (caps:=[]) (args0:=[tI u3,ai 0,ai (wI (u0 - 1))]) (K2 (by kernel_rfl)) (by kernel_rfl) (E8 h11) E7 (rsT 2 (As (tn_ ?_)))));obtain rfl:=zj h;exact ⟨_,Ac [(oi 0 1,oi 1 1)],rfl⟩
 rintro u6 _ rfl h
 (try dsimp only at h);rcases Ad h with ⟨q12,h⟩ | ⟨q12,h⟩
 ·refine Af q12 (Am (Ai (tr_ ?_)));obtain rfl:=zj h;exact A7 [.bool false] (At rfl zl Ax)
 refine Ae q12 (Aj (tn_ (wr_ (Gc h (fun (_:Unit) S_=>S_=⟨Al [(1,.box (oi 0 1) 0)],Ah (Aq [(oi 0 1,.cells 31 [ai u0,.tree (.pair .int (.pair .int (.pair sI sI))) u1,tI u2,tI u3])]),2⟩) ?_ ?_))))
 ·intro v_ h hk14;refine Am (An (Bb h (fun (u5:Nat) S_=>S_=⟨Al [(1,.box (oi 0 1) 0),(49,.tree (.pair .int (.pair .int (.pair sI sI))) u1),(50,an u1.length),(51,an u5)],Ah (Aq [(oi 0 1,.cells 31 [ai u0,.tree (.pair .int (.pair .int (.pair sI sI))) u1,tI u2,tI u3])]),2⟩) ⟨_,Ac [],rfl⟩ ?_));rintro n_ u5 _ c_ rfl h hn16
  (try dsimp only at h);unfold Dh at h;unfold Gr;refine Am (Ab ?_);rcases Ad h with ⟨q19,h⟩ | ⟨q19,h⟩
  ·have q19_:=of_decide_eq_true q19;refine Af q19 (Aj (tn_ (wr_ (Ab (An (Ab ?_))))));obtain ⟨x22,e22,h⟩:=Ag h;refine Aa 7 (rs0 (.telt none (.pair .int (.pair .int (.pair sI sI))) x22 0) (zi (t:=.pair .int (.pair .int (.pair sI sI))) (xs:=u1) (k:=.i64) (m:=(u5:Int)) (F3 _) e22) (rsB 3 (As (tn_ (wr_ (Ab ?_))))));obtain ⟨y24,h24,h⟩:=Ag h;refine Aa 12 (rsT 3 (zc (.bool y24) [] [.agg [ai x22.1,ai x22.2.1,tI x22.2.2.1,tI x22.2.2.2],ai u0] (Qf h24) (rsT 1 (As (tn_ (wr_ ?_))))));rcases Ad h with ⟨q25,h⟩ | ⟨q25,h⟩
   ·refine Af q25 (Am (Ai (br_ (tr_ (tr_ (br_ (tr_ ?_)))))));obtain rfl:=zj h;have h:=hn16
    (try dsimp only at h);obtain rfl:=zj h;have h:=hk14
    (try dsimp only at h);obtain rfl:=zj h;exact A7 [.bool false] (At rfl zl Ax)
   refine Ae q25 (Aj (bn_ (tn_ (wr_ ?_))));obtain ⟨g27,h⟩:=Au h;refine Aa 14 (zA g27 (rsT 1 (As (tn_ ?_))));obtain rfl:=zj h;exact ⟨u5+1,_,Ac [],rfl,hn16⟩
  have q19_:=of_decide_eq_false q19;refine Ae q19 (A8 (te_ (te_ (be_ (tn_ ?_)))));obtain rfl:=zj h;have h:=hn16
  (try dsimp only at h);obtain rfl:=zj h;exact ⟨(),_,rfl,Ac [],rfl⟩
 rintro _ _ rfl h
 (try dsimp only at h);refine Ab ?_;obtain ⟨y29,h29,h⟩:=Ag h;refine Aa 9 (rsT 1 (zc (.tup [oI 1008 3 y29.1.length,oI 1009 3 y29.2.length]) [nI 1008 3 y29.1,nI 1009 3 y29.2] [.agg [ai u0,.tree (.pair .int (.pair .int (.pair sI sI))) u1,tI u2,tI u3]] (Mf h29) (rsT 5 (As (tn_ (wr_ (Gc h (fun (_:Unit) S_=>S_=⟨Al [],Ah (Aq []),2⟩) ?_ ?_)))))))
 ·intro v_ h hk30;refine Am (An (Bb h (fun (u4:Nat) S_=>S_=⟨Al [(5,oI 0 1 y29.1.length),(6,oI 1 1 y29.2.length),(67,an y29.1.length),(68,an u4)],Ah (Aq [(oi 0 1,.arr 3 .int y29.1),(oi 1 1,.arr 3 .int y29.2)]),2⟩) ⟨_,Ac [(oi 0 1,oi 1008 3),(oi 1 1,oi 1009 3)],rfl⟩ ?_));rintro n_ u4 _ c_ rfl h hn32
  (try dsimp only at h);unfold Cu at h;unfold Gt;refine Am (Ab ?_);rcases Ad h with ⟨q35,h⟩ | ⟨q35,h⟩
  ·have q35_:=of_decide_eq_true q35;refine Af q35 (Aj (tn_ (wr_ (Ab (An (Am (Ab ?_)))))));obtain ⟨x39,e39,h⟩:=Ag h;obtain ⟨x40,e40,h⟩:=Ag h;refine Be 15 (dz0 (oI 0 1 y29.1.length) (dz0 (an u4) (dzO (oi 0 1) .int y29.1.length (Bj e39) (dzE (oi 0 1) e39 (dz0 (oI 1 1 y29.2.length) (dz0 (an u4) (dzO (oi 1 1) .int y29.2.length (Bj e40) (dzE (oi 1 1) e40 (dz0 (ai (wI (x39+x40))) (dz0 (.bool ((wI (x39+x40))==0)) (N9 (Cf (by kernel_rfl)) (tn_ (wr_ ?_)))))))))))));rcases Ad h with ⟨q41,h⟩ | ⟨q41,h⟩
   ·refine Af q41 (Am (Ai (br_ (tr_ (tr_ (br_ (tr_ ?_)))))));obtain rfl:=zj h;have h:=hn32
    (try dsimp only at h);obtain rfl:=zj h;have h:=hk30
    (try dsimp only at h);obtain rfl:=zj h;exact A7 [.bool false] (At rfl zl Ax)
   refine Ae q41 (Aj (bn_ (tn_ (wr_ ?_))));obtain ⟨g43,h⟩:=Au h;refine Aa 17 (zA g43 (rsT 1 (As (tn_ ?_))));obtain rfl:=zj h;exact ⟨u4+1,_,Ac [],rfl,hn32⟩
  have q35_:=of_decide_eq_false q35;refine Ae q35 (A8 (te_ (te_ (be_ (tn_ ?_)))));obtain rfl:=zj h;have h:=hn32
  (try dsimp only at h);obtain rfl:=zj h;exact ⟨(),_,rfl,Ac [],rfl⟩
 rintro _ _ rfl h
 (try dsimp only at h);refine Am (Ai ?_);obtain rfl:=zj h;exact A7 [.bool true] (At rfl zl Ax)
end

section
open Go.RowKit Go.Deep
end
section
open Go.RowKit Go.Deep
section
variable {n:Nat} {d:Option Nat} {f:Nat->AV} {ob:Oid->Option Ob}
end
end
end Go.Proofs.YtgljmpiofhlkjaaDoor
