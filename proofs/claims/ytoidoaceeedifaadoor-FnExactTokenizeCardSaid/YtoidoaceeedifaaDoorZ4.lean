/- Lemmas on the program and on partial functions that stand in place of its code (part 4); no condition beyond those that each one states. -/
import Derived.Test.YtoidoaceeedifaaDoorZ3
import Derived.KernelRfl
import Derived.IntWalk
import Derived.WalkKit
import Derived.LaidEql
import Derived.Stop.Asserts
import Derived.RowKitTokens
import Derived.Laws.Cells
import Derived.Laws.IdiomCopy
import Derived.BigQuiet
import Derived.Shelf.Small.Strs
import Derived.Deep.RegionHeld3
namespace Go.Proofs.YtoidoaceeedifaaDoor
section
open Go.RowKit Go.Deep
section
variable {P:Program} {G:World->Prop}
theorem Ab {x y:AC} {R:AE->St->Prop} {S:St} (h:awp P G x (Cg (fun S'=>∃ S'',WeakG G S' S''/\awp P G y R S'') R) S):awp P G (.seq x y) R S:=h
theorem Kw {x y:AC} {R:AE->St->Prop} {S:St} (K:St->Prop) (h:awp P G x (Cg (fun S'=>∃ S'',WeakG G S' S''/\K S'') R) S) (k:∀ S'',K S''->awp P G y R S''):awp P G (.seq x y) R S:=by
 unfold awp
 exact A0 (fun e S hq=>by
  cases e with
  | normal=>obtain ⟨S'',hw,hk⟩:=hq;exact ⟨S'',hw,k S'' hk⟩
  | exit id=>exact hq
  | ret=>exact hq) h
def Vd (rs:List Rec) (ds:List (List Oid)):List (Nat×Nat)->Bool
 | []=>true
 | p :: ps=>(let ri:=rs.getD p.2 (0,.any,[]);let rj:=rs.getD p.1 (0,.any,[]);let di:=ds.getD p.2 [];let dj:=ds.getD p.1 []
   ((!(ri.1==2)||rj.1==0)&&(!(rj.1==2)||ri.1==0))||((!(ri.1==2)||ri.2.2.all fun u=> !dj.contains u.1)&&((!(rj.1==2)||rj.2.2.all fun u=> !di.contains u.1)&&ri.2.2.all fun u=>rj.2.2.all fun v=> !(u.1==v.1))))&&Vd rs ds ps
theorem J8 {rs:List Rec} {ds:List (List Oid)}:∀ {bad:List (Nat×Nat)},Vd rs ds bad=true->N5 rs ds bad
 | [],_=>trivial
 | p :: ps,h=>by
  simp only [Vd,Bool.and_eq_true] at h;refine ⟨?_,J8 h.2⟩;have h1:=h.1;simp only [Bool.or_eq_true,Bool.and_eq_true,Bool.not_eq_true',beq_eq_false_iff_ne,beq_iff_eq,List.all_eq_true,List.contains_eq_mem,decide_eq_false_iff_not] at h1;unfold Fl;rcases h1 with ⟨a,b⟩|⟨a,b,c⟩
  ·refine .inl ⟨fun e=>?_,fun e=>?_⟩
   ·rcases a with a|a
    ·exact absurd e a
    ·exact a
   ·rcases b with b|b
    ·exact absurd e b
    ·exact b
  ·refine .inr ⟨fun e=>?_,fun e=>?_,c⟩
   ·rcases a with a|a
    ·exact absurd e a
    ·exact a
   ·rcases b with b|b
    ·exact absurd e b
    ·exact b
def XW (P:Program) (G:World->Prop) (g k:Nat) (xs:List X) (tl:List (Nat×AV)) (ol:List (Oid×Option Ob)) (Kf:List (Nat×AV)->List (Oid×Option Ob)->Prop):Prop :=
 ∃ rs tl' ol',Td P G g k xs (Ae tl) (Ac ol) rs (Ae tl') (Ac ol')/\Kf tl' ol'
def XD (P:Program) (G:World->Prop) (bad:List (Nat×Nat)) (g k:Nat) (xs:List X) (tl:List (Nat×AV)) (ol:List (Oid×Option Ob)) (ra:List Rec) (da:List (List Oid)) (Kf:List (Nat×AV)->List (Oid×Option Ob)->Prop):Prop :=
 ∃ rs ds tl' ol',Qj P G g k xs (Ae tl) (Ac ol) rs ds (Ae tl') (Ac ol')/\N5 (ra.reverse++rs) (da.reverse++ds) bad/\Kf tl' ol'
theorem Aa {xs:List X} {bad:List (Nat×Nat)} {R:AE->St->Prop} {tl:List (Nat×AV)} {ol:List (Oid×Option Ob)} {g:Nat} (g':Nat) (h:XW P G g 0 xs tl ol fun tl' ol'=>R .normal ⟨Ae tl',Ac ol',g'⟩) (hn:g+xs.length=g':=by kernel_rfl):awp P G (.region xs false bad) R ⟨Ae tl,Ac ol,g⟩:=by
 obtain ⟨rs,tl',ol',h,hr⟩:=h;exact ⟨rs,_,_,h,by subst hn;exact hr⟩
theorem Qf {tl:List (Nat×AV)} {d:Nat} {v:AV} (h:Ae tl d=v):Ae ((d,v) :: tl)=Ae tl:=by
 funext i;show (if i=d then v else Ae tl i)=Ae tl i;split
 ·rename_i e;rw [e,h]
 ·rfl
theorem rq {xs:List X} {tl:List (Nat×AV)} {ol:List (Oid×Option Ob)} {g k:Nat} {Kf:List (Nat×AV)->List (Oid×Option Ob)->Prop} (d:Nat) {b c:Bool} (q:b=c) (h:XW P G g k xs ((d,.bool c) :: tl) ol Kf) (hd:Ae tl d=.bool b:=by kernel_rfl):XW P G g k xs tl ol Kf:=by
 subst q;unfold XW at *
 rwa [Qf hd] at h
theorem Gy {xs:List X} {bad:List (Nat×Nat)} {R:AE->St->Prop} {tl:List (Nat×AV)} {ol:List (Oid×Option Ob)} {g:Nat} (g':Nat) (h:XD P G bad g 0 xs tl ol [] [] fun tl' ol'=>R .normal ⟨Ae tl',Ac ol',g'⟩) (hn:g+xs.length=g':=by kernel_rfl):awp P G (.region xs true bad) R ⟨Ae tl,Ac ol,g⟩:=by
 obtain ⟨rs,ds,tl',ol',h,hb,hr⟩:=h;exact ⟨rs,ds,_,_,h,hb,by subst hn;exact hr⟩
theorem Gq (tl:List (Nat×AV)) (d:Nat) (v:AV):upd (Ae tl) d v=Ae ((d,v) :: tl):=by
 funext i;rfl
def J0:Option Ob->Bool
 | some (.pool ..)=>false
 | some (.mat ..)=>false
 | some (.tv ..)=>false
 | _=>true
def Cz (us:List (Oid×Option Ob)):Bool:=us.all fun u=>J0 u.2
theorem Ng {ol:List (Oid×Option Ob)} {j:Oid} {o:Option Ob} (h:J0 o=true):upd (Ac ol) j o=Ac ((j,o) :: ol):=by
 cases o with
 | none=>funext i;rfl
 | some o=>cases o <;> first|(funext i;rfl)|cases h
theorem C9:∀ (us ol:List (Oid×Option Ob)),Cz us=true->Ad us (Ac ol)=Ac (us.reverseAux ol)
 | [],_,_=>rfl
 | (j,o) :: us,ol,h=>by
  simp only [Cz,List.all_cons,Bool.and_eq_true] at h;show Ad us (upd (Ac ol) j o)=_;rw [Ng h.1];exact C9 us _ h.2
theorem Ev {p:Bool} {n:Nat} {x:X} {f:Nat->AV} {ob:Oid->Option Ob} {r:Rec} (h:A1 n x f ob=some r):Cm P G p n x f ob r:=by
 unfold A1 at h;unfold Cm;split at h
 ·exact .inl (.inl (.inl h))
 ·split at h
  ·rename_i hc;exact ⟨true,hc,by rw [if_pos rfl];exact .inl (.inl (.inl h))⟩
  ·rename_i hc;exact ⟨false,hc,by rw [if_neg (by simp)];exact (osj h).symm⟩
  ·cases h
def Jq (gd:Option (Nat×Bool)) (f:Nat->AV):Prop :=
 match gd with
 | none=>True
 | some (s,c)=>f s=.bool c
theorem Oa {s:Nat} {b:Bool} {f:Nat->AV} (h:Jq (some (s,b)) f):gdv (f s) b=some true:=by
 rw [show f s=.bool b from h];simp [gdv]
theorem Uz {s:Nat} {b:Bool} {f:Nat->AV} (h:f s=.bool b):Jq (some (s,b)) f:=h
theorem Pd {p:Bool} {n:Nat} {d:Option Nat} {gd:Option (Nat×Bool)} {fo:Opd} {xs:List Opd} {tys:List (List (Option Ty))} {f:Nat->AV} {ob:Oid->Option Ob} {F:FuncId} {caps args0 args:List AV} {rv:RV} {r:AV×List (Oid×Option Ob)}
  (hgd:Jq gd f) {F0:FuncId} (hfo:fo.ev f=.fn F0 caps) (hF:Ga F0=F) (h1:E5 (gnd ob 8) ((Bj F0 xs (caps.map Opd.cst)).map (Opd.ev f))=some args0) (hn:Fe tys args0=args) (hb:Bb P F=true) (hc:Cy P G F args rv) (hni:rv.noI=true) (hr:rv.out (Cu ((d.getD 0,0),n)) ((Bj F0 xs (caps.map Opd.cst)).map (Opd.ev f))=r) :
  Cm P G p n ⟨d,gd,.call fo xs tys⟩ f ob (1,r.1,r.2):=by
 subst hn hF;have key:EvR P G p f ob ((d.getD 0,0),n) (.call fo xs tys) (1,r.1,r.2):=.inr ⟨fo,xs,tys,F0,caps,rfl,hfo,.inl ⟨rfl,hb,args0,rv,.inl ⟨h1,hni⟩,hc,hr⟩⟩;unfold Cm;cases gd with
 | none=>exact key
 | some sb=>exact ⟨true,Oa hgd,by rw [if_pos rfl];exact key⟩
theorem Pu {n:Nat} {d:Option Nat} {gd:Option (Nat×Bool)} {fo:Opd} {xs:List Opd} {tys:List (List (Option Ty))} {f:Nat->AV} {ob:Oid->Option Ob} {F:FuncId} {caps zs args:List AV} {v:AV} {ol us:List (Oid×Ob)} (θ:Oid->Oid)
  (hgd:Jq gd f) (hfo:fo.ev f=.fn F caps) (hF:F<mtd) (hz:(xs++caps.map Opd.cst).map (Opd.ev f)=zs) (h1:Eh θ (I6 ((nmL ol).map θ) ob) zs args) (h2:∀ q∈exL ol,ob (θ q.1)=some (q.2.ren θ)) (h3:∀ q∈exL ol,∀ q'∈exL ol,θ q.1=θ q'.1->q.1=q'.1) (h4:∀ j∈nmL ol,Reached zs ob (θ j))
  (h5:∀ q∈exL us,q.1.2=1∨(q.1.2=0/\q.1∈nmL ol)) (hb:Bb P F=true) (hc:Fm P G F args ol v us) :
  Cm P G false n ⟨d,gd,.call fo xs tys⟩ f ob (2,v.ren (Au θ ((d.getD 0,0),n)),C1 θ ((d.getD 0,0),n) ol us):=by
 have hN:Ss P G f ob ((d.getD 0,0),n) (Ga F) (Bj F xs (caps.map Opd.cst)) (v.ren (Au θ ((d.getD 0,0),n)),C1 θ ((d.getD 0,0),n) ol us):=by
  rw [← hz] at h1 h4;unfold Ga Bj;rw [if_pos hF,if_pos hF];refine .inl ⟨hb,θ,args,ol,us,v,h1,h2,fun j k hj hk e=>?_,h4,hc,fun j hj=>?_,rfl⟩
  ·obtain ⟨q,hq,rfl⟩:=List.mem_map.1 hj;obtain ⟨q',hq',rfl⟩:=List.mem_map.1 hk;exact h3 q hq q' hq' e
  ·obtain ⟨q,hq,rfl⟩:=List.mem_map.1 hj;rcases h5 q hq with h|⟨_,h⟩
   ·exact .inl (by rw [h];decide)
   ·exact .inr h
 have key:EvR P G false f ob ((d.getD 0,0),n) (.call fo xs tys) (2,v.ren (Au θ ((d.getD 0,0),n)),C1 θ ((d.getD 0,0),n) ol us):=.inr ⟨fo,xs,tys,F,caps,rfl,hfo,.inr ⟨rfl,rfl,hN⟩⟩;unfold Cm;cases gd with
 | none=>exact key
 | some sb=>exact ⟨true,Oa hgd,by rw [if_pos rfl];exact key⟩
theorem Vh {n:Nat} {d:Option Nat} {gd:Option (Nat×Bool)} {q:Q} {f:Nat->AV} {ob:Oid->Option Ob} {r:Rec} (hgd:Jq gd f) (h:evL f ((d.getD 0,0),n) q=some r):Cm P G false n ⟨d,gd,q⟩ f ob r:=by
 have key:EvR P G false f ob ((d.getD 0,0),n) q r:=.inl (.inl (.inr h));unfold Cm;cases gd with
 | none=>exact key
 | some sb=>exact ⟨true,Oa hgd,by rw [if_pos rfl];exact key⟩
theorem As {g k:Nat} {tl:List (Nat×AV)} {ol:List (Oid×Option Ob)} {Kf:List (Nat×AV)->List (Oid×Option Ob)->Prop} (h:Kf tl ol):XW P G g k [] tl ol Kf:=⟨[],tl,ol,⟨rfl,rfl,rfl⟩,h⟩
theorem V5 {bad:List (Nat×Nat)} {g k:Nat} {tl:List (Nat×AV)} {ol:List (Oid×Option Ob)} {ra:List Rec} {da:List (List Oid)} {Kf:List (Nat×AV)->List (Oid×Option Ob)->Prop} (hb:N5 (ra.reverse++[]) (da.reverse++[]) bad) (h:Kf tl ol):XD P G bad g k [] tl ol ra da Kf:=⟨[],[],tl,ol,⟨rfl,rfl,rfl,rfl⟩,hb,h⟩
section
variable {g k d:Nat} {gd:Option (Nat×Bool)} {q:Q} {xs:List X} {tl:List (Nat×AV)} {ol:List (Oid×Option Ob)} {bad:List (Nat×Nat)} {ra:List Rec} {da:List (List Oid)} {Kf:List (Nat×AV)->List (Oid×Option Ob)->Prop}
theorem Sb (c:Nat) (v:AV) (us ol':List (Oid×Option Ob)) (h:Cm P G false (g+k) ⟨some d,gd,q⟩ (Ae tl) (Ac ol) (c,v,us)) (he:Ad us (Ac ol)=Ac ol') (h3:XW P G g (k+1) xs ((d,v) :: tl) ol' Kf):XW P G g k (⟨some d,gd,q⟩ :: xs) tl ol Kf :=
 by
 obtain ⟨rs,tl',ol',h3,hk⟩:=h3;exact ⟨_,tl',ol',⟨_,_,rfl,h,by simp only [Dw,Gq,he];exact h3⟩,hk⟩
theorem T8 (c:Nat) (v:AV) (us ol':List (Oid×Option Ob)) (h:Cm P G false (g+k) ⟨none,gd,q⟩ (Ae tl) (Ac ol) (c,v,us)) (he:Ad us (Ac ol)=Ac ol') (h3:XW P G g (k+1) xs tl ol' Kf):XW P G g k (⟨none,gd,q⟩ :: xs) tl ol Kf :=
 by
 obtain ⟨rs,tl',ol',h3,hk⟩:=h3;exact ⟨_,tl',ol',⟨_,_,rfl,h,by simp only [Dw,he];exact h3⟩,hk⟩
theorem Q6 (c:Nat) (v:AV) (us ol':List (Oid×Option Ob)) (h:Cm P G false (g+k) ⟨some d,gd,q⟩ (Ae tl) (only (rdX (Ae tl) (Ac ol) ⟨some d,gd,q⟩) (Ac ol)) (c,v,us)) (he:Ad us (Ac ol)=Ac ol') (h3:XD P G bad g (k+1) xs ((d,v) :: tl) ol' ((c,v,us) :: ra) ((rdX (Ae tl) (Ac ol) ⟨some d,gd,q⟩) :: da) Kf):XD P G bad g k (⟨some d,gd,q⟩ :: xs) tl ol ra da Kf :=
 by
 obtain ⟨rs,ds,tl',ol',h3,hb,hk⟩:=h3;refine ⟨_,_,tl',ol',⟨_,rs,ds,rfl,rfl,h,by simp only [Dw,Gq,he];exact h3⟩,?_,hk⟩
 simpa using hb
theorem Pr (c:Nat) (v:AV) (us:List (Oid×Option Ob)) (h:Cm P G false (g+k) ⟨some d,gd,q⟩ (Ae tl) (Ac ol) (c,v,us)) (h3:XW P G g (k+1) xs ((d,v) :: tl) (us.reverseAux ol) Kf) (hx:Cz us=true):XW P G g k (⟨some d,gd,q⟩ :: xs) tl ol Kf:=Sb c v us _ h (C9 us ol hx) h3
theorem Vc (c:Nat) (v:AV) (us:List (Oid×Option Ob)) (h:Cm P G false (g+k) ⟨none,gd,q⟩ (Ae tl) (Ac ol) (c,v,us)) (h3:XW P G g (k+1) xs tl (us.reverseAux ol) Kf) (hx:Cz us=true):XW P G g k (⟨none,gd,q⟩ :: xs) tl ol Kf:=T8 c v us _ h (C9 us ol hx) h3
theorem Uc (c:Nat) (v:AV) (us:List (Oid×Option Ob)) (h:Cm P G false (g+k) ⟨some d,gd,q⟩ (Ae tl) (only (rdX (Ae tl) (Ac ol) ⟨some d,gd,q⟩) (Ac ol)) (c,v,us)) (h3:XD P G bad g (k+1) xs ((d,v) :: tl) (us.reverseAux ol) ((c,v,us) :: ra) ((rdX (Ae tl) (Ac ol) ⟨some d,gd,q⟩) :: da) Kf) (hx:Cz us=true):XD P G bad g k (⟨some d,gd,q⟩ :: xs) tl ol ra da Kf:=Q6 c v us _ h (C9 us ol hx) h3
-- the shape of most steps: what the machine says is found by reckoning
theorem rs0 (v:AV) (h:A1 (g+k) ⟨some d,gd,q⟩ (Ae tl) (Ac ol)=some (0,v,[])) (h3:XW P G g (k+1) xs ((d,v) :: tl) ol Kf):XW P G g k (⟨some d,gd,q⟩ :: xs) tl ol Kf:=Pr 0 v [] (Ev h) h3 rfl
theorem rs2 (v:AV) (j i:Oid) (o:Ob) (h:A1 (g+k) ⟨some d,gd,q⟩ (Ae tl) (Ac ol)=some (2,v,[(j,none),(i,some o)])) (h3:XW P G g (k+1) xs ((d,v) :: tl) ((i,some o) :: (j,none) :: ol) Kf) (hx:J0 (some o)=true:=by rfl):XW P G g k (⟨some d,gd,q⟩ :: xs) tl ol Kf:=Pr 2 v _ (Ev h) h3 (by simp only [Cz,List.all_cons,List.all_nil,hx];rfl)
theorem U8 (j i:Oid) (o:Ob) (h:A1 (g+k) ⟨none,gd,q⟩ (Ae tl) (Ac ol)=some (2,.any,[(j,none),(i,some o)])) (h3:XW P G g (k+1) xs tl ((i,some o) :: (j,none) :: ol) Kf) (hx:J0 (some o)=true:=by rfl):XW P G g k (⟨none,gd,q⟩ :: xs) tl ol Kf:=Vc 2 _ _ (Ev h) h3 (by simp only [Cz,List.all_cons,List.all_nil,hx];rfl)
theorem ds0 (v:AV) (h:A1 (g+k) ⟨some d,gd,q⟩ (Ae tl) (only (rdX (Ae tl) (Ac ol) ⟨some d,gd,q⟩) (Ac ol))=some (0,v,[])) (h3:XD P G bad g (k+1) xs ((d,v) :: tl) ol ((0,v,[]) :: ra) ((rdX (Ae tl) (Ac ol) ⟨some d,gd,q⟩) :: da) Kf):XD P G bad g k (⟨some d,gd,q⟩ :: xs) tl ol ra da Kf:=Uc 0 v [] (Ev h) h3 rfl
section
variable {fo:Opd} {ys:List Opd} {tys:List (List (Option Ty))} {F:FuncId} {caps:List AV} {rv:RV} {args0:List AV}
theorem Ko (v:AV) (us:List (Oid×Option Ob)) (zs args:List AV) (hgd:Jq gd (Ae tl)) (h1:E5 (gnd (Ac ol) 8) zs=some args0) (hc:Cy P G F args rv) (hb:Bb P F=true) (h3:XW P G g (k+1) xs ((d,v) :: tl) (us.reverseAux ol) Kf) (m:Nat:=0) (hfo:fo.ev (Ae tl)=.fn (F+m) caps:=by kernel_rfl) (hz:(Bj (F+m) ys (caps.map Opd.cst)).map (Opd.ev (Ae tl))=zs:=by kernel_rfl) (hn:Fe tys args0=args:=by kernel_rfl) (hr:rv.out (Cu ((d,0),g+k)) zs=(v,us):=by kernel_rfl) (hF:Ga (F+m)=F:=by kernel_rfl) (hx:Cz us=true:=by rfl) (hni:rv.noI=true:=by kernel_rfl):XW P G g k (⟨some d,gd,.call fo ys tys⟩ :: xs) tl ol Kf:=by
 subst hz;exact Pr 1 v us (Pd (P:=P) (G:=G) (p:=false) (n:=g+k) (d:=some d) hgd hfo hF h1 hn hb hc hni hr) h3 hx
theorem V2 (v:AV) (us:List (Oid×Option Ob)) (zs args:List AV) (hgd:Jq gd (Ae tl)) (h1:E5 (gnd (only (rdX (Ae tl) (Ac ol) ⟨some d,gd,.call fo ys tys⟩) (Ac ol)) 8) zs=some args0) (hc:Cy P G F args rv) (hb:Bb P F=true) (h3:XD P G bad g (k+1) xs ((d,v) :: tl) (us.reverseAux ol) ((1,v,us) :: ra) ((rdX (Ae tl) (Ac ol) ⟨some d,gd,.call fo ys tys⟩) :: da) Kf) (m:Nat:=0) (hfo:fo.ev (Ae tl)=.fn (F+m) caps:=by kernel_rfl) (hz:(Bj (F+m) ys (caps.map Opd.cst)).map (Opd.ev (Ae tl))=zs:=by kernel_rfl) (hn:Fe tys args0=args:=by kernel_rfl) (hr:rv.out (Cu ((d,0),g+k)) zs=(v,us):=by kernel_rfl) (hF:Ga (F+m)=F:=by kernel_rfl) (hx:Cz us=true:=by rfl) (hni:rv.noI=true:=by kernel_rfl):XD P G bad g k (⟨some d,gd,.call fo ys tys⟩ :: xs) tl ol ra da Kf:=by
 subst hz;exact Uc 1 v us (Pd (P:=P) (G:=G) (p:=false) (n:=g+k) (d:=some d) hgd hfo hF h1 hn hb hc hni hr) h3 hx
def Ka (l:List (Oid×Oid)) (ol us:List (Oid×Ob)) (n:Nat) (ol0:List (Oid×Option Ob)):Bool:=Fz l&&(Cd ol&&(Tq (Aj l) ol&&(N9 ol us&&O4 n ol0)))
theorem Mx {l:List (Oid×Oid)} {ol us:List (Oid×Ob)} {n:Nat} {ol0:List (Oid×Option Ob)} (h:Ka l ol us n ol0=true) (hR:G2 ol0 (Aj l) ol) :
  (∀ q∈exL ol,Ac ol0 (Aj l q.1)=some (q.2.ren (Aj l)))/\(∀ q∈exL ol,∀ q'∈exL ol,Aj l q.1=Aj l q'.1->q.1=q'.1)/\(∀ q∈exL us,q.1.2=1∨(q.1.2=0/\q.1∈nmL ol))/\∀ i:Oid,i.2=n->Ad (C1 (Aj l) i ol us) (Ac ol0)=Ac (Ar (E2 (Au (Aj l) i) us)++(De (Aj l) ol++ol0)):=by
 simp only [Ka,Bool.and_eq_true] at h;obtain ⟨c1,c2,c3,c4,c5⟩:=h;refine ⟨Ma c1 hR (M6 c2),Rj (fun p e u xss hm k=>Cw c1 ?_ k) c3 c2,K5 c4,fun i hi=>Sq c1 c2 hR c4 (by rw [hi];exact c5) c3⟩;unfold Cd at c2;rw [List.all_eq_true] at c2;have:=c2 _ hm;simp only [Bool.and_eq_true,beq_iff_eq] at this;exact this.1
theorem S4 (v:AV) (ul:List (Oid×Option Ob)) (l:List (Oid×Oid)) (zs:List AV) {args:List AV} {ol0 us:List (Oid×Ob)} {v0:AV} (hgd:Jq gd (Ae tl)) (hc:Fm P G F args ol0 v0 us) (hb:Bb P F=true) (hR:G2 ol (Aj l) ol0) (h1:Eh (Aj l) (I6 ((nmL ol0).map (Aj l)) (Ac ol)) zs args) (h4:∀ j∈nmL ol0,Reached zs (Ac ol) (Aj l j)) (h3:XW P G g (k+1) xs ((d,v) :: tl) (ul++ol) Kf) (hfo:fo.ev (Ae tl)=.fn F caps:=by kernel_rfl) (hz:(ys++caps.map Opd.cst).map (Opd.ev (Ae tl))=zs:=by kernel_rfl) (hB:Ka l ol0 us (g+k) ol=true:=by kernel_rfl) (hF:F<mtd:=by decide) (hv:v0.ren (Au (Aj l) ((d,0),g+k))=v:=by kernel_rfl) (hu:Ar (E2 (Au (Aj l) ((d,0),g+k)) us)++De (Aj l) ol0=ul:=by kernel_rfl):XW P G g k (⟨some d,gd,.call fo ys tys⟩ :: xs) tl ol Kf:=by
 subst hv hu;obtain ⟨q1,q2,q3,q4⟩:=Mx hB hR;exact Sb 2 _ _ _ (Pu (n:=g+k) (d:=some d) (Aj l) hgd hfo hF hz h1 q1 q2 h4 q3 hb hc) (q4 ((d,0),g+k) rfl) (by rw [List.append_assoc] at h3;exact h3)
theorem U4 (v:AV) (ul:List (Oid×Option Ob)) (l:List (Oid×Oid)) (zs:List AV) {args:List AV} {ol0 us:List (Oid×Ob)} {v0:AV} (hgd:Jq gd (Ae tl)) (hc:Fm P G F args ol0 v0 us) (hb:Bb P F=true) (hR:G2 ol (Aj l) ol0) (h1:Eh (Aj l) (I6 ((nmL ol0).map (Aj l)) (only (rdX (Ae tl) (Ac ol) ⟨some d,gd,.call fo ys tys⟩) (Ac ol))) zs args) (h4:∀ j∈nmL ol0,Reached zs (only (rdX (Ae tl) (Ac ol) ⟨some d,gd,.call fo ys tys⟩) (Ac ol)) (Aj l j)) (hd:∀ q∈exL ol0,Aj l q.1∈rdX (Ae tl) (Ac ol) ⟨some d,gd,.call fo ys tys⟩) (h3:XD P G bad g (k+1) xs ((d,v) :: tl) (ul++ol) ((2,v,C1 (Aj l) ((d,0),g+k) ol0 us) :: ra) ((rdX (Ae tl) (Ac ol) ⟨some d,gd,.call fo ys tys⟩) :: da) Kf) (hfo:fo.ev (Ae tl)=.fn F caps:=by kernel_rfl) (hz:(ys++caps.map Opd.cst).map (Opd.ev (Ae tl))=zs:=by kernel_rfl) (hB:Ka l ol0 us (g+k) ol=true:=by kernel_rfl) (hF:F<mtd:=by decide) (hv:v0.ren (Au (Aj l) ((d,0),g+k))=v:=by kernel_rfl) (hu:Ar (E2 (Au (Aj l) ((d,0),g+k)) us)++De (Aj l) ol0=ul:=by kernel_rfl):XD P G bad g k (⟨some d,gd,.call fo ys tys⟩ :: xs) tl ol ra da Kf:=by
 subst hv hu;obtain ⟨q1,q2,q3,q4⟩:=Mx hB hR;exact Q6 2 _ _ _ (Pu (n:=g+k) (d:=some d) (Aj l) hgd hfo hF hz h1 (fun q hq=>by unfold only;rw [if_pos (hd q hq)];exact q1 q hq) q2 h4 q3 hb hc) (q4 ((d,0),g+k) rfl) (by rw [List.append_assoc] at h3;exact h3)
end
end
-- what arguments read as
theorem Lb {g:AV->Option AV}:E5 g []=some []:=rfl
theorem Dz {g:AV->Option AV} {c d:AV} {cs ds:List AV} (h:g c=some d) (hs:E5 g cs=some ds):E5 g (c :: cs)=some (d :: ds):=by simp only [E5,h,hs]
section
variable {ob:Oid->Option Ob} {n:Nat}
theorem Ha {i:Oid} {t u:Ty} {e:TypeId} {xs:List u.D} {len:Nat} (h:ob i=some (.arr e u xs)) (hl:len=xs.length):gnd ob (n+1) (.own i t 0 len)=some (.tree u xs):=by
 subst hl;simp only [gnd,h,Nat.zero_add,Nat.le_refl,if_true,List.drop_zero,List.take_length]
end
-- steps that hang on something
section
variable {n:Nat} {d:Option Nat} {f:Nat->AV} {ob:Oid->Option Ob}
theorem V9 {s:Nat} {b c:Bool} {q:Q} {r:Option Rec} (hs:f s=.bool c) (hc:c=b) (h:A1 n ⟨d,none,q⟩ f ob=r):A1 n ⟨d,some (s,b),q⟩ f ob=r:=by
 subst hc;simp only [A1,hs,gdv,beq_self_eq_true];exact h
theorem Bz {s:Nat} {b:Bool} {q:Q} (hs:f s=.tup []):A1 n ⟨d,some (s,b),q⟩ f ob=some (0,.tup [],[]):=by
 simp [A1,hs,gdv]
theorem Le {sz:Nat} {x i:Opd} {t:Ty} {xs:List t.D} {y:t.D} {k:IntKind} {m:Int} {j:Nat} (hx:(x.ev f).un=.tree t xs) (hi:i.ev f=.int k m) (hs:sz=t.size) (h0:0<=m) (hj:m.toNat=j) (hy:xs[j]? =some y) {g:Option (Nat->Prop)} (hg:(x.ev f).tag=g:=by kernel_rfl):A1 n ⟨d,none,.i (.idx sz x i)⟩ f ob=some (0,.telt g t y 0,[]):=by
 subst hs hj hg;simp [A1,ev,evN,hx,hi,h0,hy]
theorem Ul {sz:Nat} {x i:Opd} {t:Ty} {o:Oid} {len:Nat} {k:IntKind} {m:Int} {j:Nat} (hx:x.ev f=.own o t 0 len) (hi:i.ev f=.int k m) (hs:sz=t.size) (h0:0<=m) (hj:m.toNat=j) (hl:j<len):A1 n ⟨d,none,.i (.idx sz x i)⟩ f ob=some (0,.elt o j 0,[]):=by
 subst hs hj;have:m<(len:Int):=by omega
 simp [A1,ev,evN,hx,hi,h0,AV.un,this]
theorem S9 {one:Bool} {m:Nat} {x y:Opd} {i:Oid} {j k:Nat} {e:TypeId} {t:Ty} {xs:List t.D} {x0 x1:t.D} {cs:List AV} (hx:x.ev f=.elt i j k) (hob:ob i=some (.arr e t xs)) (hy:xs[j]? =some x0) (hc:Ep one m k (t.av x0) (y.ev f)=some cs) (hd:t.ofAV cs=some x1):A1 n ⟨d,none,.st one m x y⟩ f ob=some (2,.any,[(i,none),(i,some (.arr e t (xs.set j x1)))]):=by
 simp [A1,ev,Mq,hx,hob,hy,hc,hd]
theorem Hv {t t':Ty} {i:Oid} {e:TypeId} {xs:List t.D} {len:Nat} (h:ob i=some (.arr e t xs)) (hl:len=xs.length):Cq ob t (.own i t' 0 len)=some xs:=by
 subst hl;simp only [Cq,h,Nat.zero_add,Nat.le_refl,if_true,Ty.eq?_self,Cb,List.drop_zero,List.take_length]
theorem Ho {e:TypeId} {t t':Ty} {by_:Nat} {x y:Opd} {c:AV} {ys xs zs:List t.D} {j:Oid} {len:Nat} (hx:x.ev f=.own j t' 0 len) (hob:ob j=some (.arr e t xs)) (hl:len=xs.length) (hy:y.ev f=c) (hs:Cq ob t c=some ys) (hz:zs=xs++ys) (h:xs.length+ys.length<=1073741824/\(xs.length+ys.length)*by_<=140737488355328) :
  A1 n ⟨d,none,.append e t by_ x y⟩ f ob=some (2,.own (j.1,n) t 0 zs.length,[(j,none),((j.1,n),some (.arr e t zs))]):=by
 subst hl hz;simp only [A1,ev,Dg,hx,hy,hs,hob,Ty.eq?_self,Nat.le_refl,true_and,h.1,h.2,and_self,if_true,Cb,List.take_length,List.length_append]
theorem U9 {x y:Opd} {j:Nat} (hx:x.ev f=.int .i64 j) (hy:y.ev f=.int .i64 1) (h:j+1<4611686018427387904):A1 n ⟨d,none,.i (.bin .add x y)⟩ f ob=some (0,.int .i64 ((j+1:Nat):Int),[]):=by
 have:IntKind.i64.wrap ((j:Int)+1)=((j+1:Nat):Int):=by rw [Go.IntWalk.i64_in _ oM];rfl
 simp [A1,ev,evN,Hz,hx,hy,this]
theorem Vj {x y:Opd} {k:IntKind} {a b:Int} (hx:x.ev f=.int k a) (hy:y.ev f=.int k b) (h:b≠0):A1 n ⟨d,none,.i (.bin .quo x y)⟩ f ob=some (0,.int k (k.wrap (a.tdiv b)),[]):=by
 simp [A1,ev,evN,Hz,hx,hy,h]
theorem V7 {x y:Opd} {k:IntKind} {a b:Int} (hx:x.ev f=.int k a) (hy:y.ev f=.int k b) (h:b≠0):A1 n ⟨d,none,.i (.bin .rem x y)⟩ f ob=some (0,.int k (a.tmod b),[]):=by
 simp [A1,ev,evN,Hz,hx,hy,h]
theorem S7 {x y:Opd} {a b:ByteArray} (hx:x.ev f=.str a) (hy:y.ev f=.str b) (h:(a.size+b.size:Nat)<=9223372036854775807):A1 n ⟨d,none,.i (.bin .add x y)⟩ f ob=some (0,.str (a++b),[]):=by
 simp [A1,ev,evN,Hz,hx,hy,h]
theorem Ca {x i:Opd} {s:ByteArray} {k:IntKind} {m:Int} {j:Nat} {b:UInt8} (hx:x.ev f=.str s) (hi:i.ev f=.int k m) (h0:0<=m) (hj:m.toNat=j) (hy:s[j]? =some b):A1 n ⟨d,none,.i (.char x i)⟩ f ob=some (0,.int .u8 b.toNat,[]):=by
 subst hj;simp [A1,ev,evN,hx,hi,h0,hy]
theorem Iw {x:Opd} {lo hi:Option Opd} {s:ByteArray} {l h:Int} (hx:x.ev f=.str s) (hl:Bv f 0 lo=some l) (hh:Bv f s.size hi=some h) (hb:0<=l/\l<=h/\h<=s.size):A1 n ⟨d,none,.sub x lo hi⟩ f ob=some (0,.str (s.extract l.toNat h.toNat),[]):=by
 simp [A1,ev,Pe,hx,hl,hh,hb]
end
theorem Nv {c:Opd} {x y:AC} {R:AE->St->Prop} {S:St} {t:Bool} (ht:t=true) (h1:awp P G x R S) (h:c.ev S.tm=.bool t:=by kernel_rfl):awp P G (.cond c x y) R S:=by
 subst ht;exact .inl ⟨true,h,fun _=>h1,fun h=>nomatch h⟩
theorem N2 {c:Opd} {x y:AC} {R:AE->St->Prop} {S:St} {t:Bool} (ht:t=false) (h2:awp P G y R S) (h:c.ev S.tm=.bool t:=by kernel_rfl):awp P G (.cond c x y) R S:=by
 subst ht;exact .inl ⟨false,h,fun h=>(nomatch h),fun _=>h2⟩
theorem Ak {i:Nat} {a:AC} {R:AE->St->Prop} {S:St} (h:awp P G a (Co i R) S):awp P G (.block i a) R S:=h
theorem Py {a:AC} {R:AE->St->Prop} {S:St} {α:Type} (I:α->St->Prop) (μ:α->Nat) (h0:∃ s S0,WeakG G S S0/\I s S0) (h1:∀ s S1,I s S1->awp P G a (Cg (fun S2=>∃ s' S3,WeakG G S2 S3/\I s' S3/\μ s'<μ s) R) S1):awp P G (.loop a) R S:=⟨α,I,μ,h0,h1⟩
theorem Hm {i:Nat} {R:AE->St->Prop} {S:St} (h:R (.exit i) S):awp P G (.exit i) R S:=h
theorem Kg {R:AE->St->Prop} {S:St} (h:R .normal S):awp P G .skip R S:=h
theorem Ag {R:AE->St->Prop} {S:St} (h:R .ret S):awp P G .ret R S:=h
end
section
variable {K:St->Prop} {R:AE->St->Prop} {S:St} {i j:Nat}
theorem tn_ (h:K S):Cg K R .normal S:=h
theorem te_ (h:R (.exit i) S):Cg K R (.exit i) S:=h
theorem tr_ (h:R .ret S):Cg K R .ret S:=h
theorem bn_ (h:R .normal S):Co i R .normal S:=h
theorem be_ (h:R .normal S):Co i R (.exit i) S:=by simpa [Co] using h
theorem bf_ (hj:(j==i)=false) (h:R (.exit j) S):Co i R (.exit j) S:=by
 have:¬ j=i:=by simpa using hj
 simpa [Co,this] using h
theorem br_ (h:R .ret S):Co i R .ret S:=h
end
def tmL:Nat->List AV->List (Nat×AV)
 | _,[]=>[]
 | k,v :: r=>(k,v) :: tmL (k+1) r
theorem Mr:∀ (l:List AV) (k i:Nat),Ae (tmL k l) (k+i)=l.getD i .any
 | [],k,i=>by simp [tmL,Ae]
 | v :: r,k,i=>by
  cases i with
  | zero=>simp [tmL,Ae]
  | succ i =>
   have:=Mr r (k+1) i;simp only [tmL,Ae];rw [if_neg oM,show k+(i+1)=k+1+i by omega,this];simp
theorem O5 (args:List AV):(fun i=>args.getD i .any)=Ae (tmL 0 args):=by
 funext i;have:=Mr args 0 i;rw [Nat.zero_add] at this;exact this.symm
theorem St.init_eq (args:List AV):St.init args=⟨Ae (tmL 0 args),Ac [],1⟩:=by
 unfold St.init;rw [O5];rfl
theorem Qg {G:World->Prop} {tl:List (Nat×AV)} {ol:List (Oid×Option Ob)} {g:Nat} (s:Nat) (e:TypeId) (t:Ty) (ht:t.flat=true) (hs:Ae tl s=.nils):WeakG G ⟨Ae tl,Ac ol,g⟩ ⟨Ae ((s,.own ((s,0),g) t 0 0) :: tl),Ac ((((s,0),g),some (.arr e t [])) :: ol),g+1⟩:=by
 have:=Qu (G:=G) (S:=⟨Ae tl,Ac ol,g⟩) s e t ht hs;rw [Gq] at this;have e2:upd (Ac ol) ((s,0),g) (some (.arr e t []))=Ac ((((s,0),g),some (.arr e t [])) :: ol):=Ng rfl;rw [e2] at this;exact this
theorem Rk {G:World->Prop} {tl:List (Nat×AV)} {ol:List (Oid×Option Ob)} {g:Nat} (s:Nat) (v v':AV) (h:Ae tl s=v) (e:v=v'):WeakG G ⟨Ae tl,Ac ol,g⟩ ⟨Ae ((s,v') :: tl),Ac ol,g⟩:=by
 subst e
 have:Ae ((s,v) :: tl)=Ae tl:=by
  funext i;simp only [Ae];split
  ·rename_i e;rw [e];exact h.symm
  ·rfl
 rw [this];exact WeakG.refl _
def Ui (ol us:List (Oid×Ob)) (args:List AV) (v:AV):Bool :=
 (Cd ol&&(Cd us&&((ol.all fun q=>q.1.2==0)&&((us.all fun q=>q.1.2==1||(!q.2.isPool&&(An ol).contains q.1))&&(ndB (An us)&&ndB (Ao us))))))&&((ol.all fun q=>q.2.clo1 (An ol))&&((us.all fun q=>q.2.hp1 (An us))&&(AV.cloL (An ol) args&&AV.hpB (An us) v)))
def Lx (ol:List (Oid×Ob)):List (Oid×Ob)->Prop
 | []=>True
 | q :: r=>(match q.2 with
  | .mat _ p u xss=>∃ e,(p,Ob.pool e u xss)∈ol
  | _=>True)/\Lx ol r
theorem F7 {ol:List (Oid×Ob)}:∀ {l:List (Oid×Ob)},Lx ol l->∀ i e p u xss,(i,Ob.mat e p u xss)∈l->∃ e,(p,Ob.pool e u xss)∈ol
 | _ :: _,h,i,e,p,u,xss,hm=>by
  rcases List.mem_cons.1 hm with rfl|hm
  ·exact h.1
  ·exact F7 h.2 i e p u xss hm
theorem Pb {ol:List (Oid×Ob)} {p:Oid} {e:TypeId} {u:Ty} {xss:List (List u.D)}:(p,Ob.pool e u xss)∈ol->∀ k,k<xss.length->kid p k∈nmL ol:=by
 induction ol with
 | nil=>intro h;cases h
 | cons x r ih =>
  obtain ⟨x1,x2⟩:=x;intro h k hk;rcases List.mem_cons.1 h with h|h
  ·cases h;simp only [nmL,exL,List.map_append,List.mem_append];refine .inl (List.mem_map.2 ⟨(kid p k,.arr e u xss[k]),List.mem_map.2 ⟨(xss[k],k),?_,rfl⟩,rfl⟩);rw [List.mem_zipIdx_iff_getElem?];exact gEg hk
  ·have:=ih h k hk;cases x2 <;> simp only [nmL,exL,List.map_cons,List.map_append] at this⊢ <;> first|exact List.mem_cons_of_mem _ this|exact List.mem_append_right _ this
theorem Fh {ol:List (Oid×Ob)} {i:Oid} (h:i∈An ol):i∈nmL ol:=by
 obtain ⟨o,ho,hp⟩:=R2 h;exact List.mem_map.2 ⟨_,Ii ho hp,rfl⟩
theorem Un {D:Oid->Prop} {p:Oid} {u:Ty} (xss:List (List u.D)) (h:∀ k,k<xss.length->D (kid p k)):AV.hpL D (hdL p u xss):=by
 have key:∀ l:List (List u.D×Nat),(∀ x∈l,D (kid p x.2))->AV.hpL D (l.map fun x=>.own (kid p x.2) u 0 x.1.length):=by
  intro l
  induction l with
  | nil=>intro _;trivial
  | cons x l ih=>intro h;exact ⟨h x (by simp),ih fun y hy=>h y (by simp [hy])⟩
 refine key _ fun x hx=>h _ ?_
 obtain ⟨row,k⟩:=x;rw [List.mem_zipIdx_iff_getElem?] at hx;exact (gSi.1 hx).1
theorem U0 {D:List Oid} (o:Ob) (h:o.clo1 D=true) (hp:o.isPool=false) (hm:∀ e p u xss,o≠.mat e p u xss):o.exp.cloP (·∈D):=by
 cases o with
 | cells _ cs=>exact AV.cloPL_of cs h
 | vec _ _ _ cs=>exact AV.cloPL_of cs h
 | mat e p u xss=>exact absurd rfl (hm _ _ _ _)
 | arr _ _ _=>trivial
 | map _ _ _=>trivial
 | pool _ _ _=>cases hp
 | tv e m t xs=>exact Nk xs
theorem Vi {D:List Oid} (o:Ob) (h:o.hp1 D=true) (hp:o.isPool=false) (hm:∀ e p u xss,o≠.mat e p u xss):o.exp.hp (·∈D):=by
 cases o with
 | cells _ cs=>exact AV.hpB_PL cs h
 | vec _ _ _ cs=>exact AV.hpB_PL cs h
 | mat e p u xss=>exact absurd rfl (hm _ _ _ _)
 | arr _ _ _=>trivial
 | map _ _ _=>trivial
 | pool _ _ _=>cases hp
 | tv e m t xs=>cases h
theorem cloP_mono {D E:Oid->Prop} (hd:∀ i,D i->E i) (o:Ob) (h:o.cloP D):o.cloP E:=by
 cases o <;> first|exact AV.cloPL_mono hd _ h|exact h
theorem hp_mono {D E:Oid->Prop} (hd:∀ i,D i->E i) (o:Ob) (h:o.hp D):o.hp E:=by
 cases o <;> first|exact AV.hpL_mono hd _ h|exact h
section
variable {P:Program} {G:World->Prop} (hfol:P.follows .mixedOrders=true) {g:FuncId} {fn:Func} (hf:P.funcs[g]? =some fn) {ac:AC} {rs:List Res} (hc:Ct P fn=some (ac,rs)) {args:List AV} {r:RV} {n:Nat} (hN:fn.ntmps=n) (hn:args.length<=n)
include hfol hf hc hN hn
theorem S8 [IsP P] {tl:List (Nat×AV)} (htl:tmL 0 args=tl) (h:awp P G ac (fun e S=>∃ S',WeakG G S S'/\(e=.normal∨e=.ret)/\RetOK [] rs S' r) ⟨Ae tl,Ac [],1⟩):Cy P G g args r:=by
 refine Tv hfol hf hc hN hn ?_;rw [St.init_eq,htl];exact h
omit hN hn in
theorem J4 [IsP P] (hN:fn.ntmps=n) (hn:args.length<=n) {tl:List (Nat×AV)} (htl:tmL 0 args=tl) {ol us:List (Oid×Ob)} {v:AV} (hB:Ui ol us args v=true) (hm1:Lx ol ol) (hm2:Lx us us)
  (h:awp P G ac (fun e S=>∃ S',WeakG G S S'/\(e=.normal∨e=.ret)/\(∃ rvs,Res.evL S'.tm S'.ob rs=some rvs/\v=Lq rvs)/\∀ q∈exL us,S'.ob q.1=some q.2) ⟨Ae tl,Ac (Ar ol),1⟩):Fm P G g args ol v us:=by
 simp only [Ui,Bool.and_eq_true] at hB;obtain ⟨⟨a1,a2,a3,a4,a5,a6⟩,b1,b2,b3,b4⟩:=hB;rw [List.all_eq_true] at a3 a4 b1 b2
 have h0:∀ {l:List (Oid×Ob)},Cd l=true->∀ q∈l,q.1.1.2=0:=fun h q hq=>by
  unfold Cd at h;rw [List.all_eq_true] at h;have:=h q hq;simp only [Bool.and_eq_true,beq_iff_eq] at this;exact this.1
 refine Rt hfol hf hc hN hn (fun q hq=>?_) (Uh (B4 a5) (B4 a6) (h0 a2)) (fun q hq=>?_) (AV.cloPL_mono (fun i hi=>Fh hi) _ (AV.cloPL_of args b3)) (AV.hp_mono (fun i hi=>Fh hi) _ (AV.hpB_P v b4)) ?_
 ·rcases Cl hq with ⟨p,e,u,xss,k,row,m1,m2,rfl⟩|⟨o,m1,m2,m3⟩
  ·have:=a3 _ m1;rw [beq_iff_eq] at this;exact ⟨this,trivial⟩
  ·have:=a3 _ m1;refine ⟨by simpa using this,?_⟩;rw [m3];by_cases hmt:∃ e p u xss,o=.mat e p u xss
   ·obtain ⟨e,p,u,xss,rfl⟩:=hmt;obtain ⟨e',hp⟩:=F7 hm1 _ _ _ _ _ m1;exact Sw xss fun k hk=>Pb hp k hk
   ·exact cloP_mono (fun i hi=>Fh hi) _ (U0 o (b1 _ m1) m2 fun e p u xss h=>hmt ⟨e,p,u,xss,h⟩)
 ·rcases Cl hq with ⟨p,e,u,xss,k,row,m1,m2,rfl⟩|⟨o,m1,m2,m3⟩
  ·have:=a4 _ m1;simp only [Ob.isPool,Bool.not_true,Bool.false_and,Bool.or_false,beq_iff_eq] at this;exact ⟨.inl this,.inl trivial⟩
  ·have:=a4 _ m1;simp only [Bool.or_eq_true,Bool.and_eq_true,beq_iff_eq] at this;refine ⟨this.imp id fun h=>Fh (List.contains_iff_mem.1 h.2),.inl ?_⟩;rw [m3];by_cases hmt:∃ e p u xss,o=.mat e p u xss
   ·obtain ⟨e,p,u,xss,rfl⟩:=hmt;obtain ⟨e',hp⟩:=F7 hm2 _ _ _ _ _ m1;exact Un xss fun k hk=>Pb hp k hk
   ·exact hp_mono (fun i hi=>Fh hi) _ (Vi o (b2 _ m1) m2 fun e p u xss h=>hmt ⟨e,p,u,xss,h⟩)
 ·rw [O5,htl];exact h
end
theorem Vx {G:World->Prop} {rs:List Res} {f:Nat->AV} {ob:Oid->Option Ob} {g:Nat} {r:RV} (avs:List AV) {vs:List Value} {e:AE} (h2:PartsR vs ob avs r.ps) (he:e=.normal∨e=.ret:=by simp) (h1:Res.evL f ob rs=some avs:=by kernel_rfl) (h3:ndB (Ib ob (Fa avs))=true:=by kernel_rfl) (h4:r.tup=decide (rs.length≠1):=by kernel_rfl):∃ S',WeakG G ⟨f,ob,g⟩ S'/\(e=.normal∨e=.ret)/\RetOK vs rs S' r :=
 ⟨_,WeakG.refl _,he,avs,r.ps,h1,h2,B4 h3,by cases r;cases h4;rfl⟩
theorem R3 {G:World->Prop} {rs:List Res} {S:St} {tl:List (Nat×AV)} {g:Nat} {v:AV} {us:List (Oid×Ob)} {e:AE} (rvs:List AV) (hw:WeakG G S ⟨Ae tl,Ac (Ar us),g⟩) (he:e=.normal∨e=.ret:=by simp) (h1:Res.evL (Ae tl) (Ac (Ar us)) rs=some rvs:=by kernel_rfl) (hv:v=Lq rvs:=by kernel_rfl) (h2:(Cd us&&(ndB (An us)&&ndB (Ao us)))=true:=by kernel_rfl) :
  ∃ S',WeakG G S S'/\(e=.normal∨e=.ret)/\(∃ rvs,Res.evL S'.tm S'.ob rs=some rvs/\v=Lq rvs)/\∀ q∈exL us,S'.ob q.1=some q.2:=by
 refine ⟨_,hw,he,⟨rvs,h1,hv⟩,fun q hq=>?_⟩;simp only [Bool.and_eq_true] at h2;obtain ⟨a1,a2,a3⟩:=h2
 have h0:∀ q∈us,q.1.1.2=0:=fun q hq=>by
  unfold Cd at a1;rw [List.all_eq_true] at a1;have:=a1 q hq;simp only [Bool.and_eq_true,beq_iff_eq] at this;exact this.1
 have:=Er (rest:=[]) (B4 a2) (B4 a3) (fun p hp=>by obtain ⟨e,u,xss,hm⟩:=Uv hp;exact h0 _ hm) (fun i hi p hp k e=>by
  obtain ⟨o,ho,_⟩:=R2 hi;have:=h0 _ ho;rw [e] at this;simp [kid] at this) q hq
 rwa [List.append_nil] at this
section
variable {vs:List Value} {ob:Oid->Option Ob}
theorem Vt {cs r:List AV} {ls:List RL} {ps:List (Bool×List RL)} (h1:LeavesR vs ob cs ls) (h2:PartsR vs ob r ps):PartsR vs ob (.agg cs :: r) ((true,ls) :: ps):=⟨ls,ps,rfl,h1,h2⟩
theorem Bn {c:AV} {r:List AV} {l:RL} {ps:List (Bool×List RL)} (hc:c.one=true) (h1:LeafR vs ob c l) (h2:PartsR vs ob r ps):PartsR vs ob (c :: r) ((false,[l]) :: ps):=by
 rw [Em (by rintro ⟨_,rfl⟩;cases hc)];exact ⟨l,ps,rfl,h1,h2⟩
theorem F6:PartsR vs ob [] []:=rfl
theorem Uo {c:AV} {l:RL} (h:Fn ob c=some l):LeafR vs ob c l:=.inl (.inl h)
theorem Pf {i:Oid} {t u:Ty} {e:TypeId} {xs:List u.D} {len:Nat} (h:ob i=some (.arr e u xs)) (hl:len=xs.length):LeafR vs ob (.own i t 0 len) (.new e u xs):=by
 subst hl;exact .inl (.inl (by simp only [Fn,h,Nat.le_refl,and_self,if_true,List.take_length]))
theorem Hs {e:TypeId} {t:Ty} (h:t.flat=true):LeafR vs ob .nils (.new e t []):=.inl (.inr (.inr ⟨e,t,rfl,rfl,h⟩))
end
end
section
open Go.RowKit Go.Deep
abbrev ai (n:Int):AV:=.int .i64 n
abbrev oi (a b:Nat):Oid:=((a,0),b)
def Si (d:Option Nat) (v:AV) (tl:List (Nat×AV)):List (Nat×AV) :=
 match d with
 | some d=>(d,v) :: tl
 | none=>tl
theorem Ok (d:Option Nat) (v:AV) (tl:List (Nat×AV)):Dw d v (Ae tl)=Ae (Si d v tl):=by
 cases d with
 | none=>rfl
 | some d=>simp only [Dw,Si,Gq]
noncomputable def L4 (g:Nat):Nat->Nat->List X->List (Nat×AV)->List (Oid×Option Ob)->Option (List (Nat×AV)×List (Oid×Option Ob))
 | 0,_,_,tl,ol=>some (tl,ol)
 | _+1,_,[],_,_=>none
 | n+1,k,x :: xs,tl,ol=>match A1 (g+k) x (Ae tl) (Ac ol) with
  | some (_,v,us)=>if Cz us then L4 g n (k+1) xs (Si x.dst v tl) (us.reverseAux ol) else none
  | none=>none
theorem Vz {P:Program} {G:World->Prop} {g:Nat} {Kf:List (Nat×AV)->List (Oid×Option Ob)->Prop}:∀ (n k:Nat) (xs:List X) (tl:List (Nat×AV)) (ol:List (Oid×Option Ob)) (r:List (Nat×AV)×List (Oid×Option Ob)),L4 g n k xs tl ol=some r->XW P G g (k+n) (xs.drop n) r.1 r.2 Kf->XW P G g k xs tl ol Kf
 | 0,k,xs,tl,ol,r,h,hk=>by
  obtain rfl:=osj h;exact hk
 | n+1,k,[],tl,ol,r,h,hk=>by cases h
 | n+1,k,x :: xs,tl,ol,r,h,hk=>by
  simp only [L4] at h;split at h
  ·rename_i c v us hst;split at h
   ·rename_i hx;obtain ⟨rs,tl',ol',h1,h2⟩:=Vz (P:=P) (G:=G) n (k+1) xs _ _ r h (by rw [show k+1+n=k+(n+1) by omega];exact hk);exact ⟨(c,v,us) :: rs,tl',ol',⟨_,_,rfl,Ev hst,by rw [Ok,C9 _ _ hx];exact h1⟩,h2⟩
   ·cases h
  ·cases h
theorem rsB {P:Program} {G:World->Prop} {g k:Nat} {xs:List X} {tl:List (Nat×AV)} {ol:List (Oid×Option Ob)} {Kf:List (Nat×AV)->List (Oid×Option Ob)->Prop} (n:Nat) (hk:XW P G g (k+n) (xs.drop n) ((L4 g n k xs tl ol).getD ([],[])).1 ((L4 g n k xs tl ol).getD ([],[])).2 Kf) (h:(L4 g n k xs tl ol).isSome=true:=by kernel_rfl):XW P G g k xs tl ol Kf:=by
 obtain ⟨r,hr⟩:=Option.isSome_iff_exists.1 h;rw [hr] at hk;exact Vz n k xs tl ol r hr hk
noncomputable def Qx (g:Nat):Nat->Nat->List X->List (Nat×AV)->List (Oid×Option Ob)->Option (List (Nat×AV))
 | 0,_,_,tl,_=>some tl
 | _+1,_,[],_,_=>none
 | n+1,k,x :: xs,tl,ol=>match A1 (g+k) x (Ae tl) (Ac ol) with
  | some (_,v,[])=>Qx g n (k+1) xs (Si x.dst v tl) ol
  | _=>none
theorem Vq {P:Program} {G:World->Prop} {g:Nat} {ol:List (Oid×Option Ob)} {Kf:List (Nat×AV)->List (Oid×Option Ob)->Prop}:∀ (n k:Nat) (xs:List X) (tl:List (Nat×AV)) (r:List (Nat×AV)),Qx g n k xs tl ol=some r->XW P G g (k+n) (xs.drop n) r ol Kf->XW P G g k xs tl ol Kf
 | 0,k,xs,tl,r,h,hk=>by
  obtain rfl:=osj h;exact hk
 | n+1,k,[],tl,r,h,hk=>by cases h
 | n+1,k,x :: xs,tl,r,h,hk=>by
  simp only [Qx] at h;split at h
  ·rename_i c v hst;obtain ⟨rs,tl',ol',h1,h2⟩:=Vq (P:=P) (G:=G) n (k+1) xs _ r h (by rw [show k+1+n=k+(n+1) by omega];exact hk);exact ⟨(c,v,[]) :: rs,tl',ol',⟨_,_,rfl,Ev hst,by rw [Ok];exact h1⟩,h2⟩
  ·cases h
theorem rsT {P:Program} {G:World->Prop} {g k:Nat} {xs:List X} {tl:List (Nat×AV)} {ol:List (Oid×Option Ob)} {Kf:List (Nat×AV)->List (Oid×Option Ob)->Prop} (n:Nat) (hk:XW P G g (k+n) (xs.drop n) ((Qx g n k xs tl ol).getD []) ol Kf) (h:(Qx g n k xs tl ol).isSome=true:=by kernel_rfl):XW P G g k xs tl ol Kf:=by
 obtain ⟨r,hr⟩:=Option.isSome_iff_exists.1 h;rw [hr] at hk;exact Vq n k xs tl r hr hk
noncomputable def Oj (g:Nat):Nat->Nat->List X->List (Nat×AV)->List (Oid×Option Ob)->List Rec->List (List Oid)->Option (List (Nat×AV)×List Rec×List (List Oid))
 | 0,_,_,tl,_,ra,da=>some (tl,ra,da)
 | _+1,_,[],_,_,_,_=>none
 | n+1,k,x :: xs,tl,ol,ra,da=>match A1 (g+k) x (Ae tl) (only (rdX (Ae tl) (Ac ol) x) (Ac ol)) with
  | some (c,v,[])=>Oj g n (k+1) xs (Si x.dst v tl) ol ((c,v,[]) :: ra) (rdX (Ae tl) (Ac ol) x :: da)
  | _=>none
theorem V6 {P:Program} {G:World->Prop} {g:Nat} {ol:List (Oid×Option Ob)} {bad:List (Nat×Nat)} {Kf:List (Nat×AV)->List (Oid×Option Ob)->Prop}:∀ (n k:Nat) (xs:List X) (tl:List (Nat×AV)) (ra:List Rec) (da:List (List Oid)) (r:List (Nat×AV)×List Rec×List (List Oid)),Oj g n k xs tl ol ra da=some r->XD P G bad g (k+n) (xs.drop n) r.1 ol r.2.1 r.2.2 Kf->XD P G bad g k xs tl ol ra da Kf
 | 0,k,xs,tl,ra,da,r,h,hk=>by
  obtain rfl:=osj h;exact hk
 | n+1,k,[],tl,ra,da,r,h,hk=>by cases h
 | n+1,k,x :: xs,tl,ra,da,r,h,hk=>by
  simp only [Oj] at h;split at h
  ·rename_i c v hst;obtain ⟨rs,ds,tl',ol',h1,hb,h2⟩:=V6 (P:=P) (G:=G) n (k+1) xs _ _ _ r h (by rw [show k+1+n=k+(n+1) by omega];exact hk);refine ⟨(c,v,[]) :: rs,rdX (Ae tl) (Ac ol) x :: ds,tl',ol',⟨_,_,_,rfl,rfl,Ev hst,by rw [Ok];exact h1⟩,?_,h2⟩
   simpa using hb
  ·cases h
theorem dsT {P:Program} {G:World->Prop} {g k:Nat} {xs:List X} {tl:List (Nat×AV)} {ol:List (Oid×Option Ob)} {bad:List (Nat×Nat)} {ra:List Rec} {da:List (List Oid)} {Kf:List (Nat×AV)->List (Oid×Option Ob)->Prop} (n:Nat) (hk:XD P G bad g (k+n) (xs.drop n) ((Oj g n k xs tl ol ra da).getD ([],[],[])).1 ol ((Oj g n k xs tl ol ra da).getD ([],[],[])).2.1 ((Oj g n k xs tl ol ra da).getD ([],[],[])).2.2 Kf) (h:(Oj g n k xs tl ol ra da).isSome=true:=by kernel_rfl):XD P G bad g k xs tl ol ra da Kf:=by
 obtain ⟨r,hr⟩:=Option.isSome_iff_exists.1 h;rw [hr] at hk;exact V6 n k xs tl ra da r hr hk
theorem Am {P:Program} {G:World->Prop} {g:Nat} {xs:List X} {bad:List (Nat×Nat)} {y:AC} {R:AE->St->Prop} {tl:List (Nat×AV)} {ol:List (Oid×Option Ob)} (h:awp P G y R ⟨Ae ((L4 g xs.length 0 xs tl ol).getD ([],[])).1,Ac ((L4 g xs.length 0 xs tl ol).getD ([],[])).2,g+xs.length⟩) (hs:(L4 g xs.length 0 xs tl ol).isSome=true:=by kernel_rfl):awp P G (.seq (.region xs false bad) y) R ⟨Ae tl,Ac ol,g⟩:=by
 refine Ab (Aa (g+xs.length) (rsB xs.length (by rw [List.drop_length];exact As (tn_ ⟨_,WeakG.refl _,h⟩)) hs) rfl)
section
variable {n:Nat} {d:Option Nat} {f:Nat->AV} {ob:Oid->Option Ob} {ol:List (Oid×Option Ob)}
theorem Vr {i:Oid} {e:TypeId} {t:Ty} {sz:Nat} {xs:List Opd} {r:Rec} (h:(Kj f i e t sz xs).map (fun r=>((1:Nat),r.1,r.2))=some r):evL f i (.mkV e t sz xs)=some r:=by
 simp only [evL];cases hq:Kj f i e t sz xs with
 | none=>rw [hq] at h;cases h
 | some q=>rw [hq] at h;obtain ⟨v,us⟩:=q;exact h
end
section
variable {P:Program} {G:World->Prop} {g k d:Nat} {gd:Option (Nat×Bool)} {q:Q} {xs:List X} {tl:List (Nat×AV)} {ol:List (Oid×Option Ob)} {bad:List (Nat×Nat)} {ra:List Rec} {da:List (List Oid)} {Kf:List (Nat×AV)->List (Oid×Option Ob)->Prop}
theorem Wc (v:AV) (i:Oid) (o:Ob) (hgd:Jq gd (Ae tl)) (h:evL (Ae tl) ((d,0),g+k) q=some (1,v,[(i,some o)])) (h3:XW P G g (k+1) xs ((d,v) :: tl) ((i,some o) :: ol) Kf) (hx:J0 (some o)=true:=by rfl):XW P G g k (⟨some d,gd,q⟩ :: xs) tl ol Kf:=Pr 1 v _ (Vh (d:=some d) hgd h) h3 (by simp only [Cz,List.all_cons,List.all_nil,hx];rfl)
end
-- what arguments read as
section
variable {ol:List (Oid×Option Ob)} {n:Nat}
def M3 (θ:Oid->Oid) (ol0:List (Oid×Ob)) (i:Oid):Bool:=ol0.all fun q=>if q.2.isPool then !(i.1.1==(θ q.1).1.1&&(i.2==(θ q.1).2&&i.1.2 !=0)) else i !=θ q.1
theorem Tr {l:List (Oid×Oid)} {ob:Oid->Option Ob} {ol0:List (Oid×Ob)} {i:Oid} (hl:Fz l=true) (h0:Cd ol0=true) (h:M3 (Aj l) ol0 i=true):I6 ((nmL ol0).map (Aj l)) ob i=ob i:=by
 unfold I6;rw [if_neg];intro hm;obtain ⟨j,hj,rfl⟩:=List.mem_map.1 hm;obtain ⟨q,hq,rfl⟩:=List.mem_map.1 hj;unfold M3 at h;rw [List.all_eq_true] at h;unfold Cd at h0;rw [List.all_eq_true] at h0;rcases Cl hq with ⟨p,e,u,xss,k,row,m1,m2,rfl⟩|⟨o,m1,m2,m3⟩
 ·have:=h _ m1;have hz:=h0 _ m1;simp only [Bool.and_eq_true,beq_iff_eq] at hz;rw [Cw hl hz.1] at this;simp [Ob.isPool,kid] at this
 ·have:=h _ m1;simp [m2] at this
theorem O9 {l:List (Oid×Oid)} {i:Oid} {ol us:List (Oid×Ob)} (hB:N9 ol us=true):∀ u∈C1 (Aj l) i ol us,u.1.2=i.2∨u.1∈(nmL ol).map (Aj l):=by
 intro u hu;rcases List.mem_append.1 hu with hu|hu
 ·obtain ⟨q,hq,rfl⟩:=List.mem_map.1 hu;exact .inr (List.mem_map.2 ⟨q.1,List.mem_map.2 ⟨q,hq,rfl⟩,rfl⟩)
 ·obtain ⟨q,hq,rfl⟩:=List.mem_map.1 hu;rcases K5 hB q hq with h|⟨h,h'⟩
  ·exact .inl (by simp [Au,h])
  ·exact .inr (List.mem_map.2 ⟨q.1,h',by simp [Au,h]⟩)
def Q8 (l:List (Oid×Oid)) (i:Oid) (ol us:List (Oid×Ob)) (r:Rec) (d:List Oid):Bool:=Fz l&&(Cd ol&&(N9 ol us&&((d.all fun x=>x.2 !=i.2&&M3 (Aj l) ol x)&&((r.2.2.all fun u=>u.1.2 !=i.2&&M3 (Aj l) ol u.1)&&r.1 !=2))))
theorem Na {l:List (Oid×Oid)} {ol:List (Oid×Ob)} {i:Oid} (hl:Fz l=true) (h0:Cd ol=true) (h:M3 (Aj l) ol i=true):i∉(nmL ol).map (Aj l):=by
 intro hm;have:=Tr (ob:=fun _=>some (.map 0 .int [])) hl h0 h;unfold I6 at this;rw [if_pos hm] at this;cases this
theorem Oy {l:List (Oid×Oid)} {i:Oid} {ol us:List (Oid×Ob)} {r:Rec} {d:List Oid} (h:Q8 l i ol us r d=true):(∀ u∈C1 (Aj l) i ol us,u.1∉d)/\(∀ u∈C1 (Aj l) i ol us,∀ v∈r.2.2,u.1≠v.1)/\r.1≠2:=by
 simp only [Q8,Bool.and_eq_true,bne_iff_ne,ne_eq] at h;obtain ⟨h1,h2,h3,h4,h5,h6⟩:=h;rw [List.all_eq_true] at h4 h5;refine ⟨fun u hu hd=>?_,fun u hu v hv e=>?_,h6⟩
 ·have:=h4 _ hd;simp only [Bool.and_eq_true,bne_iff_ne,ne_eq] at this;rcases O9 h3 u hu with h|h
  ·exact this.1 h
  ·exact Na h1 h2 this.2 h
 ·have:=h5 _ hv;simp only [Bool.and_eq_true,bne_iff_ne,ne_eq] at this;rcases O9 h3 u hu with h|h
  ·exact this.1 (by rw [← e];exact h)
  ·exact Na h1 h2 this.2 (by rw [← e];exact h)
theorem Um {l:List (Oid×Oid)} {i:Oid} {ol us:List (Oid×Ob)} {v:AV} {rj:Rec} {di dj:List Oid} (h:Q8 l i ol us rj dj=true):Fl (2,v,C1 (Aj l) i ol us) rj di dj:=by
 obtain ⟨h1,h2,h3⟩:=Oy h;exact .inr ⟨fun _=>h1,fun e=>absurd e h3,h2⟩
def Q5 (zs:List AV) (ob:Oid->Option Ob) (θ:Oid->Oid):List (Oid×Ob)->Prop
 | []=>True
 | q :: r=>(match q.2 with
  | .pool _ _ xss=>∀ k,k<xss.length->Reached zs ob (kid (θ q.1) k)
  | _=>Reached zs ob (θ q.1))/\Q5 zs ob θ r
theorem Ex {zs:List AV} {ob:Oid->Option Ob} {l:List (Oid×Oid)} (hl:Fz l=true):∀ {ol:List (Oid×Ob)},Cd ol=true->Q5 zs ob (Aj l) ol->∀ j∈nmL ol,Reached zs ob (Aj l j)
 | [],_,_,j,hj=>by cases hj
 | (p,o) :: r,h0,h,j,hj=>by
  simp only [Cd,List.all_cons,Bool.and_eq_true,beq_iff_eq] at h0;obtain ⟨⟨h1,_⟩,h2⟩:=h0;have ih:j∈nmL r->Reached zs ob (Aj l j):=fun hm=>Ex hl (ol:=r) (by simpa [Cd] using h2) h.2 j hm
  cases o with
  | pool e u xss =>
   simp only [nmL,exL,List.map_append,List.mem_append] at hj;rcases hj with hj|hj
   ·obtain ⟨q,hq,rfl⟩:=List.mem_map.1 hj;obtain ⟨⟨row,k⟩,hx,rfl⟩:=List.mem_map.1 hq;rw [List.mem_zipIdx_iff_getElem?] at hx;show Reached zs ob (Aj l (kid p k));rw [Cw hl h1];exact h.1 k (gSi.1 hx).1
   ·exact ih hj
  | _ =>
   simp only [nmL,exL,List.map_cons,List.mem_cons] at hj;rcases hj with rfl|hj
   ·exact h.1
   ·exact ih hj
theorem U7 {zs:List AV} {ob:Oid->Option Ob} {i:Oid} (h:(AV.nmsL zs).contains i=true):Reached zs ob i:=.arg (List.contains_iff_mem.1 h)
end
theorem U1 {L:List Oid} {l:List (Oid×Oid)} {xs:List (Oid×Ob)} (h:(xs.all fun q=>L.contains (Aj l q.1))=true):∀ q∈xs,Aj l q.1∈L:=fun q hq=>by
 have:=List.all_eq_true.1 h q hq
 simpa using this
end
section
open Go.RowKit Go.Deep
section
variable {f:Nat->AV} {ob:Oid->Option Ob} {n:Nat} {d:Option Nat}
end
end
section
open Go.RowKit Go.Deep
end
section
open Go.RowKit Go.Deep
section
variable {n:Nat} {d:Option Nat} {f:Nat->AV} {ob:Oid->Option Ob}
end
end
section
open Go.RowKit Go.Deep
end
section
open Go.RowKit Go.Deep
section
variable {P:Program} {G:World->Prop} {f:FuncId} {args:List AV} {r:RV} {n:Nat} {R:Nat->Prop}
mutual
def AV.unR (R:Nat->Prop):AV->AV->Prop
 | .tree t xs,d=>d=.ftr R t xs
 | .agg cs,d=>∃ ds,d=.agg ds/\AV.unRL R cs ds
 | c,d=>c.scal=true/\d=c
def AV.unRL (R:Nat->Prop):List AV->List AV->Prop
 | [],ds=>ds=[]
 | c :: cs,ds=>∃ d ds',ds=d :: ds'/\AV.unR R c d/\AV.unRL R cs ds'
end
mutual
theorem Te {im:Nat->Prop} {w:World}:∀ (c d:AV) (u:Value),AV.unR R c d->AV.Rep (fun _=>none) im w d u->AV.Rep (fun _=>none) (fun b=>im b/\R b) w c u
 | .tree t xs,d,u,h,hr=>by
  have h:d=.ftr R t xs:=h;subst h;exact hr
 | .agg cs,d,u,⟨ds,e,h⟩,hr=>by
  subst e;obtain ⟨us,e,hr⟩:=hr;exact ⟨us,e,Mj cs ds us h hr⟩
 | .int ..,d,u,⟨_,e⟩,hr=>by subst e;exact hr
 | .bool ..,d,u,⟨_,e⟩,hr=>by subst e;exact hr
 | .str ..,d,u,⟨_,e⟩,hr=>by subst e;exact hr
 | .err ..,d,u,⟨h,e⟩,hr=>by first|(cases h;done)|(subst e;exact hr)
 | .nils,d,u,⟨_,e⟩,hr=>by subst e;exact hr
 | .any,d,u,⟨h,_⟩,_=>by cases h
 | .mtree ..,d,u,⟨h,_⟩,_=>by cases h
 | .ftr ..,d,u,⟨h,_⟩,_=>by cases h
 | .mp _,d,u,⟨h,_⟩,_=>by cases h
 | .tup _,d,u,⟨h,_⟩,_=>by cases h
 | .fn ..,d,u,⟨h,_⟩,_=>by cases h
 | .ref _,d,u,⟨h,_⟩,_=>by cases h
 | .own ..,d,u,⟨h,_⟩,_=>by cases h
 | .box ..,d,u,⟨h,_⟩,_=>by cases h
 | .elt ..,d,u,⟨h,_⟩,_=>by cases h
 | .sla ..,d,u,⟨h,_⟩,_=>by cases h
 | .telt ..,d,u,⟨h,_⟩,_=>by cases h
 | .giv ..,d,u,⟨h,_⟩,_=>by cases h
 | .abool ..,d,u,⟨h,_⟩,_=>by cases h
theorem Mj {im:Nat->Prop} {w:World}:∀ (cs ds:List AV) (us:List Value),AV.unRL R cs ds->AV.RepL (fun _=>none) im w ds us->AV.RepL (fun _=>none) (fun b=>im b/\R b) w cs us
 | [],ds,us,h,hr=>by obtain rfl:ds=[]:=h;exact hr
 | c :: cs,ds,us,⟨d,ds',e,h1,h2⟩,hr=>by
  subst e;obtain ⟨u,us',e,r1,r2⟩:=hr;exact ⟨u,us',e,Te c d u h1 r1,Mj cs ds' us' h2 r2⟩
end
end
-- rows of things that nobody writes
section
variable {ob:Oid->Option Ob}
end
section
variable {n:Nat} {d:Option Nat} {f:Nat->AV} {ob:Oid->Option Ob}
end
-- results
section
variable {G:World->Prop} {w0 w:World} {ob:Oid->Option Ob} {σ:Oid->Option Loc} {K:Nat->Prop}
end
mutual
theorem Rg {R im:Nat->Prop} {w:World} (hR:∀ b,im b->R b):∀ (c d:AV) (u:Value),AV.unR R c d->AV.Rep (fun _=>none) im w c u->AV.Rep (fun _=>none) im w d u
 | .tree t xs,d,u,h,⟨A,c,l,e,hs⟩=>by
  have h:d=.ftr R t xs:=h;subst h;exact ⟨A,c,l,e,Av (fun b _ hb=>⟨hb,hR b hb⟩) hs⟩
 | .agg cs,d,u,⟨ds,e,h⟩,hr=>by
  subst e;obtain ⟨us,e,hr⟩:=hr;exact ⟨us,e,Kt hR cs ds us h hr⟩
 | .int ..,d,u,⟨_,e⟩,hr=>by subst e;exact hr
 | .bool ..,d,u,⟨_,e⟩,hr=>by subst e;exact hr
 | .str ..,d,u,⟨_,e⟩,hr=>by subst e;exact hr
 | .err ..,d,u,⟨h,e⟩,hr=>by first|(cases h;done)|(subst e;exact hr)
 | .nils,d,u,⟨_,e⟩,hr=>by subst e;exact hr
 | .any,d,u,⟨h,_⟩,_=>by cases h
 | .mtree ..,d,u,⟨h,_⟩,_=>by cases h
 | .ftr ..,d,u,⟨h,_⟩,_=>by cases h
 | .mp _,d,u,⟨h,_⟩,_=>by cases h
 | .tup _,d,u,⟨h,_⟩,_=>by cases h
 | .fn ..,d,u,⟨h,_⟩,_=>by cases h
 | .ref _,d,u,⟨h,_⟩,_=>by cases h
 | .own ..,d,u,⟨h,_⟩,_=>by cases h
 | .box ..,d,u,⟨h,_⟩,_=>by cases h
 | .elt ..,d,u,⟨h,_⟩,_=>by cases h
 | .sla ..,d,u,⟨h,_⟩,_=>by cases h
 | .telt ..,d,u,⟨h,_⟩,_=>by cases h
 | .giv ..,d,u,⟨h,_⟩,_=>by cases h
 | .abool ..,d,u,⟨h,_⟩,_=>by cases h
theorem Kt {R im:Nat->Prop} {w:World} (hR:∀ b,im b->R b):∀ (cs ds:List AV) (us:List Value),AV.unRL R cs ds->AV.RepL (fun _=>none) im w cs us->AV.RepL (fun _=>none) im w ds us
 | [],ds,us,h,hr=>by obtain rfl:ds=[]:=h;exact hr
 | c :: cs,ds,us,⟨d,ds',e,h1,h2⟩,hr=>by
  subst e;obtain ⟨u,us',e,r1,r2⟩:=hr;exact ⟨u,us',e,Rg hR c d u h1 r1,Kt hR cs ds' us' h2 r2⟩
end
section
variable {R:Nat->Prop} {z:Bool} {ob:Oid->Option Ob}
end
section
variable {P:Program} {G:World->Prop} {g k d:Nat} {gd:Option (Nat×Bool)} {xs:List X} {tl:List (Nat×AV)} {ol:List (Oid×Option Ob)} {bad:List (Nat×Nat)} {ra:List Rec} {da:List (List Oid)} {Kf:List (Nat×AV)->List (Oid×Option Ob)->Prop}
variable {fo:Opd} {ys:List Opd} {tys:List (List (Option Ty))} {F:FuncId} {caps:List AV} {rv:RV}
end
end
section
open Go.RowKit Go.Deep
inductive Ctl (σ ρ:Type) where
 | next (s:σ)
 | out (r:ρ)
def Ctl.then {σ β:Type} (k:σ->Option β):Ctl σ β->Option β
 | .next t=>k t
 | .out r=>some r
section
variable {α β σ τ ρ:Type}
def og (c:Prop) [Decidable c] (k:Option α):Option α:=if c then k else none
theorem Bf {c:Prop} [Decidable c] {k:Option α} {r:α} (h:og c k=some r):c/\k=some r:=by
 unfold og at h;split at h
 ·rename_i hc;exact ⟨hc,h⟩
 ·cases h
theorem Ap {c:Prop} [Decidable c] (h:c) (k:Option α):og c k=k:=if_pos h
theorem Al {o:Option α} {f:α->Option β} {b:β} (h:o.bind f=some b):∃ a,o=some a/\f a=some b:=Option.bind_eq_some_iff.1 h
theorem Bc {c:Bool} {a b:Option α} {r:α} (h:cond c a b=some r):(c=true/\a=some r)∨(c=false/\b=some r):=by
 cases c
 ·exact .inr ⟨rfl,h⟩
 ·exact .inl ⟨rfl,h⟩
def Lj (a:Option (Ctl τ β)) (k:τ->Option β):Option β :=
 a.bind (Ctl.then k)
theorem Pz {a:Option (Ctl τ β)} {k:τ->Option β} {r:β} (h:Lj a k=some r):∃ v,a=some v/\Ctl.then k v=some r:=Al h
def Aq (body:σ->Option (Ctl σ ρ)):Nat->σ->Option ρ
 | 0,_=>none
 | n+1,s=>(body s).bind (Ctl.then (Aq body n))
theorem Nr {body:σ->Option (Ctl σ ρ)} {n:Nat} {s:σ} {v:ρ} (h:Aq body (n+1) s=some v):∃ c,body s=some c/\Ctl.then (Aq body n) c=some v:=Al h
theorem Ox {body:σ->Option (Ctl σ ρ)} {s:σ} {v:ρ} (h:Aq body 0 s=some v):False:=by cases h
theorem Cs {xs:List α} {k:Nat} {x:α} (h:xs[k]? =some x):k<xs.length:=(gSi.1 h).1
end
section
variable {P:Program} {G:World->Prop} {σ τ β ρ:Type}
theorem Sz {x y:AC} {R:AE->St->Prop} {S:St} {A:Option τ} {k:τ->Option β} {r:β} (h:A.bind k=some r) (J:τ->St->Prop) (h1:∀ t,A=some t->awp P G x (Cg (fun S'=>∃ S'',WeakG G S' S''/\J t S'') R) S) (h2:∀ t S'',J t S''->k t=some r->awp P G y R S''):awp P G (.seq x y) R S:=by
 obtain ⟨t,ha,hk⟩:=Al h;exact Kw (J t) (h1 t ha) fun S'' hj=>h2 t S'' hj hk
theorem Q7 {x y:AC} {R:AE->St->Prop} {S:St} {A:Option (Ctl τ β)} {k:τ->Option β} {r:β} (h:Lj A k=some r) (J:τ->St->Prop)
  (h1:∀ v,A=some v->Ctl.then k v=some r->awp P G x (Cg (fun S'=>∃ t S'',v=.next t/\WeakG G S' S''/\J t S'') R) S) (h2:∀ t S'',J t S''->k t=some r->awp P G y R S''):awp P G (.seq x y) R S:=by
 obtain ⟨v,ha,hk⟩:=Pz h;refine Kw (fun S''=>∃ t,v=.next t/\J t S'') (A0 (fun e S' hq=>?_) (h1 v ha hk)) fun S'' ⟨t,hv,hj⟩=>?_
 ·cases e with
  | normal=>obtain ⟨t,S'',hv,hw,hj⟩:=hq;exact ⟨S'',hw,t,hv,hj⟩
  | exit id=>exact hq
  | ret=>exact hq
 ·subst hv;exact h2 t S'' hj hk
theorem P3 {a:AC} {R:AE->St->Prop} {S:St} {body:σ->Option (Ctl σ ρ)} {fuel:Nat} {s0:σ} {v:ρ} (h:Aq body fuel s0=some v) (J:σ->St->Prop) (h0:∃ S0,WeakG G S S0/\J s0 S0)
  (h1:∀ n s S1 c,J s S1->body s=some c->Ctl.then (Aq body n) c=some v->awp P G a (Cg (fun S2=>∃ s' S3,WeakG G S2 S3/\J s' S3/\Aq body n s'=some v) R) S1):awp P G (.loop a) R S:=by
 obtain ⟨S0,hw,hj⟩:=h0;refine Py (fun (p:Nat×σ) S=>Aq body p.1 p.2=some v/\J p.2 S) (·.1) ⟨(fuel,s0),S0,hw,h,hj⟩ ?_;rintro ⟨n,s⟩ S1 ⟨hl,hj⟩;cases n with
 | zero=>exact (Ox hl).elim
 | succ n =>
  obtain ⟨c,hc,hn⟩:=Nr hl;refine A0 (fun e S2 hq=>?_) (h1 n s S1 c hj hc hn);cases e with
  | normal=>obtain ⟨s',S3,hw,hj,hl⟩:=hq;exact ⟨(n,s'),S3,hw,⟨hl,hj⟩,Nat.lt_succ_self n⟩
  | exit id=>exact hq
  | ret=>exact hq
end
theorem B0 (n:Nat):0<=(n:Int):=by omega
end
section
open Go.RowKit Go.Deep
theorem wr_ {G:World->Prop} {S:St} {K:St->Prop} (h:K S):∃ S',WeakG G S S'/\K S':=⟨S,WeakG.refl _,h⟩
def rC (x:Option (AC×List Res)):List Res:=x.elim [] (·.2)
theorem Ll {x:Option (AC×List Res)} (h:x.isSome=true):x=some (mC x,rC x):=by
 cases x with
 | none=>cases h
 | some p=>rfl
section
variable {P:Program} [IsP P] {G:World->Prop} {g:FuncId} {fn:Func} {args:List AV} {r:RV}
theorem cO (hf:P.funcs[g]? =some fn) (h:awp P G (mC (Ct P fn)) (fun e S=>∃ S',WeakG G S S'/\(e=.normal∨e=.ret)/\RetOK [] (rC (Ct P fn)) S' r) ⟨Ae (tmL 0 args),Ac [],1⟩) (hfol:P.follows .mixedOrders=true:=by kernel_rfl) (hc:(Ct P fn).isSome=true:=by kernel_rfl) (hn:Nat.ble args.length fn.ntmps=true:=by kernel_rfl):Cy P G g args r :=
 S8 hfol hf (Ll hc) rfl (Nat.le_of_ble_eq_true hn) rfl h
end
def gdB (gd:Option (Nat×Bool)) (f:Nat->AV):Bool :=
 match gd with
 | none=>true
 | some (s,b)=>match f s with
  | .bool c=>c==b
  | _=>false
theorem I5 {gd:Option (Nat×Bool)} {f:Nat->AV} (h:gdB gd f=true):Jq gd f:=by
 cases gd with
 | none=>trivial
 | some p =>
  obtain ⟨s,b⟩:=p;simp only [gdB] at h;split at h
  ·rename_i c hc;rw [beq_iff_eq] at h;subst h;exact Uz hc
  ·cases h
theorem Fb {gd:Option (Nat×Bool)} {f:Nat->AV} {n:Nat} {d:Option Nat} {q:Q} {ob:Oid->Option Ob} {r:Option Rec} (hg:gdB gd f=true) (h:A1 n ⟨d,none,q⟩ f ob=r):A1 n ⟨d,gd,q⟩ f ob=r:=by
 have h1:=I5 hg;cases gd with
 | none=>exact h
 | some p=>exact V9 h1 rfl h
section
variable {P:Program} {G:World->Prop} {g k d:Nat} {gd:Option (Nat×Bool)} {xs:List X} {tl:List (Nat×AV)} {ol:List (Oid×Option Ob)} {bad:List (Nat×Nat)} {ra:List Rec} {da:List (List Oid)} {Kf:List (Nat×AV)->List (Oid×Option Ob)->Prop}
variable {α β:Type} {x:Option α} {K:α->Option β} {r:β} {rv:α->RV} {args:List AV} {fo:Opd} {ys:List Opd} {tys:List (List (Option Ty))} {F:FuncId}
theorem map_some {γ δ:Type} {o:Option γ} {f:γ->δ} {b:δ} (h:o.map f=some b):∃ a,o=some a/\f a=b:=oms.1 h
theorem rcH (h:x.bind K=some r) (hc:∀ {y},x=some y->Cy P G F args (rv y))
  (h3:∀ y,K y=some r->XW P G g (k+1) xs ((d,((rv y).out (Cu ((d,0),g+k)) (ys.map (Opd.ev (Ae tl)))).1) :: tl) (((rv y).out (Cu ((d,0),g+k)) (ys.map (Opd.ev (Ae tl)))).2.reverseAux ol) Kf)
  (hA:(E5 (gnd (Ac ol) 8) (ys.map (Opd.ev (Ae tl)))).map (Fe tys)=some args:=by kernel_rfl) (hb:Bb P F=true:=by kernel_rfl) (hfo:fo.ev (Ae tl)=.fn F []:=by kernel_rfl)
  (hx:∀ y,Cz ((rv y).out (Cu ((d,0),g+k)) (ys.map (Opd.ev (Ae tl)))).2=true:=by intro _;rfl) (hni:∀ y,(rv y).noI=true:=by intro _;rfl) (hgd:gdB gd (Ae tl)=true:=by kernel_rfl) (hF:Nat.blt F mtd=true:=by kernel_rfl):XW P G g k (⟨some d,gd,.call fo ys tys⟩ :: xs) tl ol Kf:=by
 obtain ⟨y,hy,hK⟩:=Al h;obtain ⟨args0,h1,hn⟩:=map_some hA;have hF':F<mtd:=Nat.le_of_ble_eq_true hF;exact Ko (caps:=[]) _ _ _ _ (I5 hgd) h1 (hc hy) hb (h3 y hK) (hfo:=hfo) (hz:=by simp only [Bj,List.map_nil,List.append_nil,List.nil_append,ite_self]) (hn:=hn) (hr:=rfl) (hF:=if_pos hF') (hx:=hx y) (hni:=hni y)
theorem dcH (h:x.bind K=some r) (hc:∀ {y},x=some y->Cy P G F args (rv y))
  (h3:∀ y,K y=some r->XD P G bad g (k+1) xs ((d,((rv y).out (Cu ((d,0),g+k)) (ys.map (Opd.ev (Ae tl)))).1) :: tl) (((rv y).out (Cu ((d,0),g+k)) (ys.map (Opd.ev (Ae tl)))).2.reverseAux ol) ((1,((rv y).out (Cu ((d,0),g+k)) (ys.map (Opd.ev (Ae tl)))).1,((rv y).out (Cu ((d,0),g+k)) (ys.map (Opd.ev (Ae tl)))).2) :: ra) ((rdX (Ae tl) (Ac ol) ⟨some d,gd,.call fo ys tys⟩) :: da) Kf)
  (hA:(E5 (gnd (only (rdX (Ae tl) (Ac ol) ⟨some d,gd,.call fo ys tys⟩) (Ac ol)) 8) (ys.map (Opd.ev (Ae tl)))).map (Fe tys)=some args:=by kernel_rfl) (hb:Bb P F=true:=by kernel_rfl) (hfo:fo.ev (Ae tl)=.fn F []:=by kernel_rfl)
  (hx:∀ y,Cz ((rv y).out (Cu ((d,0),g+k)) (ys.map (Opd.ev (Ae tl)))).2=true:=by intro _;rfl) (hni:∀ y,(rv y).noI=true:=by intro _;rfl) (hgd:gdB gd (Ae tl)=true:=by kernel_rfl) (hF:Nat.blt F mtd=true:=by kernel_rfl):XD P G bad g k (⟨some d,gd,.call fo ys tys⟩ :: xs) tl ol ra da Kf:=by
 obtain ⟨y,hy,hK⟩:=Al h;obtain ⟨args0,h1,hn⟩:=map_some hA;have hF':F<mtd:=Nat.le_of_ble_eq_true hF;exact V2 (caps:=[]) _ _ _ _ (I5 hgd) h1 (hc hy) hb (h3 y hK) (hfo:=hfo) (hz:=by simp only [Bj,List.map_nil,List.append_nil,List.nil_append,ite_self]) (hn:=hn) (hr:=rfl) (hF:=if_pos hF') (hx:=hx y) (hni:=hni y)
variable {sz j:Nat} {c e:Opd}
theorem riH (t:Ty) {zs:List t.D} {K:t.D->Option β} (h:(zs[j]?).bind K=some r) (h3:∀ y,zs[j]? =some y->K y=some r->XW P G g (k+1) xs ((d,.telt (c.ev (Ae tl)).tag t y 0) :: tl) ol Kf) (hx:(c.ev (Ae tl)).un=.tree t zs:=by kernel_rfl) (hi:e.ev (Ae tl)=.int .i64 (j:Int):=by kernel_rfl) (hs:sz=t.size:=by rfl) (hgd:gdB gd (Ae tl)=true:=by kernel_rfl):XW P G g k (⟨some d,gd,.i (.idx sz c e)⟩ :: xs) tl ol Kf:=by
 obtain ⟨y,hy,hK⟩:=Al h;exact rs0 _ (Fb hgd (Le hx hi hs (Int.natCast_nonneg _) rfl hy rfl)) (h3 y hy hK)
theorem diH (t:Ty) {zs:List t.D} {K:t.D->Option β} (h:(zs[j]?).bind K=some r) (h3:∀ y,zs[j]? =some y->K y=some r->XD P G bad g (k+1) xs ((d,.telt (c.ev (Ae tl)).tag t y 0) :: tl) ol ((0,.telt (c.ev (Ae tl)).tag t y 0,[]) :: ra) ((rdX (Ae tl) (Ac ol) ⟨some d,gd,.i (.idx sz c e)⟩) :: da) Kf) (hx:(c.ev (Ae tl)).un=.tree t zs:=by kernel_rfl) (hi:e.ev (Ae tl)=.int .i64 (j:Int):=by kernel_rfl) (hs:sz=t.size:=by rfl) (hgd:gdB gd (Ae tl)=true:=by kernel_rfl):XD P G bad g k (⟨some d,gd,.i (.idx sz c e)⟩ :: xs) tl ol ra da Kf:=by
 obtain ⟨y,hy,hK⟩:=Al h;exact ds0 _ (Fb hgd (Le hx hi hs (Int.natCast_nonneg _) rfl hy rfl)) (h3 y hy hK)
theorem riE (t:Ty) {zs:List t.D} {y:t.D} (hy:zs[j]? =some y) (h3:XW P G g (k+1) xs ((d,.telt (c.ev (Ae tl)).tag t y 0) :: tl) ol Kf) (hx:(c.ev (Ae tl)).un=.tree t zs:=by kernel_rfl) (hi:e.ev (Ae tl)=.int .i64 (j:Int):=by kernel_rfl) (hs:sz=t.size:=by rfl) (hgd:gdB gd (Ae tl)=true:=by kernel_rfl):XW P G g k (⟨some d,gd,.i (.idx sz c e)⟩ :: xs) tl ol Kf :=
 rs0 _ (Fb hgd (Le hx hi hs (Int.natCast_nonneg _) rfl hy rfl)) h3
theorem diE (t:Ty) {zs:List t.D} {y:t.D} (hy:zs[j]? =some y) (h3:XD P G bad g (k+1) xs ((d,.telt (c.ev (Ae tl)).tag t y 0) :: tl) ol ((0,.telt (c.ev (Ae tl)).tag t y 0,[]) :: ra) ((rdX (Ae tl) (Ac ol) ⟨some d,gd,.i (.idx sz c e)⟩) :: da) Kf) (hx:(c.ev (Ae tl)).un=.tree t zs:=by kernel_rfl) (hi:e.ev (Ae tl)=.int .i64 (j:Int):=by kernel_rfl) (hs:sz=t.size:=by rfl) (hgd:gdB gd (Ae tl)=true:=by kernel_rfl):XD P G bad g k (⟨some d,gd,.i (.idx sz c e)⟩ :: xs) tl ol ra da Kf :=
 ds0 _ (Fb hgd (Le hx hi hs (Int.natCast_nonneg _) rfl hy rfl)) h3
theorem raH {M:Option β} (h:og (j+1<4611686018427387904) M=some r) (h3:M=some r->XW P G g (k+1) xs ((d,.int .i64 ((j+1:Nat):Int)) :: tl) ol Kf) (hx:c.ev (Ae tl)=.int .i64 (j:Int):=by kernel_rfl) (hy:e.ev (Ae tl)=.int .i64 1:=by kernel_rfl) (hgd:gdB gd (Ae tl)=true:=by kernel_rfl):XW P G g k (⟨some d,gd,.i (.bin .add c e)⟩ :: xs) tl ol Kf:=by
 obtain ⟨hg,hK⟩:=Bf h;exact rs0 _ (Fb hgd (U9 hx hy hg)) (h3 hK)
variable {t:Bool} {A B:Option β}
theorem kQ {y z:AC} {R:AE->St->Prop} {S:St} (h:cond t A B=some r) (h1:t=true->A=some r->awp P G y R S) (h2:t=false->B=some r->awp P G z R S) (hc:c.ev S.tm=.bool t:=by kernel_rfl):awp P G (.cond c y z) R S:=by
 rcases Bc h with ⟨q,h⟩|⟨q,h⟩
 ·exact Nv q (h1 q h) hc
 ·exact N2 q (h2 q h) hc
theorem kR (h:cond t A B=some r) (s:Nat) (h1:t=true->A=some r->XW P G g k xs ((s,.bool true) :: tl) ol Kf) (h2:t=false->B=some r->XW P G g k xs ((s,.bool false) :: tl) ol Kf) (hd:Ae tl s=.bool t:=by kernel_rfl):XW P G g k xs tl ol Kf:=by
 rcases Bc h with ⟨q,h⟩|⟨q,h⟩
 ·exact rq s q (h1 q h) hd
 ·exact rq s q (h2 q h) hd
end
section
variable {G:World->Prop} {α β:Type} {a r:α}
theorem jO {k:α->Option β} {x v:β} {c:Ctl α β} (h:some (Ctl.out x)=some c) (hn:Ctl.then k c=some v):some x=some v:=by
 cases h;exact hn
variable {tl0 tl:List (Nat×AV)} {ol0:List (Oid×Option Ob)} {ol:List (Oid×Ob)} {g0 g:Nat} {l:List (Oid×Oid)} {T:Prop}
def Lr (_l:List (Oid×Oid)) (T:Prop):Prop:=T
theorem jE0 (h1:(tl.map fun p=>Ae tl0 p.1)=tl.map fun p=>p.2.ren (Aj l):=by kernel_rfl) (h2:G2 ol0 (Aj l) ol:=by exact G4 (by kernel_rfl)) (h3:Sa l tl ol g=true:=by kernel_rfl):Lr l (WeakG G ⟨Ae tl0,Ac ol0,g0⟩ ⟨Ae tl,Ac (Ar ol),g⟩):=At l h1 h2 h3
theorem jE (l:List (Oid×Oid)) (k:Lr l T:=by cases h;exact jE0):T:=k
theorem jC0 {F:α->St} (j:⟨Ae tl,Ac (Ar ol),g⟩=F a:=by exact rfl) (h1:(tl.map fun p=>Ae tl0 p.1)=tl.map fun p=>p.2.ren (Aj l):=by kernel_rfl) (h2:G2 ol0 (Aj l) ol:=by exact G4 (by kernel_rfl)) (h3:Sa l tl ol g=true:=by kernel_rfl):Lr l (∃ t,(Ctl.next a:Ctl α β)=.next t/\WeakG G ⟨Ae tl0,Ac ol0,g0⟩ (F t)):=⟨_,rfl,j▸At l h1 h2 h3⟩
theorem jC (l:List (Oid×Oid)) (k:Lr l T:=by cases h;exact jC0):T:=k
theorem jL0 {F:α->St} {k:α->Option β} {v:β} (hn:Ctl.then k (Ctl.next a)=some v) (j:⟨Ae tl,Ac (Ar ol),g⟩=F a:=by exact rfl) (h1:(tl.map fun p=>Ae tl0 p.1)=tl.map fun p=>p.2.ren (Aj l):=by kernel_rfl) (h2:G2 ol0 (Aj l) ol:=by exact G4 (by kernel_rfl)) (h3:Sa l tl ol g=true:=by kernel_rfl):Lr l (∃ t,WeakG G ⟨Ae tl0,Ac ol0,g0⟩ (F t)/\k t=some v):=⟨_,j▸At l h1 h2 h3,hn⟩
theorem jL (l:List (Oid×Oid)) (k:Lr l T:=by cases h;exact jL0 (by assumption)):T:=k
theorem jLw {S:St} {F:α->St} {k:α->Option β} {v:β} (hn:Ctl.then k (Ctl.next a)=some v) (w:WeakG G S (F a)):∃ t,WeakG G S (F t)/\k t=some v:=⟨_,w,hn⟩
def scL:List RL->List AV
 | []=>[]
 | .sc c :: r=>c :: scL r
 | _ :: r=>.any :: scL r
def scP:List (Bool×List RL)->List AV
 | []=>[]
 | (b,ls) :: r=>(if b then .agg (scL ls) else (scL ls).headD .any) :: scP r
def AV.sc1:AV->Bool
 | .int .. | .bool .. | .str .. | .nils=>true
 | _=>false
def S5:List RL->Bool
 | []=>true
 | .sc c :: r=>c.sc1&&S5 r
 | _ :: _=>false
def scB:List (Bool×List RL)->Bool
 | []=>true
 | (b,ls) :: r=>(S5 ls&&(b||ls.length==1))&&scB r
theorem J9 {ob:Oid->Option Ob} {c:AV} (h:c.sc1=true):Fn ob c=some (.sc c):=by
 cases c <;> first|rfl|cases h
theorem Jw {vs:List Value} {ob:Oid->Option Ob}:∀ {ls:List RL},S5 ls=true->LeavesR vs ob (scL ls) ls
 | [],_=>rfl
 | .sc c :: r,h=>by
  simp only [S5,Bool.and_eq_true] at h;exact ⟨_,_,rfl,Uo (J9 h.1),Jw h.2⟩
 | .new .. :: _,h=>by cases h
 | .newM .. :: _,h=>by cases h
 | .arg .. :: _,h=>by cases h
 | .argS .. :: _,h=>by cases h
 | .frz _ :: _,h=>by cases h
 | .imm _ :: _,h=>by cases h
theorem G8 {vs:List Value} {ob:Oid->Option Ob}:∀ {ps:List (Bool×List RL)},scB ps=true->PartsR vs ob (scP ps) ps
 | [],_=>rfl
 | (b,ls) :: r,h=>by
  simp only [scB,Bool.and_eq_true,Bool.or_eq_true,beq_iff_eq] at h;obtain ⟨⟨h1,h2⟩,h3⟩:=h;cases b with
  | true=>exact Vt (Jw h1) (G8 h3)
  | false =>
   have h2:=h2.resolve_left (by decide)
   match ls,h1,h2 with
   | [.sc c],h1,_ =>
    simp only [S5,Bool.and_eq_true] at h1;have h1:c.sc1=true:=h1.1;refine Bn ?_ (Uo (J9 h1)) (G8 h3);show c.one=true;cases c <;> first|rfl|cases h1
   | [.new ..],h1,_=>cases h1
   | [.newM ..],h1,_=>cases h1
   | [.arg ..],h1,_=>cases h1
   | [.argS ..],h1,_=>cases h1
   | [.frz _],h1,_=>cases h1
   | [.imm _],h1,_=>cases h1
theorem jR {rs:List Res} {f:Nat->AV} {ob:Oid->Option Ob} {g:Nat} {rv:α->RV} {vs:List Value} {e:AE} (h:some a=some r) (avs:List AV) (h2:PartsR vs ob avs (rv a).ps) (he:e=.normal∨e=.ret:=by simp) (h1:Res.evL f ob rs=some avs:=by kernel_rfl) (h3:ndB (Ib ob (Fa avs))=true:=by kernel_rfl) (h4:(rv a).tup=decide (rs.length≠1):=by kernel_rfl):∃ S',WeakG G ⟨f,ob,g⟩ S'/\(e=.normal∨e=.ret)/\RetOK vs rs S' (rv r):=by
 cases h;exact Vx avs h2 he h1 h3 h4
theorem jS {rs:List Res} {f:Nat->AV} {ob:Oid->Option Ob} {g:Nat} {rv:α->RV} {vs:List Value} {e:AE} (h:some a=some r) (he:e=.normal∨e=.ret:=by simp) (h1:Res.evL f ob rs=some (scP (rv a).ps):=by kernel_rfl) (h2:scB (rv a).ps=true:=by kernel_rfl) (h3:ndB (Ib ob (Fa (scP (rv a).ps)))=true:=by kernel_rfl) (h4:(rv a).tup=decide (rs.length≠1):=by kernel_rfl):∃ S',WeakG G ⟨f,ob,g⟩ S'/\(e=.normal∨e=.ret)/\RetOK vs rs S' (rv r):=by
 cases h;exact Vx _ (G8 h2) he h1 h3 h4
end
abbrev sT (tl:List (Nat×AV)) (ol:List (Oid×Ob)):St:=⟨Ae tl,Ac (Ar ol),2⟩
section
variable {P:Program} {G:World->Prop} {σ τ β ρ:Type} {x y:AC} {R:AE->St->Prop} {S:St}
theorem sqF {A:Option τ} {k:τ->Option β} {r:β} (h:A.bind k=some r) (F:τ->St) (h1:∀ t,A=some t->awp P G x (Cg (fun S'=>WeakG G S' (F t)) R) S) (h2:∀ t,k t=some r->awp P G y R (F t)):awp P G (.seq x y) R S:=by
 refine Sz h (fun t S''=>S''=F t) (fun t ht=>A0 (fun e S' hq=>?_) (h1 t ht)) fun t S'' e hk=>e▸h2 t hk
 cases e with
 | normal=>exact ⟨_,hq,rfl⟩
 | exit id=>exact hq
 | ret=>exact hq
theorem sqC {A:Option (Ctl τ β)} {k:τ->Option β} {r:β} (h:Lj A k=some r) (F:τ->St) (h1:∀ v,A=some v->Ctl.then k v=some r->awp P G x (Cg (fun S'=>∃ t,v=.next t/\WeakG G S' (F t)) R) S) (h2:∀ t,k t=some r->awp P G y R (F t)):awp P G (.seq x y) R S:=by
 refine Q7 h (fun t S''=>S''=F t) (fun v hv hk=>A0 (fun e S' hq=>?_) (h1 v hv hk)) fun t S'' e hk=>e▸h2 t hk
 cases e with
 | normal=>obtain ⟨t,ht,hw⟩:=hq;exact ⟨t,_,ht,hw,rfl⟩
 | exit id=>exact hq
 | ret=>exact hq
theorem lpF {body:σ->Option (Ctl σ ρ)} {fuel:Nat} {s0:σ} {v:ρ} (h:Aq body fuel s0=some v) (F:σ->St) (w:WeakG G S (F s0))
  (h1:∀ n s c,body s=some c->Ctl.then (Aq body n) c=some v->awp P G x (Cg (fun S2=>∃ s',WeakG G S2 (F s')/\Aq body n s'=some v) R) (F s)):awp P G (.loop x) R S:=by
 refine P3 h (fun s S=>S=F s) ⟨_,w,rfl⟩ fun n s S1 c e hc hn=>e▸A0 (fun e S2 hq=>?_) (h1 n s c hc hn)
 cases e with
 | normal=>obtain ⟨s',hw,hl⟩:=hq;exact ⟨s',_,hw,rfl,hl⟩
 | exit id=>exact hq
 | ret=>exact hq
end
theorem skW {P:Program} {G:World->Prop} {R:AE->St->Prop} {S:St} {K:St->Prop} (h:K S):awp P G .skip (Cg (fun S'=>∃ S'',WeakG G S' S''/\K S'') R) S:=Kg (tn_ (wr_ h))
theorem rnW {P:Program} {G:World->Prop} {R:AE->St->Prop} {g k g':Nat} {tl:List (Nat×AV)} {ol:List (Oid×Option Ob)} {K:St->Prop} (h:K ⟨Ae tl,Ac ol,g'⟩):XW P G g k [] tl ol (fun tl' ol'=>Cg (fun S'=>∃ S'',WeakG G S' S''/\K S'') R .normal ⟨Ae tl',Ac ol',g'⟩):=As (tn_ (wr_ h))
theorem lxT {P:Program} {G:World->Prop} {R:AE->St->Prop} {S:St} {i:Nat} {K K1 K2:St->Prop} (h:K S):awp P G (.exit i) (Cg K1 (Cg K2 (Co i (Cg K R)))) S:=Hm (te_ (te_ (be_ (tn_ h))))
def AV.setL (m:Nat):AV->AV
 | .own i t o _=>.own i t o m
 | v=>v
theorem wL {G:World->Prop} {tl:List (Nat×AV)} {ol:List (Oid×Option Ob)} {g:Nat} (s:Nat) {n m:Nat} (h:n=m) (hs:Ae tl s=(Ae tl s).setL n:=by kernel_rfl):WeakG G ⟨Ae tl,Ac ol,g⟩ ⟨Ae ((s,(Ae tl s).setL m) :: tl),Ac ol,g⟩ :=
 Rk s (Ae tl s) _ rfl (by rw [← h];exact hs)
section
variable {P:Program} {G:World->Prop} {g k d:Nat} {gd:Option (Nat×Bool)} {xs:List X} {tl:List (Nat×AV)} {ol:List (Oid×Option Ob)} {bad:List (Nat×Nat)} {ra:List Rec} {da:List (List Oid)} {Kf:List (Nat×AV)->List (Oid×Option Ob)->Prop}
variable {α β:Type} {x:Option α} {K:α->Option β} {r:β} {args:List AV} {fo:Opd} {ys:List Opd} {tys:List (List (Option Ty))} {F:FuncId}
variable {ol0:List (Oid×Ob)} {v0:α->AV} {us:α->List (Oid×Ob)}
theorem rcM (h:x.bind K=some r) (l:List (Oid×Oid)) (zs:List AV) (hc:∀ {y},x=some y->Fm P G F args ol0 (v0 y) (us y)) (hR:G2 ol (Aj l) ol0) (h1:Eh (Aj l) (I6 ((nmL ol0).map (Aj l)) (Ac ol)) zs args) (h4:∀ j∈nmL ol0,Reached zs (Ac ol) (Aj l j))
  (h3:∀ y,K y=some r->XW P G g (k+1) xs ((d,(v0 y).ren (Au (Aj l) ((d,0),g+k))) :: tl) ((Ar (E2 (Au (Aj l) ((d,0),g+k)) (us y))++De (Aj l) ol0)++ol) Kf)
  (hz:ys.map (Opd.ev (Ae tl))=zs:=by kernel_rfl) (hB:∀ y,Ka l ol0 (us y) (g+k) ol=true:=by intro _;kernel_rfl) (hb:Bb P F=true:=by kernel_rfl) (hfo:fo.ev (Ae tl)=.fn F []:=by kernel_rfl) (hgd:gdB gd (Ae tl)=true:=by kernel_rfl) (hF:Nat.blt F mtd=true:=by kernel_rfl):XW P G g k (⟨some d,gd,.call fo ys tys⟩ :: xs) tl ol Kf:=by
 obtain ⟨y,hy,hK⟩:=Al h;exact S4 (caps:=[]) _ _ l zs (I5 hgd) (hc hy) hb hR h1 h4 (h3 y hK) (hfo:=hfo) (hz:=by rw [List.map_nil,List.append_nil];exact hz) (hB:=hB y) (hF:=Nat.le_of_ble_eq_true hF) (hv:=rfl) (hu:=rfl)
theorem dcM (h:x.bind K=some r) (l:List (Oid×Oid)) (zs:List AV) (hc:∀ {y},x=some y->Fm P G F args ol0 (v0 y) (us y)) (hR:G2 ol (Aj l) ol0) (h1:Eh (Aj l) (I6 ((nmL ol0).map (Aj l)) (only (rdX (Ae tl) (Ac ol) ⟨some d,gd,.call fo ys tys⟩) (Ac ol))) zs args) (h4:∀ j∈nmL ol0,Reached zs (only (rdX (Ae tl) (Ac ol) ⟨some d,gd,.call fo ys tys⟩) (Ac ol)) (Aj l j)) (hd:∀ q∈exL ol0,Aj l q.1∈rdX (Ae tl) (Ac ol) ⟨some d,gd,.call fo ys tys⟩)
  (h3:∀ y,K y=some r->XD P G bad g (k+1) xs ((d,(v0 y).ren (Au (Aj l) ((d,0),g+k))) :: tl) ((Ar (E2 (Au (Aj l) ((d,0),g+k)) (us y))++De (Aj l) ol0)++ol) ((2,(v0 y).ren (Au (Aj l) ((d,0),g+k)),C1 (Aj l) ((d,0),g+k) ol0 (us y)) :: ra) ((rdX (Ae tl) (Ac ol) ⟨some d,gd,.call fo ys tys⟩) :: da) Kf)
  (hz:ys.map (Opd.ev (Ae tl))=zs:=by kernel_rfl) (hB:∀ y,Ka l ol0 (us y) (g+k) ol=true:=by intro _;kernel_rfl) (hb:Bb P F=true:=by kernel_rfl) (hfo:fo.ev (Ae tl)=.fn F []:=by kernel_rfl) (hgd:gdB gd (Ae tl)=true:=by kernel_rfl) (hF:Nat.blt F mtd=true:=by kernel_rfl):XD P G bad g k (⟨some d,gd,.call fo ys tys⟩ :: xs) tl ol ra da Kf:=by
 obtain ⟨y,hy,hK⟩:=Al h;exact U4 (caps:=[]) _ _ l zs (I5 hgd) (hc hy) hb hR h1 h4 hd (h3 y hK) (hfo:=hfo) (hz:=by rw [List.map_nil,List.append_nil];exact hz) (hB:=hB y) (hF:=Nat.le_of_ble_eq_true hF) (hv:=rfl) (hu:=rfl)
theorem aR {θ:Oid->Oid} {ob:Oid->Option Ob}:∀ {zs args:List AV},zs=args.map (AV.ren θ)->Eh θ ob zs args
 | _,[],h=>by subst h;exact .nil
 | _,_ :: _,h=>by subst h;exact .cons (.ren rfl) (aR rfl)
end
end
section
open Go.RowKit
def Tab (w:World):Prop:=(∃ p,w.cell? ⟨0,0,none⟩=some (.iface 79 (.pointer (some p))))/\w.cell? ⟨1,0,none⟩=some (.iface 64 (.agg #[.pointer (some ⟨3,29,none⟩)]))
theorem Tab.below {w w':World} (h:Tab w) (hb:Below w.heap.size w w'):Tab w':=⟨h.1.imp fun _ h=>Hc hb h,Hc hb h.2⟩
abbrev cK (f:FuncId) (a:List AV) (r:RV):Prop:=Cy Tryd.prog Tab f a r
end

section
open Go.RowKit Go.Deep
end
section
open Go.RowKit Go.Deep Go.Extern.Stop Go.Stop Go.Extern
theorem M0 (v:Value) (w:World):(Extern.ReflectliteType.typeOf #[.iface 79 v]).run Tryd.prog w=.ok (.iface 64 (.agg #[.pointer (some ⟨3,79,none⟩)])) w:=by kernel_rfl
theorem H9 (w:World):(callFunc 57 #[.agg #[.pointer (some ⟨3,79,none⟩)]]).run Tryd.prog w=.ok (.value (.bool true)) w:=by kernel_rfl
theorem Jo (v:Value) (w:World):(Go.method 213 64 v "Comparable").run Tryd.prog w=.ok (57,v) w:=by kernel_rfl
theorem Pw:(Tryd.prog.info? 79).map (·.comparable)=some true:=by kernel_rfl
theorem Qa:(Tryd.prog.info? 101).map (·.size)=some 1:=by kernel_rfl
theorem Se (v:Value) (xT:TypeId) (w:World):(Instr.typeAssert (.iface 41 v) xT 66 true).run Tryd.prog w=.ok (.tuple #[.iface 41 v,.bool true]) w:=run_typeAssert_hasB Tryd.underlying66 (by kernel_rfl) v xT w
theorem Vb (v:Value) (w:World):(Go.method 213 41 v "Is").run Tryd.prog w=.ok (51,v) w:=by kernel_rfl
theorem A4 {w:World} {p:Addr} {u:Value} (h:w.cell? p=some u) (o:Obj):(w.alloc o).cell? p=some u:=(World.cell?_alloc_lt _ _ _ (World.block_lt_of_cell? w p h)).trans h
set_option maxRecDepth 10000 in
theorem Vf (a c:Value) (p:Addr) (w:World) (hg:w.cell? ⟨0,0,none⟩=some (.iface 79 (.pointer (some p)))) :
  Calls Tryd.prog 51 #[.agg #[a,c],.iface 79 (.pointer (some p))] w fun e w'=>e=.returned (.bool true)/\w'=w.alloc (.cells #[a,c] 41):=by
 obtain ⟨i,hi,hcmp⟩:=oms.1 Pw;obtain ⟨j,hj,hjs⟩:=oms.1 Qa;have heq:=run_eql_iface_ptr_same (P:=Tryd.prog) (w.alloc (.cells #[a,c] 41)) p Tryd.underlying29 Tryd.underlying79 hi hcmp hj;have hg2:=A4 hg (.cells #[a,c] 41)
 go_enter Tryd.func51,Tryd.ntmps51
 go_wp2
 go_ret
 exact ⟨rfl,rfl⟩
set_option maxRecDepth 10000 in
theorem Vw (a c:Value) (p:Addr) (w:World) (hg:w.cell? ⟨0,0,none⟩=some (.iface 79 (.pointer (some p)))) :
  Calls Tryd.prog 20 #[.iface 41 (.agg #[a,c]),.iface 79 (.pointer (some p))] w fun e w'=>e=.returned (.bool true)/\w'=w.alloc (.cells #[a,c] 41):=by
 have h24:= @run_callFunc_extern Tryd.prog 24 _ Extern.ReflectliteType.typeOf Tryd.func24 (by kernel_rfl) (by kernel_rfl) (by kernel_rfl) (by kernel_rfl);have tT:=M0;have cT:=H9;have mR:=Jo;have nE:=Se;have mI:=Vb;have hty:=run_eql_iface_types (P:=Tryd.prog) 41 79 (.agg #[a,c]) (.pointer (some p)) Tryd.underlying29 (by decide) w
 go_enter Tryd.func20,Tryd.ntmps20
 go_wp2
 refine wp_loop_rounds 1 ?_;rw [rounds_succ]
 go_wp2_with (go_at_call 51;refine (Vf a c p _ hg).mono ?_;rintro e w' ⟨rfl,rfl⟩)
 go_ret
 exact ⟨rfl,rfl⟩
theorem Qb (p:Addr) (w:World):Calls Tryd.prog 20 #[.nilIface,.iface 79 (.pointer (some p))] w fun e w'=>e=.returned (.bool false)/\w'=w:=by
 have hn:=run_eql_iface_nil_left (P:=Tryd.prog) w 79 (.pointer (some p)) Tryd.underlying29
 go_enter Tryd.func20,Tryd.ntmps20
 go_wp2
 go_ret
 exact ⟨rfl,rfl⟩
theorem Mk (t:Addr) (w:World):(ReflectliteValue.unpack (.iface 45 (.pointer (some t)))).run Tryd.prog w
  = .ok (.agg #[.pointer (some ⟨3,45,none⟩),.pointer (some ⟨w.heap.size,0,none⟩),.int .u64 150]) (w.alloc (.cells #[.pointer (some t)] 45)):=by kernel_rfl
theorem Sx (a:Addr) (w:World):(ReflectliteValue.methodAny (ReflectliteValue.valueError "reflectlite.Value.Type" 0) (fun t _ _ _=>ReflectliteType.toType t) #[.agg #[.pointer (some ⟨3,45,none⟩),.pointer (some a),.int .u64 150]]).run Tryd.prog w
  = .ok (.iface 64 (.agg #[.pointer (some ⟨3,45,none⟩)])) w:=by kernel_rfl
theorem Sf (h:Value) (w:World):(Go.method 213 64 (.agg #[h]) "Kind").run Tryd.prog w=.ok (47,h) w:=by kernel_rfl
theorem Rz (w:World):((ReflectliteType.abiMethod fun t=>(fun a:Nat=>Value.int IntKind.u8 (a:Int)) <$> Rtype.kind t) #[.pointer (some ⟨3,45,none⟩)]).run Tryd.prog w=.ok (.int .u8 22) w:=by kernel_rfl
theorem R0 (w:World):((ReflectliteType.abiMethod fun t=>(fun a:Nat=>Value.int IntKind.u8 (a:Int)) <$> Rtype.kind t) #[.pointer (some ⟨3,41,none⟩)]).run Tryd.prog w=.ok (.int .u8 25) w:=by kernel_rfl
theorem Sn (z:Sem Value) (f:TypeId->Addr->Nat->Nat->Sem Value) (v:Value) :
  ReflectliteValue.method z f #[v]=(do match ← ReflectliteValue.parts v with|none=>z|some (t,a,fl)=>f t a fl (fl % 32)):=rfl
theorem Kq (a:Addr) (w:World):(ReflectliteValue.parts (.agg #[.pointer (some ⟨3,45,none⟩),.pointer (some a),.int .u64 150])).run Tryd.prog w=.ok (some (45,a,150)) w:=by kernel_rfl
theorem P7 (a p:Addr) (W:World) (ha:W.cell? a=some (.pointer (some p))) :
  (ReflectliteValue.method (ReflectliteValue.valueError "reflectlite.Value.IsNil" 0) ReflectliteValue.isNil #[.agg #[.pointer (some ⟨3,45,none⟩),.pointer (some a),.int .u64 150]]).run Tryd.prog W=.ok (.bool false) W:=by
 rw [Sn];simp only [Sem.run_bind,Kq,Result.andThen];simp [ReflectliteValue.isNil,loadVar,isAgg,underlying,Tryd.underlying45,ha,Result.andThen]
theorem Rb (h:Value) (w:World):(Go.method 213 64 (.agg #[h]) "Elem").run Tryd.prog w=.ok (58,.agg #[h]) w:=by kernel_rfl
theorem I9 (h:Value) (w:World):(Go.method 213 64 (.agg #[h]) "Implements").run Tryd.prog w=.ok (59,.agg #[h]) w:=by kernel_rfl
theorem I3 (h:Value) (w:World):(Go.method 213 64 (.agg #[h]) "AssignableTo").run Tryd.prog w=.ok (56,.agg #[h]) w:=by kernel_rfl
theorem Qt (w:World):(ReflectliteType.method ReflectliteType.elem #[.agg #[.pointer (some ⟨3,45,none⟩)]]).run Tryd.prog w=.ok (.iface 64 (.agg #[.pointer (some ⟨3,41,none⟩)])) w:=by kernel_rfl
theorem Jf (w:World):(ReflectliteType.relation "Implements" ReflectliteType.implements_ #[.agg #[.pointer (some ⟨3,41,none⟩)],.iface 64 (.agg #[.pointer (some ⟨3,29,none⟩)])]).run Tryd.prog w=.ok (.bool true) w:=by kernel_rfl
theorem Oe (v:Value) (w:World):(ReflectliteType.typeOf #[.iface 41 v]).run Tryd.prog w=.ok (.iface 64 (.agg #[.pointer (some ⟨3,41,none⟩)])) w:=by kernel_rfl
theorem I0 (w:World):(ReflectliteType.relation "AssignableTo" ReflectliteType.assignableTo #[.agg #[.pointer (some ⟨3,41,none⟩)],.iface 64 (.agg #[.pointer (some ⟨3,41,none⟩)])]).run Tryd.prog w=.ok (.bool true) w:=by kernel_rfl
theorem M7 (a c:Value) (w:World):(ReflectliteValue.unpack (.iface 41 (.agg #[a,c]))).run Tryd.prog w
  = .ok (.agg #[.pointer (some ⟨3,41,none⟩),.pointer (some ⟨w.heap.size,0,none⟩),.int .u64 153]) (w.alloc (.cells #[a,c] 41)):=by kernel_rfl
theorem Om (w:World):(Rtype.elem? 45).run Tryd.prog w=.ok (some 41) w:=by kernel_rfl
theorem U2 (p:Addr) (w:World):(ReflectliteValue.mk 41 p ReflectliteValue.flagAddr).run Tryd.prog w=.ok (.agg #[.pointer (some ⟨3,41,none⟩),.pointer (some p),.int .u64 409]) w:=by kernel_rfl
theorem P8 (a p:Addr) (W:World) (ha:W.cell? a=some (.pointer (some p))) :
  (ReflectliteValue.method (ReflectliteValue.valueError "reflectlite.Value.Elem" 0) ReflectliteValue.elem #[.agg #[.pointer (some ⟨3,45,none⟩),.pointer (some a),.int .u64 150]]).run Tryd.prog W
   = .ok (.agg #[.pointer (some ⟨3,41,none⟩),.pointer (some p),.int .u64 409]) W:=by
 rw [Sn];simp only [Sem.run_bind,Kq,Result.andThen];simp [ReflectliteValue.elem,loadVar,isAgg,underlying,Tryd.underlying45,ha,Result.andThen,Om,U2]
theorem Up (v x:Value):ReflectliteValue.set #[v,x]=(do
  let (some (dst,a,fl),some (src,b,_)):=(← ReflectliteValue.parts v,← ReflectliteValue.parts x)
   | unsupported (.noEntry "extern/(internal/reflectlite.Value).Set.zeroValue")
  if fl / ReflectliteValue.flagAddr % 2==0 then unsupported (.noEntry "extern/(internal/reflectlite.Value).Set.unaddressable")
  let val ← loadVar src b
  if ← Rtype.directlyAssignable dst src then storeVar dst a val
  else if ← Rtype.implements dst src then
   if (← Rtype.kind src)==20 then
    match val with
    | .nilIface=>unsupported (.noEntry "extern/reflectlite: a nil value of one interface type handed on as a value of another")
    | _=>storeVar dst a val
   else storeVar dst a (.iface src val)
  else panicString ("reflectlite.Set: value of type " ++ (← Rtype.spelt src) ++ " is not assignable to type " ++ (← Rtype.spelt dst))
  pure (.tuple #[])):=rfl
theorem Oz (a:Addr) (w:World):(ReflectliteValue.parts (.agg #[.pointer (some ⟨3,41,none⟩),.pointer (some a),.int .u64 409])).run Tryd.prog w=.ok (some (41,a,409)) w:=by kernel_rfl
theorem Qk (a:Addr) (w:World):(ReflectliteValue.parts (.agg #[.pointer (some ⟨3,41,none⟩),.pointer (some a),.int .u64 153])).run Tryd.prog w=.ok (some (41,a,153)) w:=by kernel_rfl
theorem N4 (w:World):(Rtype.directlyAssignable 41 41).run Tryd.prog w=.ok true w:=by kernel_rfl
theorem Tn (tb b:Nat) (x y o1 o2:Value) (W:World) (hb:W.cell? ⟨b,0,none⟩=some x) (hb1:W.cell? ⟨b,1,none⟩=some y) (hx:x.oneCell'=true) (hy:y.oneCell'=true) (ht:W.cell? ⟨tb,0,none⟩=some o1) (ht1:W.cell? ⟨tb,1,none⟩=some o2) (hf:W.frozen? ⟨tb,0,none⟩=false) (hf1:W.frozen? ⟨tb,1,none⟩=false) :
  (ReflectliteValue.set #[.agg #[.pointer (some ⟨3,41,none⟩),.pointer (some ⟨tb,0,none⟩),.int .u64 409],.agg #[.pointer (some ⟨3,41,none⟩),.pointer (some ⟨b,0,none⟩),.int .u64 153]]).run Tryd.prog W
   = .ok (.tuple #[]) ((W.setCell ⟨tb,0,none⟩ x).setCell ⟨tb,1,none⟩ y):=by
 rw [Up];simp only [Sem.run_bind,Oz,Qk,Result.andThen]
 have hl:(loadCells ⟨b,0,none⟩ 2).run Tryd.prog W=.ok #[x,y] W:=run_loadCells_list (P:=Tryd.prog) W ⟨b,0,none⟩ [x,y] fun j v hj=>by
  match j,hj with
  | 0,hj=>simp at hj;subst hj;exact hb
  | 1,hj=>simp at hj;subst hj;exact hb1
 have hs:(storeCells ⟨tb,0,none⟩ [x,y]).run Tryd.prog W=.ok () (W.setCells tb 0 [x,y]):=by
  refine run_storeCells_cells (P:=Tryd.prog) tb 0 [x,y] 0 W (fun j hj=>?_) (fun j hj=>?_) (fun v hv=>?_)
  ·match j,hj with
   | 0,_=>simp [ht]
   | 1,_=>simp [ht1]
  ·match j,hj with
   | 0,_=>simp [hf]
   | 1,_=>simp [hf1]
  ·simp at hv;rcases hv with rfl|rfl
   ·exact hx
   ·exact hy
 simp [ReflectliteValue.flagAddr,loadVar,isAgg,underlying,Tryd.underlying41,hl,hs,Result.andThen,N4,storeVar,Value.cells,World.setCells]
set_option maxRecDepth 10000 in
theorem Vk (a c:Value) (t:Nat) (o1 o2:Value) (w:World) (ha:a.oneCell'=true) (hc:c.oneCell'=true) (hg:w.cell? ⟨1,0,none⟩=some (.iface 64 (.agg #[.pointer (some ⟨3,29,none⟩)]))) (ht0:w.cell? ⟨t,0,none⟩=some o1) (ht1:w.cell? ⟨t,1,none⟩=some o2) (hf0:w.frozen? ⟨t,0,none⟩=false) (hf1:w.frozen? ⟨t,1,none⟩=false) :
  Calls Tryd.prog 21 #[.iface 41 (.agg #[a,c]),.iface 45 (.pointer (some ⟨t,0,none⟩))] w fun ev w'=>ev=.returned (.bool true)/\w'=(((((w.alloc (.cells #[.pointer (some ⟨t,0,none⟩)] 45)).alloc (.cells #[.pointer (some ⟨3,45,none⟩),.pointer (some ⟨w.heap.size,0,none⟩),.int .u64 150] 56)).alloc (.cells #[.pointer (some ⟨3,45,none⟩),.pointer (some ⟨w.heap.size,0,none⟩),.int .u64 150] 56)).alloc (.cells #[a,c] 41)).setCell ⟨t,0,none⟩ a).setCell ⟨t,1,none⟩ c:=by
 have h26:= @run_callFunc_extern Tryd.prog 26 _ (fun args=>ReflectliteValue.unpack (args.getD 0 (.tuple #[]))) Tryd.func26 (by kernel_rfl) (by kernel_rfl) (by kernel_rfl) (by kernel_rfl);have h27:= @run_callFunc_extern Tryd.prog 27 _ (ReflectliteValue.methodAny (ReflectliteValue.valueError "reflectlite.Value.Type" 0) (fun t _ _ _=>ReflectliteType.toType t)) Tryd.func27 (by kernel_rfl) (by kernel_rfl) (by kernel_rfl) (by kernel_rfl);have h28:= @run_callFunc_extern Tryd.prog 28 _ (ReflectliteValue.method (ReflectliteValue.valueError "reflectlite.Value.IsNil" 0) ReflectliteValue.isNil) Tryd.func28 (by kernel_rfl) (by kernel_rfl) (by kernel_rfl) (by kernel_rfl);have h47:= @run_callFunc_extern Tryd.prog 47 _ (ReflectliteType.abiMethod fun t=>do pure (.int .u8 (← Rtype.kind t))) Tryd.func47 (by kernel_rfl) (by kernel_rfl) (by kernel_rfl) (by kernel_rfl);have h58:= @run_callFunc_extern Tryd.prog 58 _ (ReflectliteType.method ReflectliteType.elem) Tryd.func58 (by kernel_rfl) (by kernel_rfl) (by kernel_rfl) (by kernel_rfl);have h59:= @run_callFunc_extern Tryd.prog 59 _ (ReflectliteType.relation "Implements" ReflectliteType.implements_) Tryd.func59 (by kernel_rfl) (by kernel_rfl) (by kernel_rfl) (by kernel_rfl);have h24:= @run_callFunc_extern Tryd.prog 24 _ ReflectliteType.typeOf Tryd.func24 (by kernel_rfl) (by kernel_rfl) (by kernel_rfl) (by kernel_rfl);have h56:= @run_callFunc_extern Tryd.prog 56 _ (ReflectliteType.relation "AssignableTo" ReflectliteType.assignableTo) Tryd.func56 (by kernel_rfl) (by kernel_rfl) (by kernel_rfl) (by kernel_rfl);have h31:= @run_callFunc_extern Tryd.prog 31 _ (ReflectliteValue.method (ReflectliteValue.valueError "reflectlite.Value.Elem" 0) ReflectliteValue.elem) Tryd.func31 (by kernel_rfl) (by kernel_rfl) (by kernel_rfl) (by kernel_rfl);have h32:= @run_callFunc_extern Tryd.prog 32 _ ReflectliteValue.set Tryd.func32 (by kernel_rfl) (by kernel_rfl) (by kernel_rfl) (by kernel_rfl);have tO:=Oe;have mA:=I3;have a25:=I0;have v25:=M7;have f6:=Mk;have f7:=Sx;have mK:=Sf;have mE:=Rb;have mI:=I9;have k27:=Rz;have k25:=R0;have e27:=Qt;have i25:=Jf;have hlt:∀ {p:Addr} {u:Value},w.cell? p=some u->p.block<w.heap.size:=fun h=>World.block_lt_of_cell? w _ h
 have htl:t<w.heap.size:=hlt ht0;have ho1:=A4 (A4 hg (.cells #[.pointer (some ⟨t,0,none⟩)] 45)) (.cells #[.pointer (some ⟨3,45,none⟩),.pointer (some ⟨w.heap.size,0,none⟩),.int .u64 150] 56);have n8:=P7 ⟨w.heap.size,0,none⟩ ⟨t,0,none⟩ ((w.alloc (.cells #[.pointer (some ⟨t,0,none⟩)] 45)).alloc (.cells #[.pointer (some ⟨3,45,none⟩),.pointer (some ⟨w.heap.size,0,none⟩),.int .u64 150] 56)) (by simp);have el:=P8 ⟨w.heap.size,0,none⟩ ⟨t,0,none⟩ (((w.alloc (.cells #[.pointer (some ⟨t,0,none⟩)] 45)).alloc (.cells #[.pointer (some ⟨3,45,none⟩),.pointer (some ⟨w.heap.size,0,none⟩),.int .u64 150] 56)).alloc (.cells #[.pointer (some ⟨3,45,none⟩),.pointer (some ⟨w.heap.size,0,none⟩),.int .u64 150] 56)) (by rw [World.cell?_alloc_lt _ _ ⟨w.heap.size,0,none⟩ (by simp;omega)];simp)
 have st:=Tn t (w.heap.size+1+1+1) a c o1 o2 ((((w.alloc (.cells #[.pointer (some ⟨t,0,none⟩)] 45)).alloc (.cells #[.pointer (some ⟨3,45,none⟩),.pointer (some ⟨w.heap.size,0,none⟩),.int .u64 150] 56)).alloc (.cells #[.pointer (some ⟨3,45,none⟩),.pointer (some ⟨w.heap.size,0,none⟩),.int .u64 150] 56)).alloc (.cells #[a,c] 41))
  (by rw [World.cell?_alloc_at _ _ _ _ (by simp)];rfl) (by rw [World.cell?_alloc_at _ _ _ _ (by simp)];rfl) ha hc
  (A4 (A4 (A4 (A4 ht0 _) _) _) _) (A4 (A4 (A4 (A4 ht1 _) _) _) _)
  (by rw [World.frozen?_alloc_old _ _ _ (by simp;omega),World.frozen?_alloc_old _ _ _ (by simp;omega),World.frozen?_alloc_old _ _ _ (by simp;omega),World.frozen?_alloc_old _ _ _ (by simp;omega)];exact hf0)
  (by rw [World.frozen?_alloc_old _ _ _ (by simp;omega),World.frozen?_alloc_old _ _ _ (by simp;omega),World.frozen?_alloc_old _ _ _ (by simp;omega),World.frozen?_alloc_old _ _ _ (by simp;omega)];exact hf1)
 go_enter Tryd.func21,Tryd.ntmps21
 go_wp2
 refine wp_loop_rounds 1 ?_;rw [rounds_succ]
 go_wp2
 go_ret
 exact ⟨rfl,rfl⟩
set_option maxRecDepth 10000 in
theorem Qi (w:World) (hT:Tab w):Calls Tryd.prog 11 #[.nilIface] w fun e w'=>e=.returned (.tuple #[.int .i64 0,.int .i64 0])/\Below w.heap.size w w':=by
 obtain ⟨⟨p,hg⟩,-⟩:=hT;have hg2:=A4 hg (.cells #[.int .i64 0,.int .i64 0] 41)
 go_enter Tryd.func11,Tryd.ntmps11
 go_wp2_with (go_at_call 20;refine (Qb p _).mono ?_;rintro e w' ⟨rfl,rfl⟩)
 go_ret2
 exact ⟨rfl,Below.alloc (Below.refl _ _) (Nat.le_refl _) _⟩
set_option maxRecDepth 10000 in
theorem Vy (a c:Int) (w:World) (hT:Tab w):Calls Tryd.prog 11 #[.iface 41 (.agg #[.int .i64 a,.int .i64 c])] w fun e w'=>e=.returned (.tuple #[.int .i64 a,.int .i64 c])/\Below w.heap.size w w':=by
 obtain ⟨⟨p,hg⟩,hE⟩:=hT;have hg2:=A4 hg (.cells #[.int .i64 0,.int .i64 0] 41);have hE2:=A4 (A4 hE (.cells #[.int .i64 0,.int .i64 0] 41)) (.cells #[.int .i64 a,.int .i64 c] 41);have hc0:((w.alloc (.cells #[.int .i64 0,.int .i64 0] 41)).alloc (.cells #[.int .i64 a,.int .i64 c] 41)).cell? ⟨w.heap.size,0,none⟩=some (.int .i64 0):=A4 (by simp) _;have hc1:((w.alloc (.cells #[.int .i64 0,.int .i64 0] 41)).alloc (.cells #[.int .i64 a,.int .i64 c] 41)).cell? ⟨w.heap.size,1,none⟩=some (.int .i64 0):=A4 (by simp) _;have hf0:((w.alloc (.cells #[.int .i64 0,.int .i64 0] 41)).alloc (.cells #[.int .i64 a,.int .i64 c] 41)).frozen? ⟨w.heap.size,0,none⟩=false:=by rw [World.frozen?_alloc_old _ _ _ (by simp)];simp
 have hf1:((w.alloc (.cells #[.int .i64 0,.int .i64 0] 41)).alloc (.cells #[.int .i64 a,.int .i64 c] 41)).frozen? ⟨w.heap.size,1,none⟩=false:=by rw [World.frozen?_alloc_old _ _ _ (by simp)];simp
 go_enter Tryd.func11,Tryd.ntmps11
 go_wp2_with (first|(go_at_call 20;refine (Vw _ _ p _ hg2).mono ?_;rintro e w' ⟨rfl,rfl⟩)|(go_at_call 21;refine (Vk _ _ w.heap.size (.int .i64 0) (.int .i64 0) _ rfl rfl hE2 hc0 hc1 hf0 hf1).mono ?_;rintro e w' ⟨rfl,rfl⟩))
 go_region
 all_goals go_wp2
 all_goals go_ret2
 all_goals exact ⟨rfl,by repeat (first|with_reducible exact Below.refl _ _|((with_reducible refine Below.setCell ?_ ?_ _);rotate_left;focus (first|(simp;done)|omega|(simp;omega)))|((with_reducible refine Below.alloc ?_ ?_ _);rotate_left;focus (first|(simp;done)|omega|(simp;omega)))|(with_reducible refine Below.drew ?_)|(with_reducible refine below_draws_ ?_ _))⟩
def Fd (b:Bool) (a c:Int):Option (Int×Int):=some (if b then (a,c) else (0,0))
def Ie (r:Int×Int):RV:=⟨true,[(false,[.sc (.int .i64 r.1)]),(false,[.sc (.int .i64 r.2)])]⟩
theorem Ia {b:Bool} {a c:Int} {r:Int×Int} (h:Fd b a c=some r):Cy Tryd.prog Tab 11 [.err b (if b then some (41,some [a,c]) else none)] (Ie r):=by
 obtain rfl:=osj h;intro w im vs hG hr;obtain ⟨u1,_,rfl,h1,h2⟩:=hr;obtain rfl:_=[]:=h2;have hT:=hG w (Below.refl _ _)
 have key:Calls Tryd.prog 11 #[u1] w fun e w'=>e=.returned (.tuple #[.int .i64 (if b then (a,c) else (0,0)).1,.int .i64 (if b then (a,c) else (0,0)).2])/\Below w.heap.size w w':=by
  rcases h1 with ⟨rfl,rfl⟩|⟨rfl,t,u,rfl,h1⟩
  ·exact Qi w hT
  ·obtain ⟨rfl,h3⟩:=h1 _ _ rfl;obtain rfl:=h3 _ rfl;exact Vy a c w hT
 refine key.mono ?_;rintro e w' ⟨rfl,hb⟩;exact ⟨_,rfl,hb,[_,_],[],⟨_,[_],rfl,rfl,rfl,_,[],rfl,rfl,rfl,rfl,rfl⟩,⟨trivial,fun _=>rfl⟩,rfl⟩
end
section
open Go.RowKit Go.Deep Go.Shelf
def Rh:Go.Shelf.Ren:=⟨fun|137=>19|217=>23|266=>30|n=>n,fun|9=>9|5=>5|3=>3|n=>n,fun  | n=>n⟩
theorem R5:Lays.n137 Tryd.prog Rh where
  mixed:=by kernel_rfl
  f137:=Tryd.func19.trans (congrArg some (by kernel_rfl))
  f217:=Tryd.func23.trans (congrArg some (by kernel_rfl))
  f266:=Tryd.func30.trans (congrArg some (by kernel_rfl))
  t3:=Tryd.underlying3
  a3:=Tryd.isAgg3
  z3:=Tryd.sizeOf3
  v3:=Tryd.zeroValue3
  t5:=Tryd.underlying5
  a5:=Tryd.isAgg5
  z5:=Tryd.sizeOf5
  v5:=Tryd.zeroValue5
  t9:=Tryd.underlying9
  a9:=Tryd.isAgg9
  z9:=Tryd.sizeOf9
  v9:=Tryd.zeroValue9
end

section
open Go.RowKit Go.Deep Go.Shelf
def Cp (a0:ByteArray) (a1:Int):Option Int:=some (Lib.indexByte a0.data.toList a1.toNat.toUInt8)
def Fk (r:Int):RV:=⟨false,[(false,[.sc (.int .i64 r)])]⟩
theorem Fg {a0:ByteArray} {a1 r:Int} (h:Cp a0 a1=some r):Cy Tryd.prog Tab 19 [.str a0,.int .u8 a1] (Fk r):=by
 obtain rfl:=osj h;intro w im vs hG hr;obtain ⟨u1,_,rfl,h1,u2,_,rfl,h2,h3⟩:=hr;obtain rfl:_=[]:=h3;obtain rfl:u1=.string a0:=h1;obtain rfl:u2=.int .u8 a1:=h2;refine (Any.strings_IndexByte R5 a0 a1 w).mono ?_;rintro e w' ⟨rfl,rfl⟩;exact ⟨_,rfl,Below.refl _ _,[_],[],⟨_,[],rfl,rfl,rfl,rfl,rfl⟩,⟨trivial,fun _=>rfl⟩,rfl⟩
end
section
open Go.RowKit Go.Deep
section
variable {σ:Oid->Option Loc} {im:Nat->Prop} {w:World}
end
section
variable {n:Nat} {d:Option Nat} {f:Nat->AV} {ob:Oid->Option Ob}
end
end
section
open Go.RowKit Go.Deep
end
section
open Go.RowKit Go.Deep
section
variable {n:Nat} {d:Option Nat} {f:Nat->AV} {ob:Oid->Option Ob}
end
end
section
open Go.RowKit Go.Deep
end
section
open Go.RowKit Go.Deep
section
variable {n:Nat} {d:Option Nat} {f:Nat->AV} {ob:Oid->Option Ob}
end
end
section
open Go.RowKit Go.Deep
section
variable {P:Program} {G:World->Prop} (hfol:P.follows .mixedOrders=true) {g:FuncId} {fn:Func} (hf:P.funcs[g]? =some fn) {ac:AC} {rs:List Res} (hc:Ct P fn=some (ac,rs)) {args:List AV} {r:RV} {n:Nat}
include hfol hf hc
end
section
variable {σ:Oid->Option Loc} {im:Nat->Prop} {w:World} {θ:Oid->Oid} {t:Ty} {xs:List t.D}
end
section
variable {ob:Oid->Option Ob} {n:Nat} {k:Oid} {c:AV} {cs:List AV}
end
end
section
open Go.RowKit Go.Deep
abbrev Y1:Ty:=.pair .str .int
abbrev Y3:Ty:=.pair .int Y1
section
variable {P:Program} {G:World->Prop} {g k d:Nat} {gd:Option (Nat×Bool)} {q:Q} {xs:List X} {tl:List (Nat×AV)} {ol:List (Oid×Option Ob)} {bad:List (Nat×Nat)} {ra:List Rec} {da:List (List Oid)} {Kf:List (Nat×AV)->List (Oid×Option Ob)->Prop}
theorem zc {fo:Opd} {ys:List Opd} {tys:List (List (Option Ty))} {F:FuncId} {rv:RV} {args:List AV} (v:AV) (us:List (Oid×Option Ob)) (zs:List AV) (hc:Cy P G F args rv) (h3:XW P G g (k+1) xs ((d,v) :: tl) (us.reverseAux ol) Kf) (h1:E5 (gnd (Ac ol) 8) zs=some zs:=by kernel_rfl) (hb:Bb P F=true:=by kernel_rfl) (hfo:fo.ev (Ae tl)=.fn F []:=by kernel_rfl) (hz:ys.map (Opd.ev (Ae tl))=zs:=by kernel_rfl) (hn:Fe tys zs=args:=by kernel_rfl) (hr:rv.out (Cu ((d,0),g+k)) zs=(v,us):=by kernel_rfl) (hx:Cz us=true:=by rfl) (hni:rv.noI=true:=by kernel_rfl) (hF:Nat.blt F mtd=true:=by kernel_rfl):XW P G g k (⟨some d,none,.call fo ys tys⟩ :: xs) tl ol Kf:=Ko (caps:=[]) (args0:=zs) v us zs args trivial h1 hc hb h3 (hfo:=hfo) (hz:=by simpa only [Bj,List.map_nil,List.append_nil,List.nil_append,ite_self] using hz) (hn:=hn) (hr:=hr) (hF:=if_pos (Nat.le_of_ble_eq_true hF)) (hx:=hx) (hni:=hni)
end
theorem kr {p:Prop} (h:p:=by kernel_rfl):p:=h
abbrev an (n:Nat):AV:=.int .i64 n
abbrev oI (a b n:Nat):AV:=.own (oi a b) .int 0 n
section
variable {P:Program} {G:World->Prop} {g k d:Nat} {gd:Option (Nat×Bool)} {q:Q} {xs:List X} {tl:List (Nat×AV)} {ol:List (Oid×Option Ob)} {bad:List (Nat×Nat)} {ra:List Rec} {da:List (List Oid)} {Kf:List (Nat×AV)->List (Oid×Option Ob)->Prop}
end
section
variable {n:Nat} {d:Option Nat} {f:Nat->AV} {ob:Oid->Option Ob}
theorem zo {sz:Nat} {x i:Opd} {t:Ty} {o:Oid} {len:Nat} {k:IntKind} {m:Int} {j:Nat} (h0:0<=m) (hl:j<len) (hx:x.ev f=.own o t 0 len:=by kernel_rfl) (hi:i.ev f=.int k m:=by kernel_rfl) (hs:sz=t.size:=by rfl) (hj:m.toNat=j:=by rfl):A1 n ⟨d,none,.i (.idx sz x i)⟩ f ob=some (0,.elt o j 0,[]):=Ul hx hi hs h0 hj hl
theorem zl {vs:List Value} {c:AV} {l:RL} (h:Fn ob c=some l:=by kernel_rfl):LeafR vs ob c l:=Uo h
end
theorem zj {α:Type} {a b:α} (h:some a=some b):a=b:=osj h
end
section
open Go.RowKit Go.Deep
set_option maxRecDepth 4000
set_option maxHeartbeats 4800000
variable {aA aB aC aD:Int} {bA bB:ByteArray} {cA:Bool} {dA dB:List (Int×ByteArray×Int)} {eA:(List (Int×ByteArray×Int))×Int} {fA:(List (Int×ByteArray×Int))×Int×Int} {gA:(List (Int×ByteArray×Int))×Bool×Int×Int}
def Cx (u0:Int) (u1:ByteArray) (u2 u3:Int) (u4:ByteArray) (u5:Int):Option Bool :=
 cond (u0 !=u3)
 (some false)
 (cond (!(u1.toList==u4.toList))
  (some false)
  (cond (u2 !=u5)
   (some false)
   (some true)))
def Ay (r:Bool):RV:=⟨false,[(false,[.sc (.bool r)])]⟩
theorem Ic (h:Cx aA bA aB aC bB aD=some cA):cK 12 [.agg [ai aA,.str bA,ai aB],.agg [ai aC,.str bB,ai aD]] (Ay cA):=by
 exact cO Tryd.func12 (Am (Ab (Am (kQ h (fun _ h=>Am (Ag (tr_ (jS h)))) fun _ h=>skW (Ab (Am (kQ h (fun _ h=>Am (Ag (tr_ (jS h)))) fun _ h=>skW (Ab (Am (kQ h (fun _ h=>Am (Ag (tr_ (jS h)))) fun _ h=>skW (Am (Ag (jS h)))))))))))))
def Bu (a0:List (Int×ByteArray×Int)) (a1:List (Int×ByteArray×Int)) (u0:Nat):Option (Ctl Nat (Ctl Unit Bool)) :=
 cond (decide ((u0:Int)<(a0.length:Int)))
 ((a0[u0]?).bind fun x14 =>
 (a1[u0]?).bind fun x15 =>
 (Cx x14.1 x14.2.1 x14.2.2 x15.1 x15.2.1 x15.2.2).bind fun y16 =>
 cond (!y16)
  (some (Ctl.out (Ctl.out false)))
  (og (u0+1<4611686018427387904) <|
  some (Ctl.next (u0+1))))
 (some (Ctl.out (Ctl.next ())))
def B6 (a0:List (Int×ByteArray×Int)) (a1:List (Int×ByteArray×Int)):Option Bool :=
 cond ((a0.length:Int) !=(a1.length:Int))
 (some false)
 (Lj (Aq (fun s_:Nat=>Bu a0 a1 s_) 4611686018427387904 0) fun _ =>
 some true)
theorem Ej (h:B6 dA dB=some cA):cK 6 [.tree Y3 dA,.tree Y3 dB] (Ay cA):=by
 exact cO Tryd.func6 (Am (Ab (Am (kQ h (fun _ h=>Am (Ag (tr_ (jS h)))) fun _ h=>skW (sqC h (fun _=>sT [] []) (fun _ h hk6=>Am (Ak (lpF h (fun u0=>sT [(0,.tree Y3 dA),(1,.tree Y3 dB),(5,an u0)] []) (At []) (fun n_ u0 c_ h hn8=>Ab (Am (kQ h (fun _ h=>skW (Ab (Ak (Ab (Gy 16 (ds0 (.tree Y3 dA) kr (ds0 (an u0) kr (diH Y3 h fun x14 _ h=>dsT 3 (diH Y3 h fun x15 _ h=>ds0 (.agg [ai x15.1,.str x15.2.1,ai x15.2.2]) kr (dcH h Ic fun y16 h=>ds0 (.bool (!y16)) kr (V5 (J8 kr) (tn_ (wr_ (kQ h (fun _ h=>Am (Ag (br_ (tr_ (tr_ (br_ (tr_ (have h:=jO h hn8;(have h:=jO h hk6;jS h))))))))) fun _ h=>Kg (bn_ (tn_ (wr_ (Aa 19 (rsT 1 (raH h fun h=>rsT 1 (As (tn_ (jL []))))))))))))))))))))))) fun _ h=>lxT (have h:=jO h hn8;jC []))))))) fun _ h=>Am (Ag (jS h)))))))
def Bw  (u0:Int) (u1:ByteArray):Option (Ctl (Int×ByteArray) ByteArray) :=
 cond (decide (0<u0))
 (og ((strOfNums [IntKind.u8.wrap (wI (48+Int.tmod u0 10))]).size+u1.size<=9223372036854775807) <|
 some (Ctl.next (wI (Int.tdiv u0 10),(strOfNums [IntKind.u8.wrap (wI (48+Int.tmod u0 10))])++u1)))
 (some (Ctl.out u1))
def A6 (a0:Int):Option ByteArray :=
 cond (decide (a0<=0))
 (some (⟨#[109,48]⟩:ByteArray))
 ((Aq (fun s_:Int×ByteArray=>Bw s_.1 s_.2) 4611686018427387904 (a0,(⟨#[]⟩:ByteArray))).bind fun u0 =>
 og ((⟨#[109]⟩:ByteArray).size+u0.size<=9223372036854775807) <|
 some ((⟨#[109]⟩:ByteArray)++u0))
theorem D8 (h:A6 aA=some bA):Fm Tryd.prog Tab 13 [ai aA] [] (.str bA) []:=by
 refine J4 kr Tryd.func13 (Ll kr) (n:=20) kr (by simp) rfl kr trivial trivial (Am (Ab (Am (kQ h (fun _ h=>Am (Ag (tr_ (by obtain rfl:=osj h;exact R3 [.str ((⟨#[109,48]⟩:ByteArray))] (At (tl:=[(2,.str ((⟨#[109,48]⟩:ByteArray)))]) (g:=2) []))))) fun _ h=>skW (Am (sqF h (fun u1=>sT [(3,.str u1)] []) ?_ ?_))))))
 ·intro _ h;refine Ak (lpF h (fun (u0,u2)=>sT [(0,ai u0),(3,.str u2)] []) (At []) ?_);rintro n_ ⟨u0,u2⟩ c_ h hn9;refine Ab (Am (kQ h (fun _ h=>skW (Ak (Ab (Aa 13 (rsT 1 (rs0 (ai (Int.tmod u0 10)) (V7 (k:=.i64) (a:=u0) (b:=10) kr kr (by decide)) (rsT 2 (Wc (oI 12 8 1) (oi 12 8) (.vec 5 1 1 [.int .u8 (IntKind.u8.wrap (wI (48+Int.tmod u0 10)))]) trivial (Vr kr) (rsT 2 ?_))))))))) fun _ h=>lxT (have h:=jO h hn9;jE [])));obtain ⟨g14,h⟩:=Bf h;exact rs0 (.str ((strOfNums [IntKind.u8.wrap (wI (48+Int.tmod u0 10))])++u2)) (S7 (a:=strOfNums [IntKind.u8.wrap (wI (48+Int.tmod u0 10))]) (b:=u2) kr kr g14) (rsT 1 (rnW (Aa 16 (rsT 1 (rs0 (ai (wI (Int.tdiv u0 10))) (Vj (k:=.i64) (a:=u0) (b:=10) kr kr (by decide)) (rsT 1 (As (bn_ (tn_ (jL []))))))))))
 intro u1 h;refine Ab (Aa 5 (rsT 1 ?_));obtain ⟨g16,h⟩:=Bf h;refine rs0 (.str ((⟨#[109]⟩:ByteArray)++u1)) (S7 (a:=(⟨#[109]⟩:ByteArray)) (b:=u1) kr kr g16) (rsT 1 (rnW (Ag ?_)));obtain rfl:=zj h;exact R3 [.str ((⟨#[109]⟩:ByteArray)++u1)] (At (tl:=[(2,.str ((⟨#[109]⟩:ByteArray)++u1))]) (g:=2) [])
def Bh  (u1:Int) (u0:Nat) (u2:List (Int×ByteArray×Int)):Option (Ctl (Int×Nat×(List (Int×ByteArray×Int))) (Int×(List (Int×ByteArray×Int)))) :=
 cond (decide ((u0:Int)<(u2.length:Int)))
 ((u2[u0]?).bind fun x11 =>
 (A6 (wI (u1+1))).bind fun y14 =>
 ((u2.set u0 (u1,x11.2))[u0]?).bind fun x15 =>
 (((u2.set u0 (u1,x11.2)).set u0 (x15.1,y14,x15.2.2))[u0]?).bind fun x18 =>
 og (u0+1<4611686018427387904) <|
 some (Ctl.next (wI (wI (wI (u1+1)+1)+1),u0+1,((u2.set u0 (u1,x11.2)).set u0 (x15.1,y14,x15.2.2)).set u0 (x18.1,x18.2.1,wI (wI (u1+1)+1)))))
 (some (Ctl.out (u1,u2)))
def B8 (a0:List (Int×ByteArray×Int)) (a1:Int):Option ((List (Int×ByteArray×Int))×Int) :=
 (Aq (fun s_:Int×Nat×(List (Int×ByteArray×Int))=>Bh s_.1 s_.2.1 s_.2.2) 4611686018427387904 (a1,0,a0)).bind fun (u0,l3_p0) =>
some (l3_p0,u0)
theorem Gd (h:B8 dA aA=some eA) {n_a0:Nat} (hn_a0:n_a0=dA.length):Fm Tryd.prog Tab 7 [.own (oi 0 0) Y3 0 n_a0,ai aA] [(oi 0 0,.arr 36 Y3 dA)] (ai eA.2) [(oi 0 0,.arr 36 Y3 eA.1)]:=by
 refine J4 kr Tryd.func7 (Ll kr) (n:=35) kr (by simp) rfl kr ⟨trivial,trivial⟩ ⟨trivial,trivial⟩ (Am (sqF h (fun (u3,l3_p0)=>sT [(1,ai u3)] [(oi 0 0,.arr 36 Y3 l3_p0)]) ?_ ?_))
 ·intro _ h;refine Am (Ak (lpF h (fun (u2,u0,u1)=>sT [(0,.own (oi 0 0) Y3 0 u1.length),(1,ai u2),(5,an u0)] [(oi 0 0,.arr 36 Y3 u1)]) ((wL 0 (hn_a0:n_a0=dA.length)).trans (At [])) ?_));rintro n_ ⟨u2,u0,u1⟩ c_ h hn5;refine Ab (Am (kQ h (fun _ h=>skW (Ab (Ak (Ab (Aa 12 (rsT 3 ?_)))))) fun _ h=>lxT (have h:=jO h hn5;jE [])));obtain ⟨x11,e11,h⟩:=Al h;refine rs0 (.elt (oi 0 0) u0 0) (zo (t:=Y3) (o:=oi 0 0) (len:=u1.length) (k:=.i64) (m:=(u0:Int)) (B0 _) (Cs e11)) (rsT 1 (U8 (oi 0 0) (oi 0 0) (.arr 36 Y3 (u1.set u0 (u2,x11.2))) (S9 (i:=oi 0 0) (j:=u0) (k:=0) (e:=36) (t:=Y3) (xs:=u1) (cs:=[ai u2,.str x11.2.1,ai x11.2.2]) (x1:=(u2,x11.2)) kr kr e11 kr kr) (rnW (Am (Ab (Aa 22 (rsT 3 (rcM h [] [ai (wI (u2+1))] D8 trivial (aR kr) (Ex kr kr trivial) fun y14 h=>?_))))))));obtain ⟨x15,e15,h⟩:=Al h;refine rs0 (.elt (oi 0 0) u0 0) (zo (t:=Y3) (o:=oi 0 0) (len:=u1.length) (k:=.i64) (m:=(u0:Int)) (B0 _) (Nat.lt_of_lt_of_le (Cs e15) (Nat.le_of_eq (Eq.symm ((rfl:u1.length=u1.length).trans List.length_set.symm))))) (rsT 1 (U8 (oi 0 0) (oi 0 0) (.arr 36 Y3 ((u1.set u0 (u2,x11.2)).set u0 (x15.1,y14,x15.2.2))) (S9 (i:=oi 0 0) (j:=u0) (k:=1) (e:=36) (t:=Y3) (xs:=u1.set u0 (u2,x11.2)) (cs:=[ai x15.1,.str y14,ai x15.2.2]) (x1:=(x15.1,y14,x15.2.2)) kr kr e15 kr kr) (rnW (Am (Ab (Aa 31 (rsT 3 ?_)))))));obtain ⟨x18,e18,h⟩:=Al h;refine rs0 (.elt (oi 0 0) u0 0) (zo (t:=Y3) (o:=oi 0 0) (len:=u1.length) (k:=.i64) (m:=(u0:Int)) (B0 _) (Nat.lt_of_lt_of_le (Cs e18) (Nat.le_of_eq (Eq.symm (((rfl:u1.length=u1.length).trans List.length_set.symm).trans List.length_set.symm))))) (rsT 1 (U8 (oi 0 0) (oi 0 0) (.arr 36 Y3 (((u1.set u0 (u2,x11.2)).set u0 (x15.1,y14,x15.2.2)).set u0 (x18.1,x18.2.1,wI (wI (u2+1)+1)))) (S9 (i:=oi 0 0) (j:=u0) (k:=2) (e:=36) (t:=Y3) (xs:=(u1.set u0 (u2,x11.2)).set u0 (x15.1,y14,x15.2.2)) (cs:=[ai x18.1,.str x18.2.1,ai (wI (wI (u2+1)+1))]) (x1:=(x18.1,x18.2.1,wI (wI (u2+1)+1))) kr kr e18 kr kr) (rnW (Aa 34 (rsT 3 (As (bn_ (tn_ (wr_ (Aa 37 (rsT 1 (raH h fun h=>rsT 1 (As (tn_ ?_))))))))))))));obtain rfl:=zj h;exact jLw hn5 ((wL 0 (((((rfl:u1.length=u1.length).trans List.length_set.symm).trans List.length_set.symm).trans List.length_set.symm):u1.length=(((u1.set u0 (u2,x11.2)).set u0 (x15.1,y14,x15.2.2)).set u0 (x18.1,x18.2.1,wI (wI (u2+1)+1))).length)).trans (At []))
 rintro ⟨u3,l3_p0⟩ h;refine Am (Ag ?_);obtain rfl:=zj h;exact R3 [ai u3] (At (tl:=[(4,ai u3)]) (g:=2) [])
def Bg (a0:List (Int×ByteArray×Int)) (u0:Int) (u1:Nat):Option (Ctl (Int×Nat) (Ctl Int Int)) :=
 cond (decide ((u1:Int)<(a0.length:Int)))
 ((a0[u1]?).bind fun x11 =>
 cond (x11.1 !=u0)
  (some (Ctl.out (Ctl.out (-1))))
  ((A6 (wI (u0+1))).bind fun y17 =>
  cond (!(x11.2.1.toList==y17.toList))
   (some (Ctl.out (Ctl.out (-1))))
   (cond (x11.2.2 !=(wI (wI (u0+1)+1)))
    (some (Ctl.out (Ctl.out (-1))))
    (og (u1+1<4611686018427387904) <|
    some (Ctl.next (wI (wI (wI (u0+1)+1)+1),u1+1))))))
 (some (Ctl.out (Ctl.next u0)))
def Be (a0:List (Int×ByteArray×Int)) (a1:Int):Option Int :=
 Lj (Aq (fun s_:Int×Nat=>Bg a0 s_.1 s_.2) 4611686018427387904 (a1,0)) fun u0 =>
some u0
def Ds (r:Int):RV:=⟨false,[(false,[.sc (.int .i64 r)])]⟩
theorem Du (h:Be dA aA=some aB):cK 8 [.tree Y3 dA,ai aA] (Ds aB):=by
 refine cO Tryd.func8 (Am (sqC h (fun u2=>sT [(1,ai u2)] []) ?_ fun u2 h=>Am (Ag (jS h))));intro _ h hk2;refine Am (Ak (lpF h (fun (u0,u1)=>sT [(0,.tree Y3 dA),(1,ai u0),(5,an u1)] []) (At []) ?_));rintro n_ ⟨u0,u1⟩ c_ h hn4;exact Ab (Am (kQ h (fun _ h=>skW (Ab (Ak (Ab (Ab (Aa 13 (rsT 2 (riH Y3 h fun x11 e11 h=>rsT 4 (rnW (kQ h (fun _ h=>Am (Ag (tr_ (br_ (tr_ (tr_ (br_ (tr_ (have h:=jO h hn4;(have h:=jO h hk2;jS h)))))))))) fun _ h=>skW (Am (Ab (Ab (Gy 24 (ds0 (.tree Y3 dA) kr (ds0 (an u1) kr (diE Y3 e11 (dsT 3 (dcM h [] [ai (wI (u0+1))] D8 trivial (aR kr) (Ex kr kr trivial) (U1 kr) fun y17 h=>ds0 (.bool (!(x11.2.1.toList==y17.toList))) kr (V5 ⟨Um kr,trivial⟩ (tn_ (wr_ (kQ h (fun _ h=>Am (Ag (tr_ (br_ (tr_ (tr_ (br_ (tr_ (have h:=jO h hn4;(have h:=jO h hk2;jS h)))))))))) fun _ h=>skW (Am (Ab (Ab (Aa 34 (rsT 2 (riE Y3 e11 (rsT 4 (rnW (kQ h (fun _ h=>Am (Ag (tr_ (br_ (tr_ (tr_ (br_ (tr_ (have h:=jO h hn4;(have h:=jO h hk2;jS h)))))))))) fun _ h=>skW (Aa 37 (rsT 3 (As (bn_ (tn_ (wr_ (Aa 40 (rsT 1 (raH h fun h=>rsT 1 (As (tn_ (jL [])))))))))))))))))))))))))))))))))))))))))))) fun _ h=>lxT (have h:=jO h hn4;jC [])))
def D0 (a0 a1 a2:Int):Option Bool :=
 (cond (decide (a1<=a0))
  (some (decide (a0<=a2)))
  (some false)).bind fun u0 =>
some u0
theorem L0 (h:D0 aA aB aC=some cA):cK 22 [ai aA,ai aB,ai aC] (Ay cA):=by
 exact cO Tryd.func22 (Am (sqF h (fun u0=>sT [(6,.bool u0)] []) (fun _ h=>Aa 11 (rsT 4 (kR h 10 (fun _ h=>rsT 5 (As (tn_ (jE [])))) fun _ h=>rsT 5 (As (tn_ (jE [])))))) fun u0 h=>Ag (jS h)))
def Ci (a0:ByteArray) (u1:Int) (u0:Nat):Option (Ctl (Int×Nat) (Ctl Int Int)) :=
 cond (decide ((u0:Int)<(a0.size:Int)))
 (((a0[u0]?).bind fun x20 =>
  cond (decide ((x20.toNat:Int)<48))
   (some true)
   ((a0[u0]?).bind fun x22 =>
   some (decide (57<(x22.toNat:Int))))).bind fun u2 =>
 cond u2
  (some (Ctl.out (Ctl.out (-1))))
  ((a0[u0]?).bind fun x25 =>
  og (u0+1<4611686018427387904) <|
  some (Ctl.next (wI (wI (10*u1)+wI (IntKind.u8.wrap ((x25.toNat:Int) - 48))),u0+1))))
 (some (Ctl.out (Ctl.next u1)))
def C6 (a0:ByteArray):Option Int :=
 ((D0 (a0.size:Int) 1 6).bind fun y4 =>
 cond (!y4)
  (some true)
  ((a0[0]?).bind fun x6 =>
  cond ((x6.toNat:Int)==48)
   (some (decide (1<(a0.size:Int))))
   (some false))).bind fun u0 =>
cond u0
 (some (-1))
 (Lj (Aq (fun s_:Int×Nat=>Ci a0 s_.1 s_.2) 4611686018427387904 (0,0)) fun u1 =>
 some u1)
theorem Iq (h:C6 bA=some aA):cK 16 [.str bA] (Ds aA):=by
 refine cO Tryd.func16 (Am (Ab (sqF h (fun u2=>sT [(0,.str bA),(18,.bool u2)] []) ?_ ?_)))
 ·intro _ h;refine Aa 16 (rsT 2 (rcH h L0 fun y4 h=>rsT 2 ?_));rcases Bc h with ⟨q5,h⟩|⟨q5,h⟩
  ·exact rq 9 q5 (rsT 4 (rs0 (.tup []) (Bz kr) (rs0 (.tup []) (Bz kr) (rs0 (.tup []) (Bz kr) (rsT 2 (As (tn_ (jE []))))))))
  refine rq 9 q5 (rsT 1 ?_);obtain ⟨x6,e6,h⟩:=Al h;exact rs0 (.int .u8 (x6.toNat:Int)) (Ca (s:=bA) (k:=.i64) (m:=0) kr kr (by decide) rfl e6) (rsT 2 (kR h 13 (fun _ h=>rsT 5 (As (tn_ (jE [])))) fun _ h=>rsT 5 (As (tn_ (jE [])))))
 intro u2 h;refine kQ h (fun _ h=>Am (Ag (tr_ (jS h)))) fun _ h=>skW (Am (sqC h (fun u3=>sT [(3,ai u3)] []) ?_ fun u3 h=>Am (Ag (jS h))))
 intro _ h hk11;refine Am (Ak (lpF h (fun (u1,u0)=>sT [(0,.str bA),(3,ai u1),(4,an u0)] []) (At []) ?_));rintro n_ ⟨u1,u0⟩ c_ h hn13;refine Ab (Am (kQ h (fun _ h=>skW (Ab (Ak (Ab (sqF h (fun u4=>sT [(0,.str bA),(3,ai u1),(4,an u0),(34,.bool u4)] []) ?_ ?_))))) fun _ h=>lxT (have h:=jO h hn13;jC [])))
 ·intro _ h;refine Aa 16 (rsT 2 ?_);obtain ⟨x20,e20,h⟩:=Al h;refine rs0 (.int .u8 (x20.toNat:Int)) (Ca (s:=bA) (k:=.i64) (m:=(u0:Int)) kr kr (B0 _) rfl e20) (rsT 2 ?_);rcases Bc h with ⟨q21,h⟩|⟨q21,h⟩
  ·exact rq 29 q21 (rsT 5 (As (tn_ (jE []))))
  refine rq 29 q21 (rsT 2 ?_);obtain ⟨x22,e22,h⟩:=Al h;exact rs0 (.int .u8 (x22.toNat:Int)) (Ca (s:=bA) (k:=.i64) (m:=(u0:Int)) kr kr (B0 _) rfl e22) (rsT 2 (As (tn_ (jE []))))
 intro u4 h;refine kQ h (fun _ h=>Am (Ag (tr_ (br_ (tr_ (tr_ (br_ (tr_ (have h:=jO h hn13;(have h:=jO h hk11;jS h)))))))))) fun _ h=>skW (Aa 11 (rsT 4 ?_))
 obtain ⟨x25,e25,h⟩:=Al h;exact rs0 (.int .u8 (x25.toNat:Int)) (Ca (s:=bA) (k:=.i64) (m:=(u0:Int)) kr kr (B0 _) rfl e25) (rsT 4 (As (bn_ (tn_ (wr_ (Aa 14 (rsT 1 (raH h fun h=>rsT 1 (As (tn_ (jL [])))))))))))
def B5 (a0:Int):Option Bool :=
 (cond (decide (97<=a0))
  (some (decide (a0<=122)))
  (some false)).bind fun u0 =>
some u0
theorem Ee (h:B5 aA=some cA):cK 14 [.int .u8 aA] (Ay cA):=by
 exact cO Tryd.func14 (Am (sqF h (fun u0=>sT [(2,.bool u0)] []) (fun _ h=>Aa 9 (rsT 3 (kR h 5 (fun _ h=>rsT 4 (As (tn_ (jE [])))) fun _ h=>rsT 4 (As (tn_ (jE [])))))) fun u0 h=>Ag (jS h)))
def Bm (a0:Int):Option Bool :=
 (cond (decide (48<=a0))
  (some (decide (a0<=57)))
  (some false)).bind fun u0 =>
some u0
theorem Dh (h:Bm aA=some cA):cK 15 [.int .u8 aA] (Ay cA):=by
 exact cO Tryd.func15 (Am (sqF h (fun u0=>sT [(2,.bool u0)] []) (fun _ h=>Aa 9 (rsT 3 (kR h 5 (fun _ h=>rsT 4 (As (tn_ (jE [])))) fun _ h=>rsT 4 (As (tn_ (jE [])))))) fun u0 h=>Ag (jS h)))
def Bx (a0:ByteArray) (u0:Nat):Option (Ctl Nat Nat) :=
 (cond (decide ((u0:Int)<(a0.size:Int)))
  ((a0[u0]?).bind fun x39 =>
  (B5 (x39.toNat:Int)).bind fun y40 =>
  cond y40
   (some true)
   ((a0[u0]?).bind fun x42 =>
   (Bm (x42.toNat:Int)).bind fun y43 =>
   some y43))
  (some false)).bind fun u1 =>
cond u1
 (og (u0+1<4611686018427387904) <|
 some (Ctl.next (u0+1)))
 (some (Ctl.out u0))
def Bq (a0:ByteArray) (u0:Nat):Option (Ctl Nat Nat) :=
 (cond (decide ((u0:Int)<(a0.size:Int)))
  ((a0[u0]?).bind fun x56 =>
  (Bm (x56.toNat:Int)).bind fun y57 =>
  some y57)
  (some false)).bind fun u1 =>
cond u1
 (og (u0+1<4611686018427387904) <|
 some (Ctl.next (u0+1)))
 (some (Ctl.out u0))
def Bt (a0:ByteArray) (u0:Nat) (u1:List (Int×ByteArray×Int)):Option (Ctl (Nat×(List (Int×ByteArray×Int))) (Ctl (List (Int×ByteArray×Int)) ((List (Int×ByteArray×Int))×Int×Int))) :=
 cond (decide ((u0:Int)<(a0.size:Int)))
 ((a0[u0]?).bind fun x14 =>
 og (u0+1<4611686018427387904) <|
 Lj ((cond ((x14.toNat:Int)==32)
       (some true)
       (some ((x14.toNat:Int)==10))).bind fun u4 =>
  cond u4
   (some (Ctl.out (Ctl.next (u0+1,u1))))
   ((cond ((x14.toNat:Int)==59)
     (some true)
     (cond ((x14.toNat:Int)==42)
      (some true)
      (cond ((x14.toNat:Int)==40)
       (some true)
       (cond ((x14.toNat:Int)==41)
        (some true)
        (cond ((x14.toNat:Int)==61)
         (some true)
         (some ((x14.toNat:Int)==58))))))).bind fun u5 =>
   cond u5
    (og ((0:Int)<=(u0:Int)/\(u0:Int)<=((u0+1:Nat):Int)/\((u0+1:Nat):Int)<=(a0.size:Int)) <|
    og (u1.length+1<=1073741824/\(u1.length+1)*32<=140737488355328) <|
    some (Ctl.next (u0+1,u1++([(3,a0.extract u0 (u0+1),(u0:Int))]))))
    ((B5 (x14.toNat:Int)).bind fun y32 =>
    cond y32
     ((Aq (fun s_:Nat=>Bx a0 s_) 4611686018427387904 (u0+1)).bind fun u3 =>
     og ((0:Int)<=(u0:Int)/\(u0:Int)<=(u3:Int)/\(u3:Int)<=(a0.size:Int)) <|
     og (u1.length+1<=1073741824/\(u1.length+1)*32<=140737488355328) <|
     some (Ctl.next (u3,u1++([(1,a0.extract u0 u3,(u0:Int))]))))
     ((Bm (x14.toNat:Int)).bind fun y49 =>
     cond y49
      ((Aq (fun s_:Nat=>Bq a0 s_) 4611686018427387904 (u0+1)).bind fun u2 =>
      og ((0:Int)<=(u0:Int)/\(u0:Int)<=(u2:Int)/\(u2:Int)<=(a0.size:Int)) <|
      (C6 (a0.extract u0 u2)).bind fun y63 =>
      cond (decide (y63<0))
       (some (Ctl.out (Ctl.out (Ctl.out ([],(u0:Int),3)))))
       (og ((0:Int)<=(u0:Int)/\(u0:Int)<=(u2:Int)/\(u2:Int)<=(a0.size:Int)) <|
       og (u1.length+1<=1073741824/\(u1.length+1)*32<=140737488355328) <|
       some (Ctl.next (u2,u1++([(2,a0.extract u0 u2,(u0:Int))])))))
      (some (Ctl.out (Ctl.out (Ctl.out ([],(u0:Int),2))))))))) fun (u6,u7) =>
 some (Ctl.next (u6,u7)))
 (some (Ctl.out (Ctl.next u1)))
def Di (a0:ByteArray):Option ((List (Int×ByteArray×Int))×Int×Int) :=
 cond (decide (40000<(a0.size:Int)))
 (some ([],0,1))
 (Lj (Aq (fun s_:Nat×(List (Int×ByteArray×Int))=>Bt a0 s_.1 s_.2) 4611686018427387904 (0,[])) fun u0 =>
 some (u0,0,0))
def C2 (r:(List (Int×ByteArray×Int))×Int×Int):RV:=⟨true,[(false,[.new 36 Y3 r.1]),(false,[.sc (.int .i64 r.2.1)]),(false,[.sc (.int .i64 r.2.2)])]⟩
theorem Hi (h:Di bA=some fA):cK 9 [.str bA] (C2 fA):=by
 refine cO Tryd.func9 (Am (Ab (Am (kQ h (fun _ h=>Am (Ag (tr_ (jR h [.nils,ai 0,ai 1] (Bn rfl (Hs rfl) (Bn rfl zl (Bn rfl zl F6))))))) fun _ h=>skW (Am (sqC h (fun u5=>sT [(5,.own (oi 0 1) Y3 0 u5.length)] [(oi 0 1,.arr 36 Y3 u5)]) ?_ fun u5 h=>Am (Ag (jR h [.own (oi 0 1) Y3 0 u5.length,ai 0,ai 0] (Bn rfl (Pf kr rfl) (Bn rfl zl (Bn rfl zl F6)))))))))));intro _ h hk7;refine Am (Ak (lpF h (fun (u0,u1)=>sT [(0,.str bA),(5,.own (oi 0 1) Y3 0 u1.length),(6,an u0)] [(oi 0 1,.arr 36 Y3 u1)]) ((Qg 5 36 Y3 rfl kr).trans (At [(oi 0 1,oi 5 9)])) ?_));rintro n_ ⟨u0,u1⟩ c_ h hn9;refine Ab (Am (kQ h (fun _ h=>skW (Ak (Ab (Aa 10 (rsT 2 ?_))))) fun _ h=>lxT (have h:=jO h hn9;jC [])));obtain ⟨x14,e14,h⟩:=Al h;refine rs0 (.int .u8 (x14.toNat:Int)) (Ca (s:=bA) (k:=.i64) (m:=(u0:Int)) kr kr (B0 _) rfl e14) (rsT 1 (rnW (Ab (Aa 13 (rsT 1 (raH h fun h=>rsT 1 (rnW (sqC h (fun (u9,u7)=>sT [(0,.str bA),(5,.own (oi 0 1) Y3 0 u7.length),(8,an u9)] [(oi 0 1,.arr 36 Y3 u7)]) ?_ ?_))))))))
 ·intro _ h hk17;refine Ak (sqF h (fun ua=>sT [(0,.str bA),(5,.own (oi 0 1) Y3 0 u1.length),(6,an u0),(7,.int .u8 (x14.toNat:Int)),(8,an (u0+1)),(22,.bool ua)] [(oi 0 1,.arr 36 Y3 u1)]) (fun _ h=>Aa 20 (rsT 3 (kR h 25 (fun _ h=>rsT 4 (As (tn_ (jE [])))) fun _ h=>rsT 4 (As (tn_ (jE [])))))) ?_);intro ua h;refine kQ h (fun _ h=>Am (Hm (bf_ (by decide) (te_ (be_ (tn_ (have h:=jO h hk17;jL []))))))) fun _ h=>sqF h (fun ub=>sT [(0,.str bA),(5,.own (oi 0 1) Y3 0 u1.length),(6,an u0),(7,.int .u8 (x14.toNat:Int)),(8,an (u0+1)),(30,.bool ub)] [(oi 0 1,.arr 36 Y3 u1)]) (fun _ h=>Aa 25 (rsT 3 (kR h 33 (fun _ h=>rsT 20 (As (tn_ (jE [])))) fun _ h=>rsT 4 (kR h 37 (fun _ h=>rsT 16 (As (tn_ (jE [])))) fun _ h=>rsT 4 (kR h 41 (fun _ h=>rsT 12 (As (tn_ (jE [])))) fun _ h=>rsT 4 (kR h 45 (fun _ h=>rsT 8 (As (tn_ (jE [])))) fun _ h=>rsT 4 (kR h 49 (fun _ h=>rsT 4 (As (tn_ (jE [])))) fun _ h=>rsT 4 (As (tn_ (jE [])))))))))) ?_
  intro ub h;refine kQ h (fun _ h=>?_) fun _ h=>?_
  ·refine Aa 12 (rsT 4 ?_);obtain ⟨g29,h⟩:=Bf h;obtain ⟨g30,h⟩:=Bf h;exact rs0 (.str (bA.extract u0 (u0+1))) (Iw (s:=bA) (l:=(u0:Int)) (h:=((u0+1:Nat):Int)) kr kr kr g29) (rsB 3 (rs2 (.own (oi 0 10) Y3 0 ((u1++([(3,bA.extract u0 (u0+1),(u0:Int))])).length)) (oi 0 1) (oi 0 10) (.arr 36 Y3 (u1++([(3,bA.extract u0 (u0+1),(u0:Int))]))) (Ho (t:=Y3) (t':=Y3) (xs:=u1) (ys:=[(3,bA.extract u0 (u0+1),(u0:Int))]) (zs:=u1++([(3,bA.extract u0 (u0+1),(u0:Int))])) (j:=oi 0 1) (len:=u1.length) (c:=.own (oi 60 9) Y3 0 1) kr kr rfl kr (Hv (e:=36) kr rfl) rfl g30) (rsT 1 (As (bn_ (tn_ (jC [(oi 0 1,oi 0 10)])))))))
  refine Ab (Aa 5 (rsT 1 (rcH h Ee fun y32 h=>rsT 1 (rnW (kQ h (fun _ h=>?_) fun _ h=>?_)))))
  ·refine sqF h (fun u3=>sT [(0,.str bA),(5,.own (oi 0 1) Y3 0 u1.length),(6,an u0),(8,an u3)] [(oi 0 1,.arr 36 Y3 u1)]) ?_ ?_
   ·intro _ h;refine Ak (lpF h (fun u4=>sT [(0,.str bA),(5,.own (oi 0 1) Y3 0 u1.length),(6,an u0),(8,an u4)] [(oi 0 1,.arr 36 Y3 u1)]) (At []) ?_);intro n_ u4 c_ h hn35;refine Ab (sqF h (fun uc=>sT [(0,.str bA),(5,.own (oi 0 1) Y3 0 u1.length),(6,an u0),(8,an u4),(80,.bool uc)] [(oi 0 1,.arr 36 Y3 u1)]) ?_ fun uc h=>kQ h (fun _ h=>skW (Ak (Aa 5 (rsT 1 (raH h fun h=>rsT 1 (As (bn_ (tn_ (jL []))))))))) fun _ h=>lxT (have h:=jO h hn35;jE []));intro _ h;refine Aa 18 (rsT 5 ?_);rcases Bc h with ⟨q38,h⟩|⟨q38,h⟩
    ·refine rq 69 q38 (rsT 2 ?_);obtain ⟨x39,e39,h⟩:=Al h;refine rs0 (.int .u8 (x39.toNat:Int)) (Ca (s:=bA) (k:=.i64) (m:=(u4:Int)) kr kr (B0 _) rfl e39) (rcH h Ee fun y40 h=>rsT 1 ?_);rcases Bc h with ⟨q41,h⟩|⟨q41,h⟩
     ·exact rq 74 q41 (rsT 6 (As (tn_ (jE []))))
     refine rq 74 q41 (rsT 2 ?_);obtain ⟨x42,e42,h⟩:=Al h;exact rs0 (.int .u8 (x42.toNat:Int)) (Ca (s:=bA) (k:=.i64) (m:=(u4:Int)) kr kr (B0 _) rfl e42) (rcH h Dh fun y43 h=>rsT 2 (As (tn_ (jE []))))
    exact rq 69 q38 (rsT 5 (rs0 (.tup []) (Bz kr) (rs0 (.tup []) (Bz kr) (rs0 (.tup []) (Bz kr) (rs0 (.tup []) (Bz kr) (rsT 2 (As (tn_ (jE [])))))))))
   intro u3 h;refine Aa 12 (rsT 4 ?_);obtain ⟨g46,h⟩:=Bf h;obtain ⟨g47,h⟩:=Bf h;exact rs0 (.str (bA.extract u0 u3)) (Iw (s:=bA) (l:=(u0:Int)) (h:=(u3:Int)) kr kr kr g46) (rsB 3 (rs2 (.own (oi 0 10) Y3 0 ((u1++([(1,bA.extract u0 u3,(u0:Int))])).length)) (oi 0 1) (oi 0 10) (.arr 36 Y3 (u1++([(1,bA.extract u0 u3,(u0:Int))]))) (Ho (t:=Y3) (t':=Y3) (xs:=u1) (ys:=[(1,bA.extract u0 u3,(u0:Int))]) (zs:=u1++([(1,bA.extract u0 u3,(u0:Int))])) (j:=oi 0 1) (len:=u1.length) (c:=.own (oi 90 9) Y3 0 1) kr kr rfl kr (Hv (e:=36) kr rfl) rfl g47) (rsT 1 (As (bn_ (tn_ (jC [(oi 0 1,oi 0 10)])))))))
  refine Ab (Aa 8 (rsT 1 (rcH h Dh fun y49 h=>rsT 1 (rnW (kQ h (fun _ h=>sqF h (fun u2=>sT [(0,.str bA),(5,.own (oi 0 1) Y3 0 u1.length),(6,an u0),(8,an u2)] [(oi 0 1,.arr 36 Y3 u1)]) ?_ ?_) fun _ h=>Am (Ag (br_ (tr_ (br_ (tr_ (br_ (tr_ (have h:=jO h hk17;(have h:=jO h hn9;(have h:=jO h hk7;jR h [.nils,an u0,ai 2] (Bn rfl (Hs rfl) (Bn rfl zl (Bn rfl zl F6))))))))))))))))))
  ·intro _ h;refine Ak (lpF h (fun u6=>sT [(0,.str bA),(5,.own (oi 0 1) Y3 0 u1.length),(6,an u0),(8,an u6)] [(oi 0 1,.arr 36 Y3 u1)]) (At []) ?_);intro n_ u6 c_ h hn52;refine Ab (sqF h (fun ud=>sT [(0,.str bA),(5,.own (oi 0 1) Y3 0 u1.length),(6,an u0),(8,an u6),(104,.bool ud)] [(oi 0 1,.arr 36 Y3 u1)]) ?_ fun ud h=>kQ h (fun _ h=>skW (Ak (Aa 5 (rsT 1 (raH h fun h=>rsT 1 (As (bn_ (tn_ (jL []))))))))) fun _ h=>lxT (have h:=jO h hn52;jE []));intro _ h;refine Aa 12 (rsT 5 ?_);rcases Bc h with ⟨q55,h⟩|⟨q55,h⟩
   ·refine rq 99 q55 (rsT 2 ?_);obtain ⟨x56,e56,h⟩:=Al h;exact rs0 (.int .u8 (x56.toNat:Int)) (Ca (s:=bA) (k:=.i64) (m:=(u6:Int)) kr kr (B0 _) rfl e56) (rcH h Dh fun y57 h=>rsT 1 (As (tn_ (jE []))))
   exact rq 99 q55 (rsT 5 (As (tn_ (jE []))))
  intro u2 h;refine Ab (Ab (Aa 8 (rsT 3 ?_)));obtain ⟨g62,h⟩:=Bf h;obtain ⟨y63,h63,h⟩:=Al h;refine rs0 (.str (bA.extract u0 u2)) (Iw (s:=bA) (l:=(u0:Int)) (h:=(u2:Int)) kr kr kr g62) (zc (ai y63) [] [.str (bA.extract u0 u2)] (Iq h63) (rsT 1 (rnW (kQ h (fun _ h=>Am (Ag (tr_ (br_ (tr_ (br_ (tr_ (br_ (tr_ (have h:=jO h hk17;(have h:=jO h hn9;(have h:=jO h hk7;jR h [.nils,an u0,ai 3] (Bn rfl (Hs rfl) (Bn rfl zl (Bn rfl zl F6))))))))))))))) fun _ h=>skW (Aa 18 (rsT 4 ?_))))));obtain ⟨g66,h⟩:=Bf h;obtain ⟨g67,h⟩:=Bf h;exact rs0 (.str (bA.extract u0 u2)) (Iw (s:=bA) (l:=(u0:Int)) (h:=(u2:Int)) kr kr kr g66) (rsB 3 (rs2 (.own (oi 0 16) Y3 0 ((u1++([(2,bA.extract u0 u2,(u0:Int))])).length)) (oi 0 1) (oi 0 16) (.arr 36 Y3 (u1++([(2,bA.extract u0 u2,(u0:Int))]))) (Ho (t:=Y3) (t':=Y3) (xs:=u1) (ys:=[(2,bA.extract u0 u2,(u0:Int))]) (zs:=u1++([(2,bA.extract u0 u2,(u0:Int))])) (j:=oi 0 1) (len:=u1.length) (c:=.own (oi 121 15) Y3 0 1) kr kr rfl kr (Hv (e:=36) kr rfl) rfl g67) (rsT 1 (As (bn_ (tn_ (jC [(oi 0 1,oi 0 16)])))))))
 rintro ⟨u9,u7⟩ h;exact Aa 4 (rsT 2 (As (bn_ (tn_ (jL [])))))
def Cr (a0:ByteArray):Option ((List (Int×ByteArray×Int))×Int×Int) :=
 (Di a0).bind fun y3 =>
some (y3.1,y3.2.1,y3.2.2)
theorem Hf (h:Cr bA=some fA):cK 4 [.str bA] (C2 fA):=by
 exact cO Tryd.func4 (Am (Ab (Aa 12 (rsT 1 (rcH h Hi fun y3 h=>rsT 6 (rnW (Ag (jR h [.own (oi 96 5) Y3 0 y3.1.length,ai y3.2.1,ai y3.2.2] (Bn rfl (Pf kr rfl) (Bn rfl zl (Bn rfl zl F6)))))))))))
def B9 (a0:Int):Option Bool :=
 (cond (decide (97<=a0))
  (some (decide (a0<=122)))
  (some false)).bind fun u0 =>
some u0
theorem E3 (h:B9 aA=some cA):cK 17 [.int .u8 aA] (Ay cA):=by
 exact cO Tryd.func17 (Am (sqF h (fun u0=>sT [(2,.bool u0)] []) (fun _ h=>Aa 9 (rsT 3 (kR h 5 (fun _ h=>rsT 4 (As (tn_ (jE [])))) fun _ h=>rsT 4 (As (tn_ (jE [])))))) fun u0 h=>Ag (jS h)))
def Bo (a0:Int):Option Bool :=
 (cond (decide (48<=a0))
  (some (decide (a0<=57)))
  (some false)).bind fun u0 =>
some u0
theorem Dk (h:Bo aA=some cA):cK 18 [.int .u8 aA] (Ay cA):=by
 exact cO Tryd.func18 (Am (sqF h (fun u0=>sT [(2,.bool u0)] []) (fun _ h=>Aa 9 (rsT 3 (kR h 5 (fun _ h=>rsT 4 (As (tn_ (jE [])))) fun _ h=>rsT 4 (As (tn_ (jE [])))))) fun u0 h=>Ag (jS h)))
def B1 (a0:ByteArray) (u0:Nat):Option (Ctl Nat Nat) :=
 (cond (decide ((u0:Int)<(a0.size:Int)))
  ((a0[u0]?).bind fun x30 =>
  (B9 (x30.toNat:Int)).bind fun y31 =>
  cond y31
   (some true)
   ((a0[u0]?).bind fun x33 =>
   (Bo (x33.toNat:Int)).bind fun y34 =>
   some y34))
  (some false)).bind fun u1 =>
cond u1
 (og (u0+1<4611686018427387904) <|
 some (Ctl.next (u0+1)))
 (some (Ctl.out u0))
def Bs (a0:ByteArray) (u0:Nat):Option (Ctl Nat Nat) :=
 (cond (decide ((u0:Int)<(a0.size:Int)))
  ((a0[u0]?).bind fun x48 =>
  (Bo (x48.toNat:Int)).bind fun y49 =>
  some y49)
  (some false)).bind fun u1 =>
cond u1
 (og (u0+1<4611686018427387904) <|
 some (Ctl.next (u0+1)))
 (some (Ctl.out u0))
def Br (a0:ByteArray) (u0:Nat) (u1:List (Int×ByteArray×Int)):Option (Ctl (Nat×(List (Int×ByteArray×Int))) (Ctl (List (Int×ByteArray×Int)) ((List (Int×ByteArray×Int))×Bool×Int×Int))) :=
 cond (decide ((u0:Int)<(a0.size:Int)))
 (((a0[u0]?).bind fun x15 =>
  cond ((x15.toNat:Int)==32)
   (some true)
   ((a0[u0]?).bind fun x17 =>
   some ((x17.toNat:Int)==10))).bind fun u4 =>
 cond u4
  (og (u0+1<4611686018427387904) <|
  some (Ctl.next (u0+1,u1)))
  ((a0[u0]?).bind fun x22 =>
  (B9 (x22.toNat:Int)).bind fun y23 =>
  cond y23
   ((Aq (fun s_:Nat=>B1 a0 s_) 4611686018427387904 u0).bind fun u3 =>
   og ((0:Int)<=(u0:Int)/\(u0:Int)<=(u3:Int)/\(u3:Int)<=(a0.size:Int)) <|
   og (u1.length+1<=1073741824/\(u1.length+1)*32<=140737488355328) <|
   some (Ctl.next (u3,u1++([(1,a0.extract u0 u3,(u0:Int))]))))
   ((a0[u0]?).bind fun x40 =>
   (Bo (x40.toNat:Int)).bind fun y41 =>
   cond y41
    ((Aq (fun s_:Nat=>Bs a0 s_) 4611686018427387904 u0).bind fun u2 =>
    (cond (decide (6<wI ((u2:Int) - (u0:Int))))
      (some true)
      (cond (decide (1<wI ((u2:Int) - (u0:Int))))
       ((a0[u0]?).bind fun x56 =>
       some ((x56.toNat:Int)==48))
       (some false))).bind fun u5 =>
    cond u5
     (some (Ctl.out (Ctl.out ([],true,(u0:Int),3))))
     (og ((0:Int)<=(u0:Int)/\(u0:Int)<=(u2:Int)/\(u2:Int)<=(a0.size:Int)) <|
     og (u1.length+1<=1073741824/\(u1.length+1)*32<=140737488355328) <|
     some (Ctl.next (u2,u1++([(2,a0.extract u0 u2,(u0:Int))])))))
    ((a0[u0]?).bind fun x62 =>
    (Cp (⟨#[59,42,40,41,61,58]⟩:ByteArray) (x62.toNat:Int)).bind fun y63 =>
    cond (decide (0<=y63))
     (og (u0+1<4611686018427387904) <|
     og ((0:Int)<=(u0:Int)/\(u0:Int)<=((u0+1:Nat):Int)/\((u0+1:Nat):Int)<=(a0.size:Int)) <|
     og (u1.length+1<=1073741824/\(u1.length+1)*32<=140737488355328) <|
     some (Ctl.next (u0+1,u1++([(3,a0.extract u0 (u0+1),(u0:Int))]))))
     (some (Ctl.out (Ctl.out ([],true,(u0:Int),2))))))))
 (some (Ctl.out (Ctl.next u1)))
def Dj (a0:ByteArray):Option ((List (Int×ByteArray×Int))×Bool×Int×Int) :=
 cond (decide (40000<(a0.size:Int)))
 (some ([],true,0,1))
 (Lj (Aq (fun s_:Nat×(List (Int×ByteArray×Int))=>Br a0 s_.1 s_.2) 4611686018427387904 (0,[])) fun u0 =>
 some (u0,false,0,0))
def Hd (r:(List (Int×ByteArray×Int))×Bool×Int×Int):RV:=⟨true,[(false,[.new 36 Y3 r.1]),(false,[.sc (.err r.2.1 (if r.2.1 then some (41,some [r.2.2.1,r.2.2.2]) else none))])]⟩
theorem Hw (h:Dj bA=some gA):cK 10 [.str bA] (Hd gA):=by
 refine cO Tryd.func10 (Am (Ab (Am (kQ h (fun _ h=>Am (Ag (tr_ (jR h [.nils,.err true (some (41,some [0,1]))] (Bn rfl (Hs rfl) (Bn rfl zl F6)))))) fun _ h=>skW (Am (sqC h (fun u5=>sT [(4,.own (oi 0 1) Y3 0 u5.length)] [(oi 0 1,.arr 36 Y3 u5)]) ?_ fun u5 h=>Am (Ag (jR h [.own (oi 0 1) Y3 0 u5.length,.err false none] (Bn rfl (Pf kr rfl) (Bn rfl zl F6))))))))));intro _ h hk7;refine Am (Ak (lpF h (fun (u0,u1)=>sT [(0,.str bA),(4,.own (oi 0 1) Y3 0 u1.length),(5,an u0)] [(oi 0 1,.arr 36 Y3 u1)]) (At [(oi 0 1,oi 12 6)]) ?_));rintro n_ ⟨u0,u1⟩ c_ h hn9;refine Ab (Am (kQ h (fun _ h=>skW (Ak (Am (Ak (sqF h (fun u7=>sT [(0,.str bA),(4,.own (oi 0 1) Y3 0 u1.length),(5,an u0),(6,an u0),(21,.bool u7)] [(oi 0 1,.arr 36 Y3 u1)]) ?_ ?_))))) fun _ h=>lxT (have h:=jO h hn9;jC [])))
 ·intro _ h;refine Aa 19 (rsT 2 ?_);obtain ⟨x15,e15,h⟩:=Al h;refine rs0 (.int .u8 (x15.toNat:Int)) (Ca (s:=bA) (k:=.i64) (m:=(u0:Int)) kr kr (B0 _) rfl e15) (rsT 2 ?_);rcases Bc h with ⟨q16,h⟩|⟨q16,h⟩
  ·exact rq 26 q16 (rsT 6 (As (tn_ (jE []))))
  refine rq 26 q16 (rsT 2 ?_);obtain ⟨x17,e17,h⟩:=Al h;exact rs0 (.int .u8 (x17.toNat:Int)) (Ca (s:=bA) (k:=.i64) (m:=(u0:Int)) kr kr (B0 _) rfl e17) (rsT 3 (As (tn_ (jE []))))
 intro u7 h;refine kQ h (fun _ h=>Ab (Aa 5 (rsT 1 (raH h fun h=>rsT 1 (rnW (Hm (bf_ (by decide) (be_ (tn_ (jL [])))))))))) fun _ h=>Ab (Aa 7 (rsT 2 ?_))
 obtain ⟨x22,e22,h⟩:=Al h;refine rs0 (.int .u8 (x22.toNat:Int)) (Ca (s:=bA) (k:=.i64) (m:=(u0:Int)) kr kr (B0 _) rfl e22) (rcH h E3 fun y23 h=>rsT 1 (rnW (kQ h (fun _ h=>?_) fun _ h=>?_)))
 ·refine sqF h (fun u3=>sT [(0,.str bA),(4,.own (oi 0 1) Y3 0 u1.length),(5,an u3),(6,an u0)] [(oi 0 1,.arr 36 Y3 u1)]) ?_ ?_
  ·intro _ h;refine Ak (lpF h (fun u4=>sT [(0,.str bA),(4,.own (oi 0 1) Y3 0 u1.length),(5,an u4),(6,an u0)] [(oi 0 1,.arr 36 Y3 u1)]) (At []) ?_);intro n_ u4 c_ h hn26;refine Ab (sqF h (fun u9=>sT [(0,.str bA),(4,.own (oi 0 1) Y3 0 u1.length),(5,an u4),(6,an u0),(54,.bool u9)] [(oi 0 1,.arr 36 Y3 u1)]) ?_ fun u9 h=>kQ h (fun _ h=>skW (Ak (Aa 5 (rsT 1 (raH h fun h=>rsT 1 (As (bn_ (tn_ (jL []))))))))) fun _ h=>lxT (have h:=jO h hn26;jE []));intro _ h;refine Aa 18 (rsT 5 ?_);rcases Bc h with ⟨q29,h⟩|⟨q29,h⟩
   ·refine rq 43 q29 (rsT 2 ?_);obtain ⟨x30,e30,h⟩:=Al h;refine rs0 (.int .u8 (x30.toNat:Int)) (Ca (s:=bA) (k:=.i64) (m:=(u4:Int)) kr kr (B0 _) rfl e30) (rcH h E3 fun y31 h=>rsT 1 ?_);rcases Bc h with ⟨q32,h⟩|⟨q32,h⟩
    ·exact rq 48 q32 (rsT 6 (As (tn_ (jE []))))
    refine rq 48 q32 (rsT 2 ?_);obtain ⟨x33,e33,h⟩:=Al h;exact rs0 (.int .u8 (x33.toNat:Int)) (Ca (s:=bA) (k:=.i64) (m:=(u4:Int)) kr kr (B0 _) rfl e33) (rcH h Dk fun y34 h=>rsT 2 (As (tn_ (jE []))))
   exact rq 43 q29 (rsT 5 (rs0 (.tup []) (Bz kr) (rs0 (.tup []) (Bz kr) (rs0 (.tup []) (Bz kr) (rs0 (.tup []) (Bz kr) (rsT 2 (As (tn_ (jE [])))))))))
  intro u3 h;refine Aa 12 (rsT 4 ?_);obtain ⟨g37,h⟩:=Bf h;obtain ⟨g38,h⟩:=Bf h;exact rs0 (.str (bA.extract u0 u3)) (Iw (s:=bA) (l:=(u0:Int)) (h:=(u3:Int)) kr kr kr g37) (rsB 3 (rs2 (.own (oi 0 10) Y3 0 ((u1++([(1,bA.extract u0 u3,(u0:Int))])).length)) (oi 0 1) (oi 0 10) (.arr 36 Y3 (u1++([(1,bA.extract u0 u3,(u0:Int))]))) (Ho (t:=Y3) (t':=Y3) (xs:=u1) (ys:=[(1,bA.extract u0 u3,(u0:Int))]) (zs:=u1++([(1,bA.extract u0 u3,(u0:Int))])) (j:=oi 0 1) (len:=u1.length) (c:=.own (oi 64 9) Y3 0 1) kr kr rfl kr (Hv (e:=36) kr rfl) rfl g38) (rsT 1 (As (bn_ (bn_ (tn_ (jL [(oi 0 1,oi 0 10)]))))))))
 refine Ab (Aa 12 (rsT 2 ?_));obtain ⟨x40,e40,h⟩:=Al h;refine rs0 (.int .u8 (x40.toNat:Int)) (Ca (s:=bA) (k:=.i64) (m:=(u0:Int)) kr kr (B0 _) rfl e40) (rcH h Dk fun y41 h=>rsT 1 (rnW (kQ h (fun _ h=>?_) fun _ h=>?_)))
 ·refine sqF h (fun u2=>sT [(0,.str bA),(4,.own (oi 0 1) Y3 0 u1.length),(5,an u2),(6,an u0)] [(oi 0 1,.arr 36 Y3 u1)]) ?_ ?_
  ·intro _ h;refine Ak (lpF h (fun u6=>sT [(0,.str bA),(4,.own (oi 0 1) Y3 0 u1.length),(5,an u6),(6,an u0)] [(oi 0 1,.arr 36 Y3 u1)]) (At []) ?_);intro n_ u6 c_ h hn44;refine Ab (sqF h (fun ua=>sT [(0,.str bA),(4,.own (oi 0 1) Y3 0 u1.length),(5,an u6),(6,an u0),(80,.bool ua)] [(oi 0 1,.arr 36 Y3 u1)]) ?_ fun ua h=>kQ h (fun _ h=>skW (Ak (Aa 5 (rsT 1 (raH h fun h=>rsT 1 (As (bn_ (tn_ (jL []))))))))) fun _ h=>lxT (have h:=jO h hn44;jE []));intro _ h;refine Aa 12 (rsT 5 ?_);rcases Bc h with ⟨q47,h⟩|⟨q47,h⟩
   ·refine rq 75 q47 (rsT 2 ?_);obtain ⟨x48,e48,h⟩:=Al h;exact rs0 (.int .u8 (x48.toNat:Int)) (Ca (s:=bA) (k:=.i64) (m:=(u6:Int)) kr kr (B0 _) rfl e48) (rcH h Dk fun y49 h=>rsT 1 (As (tn_ (jE []))))
   exact rq 75 q47 (rsT 5 (As (tn_ (jE []))))
  intro u2 h;refine Ab (sqF h (fun ub=>sT [(0,.str bA),(4,.own (oi 0 1) Y3 0 u1.length),(5,an u2),(6,an u0),(98,.bool ub)] [(oi 0 1,.arr 36 Y3 u1)]) ?_ ?_)
  ·intro _ h;refine Aa 18 (rsT 5 (kR h 87 (fun _ h=>rsT 5 (rs0 (.tup []) (Bz kr) (rs0 (.tup []) (Bz kr) (rs0 (.tup []) (Bz kr) (rs0 (.tup []) (Bz kr) (rsT 2 (As (tn_ (jE []))))))))) fun _ h=>rsT 5 ?_));rcases Bc h with ⟨q55,h⟩|⟨q55,h⟩
   ·refine rq 92 q55 (rsT 2 ?_);obtain ⟨x56,e56,h⟩:=Al h;exact rs0 (.int .u8 (x56.toNat:Int)) (Ca (s:=bA) (k:=.i64) (m:=(u0:Int)) kr kr (B0 _) rfl e56) (rsT 3 (As (tn_ (jE []))))
   exact rq 92 q55 (rsT 6 (As (tn_ (jE []))))
  intro ub h;refine kQ h (fun _ h=>Am (Ag (tr_ (br_ (br_ (tr_ (br_ (tr_ (have h:=jO h hn9;(have h:=jO h hk7;jR h [.nils,.err true (some (41,some [(u0:Int),3]))] (Bn rfl (Hs rfl) (Bn rfl zl F6)))))))))))) fun _ h=>skW (Aa 12 (rsT 4 ?_))
  obtain ⟨g59,h⟩:=Bf h;obtain ⟨g60,h⟩:=Bf h;exact rs0 (.str (bA.extract u0 u2)) (Iw (s:=bA) (l:=(u0:Int)) (h:=(u2:Int)) kr kr kr g59) (rsB 3 (rs2 (.own (oi 0 10) Y3 0 ((u1++([(2,bA.extract u0 u2,(u0:Int))])).length)) (oi 0 1) (oi 0 10) (.arr 36 Y3 (u1++([(2,bA.extract u0 u2,(u0:Int))]))) (Ho (t:=Y3) (t':=Y3) (xs:=u1) (ys:=[(2,bA.extract u0 u2,(u0:Int))]) (zs:=u1++([(2,bA.extract u0 u2,(u0:Int))])) (j:=oi 0 1) (len:=u1.length) (c:=.own (oi 109 9) Y3 0 1) kr kr rfl kr (Hv (e:=36) kr rfl) rfl g60) (rsT 1 (As (bn_ (bn_ (tn_ (jL [(oi 0 1,oi 0 10)]))))))))
 refine Ab (Aa 18 (rsT 2 ?_));obtain ⟨x62,e62,h⟩:=Al h;refine rs0 (.int .u8 (x62.toNat:Int)) (Ca (s:=bA) (k:=.i64) (m:=(u0:Int)) kr kr (B0 _) rfl e62) (rcH h Fg fun y63 h=>rsT 2 (rnW (kQ h (fun _ h=>Ab (Aa 21 (rsT 1 (raH h fun h=>rsT 1 (rnW (Aa 31 (rsT 4 ?_))))))) fun _ h=>Am (Ag (br_ (br_ (tr_ (br_ (tr_ (have h:=jO h hn9;(have h:=jO h hk7;jR h [.nils,.err true (some (41,some [(u0:Int),2]))] (Bn rfl (Hs rfl) (Bn rfl zl F6)))))))))))));obtain ⟨g67,h⟩:=Bf h;obtain ⟨g68,h⟩:=Bf h;exact rs0 (.str (bA.extract u0 (u0+1))) (Iw (s:=bA) (l:=(u0:Int)) (h:=((u0+1:Nat):Int)) kr kr kr g67) (rsB 3 (rs2 (.own (oi 0 29) Y3 0 ((u1++([(3,bA.extract u0 (u0+1),(u0:Int))])).length)) (oi 0 1) (oi 0 29) (.arr 36 Y3 (u1++([(3,bA.extract u0 (u0+1),(u0:Int))]))) (Ho (t:=Y3) (t':=Y3) (xs:=u1) (ys:=[(3,bA.extract u0 (u0+1),(u0:Int))]) (zs:=u1++([(3,bA.extract u0 (u0+1),(u0:Int))])) (j:=oi 0 1) (len:=u1.length) (c:=.own (oi 126 28) Y3 0 1) kr kr rfl kr (Hv (e:=36) kr rfl) rfl g68) (rsT 1 (As (bn_ (bn_ (tn_ (jL [(oi 0 1,oi 0 29)]))))))))
def B2 (a0:ByteArray):Option ((List (Int×ByteArray×Int))×Int×Int) :=
 (Dj a0).bind fun y3 =>
(Fd y3.2.1 y3.2.2.1 y3.2.2.2).bind fun y5 =>
some (y3.1,y5.1,y5.2)
theorem Ec (h:B2 bA=some fA):cK 5 [.str bA] (C2 fA):=by
 exact cO Tryd.func5 (Am (Ab (Aa 11 (rsT 1 (rcH h Hw fun y3 h=>rsT 5 (rnW (Ab (Aa 18 (rsT 1 (rcH h Ia fun y5 h=>rsT 5 (rnW (Am (Ag (jR h [.own (oi 176 5) Y3 0 y3.1.length,ai y5.1,ai y5.2] (Bn rfl (Pf kr rfl) (Bn rfl zl (Bn rfl zl F6)))))))))))))))))
end


section
open Go.RowKit Go.Deep
set_option maxRecDepth 4000
set_option maxHeartbeats 4800000
variable {bA:ByteArray} {cA:Bool}
def A7 (a0:ByteArray):Option Bool :=
 cond (decide (1048576<(a0.size:Int)))
 (some true)
 ((Cr a0).bind fun y7 =>
 (B2 a0).bind fun y9 =>
 ((B6 y9.1 y7.1).bind fun y12 =>
  cond (!y12)
   (some true)
   (cond (y9.2.1 !=y7.2.1)
    (some true)
    (some (y9.2.2 !=y7.2.2)))).bind fun u0 =>
 cond u0
  (some false)
  ((B8 y9.1 1).bind fun y19 =>
  og (y19.1.length=y9.1.length) <|
  (Be y19.1 1).bind fun y23 =>
  cond (decide (y23<0))
   (some false)
   (cond (y23 !=y19.2)
    (some false)
    ((B2 a0).bind fun y33 =>
    ((B6 y33.1 y7.1).bind fun y36 =>
     cond (!y36)
      (some true)
      (cond (y33.2.1 !=y7.2.1)
       (some true)
       (some (y33.2.2 !=y7.2.2)))).bind fun u1 =>
    cond u1
     (some false)
     ((Be y19.1 1).bind fun y43 =>
     cond (decide (y43<0))
      (some false)
      (cond (y43 !=y19.2)
       (some false)
       (some true)))))))
theorem Ea (h:A7 bA=some cA):cK 3 [.str bA] (Ay cA):=by
 refine cO Tryd.func3 (Am (Ab (Am (kQ h (fun _ h=>Am (Ag (tr_ (jS h)))) fun _ h=>skW (Ab (Aa 14 (rsT 1 ?_)))))));obtain ⟨y7,h7,h⟩:=Al h;refine zc (.tup [.own (oi 304 6) Y3 0 y7.1.length,ai y7.2.1,ai y7.2.2]) [(oi 304 6,some (.arr 36 Y3 y7.1))] [.str bA] (Hf h7) (rsT 7 (rnW (Ab (Aa 23 (rsT 1 ?_)))));obtain ⟨y9,h9,h⟩:=Al h;refine zc (.tup [.own (oi 400 15) Y3 0 y9.1.length,ai y9.2.1,ai y9.2.2]) [(oi 400 15,some (.arr 36 Y3 y9.1))] [.str bA] (Ec h9) (rsT 7 (rnW (Ab (sqF h (fun u0=>sT [(0,.str bA),(3,.own (oi 0 1) Y3 0 y7.1.length),(4,ai y7.2.1),(5,ai y7.2.2),(6,.own (oi 1 1) Y3 0 y9.1.length),(42,.bool u0)] [(oi 0 1,.arr 36 Y3 y7.1),(oi 1 1,.arr 36 Y3 y9.1)]) ?_ ?_))))
 ·intro _ h;refine Aa 37 (rsT 2 ?_);obtain ⟨y12,h12,h⟩:=Al h;exact Ko (.bool y12) [] [.own (oi 400 15) Y3 0 y9.1.length,.own (oi 304 6) Y3 0 y7.1.length] _ (caps:=[]) (args0:=[.tree Y3 y9.1,.tree Y3 y7.1]) trivial (Dz (Ha (e:=36) kr rfl) (Dz (Ha (e:=36) kr rfl) Lb)) (Ej h12) kr (rsT 2 (kR h 33 (fun _ h=>rsT 9 (As (tn_ (jE [(oi 0 1,oi 304 6),(oi 1 1,oi 400 15)])))) fun _ h=>rsT 5 (kR h 38 (fun _ h=>rsT 4 (As (tn_ (jE [(oi 0 1,oi 304 6),(oi 1 1,oi 400 15)])))) fun _ h=>rsT 4 (As (tn_ (jE [(oi 0 1,oi 304 6),(oi 1 1,oi 400 15)]))))))
 intro u0 h;refine kQ h (fun _ h=>Am (Ag (tr_ (jS h)))) fun _ h=>skW (Am (Ab (Aa 7 (rsT 2 ?_))))
 obtain ⟨y19,h19,h⟩:=Al h;refine S4 (ai y19.2) [(oi 1 1,some (.arr 36 Y3 y19.1)),(oi 1 1,none)] [(oi 0 0,oi 1 1)] [.own (oi 1 1) Y3 0 y9.1.length,ai 1] (caps:=[]) trivial (Gd h19 rfl) kr ⟨kr,trivial⟩ (.cons (.ren kr) (.cons (.ren kr) .nil)) (Ex kr kr ⟨U7 kr,trivial⟩) (rsT 1 (rnW (Am (Ab (Aa 12 (rsT 2 ?_))))));obtain ⟨g20,h⟩:=Bf h;obtain ⟨y23,h23,h⟩:=Al h;refine Ko (ai y23) [] [.own (oi 1 1) Y3 0 y9.1.length,ai 1] _ (caps:=[]) (args0:=[.tree Y3 y19.1,ai 1]) trivial (Dz (Ha (e:=36) kr g20.symm) (Dz kr Lb)) (Du h23) kr (rsT 1 (rnW (Ab (Am (kQ h (fun _ h=>Am (Ag (tr_ (jS h)))) fun _ h=>skW (Ab (Am (kQ h (fun _ h=>Am (Ag (tr_ (jS h)))) fun _ h=>skW (Ab (Aa 26 (rsT 1 ?_)))))))))));obtain ⟨y33,h33,h⟩:=Al h;refine zc (.tup [.own (oi 896 18) Y3 0 y33.1.length,ai y33.2.1,ai y33.2.2]) [(oi 896 18,some (.arr 36 Y3 y33.1))] [.str bA] (Ec h33) (rsT 7 (rnW (Ab (sqF h (fun u1=>sT [(6,.own (oi 0 1) Y3 0 y19.1.length),(9,ai y19.2),(73,.bool u1)] [(oi 0 1,.arr 36 Y3 y19.1)]) ?_ ?_))))
 ·intro _ h;refine Aa 40 (rsT 2 ?_);obtain ⟨y36,h36,h⟩:=Al h;exact Ko (.bool y36) [] [.own (oi 896 18) Y3 0 y33.1.length,.own (oi 0 1) Y3 0 y7.1.length] _ (caps:=[]) (args0:=[.tree Y3 y33.1,.tree Y3 y7.1]) trivial (Dz (Ha (e:=36) kr rfl) (Dz (Ha (e:=36) kr rfl) Lb)) (Ej h36) kr (rsT 2 (kR h 64 (fun _ h=>rsT 9 (As (tn_ (by obtain rfl:=osj h;exact (wL 6 (g20.symm:y9.1.length=y19.1.length)).trans (At [(oi 0 1,oi 1 1)]))))) fun _ h=>rsT 5 (kR h 69 (fun _ h=>rsT 4 (As (tn_ (by obtain rfl:=osj h;exact (wL 6 (g20.symm:y9.1.length=y19.1.length)).trans (At [(oi 0 1,oi 1 1)]))))) fun _ h=>rsT 4 (As (tn_ (by obtain rfl:=osj h;exact (wL 6 (g20.symm:y9.1.length=y19.1.length)).trans (At [(oi 0 1,oi 1 1)])))))))
 intro u1 h;refine kQ h (fun _ h=>Am (Ag (tr_ (jS h)))) fun _ h=>skW (Am (Ab (Aa 7 (rsT 2 ?_))))
 obtain ⟨y43,h43,h⟩:=Al h;exact Ko (ai y43) [] [.own (oi 0 1) Y3 0 y19.1.length,ai 1] _ (caps:=[]) (args0:=[.tree Y3 y19.1,ai 1]) trivial (Dz (Ha (e:=36) kr rfl) (Dz kr Lb)) (Du h43) kr (rsT 1 (rnW (Ab (Am (kQ h (fun _ h=>Am (Ag (tr_ (jS h)))) fun _ h=>skW (Ab (Am (kQ h (fun _ h=>Am (Ag (tr_ (jS h)))) fun _ h=>skW (Am (Ag (jS h)))))))))))
end


section
section
variable {α β σ ρ:Type}
theorem Ky {body:σ->Option (Ctl σ ρ)} {Post:ρ->Prop} (n:Nat) (I:Nat->σ->Prop)
  (hs:∀ i s,i<n->I i s->(∃ s',body s=some (.next s')/\I (i+1) s')∨∃ r,body s=some (.out r)/\Post r) (he:∀ s,I n s->∃ r,body s=some (.out r)/\Post r) :
  ∀ (F k:Nat) (s:σ),k<=n->n - k<F->I k s->∃ r,Aq body F s=some r/\Post r
 | 0,_,_,_,h,_=>by omega
 | F+1,k,s,hk,h,hi=>by
  have key:(∃ r,body s=some (.out r)/\Post r)->∃ r,Aq body (F+1) s=some r/\Post r:=by
   rintro ⟨r,h1,h2⟩;exact ⟨r,by simp only [Aq,h1,obs,Ctl.then],h2⟩
  rcases Nat.lt_or_ge k n with hlt|hge
  ·rcases hs k s hlt hi with ⟨s',h1,h2⟩|h
   ·obtain ⟨r,h3,h4⟩:=Ky n I hs he F (k+1) s' hlt oM h2;exact ⟨r,by simp only [Aq,h1,obs,Ctl.then];exact h3,h4⟩
   ·exact key h
  ·obtain rfl:k=n:=by omega
   exact key (he s hi)
theorem E0 {body:σ->Option (Ctl σ ρ)} {Post:ρ->Prop} (n:Nat) (I:Nat->σ->Prop) {F:Nat} (hn:n<F) {s0:σ} (h0:I 0 s0)
  (hs:∀ i s,i<n->I i s->(∃ s',body s=some (.next s')/\I (i+1) s')∨∃ r,body s=some (.out r)/\Post r) (he:∀ s,I n s->∃ r,body s=some (.out r)/\Post r):∃ r,Aq body F s0=some r/\Post r :=
 Ky n I hs he F 0 s0 (Nat.zero_le _) oM h0
theorem R4 {body:σ->Option (Ctl σ ρ)} (n:Nat) (I:Nat->σ->Prop) {F:Nat} (hn:n<F) {s0:σ} (r:ρ) (h0:I 0 s0)
  (hs:∀ i s,i<n->I i s->(∃ s',body s=some (.next s')/\I (i+1) s')∨body s=some (.out r)) (he:∀ s,I n s->body s=some (.out r)):Aq body F s0=some r:=by
 obtain ⟨r',h1,rfl⟩:=E0 (Post:=fun r'=>r'=r) n I hn h0 (fun i s hi hI=>(hs i s hi hI).imp id fun h=>⟨r,h,rfl⟩) (fun s h=>⟨r,he s h,rfl⟩);exact h1
theorem Fq {body:σ->Option (Ctl σ ρ)} (n:Nat) (S:Nat->σ) {F:Nat} (hn:n<F) {s0:σ} (r:ρ) (h0:s0=S 0) (hs:∀ i,i<n->body (S i)=some (.next (S (i+1)))) (he:body (S n)=some (.out r)):Aq body F s0=some r:=by
 subst h0;refine R4 n (fun i s=>s=S i) hn r rfl (fun i s hi e=>.inl ?_) (fun s e=>by subst e;exact he);subst e;exact ⟨_,hs i hi,rfl⟩
theorem Qr {xs ys:List α} {i:Nat} (h:i<xs.length) (hl:ys.length=i):(ys++xs.drop i)[i]? =some xs[i]:=by
 rw [List.getElem?_append_right oM,hl];simp [List.getElem?_drop,h]
theorem Qm {xs ys:List α} {y:α} {i:Nat} (h:i<xs.length) (hl:ys.length=i):(ys++xs.drop i).set i y=(ys++[y])++xs.drop (i+1):=by
 rw [List.set_append,if_neg oM,hl,Nat.sub_self,List.drop_eq_getElem_cons h,List.append_assoc];rfl
end
theorem Iu {n:Int} (h1: -9223372036854775808<=n) (h2:n<9223372036854775808):wI n=n:=Go.IntWalk.i64_in _ oM
theorem Cf {p:Prop} [Decidable p] (h:p):decide p=true:=decide_eq_true h
theorem Bl {p:Prop} [Decidable p] (h:¬ p):decide p=false:=decide_eq_false h
end
section
abbrev TkT:=Int×ByteArray×Int
def ba (l:List UInt8):ByteArray:=⟨l.toArray⟩
theorem Tf (s:ByteArray):ba s.data.toList=s:=by
 apply ByteArray.ext;simp [ba]
theorem Ba (a:List UInt8):(ba a).size=a.length:=by simp [ba,ByteArray.size]
theorem Fo (l:List UInt8) (i:Nat):(ba l)[i]? =l[i]?:=by
 by_cases h:i<l.length
 ·rw [ByteArray.getElem?_lt' _ _ (by rw [Ba];exact h),gEg h];rfl
 ·rw [ByteArray.getElem?_ge' _ _ (by rw [Ba];exact h),List.getElem?_eq_none oM]
theorem Ut (l:List UInt8) (a b:Nat):(ba l).extract a b=ba ((l.drop a).take (b - a)):=ByteArray.extract_mk l a b
def loB (c:UInt8):Bool:=decide (97<=((c.toNat:Nat):Int))&&decide (((c.toNat:Nat):Int)<=122)
def dgB (c:UInt8):Bool:=decide (48<=((c.toNat:Nat):Int))&&decide (((c.toNat:Nat):Int)<=57)
def blB (c:UInt8):Bool:=((c.toNat:Nat):Int)==32||((c.toNat:Nat):Int)==10
def syB (c:UInt8):Bool:=((c.toNat:Nat):Int)==59||(((c.toNat:Nat):Int)==42||(((c.toNat:Nat):Int)==40||(((c.toNat:Nat):Int)==41||(((c.toNat:Nat):Int)==61||((c.toNat:Nat):Int)==58))))
def anB (c:UInt8):Bool:=loB c||dgB c
theorem Sh (c:UInt8):B5 ((c.toNat:Nat):Int)=some (loB c):=by
 unfold B5 loB;cases decide (97<=((c.toNat:Nat):Int)) <;> rfl
theorem Ol (c:UInt8):Bm ((c.toNat:Nat):Int)=some (dgB c):=by
 unfold Bm dgB;cases decide (48<=((c.toNat:Nat):Int)) <;> rfl
theorem Rw (c:UInt8):B9 ((c.toNat:Nat):Int)=some (loB c):=by
 unfold B9 loB;cases decide (97<=((c.toNat:Nat):Int)) <;> rfl
theorem Nq (c:UInt8):Bo ((c.toNat:Nat):Int)=some (dgB c):=by
 unfold Bo dgB;cases decide (48<=((c.toNat:Nat):Int)) <;> rfl
theorem Wd:∀ n:Fin 256,decide (0<=Lib.indexByte [59,42,40,41,61,58] (UInt8.ofNat n.val))=syB (UInt8.ofNat n.val):=by decide +kernel
theorem Vn (c:UInt8):∃ y,Cp (⟨#[59,42,40,41,61,58]⟩:ByteArray) ((c.toNat:Nat):Int)=some y/\decide (0<=y)=syB c:=by
 refine ⟨_,rfl,?_⟩;have h:=Wd ⟨c.toNat,c.toNat_lt⟩;have e:UInt8.ofNat c.toNat=c:=UInt8.ofNat_toNat;dsimp only at h;rw [e] at h;rw [← h];show decide (0<=Lib.indexByte [59,42,40,41,61,58] (UInt8.ofNat c.toNat))=_;rw [e]
theorem Wb:∀ n:Fin 256,(syB (UInt8.ofNat n.val)&&anB (UInt8.ofNat n.val))=false/\(loB (UInt8.ofNat n.val)&&dgB (UInt8.ofNat n.val))=false:=by decide +kernel
theorem Wa (c:UInt8):(syB c&&anB c)=false/\(loB c&&dgB c)=false:=by
 have h:=Wb ⟨c.toNat,c.toNat_lt⟩
 rwa [show UInt8.ofNat (⟨c.toNat,c.toNat_lt⟩:Fin 256).val=c from UInt8.ofNat_toNat] at h
def tkw (q:UInt8->Bool):List UInt8->Nat
 | []=>0
 | c :: l=>if q c then tkw q l+1 else 0
theorem Od (q:UInt8->Bool):∀ (l:List UInt8) (k:Nat),k<tkw q l->∃ x,l[k]? =some x/\q x=true
 | [],k,h=>absurd h (Nat.not_lt_zero _)
 | c :: l,k,h=>by
  unfold tkw at h;split at h
  ·cases k with
   | zero=>exact ⟨c,rfl,by assumption⟩
   | succ k=>exact Od q l k oM
  ·exact absurd h (Nat.not_lt_zero _)
theorem Pk (q:UInt8->Bool):∀ (l:List UInt8) (x:UInt8),l[tkw q l]? =some x->q x=false
 | [],x,h=>by cases h
 | c :: l,x,h=>by
  unfold tkw at h;by_cases hc:q c=true
  ·rw [if_pos hc] at h;exact Pk q l x h
  ·rw [if_neg hc] at h;obtain rfl:=osj h;exact Bool.eq_false_iff.2 hc
theorem Q2 (q:UInt8->Bool):∀ l:List UInt8,tkw q l<=l.length
 | []=>Nat.le_refl _
 | c :: l=>by
  have:=Q2 q l;unfold tkw;rw [List.length_cons];split <;> omega
def Bd (q:UInt8->Bool) (l:List UInt8) (j:Nat):Nat:=j+tkw q (l.drop j)
theorem Et (q:UInt8->Bool) {l:List UInt8} {j:Nat} (h:j<=l.length):Bd q l j<=l.length:=by
 have:=Q2 q (l.drop j);rw [List.length_drop] at this;unfold Bd;omega
theorem El {q:UInt8->Bool} {l:List UInt8} {j:Nat} {c:UInt8} (h:l[j]? =some c) (hq:q c=true):Bd q l j=Bd q l (j+1):=by
 have hj:=Cs h;unfold Bd;rw [List.drop_eq_getElem_cons hj];rw [gEg hj] at h;rw [osj h]
 conv=>lhs;unfold tkw
 rw [if_pos hq];omega
theorem Gw {body:Nat->Option (Ctl Nat Nat)} (q:UInt8->Bool) (l:List UInt8) {j:Nat} (hj:j<=l.length) (hl:l.length<=40000) (hs:∀ i x,l[i]? =some x->body i=some (if q x then .next (i+1) else .out i)) (he:body l.length=some (.out l.length)):Aq body 4611686018427387904 j=some (Bd q l j):=by
 have hr:=Et q hj;refine Fq (tkw q (l.drop j)) (fun k=>j+k) (by unfold Bd at hr;omega) _ rfl (fun k hk=>?_) ?_
 ·obtain ⟨x,h1,h2⟩:=Od q _ k hk;rw [List.getElem?_drop] at h1;rw [hs _ _ h1,h2];rfl
 ·show body (Bd q l j)=some (.out (Bd q l j));rcases Nat.lt_or_ge (Bd q l j) l.length with h|h
  ·have hx:=gEg h;have h2:=Pk q (l.drop j) _ ((List.getElem?_drop ..).trans hx);rw [hs _ _ hx,h2];rfl
  ·obtain e:Bd q l j=l.length:=by omega
   rw [e,he]
theorem Vo {l:List UInt8} {j:Nat} (hj:j<=l.length) (hl:l.length<=40000):Aq (fun s_:Nat=>Bx (ba l) s_) 4611686018427387904 j=some (Bd anB l j):=by
 refine Gw anB l hj hl (fun i x h=>?_) ?_
 ·have:=Cs h;unfold Bx;rw [Ba,Cf oM,cond_true,Fo,h,obs,Sh,obs,obs,Ol,obs,Ap oM];unfold anB;cases loB x <;> cases dgB x <;> rfl
 ·unfold Bx;rw [Ba,Bl oM,cond_false];rfl
theorem V0 {l:List UInt8} {j:Nat} (hj:j<=l.length) (hl:l.length<=40000):Aq (fun s_:Nat=>B1 (ba l) s_) 4611686018427387904 j=some (Bd anB l j):=by
 refine Gw anB l hj hl (fun i x h=>?_) ?_
 ·have:=Cs h;unfold B1;rw [Ba,Cf oM,cond_true,Fo,h,obs,Rw,obs,obs,Nq,obs,Ap oM];unfold anB;cases loB x <;> cases dgB x <;> rfl
 ·unfold B1;rw [Ba,Bl oM,cond_false];rfl
theorem Vm {l:List UInt8} {j:Nat} (hj:j<=l.length) (hl:l.length<=40000):Aq (fun s_:Nat=>Bq (ba l) s_) 4611686018427387904 j=some (Bd dgB l j):=by
 refine Gw dgB l hj hl (fun i x h=>?_) ?_
 ·have:=Cs h;unfold Bq;rw [Ba,Cf oM,cond_true,Fo,h,obs,Ol,obs,Ap oM];cases dgB x <;> rfl
 ·unfold Bq;rw [Ba,Bl oM,cond_false];rfl
theorem V4 {l:List UInt8} {j:Nat} (hj:j<=l.length) (hl:l.length<=40000):Aq (fun s_:Nat=>Bs (ba l) s_) 4611686018427387904 j=some (Bd dgB l j):=by
 refine Gw dgB l hj hl (fun i x h=>?_) ?_
 ·have:=Cs h;unfold Bs;rw [Ba,Cf oM,cond_true,Fo,h,obs,Nq,obs,Ap oM];cases dgB x <;> rfl
 ·unfold Bs;rw [Ba,Bl oM,cond_false];rfl
theorem U3 (x lo hi:Int):D0 x lo hi=some (decide (lo<=x)&&decide (x<=hi)):=by
 unfold D0;cases decide (lo<=x) <;> rfl
theorem Q0:∀ n:Fin 256,dgB (UInt8.ofNat n.val)=true->0<=wI (IntKind.u8.wrap (((n.val:Nat):Int) - 48))/\wI (IntKind.u8.wrap (((n.val:Nat):Int) - 48))<=9:=by decide +kernel
theorem Rx {c:UInt8} {l:List UInt8} (hd:∀ x∈c :: l,dgB x=true):∃ r,C6 (ba (c :: l))=some r/\decide (r<0)=(decide (6<(c :: l).length)||(decide (1<(c :: l).length)&&((c.toNat:Nat):Int)==48)):=by
 unfold C6;rw [U3,obs,Ba];have h1:decide ((1:Int)<=(((c :: l).length:Nat):Int))=true:=Cf (by simp;omega);rw [h1,Bool.true_and];by_cases h6:6<(c :: l).length
 ·rw [Bl (show ¬ ((((c :: l).length:Nat):Int)<=6) by omega),Cf h6];exact ⟨_,rfl,rfl⟩
 rw [Cf (show ((((c :: l).length:Nat):Int)<=6) by omega),Bl h6,Bool.not_true,cond_false,Fo,List.getElem?_cons_zero,obs,Bool.false_or]
 have key:∃ r,Aq (fun s_:Int×Nat=>Ci (ba (c :: l)) s_.1 s_.2) 4611686018427387904 (0,0)=some r/\∃ v:Int,r=Ctl.next v/\0<=v:=by
  refine E0 (F:=4611686018427387904) (s0:=((0,0):Int×Nat)) (Post:=fun r=>∃ v:Int,r=Ctl.next v/\0<=v) (c :: l).length (fun (i:Nat) (st:Int×Nat)=>st.2=i/\0<=st.1/\st.1<((10 ^ i:Nat):Int)) oM ⟨rfl,Int.le_refl _,by decide⟩ ?_ ?_
  ·rintro i ⟨v,i'⟩ hi ⟨e1,e2,e3⟩;dsimp only at e1 e2 e3;subst e1;have hx:=gEg hi;have hq:=hd _ (List.getElem_mem hi);have hs:=Q0 ⟨((c :: l)[i']).toNat,((c :: l)[i']).toNat_lt⟩;rw [show UInt8.ofNat (⟨((c :: l)[i']).toNat,((c :: l)[i']).toNat_lt⟩:Fin 256).val=(c :: l)[i'] from UInt8.ofNat_toNat] at hs;obtain ⟨g1,g2⟩:=hs hq;dsimp only at g1 g2;have hp:10 ^ i'<=10 ^ 6:=Nat.pow_le_pow_right oM oM;refine .inl ?_
   try dsimp only
   unfold Ci;rw [Ba,Cf oM,cond_true,Fo,hx];simp only [obs]
   have hq':decide ((48:Int)<=((((c :: l)[i']).toNat:Nat):Int))=true/\decide (((((c :: l)[i']).toNat:Nat):Int)<=57)=true:=by
    unfold dgB at hq;exact Bool.and_eq_true_iff.1 hq
   have q1:=of_decide_eq_true hq'.1;have q2:=of_decide_eq_true hq'.2;rw [Bl oM,cond_false,obs,Bl oM,cond_false,Ap oM];rw [Iu (n:=10*v) oM oM,Iu oM oM];refine ⟨_,rfl,rfl,by dsimp only;omega,?_⟩;dsimp only;rw [Nat.pow_succ];omega
  ·rintro ⟨v,i'⟩ ⟨e1,e2,e3⟩;dsimp only at e1 e2 e3;subst e1
   try dsimp only
   unfold Ci;rw [Ba,Bl oM,cond_false];exact ⟨_,rfl,v,rfl,e2⟩
 obtain ⟨r,hr,v,rfl,hv⟩:=key;rw [hr];have hv':decide (v<0)=false:=Bl oM
 have ed:decide ((1:Int)<(((c :: l).length:Nat):Int))=decide (1<(c :: l).length):=by
  by_cases h:1<(c :: l).length
  ·rw [Cf h,Cf oM]
  ·rw [Bl h,Bl oM]
 rw [ed];cases ((c.toNat:Nat):Int)==48 <;> cases decide (1<(c :: l).length) <;> first|exact ⟨_,rfl,hv'⟩|exact ⟨_,rfl,rfl⟩
def K9 {σ ρ ρ':Type} (g:ρ->ρ'):Ctl σ ρ->Ctl σ ρ'
 | .next s=>.next s
 | .out r=>.out (g r)
theorem Ge {σ ρ ρ':Type} {body:σ->Option (Ctl σ ρ)} {body':σ->Option (Ctl σ ρ')} (g:ρ->ρ') (I:σ->Prop) (hs:∀ s,I s->body' s=(body s).map (K9 g)) (hI:∀ s s',I s->body s=some (.next s')->I s'):∀ (F:Nat) (s:σ),I s->Aq body' F s=(Aq body F s).map g
 | 0,s,h=>rfl
 | F+1,s,h=>by
  have e:=hs s h;cases hb:body s with
  | none =>
   rw [hb] at e;simp only [Aq,e,hb,Option.map_none,Option.bind_none]
  | some c =>
   rw [hb] at e;cases c with
   | next s' =>
    have h':=Ge g I hs hI F s' (hI s s' h hb);simp only [Aq,e,hb,Option.map_some,obs,K9,Ctl.then];exact h'
   | out r=>simp only [Aq,e,hb,Option.map_some,obs,K9,Ctl.then]
def Id (l:List UInt8) (s:Nat×List TkT):Ctl (Nat×List TkT) (Ctl (List TkT) (Int×Int)) :=
 match l[s.1]? with
 | none=>.out (.next s.2)
 | some c =>
  if blB c then .next (s.1+1,s.2)
  else if syB c then .next (s.1+1,s.2++[(3,(ba l).extract s.1 (s.1+1),(s.1:Int))])
  else if loB c then .next (Bd anB l s.1,s.2++[(1,(ba l).extract s.1 (Bd anB l s.1),(s.1:Int))])
  else if dgB c then
   (if decide (6<Bd dgB l s.1 - s.1)||(decide (1<Bd dgB l s.1 - s.1)&&((c.toNat:Nat):Int)==48) then .out (.out ((s.1:Int),3))
    else .next (Bd dgB l s.1,s.2++[(2,(ba l).extract s.1 (Bd dgB l s.1),(s.1:Int))]))
  else .out (.out ((s.1:Int),2))
theorem Ls {l:List UInt8} (s s':Nat×List TkT) (h:s.2.length<=s.1) (e:Id l s=.next s'):s.1<l.length/\s.1<s'.1/\s'.1<=l.length/\s'.2.length<=s'.1:=by
 unfold Id at e;cases hx:l[s.1]? with
 | none=>rw [hx] at e;cases e
 | some c =>
  have hi:=Cs hx;rw [hx] at e;dsimp only at e
  have r1:anB c=true->s.1+1<=Bd anB l s.1/\Bd anB l s.1<=l.length:=fun hq=>by
   rw [El hx hq];exact ⟨Nat.le_add_right _ _,Et _ hi⟩
  have r2:dgB c=true->s.1+1<=Bd dgB l s.1/\Bd dgB l s.1<=l.length:=fun hq=>by
   rw [El hx hq];exact ⟨Nat.le_add_right _ _,Et _ hi⟩
  by_cases h1:blB c=true
  ·rw [if_pos h1] at e;cases e;exact ⟨hi,Nat.lt_succ_self _,hi,Nat.le_succ_of_le h⟩
  rw [if_neg h1] at e;by_cases h2:syB c=true
  ·rw [if_pos h2] at e;cases e;refine ⟨hi,Nat.lt_succ_self _,hi,?_⟩;dsimp only;rw [List.length_append,List.length_singleton];omega
  rw [if_neg h2] at e;by_cases h3:loB c=true
  ·rw [if_pos h3] at e;cases e;have:=r1 (by unfold anB;rw [h3];rfl);refine ⟨hi,by dsimp only;omega,by dsimp only;omega,?_⟩;dsimp only;rw [List.length_append,List.length_singleton];omega
  rw [if_neg h3] at e;by_cases h4:dgB c=true
  ·rw [if_pos h4] at e;have:=r2 h4;split at e
   ·cases e
   ·cases e;refine ⟨hi,by dsimp only;omega,by dsimp only;omega,?_⟩;dsimp only;rw [List.length_append,List.length_singleton];omega
  rw [if_neg h4] at e;cases e
theorem Tb {l:List UInt8} (hl:l.length<=40000) (s:Nat×List TkT) (h:s.2.length<=s.1) (hs:s.1<=l.length):Bt (ba l) s.1 s.2=some (K9 (K9 fun p:Int×Int=>(([]:List TkT),p.1,p.2)) (Id l s)):=by
 unfold Bt Id;cases hx:l[s.1]? with
 | none =>
  have hi:s.1=l.length:=by
   have:=List.getElem?_eq_none_iff.1 hx;omega
  rw [Ba,Bl oM,cond_false];rfl
 | some c =>
  have hi:=Cs hx;rw [Ba,Cf oM,cond_true,Fo,hx,obs,Ap oM];dsimp only;by_cases h1:blB c=true
  ·rw [if_pos h1]
   have:(cond (((c.toNat:Nat):Int)==32) (some true) (some (((c.toNat:Nat):Int)==10)))=some true:=by
    rw [← h1];unfold blB;cases ((c.toNat:Nat):Int)==32 <;> rfl
   rw [this];rfl
  rw [if_neg h1]
  have e1:(cond (((c.toNat:Nat):Int)==32) (some true) (some (((c.toNat:Nat):Int)==10)))=some false:=by
   rw [← Bool.eq_false_iff.2 h1];unfold blB;cases ((c.toNat:Nat):Int)==32 <;> rfl
  rw [e1,obs,cond_false]
  have e2:(cond (((c.toNat:Nat):Int)==59) (some true) (cond (((c.toNat:Nat):Int)==42) (some true) (cond (((c.toNat:Nat):Int)==40) (some true) (cond (((c.toNat:Nat):Int)==41) (some true) (cond (((c.toNat:Nat):Int)==61) (some true) (some (((c.toNat:Nat):Int)==58)))))))=some (syB c):=by
   unfold syB;cases ((c.toNat:Nat):Int)==59 <;> cases ((c.toNat:Nat):Int)==42 <;> cases ((c.toNat:Nat):Int)==40 <;> cases ((c.toNat:Nat):Int)==41 <;> cases ((c.toNat:Nat):Int)==61 <;> rfl
  rw [e2,obs];have g1:=Ap (α:=Ctl (Nat×List TkT) (Ctl (List TkT) (List TkT×Int×Int))) (show s.2.length+1<=1073741824/\(s.2.length+1)*32<=140737488355328 by omega);by_cases h2:syB c=true
  ·rw [if_pos h2,h2,cond_true,Ap oM,Ap oM];rfl
  rw [if_neg h2,Bool.eq_false_iff.2 h2,cond_false,Sh,obs];by_cases h3:loB c=true
  ·have ha:anB c=true:=by unfold anB;rw [h3];rfl
   have hr:=Et anB (l:=l) (j:=s.1+1) oM;have hr2:s.1+1<=Bd anB l (s.1+1):=Nat.le_add_right _ _;rw [if_pos h3,h3,cond_true,Vo (j:=s.1+1) hi hl,obs,Ap oM,Ap oM,El hx ha];rfl
  rw [if_neg h3,Bool.eq_false_iff.2 h3,cond_false,Ol,obs];by_cases h4:dgB c=true
  ·have hr:=Et dgB (l:=l) (j:=s.1+1) oM;have hr2:s.1+1<=Bd dgB l (s.1+1):=Nat.le_add_right _ _;rw [if_pos h4,h4,cond_true,Vm (j:=s.1+1) hi hl,obs,Ap oM,← El hx h4];rw [← El hx h4] at hr hr2
   have hz:∃ t,(l.drop s.1).take (Bd dgB l s.1 - s.1)=c :: t:=by
    rw [List.drop_eq_getElem_cons hi,show Bd dgB l s.1 - s.1=(Bd dgB l s.1 - s.1 - 1)+1 by omega,List.take_succ_cons];rw [gEg hi] at hx;rw [osj hx];exact ⟨_,rfl⟩
   obtain ⟨t,ht⟩:=hz
   have hlen:(c :: t).length=Bd dgB l s.1 - s.1:=by
    rw [← ht,List.length_take,List.length_drop];omega
   obtain ⟨r,hr1,hr3⟩:=Rx (c:=c) (l:=t) (fun x hx'=>by
    rw [← ht] at hx';obtain ⟨k,hk,rfl⟩:=List.mem_iff_getElem.1 hx';rw [List.length_take] at hk;obtain ⟨y,hy1,hy2⟩:=Od dgB (l.drop s.1) k (by unfold Bd at hk;omega);rw [List.getElem_take];rw [gEg oM] at hy1;rw [osj hy1];exact hy2)
   rw [hlen] at hr3;rw [Ut,ht,hr1,obs,hr3,Ap oM,Ap oM];cases (decide (6<Bd dgB l s.1 - s.1)||(decide (1<Bd dgB l s.1 - s.1)&&((c.toNat:Nat):Int)==48)) <;> rfl
  rw [if_neg h4,Bool.eq_false_iff.2 h4,cond_false];rfl
theorem Ts {l:List UInt8} (hl:l.length<=40000) (s:Nat×List TkT) (h:s.2.length<=s.1) (hs:s.1<=l.length):Br (ba l) s.1 s.2=some (K9 (K9 fun p:Int×Int=>(([]:List TkT),true,p.1,p.2)) (Id l s)):=by
 unfold Br Id;cases hx:l[s.1]? with
 | none =>
  have hi:s.1=l.length:=by
   have:=List.getElem?_eq_none_iff.1 hx;omega
  rw [Ba,Bl oM,cond_false];rfl
 | some c =>
  have hi:=Cs hx;obtain ⟨y,hy1,hy2⟩:=Vn c;obtain ⟨x1,x2⟩:=Wa c;rw [Ba,Cf oM,cond_true,Fo,hx];simp only [obs,Rw,Nq,hy1,hy2];rw [Ap oM]
  have e1:(cond (((c.toNat:Nat):Int)==32) (some true) (some (((c.toNat:Nat):Int)==10)))=some (blB c):=by
   unfold blB;cases ((c.toNat:Nat):Int)==32 <;> rfl
  rw [e1,obs];by_cases h1:blB c=true
  ·rw [if_pos h1,h1];rfl
  rw [if_neg h1,Bool.eq_false_iff.2 h1,cond_false];by_cases h2:syB c=true
  ·rw [h2,Bool.true_and] at x1;unfold anB at x1;obtain ⟨z1,z2⟩:=Bool.or_eq_false_iff.1 x1;rw [if_pos h2,z1,z2,h2,cond_false,cond_false,cond_true,Ap oM,Ap oM,Ap oM];rfl
  rw [if_neg h2,Bool.eq_false_iff.2 h2,cond_false];by_cases h3:loB c=true
  ·have ha:anB c=true:=by unfold anB;rw [h3];rfl
   have hr:=Et anB (l:=l) (j:=s.1) hs;have hr2:s.1<=Bd anB l s.1:=Nat.le_add_right _ _;rw [if_pos h3,h3,cond_true,V0 hs hl,obs,Ap oM,Ap oM];rfl
  rw [if_neg h3,Bool.eq_false_iff.2 h3,cond_false];by_cases h4:dgB c=true
  ·have hr:=Et dgB (l:=l) (j:=s.1) hs;have hr2:s.1<=Bd dgB l s.1:=Nat.le_add_right _ _
   have d1:decide ((6:Int)<((Bd dgB l s.1:Nat):Int) - ((s.1:Nat):Int))=decide (6<Bd dgB l s.1 - s.1):=by
    by_cases h:6<Bd dgB l s.1 - s.1
    ·rw [Cf h,Cf oM]
    ·rw [Bl h,Bl oM]
   have d2:decide ((1:Int)<((Bd dgB l s.1:Nat):Int) - ((s.1:Nat):Int))=decide (1<Bd dgB l s.1 - s.1):=by
    by_cases h:1<Bd dgB l s.1 - s.1
    ·rw [Cf h,Cf oM]
    ·rw [Bl h,Bl oM]
   rw [if_pos h4,h4,cond_true,V4 hs hl,obs,Ap oM,Ap oM,Iu oM oM,d1,d2];cases decide (6<Bd dgB l s.1 - s.1) <;> cases decide (1<Bd dgB l s.1 - s.1) <;> cases ((c.toNat:Nat):Int)==48 <;> rfl
  rw [if_neg h4,Bool.eq_false_iff.2 h4,cond_false];rfl
theorem T0 {l:List UInt8} (hl:l.length<=40000):∃ r:Ctl (List TkT) (Int×Int),Aq (fun s:Nat×List TkT=>some (Id l s)) 4611686018427387904 (0,[])=some r/\∀ ts,r=.next ts->ts.length<=40000:=by
 refine E0 (F:=4611686018427387904) (s0:=((0,[]):Nat×List TkT)) (Post:=fun r:Ctl (List TkT) (Int×Int)=>∀ ts,r=.next ts->ts.length<=40000) l.length (fun (i:Nat) (s:Nat×List TkT)=>i<=s.1/\s.1<=l.length/\s.2.length<=s.1) oM ⟨Nat.le_refl _,Nat.zero_le _,Nat.le_refl _⟩ ?_ ?_
 ·rintro i s hi ⟨h1,h2,h3⟩;cases e:Id l s with
  | next s' =>
   obtain ⟨g1,g2,g3,g4⟩:=Ls s s' h3 e;exact .inl ⟨s',rfl,by omega,g3,g4⟩
  | out r =>
   refine .inr ⟨r,rfl,?_⟩;rintro ts rfl;unfold Id at e;cases hx:l[s.1]? with
   | none=>rw [hx] at e;cases e;omega
   | some c =>
    rw [hx] at e;dsimp only at e
    repeat (split at e;try cases e)
    all_goals cases e
 ·rintro s ⟨h1,h2,h3⟩;have hx:l[s.1]? =none:=List.getElem?_eq_none oM;refine ⟨.next s.2,by unfold Id;rw [hx],?_⟩;rintro ts e;cases e;omega
theorem Ur (s:ByteArray):∃ ts a c,Cr s=some (ts,a,c)/\B2 s=some (ts,a,c)/\ts.length<=40000:=by
 rw [← Tf s];generalize s.data.toList=l;unfold Cr B2 Di Dj;rw [Ba];by_cases h:40000<l.length
 ·rw [Cf oM];exact ⟨[],0,1,rfl,rfl,Nat.zero_le _⟩
 rw [Bl oM,cond_false,cond_false];obtain ⟨r,hr,hb⟩:=T0 (l:=l) oM
 have h1:=Ge (body:=fun s:Nat×List TkT=>some (Id l s)) (body':=fun s_:Nat×List TkT=>Bt (ba l) s_.1 s_.2) (K9 fun p:Int×Int=>(([]:List TkT),p.1,p.2)) (fun s=>s.2.length<=s.1/\s.1<=l.length) (fun s hs=>Tb oM s hs.1 hs.2) (fun s s' hs e=>by
  obtain ⟨_,_,g3,g4⟩:=Ls s s' hs.1 (osj e);exact ⟨g4,g3⟩) 4611686018427387904 (0,[]) ⟨Nat.le_refl _,Nat.zero_le _⟩
 have h2:=Ge (body:=fun s:Nat×List TkT=>some (Id l s)) (body':=fun s_:Nat×List TkT=>Br (ba l) s_.1 s_.2) (K9 fun p:Int×Int=>(([]:List TkT),true,p.1,p.2)) (fun s=>s.2.length<=s.1/\s.1<=l.length) (fun s hs=>Ts oM s hs.1 hs.2) (fun s s' hs e=>by
  obtain ⟨_,_,g3,g4⟩:=Ls s s' hs.1 (osj e);exact ⟨g4,g3⟩) 4611686018427387904 (0,[]) ⟨Nat.le_refl _,Nat.zero_le _⟩
 rw [hr] at h1 h2;rw [h1,h2];cases r with
 | next ts=>exact ⟨ts,0,0,rfl,rfl,hb ts rfl⟩
 | out p=>exact ⟨[],p.1,p.2,rfl,rfl,Nat.zero_le _⟩
theorem Tu (x:TkT):Cx x.1 x.2.1 x.2.2 x.1 x.2.1 x.2.2=some true:=by
 unfold Cx;rw [bne_self_eq_false,bne_self_eq_false,beq_self_eq_true];rfl
theorem Rq {ts:List TkT} (h:ts.length<=40000):B6 ts ts=some true:=by
 unfold B6
 have hL:Aq (fun s_:Nat=>Bu ts ts s_) 4611686018427387904 0=some (.next ()):=by
  refine Fq ts.length (fun i=>i) oM _ rfl (fun i hi=>?_) ?_
  ·have hx:=gEg hi;unfold Bu;rw [Cf oM,cond_true,hx,obs,obs,Tu,obs,Bool.not_true,cond_false,Ap oM]
  ·unfold Bu;rw [Bl oM,cond_false]
 rw [bne_self_eq_false,cond_false,hL];rfl
theorem V8 {k:Int} (h:0<=k/\k<=1000000):∃ t,A6 k=some t:=by
 unfold A6;by_cases h0:k<=0
 ·rw [Cf h0];exact ⟨_,rfl⟩
 rw [Bl h0,cond_false]
 obtain ⟨r,hr,hs⟩:=E0 (F:=4611686018427387904) (body:=fun s_:Int×ByteArray=>Bw s_.1 s_.2) (s0:=((k,(⟨#[]⟩:ByteArray)):Int×ByteArray)) (Post:=fun r:ByteArray=>r.size<=1000000) k.toNat (fun (i:Nat) (s:Int×ByteArray)=>0<=s.1/\s.1+i<=k/\s.2.size<=i) oM ⟨h.1,by simp,Nat.le_refl _⟩ (by
  rintro i ⟨v,t⟩ hi ⟨h1,h2,h3⟩;dsimp only at h1 h2 h3
  try dsimp only
  unfold Bw;by_cases hv:0<v
  ·have e:∀ x:Int,(strOfNums [x]).size=1:=fun x=>rfl
   have hd:Int.tdiv v 10=v / 10:=Int.tdiv_eq_ediv_of_nonneg h1;rw [Cf hv,cond_true,e,Ap oM,hd,Iu (n:=v / 10) oM oM];refine .inl ⟨_,rfl,by dsimp only;omega,by dsimp only;omega,?_⟩;dsimp only;rw [ByteArray.size_append,e];omega
  ·rw [Bl hv];exact .inr ⟨_,rfl,by omega⟩) (by
  rintro ⟨v,t⟩ ⟨h1,h2,h3⟩;dsimp only at h1 h2 h3
  try dsimp only
  unfold Bw;rw [Bl oM];exact ⟨_,rfl,by omega⟩)
 rw [hr,obs,Ap (by show 1+r.size<=_;omega)];exact ⟨_,rfl⟩
def mtx (k:Int):ByteArray:=(A6 k).getD ⟨#[]⟩
theorem Pt {k:Int} (h:0<=k/\k<=1000000):A6 k=some (mtx k):=by
 obtain ⟨t,e⟩:=V8 h;unfold mtx;rw [e];rfl
def mkT (i:Nat):TkT:=((3*i+1:Nat),mtx ((3*i+2:Nat):Int),(3*i+3:Nat))
def G7 (n:Nat):List TkT:=(List.range n).map mkT
theorem Ei (n:Nat):(G7 n).length=n:=by simp [G7]
theorem Qd (n:Nat):G7 (n+1)=G7 n++[mkT n]:=by simp [G7,List.range_succ]
theorem wrN {n:Nat} (h:n<=1000000):wI (((n:Nat):Int)+1)=((n+1:Nat):Int):=by rw [Iu oM oM];rfl
theorem Rr {ts:List TkT} (h:ts.length<=40000):B8 ts 1=some (G7 ts.length,((3*ts.length+1:Nat):Int)):=by
 unfold B8
 suffices hL:Aq (fun s_:Int×Nat×List TkT=>Bh s_.1 s_.2.1 s_.2.2) 4611686018427387904 (1,0,ts)=some (((3*ts.length+1:Nat):Int),G7 ts.length) by
  rw [hL];rfl
 refine Fq ts.length (fun i=>(((3*i+1:Nat):Int),i,G7 i++ts.drop i)) oM _ rfl (fun i hi=>?_) ?_
 ·have hp:=Qr (ys:=G7 i) hi (Ei i);have hl:i<(G7 i++ts.drop i).length:=(Cs hp)
  try dsimp only
  unfold Bh;rw [Cf oM,cond_true,hp,obs,wrN oM,Pt oM,obs,List.getElem?_set_self hl,obs,List.set_set,List.getElem?_set_self hl,obs,List.set_set,Ap oM,wrN oM,wrN oM,Qm hi (Ei i),Qd];rfl
 ·try dsimp only
  unfold Bh;rw [List.drop_length,List.append_nil,Ei,Bl oM,cond_false]
theorem Rp {n:Nat} (h:n<=40000):Be (G7 n) 1=some ((3*n+1:Nat):Int):=by
 unfold Be
 suffices hL:Aq (fun s_:Int×Nat=>Bg (G7 n) s_.1 s_.2) 4611686018427387904 (1,0)=some (.next ((3*n+1:Nat):Int)) by
  rw [hL];rfl
 refine Fq n (fun i=>(((3*i+1:Nat):Int),i)) oM _ rfl (fun i hi=>?_) ?_
 ·have hx:(G7 n)[i]? =some (mkT i):=by unfold G7;rw [List.getElem?_map,List.getElem?_range hi];rfl
  try dsimp only
  unfold Bg;rw [Ei,Cf oM,cond_true,hx,obs,show (mkT i).1=((3*i+1:Nat):Int) from rfl,bne_self_eq_false,cond_false,wrN oM,Pt oM,obs,show (mkT i).2.1=mtx ((3*i+2:Nat):Int) from rfl,beq_self_eq_true,Bool.not_true,cond_false,wrN oM,show (mkT i).2.2=((3*i+3:Nat):Int) from rfl,bne_self_eq_false,cond_false,Ap oM,wrN oM];rfl
 ·try dsimp only
  unfold Bg;rw [Ei,Bl oM,cond_false]
theorem J3 (s:ByteArray):A7 s=some true:=by
 unfold A7;by_cases h:(1048576:Int)<((s.size:Nat):Int)
 ·rw [Cf h];rfl
 rw [Bl h,cond_false];obtain ⟨ts,a,c,h1,h2,h3⟩:=Ur s;have hk:¬ (((3*ts.length+1:Nat):Int)<0):=by omega
 simp only [h1,h2,obs,Rq h3,bne_self_eq_false,Bool.not_true,cond_false,Rr h3,Rp h3,Ei];rw [Ap trivial,Bl hk];rfl
end
section
open Go.RowKit Go.Deep
theorem tokenize_walk (s:ByteArray) (w:World) (_i_s:s.size<=maxLen) (tab:Tab w) :
  Calls Tryd.prog 3 #[.string s] w fun e w'=>e=.returned (.bool true)/\Below w.heap.size w w':=by
 have hl:A7 s=some true:=J3 s;refine (Ea hl w (fun _=>True) [.string s] (fun w' hb=>tab.below hb) ⟨_,_,rfl,rfl,rfl⟩).mono ?_;rintro e w' ⟨u,rfl,hb,us,ls,h1,_,rfl⟩;obtain ⟨u1,us1,rfl,h2,_,rfl,rfl⟩:=h1;obtain rfl:u1=.bool true:=h2;exact ⟨rfl,hb⟩
end
end Go.Proofs.YtoidoaceeedifaaDoor
