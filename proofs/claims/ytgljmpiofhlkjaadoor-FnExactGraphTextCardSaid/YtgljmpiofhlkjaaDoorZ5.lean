/- Lemmas on the program and on partial functions that stand in place of its code (part 5); no condition beyond those that each one states. -/
import Derived.Test.YtgljmpiofhlkjaaDoorZ4
import Derived.Lib.SplitLaws
import Derived.Deep.RegionHeld3
namespace Go.Proofs.YtgljmpiofhlkjaaDoor
section
open Go.RowKit Go.Deep
def AV.isGiv:AV->Bool
 | .giv _ _ _=>true
 | _=>false
def Ob.hpGB (D:List Oid):Ob->Bool
 | .cells _ cs=>cs.all fun c=>c.hpB D||c.isGiv
 | _=>false
theorem Ad8 {D:List Oid} {E:Oid->Prop} (hd:∀ i,i∈D->E i) (o:Ob) (h:o.hpGB D=true):o.hpG E:=by
 cases o with
 | cells ty cs =>
  simp only [Ob.hpGB,List.all_eq_true,Bool.or_eq_true] at h;intro c hc;rcases h c hc with h1 | h1
  ·exact .inl (AV.hp_mono hd _ (AV.hpB_P c h1))
  ·cases c with
   | giv u t xs=>exact .inr ⟨u,t,xs,rfl⟩
   | _=>cases h1
 | _=>cases h
def Adc (ol us:List (Oid×Ob)) (args:List AV) (v:AV):Bool :=
 (D5 ol&&(D5 us&&((ol.all fun q=>q.1.2==0)&&((us.all fun q=>q.1.2==1||(!q.2.isPool&&(A6 ol).contains q.1))&&(ndB (A6 us)&&ndB (Ba us))))))&&((ol.all fun q=>q.2.clo1 (A6 ol))&&((us.all fun q=>q.2.hp1 (A6 us)||q.2.hpGB (A6 us))&&(AV.cloL (A6 ol) args&&AV.hpB (A6 us) v)))
def Aas (D:List Oid) (ol:List (Oid×Ob)):List (Oid×Ob)->Prop
 | []=>True
 | q :: r=>(q.2.hp1 D=true∨q∈ol)∧Aas D ol r
theorem Sy {D:List Oid} {ol:List (Oid×Ob)}:∀ {l:List (Oid×Ob)},Aas D ol l->∀ q∈l,q.2.hp1 D=true∨q∈ol
 | _ :: _,h,q,hq=>by
  rcases List.mem_cons.1 hq with rfl | hq
  ·exact h.1
  ·exact Sy h.2 q hq
theorem Fv {p:Oid} {ty:TypeId} {cs:List AV}:∀ {l:List (Oid×Ob)},(p,Ob.cells ty cs)∈l->(p,Ob.cells ty cs)∈exL l
 | (q,o) :: r,h=>by
  rcases List.mem_cons.1 h with e | h
  ·obtain ⟨rfl,rfl⟩:=Prod.mk.inj e;exact List.mem_cons_self
  ·have:=Fv h;cases o <;> simp only [exL,List.mem_append,List.mem_cons] <;> first | exact .inr this
section
variable {P:Program} {G:World->Prop} (hfol:P.follows .mixedOrders=true) {g:FuncId} {fn:Func} (hf:P.funcs[g]? =some fn) {ac:AC} {rs:List Res} (hc:Ap P fn=some (ac,rs)) {args:List AV} {r:RV} {n:Nat}
include hfol hf hc
theorem Po [IsP P] (hN:fn.ntmps=n) (hn:args.length<=n) {tl:List (Nat×AV)} (htl:tmL 0 args=tl) {ol us:List (Oid×Ob)} {v:AV} (hB:Adc ol us args v=true) (hm1:Tu ol ol) (hm2:Tu us us) (hgv:Aas (A6 us) ol us)
  (h:awp P G ac (fun e S=>∃ S',WeakG G S S'∧(e=.normal∨e=.ret)∧(∃ rvs,Res.evL S'.tm S'.ob rs=some rvs∧v=Vz rvs)∧∀ q∈exL us,S'.ob q.1=some q.2) ⟨Al tl,Ah (Aq ol),1⟩):Iq P G g args ol v us:=by
 simp only [Adc,Bool.and_eq_true] at hB;obtain ⟨⟨a1,a2,a3,a4,a5,a6⟩,b1,b2,b3,b4⟩:=hB;rw [List.all_eq_true] at a3 a4 b1 b2
 have h0:∀ {l:List (Oid×Ob)},D5 l=true->∀ q∈l,q.1.1.2=0:=fun h q hq=>by
  unfold D5 at h;rw [List.all_eq_true] at h;have:=h q hq;simp only [Bool.and_eq_true,beq_iff_eq] at this;exact this.1
 refine Aah hfol hf hc hN hn (fun q hq=>?_) (Abo (Cp a5) (Cp a6) (h0 a2)) (fun q hq=>?_) (AV.cloPL_mono (fun i hi=>Gf hi) _ (AV.cloPL_of args b3)) (AV.hp_mono (fun i hi=>Gf hi) _ (AV.hpB_P v b4)) ?_
 ·rcases Ec hq with ⟨p,e,u,xss,k,row,m1,m2,rfl⟩ | ⟨o,m1,m2,m3⟩
  ·have:=a3 _ m1;rw [beq_iff_eq] at this;exact ⟨this,trivial⟩
  ·have:=a3 _ m1;refine ⟨by simpa using this,?_⟩;rw [m3];by_cases hmt:∃ e p u xss,o=.mat e p u xss
   ·obtain ⟨e,p,u,xss,rfl⟩:=hmt;obtain ⟨e',hp⟩:=Ku hm1 _ _ _ _ _ m1;exact Abj xss fun k hk=>X2 hp k hk
   ·exact cloP_mono (fun i hi=>Gf hi) _ (Ad4 o (b1 _ m1) m2 fun e p u xss h=>hmt ⟨e,p,u,xss,h⟩)
 ·rcases Ec hq with ⟨p,e,u,xss,k,row,m1,m2,rfl⟩ | ⟨o,m1,m2,m3⟩
  ·have:=a4 _ m1;simp only [Ob.isPool,Bool.not_true,Bool.false_and,Bool.or_false,beq_iff_eq] at this;exact ⟨.inl this,.inl trivial⟩
  ·have:=a4 _ m1;simp only [Bool.or_eq_true,Bool.and_eq_true,beq_iff_eq] at this;refine ⟨this.imp id fun h=>Gf (List.contains_iff_mem.1 h.2),?_⟩;by_cases hmt:∃ e p u xss,o=.mat e p u xss
   ·obtain ⟨e,p,u,xss,rfl⟩:=hmt;obtain ⟨e',hp⟩:=Ku hm2 _ _ _ _ _ m1;rw [m3];exact .inl (Ads xss fun k hk=>X2 hp k hk)
   ·rcases Sy hgv _ m1 with hp1 | hin
    ·rw [m3];exact .inl (hp_mono (fun i hi=>Gf hi) _ (Adh o hp1 m2 fun e p u xss h=>hmt ⟨e,p,u,xss,h⟩))
    ·have hb:=b2 _ m1;simp only [Bool.or_eq_true] at hb;rcases hb with hp1 | hg
     ·rw [m3];exact .inl (hp_mono (fun i hi=>Gf hi) _ (Adh o hp1 m2 fun e p u xss h=>hmt ⟨e,p,u,xss,h⟩))
     ·have hG:=Ad8 (E:=(·∈nmL us)) (fun i hi=>Gf hi) o hg;cases o with
      | cells ty cs =>
       obtain ⟨q1,q2⟩:=q;dsimp only [Ob.exp] at m3;subst m3;exact .inr ⟨Fv hin,hG⟩
      | _=>exact hG.elim
 ·rw [Yb,htl];exact h
end
def Dj (j:Oid) (k:Nat) (t:Ty) (xs:List t.D) (q:Oid×Ob):Oid×Ob :=
 (q.1,if q.1=j then (match q.2 with | .cells ty cs=>.cells ty (cs.set k (.tree t xs)) | o=>o) else q.2)
def Ace (l:List (Oid×Ob)):Bool:=D5 l&&(ndB (A6 l)&&ndB (Ba l))
theorem Xs {l:List (Oid×Ob)} (h:Ace l=true):(nmL l).Nodup:=by
 simp only [Ace,Bool.and_eq_true] at h;refine Abo (Cp h.2.1) (Cp h.2.2) fun q hq=>?_
 have h1:=h.1;unfold D5 at h1;rw [List.all_eq_true] at h1;have:=h1 q hq;simp only [Bool.and_eq_true,beq_iff_eq] at this;exact this.1
theorem Iv {j:Oid} {k:Nat} {t:Ty} {xs:List t.D}:∀ (l:List (Oid×Ob)),exL (l.map (Dj j k t xs))=(exL l).map (Dj j k t xs)
 | []=>rfl
 | (p,o) :: r=>by
  have ih:=Iv (j:=j) (k:=k) (t:=t) (xs:=xs) r
  have hs:∀ (p:Oid) (o:Ob),(∀ ty cs,o≠.cells ty cs)->Dj j k t xs (p,o)=(p,o):=fun p o ho=>by
   simp only [Dj];split
   ·cases o with
    | cells ty cs=>exact absurd rfl (ho ty cs)
    | _=>rfl
   ·rfl
  cases o with
  | pool e u xss =>
   rw [List.map_cons,hs p _ (fun _ _ h=>by cases h)];simp only [exL,List.map_append,ih];congr 1;rw [List.map_map];exact (List.map_congr_left fun x _=>(hs _ _ (fun _ _ h=>by cases h)).symm)
  | mat e q u xss =>
   rw [List.map_cons,hs p _ (fun _ _ h=>by cases h)];simp only [exL,List.map_cons,ih];rw [hs p _ (fun _ _ h=>by cases h)]
  | tv e m t' ys =>
   rw [List.map_cons,hs p _ (fun _ _ h=>by cases h)];simp only [exL,List.map_cons,ih];rw [hs p _ (fun _ _ h=>by cases h)]
  | cells ty cs =>
   by_cases hp:p=j
   ·subst hp;simp only [List.map_cons,Dj,if_true,exL];rw [← ih]
   ·simp only [List.map_cons,Dj,if_neg hp,exL];rw [← ih]
  | arr e u ys =>
   rw [List.map_cons,hs p _ (fun _ _ h=>by cases h)];simp only [exL,List.map_cons,ih];rw [hs p _ (fun _ _ h=>by cases h)]
  | map e u ys =>
   rw [List.map_cons,hs p _ (fun _ _ h=>by cases h)];simp only [exL,List.map_cons,ih];rw [hs p _ (fun _ _ h=>by cases h)]
  | vec e sz n cs =>
   rw [List.map_cons,hs p _ (fun _ _ h=>by cases h)];simp only [exL,List.map_cons,ih];rw [hs p _ (fun _ _ h=>by cases h)]
theorem Aav {j:Oid} {k:Nat} {t:Ty} {xs:List t.D} (l:List (Oid×Ob)):nmL (l.map (Dj j k t xs))=nmL l:=by
 unfold nmL;rw [Iv,List.map_map];exact List.map_congr_left fun q _=>rfl
section
variable {σ:Oid->Option Loc} {im:Nat->Prop} {w:World} {θ:Oid->Oid} {t:Ty} {xs:List t.D}
theorem U1 {u:Value}:∀ {cs:List AV} {k:Nat} {vs:List Value},cs[k]? =some (.giv u t xs)->AV.RepL σ im w (AV.renL θ (cs.set k (.tree t xs))) vs->vs[k]? =some u->AV.RepL σ im w (AV.renL θ cs) vs
 | c :: cs,0,_,hk,⟨v,us,e,h1,h2⟩,hu=>by
  obtain rfl:=osj hk;subst e;obtain rfl:=osj hu;exact ⟨v,us,rfl,⟨rfl,h1⟩,h2⟩
 | c :: cs,k+1,_,hk,⟨v,us,e,h1,h2⟩,hu=>by
  subst e;exact ⟨v,us,rfl,h1,U1 (cs:=cs) (k:=k) (by simpa using hk) h2 (by simpa using hu)⟩
theorem Na {u:Value}:∀ {cs:List AV} {k:Nat} {vs:List Value},cs[k]? =some (.giv u t xs)->AV.RepL σ im w cs vs->AV.RepL σ im w (cs.set k (.tree t xs)) vs
 | c :: cs,0,_,hk,⟨v,us,e,h1,h2⟩=>by
  obtain rfl:=osj hk;exact ⟨v,us,e,h1.2,h2⟩
 | c :: cs,k+1,_,hk,⟨v,us,e,h1,h2⟩=>⟨v,us,e,h1,Na (cs:=cs) (k:=k) (by simpa using hk) h2⟩
theorem Vl:∀ {cs:List AV} {k:Nat},AV.renL θ (cs.set k (.tree t xs))=(AV.renL θ cs).set k (.tree t xs)
 | [],_=>rfl
 | _ :: _,0=>rfl
 | c :: cs,k+1=>by simp only [List.set_cons_succ,AV.renL,Vl (cs:=cs) (k:=k)]
theorem Qx {c:AV}:∀ {cs:List AV} {k:Nat},cs[k]? =some c->(AV.renL θ cs)[k]? =some (c.ren θ)
 | _ :: _,0,h=>by obtain rfl:=osj h; rfl
 | _ :: cs,k+1,h=>by simp only [AV.renL,List.getElem?_cons_succ]; exact Qx (cs:=cs) (k:=k) (by simpa using h)
end
theorem Sm:∀ {L:List (Oid×Option Ob)} {a b:Oid->Option Ob} {x:Oid},((∃ u∈L,u.1=x)∨a x=b x)->Ak L a x=Ak L b x
 | [],_,_,_,h=>by
  rcases h with ⟨u,hu,_⟩ | h
  ·cases hu
  ·exact h
 | y :: L,a,b,x,h=>by
  show Ak L (upd a y.1 y.2) x=Ak L (upd b y.1 y.2) x;refine Sm ?_;by_cases e:x=y.1
  ·exact .inr (by subst e; simp [upd])
  ·rcases h with ⟨u,hu,hx⟩ | h
   ·rcases List.mem_cons.1 hu with rfl | hu
    ·exact absurd hx.symm e
    ·exact .inl ⟨u,hu,hx⟩
   ·exact .inr (by simp [upd,e,h])
theorem Xn {a b:Oid->Option Ob} {σ:Oid->Option Loc} (h:∀ x,(∃ o,a x=some o)↔∃ o,b x=some o):imm a σ=imm b σ:=by
 funext c;refine propext ⟨fun H i o cp s hi=>?_,fun H i o cp s hi=>?_⟩
 ·obtain ⟨o',h'⟩:=(h i).2 ⟨o,hi⟩;exact H i o' cp s h'
 ·obtain ⟨o',h'⟩:=(h i).1 ⟨o,hi⟩;exact H i o' cp s h'
theorem Km {P:Program} {G:World->Prop} {F:FuncId} {args:List AV} {v:AV} (ol us:Value->List (Oid×Ob)) {ol' us':List (Oid×Ob)} (j:Oid) (k:Nat) {ty:TypeId} {t:Ty} {xs:List t.D} {cs:Value->List AV} (h:∀ u,Iq P G F args (ol u) v (us u))
  (hj:∀ u,(j,Ob.cells ty (cs u))∈ol u) (hj2:∀ u,(j,Ob.cells ty (cs u))∈us u) (hk:∀ u,(cs u)[k]? =some (.giv u t xs):=by intro _; rfl)
  (h1:∀ u,(ol u).map (Dj j k t xs)=ol':=by intro _; kernel_rfl) (h2:∀ u,(us u).map (Dj j k t xs)=us':=by intro _; kernel_rfl) (hn1:∀ u,Ace (ol u)=true:=by intro _; kernel_rfl) (hn2:∀ u,Ace (us u)=true:=by intro _; kernel_rfl):Iq P G F args ol' v us':=by
 intro θ i w0 ob σ K w vs hM hi hob hinj hloc hargs;have hT:∀ u,Dj j k t xs (j,Ob.cells ty (cs u))=(j,.cells ty ((cs u).set k (.tree t xs))):=fun u=>by simp [Dj]
 have hmem:∀ u,(j,Ob.cells ty ((cs u).set k (.tree t xs)))∈exL ol':=fun u=>by
  refine Fv ?_;rw [← h1 u,← hT u];exact List.mem_map.2 ⟨_,hj u,rfl⟩
 have hnm:∀ u,nmL ol'=nmL (ol u):=fun u=>by rw [← h1 u,Aav]
 have hjn:j∈nmL ol':=List.mem_map.2 ⟨_,hmem (.bool true),rfl⟩;have hobj:∀ u,ob (θ j)=some (.cells ty (AV.renL θ ((cs u).set k (.tree t xs)))):=fun u=>hob _ (hmem u)
 cases hs:σ (θ j) with
 | none=>exact absurd hs (hloc j hjn)
 | some l =>
 have hR:=hM.obs _ _ l (hobj (.bool true)) hs;cases l with
 | nil=>exact hR.elim
 | at_ b cp sz =>
 obtain ⟨vs0,g1,g2,g3⟩:=hR
 obtain ⟨u,hu,_⟩:∃ u,vs0[k]? =some u∧True:=by
  have hlt:k<(cs (.bool true)).length:=(gSi.1 (hk (.bool true))).1;have hg:((cs (.bool true)).set k (.tree t xs))[k]? =some (.tree t xs):=by rw [List.getElem?_set_self hlt]
  obtain ⟨u,hu,_⟩:=g2.get (Qx (θ:=θ) hg);exact ⟨u,hu,trivial⟩
 have hcs:AV.renL θ ((cs (.bool true)).set k (.tree t xs))=AV.renL θ ((cs u).set k (.tree t xs)):=by
  have:=(hobj (.bool true)).symm.trans (hobj u);exact (Ob.cells.inj (osj this)).2
 rw [hcs] at g2;have hRG:=U1 (hk u) g2 hu
 let ob1:Oid->Option Ob:=fun x=>if x=θ j then some (.cells ty (AV.renL θ (cs u))) else ob x
 have hob1j:ob1 (θ j)=some (.cells ty (AV.renL θ (cs u))):=if_pos rfl;have hob1n:∀ x,x≠θ j->ob1 x=ob x:=fun x hx=>if_neg hx
 have hdom:∀ x,(∃ o,ob1 x=some o)↔∃ o,ob x=some o:=fun x=>by
  by_cases e:x=θ j
  ·subst e; exact ⟨fun _=>⟨_,hobj u⟩,fun _=>⟨_,hob1j⟩⟩
  ·rw [hob1n x e]
 have him:imm ob1 σ=imm ob σ:=Xn hdom
 have hM1:Mem0 G w0 ob1 σ K w:=by
  refine ⟨hM.below,hM.inv,hM.gen,hM.lt,hM.cap,fun i1 i2 b c s c' s' o o' e1 e2=>?_,fun x o l ho hl=>?_⟩
  ·obtain ⟨p1,q1⟩:=(hdom i1).1 ⟨o,e1⟩;obtain ⟨p2,q2⟩:=(hdom i2).1 ⟨o',e2⟩;exact hM.inj i1 i2 b c s c' s' _ _ q1 q2
  ·rw [him];by_cases e:x=θ j
   ·subst e;rw [hob1j] at ho;obtain rfl:=osj ho;rw [hs] at hl;obtain rfl:=osj hl;exact ⟨vs0,g1,hRG,g3⟩
   ·rw [hob1n x e] at ho;exact hM.obs x o l ho hl
 have hq:∀ q∈exL (ol u),ob1 (θ q.1)=some (q.2.ren θ):=fun q hq=>by
  have hqn:q.1∈nmL (ol u):=List.mem_map.2 ⟨q,hq,rfl⟩;by_cases e:q.1=j
  ·have hin:=Fv (hj u);have:q=(j,Ob.cells ty (cs u)):=E2 (Xs (hn1 u)) hq hin e;subst this;exact hob1j
  ·have hne:θ q.1≠θ j:=fun e'=>e (hinj _ _ (hnm u▸hqn) hjn e')
   rw [hob1n _ hne];refine hob q ?_;have:Dj j k t xs q=q:=by simp [Dj,e]
   rw [← h1 u,Iv,← this];exact List.mem_map.2 ⟨q,hq,rfl⟩
 have himO:Tz θ (ol u) σ=Tz θ ol' σ:=by
  funext c;refine propext ⟨fun H q hq' cp s=>?_,fun H q hq' cp s=>?_⟩
  ·have:q.1∈nmL (ol u):=hnm u▸List.mem_map.2 ⟨q,hq',rfl⟩;obtain ⟨q2,hq2,e⟩:=List.mem_map.1 this;rw [← e]; exact H q2 hq2 cp s
  ·have:q.1∈nmL ol':=(hnm u).symm▸List.mem_map.2 ⟨q,hq',rfl⟩;obtain ⟨q2,hq2,e⟩:=List.mem_map.1 this;rw [← e]; exact H q2 hq2 cp s
 refine (h u θ i w0 ob1 σ K w vs hM1 hi hq (fun a b ha hb=>hinj a b ((hnm u).symm▸ha) ((hnm u).symm▸hb)) (fun a ha=>hloc a ((hnm u).symm▸ha)) (himO▸hargs)).mono ?_;rintro e w' ⟨uu,he,σ',hL,hM2,hv⟩
 -- the objects behind
 have hkill:∀ x,Ak ((exL (ol u)).map fun q=>(θ q.1,none)) ob1 x=Ak ((exL (ol u)).map fun q=>(θ q.1,none)) ob x:=fun x=>by
  refine Sm ?_;by_cases e:x=θ j
  ·exact .inl ⟨(θ j,none),List.mem_map.2 ⟨_,Fv (hj u),rfl⟩,e.symm⟩
  ·exact .inr (hob1n x e)
 have hnames:((exL ol').map fun q=>(θ q.1,(none:Option Ob)))=(exL (ol u)).map fun q=>(θ q.1,none):=by
  rw [← h1 u,Iv,List.map_map];exact List.map_congr_left fun q _=>rfl
 have hrel:∀ (L:List (Oid×Ob)) (a c:Oid->Option Ob),(∀ q∈L,q∈exL (us u))->(∀ x,c x=a x∨∃ c2,a x=some (.cells ty c2)∧c2[k]? =some (.giv u t xs)∧c x=some (.cells ty (c2.set k (.tree t xs)))) ->
   ∀ x,Ak ((L.map (Dj j k t xs)).map fun q=>(Bf θ i q.1,some (q.2.ren (Bf θ i)))) c x=Ak (L.map fun q=>(Bf θ i q.1,some (q.2.ren (Bf θ i)))) a x ∨
    ∃ c2,Ak (L.map fun q=>(Bf θ i q.1,some (q.2.ren (Bf θ i)))) a x=some (.cells ty c2)∧c2[k]? =some (.giv u t xs)∧Ak ((L.map (Dj j k t xs)).map fun q=>(Bf θ i q.1,some (q.2.ren (Bf θ i)))) c x=some (.cells ty (c2.set k (.tree t xs))):=by
  intro L
  induction L with
  | nil=>exact fun a c _ H=>H
  | cons q L ih =>
   intro a c hL' H;refine ih _ _ (fun q' hq'=>hL' q' (List.mem_cons_of_mem _ hq')) fun x=>?_
   by_cases e:x=Bf θ i q.1
   ·subst e;simp only [upd,Dj,if_true];by_cases ej:q.1=j
    ·have:q=(j,Ob.cells ty (cs u)):=E2 (Xs (hn2 u)) (hL' q List.mem_cons_self) (Fv (hj2 u)) ej;subst this;refine .inr ⟨AV.renL (Bf θ i) (cs u),rfl,Qx (hk u),?_⟩;simp only [if_true,Ob.ren,Vl]
    ·rw [if_neg ej]; exact .inl rfl
   ·have:Bf θ i (Dj j k t xs q).1=Bf θ i q.1:=rfl;simp only [upd];rw [if_neg (by rw [this]; exact e),if_neg e];exact H x
 have hfin:∀ x,Ak (Fo θ i ol' us') ob x=Ak (Fo θ i (ol u) (us u)) ob1 x∨∃ c2,Ak (Fo θ i (ol u) (us u)) ob1 x=some (.cells ty c2)∧c2[k]? =some (.giv u t xs)∧Ak (Fo θ i ol' us') ob x=some (.cells ty (c2.set k (.tree t xs))):=by
  have:=hrel (exL (us u)) (Ak ((exL (ol u)).map fun q=>(θ q.1,none)) ob1) (Ak ((exL ol').map fun q=>(θ q.1,none)) ob) (fun _ hq=>hq) (fun x=>.inl (by rw [hnames,hkill x]));rw [← Iv,h2 u] at this;intro x;have hx:=this x;simp only [Fo,Ak,List.foldl_append] at hx ⊢;exact hx
 generalize hf1:Ak (Fo θ i (ol u) (us u)) ob1=f1 at hL hM2 hv hfin;generalize Ak (Fo θ i ol' us') ob=f2 at hfin ⊢
 have hdom2:∀ x,(∃ o,f2 x=some o)↔∃ o,f1 x=some o:=fun x=>by
  rcases hfin x with e | ⟨c2,e1,_,e2⟩
  ·rw [e]
  ·exact ⟨fun _=>⟨_,e1⟩,fun _=>⟨_,e2⟩⟩
 have him2:imm f2 σ'=imm f1 σ':=Xn hdom2;refine ⟨uu,he,σ',?_,?_,?_⟩
 ·rw [him2,← him]; exact hL
 ·refine ⟨hM2.below,hM2.inv,hM2.gen,hM2.lt,hM2.cap,fun i1 i2 b c s c' s' o o' e1 e2=>?_,fun x o l ho hl=>?_⟩
  ·obtain ⟨p1,q1⟩:=(hdom2 i1).1 ⟨o,e1⟩;obtain ⟨p2,q2⟩:=(hdom2 i2).1 ⟨o',e2⟩;exact hM2.inj i1 i2 b c s c' s' _ _ q1 q2
  ·rw [him2];rcases hfin x with e | ⟨c2,e1,e3,e2⟩
   ·rw [e] at ho;exact hM2.obs x o l ho hl
   ·rw [e2] at ho;obtain rfl:=osj ho;have hr:=hM2.obs x _ l e1 hl;cases l with
    | nil=>exact hr.elim
    | at_ b c s =>
     obtain ⟨vs2,k1,k2,k3⟩:=hr;exact ⟨vs2,k1,Na e3 k2,k3⟩
 ·rw [him2]; exact hv
section
variable {ob:Oid->Option Ob} {n:Nat} {k:Oid} {c:AV} {cs:List AV}
end
theorem Ack {f:Nat->AV} {ob:Oid->Option Ob} {n:Nat} {d:Option Nat} {e:TypeId} {t:Ty} {by_:Nat} {l c:Opd} {k k':IntKind} {m m':Int} {j:Nat} (hl:l.ev f=.int k m) (hc:c.ev f=.int k' m') (h:0<=m∧m<=m'∧m'<=1073741824∧(by_:Int)*m'<=140737488355328) (hj:m.toNat=j) :
  Bh n ⟨d,none,.make e t by_ l c⟩ f ob=some (1,.own ((d.getD 0,0),n) t 0 (List.replicate j t.dflt).length,[(((d.getD 0,0),n),some (.arr e t (List.replicate j t.dflt)))]):=by
 rw [List.length_replicate];exact Tj hl hc h hj
end
section
open Go.RowKit Go.Deep
set_option maxRecDepth 4000
def F9:AC :=
 (.seq (rg [xo 2 (qm (cb false))])
 (.seq (rg [xm 3 0,xo 4 (qc 42 [tm 3,ci 3,ci 14] [[],[],[]]),xm 2 4])
 .ret))
def Kr:List Res:=[.tmp 2]
theorem Kx:Ap Tryd.prog Tryd.f66=some (F9,Kr):=by kernel_rfl
def C9 (a0:Int):Option Bool :=
 (B8 a0 3 14).bind fun y3 =>
some y3
def Ju (r:Bool):RV:=⟨false,[(false,[.sc (.bool r)])]⟩
theorem Jw {a0:Int} {r:Bool} (h:C9 a0=some r):Ay Tryd.prog Tab 66 [ai a0] (Ju r):=by
 refine A0 (by kernel_rfl) Tryd.func66 Kx (n:=5) (by kernel_rfl) (by simp) rfl ?_;unfold F9;unfold C9 at h;refine Am (Ab ?_);obtain ⟨y3,h3,h⟩:=Ag h;refine Aa 5 (rsT 1 (zc (.bool y3) [] [ai a0,ai 3,ai 14] (Eo h3) (rsT 1 (As (tn_ (wr_ (Ai ?_)))))));obtain rfl:=zj h;exact A7 [.bool y3] (At rfl zl Ax)
def Ib:AC :=
 (.seq (rg [xo 2 (qm (cb false))])
 (.seq (rg [xm 3 0,xo 4 (qb .eql (tm 3) (ci 7)),xm 5 4,⟨some 6,some (5,false),qm (tm 0)⟩,⟨some 7,some (5,false),qb .eql (tm 6) (ci 13)⟩,xo 8 (.i (.pick (tm 5) (cb true) (tm 7))),xm 2 8])
 .ret))
def Nn:List Res:=[.tmp 2]
theorem Nm:Ap Tryd.prog Tryd.f71=some (Ib,Nn):=by kernel_rfl
def B4 (a0:Int):Option Bool :=
 (cond (a0==7)
  (some true)
  (some (a0==13))).bind fun u0 =>
some u0
def Me (r:Bool):RV:=⟨false,[(false,[.sc (.bool r)])]⟩
theorem Hs {a0:Int} {r:Bool} (h:B4 a0=some r):Ay Tryd.prog Tab 71 [ai a0] (Me r):=by
 refine A0 (by kernel_rfl) Tryd.func71 Nm (n:=9) (by kernel_rfl) (by simp) rfl ?_;unfold Ib;unfold B4 at h;refine Am (A3 h (fun (u0:Bool) S_=>S_=⟨Al [(2,.bool u0)],Ah (Aq []),2⟩) ?_ ?_)
 ·intro v_ h;refine Aa 9 (rsT 3 ?_);rcases Ad h with ⟨q3,h⟩ | ⟨q3,h⟩
  ·refine rq 5 q3 (rsT 4 (As (tn_ ?_)));obtain rfl:=zj h;exact ⟨_,Ac [],rfl⟩
  refine rq 5 q3 (rsT 4 (As (tn_ ?_)));obtain rfl:=zj h;exact ⟨_,Ac [],rfl⟩
 rintro u0 _ rfl h
 (try dsimp only at h);refine Ai ?_;obtain rfl:=zj h;exact A7 [.bool u0] (At rfl zl Ax)
def El:AC :=
 (.seq (rg [xo 4 (qm (cb false))])
 (.seq (.seq (rg [xm 5 0,xo 6 (qc 71 [tm 5] [[]])])
 (.cond (tm 6)
  (.seq (rg [xm 7 1,xo 8 (qc 42 [tm 7,ci 0,ci 96] [[],[],[]]),xm 4 8])
  .ret)
  .skip))
 (.seq (rg [xm 9 1,xo 10 (qb .eql (tm 9) (ci 0)),xm 4 10])
 .ret)))
def Hl:List Res:=[.tmp 4]
theorem Hk:Ap Tryd.prog Tryd.f67=some (El,Hl):=by kernel_rfl
theorem Gz:Bu Tryd.prog 67=true:=by kernel_rfl
def B1 (a0 a1:Int):Option Bool :=
 (B4 a0).bind fun y4 =>
cond y4
 ((B8 a1 0 96).bind fun y7 =>
 some y7)
 (some (a1==0))
def G5 (r:Bool):RV:=⟨false,[(false,[.sc (.bool r)])]⟩
theorem G2 {a0 a1:Int} {r:Bool} (h:B1 a0 a1=some r):Ay Tryd.prog Tab 67 [ai a0,ai a1] (G5 r):=by
 refine A0 (by kernel_rfl) Tryd.func67 Hk (n:=11) (by kernel_rfl) (by simp) rfl ?_;unfold El;unfold B1 at h;refine Am (Ab (Ab ?_));obtain ⟨y4,h4,h⟩:=Ag h;refine Aa 4 (rsT 1 (zc (.bool y4) [] [ai a0] (Hs h4) (As (tn_ (wr_ ?_)))));rcases Ad h with ⟨q5,h⟩ | ⟨q5,h⟩
 ·refine Af q5 (Ab ?_);obtain ⟨y7,h7,h⟩:=Ag h;refine Aa 7 (rsT 1 (zc (.bool y7) [] [ai a1,ai 0,ai 96] (Eo h7) (rsT 1 (As (tn_ (wr_ (Ai (tr_ ?_))))))));obtain rfl:=zj h;exact A7 [.bool y7] (At rfl zl Ax)
 refine Ae q5 (Aj (tn_ (wr_ (Am (Ai ?_)))));obtain rfl:=zj h;exact A7 [.bool (a1==0)] (At rfl zl Ax)
def F1:AC :=
 (.seq (rg [xo 1 (.i (.box 66 (tm 0))),xo 2 (qm (cb false))])
 (.seq (.seq (rg [xf 3 0 1,xl 4 3,xo 5 (qc 66 [tm 4] [[]]),xo 6 (.i (.not (tm 5))),xm 7 6,⟨some 8,some (7,false),qf 0 (tm 1)⟩,⟨some 9,some (7,false),ql (tm 8)⟩,⟨some 10,some (7,false),qf 1 (tm 1)⟩,⟨some 11,some (7,false),ql (tm 10)⟩,⟨some 12,some (7,false),qc 67 [tm 9,tm 11] [[],[]]⟩,⟨some 13,some (7,false),.i (.not (tm 12))⟩,xo 14 (.i (.pick (tm 7) (cb true) (tm 13)))])
 (.cond (tm 14)
  (.seq (rg [xo 2 (qm (cb false))])
  .ret)
  .skip))
 (.seq (.region [xf 15 0 1,xl 16 15,xo 17 (qc 68 [tm 16] [[]]),xf 18 2 1,xl 19 18,xn1 20 19,xf 21 3 1,xl 22 21,xn1 23 22,xo 24 (.build [.int .i64 0,.int .i64 0] [(0,1,tm 20),(1,1,tm 23)]),xo 25 (.i (.cmp false 5 (tm 17) (tm 24))),xm 2 25] true [(2,4),(2,7)])
 .ret)))
def Kn:List Res:=[.tmp 2]
theorem Kw:Ap Tryd.prog Tryd.f43=some (F1,Kn):=by kernel_rfl
def Cm (u0 u1:Int) (u2 u3:List Int):Option Bool :=
 ((C9 u0).bind fun y4 =>
 cond (!y4)
  (some true)
  ((B1 u0 u1).bind fun y6 =>
  some (!y6))).bind fun u4 =>
cond u4
 (some false)
 ((Df u0).bind fun y10 =>
 some ([y10.1,y10.2]==[(u2.length:Int),(u3.length:Int)]))
def Jy (r:Bool):RV:=⟨false,[(false,[.sc (.bool r)])]⟩
theorem Jv {u2 u3:Int} {u0 u1:List Int} {r:Bool} (h:Cm u2 u3 u0 u1=some r):Ay Tryd.prog Tab 43 [.agg [ai u2,ai u3,tI u0,tI u1]] (Jy r):=by
 refine A0 (by kernel_rfl) Tryd.func43 Kw (n:=26) (by kernel_rfl) (by simp) rfl ?_;unfold F1;unfold Cm at h;refine Am (Ab (A3 h (fun (u4:Bool) S_=>S_=⟨Al [(1,.box (oi 0 1) 0),(14,.bool u4)],Ah (Aq [(oi 0 1,.cells 66 [ai u2,ai u3,tI u0,tI u1])]),2⟩) ?_ ?_))
 ·intro v_ h;obtain ⟨y4,h4,h⟩:=Ag h;refine Aa 15 (rsT 2 (zc (.bool y4) [] [ai u2] (Jw h4) (rsT 2 ?_)));rcases Ad h with ⟨q5,h⟩ | ⟨q5,h⟩
  ·refine rq 7 q5 (rsT 7 (As (tn_ ?_)));obtain rfl:=zj h;exact ⟨_,Ac [(oi 0 1,oi 1 1)],rfl⟩
  obtain ⟨y6,h6,h⟩:=Ag h;refine rq 7 q5 (rsT 4 (Ii (.bool y6) [] [ai u2,ai u3] _ (caps:=[]) (args0:=[ai u2,ai u3]) (K2 (by kernel_rfl)) (by kernel_rfl) (G2 h6) Gz (rsT 2 (As (tn_ ?_)))));obtain rfl:=zj h;exact ⟨_,Ac [(oi 0 1,oi 1 1)],rfl⟩
 rintro u4 _ rfl h
 (try dsimp only at h);rcases Ad h with ⟨q7,h⟩ | ⟨q7,h⟩
 ·refine Af q7 (Am (Ai (tr_ ?_)));obtain rfl:=zj h;exact A7 [.bool false] (At rfl zl Ax)
 refine Ae q7 (Aj (tn_ (wr_ (Ab ?_))));obtain ⟨y10,h10,h⟩:=Ag h;refine Be 14 (dz0 (.box (oi 0 1) 0) (dzl (ai u2) (dzc (.agg [ai y10.1,ai y10.2]) [] [ai u2] (H6 h10) (dz0 (.box (oi 0 1) 2) (dzl (tI u0) (dz0 (an u0.length) (dz0 (.box (oi 0 1) 3) (dzl (tI u1) (dz0 (an u1.length) (dz0 (.agg [an u0.length,an u1.length]) (dz0 (.bool ([y10.1,y10.2]==[(u0.length:Int),(u1.length:Int)])) (dz0 (.bool ([y10.1,y10.2]==[(u0.length:Int),(u1.length:Int)])) (N9 (Cf (by kernel_rfl)) (tn_ (wr_ (Ai ?_))))))))))))))));obtain rfl:=zj h;exact A7 [.bool ([y10.1,y10.2]==[(u0.length:Int),(u1.length:Int)])] (At rfl zl Ax)
def D2:AC :=
 (.seq (rg [xs1 11 10 9])
 (.seq (.cond (tm 11)
  .skip
  (.exit 0))
 (.seq (.block 1 (.seq (rg [xx 12 1 8 10,xl 13 12,xm 7 13])
 (.seq (.seq (rg [xm 14 7,xf 15 0 1,xl 16 15,xo 17 (qb .sub (tm 16) (ci 1)),xo 18 (qc 42 [tm 14,ci 0,tm 17] [[],[],[]]),xo 19 (.i (.not (tm 18)))])
 (.cond (tm 19)
  (.seq (rg [xn (qs (tm 2) (cb false))])
  (.exit 1))
  .skip))
 (.seq (rg [xl 20 3,xm 21 7,xx 22 1 20 21,xl 23 22,xo 24 (.i (.not (tm 23)))])
 (.cond (tm 24)
  (.seq (rg [xl 25 3,xm 26 7,xx 27 1 25 26,xn (qs (tm 27) (cb true))])
  (rg [xl 28 4,xa 29 28,xn (qs (tm 4) (tm 29))]))
  .skip)))))
 (rg [xa 30 10,xm 10 30]))))
def Ew:AC :=
 (.seq (rg [xm 8 0,xn1 9 8,xo 10 (qm (ci 0))])
 (.block 0 (.loop D2)))
def H4:List Res:=[]
theorem H5:Ap Tryd.prog Tryd.f45=some (Ew,H4):=by kernel_rfl
theorem B3:Bu Tryd.prog 45=true:=by kernel_rfl
def Bq (a0:List Int) (u3:Int) (u0:Nat) (u2:Bool) (u1:Int) (l3_p3:List Bool):Option (Ctl (Nat×Bool×Int×List Bool) (Bool×List Bool×Int)) :=
 cond (decide ((u0:Int)<(a0.length:Int)))
 (((a0[u0]?).bind fun x9 =>
  (B8 x9 0 (wI (u3 - 1))).bind fun y12 =>
  cond (!y12)
   (some (false,u1,l3_p3))
   ((J0 l3_p3 x9).bind fun x16 =>
   cond (!x16)
    (some (u2,wI (u1+1),l3_p3.set x9.toNat true))
    (some (u2,u1,l3_p3)))).bind fun (u4,u5,l7_p3) =>
 og (u0+1<4611686018427387904) <|
 some (Ctl.next (u0+1,u4,u5,l7_p3)))
 (some (Ctl.out (u2,l3_p3,u1)))
def A4 (a0:List Int) (u0:Int) (u4:List (Int×Int×(List Int)×List Int)) (u5 u6:List Int) (u1:Bool) (u2:List Bool) (u3:Int):Option (Bool×List Bool×Int) :=
 A9 (fun s_:Nat×Bool×Int×List Bool=>Bq a0 u0 s_.1 s_.2.1 s_.2.2.1 s_.2.2.2) 4611686018427387904 (0,u1,u3,u2)
theorem Bv {u_c0_1:Value} {u_c0_2:Value} {u_c0_3:Value} {a0:List Int} {u0:Int} {u3:List (Int×Int×(List Int)×List Int)} {u4 u5:List Int} {ua:Bool} {u9:List Bool} {ub:Int} {r:Bool×List Bool×Int} (h:A4 a0 u0 u3 u4 u5 ua u9 ub=some r):Iq Tryd.prog Tab 45 [tI a0,.box (oi 0 0) 0,.box (oi 1 0) 0,.box (oi 2 0) 0,.box (oi 4 0) 0] [(oi 0 0,.cells 31 [ai u0,.giv u_c0_1 (.pair .int (.pair .int (.pair sI sI))) u3,.giv u_c0_2 .int u4,.giv u_c0_3 .int u5]),(oi 1 0,.cells 4 [.bool ua]),(oi 2 0,.cells 76 [.own (oi 3 0) .bool 0 u9.length]),(oi 3 0,.arr 4 .bool u9),(oi 4 0,.cells 3 [ai ub])] (.tup []) [(oi 0 0,.cells 31 [ai u0,.giv u_c0_1 (.pair .int (.pair .int (.pair sI sI))) u3,.giv u_c0_2 .int u4,.giv u_c0_3 .int u5]),(oi 1 0,.cells 4 [.bool r.1]),(oi 2 0,.cells 76 [.own (oi 3 0) .bool 0 r.2.1.length]),(oi 3 0,.arr 4 .bool r.2.1),(oi 4 0,.cells 3 [ai r.2.2])]:=by
 refine Po (by kernel_rfl) Tryd.func45 H5 (n:=31) (by kernel_rfl) (by simp) (tl:=[(0,tI a0),(1,.box (oi 0 0) 0),(2,.box (oi 1 0) 0),(3,.box (oi 2 0) 0),(4,.box (oi 4 0) 0)]) rfl (by kernel_rfl) ⟨trivial,⟨trivial,⟨trivial,⟨trivial,⟨trivial,trivial⟩⟩⟩⟩⟩ ⟨trivial,⟨trivial,⟨trivial,⟨trivial,⟨trivial,trivial⟩⟩⟩⟩⟩ ⟨.inr (.head _),⟨.inl (by kernel_rfl),⟨.inl (by kernel_rfl),⟨.inl (by kernel_rfl),⟨.inl (by kernel_rfl),trivial⟩⟩⟩⟩⟩ ?_;unfold Ew;unfold A4 at h;refine Am (An (Bb h (fun t_ S_=>∃ (u1:Nat),∃ (u6:Bool),∃ (u2:Int),∃ (l3_p3:List Bool),t_=(u1,u6,u2,l3_p3)∧S_=⟨Al [(1,.box (oi 0 0) 0),(2,.box (oi 1 0) 0),(3,.box (oi 2 0) 0),(4,.box (oi 4 0) 0),(8,tI a0),(9,an a0.length),(10,an u1)],Ah (Aq [(oi 0 0,.cells 31 [ai u0,.giv u_c0_1 (.pair .int (.pair .int (.pair sI sI))) u3,.giv u_c0_2 .int u4,.giv u_c0_3 .int u5]),(oi 1 0,.cells 4 [.bool u6]),(oi 2 0,.cells 76 [.own (oi 3 0) .bool 0 l3_p3.length]),(oi 4 0,.cells 3 [ai u2]),(oi 3 0,.arr 4 .bool l3_p3)]),2⟩) ⟨_,Ac [],⟨0,ua,ub,u9,rfl,rfl⟩⟩ ?_));rintro n_ _ _ c_ ⟨u1,u6,u2,l3_p3,rfl,rfl⟩ h hn3
 (try dsimp only at h);unfold Bq at h;unfold D2;refine Am (Ab ?_);rcases Ad h with ⟨q6,h⟩ | ⟨q6,h⟩
 ·have q6_:=of_decide_eq_true q6;refine Af q6 (Aj (tn_ (wr_ (A3 h (fun t_ S_=>∃ (u7:Bool),∃ (u8:Int),∃ (l7_p3:List Bool),t_=(u7,u8,l7_p3)∧S_=⟨Al [(1,.box (oi 0 0) 0),(2,.box (oi 1 0) 0),(3,.box (oi 2 0) 0),(4,.box (oi 4 0) 0),(8,tI a0),(9,an a0.length),(10,an u1)],Ah (Aq [(oi 0 0,.cells 31 [ai u0,.giv u_c0_1 (.pair .int (.pair .int (.pair sI sI))) u3,.giv u_c0_2 .int u4,.giv u_c0_3 .int u5]),(oi 1 0,.cells 4 [.bool u7]),(oi 2 0,.cells 76 [.own (oi 3 0) .bool 0 l7_p3.length]),(oi 4 0,.cells 3 [ai u8]),(oi 3 0,.arr 4 .bool l7_p3)]),2⟩) ?_ ?_))))
  ·intro v_ h;refine An (Ab ?_);obtain ⟨x9,e9,h⟩:=Ag h;refine Aa 6 (zI .int e9 (rsT 2 (As (tn_ (wr_ (Ab (Ab ?_)))))));obtain ⟨y12,h12,h⟩:=Ag h;refine Aa 12 (rsT 4 (zc (.bool y12) [] [ai x9,ai 0,ai (wI (u0 - 1))] (Eo h12) (rsT 1 (As (tn_ (wr_ ?_))))));rcases Ad h with ⟨q13,h⟩ | ⟨q13,h⟩
   ·refine Af q13 (Am (A8 (te_ (be_ (tn_ ?_)))));obtain rfl:=zj h;exact ⟨_,Ac [],⟨false,u2,l3_p3,rfl,rfl⟩⟩
   refine Ae q13 (Aj (tn_ (wr_ (Ab ?_))));obtain ⟨x16,f16,h⟩:=Ag h;obtain ⟨p16,b16,e16⟩:=Em f16;refine Aa 17 (rsT 2 (rs0 (.elt (oi 3 0) x9.toNat 0) (zo (t:=.bool) (o:=oi 3 0) (len:=l3_p3.length) (k:=.i64) (m:=x9) p16 (Bj e16)) (rsl (.bool x16) (Vv (i:=oi 3 0) (j:=x9.toNat) (k:=0) (e:=4) (t:=.bool) (xs:=l3_p3) (by kernel_rfl) (by kernel_rfl) e16 (by kernel_rfl)) (rsT 1 (As (tn_ (wr_ ?_)))))));rcases Ad h with ⟨q17,h⟩ | ⟨q17,h⟩
   ·refine Af q17 (Ab (Aa 21 (rsT 2 (rs0 (.elt (oi 3 0) x9.toNat 0) (zo (t:=.bool) (o:=oi 3 0) (len:=l3_p3.length) (k:=.i64) (m:=x9) p16 (Bj e16)) (Ad6 (oi 3 0) (oi 3 0) (.arr 4 .bool (l3_p3.set x9.toNat true)) (Adg (i:=oi 3 0) (j:=x9.toNat) (k:=0) (e:=4) (t:=.bool) (xs:=l3_p3) (cs:=[.bool true]) (x1:=true) (by kernel_rfl) (by kernel_rfl) e16 (by kernel_rfl) (by kernel_rfl)) (As (tn_ (wr_ (Aa 24 (rsB 3 (As (bn_ (tn_ ?_)))))))))))));obtain rfl:=zj h;exact ⟨_,(Abw (oi 2 0) (.cells 76 [.own (oi 3 0) .bool 0 l3_p3.length]) (.cells 76 [.own (oi 3 0) .bool 0 ((l3_p3.set x9.toNat true).length)]) (by kernel_rfl) (congrArg (fun z_=>(.cells 76 [.own (oi 3 0) .bool 0 z_]:Ob)) (((rfl:l3_p3.length=l3_p3.length).trans List.length_set.symm):l3_p3.length=(l3_p3.set x9.toNat true).length))).trans (Ac []),⟨u6,wI (u2+1),l3_p3.set x9.toNat true,rfl,rfl⟩⟩
   refine Ae q17 (Aj (bn_ (tn_ ?_)));obtain rfl:=zj h;exact ⟨_,Ac [],⟨u6,u2,l3_p3,rfl,rfl⟩⟩
  rintro _ _ ⟨u7,u8,l7_p3,rfl,rfl⟩ h
  (try dsimp only at h);obtain ⟨g19,h⟩:=Au h;refine Aa 4 (zA g19 (rsT 1 (As (tn_ ?_))));obtain rfl:=zj h;exact ⟨(u1+1,u7,u8,l7_p3),_,Ac [],⟨u1+1,u7,u8,l7_p3,rfl,rfl⟩,hn3⟩
 have q6_:=of_decide_eq_false q6;refine Ae q6 (A8 (te_ (te_ (be_ ?_))));obtain rfl:=zj h;have h:=hn3
 (try dsimp only at h);obtain rfl:=zj h;exact Ada [] (Ac (tl:=[]) (g:=2) [])
def Ey:AC :=
 (.seq (rg [xs1 18 17 16])
 (.seq (.cond (tm 18)
  .skip
  (.exit 0))
 (.seq (.block 1 (.seq (rg [xx 19 4 15 17,xo 20 (.i (.ld false 4 (tm 19))),xo 5 (.i (.alloc 66 [.int .i64 0,.int .i64 0,.nils,.nils])),xn (.st false 4 (tm 5) (tm 20))])
 (.seq (rg [xm 21 1,xf 22 2 5,xl 23 22,xo 24 (.call (tm 21) [tm 23] [[some .int]])])
 (rg [xm 25 1,xf 26 3 5,xl 27 26,xo 28 (.call (tm 25) [tm 27] [[some .int]])]))))
 (rg [xa 29 17,xm 17 29]))))
def Gb:AC :=
 (.seq (rg [xo 2 (.i (.box 31 (tm 0)))])
 (.seq (rg [xm 6 1,xf 7 2 2,xl 8 7,xo 9 (.call (tm 6) [tm 8] [[some .int]])])
 (.seq (rg [xm 10 1,xf 11 3 2,xl 12 11,xo 13 (.call (tm 10) [tm 12] [[some .int]])])
 (.seq (rg [xf 14 1 2,xl 15 14,xn1 16 15,xo 17 (qm (ci 0))])
 (.block 0 (.loop Ey))))))
def Kp:List Res:=[]
theorem K6:Ap Tryd.prog Tryd.f44=some (Gb,Kp):=by kernel_rfl
theorem Jt:Bu Tryd.prog 44=true:=by kernel_rfl
def Az (u1:List (Int×Int×(List Int)×List Int)) (u2:Int) (u3:List (Int×Int×(List Int)×List Int)) (u4 u5:List Int) (u0:Nat) (u6:Bool) (u7:Int) (l8_p3:List Bool):Option (Ctl (Nat×Bool×Int×List Bool) (Bool×List Bool×Int)) :=
 cond (decide ((u0:Int)<(u1.length:Int)))
 ((u1[u0]?).bind fun x14 =>
 (A4 x14.2.2.1 u2 u3 u4 u5 u6 l8_p3 u7).bind fun y16 =>
 (A4 x14.2.2.2 u2 u3 u4 u5 y16.1 y16.2.1 y16.2.2).bind fun y17 =>
 og (u0+1<4611686018427387904) <|
 some (Ctl.next (u0+1,y17.1,y17.2.2,y17.2.1)))
 (some (Ctl.out (u6,l8_p3,u7)))
def Ar (ua:Int) (u4:List (Int×Int×(List Int)×List Int)) (u5 u6:List Int) (u0:Int) (u1:List (Int×Int×(List Int)×List Int)) (u2 u3:List Int) (u7:Bool) (u8:List Bool) (u9:Int):Option (Bool×List Bool×Int) :=
 (A4 u5 u0 u1 u2 u3 u7 u8 u9).bind fun y4 =>
(A4 u6 u0 u1 u2 u3 y4.1 y4.2.1 y4.2.2).bind fun y6 =>
A9 (fun s_:Nat×Bool×Int×List Bool=>Az u4 u0 u1 u2 u3 s_.1 s_.2.1 s_.2.2.1 s_.2.2.2) 4611686018427387904 (0,y6.1,y6.2.2,y6.2.1)
theorem Cz {u_a1_0_1:Value} {u_a1_0_2:Value} {u_a1_0_3:Value} {u9:Int} {u4:List (Int×Int×(List Int)×List Int)} {u6 u7:List Int} {u0:Int} {u1:List (Int×Int×(List Int)×List Int)} {u2 u3:List Int} {uc:Bool} {u8:List Bool} {ud:Int} {r:Bool×List Bool×Int} (h:Ar u9 u4 u6 u7 u0 u1 u2 u3 uc u8 ud=some r):Iq Tryd.prog Tab 44 [.agg [ai u9,.tree (.pair .int (.pair .int (.pair sI sI))) u4,tI u6,tI u7],.fn 45 [.box (oi 0 0) 0,.box (oi 1 0) 0,.box (oi 2 0) 0,.box (oi 4 0) 0]] [(oi 0 0,.cells 31 [ai u0,.giv u_a1_0_1 (.pair .int (.pair .int (.pair sI sI))) u1,.giv u_a1_0_2 .int u2,.giv u_a1_0_3 .int u3]),(oi 1 0,.cells 4 [.bool uc]),(oi 2 0,.cells 76 [.own (oi 3 0) .bool 0 u8.length]),(oi 3 0,.arr 4 .bool u8),(oi 4 0,.cells 3 [ai ud])] (.tup []) [(oi 0 0,.cells 31 [ai u0,.giv u_a1_0_1 (.pair .int (.pair .int (.pair sI sI))) u1,.giv u_a1_0_2 .int u2,.giv u_a1_0_3 .int u3]),(oi 1 0,.cells 4 [.bool r.1]),(oi 2 0,.cells 76 [.own (oi 3 0) .bool 0 r.2.1.length]),(oi 3 0,.arr 4 .bool r.2.1),(oi 4 0,.cells 3 [ai r.2.2])]:=by
 refine Po (by kernel_rfl) Tryd.func44 K6 (n:=30) (by kernel_rfl) (by simp) (tl:=[(0,.agg [ai u9,.tree (.pair .int (.pair .int (.pair sI sI))) u4,tI u6,tI u7]),(1,.fn 45 [.box (oi 0 0) 0,.box (oi 1 0) 0,.box (oi 2 0) 0,.box (oi 4 0) 0])]) rfl (by kernel_rfl) ⟨trivial,⟨trivial,⟨trivial,⟨trivial,⟨trivial,trivial⟩⟩⟩⟩⟩ ⟨trivial,⟨trivial,⟨trivial,⟨trivial,⟨trivial,trivial⟩⟩⟩⟩⟩ ⟨.inr (.head _),⟨.inl (by kernel_rfl),⟨.inl (by kernel_rfl),⟨.inl (by kernel_rfl),⟨.inl (by kernel_rfl),trivial⟩⟩⟩⟩⟩ ?_;unfold Gb;unfold Ar at h;refine Am (Ab ?_);obtain ⟨y4,h4,h⟩:=Ag h;refine Aa 6 (rsT 3 (Qn (.tup []) [(oi 0 0,some (.cells 31 [ai u0,.giv u_a1_0_1 (.pair .int (.pair .int (.pair sI sI))) u1,.giv u_a1_0_2 .int u2,.giv u_a1_0_3 .int u3])),(oi 1 0,some (.cells 4 [.bool y4.1])),(oi 2 0,some (.cells 76 [.own (oi 3 0) .bool 0 y4.2.1.length])),(oi 3 0,some (.arr 4 .bool y4.2.1)),(oi 4 0,some (.cells 3 [ai y4.2.2])),(oi 0 0,none),(oi 1 0,none),(oi 2 0,none),(oi 3 0,none),(oi 4 0,none)] [] [tI u6,.box (oi 0 0) 0,.box (oi 1 0) 0,.box (oi 2 0) 0,.box (oi 4 0) 0] (caps:=[.box (oi 0 0) 0,.box (oi 1 0) 0,.box (oi 2 0) 0,.box (oi 4 0) 0]) trivial (Bv (u_c0_1:=u_a1_0_1) (u_c0_2:=u_a1_0_2) (u_c0_3:=u_a1_0_3) h4) B3 ⟨by kernel_rfl,⟨by kernel_rfl,⟨by kernel_rfl,⟨by kernel_rfl,⟨by kernel_rfl,trivial⟩⟩⟩⟩⟩ (.cons (.ren (by kernel_rfl)) (.cons (.ren (by kernel_rfl)) (.cons (.ren (by kernel_rfl)) (.cons (.ren (by kernel_rfl)) (.cons (.ren (by kernel_rfl)) .nil))))) (E3 (by kernel_rfl) (by kernel_rfl) ⟨B5 (by kernel_rfl),⟨B5 (by kernel_rfl),⟨B5 (by kernel_rfl),⟨I8 (k:=oi 2 0) (ty:=76) (cs:=[.own (oi 3 0) .bool 0 u8.length]) (B5 (by kernel_rfl)) (by kernel_rfl) (by kernel_rfl),⟨B5 (by kernel_rfl),trivial⟩⟩⟩⟩⟩) (As (tn_ (wr_ (Ab ?_))))));obtain ⟨y6,h6,h⟩:=Ag h;refine Aa 10 (rsT 3 (Qn (.tup []) [(oi 0 0,some (.cells 31 [ai u0,.giv u_a1_0_1 (.pair .int (.pair .int (.pair sI sI))) u1,.giv u_a1_0_2 .int u2,.giv u_a1_0_3 .int u3])),(oi 1 0,some (.cells 4 [.bool y6.1])),(oi 2 0,some (.cells 76 [.own (oi 3 0) .bool 0 y6.2.1.length])),(oi 3 0,some (.arr 4 .bool y6.2.1)),(oi 4 0,some (.cells 3 [ai y6.2.2])),(oi 0 0,none),(oi 1 0,none),(oi 2 0,none),(oi 3 0,none),(oi 4 0,none)] [] [tI u7,.box (oi 0 0) 0,.box (oi 1 0) 0,.box (oi 2 0) 0,.box (oi 4 0) 0] (caps:=[.box (oi 0 0) 0,.box (oi 1 0) 0,.box (oi 2 0) 0,.box (oi 4 0) 0]) trivial (Bv (u_c0_1:=u_a1_0_1) (u_c0_2:=u_a1_0_2) (u_c0_3:=u_a1_0_3) h6) B3 ⟨by kernel_rfl,⟨by kernel_rfl,⟨by kernel_rfl,⟨by kernel_rfl,⟨by kernel_rfl,trivial⟩⟩⟩⟩⟩ (.cons (.ren (by kernel_rfl)) (.cons (.ren (by kernel_rfl)) (.cons (.ren (by kernel_rfl)) (.cons (.ren (by kernel_rfl)) (.cons (.ren (by kernel_rfl)) .nil))))) (E3 (by kernel_rfl) (by kernel_rfl) ⟨B5 (by kernel_rfl),⟨B5 (by kernel_rfl),⟨B5 (by kernel_rfl),⟨I8 (k:=oi 2 0) (ty:=76) (cs:=[.own (oi 3 0) .bool 0 y4.2.1.length]) (B5 (by kernel_rfl)) (by kernel_rfl) (by kernel_rfl),⟨B5 (by kernel_rfl),trivial⟩⟩⟩⟩⟩) (As (tn_ (wr_ (Am (An (Bb h (fun t_ S_=>∃ (u5:Nat),∃ (ua:Bool),∃ (ub:Int),∃ (l8_p3:List Bool),t_=(u5,ua,ub,l8_p3)∧S_=⟨Al [(1,.fn 45 [.box (oi 0 0) 0,.box (oi 1 0) 0,.box (oi 2 0) 0,.box (oi 4 0) 0]),(15,.tree (.pair .int (.pair .int (.pair sI sI))) u4),(16,an u4.length),(17,an u5)],Ah (Aq [(oi 0 0,.cells 31 [ai u0,.giv u_a1_0_1 (.pair .int (.pair .int (.pair sI sI))) u1,.giv u_a1_0_2 .int u2,.giv u_a1_0_3 .int u3]),(oi 1 0,.cells 4 [.bool ua]),(oi 2 0,.cells 76 [.own (oi 3 0) .bool 0 l8_p3.length]),(oi 4 0,.cells 3 [ai ub]),(oi 3 0,.arr 4 .bool l8_p3)]),2⟩) ⟨_,Ac [],⟨0,y6.1,y6.2.2,y6.2.1,rfl,rfl⟩⟩ ?_))))))));rintro n_ _ _ c_ ⟨u5,ua,ub,l8_p3,rfl,rfl⟩ h hn8
 (try dsimp only at h);unfold Az at h;unfold Ey;refine Am (Ab ?_);rcases Ad h with ⟨q11,h⟩ | ⟨q11,h⟩
 ·have q11_:=of_decide_eq_true q11;refine Af q11 (Aj (tn_ (wr_ (Ab (An (Ab ?_))))));obtain ⟨x14,e14,h⟩:=Ag h;refine Aa 7 (rs0 (.telt none (.pair .int (.pair .int (.pair sI sI))) x14 0) (zi (t:=.pair .int (.pair .int (.pair sI sI))) (xs:=u4) (k:=.i64) (m:=(u5:Int)) (F3 _) e14) (rsB 3 (As (tn_ (wr_ (Ab ?_))))));obtain ⟨y16,h16,h⟩:=Ag h;refine Aa 11 (rsT 3 (Qn (.tup []) [(oi 0 0,some (.cells 31 [ai u0,.giv u_a1_0_1 (.pair .int (.pair .int (.pair sI sI))) u1,.giv u_a1_0_2 .int u2,.giv u_a1_0_3 .int u3])),(oi 1 0,some (.cells 4 [.bool y16.1])),(oi 2 0,some (.cells 76 [.own (oi 3 0) .bool 0 y16.2.1.length])),(oi 3 0,some (.arr 4 .bool y16.2.1)),(oi 4 0,some (.cells 3 [ai y16.2.2])),(oi 0 0,none),(oi 1 0,none),(oi 2 0,none),(oi 3 0,none),(oi 4 0,none)] [] [tI x14.2.2.1,.box (oi 0 0) 0,.box (oi 1 0) 0,.box (oi 2 0) 0,.box (oi 4 0) 0] (caps:=[.box (oi 0 0) 0,.box (oi 1 0) 0,.box (oi 2 0) 0,.box (oi 4 0) 0]) trivial (Bv (u_c0_1:=u_a1_0_1) (u_c0_2:=u_a1_0_2) (u_c0_3:=u_a1_0_3) h16) B3 ⟨by kernel_rfl,⟨by kernel_rfl,⟨by kernel_rfl,⟨by kernel_rfl,⟨by kernel_rfl,trivial⟩⟩⟩⟩⟩ (.cons (.ren (by kernel_rfl)) (.cons (.ren (by kernel_rfl)) (.cons (.ren (by kernel_rfl)) (.cons (.ren (by kernel_rfl)) (.cons (.ren (by kernel_rfl)) .nil))))) (E3 (by kernel_rfl) (by kernel_rfl) ⟨B5 (by kernel_rfl),⟨B5 (by kernel_rfl),⟨B5 (by kernel_rfl),⟨I8 (k:=oi 2 0) (ty:=76) (cs:=[.own (oi 3 0) .bool 0 l8_p3.length]) (B5 (by kernel_rfl)) (by kernel_rfl) (by kernel_rfl),⟨B5 (by kernel_rfl),trivial⟩⟩⟩⟩⟩) (As (tn_ (wr_ ?_)))));obtain ⟨y17,h17,h⟩:=Ag h;refine Aa 15 (rsT 3 (Qn (.tup []) [(oi 0 0,some (.cells 31 [ai u0,.giv u_a1_0_1 (.pair .int (.pair .int (.pair sI sI))) u1,.giv u_a1_0_2 .int u2,.giv u_a1_0_3 .int u3])),(oi 1 0,some (.cells 4 [.bool y17.1])),(oi 2 0,some (.cells 76 [.own (oi 3 0) .bool 0 y17.2.1.length])),(oi 3 0,some (.arr 4 .bool y17.2.1)),(oi 4 0,some (.cells 3 [ai y17.2.2])),(oi 0 0,none),(oi 1 0,none),(oi 2 0,none),(oi 3 0,none),(oi 4 0,none)] [] [tI x14.2.2.2,.box (oi 0 0) 0,.box (oi 1 0) 0,.box (oi 2 0) 0,.box (oi 4 0) 0] (caps:=[.box (oi 0 0) 0,.box (oi 1 0) 0,.box (oi 2 0) 0,.box (oi 4 0) 0]) trivial (Bv (u_c0_1:=u_a1_0_1) (u_c0_2:=u_a1_0_2) (u_c0_3:=u_a1_0_3) h17) B3 ⟨by kernel_rfl,⟨by kernel_rfl,⟨by kernel_rfl,⟨by kernel_rfl,⟨by kernel_rfl,trivial⟩⟩⟩⟩⟩ (.cons (.ren (by kernel_rfl)) (.cons (.ren (by kernel_rfl)) (.cons (.ren (by kernel_rfl)) (.cons (.ren (by kernel_rfl)) (.cons (.ren (by kernel_rfl)) .nil))))) (E3 (by kernel_rfl) (by kernel_rfl) ⟨B5 (by kernel_rfl),⟨B5 (by kernel_rfl),⟨B5 (by kernel_rfl),⟨I8 (k:=oi 2 0) (ty:=76) (cs:=[.own (oi 3 0) .bool 0 y16.2.1.length]) (B5 (by kernel_rfl)) (by kernel_rfl) (by kernel_rfl),⟨B5 (by kernel_rfl),trivial⟩⟩⟩⟩⟩) (As (bn_ (tn_ (wr_ ?_))))));obtain ⟨g18,h⟩:=Au h;refine Aa 17 (zA g18 (rsT 1 (As (tn_ ?_))));obtain rfl:=zj h;exact ⟨(u5+1,y17.1,y17.2.2,y17.2.1),_,Ac [],⟨u5+1,y17.1,y17.2.2,y17.2.1,rfl,rfl⟩,hn8⟩
 have q11_:=of_decide_eq_false q11;refine Ae q11 (A8 (te_ (te_ (be_ ?_))));obtain rfl:=zj h;have h:=hn8
 (try dsimp only at h);obtain rfl:=zj h;exact Ada [] (Ac (tl:=[]) (g:=2) [])
theorem C2 {u7:Int} {u8:List (Int×Int×(List Int)×List Int)} {u9 ua:List Int} {u3:Int} {u0:List (Int×Int×(List Int)×List Int)} {u1 u2:List Int} {u5:Bool} {u4:List Bool} {u6:Int} {r:Bool×List Bool×Int} (h:Ar u7 u8 u9 ua u3 u0 u1 u2 u5 u4 u6=some r):Iq Tryd.prog Tab 44 [.agg [ai u7,.tree (.pair .int (.pair .int (.pair sI sI))) u8,tI u9,tI ua],.fn 45 [.box (oi 0 0) 0,.box (oi 1 0) 0,.box (oi 2 0) 0,.box (oi 4 0) 0]] [(oi 0 0,.cells 31 [ai u3,.tree (.pair .int (.pair .int (.pair sI sI))) u0,tI u1,tI u2]),(oi 1 0,.cells 4 [.bool u5]),(oi 2 0,.cells 76 [.own (oi 3 0) .bool 0 u4.length]),(oi 3 0,.arr 4 .bool u4),(oi 4 0,.cells 3 [ai u6])] (.tup []) [(oi 0 0,.cells 31 [ai u3,.tree (.pair .int (.pair .int (.pair sI sI))) u0,tI u1,tI u2]),(oi 1 0,.cells 4 [.bool r.1]),(oi 2 0,.cells 76 [.own (oi 3 0) .bool 0 r.2.1.length]),(oi 3 0,.arr 4 .bool r.2.1),(oi 4 0,.cells 3 [ai r.2.2])] :=
 Km (fun u_a1_0_1=>[(oi 0 0,.cells 31 [ai u3,.giv u_a1_0_1 (.pair .int (.pair .int (.pair sI sI))) u0,tI u1,tI u2]),(oi 1 0,.cells 4 [.bool u5]),(oi 2 0,.cells 76 [.own (oi 3 0) .bool 0 u4.length]),(oi 3 0,.arr 4 .bool u4),(oi 4 0,.cells 3 [ai u6])]) (fun u_a1_0_1=>[(oi 0 0,.cells 31 [ai u3,.giv u_a1_0_1 (.pair .int (.pair .int (.pair sI sI))) u0,tI u1,tI u2]),(oi 1 0,.cells 4 [.bool r.1]),(oi 2 0,.cells 76 [.own (oi 3 0) .bool 0 r.2.1.length]),(oi 3 0,.arr 4 .bool r.2.1),(oi 4 0,.cells 3 [ai r.2.2])]) (oi 0 0) 1 (t:=.pair .int (.pair .int (.pair sI sI))) (xs:=u0) (fun u_a1_0_1=>Km (fun u_a1_0_2=>[(oi 0 0,.cells 31 [ai u3,.giv u_a1_0_1 (.pair .int (.pair .int (.pair sI sI))) u0,.giv u_a1_0_2 .int u1,tI u2]),(oi 1 0,.cells 4 [.bool u5]),(oi 2 0,.cells 76 [.own (oi 3 0) .bool 0 u4.length]),(oi 3 0,.arr 4 .bool u4),(oi 4 0,.cells 3 [ai u6])]) (fun u_a1_0_2=>[(oi 0 0,.cells 31 [ai u3,.giv u_a1_0_1 (.pair .int (.pair .int (.pair sI sI))) u0,.giv u_a1_0_2 .int u1,tI u2]),(oi 1 0,.cells 4 [.bool r.1]),(oi 2 0,.cells 76 [.own (oi 3 0) .bool 0 r.2.1.length]),(oi 3 0,.arr 4 .bool r.2.1),(oi 4 0,.cells 3 [ai r.2.2])]) (oi 0 0) 2 (t:=.int) (xs:=u1) (fun u_a1_0_2=>Km (fun u_a1_0_3=>[(oi 0 0,.cells 31 [ai u3,.giv u_a1_0_1 (.pair .int (.pair .int (.pair sI sI))) u0,.giv u_a1_0_2 .int u1,.giv u_a1_0_3 .int u2]),(oi 1 0,.cells 4 [.bool u5]),(oi 2 0,.cells 76 [.own (oi 3 0) .bool 0 u4.length]),(oi 3 0,.arr 4 .bool u4),(oi 4 0,.cells 3 [ai u6])]) (fun u_a1_0_3=>[(oi 0 0,.cells 31 [ai u3,.giv u_a1_0_1 (.pair .int (.pair .int (.pair sI sI))) u0,.giv u_a1_0_2 .int u1,.giv u_a1_0_3 .int u2]),(oi 1 0,.cells 4 [.bool r.1]),(oi 2 0,.cells 76 [.own (oi 3 0) .bool 0 r.2.1.length]),(oi 3 0,.arr 4 .bool r.2.1),(oi 4 0,.cells 3 [ai r.2.2])]) (oi 0 0) 3 (t:=.int) (xs:=u2) (fun u_a1_0_3=>Cz (u_a1_0_1:=u_a1_0_1) (u_a1_0_2:=u_a1_0_2) (u_a1_0_3:=u_a1_0_3) h) (fun _=>(.head _)) (fun _=>(.head _))) (fun _=>(.head _)) (fun _=>(.head _))) (fun _=>(.head _)) (fun _=>(.head _))
def Ej:AC :=
 (.seq (rg [xs1 34 33 32])
 (.seq (.cond (tm 34)
  .skip
  (.exit 0))
 (.seq (.block 1 (.seq (rg [xx 35 4 31 33,xo 36 (.i (.ld false 4 (tm 35))),xo 4 (.i (.alloc 66 [.int .i64 0,.int .i64 0,.nils,.nils])),xn (.st false 4 (tm 4) (tm 36))])
 (.seq (rg [xo 37 (.i (.ld false 4 (tm 4))),xo 38 (qc 43 [tm 37] [[none,none,some .int,some .int]]),xo 39 (.i (.not (tm 38)))])
 (.cond (tm 39)
  (.seq (rg [xo 2 (qm (cb false))])
  .ret)
  .skip))))
 (rg [xa 40 33,xm 33 40]))))
def Fh:AC :=
 (.seq (rg [xo 1 (.i (.box 31 (tm 0))),xo 2 (qm (cb false))])
 (.seq (.seq (rg [xf 8 0 1,xl 9 8,xo 10 (qc 42 [tm 9,ci 0,ci 100] [[],[],[]]),xo 11 (.i (.not (tm 10))),xm 12 11,⟨some 13,some (12,false),qf 1 (tm 1)⟩,⟨some 14,some (12,false),ql (tm 13)⟩,⟨some 15,some (12,false),.i (.len (tm 14))⟩,⟨some 16,some (12,false),qb .gtr (tm 15) (ci 60)⟩,xo 17 (.i (.pick (tm 12) (cb true) (tm 16))),xm 18 17,⟨some 19,some (18,false),qf 2 (tm 1)⟩,⟨some 20,some (18,false),ql (tm 19)⟩,⟨some 21,some (18,false),.i (.len (tm 20))⟩,⟨some 22,some (18,false),qb .gtr (tm 21) (ci 12)⟩,xo 23 (.i (.pick (tm 18) (cb true) (tm 22))),xm 24 23,⟨some 25,some (24,false),qf 3 (tm 1)⟩,⟨some 26,some (24,false),ql (tm 25)⟩,⟨some 27,some (24,false),.i (.len (tm 26))⟩,⟨some 28,some (24,false),qb .gtr (tm 27) (ci 12)⟩,xo 29 (.i (.pick (tm 24) (cb true) (tm 28)))])
 (.cond (tm 29)
  (.seq (rg [xo 2 (qm (cb false))])
  .ret)
  .skip))
 (.seq (.seq (rg [xf 30 1 1,xl 31 30,xn1 32 31,xo 33 (qm (ci 0))])
 (.block 0 (.loop Ej)))
 (.seq (rg [xf 41 0 1,xl 42 41,xo 43 (.make 4 .bool 1 (tm 42) (tm 42)),xo 5 (.i (.alloc 76 [.nils])),xo 6 (.i (.alloc 4 [.bool false])),xo 7 (.i (.alloc 3 [.int .i64 0])),xn (qs (tm 5) (tm 43)),xn (qs (tm 6) (cb true)),xn (qs (tm 7) (ci 0))])
 (.seq (rg [xo 44 (.i (.ld false 4 (tm 1))),xo 45 (.i (.mkfn 45 [tm 1,tm 6,tm 5,tm 7])),⟨some 46,none,qc 44 [tm 44,tm 45] [[none,some (.pair .int (.pair .int (.pair sI sI))),some .int,some .int],[]]⟩])
 (.seq (rg [xl 47 6,xm 48 47,⟨some 49,some (48,true),ql (tm 7)⟩,⟨some 50,some (48,true),qf 0 (tm 1)⟩,⟨some 51,some (48,true),ql (tm 50)⟩,⟨some 52,some (48,true),qb .eql (tm 49) (tm 51)⟩,xo 53 (.i (.pick (tm 48) (tm 52) (cb false))),xm 2 53])
 .ret))))))
def Ir:List Res:=[.tmp 2]
theorem Ja:Ap Tryd.prog Tryd.f21=some (Fh,Ir):=by kernel_rfl
def B0 (u1:List (Int×Int×(List Int)×List Int)) (u0:Nat):Option (Ctl Nat (Ctl Unit Bool)) :=
 cond (decide ((u0:Int)<(u1.length:Int)))
 ((u1[u0]?).bind fun x18 =>
 (Cm x18.1 x18.2.1 x18.2.2.1 x18.2.2.2).bind fun y20 =>
 cond (!y20)
  (some (Ctl.out (Ctl.out false)))
  (og (u0+1<4611686018427387904) <|
  some (Ctl.next (u0+1))))
 (some (Ctl.out (Ctl.next ())))
def Bz (u0:Int) (u1:List (Int×Int×(List Int)×List Int)) (u2 u3:List Int):Option Bool :=
 ((B8 u0 0 100).bind fun y4 =>
 cond (!y4)
  (some true)
  (cond (decide (60<(u1.length:Int)))
   (some true)
   (cond (decide (12<(u2.length:Int)))
    (some true)
    (some (decide (12<(u3.length:Int))))))).bind fun u4 =>
cond u4
 (some false)
 (Qb (A9 (fun s_:Nat=>B0 u1 s_) 4611686018427387904 0) fun _ =>
 og (0<=u0∧u0<=u0∧u0<=1073741824∧(1:Int)*u0<=140737488355328) <|
 (Ar u0 u1 u2 u3 u0 u1 u2 u3 true (List.replicate u0.toNat (false:Bool)) 0).bind fun y27 =>
 (cond y27.1
   (some (y27.2.2==u0))
   (some false)).bind fun u5 =>
 some u5)
def Il (r:Bool):RV:=⟨false,[(false,[.sc (.bool r)])]⟩
theorem Ik {u0:Int} {u1:List (Int×Int×(List Int)×List Int)} {u2 u3:List Int} {r:Bool} (h:Bz u0 u1 u2 u3=some r):Ay Tryd.prog Tab 21 [.agg [ai u0,.tree (.pair .int (.pair .int (.pair sI sI))) u1,tI u2,tI u3]] (Il r):=by
 refine A0 (by kernel_rfl) Tryd.func21 Ja (n:=54) (by kernel_rfl) (by simp) rfl ?_;unfold Fh;unfold Bz at h;refine Am (Ab (A3 h (fun (u6:Bool) S_=>S_=⟨Al [(1,.box (oi 0 1) 0),(29,.bool u6)],Ah (Aq [(oi 0 1,.cells 31 [ai u0,.tree (.pair .int (.pair .int (.pair sI sI))) u1,tI u2,tI u3])]),2⟩) ?_ ?_))
 ·intro v_ h;obtain ⟨y4,h4,h⟩:=Ag h;refine Aa 25 (rsT 2 (zc (.bool y4) [] [ai u0,ai 0,ai 100] (Eo h4) (rsT 2 ?_)));rcases Ad h with ⟨q5,h⟩ | ⟨q5,h⟩
  ·refine rq 12 q5 (rsT 17 (As (tn_ ?_)));obtain rfl:=zj h;exact ⟨_,Ac [(oi 0 1,oi 1 1)],rfl⟩
  refine rq 12 q5 (rsT 6 ?_);rcases Ad h with ⟨q6,h⟩ | ⟨q6,h⟩
  ·have q6_:=of_decide_eq_true q6;refine rq 18 q6 (rsT 11 (As (tn_ ?_)));obtain rfl:=zj h;exact ⟨_,Ac [(oi 0 1,oi 1 1)],rfl⟩
  have q6_:=of_decide_eq_false q6;refine rq 18 q6 (rsT 6 ?_);rcases Ad h with ⟨q7,h⟩ | ⟨q7,h⟩
  ·have q7_:=of_decide_eq_true q7;refine rq 24 q7 (rsT 5 (As (tn_ ?_)));obtain rfl:=zj h;exact ⟨_,Ac [(oi 0 1,oi 1 1)],rfl⟩
  have q7_:=of_decide_eq_false q7;refine rq 24 q7 (rsT 5 (As (tn_ ?_)));obtain rfl:=zj h;exact ⟨_,Ac [(oi 0 1,oi 1 1)],rfl⟩
 rintro u6 _ rfl h
 (try dsimp only at h);rcases Ad h with ⟨q8,h⟩ | ⟨q8,h⟩
 ·refine Af q8 (Am (Ai (tr_ ?_)));obtain rfl:=zj h;exact A7 [.bool false] (At rfl zl Ax)
 refine Ae q8 (Aj (tn_ (wr_ (Gc h (fun (_:Unit) S_=>S_=⟨Al [(1,.box (oi 0 1) 0)],Ah (Aq [(oi 0 1,.cells 31 [ai u0,.tree (.pair .int (.pair .int (.pair sI sI))) u1,tI u2,tI u3])]),2⟩) ?_ ?_))))
 ·intro v_ h hk10;refine Am (An (Bb h (fun (u4:Nat) S_=>S_=⟨Al [(1,.box (oi 0 1) 0),(31,.tree (.pair .int (.pair .int (.pair sI sI))) u1),(32,an u1.length),(33,an u4)],Ah (Aq [(oi 0 1,.cells 31 [ai u0,.tree (.pair .int (.pair .int (.pair sI sI))) u1,tI u2,tI u3])]),2⟩) ⟨_,Ac [],rfl⟩ ?_));rintro n_ u4 _ c_ rfl h hn12
  (try dsimp only at h);unfold B0 at h;unfold Ej;refine Am (Ab ?_);rcases Ad h with ⟨q15,h⟩ | ⟨q15,h⟩
  ·have q15_:=of_decide_eq_true q15;refine Af q15 (Aj (tn_ (wr_ (Ab (An (Ab ?_))))));obtain ⟨x18,e18,h⟩:=Ag h;refine Aa 7 (rs0 (.telt none (.pair .int (.pair .int (.pair sI sI))) x18 0) (zi (t:=.pair .int (.pair .int (.pair sI sI))) (xs:=u1) (k:=.i64) (m:=(u4:Int)) (F3 _) e18) (rsB 3 (As (tn_ (wr_ (Ab ?_))))));obtain ⟨y20,h20,h⟩:=Ag h;refine Aa 10 (rsT 1 (zc (.bool y20) [] [.agg [ai x18.1,ai x18.2.1,tI x18.2.2.1,tI x18.2.2.2]] (Jv h20) (rsT 1 (As (tn_ (wr_ ?_))))));rcases Ad h with ⟨q21,h⟩ | ⟨q21,h⟩
   ·refine Af q21 (Am (Ai (br_ (tr_ (tr_ (br_ (tr_ ?_)))))));obtain rfl:=zj h;have h:=hn12
    (try dsimp only at h);obtain rfl:=zj h;have h:=hk10
    (try dsimp only at h);obtain rfl:=zj h;exact A7 [.bool false] (At rfl zl Ax)
   refine Ae q21 (Aj (bn_ (tn_ (wr_ ?_))));obtain ⟨g23,h⟩:=Au h;refine Aa 12 (zA g23 (rsT 1 (As (tn_ ?_))));obtain rfl:=zj h;exact ⟨u4+1,_,Ac [],rfl,hn12⟩
  have q15_:=of_decide_eq_false q15;refine Ae q15 (A8 (te_ (te_ (be_ (tn_ ?_)))));obtain rfl:=zj h;have h:=hn12
  (try dsimp only at h);obtain rfl:=zj h;exact ⟨(),_,rfl,Ac [],rfl⟩
 rintro _ _ rfl h
 (try dsimp only at h);refine Ab ?_;obtain ⟨g25,h⟩:=Au h;refine Aa 11 (rsT 2 (rs1 (.own (oi 43 4) .bool 0 ((List.replicate u0.toNat (false:Bool)).length)) (oi 43 4) (.arr 4 .bool (List.replicate u0.toNat (false:Bool))) (Ack (t:=.bool) (k:=.i64) (k':=.i64) (m:=u0) (m':=u0) (by kernel_rfl) (by kernel_rfl) g25 rfl) (rsB 6 (As (tn_ (wr_ (Ab ?_)))))));obtain ⟨y27,h27,h⟩:=Ag h;refine Aa 14 (rsT 2 (Qn (.tup []) [(oi 0 1,some (.cells 31 [ai u0,.tree (.pair .int (.pair .int (.pair sI sI))) u1,tI u2,tI u3])),(oi 6 6,some (.cells 4 [.bool y27.1])),(oi 5 5,some (.cells 76 [.own (oi 43 4) .bool 0 y27.2.1.length])),(oi 43 4,some (.arr 4 .bool y27.2.1)),(oi 7 7,some (.cells 3 [ai y27.2.2])),(oi 0 1,none),(oi 6 6,none),(oi 5 5,none),(oi 43 4,none),(oi 7 7,none)] [(oi 0 0,oi 0 1),(oi 1 0,oi 6 6),(oi 2 0,oi 5 5),(oi 3 0,oi 43 4),(oi 4 0,oi 7 7)] [.agg [ai u0,.tree (.pair .int (.pair .int (.pair sI sI))) u1,tI u2,tI u3],.fn 45 [.box (oi 0 1) 0,.box (oi 6 6) 0,.box (oi 5 5) 0,.box (oi 7 7) 0]] (caps:=[]) trivial (C2 h27) Jt ⟨by kernel_rfl,⟨by kernel_rfl,⟨by kernel_rfl,⟨by kernel_rfl,⟨by kernel_rfl,trivial⟩⟩⟩⟩⟩ (.cons (.ren (by kernel_rfl)) (.cons (.ren (by kernel_rfl)) .nil)) (E3 (by kernel_rfl) (by kernel_rfl) ⟨B5 (by kernel_rfl),⟨B5 (by kernel_rfl),⟨B5 (by kernel_rfl),⟨I8 (k:=oi 5 5) (ty:=76) (cs:=[.own (oi 43 4) .bool 0 ((List.replicate u0.toNat (false:Bool)).length)]) (B5 (by kernel_rfl)) (by kernel_rfl) (by kernel_rfl),⟨B5 (by kernel_rfl),trivial⟩⟩⟩⟩⟩) (As (tn_ (wr_ (A3 h (fun (u5:Bool) S_=>S_=⟨Al [(2,.bool u5)],Ah (Aq []),2⟩) ?_ ?_))))))
 ·intro v_ h;refine Aa 22 (rsT 2 ?_);rcases Ad h with ⟨q29,h⟩ | ⟨q29,h⟩
  ·refine rq 48 q29 (rsT 6 (As (tn_ ?_)));obtain rfl:=zj h;exact ⟨_,Ac [],rfl⟩
  refine rq 48 q29 (rsT 6 (As (tn_ ?_)));obtain rfl:=zj h;exact ⟨_,Ac [],rfl⟩
 rintro u5 _ rfl h
 (try dsimp only at h);refine Ai ?_;obtain rfl:=zj h;exact A7 [.bool u5] (At rfl zl Ax)
end

section
open Go.RowKit Go.Deep
set_option maxRecDepth 4000
def L7:AC :=
 (.seq (rg [⟨some 2,none,.i (.mov (.cst (.str ⟨#[]⟩)))⟩])
 (.seq (.seq (rg [xm 3 0,xo 4 (qb .lss (tm 3) (ci 10))])
 (.cond (tm 4)
  (.seq (rg [xm 5 0,xo 6 (qb .add (ci 48) (tm 5)),xo 7 (.i (.conv .u8 (tm 6))),xo 8 (.mkV 5 .int 1 [tm 7]),xo 9 (.i (.b2s (tm 8))),xm 2 9])
  .ret)
  .skip))
 (.seq (.region [xm 10 0,xo 11 (qb .quo (tm 10) (ci 10)),xo 12 (qc 37 [tm 11] [[]]),xm 13 0,xo 14 (qb .rem (tm 13) (ci 10)),xo 15 (qb .add (ci 48) (tm 14)),xo 16 (.i (.conv .u8 (tm 15))),xo 17 (.mkV 5 .int 1 [tm 16]),xo 18 (.i (.b2s (tm 17))),xo 19 (qb .add (tm 12) (tm 18)),xm 2 19] true [(2,7),(2,8)])
 .ret)))
def T8:List Res:=[.tmp 2]
theorem Up:Ap Tryd.prog Tryd.f37=some (L7,T8):=by kernel_rfl
theorem E4:Bu Tryd.prog 37=true:=by kernel_rfl
def Dl (rec_:Int->Option ByteArray) (a0:Int):Option ByteArray :=
 cond (decide (a0<10))
 (some (strOfNums [IntKind.u8.wrap (wI (48+a0))]))
 ((rec_ (wI (Int.tdiv a0 10))).bind fun y7 =>
 og (y7.size+(strOfNums [IntKind.u8.wrap (wI (48+Int.tmod a0 10))]).size<=9223372036854775807) <|
 some (y7++(strOfNums [IntKind.u8.wrap (wI (48+Int.tmod a0 10))])))
def Bt:Nat->Int->Option ByteArray
 | 0=>fun _=>none
 | n_+1=>Dl (Bt n_)
def G0 (r:ByteArray):RV:=⟨false,[(false,[.sc (.str r)])]⟩
theorem Qt {rec_:Int->Option ByteArray} (ih_:∀ {a0:Int} {r:ByteArray} (h:rec_ a0=some r),Ay Tryd.prog Tab 37 [ai a0] (G0 r)) {a0:Int} {r:ByteArray} (h:Dl rec_ a0=some r):Ay Tryd.prog Tab 37 [ai a0] (G0 r):=by
 refine A0 (by kernel_rfl) Tryd.func37 Up (n:=20) (by kernel_rfl) (by simp) rfl ?_;unfold L7;unfold Dl at h;refine Am (Ab (Am ?_));rcases Ad h with ⟨q4,h⟩ | ⟨q4,h⟩
 ·have q4_:=of_decide_eq_true q4;refine Af q4 (Ab (Aa 10 (rsT 3 (Ae0 (oI 8 7 1) (oi 8 7) (.vec 5 1 1 [.int .u8 (IntKind.u8.wrap (wI (48+a0)))]) trivial (Adi (by kernel_rfl)) (rsT 2 (As (tn_ (wr_ (Ai (tr_ ?_))))))))));obtain rfl:=zj h;exact A7 [.str (strOfNums [IntKind.u8.wrap (wI (48+a0))])] (At rfl zl Ax)
 have q4_:=of_decide_eq_false q4;refine Ae q4 (Aj (tn_ (wr_ (Ab ?_))));obtain ⟨y7,h7,h⟩:=Ag h;obtain ⟨g8,h⟩:=Au h;refine Be 15 (dz0 (ai a0) (ds0 (ai (wI (Int.tdiv a0 10))) (Aem (k:=.i64) (a:=a0) (b:=10) (by kernel_rfl) (by kernel_rfl) (by decide)) (Aau (.str y7) [] [ai (wI (Int.tdiv a0 10))] _ (caps:=[]) (args0:=[ai (wI (Int.tdiv a0 10))]) trivial (by kernel_rfl) (ih_ h7) E4 (dz0 (ai a0) (ds0 (ai (Int.tmod a0 10)) (Aei (k:=.i64) (a:=a0) (b:=10) (by kernel_rfl) (by kernel_rfl) (by decide)) (dz0 (ai (wI (48+Int.tmod a0 10))) (dz0 (.int .u8 (IntKind.u8.wrap (wI (48+Int.tmod a0 10)))) (Aev (oI 17 11 1) (oi 17 11) (.vec 5 1 1 [.int .u8 (IntKind.u8.wrap (wI (48+Int.tmod a0 10)))]) trivial (Adi (by kernel_rfl)) (dzl (.str (strOfNums [IntKind.u8.wrap (wI (48+Int.tmod a0 10))])) (ds0 (.str (y7++(strOfNums [IntKind.u8.wrap (wI (48+Int.tmod a0 10))]))) (Ch (a:=y7) (b:=strOfNums [IntKind.u8.wrap (wI (48+Int.tmod a0 10))]) (by kernel_rfl) (by kernel_rfl) g8) (dz0 (.str (y7++(strOfNums [IntKind.u8.wrap (wI (48+Int.tmod a0 10))]))) (N9 (Cf (by kernel_rfl)) (tn_ (wr_ (Ai ?_)))))))))))))));obtain rfl:=zj h;exact A7 [.str (y7++(strOfNums [IntKind.u8.wrap (wI (48+Int.tmod a0 10))]))] (At rfl zl Ax)
theorem G6:∀ (n_:Nat) {a0:Int} {r:ByteArray} (h:Bt n_ a0=some r),Ay Tryd.prog Tab 37 [ai a0] (G0 r):=by
 intro n_
 induction n_ with
 | zero=>intros; rename_i h; cases h
 | succ n_ ih_=>intros; exact Qt ih_ (by assumption)
def Hq:AC :=
 (.seq (rg [xs1 10 9 8])
 (.seq (.cond (tm 10)
  .skip
  (.exit 0))
 (.seq (.block 1 (.seq (rg [xx 11 1 7 9,xl 12 11,xm 5 12])
 (rg [xm 13 3,xm 14 5,xo 15 (qc 46 [tm 14] [[]]),xo 16 (.mkS 9 .str [tm 15]),xo 17 (.append 9 .str 16 (tm 13) (tm 16)),xm 3 17])))
 (rg [xa 18 9,xm 9 18]))))
def Kb:AC :=
 (.seq (rg [⟨some 2,none,.i (.mov (.cst (.str ⟨#[]⟩)))⟩])
 (.seq (rg [xo 6 (.mkS 9 .str []),xm 3 6])
 (.seq (.seq (rg [xm 7 0,xn1 8 7,xo 9 (qm (ci 0))])
 (.block 0 (.loop Hq)))
 (.seq (rg [xm 19 3,⟨some 20,none,qc 49 [tm 19,.cst (.str ⟨#[44]⟩)] [[some .str],[]]⟩,xm 2 20])
 .ret))))
def Rc:List Res:=[.tmp 2]
theorem Rt:Ap Tryd.prog Tryd.f47=some (Kb,Rc):=by kernel_rfl
def Ce (a0:List Int) (u0:Nat) (u1:List ByteArray):Option (Ctl (Nat×List ByteArray) (List ByteArray)) :=
 cond (decide ((u0:Int)<(a0.length:Int)))
 ((a0[u0]?).bind fun x11 =>
 (Bn x11).bind fun y12 =>
 og (u1.length+1<=1073741824∧(u1.length+1)*16<=140737488355328) <|
 og (u0+1<4611686018427387904) <|
 some (Ctl.next (u0+1,u1++([y12]))))
 (some (Ctl.out u1))
def Bl (a0:List Int):Option ByteArray :=
 (A9 (fun s_:Nat×List ByteArray=>Ce a0 s_.1 s_.2) 4611686018427387904 (0,[])).bind fun u0 =>
(C5 u0 (⟨#[44]⟩:ByteArray)).bind fun y16 =>
some y16
def Pg (r:ByteArray):RV:=⟨false,[(false,[.sc (.str r)])]⟩
theorem Er {a0:List Int} {r:ByteArray} (h:Bl a0=some r):Ay Tryd.prog Tab 47 [tI a0] (Pg r):=by
 refine A0 (by kernel_rfl) Tryd.func47 Rt (n:=21) (by kernel_rfl) (by simp) rfl ?_;unfold Kb;unfold Bl at h;refine Am (Am (A3 h (fun (u1:List ByteArray) S_=>S_=⟨Al [(3,.own (oi 0 1) .str 0 u1.length)],Ah (Aq [(oi 0 1,.arr 9 .str u1)]),2⟩) ?_ ?_))
 ·intro v_ h;refine Am (An (Bb h (fun t_ S_=>∃ (u2:Nat),∃ (u0:List ByteArray),t_=(u2,u0)∧S_=⟨Al [(3,.own (oi 0 1) .str 0 u0.length),(7,tI a0),(8,an a0.length),(9,an u2)],Ah (Aq [(oi 0 1,.arr 9 .str u0)]),2⟩) ⟨_,Ac [(oi 0 1,oi 6 2)],⟨0,[],rfl,rfl⟩⟩ ?_));rintro n_ _ _ c_ ⟨u2,u0,rfl,rfl⟩ h hn5
  (try dsimp only at h);unfold Ce at h;unfold Hq;refine Am (Ab ?_);rcases Ad h with ⟨q8,h⟩ | ⟨q8,h⟩
  ·have q8_:=of_decide_eq_true q8;refine Af q8 (Aj (tn_ (wr_ (Ab (An (Ab ?_))))));obtain ⟨x11,e11,h⟩:=Ag h;refine Aa 6 (zI .int e11 (rsT 2 (As (tn_ (wr_ ?_)))));obtain ⟨y12,h12,h⟩:=Ag h;obtain ⟨g13,h⟩:=Au h;refine Aa 12 (rsT 2 (zc (.str y12) [] [ai x11] (Fn h12) (rsB 1 (rs2 (.own (oi 0 10) .str 0 ((u0++([y12])).length)) (oi 0 1) (oi 0 10) (.arr 9 .str (u0++([y12]))) (Z9 (t:=.str) (t':=.str) (xs:=u0) (ys:=[y12]) (zs:=u0++([y12])) (j:=oi 0 1) (len:=u0.length) (c:=.own (oi 16 9) .str 0 1) (by kernel_rfl) (by kernel_rfl) rfl (by kernel_rfl) (Abn (e:=9) (by kernel_rfl) rfl) rfl g13) (rsT 1 (As (bn_ (tn_ (wr_ ?_)))))))));obtain ⟨g14,h⟩:=Au h;refine Aa 14 (zA g14 (rsT 1 (As (tn_ ?_))));obtain rfl:=zj h;exact ⟨(u2+1,u0++([y12])),_,Ac [(oi 0 1,oi 0 10)],⟨u2+1,u0++([y12]),rfl,rfl⟩,hn5⟩
  have q8_:=of_decide_eq_false q8;refine Ae q8 (A8 (te_ (te_ (be_ (tn_ ?_)))));obtain rfl:=zj h;have h:=hn5
  (try dsimp only at h);obtain rfl:=zj h;exact ⟨_,Ac [],rfl⟩
 rintro u1 _ rfl h
 (try dsimp only at h);refine Ab ?_;obtain ⟨y16,h16,h⟩:=Ag h;refine Aa 5 (rsT 1 (Ii (.str y16) [] [.own (oi 0 1) .str 0 u1.length,.str (⟨#[44]⟩:ByteArray)] _ (caps:=[]) (args0:=[.tree .str u1,.str (⟨#[44]⟩:ByteArray)]) trivial (Om (W8 (e:=9) (by kernel_rfl) rfl) (Om (by kernel_rfl) Z5)) (Ih h16) Ie (rsT 1 (As (tn_ (wr_ (Ai ?_)))))));obtain rfl:=zj h;exact A7 [.str y16] (At rfl zl Ax)
def Ht:AC :=
 (.seq (rg [xs1 9 8 7])
 (.seq (.cond (tm 9)
  .skip
  (.exit 0))
 (.seq (.block 1 (.seq (rg [xm 10 8,xx 11 1 6 8,xl 12 11,xm 4 10,xm 5 12])
 (.seq (.seq (rg [xm 13 4,xo 14 (qb .gtr (tm 13) (ci 0))])
 (.cond (tm 14)
  (rg [xm 15 3,⟨some 16,none,.i (.bin .add (tm 15) (.cst (.str ⟨#[44]⟩)))⟩,xm 3 16])
  .skip))
 (rg [xm 17 3,xm 18 5,xo 19 (qc 37 [tm 18] [[]]),xo 20 (qb .add (tm 17) (tm 19)),xm 3 20]))))
 (rg [xa 21 8,xm 8 21]))))
def J1:AC :=
 (.seq (rg [⟨some 2,none,.i (.mov (.cst (.str ⟨#[]⟩)))⟩])
 (.seq (rg [⟨some 3,none,.i (.mov (.cst (.str ⟨#[]⟩)))⟩])
 (.seq (.seq (rg [xm 6 0,xn1 7 6,xo 8 (qm (ci 0))])
 (.block 0 (.loop Ht)))
 (.seq (rg [xm 22 3,xm 2 22])
 .ret))))
def Ry:List Res:=[.tmp 2]
theorem Rn:Ap Tryd.prog Tryd.f38=some (J1,Ry):=by kernel_rfl
def C4 (a0:List Int) (u1:ByteArray) (u0:Nat):Option (Ctl (ByteArray×Nat) ByteArray) :=
 cond (decide ((u0:Int)<(a0.length:Int)))
 ((a0[u0]?).bind fun x11 =>
 (cond (decide (0<(u0:Int)))
   (og (u1.size+(⟨#[44]⟩:ByteArray).size<=9223372036854775807) <|
   some (u1++(⟨#[44]⟩:ByteArray)))
   (some u1)).bind fun u2 =>
 (Bt 4096 x11).bind fun y16 =>
 og (u2.size+y16.size<=9223372036854775807) <|
 og (u0+1<4611686018427387904) <|
 some (Ctl.next (u2++y16,u0+1)))
 (some (Ctl.out u1))
def Cd (a0:List Int):Option ByteArray :=
 (A9 (fun s_:ByteArray×Nat=>C4 a0 s_.1 s_.2) 4611686018427387904 ((⟨#[]⟩:ByteArray),0)).bind fun u0 =>
some u0
def Rb (r:ByteArray):RV:=⟨false,[(false,[.sc (.str r)])]⟩
theorem Eu {a0:List Int} {r:ByteArray} (h:Cd a0=some r):Ay Tryd.prog Tab 38 [tI a0] (Rb r):=by
 refine A0 (by kernel_rfl) Tryd.func38 Rn (n:=23) (by kernel_rfl) (by simp) rfl ?_;unfold J1;unfold Cd at h;refine Am (Am (A3 h (fun (u3:ByteArray) S_=>S_=⟨Al [(3,.str u3)],Ah (Aq []),2⟩) ?_ ?_))
 ·intro v_ h;refine Am (An (Bb h (fun t_ S_=>∃ (u2:ByteArray),∃ (u0:Nat),t_=(u2,u0)∧S_=⟨Al [(3,.str u2),(6,tI a0),(7,an a0.length),(8,an u0)],Ah (Aq []),2⟩) ⟨_,Ac [],⟨(⟨#[]⟩:ByteArray),0,rfl,rfl⟩⟩ ?_));rintro n_ _ _ c_ ⟨u2,u0,rfl,rfl⟩ h hn5
  (try dsimp only at h);unfold C4 at h;unfold Ht;refine Am (Ab ?_);rcases Ad h with ⟨q8,h⟩ | ⟨q8,h⟩
  ·have q8_:=of_decide_eq_true q8;refine Af q8 (Aj (tn_ (wr_ (Ab (An (Ab ?_))))));obtain ⟨x11,e11,h⟩:=Ag h;refine Aa 8 (rsT 1 (zI .int e11 (rsT 3 (As (tn_ (wr_ (A3 h (fun (u1:ByteArray) S_=>S_=⟨Al [(3,.str u1),(5,ai x11),(6,tI a0),(7,an a0.length),(8,an u0)],Ah (Aq []),2⟩) ?_ ?_)))))))
   ·intro v_ h;refine Am ?_;rcases Ad h with ⟨q14,h⟩ | ⟨q14,h⟩
    ·have q14_:=of_decide_eq_true q14;refine Af q14 ?_;obtain ⟨g15,h⟩:=Au h;refine Aa 13 (rsT 1 (rs0 (.str (u2++(⟨#[44]⟩:ByteArray))) (Ch (a:=u2) (b:=(⟨#[44]⟩:ByteArray)) (by kernel_rfl) (by kernel_rfl) g15) (rsT 1 (As (tn_ ?_)))));obtain rfl:=zj h;exact ⟨_,Ac [],rfl⟩
    have q14_:=of_decide_eq_false q14;refine Ae q14 (Aj (tn_ ?_));obtain rfl:=zj h;exact ⟨_,Ac [],rfl⟩
   rintro u1 _ rfl h
   (try dsimp only at h);obtain ⟨y16,h16,h⟩:=Ag h;obtain ⟨g17,h⟩:=Au h;refine Aa 7 (rsT 2 (Ii (.str y16) [] [ai x11] _ (caps:=[]) (args0:=[ai x11]) trivial (by kernel_rfl) (G6 4096 h16) E4 (rs0 (.str (u1++y16)) (Ch (a:=u1) (b:=y16) (by kernel_rfl) (by kernel_rfl) g17) (rsT 1 (As (bn_ (tn_ (wr_ ?_))))))));obtain ⟨g18,h⟩:=Au h;refine Aa 9 (zA g18 (rsT 1 (As (tn_ ?_))));obtain rfl:=zj h;exact ⟨(u1++y16,u0+1),_,Ac [],⟨u1++y16,u0+1,rfl,rfl⟩,hn5⟩
  have q8_:=of_decide_eq_false q8;refine Ae q8 (A8 (te_ (te_ (be_ (tn_ ?_)))));obtain rfl:=zj h;have h:=hn5
  (try dsimp only at h);obtain rfl:=zj h;exact ⟨_,Ac [],rfl⟩
 rintro u3 _ rfl h
 (try dsimp only at h);refine Am (Ai ?_);obtain rfl:=zj h;exact A7 [.str u3] (At rfl zl Ax)
def I9:AC :=
 (.seq (rg [xo 0 (qm (.cst .nils))])
 (.seq (rg [⟨some 1,none,.mkS 9 .str [.cst (.str ⟨#[99,111,112,121]⟩),.cst (.str ⟨#[100,105,115,99,97,114,100]⟩),.cst (.str ⟨#[97,100,100]⟩),.cst (.str ⟨#[122,101,114,111]⟩),.cst (.str ⟨#[115,99,97,108,101]⟩),.cst (.str ⟨#[100,101,108,97,121]⟩),.cst (.str ⟨#[99,111,99,111,112,121]⟩),.cst (.str ⟨#[99,111,100,105,115,99,97,114,100]⟩),.cst (.str ⟨#[99,111,97,100,100]⟩),.cst (.str ⟨#[99,111,122,101,114,111]⟩),.cst (.str ⟨#[99,111,115,99,97,108,101]⟩),.cst (.str ⟨#[99,111,100,101,108,97,121]⟩)]⟩,xm 0 1])
 .ret))
def Ps:List Res:=[.tmp 0]
theorem Qd:Ap Tryd.prog Tryd.f39=some (I9,Ps):=by kernel_rfl
def Es  : Option (List ByteArray) :=
 some ([(⟨#[99,111,112,121]⟩:ByteArray),(⟨#[100,105,115,99,97,114,100]⟩:ByteArray),(⟨#[97,100,100]⟩:ByteArray),(⟨#[122,101,114,111]⟩:ByteArray),(⟨#[115,99,97,108,101]⟩:ByteArray),(⟨#[100,101,108,97,121]⟩:ByteArray),(⟨#[99,111,99,111,112,121]⟩:ByteArray),(⟨#[99,111,100,105,115,99,97,114,100]⟩:ByteArray),(⟨#[99,111,97,100,100]⟩:ByteArray),(⟨#[99,111,122,101,114,111]⟩:ByteArray),(⟨#[99,111,115,99,97,108,101]⟩:ByteArray),(⟨#[99,111,100,101,108,97,121]⟩:ByteArray)])
def Nx (r:List ByteArray):RV:=⟨false,[(false,[.new 9 .str r])]⟩
theorem Nu {r:List ByteArray} (h:Es=some r):Ay Tryd.prog Tab 39 [] (Nx r):=by
 refine A0 (by kernel_rfl) Tryd.func39 Qd (n:=2) (by kernel_rfl) (by simp) rfl ?_;unfold I9;unfold Es at h;refine Am (Am (Ai ?_));obtain rfl:=zj h;exact A7 [.own (oi 1 2) .str 0 12] (At rfl (U6 (by kernel_rfl) rfl) Ax)
def Id:AC :=
 (.seq (rg [xo 2 (qm (cb false))])
 (.seq (rg [xm 3 0,xo 4 (qb .eql (tm 3) (ci 7)),xm 5 4,⟨some 6,some (5,false),qm (tm 0)⟩,⟨some 7,some (5,false),qb .eql (tm 6) (ci 13)⟩,xo 8 (.i (.pick (tm 5) (cb true) (tm 7))),xm 2 8])
 .ret))
def Nr:List Res:=[.tmp 2]
theorem Nv:Ap Tryd.prog Tryd.f40=some (Id,Nr):=by kernel_rfl
def Db (a0:Int):Option Bool :=
 (cond (a0==7)
  (some true)
  (some (a0==13))).bind fun u0 =>
some u0
def Mb (r:Bool):RV:=⟨false,[(false,[.sc (.bool r)])]⟩
theorem Mp {a0:Int} {r:Bool} (h:Db a0=some r):Ay Tryd.prog Tab 40 [ai a0] (Mb r):=by
 refine A0 (by kernel_rfl) Tryd.func40 Nv (n:=9) (by kernel_rfl) (by simp) rfl ?_;unfold Id;unfold Db at h;refine Am (A3 h (fun (u0:Bool) S_=>S_=⟨Al [(2,.bool u0)],Ah (Aq []),2⟩) ?_ ?_)
 ·intro v_ h;refine Aa 9 (rsT 3 ?_);rcases Ad h with ⟨q3,h⟩ | ⟨q3,h⟩
  ·refine rq 5 q3 (rsT 4 (As (tn_ ?_)));obtain rfl:=zj h;exact ⟨_,Ac [],rfl⟩
  refine rq 5 q3 (rsT 4 (As (tn_ ?_)));obtain rfl:=zj h;exact ⟨_,Ac [],rfl⟩
 rintro u0 _ rfl h
 (try dsimp only at h);refine Ai ?_;obtain rfl:=zj h;exact A7 [.bool u0] (At rfl zl Ax)
def G8:AC :=
 (.seq (rg [xs1 23 22 21])
 (.seq (.cond (tm 23)
  .skip
  (.exit 0))
 (.seq (.block 1 (.seq (rg [xx 24 4 20 22,xo 25 (.i (.ld false 4 (tm 24))),xo 5 (.i (.alloc 66 [.int .i64 0,.int .i64 0,.nils,.nils])),xn (.st false 4 (tm 5) (tm 25))])
 (.seq (.region [xm 26 3,xo 27 (qc 39 [] []),xf 28 0 5,xl 29 28,xo 30 (qb .sub (tm 29) (ci 3)),xx 31 1 27 30,xl 32 31,⟨some 33,none,.i (.bin .add (.cst (.str ⟨#[124]⟩)) (tm 32))⟩,xo 34 (qb .add (tm 26) (tm 33)),xm 3 34] true [(1,3)])
 (.seq (.seq (rg [xf 35 0 5,xl 36 35,xo 37 (qc 40 [tm 36] [[]])])
 (.cond (tm 37)
  (rg [xm 38 3,xf 39 1 5,xl 40 39,xo 41 (qc 37 [tm 40] [[]]),⟨some 42,none,.i (.bin .add (.cst (.str ⟨#[58]⟩)) (tm 41))⟩,xo 43 (qb .add (tm 38) (tm 42)),xm 3 43])
  .skip))
 (.region [xm 44 3,xf 45 2 5,xl 46 45,xo 47 (qc 38 [tm 46] [[some .int]]),⟨some 48,none,.i (.bin .add (.cst (.str ⟨#[40]⟩)) (tm 47))⟩,⟨some 49,none,.i (.bin .add (tm 48) (.cst (.str ⟨#[62]⟩)))⟩,xf 50 3 5,xl 51 50,xo 52 (qc 38 [tm 51] [[some .int]]),xo 53 (qb .add (tm 49) (tm 52)),⟨some 54,none,.i (.bin .add (tm 53) (.cst (.str ⟨#[41]⟩)))⟩,xo 55 (qb .add (tm 44) (tm 54)),xm 3 55] true [(3,7)])))))
 (rg [xa 56 22,xm 22 56]))))
def J8:AC :=
 (.seq (rg [xo 1 (.i (.box 31 (tm 0))),⟨some 2,none,.i (.mov (.cst (.str ⟨#[]⟩)))⟩])
 (.seq (.region [xf 6 0 1,xl 7 6,xo 8 (qc 37 [tm 7] [[]]),⟨some 9,none,.i (.bin .add (tm 8) (.cst (.str ⟨#[124]⟩)))⟩,xf 10 2 1,xl 11 10,xo 12 (qc 38 [tm 11] [[some .int]]),xo 13 (qb .add (tm 9) (tm 12)),⟨some 14,none,.i (.bin .add (tm 13) (.cst (.str ⟨#[124]⟩)))⟩,xf 15 3 1,xl 16 15,xo 17 (qc 38 [tm 16] [[some .int]]),xo 18 (qb .add (tm 14) (tm 17)),xm 3 18] true [(2,5),(2,10),(6,10)])
 (.seq (.seq (rg [xf 19 1 1,xl 20 19,xn1 21 20,xo 22 (qm (ci 0))])
 (.block 0 (.loop G8)))
 (.seq (rg [xm 57 3,xm 2 57])
 .ret))))
def Rh:List Res:=[.tmp 2]
theorem R6:Ap Tryd.prog Tryd.f18=some (J8,Rh):=by kernel_rfl
def Cg (u2:List (Int×Int×(List Int)×List Int)) (u0:ByteArray) (u1:Nat):Option (Ctl (ByteArray×Nat) ByteArray) :=
 cond (decide ((u1:Int)<(u2.length:Int)))
 ((u2[u1]?).bind fun x18 =>
 (Es).bind fun y20 =>
 (J0 y20 (wI (x18.1 - 3))).bind fun x21 =>
 (J0 y20 (wI (x18.1 - 3))).bind fun x22 =>
 og ((⟨#[124]⟩:ByteArray).size+x22.size<=9223372036854775807) <|
 og (u0.size+((⟨#[124]⟩:ByteArray)++x22).size<=9223372036854775807) <|
 ((Db x18.1).bind fun y27 =>
  cond y27
   ((Bt 4096 x18.2.1).bind fun y29 =>
   og ((⟨#[58]⟩:ByteArray).size+y29.size<=9223372036854775807) <|
   og ((u0++((⟨#[124]⟩:ByteArray)++x22)).size+((⟨#[58]⟩:ByteArray)++y29).size<=9223372036854775807) <|
   some ((u0++((⟨#[124]⟩:ByteArray)++x22))++((⟨#[58]⟩:ByteArray)++y29)))
   (some (u0++((⟨#[124]⟩:ByteArray)++x22)))).bind fun u3 =>
 (Cd x18.2.2.1).bind fun y32 =>
 og ((⟨#[40]⟩:ByteArray).size+y32.size<=9223372036854775807) <|
 og (((⟨#[40]⟩:ByteArray)++y32).size+(⟨#[62]⟩:ByteArray).size<=9223372036854775807) <|
 (Cd x18.2.2.2).bind fun y35 =>
 og ((((⟨#[40]⟩:ByteArray)++y32)++(⟨#[62]⟩:ByteArray)).size+y35.size<=9223372036854775807) <|
 og (((((⟨#[40]⟩:ByteArray)++y32)++(⟨#[62]⟩:ByteArray))++y35).size+(⟨#[41]⟩:ByteArray).size<=9223372036854775807) <|
 og (u3.size+(((((⟨#[40]⟩:ByteArray)++y32)++(⟨#[62]⟩:ByteArray))++y35)++(⟨#[41]⟩:ByteArray)).size<=9223372036854775807) <|
 og (u1+1<4611686018427387904) <|
 some (Ctl.next (u3++(((((⟨#[40]⟩:ByteArray)++y32)++(⟨#[62]⟩:ByteArray))++y35)++(⟨#[41]⟩:ByteArray)),u1+1)))
 (some (Ctl.out u0))
def D9 (u0:Int) (u1:List (Int×Int×(List Int)×List Int)) (u2 u3:List Int):Option ByteArray :=
 (Bt 4096 u0).bind fun y3 =>
og (y3.size+(⟨#[124]⟩:ByteArray).size<=9223372036854775807) <|
(Cd u2).bind fun y5 =>
og ((y3++(⟨#[124]⟩:ByteArray)).size+y5.size<=9223372036854775807) <|
og (((y3++(⟨#[124]⟩:ByteArray))++y5).size+(⟨#[124]⟩:ByteArray).size<=9223372036854775807) <|
(Cd u3).bind fun y8 =>
og ((((y3++(⟨#[124]⟩:ByteArray))++y5)++(⟨#[124]⟩:ByteArray)).size+y8.size<=9223372036854775807) <|
(A9 (fun s_:ByteArray×Nat=>Cg u1 s_.1 s_.2) 4611686018427387904 ((((y3++(⟨#[124]⟩:ByteArray))++y5)++(⟨#[124]⟩:ByteArray))++y8,0)).bind fun u4 =>
some u4
def Pq (r:ByteArray):RV:=⟨false,[(false,[.sc (.str r)])]⟩
theorem O4 {u4:Int} {u2:List (Int×Int×(List Int)×List Int)} {u5 u6:List Int} {r:ByteArray} (h:D9 u4 u2 u5 u6=some r):Ay Tryd.prog Tab 18 [.agg [ai u4,.tree (.pair .int (.pair .int (.pair sI sI))) u2,tI u5,tI u6]] (Pq r):=by
 refine A0 (by kernel_rfl) Tryd.func18 R6 (n:=58) (by kernel_rfl) (by simp) rfl ?_;unfold J8;unfold D9 at h;refine Am (Ab ?_);obtain ⟨y3,h3,h⟩:=Ag h;obtain ⟨g4,h⟩:=Au h;obtain ⟨y5,h5,h⟩:=Ag h;obtain ⟨g6,h⟩:=Au h;obtain ⟨g7,h⟩:=Au h;obtain ⟨y8,h8,h⟩:=Ag h;obtain ⟨g9,h⟩:=Au h;refine Be 17 (dz0 (.box (oi 1 1) 0) (dzl (ai u4) (Aau (.str y3) [] [ai u4] _ (caps:=[]) (args0:=[ai u4]) trivial (by kernel_rfl) (G6 4096 h3) E4 (ds0 (.str (y3++(⟨#[124]⟩:ByteArray))) (Ch (a:=y3) (b:=(⟨#[124]⟩:ByteArray)) (by kernel_rfl) (by kernel_rfl) g4) (dz0 (.box (oi 1 1) 2) (dzl (tI u5) (dzc (.str y5) [] [tI u5] (Eu h5) (ds0 (.str ((y3++(⟨#[124]⟩:ByteArray))++y5)) (Ch (a:=y3++(⟨#[124]⟩:ByteArray)) (b:=y5) (by kernel_rfl) (by kernel_rfl) g6) (ds0 (.str (((y3++(⟨#[124]⟩:ByteArray))++y5)++(⟨#[124]⟩:ByteArray))) (Ch (a:=(y3++(⟨#[124]⟩:ByteArray))++y5) (b:=(⟨#[124]⟩:ByteArray)) (by kernel_rfl) (by kernel_rfl) g7) (dz0 (.box (oi 1 1) 3) (dzl (tI u6) (dzc (.str y8) [] [tI u6] (Eu h8) (ds0 (.str ((((y3++(⟨#[124]⟩:ByteArray))++y5)++(⟨#[124]⟩:ByteArray))++y8)) (Ch (a:=((y3++(⟨#[124]⟩:ByteArray))++y5)++(⟨#[124]⟩:ByteArray)) (b:=y8) (by kernel_rfl) (by kernel_rfl) g9) (dz0 (.str ((((y3++(⟨#[124]⟩:ByteArray))++y5)++(⟨#[124]⟩:ByteArray))++y8)) (N9 (Cf (by kernel_rfl)) (tn_ (wr_ (A3 h (fun (u7:ByteArray) S_=>S_=⟨Al [(3,.str u7)],Ah (Aq []),2⟩) ?_ ?_))))))))))))))))))
 ·intro v_ h;refine Am (An (Bb h (fun t_ S_=>∃ (u0:ByteArray),∃ (u3:Nat),t_=(u0,u3)∧S_=⟨Al [(3,.str u0),(20,.tree (.pair .int (.pair .int (.pair sI sI))) u2),(21,an u2.length),(22,an u3)],Ah (Aq []),2⟩) ⟨_,Ac [],⟨(((y3++(⟨#[124]⟩:ByteArray))++y5)++(⟨#[124]⟩:ByteArray))++y8,0,rfl,rfl⟩⟩ ?_));rintro n_ _ _ c_ ⟨u0,u3,rfl,rfl⟩ h hn12
  (try dsimp only at h);unfold Cg at h;unfold G8;refine Am (Ab ?_);rcases Ad h with ⟨q15,h⟩ | ⟨q15,h⟩
  ·have q15_:=of_decide_eq_true q15;refine Af q15 (Aj (tn_ (wr_ (Ab (An (Ab ?_))))));obtain ⟨x18,e18,h⟩:=Ag h;refine Aa 7 (rs0 (.telt none (.pair .int (.pair .int (.pair sI sI))) x18 0) (zi (t:=.pair .int (.pair .int (.pair sI sI))) (xs:=u2) (k:=.i64) (m:=(u3:Int)) (F3 _) e18) (rsB 3 (As (tn_ (wr_ (Ab ?_))))));obtain ⟨y20,h20,h⟩:=Ag h;obtain ⟨x21,f21,h⟩:=Ag h;obtain ⟨p21,b21,e21⟩:=Em f21;obtain ⟨x22,f22,h⟩:=Ag h;obtain ⟨p22,b22,e22⟩:=Em f22;obtain ⟨g23,h⟩:=Au h;obtain ⟨g24,h⟩:=Au h;refine Be 17 (dz0 (.str u0) (dzc (.own (oi 432 8) .str 0 y20.length) [(oi 432 8,some (.arr 9 .str y20))] [] (Nu h20) (dz0 (.box (oi 5 5) 0) (dzl (ai x18.1) (dz0 (ai (wI (x18.1 - 3))) (ds0 (.elt (oi 432 8) ((wI (x18.1 - 3)).toNat) 0) (zo (t:=.str) (o:=oi 432 8) (len:=y20.length) (k:=.i64) (m:=wI (x18.1 - 3)) p21 (Bj e21)) (dsl (.str x22) (Vv (i:=oi 432 8) (j:=(wI (x18.1 - 3)).toNat) (k:=0) (e:=9) (t:=.str) (xs:=y20) (by kernel_rfl) (by kernel_rfl) e22 (by kernel_rfl)) (ds0 (.str ((⟨#[124]⟩:ByteArray)++x22)) (Ch (a:=(⟨#[124]⟩:ByteArray)) (b:=x22) (by kernel_rfl) (by kernel_rfl) g23) (ds0 (.str (u0++((⟨#[124]⟩:ByteArray)++x22))) (Ch (a:=u0) (b:=(⟨#[124]⟩:ByteArray)++x22) (by kernel_rfl) (by kernel_rfl) g24) (dz0 (.str (u0++((⟨#[124]⟩:ByteArray)++x22))) (N9 (Cf (by kernel_rfl)) (tn_ (wr_ (A3 h (fun (u1:ByteArray) S_=>S_=⟨Al [(3,.str u1),(5,.box (oi 0 1) 0),(20,.tree (.pair .int (.pair .int (.pair sI sI))) u2),(21,an u2.length),(22,an u3)],Ah (Aq [(oi 0 1,.cells 66 [ai x18.1,ai x18.2.1,tI x18.2.2.1,tI x18.2.2.2])]),2⟩) ?_ ?_))))))))))))))
   ·intro v_ h;refine Ab ?_;obtain ⟨y27,h27,h⟩:=Ag h;refine Aa 20 (rsT 2 (zc (.bool y27) [] [ai x18.1] (Mp h27) (As (tn_ (wr_ ?_)))));rcases Ad h with ⟨q28,h⟩ | ⟨q28,h⟩
    ·refine Af q28 ?_;obtain ⟨y29,h29,h⟩:=Ag h;obtain ⟨g30,h⟩:=Au h;obtain ⟨g31,h⟩:=Au h;refine Aa 27 (rsT 3 (Ii (.str y29) [] [ai x18.2.1] _ (caps:=[]) (args0:=[ai x18.2.1]) trivial (by kernel_rfl) (G6 4096 h29) E4 (rs0 (.str ((⟨#[58]⟩:ByteArray)++y29)) (Ch (a:=(⟨#[58]⟩:ByteArray)) (b:=y29) (by kernel_rfl) (by kernel_rfl) g30) (rs0 (.str ((u0++((⟨#[124]⟩:ByteArray)++x22))++((⟨#[58]⟩:ByteArray)++y29))) (Ch (a:=u0++((⟨#[124]⟩:ByteArray)++x22)) (b:=(⟨#[58]⟩:ByteArray)++y29) (by kernel_rfl) (by kernel_rfl) g31) (rsT 1 (As (tn_ ?_)))))));obtain rfl:=zj h;exact ⟨_,Ac [(oi 0 1,oi 5 5)],rfl⟩
    refine Ae q28 (Aj (tn_ ?_));obtain rfl:=zj h;exact ⟨_,Ac [(oi 0 1,oi 5 5)],rfl⟩
   rintro u1 _ rfl h
   (try dsimp only at h);obtain ⟨y32,h32,h⟩:=Ag h;obtain ⟨g33,h⟩:=Au h;obtain ⟨g34,h⟩:=Au h;obtain ⟨y35,h35,h⟩:=Ag h;obtain ⟨g36,h⟩:=Au h;obtain ⟨g37,h⟩:=Au h;obtain ⟨g38,h⟩:=Au h;refine Be 15 (dz0 (.str u1) (dz0 (.box (oi 0 1) 2) (dzl (tI x18.2.2.1) (dzc (.str y32) [] [tI x18.2.2.1] (Eu h32) (ds0 (.str ((⟨#[40]⟩:ByteArray)++y32)) (Ch (a:=(⟨#[40]⟩:ByteArray)) (b:=y32) (by kernel_rfl) (by kernel_rfl) g33) (ds0 (.str (((⟨#[40]⟩:ByteArray)++y32)++(⟨#[62]⟩:ByteArray))) (Ch (a:=(⟨#[40]⟩:ByteArray)++y32) (b:=(⟨#[62]⟩:ByteArray)) (by kernel_rfl) (by kernel_rfl) g34) (dz0 (.box (oi 0 1) 3) (dzl (tI x18.2.2.2) (dzc (.str y35) [] [tI x18.2.2.2] (Eu h35) (ds0 (.str ((((⟨#[40]⟩:ByteArray)++y32)++(⟨#[62]⟩:ByteArray))++y35)) (Ch (a:=((⟨#[40]⟩:ByteArray)++y32)++(⟨#[62]⟩:ByteArray)) (b:=y35) (by kernel_rfl) (by kernel_rfl) g36) (ds0 (.str (((((⟨#[40]⟩:ByteArray)++y32)++(⟨#[62]⟩:ByteArray))++y35)++(⟨#[41]⟩:ByteArray))) (Ch (a:=(((⟨#[40]⟩:ByteArray)++y32)++(⟨#[62]⟩:ByteArray))++y35) (b:=(⟨#[41]⟩:ByteArray)) (by kernel_rfl) (by kernel_rfl) g37) (ds0 (.str (u1++(((((⟨#[40]⟩:ByteArray)++y32)++(⟨#[62]⟩:ByteArray))++y35)++(⟨#[41]⟩:ByteArray)))) (Ch (a:=u1) (b:=((((⟨#[40]⟩:ByteArray)++y32)++(⟨#[62]⟩:ByteArray))++y35)++(⟨#[41]⟩:ByteArray)) (by kernel_rfl) (by kernel_rfl) g38) (dz0 (.str (u1++(((((⟨#[40]⟩:ByteArray)++y32)++(⟨#[62]⟩:ByteArray))++y35)++(⟨#[41]⟩:ByteArray)))) (N9 (Cf (by kernel_rfl)) (bn_ (tn_ (wr_ ?_)))))))))))))))));obtain ⟨g39,h⟩:=Au h;refine Aa 17 (zA g39 (rsT 1 (As (tn_ ?_))));obtain rfl:=zj h;exact ⟨(u1++(((((⟨#[40]⟩:ByteArray)++y32)++(⟨#[62]⟩:ByteArray))++y35)++(⟨#[41]⟩:ByteArray)),u3+1),_,Ac [],⟨u1++(((((⟨#[40]⟩:ByteArray)++y32)++(⟨#[62]⟩:ByteArray))++y35)++(⟨#[41]⟩:ByteArray)),u3+1,rfl,rfl⟩,hn12⟩
  have q15_:=of_decide_eq_false q15;refine Ae q15 (A8 (te_ (te_ (be_ (tn_ ?_)))));obtain rfl:=zj h;have h:=hn12
  (try dsimp only at h);obtain rfl:=zj h;exact ⟨_,Ac [],rfl⟩
 rintro u7 _ rfl h
 (try dsimp only at h);refine Am (Ai ?_);obtain rfl:=zj h;exact A7 [.str u7] (At rfl zl Ax)
def Hf:AC :=
 (.seq (rg [xo 1 (.i (.box 31 (tm 0))),⟨some 2,none,.i (.mov (.cst (.str ⟨#[]⟩)))⟩,xo 3 (qm (cb false))])
 (.seq (.seq (rg [xo 4 (.i (.ld false 4 (tm 1))),⟨some 5,none,qc 17 [tm 4] [[none,some (.pair .int (.pair .int (.pair sI sI))),some .int,some .int]]⟩,xo 6 (.i (.not (tm 5)))])
 (.cond (tm 6)
  (.seq (rg [⟨some 2,none,.i (.mov (.cst (.str ⟨#[]⟩)))⟩,xo 3 (qm (cb false))])
  .ret)
  .skip))
 (.seq (rg [xo 7 (.i (.ld false 4 (tm 1))),⟨some 8,none,qc 18 [tm 7] [[none,some (.pair .int (.pair .int (.pair sI sI))),some .int,some .int]]⟩,xm 2 8,xo 3 (qm (cb true))])
 .ret)))
def Mc:List Res:=[.tmp 2,.tmp 3]
theorem Mm:Ap Tryd.prog Tryd.f6=some (Hf,Mc):=by kernel_rfl
def Dx (u0:Int) (u1:List (Int×Int×(List Int)×List Int)) (u2 u3:List Int):Option (ByteArray×Bool) :=
 (Dn u0 u1 u2 u3).bind fun y4 =>
cond (!y4)
 (some ((⟨#[]⟩:ByteArray),false))
 ((D9 u0 u1 u2 u3).bind fun y8 =>
 some (y8,true))
def Li (r:ByteArray×Bool):RV:=⟨true,[(false,[.sc (.str r.1)]),(false,[.sc (.bool r.2)])]⟩
theorem Lt {u0:Int} {u1:List (Int×Int×(List Int)×List Int)} {u2 u3:List Int} {r:ByteArray×Bool} (h:Dx u0 u1 u2 u3=some r):Ay Tryd.prog Tab 6 [.agg [ai u0,.tree (.pair .int (.pair .int (.pair sI sI))) u1,tI u2,tI u3]] (Li r):=by
 refine A0 (by kernel_rfl) Tryd.func6 Mm (n:=9) (by kernel_rfl) (by simp) rfl ?_;unfold Hf;unfold Dx at h;refine Am (Ab (Ab ?_));obtain ⟨y4,h4,h⟩:=Ag h;refine Aa 7 (rsT 1 (zc (.bool y4) [] [.agg [ai u0,.tree (.pair .int (.pair .int (.pair sI sI))) u1,tI u2,tI u3]] (Nl h4) (rsT 1 (As (tn_ (wr_ ?_))))));rcases Ad h with ⟨q5,h⟩ | ⟨q5,h⟩
 ·refine Af q5 (Am (Ai (tr_ ?_)));obtain rfl:=zj h;exact A7 [.str (⟨#[]⟩:ByteArray),.bool false] (At rfl zl (At rfl zl Ax))
 refine Ae q5 (Aj (tn_ (wr_ (Ab ?_))));obtain ⟨y8,h8,h⟩:=Ag h;refine Aa 11 (rsT 1 (zc (.str y8) [] [.agg [ai u0,.tree (.pair .int (.pair .int (.pair sI sI))) u1,tI u2,tI u3]] (O4 h8) (rsT 2 (As (tn_ (wr_ (Ai ?_)))))));obtain rfl:=zj h;exact A7 [.str y8,.bool true] (At rfl zl (At rfl zl Ax))
def Hh:AC :=
 (.seq (rg [xo 0 (qm (.cst .nils))])
 (.seq (rg [⟨some 1,none,.mkS 9 .str [.cst (.str ⟨#[]⟩),.cst (.str ⟨#[105,100]⟩),.cst (.str ⟨#[115,119,97,112]⟩),.cst (.str ⟨#[99,111,112,121]⟩),.cst (.str ⟨#[100,105,115,99,97,114,100]⟩),.cst (.str ⟨#[97,100,100]⟩),.cst (.str ⟨#[122,101,114,111]⟩),.cst (.str ⟨#[115,99,97,108,101]⟩),.cst (.str ⟨#[100,101,108,97,121]⟩),.cst (.str ⟨#[99,111,99,111,112,121]⟩),.cst (.str ⟨#[99,111,100,105,115,99,97,114,100]⟩),.cst (.str ⟨#[99,111,97,100,100]⟩),.cst (.str ⟨#[99,111,122,101,114,111]⟩),.cst (.str ⟨#[99,111,115,99,97,108,101]⟩),.cst (.str ⟨#[99,111,100,101,108,97,121]⟩)]⟩,xm 0 1])
 .ret))
def M6:List Res:=[.tmp 0]
theorem Ml:Ap Tryd.prog Tryd.f70=some (Hh,M6):=by kernel_rfl
def Dv  : Option (List ByteArray) :=
 some ([(⟨#[]⟩:ByteArray),(⟨#[105,100]⟩:ByteArray),(⟨#[115,119,97,112]⟩:ByteArray),(⟨#[99,111,112,121]⟩:ByteArray),(⟨#[100,105,115,99,97,114,100]⟩:ByteArray),(⟨#[97,100,100]⟩:ByteArray),(⟨#[122,101,114,111]⟩:ByteArray),(⟨#[115,99,97,108,101]⟩:ByteArray),(⟨#[100,101,108,97,121]⟩:ByteArray),(⟨#[99,111,99,111,112,121]⟩:ByteArray),(⟨#[99,111,100,105,115,99,97,114,100]⟩:ByteArray),(⟨#[99,111,97,100,100]⟩:ByteArray),(⟨#[99,111,122,101,114,111]⟩:ByteArray),(⟨#[99,111,115,99,97,108,101]⟩:ByteArray),(⟨#[99,111,100,101,108,97,121]⟩:ByteArray)])
def Lv (r:List ByteArray):RV:=⟨false,[(false,[.new 9 .str r])]⟩
theorem Ld {r:List ByteArray} (h:Dv=some r):Ay Tryd.prog Tab 70 [] (Lv r):=by
 refine A0 (by kernel_rfl) Tryd.func70 Ml (n:=2) (by kernel_rfl) (by simp) rfl ?_;unfold Hh;unfold Dv at h;refine Am (Am (Ai ?_));obtain rfl:=zj h;exact A7 [.own (oi 1 2) .str 0 15] (At rfl (U6 (by kernel_rfl) rfl) Ax)
def Ho:AC :=
 (.seq (rg [xo 1 (.i (.box 66 (tm 0))),⟨some 2,none,.i (.mov (.cst (.str ⟨#[]⟩)))⟩])
 (.seq (.region [xo 4 (qc 70 [] []),xf 5 0 1,xl 6 5,xx 7 1 4 6,xl 8 7,xm 3 8] true [(0,2)])
 (.seq (.seq (rg [xf 9 0 1,xl 10 9,xo 11 (qc 71 [tm 10] [[]])])
 (.cond (tm 11)
  (rg [xm 12 3,xf 13 1 1,xl 14 13,xo 15 (qc 46 [tm 14] [[]]),⟨some 16,none,.i (.bin .add (.cst (.str ⟨#[58]⟩)) (tm 15))⟩,xo 17 (qb .add (tm 12) (tm 16)),xm 3 17])
  .skip))
 (.seq (.region [xm 18 3,⟨some 19,none,.i (.bin .add (tm 18) (.cst (.str ⟨#[40]⟩)))⟩,xf 20 2 1,xl 21 20,xo 22 (qc 47 [tm 21] [[some .int]]),xo 23 (qb .add (tm 19) (tm 22)),⟨some 24,none,.i (.bin .add (tm 23) (.cst (.str ⟨#[62]⟩)))⟩,xf 25 3 1,xl 26 25,xo 27 (qc 47 [tm 26] [[some .int]]),xo 28 (qb .add (tm 24) (tm 27)),⟨some 29,none,.i (.bin .add (tm 28) (.cst (.str ⟨#[41]⟩)))⟩,xm 2 29] true [(4,8)])
 .ret))))
def Mq:List Res:=[.tmp 2]
theorem Mi:Ap Tryd.prog Tryd.f48=some (Ho,Mq):=by kernel_rfl
def C6 (u1 u2:Int) (u3 u4:List Int):Option ByteArray :=
 (Dv).bind fun y3 =>
(J0 y3 u1).bind fun x4 =>
((B4 u1).bind fun y7 =>
 cond y7
  ((Bn u2).bind fun y9 =>
  og ((⟨#[58]⟩:ByteArray).size+y9.size<=9223372036854775807) <|
  og (x4.size+((⟨#[58]⟩:ByteArray)++y9).size<=9223372036854775807) <|
  some (x4++((⟨#[58]⟩:ByteArray)++y9)))
  (some x4)).bind fun u0 =>
og (u0.size+(⟨#[40]⟩:ByteArray).size<=9223372036854775807) <|
(Bl u3).bind fun y14 =>
og ((u0++(⟨#[40]⟩:ByteArray)).size+y14.size<=9223372036854775807) <|
og (((u0++(⟨#[40]⟩:ByteArray))++y14).size+(⟨#[62]⟩:ByteArray).size<=9223372036854775807) <|
(Bl u4).bind fun y17 =>
og ((((u0++(⟨#[40]⟩:ByteArray))++y14)++(⟨#[62]⟩:ByteArray)).size+y17.size<=9223372036854775807) <|
og (((((u0++(⟨#[40]⟩:ByteArray))++y14)++(⟨#[62]⟩:ByteArray))++y17).size+(⟨#[41]⟩:ByteArray).size<=9223372036854775807) <|
some (((((u0++(⟨#[40]⟩:ByteArray))++y14)++(⟨#[62]⟩:ByteArray))++y17)++(⟨#[41]⟩:ByteArray))
def L6 (r:ByteArray):RV:=⟨false,[(false,[.sc (.str r)])]⟩
theorem Lz {u1 u4:Int} {u2 u3:List Int} {r:ByteArray} (h:C6 u1 u4 u2 u3=some r):Ay Tryd.prog Tab 48 [.agg [ai u1,ai u4,tI u2,tI u3]] (L6 r):=by
 refine A0 (by kernel_rfl) Tryd.func48 Mi (n:=30) (by kernel_rfl) (by simp) rfl ?_;unfold Ho;unfold C6 at h;refine Am (Ab ?_);obtain ⟨y3,h3,h⟩:=Ag h;obtain ⟨x4,f4,h⟩:=Ag h;obtain ⟨p4,b4,e4⟩:=Em f4;refine Be 9 (dzc (.own (oi 64 3) .str 0 y3.length) [(oi 64 3,some (.arr 9 .str y3))] [] (Ld h3) (dz0 (.box (oi 1 1) 0) (dzl (ai u1) (ds0 (.elt (oi 64 3) u1.toNat 0) (zo (t:=.str) (o:=oi 64 3) (len:=y3.length) (k:=.i64) (m:=u1) p4 (Bj e4)) (dsl (.str x4) (Vv (i:=oi 64 3) (j:=u1.toNat) (k:=0) (e:=9) (t:=.str) (xs:=y3) (by kernel_rfl) (by kernel_rfl) e4 (by kernel_rfl)) (dz0 (.str x4) (N9 (Cf (by kernel_rfl)) (tn_ (wr_ (A3 h (fun (u0:ByteArray) S_=>S_=⟨Al [(1,.box (oi 0 1) 0),(3,.str u0)],Ah (Aq [(oi 0 1,.cells 66 [ai u1,ai u4,tI u2,tI u3])]),2⟩) ?_ ?_))))))))))
 ·intro v_ h;refine Ab ?_;obtain ⟨y7,h7,h⟩:=Ag h;refine Aa 12 (rsT 2 (zc (.bool y7) [] [ai u1] (Hs h7) (As (tn_ (wr_ ?_)))));rcases Ad h with ⟨q8,h⟩ | ⟨q8,h⟩
  ·refine Af q8 ?_;obtain ⟨y9,h9,h⟩:=Ag h;obtain ⟨g10,h⟩:=Au h;obtain ⟨g11,h⟩:=Au h;refine Aa 19 (rsT 3 (zc (.str y9) [] [ai u4] (Fn h9) (rs0 (.str ((⟨#[58]⟩:ByteArray)++y9)) (Ch (a:=(⟨#[58]⟩:ByteArray)) (b:=y9) (by kernel_rfl) (by kernel_rfl) g10) (rs0 (.str (x4++((⟨#[58]⟩:ByteArray)++y9))) (Ch (a:=x4) (b:=(⟨#[58]⟩:ByteArray)++y9) (by kernel_rfl) (by kernel_rfl) g11) (rsT 1 (As (tn_ ?_)))))));obtain rfl:=zj h;exact ⟨_,Ac [(oi 0 1,oi 1 1)],rfl⟩
  refine Ae q8 (Aj (tn_ ?_));obtain rfl:=zj h;exact ⟨_,Ac [(oi 0 1,oi 1 1)],rfl⟩
 rintro u0 _ rfl h
 (try dsimp only at h);refine Ab ?_;obtain ⟨g13,h⟩:=Au h;obtain ⟨y14,h14,h⟩:=Ag h;obtain ⟨g15,h⟩:=Au h;obtain ⟨g16,h⟩:=Au h;obtain ⟨y17,h17,h⟩:=Ag h;obtain ⟨g18,h⟩:=Au h;obtain ⟨g19,h⟩:=Au h;refine Be 15 (dz0 (.str u0) (ds0 (.str (u0++(⟨#[40]⟩:ByteArray))) (Ch (a:=u0) (b:=(⟨#[40]⟩:ByteArray)) (by kernel_rfl) (by kernel_rfl) g13) (dz0 (.box (oi 0 1) 2) (dzl (tI u2) (dzc (.str y14) [] [tI u2] (Er h14) (ds0 (.str ((u0++(⟨#[40]⟩:ByteArray))++y14)) (Ch (a:=u0++(⟨#[40]⟩:ByteArray)) (b:=y14) (by kernel_rfl) (by kernel_rfl) g15) (ds0 (.str (((u0++(⟨#[40]⟩:ByteArray))++y14)++(⟨#[62]⟩:ByteArray))) (Ch (a:=(u0++(⟨#[40]⟩:ByteArray))++y14) (b:=(⟨#[62]⟩:ByteArray)) (by kernel_rfl) (by kernel_rfl) g16) (dz0 (.box (oi 0 1) 3) (dzl (tI u3) (dzc (.str y17) [] [tI u3] (Er h17) (ds0 (.str ((((u0++(⟨#[40]⟩:ByteArray))++y14)++(⟨#[62]⟩:ByteArray))++y17)) (Ch (a:=((u0++(⟨#[40]⟩:ByteArray))++y14)++(⟨#[62]⟩:ByteArray)) (b:=y17) (by kernel_rfl) (by kernel_rfl) g18) (ds0 (.str (((((u0++(⟨#[40]⟩:ByteArray))++y14)++(⟨#[62]⟩:ByteArray))++y17)++(⟨#[41]⟩:ByteArray))) (Ch (a:=(((u0++(⟨#[40]⟩:ByteArray))++y14)++(⟨#[62]⟩:ByteArray))++y17) (b:=(⟨#[41]⟩:ByteArray)) (by kernel_rfl) (by kernel_rfl) g19) (dz0 (.str (((((u0++(⟨#[40]⟩:ByteArray))++y14)++(⟨#[62]⟩:ByteArray))++y17)++(⟨#[41]⟩:ByteArray))) (N9 (Cf (by kernel_rfl)) (tn_ (wr_ (Ai ?_)))))))))))))))));obtain rfl:=zj h;exact A7 [.str (((((u0++(⟨#[40]⟩:ByteArray))++y14)++(⟨#[62]⟩:ByteArray))++y17)++(⟨#[41]⟩:ByteArray))] (At rfl zl Ax)
def Fg:AC :=
 (.seq (rg [xs1 20 19 18])
 (.seq (.cond (tm 20)
  .skip
  (.exit 0))
 (.seq (.block 1 (.seq (rg [xx 21 4 17 19,xo 22 (.i (.ld false 4 (tm 21))),xo 5 (.i (.alloc 66 [.int .i64 0,.int .i64 0,.nils,.nils])),xn (.st false 4 (tm 5) (tm 22))])
 (rg [xm 23 3,xo 24 (.i (.ld false 4 (tm 5))),xo 25 (qc 48 [tm 24] [[none,none,some .int,some .int]]),xo 26 (.mkS 9 .str [tm 25]),xo 27 (.append 9 .str 16 (tm 23) (tm 26)),xm 3 27])))
 (rg [xa 28 19,xm 19 28]))))
def Gn:AC :=
 (.seq (rg [xo 1 (.i (.box 31 (tm 0))),⟨some 2,none,.i (.mov (.cst (.str ⟨#[]⟩)))⟩])
 (.seq (.region [xf 6 0 1,xl 7 6,xo 8 (qc 46 [tm 7] [[]]),xf 9 2 1,xl 10 9,xo 11 (qc 47 [tm 10] [[some .int]]),xf 12 3 1,xl 13 12,xo 14 (qc 47 [tm 13] [[some .int]]),xo 15 (.mkS 9 .str [tm 8,tm 11,tm 14]),xm 3 15] true [(2,4),(2,7),(5,7)])
 (.seq (.seq (rg [xf 16 1 1,xl 17 16,xn1 18 17,xo 19 (qm (ci 0))])
 (.block 0 (.loop Fg)))
 (.seq (rg [xm 29 3,⟨some 30,none,qc 49 [tm 29,.cst (.str ⟨#[124]⟩)] [[some .str],[]]⟩,xm 2 30])
 .ret))))
def Lh:List Res:=[.tmp 2]
theorem Lk:Ap Tryd.prog Tryd.f22=some (Gn,Lh):=by kernel_rfl
def Bc (u2:List (Int×Int×(List Int)×List Int)) (u0:Nat) (u1:List ByteArray):Option (Ctl (Nat×List ByteArray) (List ByteArray)) :=
 cond (decide ((u0:Int)<(u2.length:Int)))
 ((u2[u0]?).bind fun x14 =>
 (C6 x14.1 x14.2.1 x14.2.2.1 x14.2.2.2).bind fun y15 =>
 og (u1.length+1<=1073741824∧(u1.length+1)*16<=140737488355328) <|
 og (u0+1<4611686018427387904) <|
 some (Ctl.next (u0+1,u1++([y15]))))
 (some (Ctl.out u1))
def Cs (u0:Int) (u1:List (Int×Int×(List Int)×List Int)) (u2 u3:List Int):Option ByteArray :=
 (Bn u0).bind fun y3 =>
(Bl u2).bind fun y4 =>
(Bl u3).bind fun y5 =>
(A9 (fun s_:Nat×List ByteArray=>Bc u1 s_.1 s_.2) 4611686018427387904 (0,[y3,y4,y5])).bind fun u4 =>
(C5 u4 (⟨#[124]⟩:ByteArray)).bind fun y19 =>
some y19
def Ky (r:ByteArray):RV:=⟨false,[(false,[.sc (.str r)])]⟩
theorem K0 {u4:Int} {u2:List (Int×Int×(List Int)×List Int)} {u5 u6:List Int} {r:ByteArray} (h:Cs u4 u2 u5 u6=some r):Ay Tryd.prog Tab 22 [.agg [ai u4,.tree (.pair .int (.pair .int (.pair sI sI))) u2,tI u5,tI u6]] (Ky r):=by
 refine A0 (by kernel_rfl) Tryd.func22 Lk (n:=31) (by kernel_rfl) (by simp) rfl ?_;unfold Gn;unfold Cs at h;refine Am (Ab ?_);obtain ⟨y3,h3,h⟩:=Ag h;obtain ⟨y4,h4,h⟩:=Ag h;obtain ⟨y5,h5,h⟩:=Ag h;refine Be 14 (dz0 (.box (oi 1 1) 0) (dzl (ai u4) (dzc (.str y3) [] [ai u4] (Fn h3) (dz0 (.box (oi 1 1) 2) (dzl (tI u5) (dzc (.str y4) [] [tI u5] (Er h4) (dz0 (.box (oi 1 1) 3) (dzl (tI u6) (dzc (.str y5) [] [tI u6] (Er h5) (ds1 (.own (oi 15 12) .str 0 3) (oi 15 12) (.arr 9 .str ([y3,y4,y5])) (by kernel_rfl) (dz0 (.own (oi 15 12) .str 0 3) (N9 (Cf (by kernel_rfl)) (tn_ (wr_ (A3 h (fun (u3:List ByteArray) S_=>S_=⟨Al [(3,.own (oi 0 1) .str 0 u3.length)],Ah (Aq [(oi 0 1,.arr 9 .str u3)]),2⟩) ?_ ?_)))))))))))))))
 ·intro v_ h;refine Am (An (Bb h (fun t_ S_=>∃ (u1:Nat),∃ (u0:List ByteArray),t_=(u1,u0)∧S_=⟨Al [(3,.own (oi 0 1) .str 0 u0.length),(17,.tree (.pair .int (.pair .int (.pair sI sI))) u2),(18,an u2.length),(19,an u1)],Ah (Aq [(oi 0 1,.arr 9 .str u0)]),2⟩) ⟨_,Ac [(oi 0 1,oi 15 12)],⟨0,[y3,y4,y5],rfl,rfl⟩⟩ ?_));rintro n_ _ _ c_ ⟨u1,u0,rfl,rfl⟩ h hn8
  (try dsimp only at h);unfold Bc at h;unfold Fg;refine Am (Ab ?_);rcases Ad h with ⟨q11,h⟩ | ⟨q11,h⟩
  ·have q11_:=of_decide_eq_true q11;refine Af q11 (Aj (tn_ (wr_ (Ab (An (Ab ?_))))));obtain ⟨x14,e14,h⟩:=Ag h;refine Aa 7 (rs0 (.telt none (.pair .int (.pair .int (.pair sI sI))) x14 0) (zi (t:=.pair .int (.pair .int (.pair sI sI))) (xs:=u2) (k:=.i64) (m:=(u1:Int)) (F3 _) e14) (rsB 3 (As (tn_ (wr_ ?_)))));obtain ⟨y15,h15,h⟩:=Ag h;obtain ⟨g16,h⟩:=Au h;refine Aa 13 (rsT 2 (zc (.str y15) [] [.agg [ai x14.1,ai x14.2.1,tI x14.2.2.1,tI x14.2.2.2]] (Lz h15) (rsB 1 (rs2 (.own (oi 0 11) .str 0 ((u0++([y15])).length)) (oi 0 1) (oi 0 11) (.arr 9 .str (u0++([y15]))) (Z9 (t:=.str) (t':=.str) (xs:=u0) (ys:=[y15]) (zs:=u0++([y15])) (j:=oi 0 1) (len:=u0.length) (c:=.own (oi 26 10) .str 0 1) (by kernel_rfl) (by kernel_rfl) rfl (by kernel_rfl) (Abn (e:=9) (by kernel_rfl) rfl) rfl g16) (rsT 1 (As (bn_ (tn_ (wr_ ?_)))))))));obtain ⟨g17,h⟩:=Au h;refine Aa 15 (zA g17 (rsT 1 (As (tn_ ?_))));obtain rfl:=zj h;exact ⟨(u1+1,u0++([y15])),_,Ac [(oi 0 1,oi 0 11)],⟨u1+1,u0++([y15]),rfl,rfl⟩,hn8⟩
  have q11_:=of_decide_eq_false q11;refine Ae q11 (A8 (te_ (te_ (be_ (tn_ ?_)))));obtain rfl:=zj h;have h:=hn8
  (try dsimp only at h);obtain rfl:=zj h;exact ⟨_,Ac [],rfl⟩
 rintro u3 _ rfl h
 (try dsimp only at h);refine Ab ?_;obtain ⟨y19,h19,h⟩:=Ag h;refine Aa 5 (rsT 1 (Ii (.str y19) [] [.own (oi 0 1) .str 0 u3.length,.str (⟨#[124]⟩:ByteArray)] _ (caps:=[]) (args0:=[.tree .str u3,.str (⟨#[124]⟩:ByteArray)]) trivial (Om (W8 (e:=9) (by kernel_rfl) rfl) (Om (by kernel_rfl) Z5)) (Ih h19) Ie (rsT 1 (As (tn_ (wr_ (Ai ?_)))))));obtain rfl:=zj h;exact A7 [.str y19] (At rfl zl Ax)
def Hi:AC :=
 (.seq (rg [xo 1 (.i (.box 31 (tm 0))),⟨some 2,none,.i (.mov (.cst (.str ⟨#[]⟩)))⟩,xo 3 (qm (cb false))])
 (.seq (.seq (rg [xo 4 (.i (.ld false 4 (tm 1))),⟨some 5,none,qc 21 [tm 4] [[none,some (.pair .int (.pair .int (.pair sI sI))),some .int,some .int]]⟩,xo 6 (.i (.not (tm 5)))])
 (.cond (tm 6)
  (.seq (rg [⟨some 2,none,.i (.mov (.cst (.str ⟨#[]⟩)))⟩,xo 3 (qm (cb false))])
  .ret)
  .skip))
 (.seq (rg [xo 7 (.i (.ld false 4 (tm 1))),⟨some 8,none,qc 22 [tm 7] [[none,some (.pair .int (.pair .int (.pair sI sI))),some .int,some .int]]⟩,xm 2 8,xo 3 (qm (cb true))])
 .ret)))
def Mh:List Res:=[.tmp 2,.tmp 3]
theorem Mz:Ap Tryd.prog Tryd.f8=some (Hi,Mh):=by kernel_rfl
def Dy (u0:Int) (u1:List (Int×Int×(List Int)×List Int)) (u2 u3:List Int):Option (ByteArray×Bool) :=
 (Bz u0 u1 u2 u3).bind fun y4 =>
cond (!y4)
 (some ((⟨#[]⟩:ByteArray),false))
 ((Cs u0 u1 u2 u3).bind fun y8 =>
 some (y8,true))
def Lf (r:ByteArray×Bool):RV:=⟨true,[(false,[.sc (.str r.1)]),(false,[.sc (.bool r.2)])]⟩
theorem L0 {u0:Int} {u1:List (Int×Int×(List Int)×List Int)} {u2 u3:List Int} {r:ByteArray×Bool} (h:Dy u0 u1 u2 u3=some r):Ay Tryd.prog Tab 8 [.agg [ai u0,.tree (.pair .int (.pair .int (.pair sI sI))) u1,tI u2,tI u3]] (Lf r):=by
 refine A0 (by kernel_rfl) Tryd.func8 Mz (n:=9) (by kernel_rfl) (by simp) rfl ?_;unfold Hi;unfold Dy at h;refine Am (Ab (Ab ?_));obtain ⟨y4,h4,h⟩:=Ag h;refine Aa 7 (rsT 1 (zc (.bool y4) [] [.agg [ai u0,.tree (.pair .int (.pair .int (.pair sI sI))) u1,tI u2,tI u3]] (Ik h4) (rsT 1 (As (tn_ (wr_ ?_))))));rcases Ad h with ⟨q5,h⟩ | ⟨q5,h⟩
 ·refine Af q5 (Am (Ai (tr_ ?_)));obtain rfl:=zj h;exact A7 [.str (⟨#[]⟩:ByteArray),.bool false] (At rfl zl (At rfl zl Ax))
 refine Ae q5 (Aj (tn_ (wr_ (Ab ?_))));obtain ⟨y8,h8,h⟩:=Ag h;refine Aa 11 (rsT 1 (zc (.str y8) [] [.agg [ai u0,.tree (.pair .int (.pair .int (.pair sI sI))) u1,tI u2,tI u3]] (K0 h8) (rsT 2 (As (tn_ (wr_ (Ai ?_)))))));obtain rfl:=zj h;exact A7 [.str y8,.bool true] (At rfl zl (At rfl zl Ax))
def Ek:AC :=
 (.seq (rg [xo 1 (.i (.box 25 (tm 0))),xo 2 (qm (cb false))])
 (.seq (rg [xo 3 (qm (ci 1048576))])
 (.seq (rg [xo 9 (.i (.ld false 4 (tm 1))),xm 10 3,⟨some 11,none,qc 5 [tm 9,tm 10] [[none,some (.pair .int (.pair .int (.pair sI sI))),some .int,some .int],[]]⟩,xm 3 11])
 (.seq (.seq (rg [xm 12 3,xo 13 (qb .lss (tm 12) (ci 0))])
 (.cond (tm 13)
  (.seq (rg [xo 2 (qm (cb true))])
  .ret)
  .skip))
 (.seq (rg [xo 15 (.i (.ld false 4 (tm 1))),⟨some 16,none,qc 7 [tm 15] [[none,some (.pair .int (.pair .int (.pair sI sI))),some .int,some .int]]⟩,⟨some 17,none,qc 6 [tm 16] [[none,some (.pair .int (.pair .int (.pair sI sI))),some .int,some .int]]⟩,xm 14 17,xo 18 (.i (.extr 0 (tm 14))),xo 19 (.i (.extr 1 (tm 14))),xm 4 18,xm 5 19])
 (.seq (rg [xo 20 (.i (.ld false 4 (tm 1))),⟨some 21,none,qc 7 [tm 20] [[none,some (.pair .int (.pair .int (.pair sI sI))),some .int,some .int]]⟩,xo 6 (.i (.alloc 31 [.int .i64 0,.nils,.nils,.nils])),xn (.st false 4 (tm 6) (tm 21))])
 (.seq (rg [xo 23 (.i (.ld false 4 (tm 6))),⟨some 24,none,qc 8 [tm 23] [[none,some (.pair .int (.pair .int (.pair sI sI))),some .int,some .int]]⟩,xm 22 24,xo 25 (.i (.extr 0 (tm 22))),xo 26 (.i (.extr 1 (tm 22))),xm 7 25,xm 8 26])
 (.seq (.seq (rg [xm 27 7,xm 28 4,xo 29 (qb .neq (tm 27) (tm 28)),xm 30 29,⟨some 31,some (30,false),qm (tm 8)⟩,⟨some 32,some (30,false),qm (tm 5)⟩,⟨some 33,some (30,false),.i (.cmp true 0 (tm 31) (tm 32))⟩,xo 34 (.i (.pick (tm 30) (cb true) (tm 33)))])
 (.cond (tm 34)
  (.seq (rg [xo 2 (qm (cb false))])
  .ret)
  .skip))
 (.seq (.seq (.region [xo 35 (.i (.ld false 4 (tm 6))),xo 36 (.i (.ld false 4 (tm 1))),⟨some 37,none,qc 7 [tm 36] [[none,some (.pair .int (.pair .int (.pair sI sI))),some .int,some .int]]⟩,⟨some 38,none,qc 9 [tm 35,tm 37] [[none,some (.pair .int (.pair .int (.pair sI sI))),some .int,some .int],[none,some (.pair .int (.pair .int (.pair sI sI))),some .int,some .int]]⟩,xo 39 (.i (.not (tm 38)))] true [(0,2)])
 (.cond (tm 39)
  (.seq (rg [xo 2 (qm (cb false))])
  .ret)
  .skip))
 (.seq (rg [xo 2 (qm (cb true))])
 .ret))))))))))
def Hn:List Res:=[.tmp 2]
theorem Ha:Ap Tryd.prog Tryd.f3=some (Ek,Hn):=by kernel_rfl
def Bi (u0:Int) (u1:List (Int×Int×(List Int)×List Int)) (u2 u3:List Int):Option Bool :=
 (Du u0 u1 u2 u3 1048576).bind fun y4 =>
cond (decide (y4<0))
 (some true)
 ((Ci u0 u1 u2 u3).bind fun y10 =>
 (Dx y10.1 y10.2.1 y10.2.2.1 y10.2.2.2).bind fun y11 =>
 (Ci u0 u1 u2 u3).bind fun y13 =>
 (Dy y13.1 y13.2.1 y13.2.2.1 y13.2.2.2).bind fun y15 =>
 (cond (!(y15.1.toList==y11.1.toList))
   (some true)
   (some (y15.2 !=y11.2))).bind fun u4 =>
 cond u4
  (some false)
  ((Ci u0 u1 u2 u3).bind fun y23 =>
  (Dk y13.1 y13.2.1 y13.2.2.1 y13.2.2.2 y23.1 y23.2.1 y23.2.2.1 y23.2.2.2).bind fun y24 =>
  cond (!y24)
   (some false)
   (some true)))
def G7 (r:Bool):RV:=⟨false,[(false,[.sc (.bool r)])]⟩
theorem G1 {u0:Int} {u1:List (Int×Int×(List Int)×List Int)} {u2 u3:List Int} {r:Bool} (h:Bi u0 u1 u2 u3=some r):Ay Tryd.prog Tab 3 [.agg [ai u0,.tree (.pair .int (.pair .int (.pair sI sI))) u1,tI u2,tI u3]] (G7 r):=by
 refine A0 (by kernel_rfl) Tryd.func3 Ha (n:=40) (by kernel_rfl) (by simp) rfl ?_;unfold Ek;unfold Bi at h;refine Am (Am (Ab ?_));obtain ⟨y4,h4,h⟩:=Ag h;refine Aa 8 (rsT 2 (zc (ai y4) [] [.agg [ai u0,.tree (.pair .int (.pair .int (.pair sI sI))) u1,tI u2,tI u3],ai 1048576] (N3 h4) (rsT 1 (As (tn_ (wr_ (Ab (Am ?_))))))));rcases Ad h with ⟨q7,h⟩ | ⟨q7,h⟩
 ·have q7_:=of_decide_eq_true q7;refine Af q7 (Am (Ai (tr_ ?_)));obtain rfl:=zj h;exact A7 [.bool true] (At rfl zl Ax)
 have q7_:=of_decide_eq_false q7;refine Ae q7 (Aj (tn_ (wr_ (Ab ?_))));obtain ⟨y10,h10,h⟩:=Ag h;obtain ⟨y11,h11,h⟩:=Ag h;refine Aa 18 (rsT 1 (zc (.agg [ai y10.1,.tree (.pair .int (.pair .int (.pair sI sI))) y10.2.1,tI y10.2.2.1,tI y10.2.2.2]) [] [.agg [ai u0,.tree (.pair .int (.pair .int (.pair sI sI))) u1,tI u2,tI u3]] (Fp h10) (zc (.tup [.str y11.1,.bool y11.2]) [] [.agg [ai y10.1,.tree (.pair .int (.pair .int (.pair sI sI))) y10.2.1,tI y10.2.2.1,tI y10.2.2.2]] (Lt h11) (rsT 5 (As (tn_ (wr_ (Ab ?_))))))));obtain ⟨y13,h13,h⟩:=Ag h;refine Aa 22 (rsT 1 (zc (.agg [ai y13.1,.tree (.pair .int (.pair .int (.pair sI sI))) y13.2.1,tI y13.2.2.1,tI y13.2.2.2]) [] [.agg [ai u0,.tree (.pair .int (.pair .int (.pair sI sI))) u1,tI u2,tI u3]] (Fp h13) (rsB 2 (As (tn_ (wr_ (Ab ?_)))))));obtain ⟨y15,h15,h⟩:=Ag h;refine Aa 29 (rsT 1 (zc (.tup [.str y15.1,.bool y15.2]) [] [.agg [ai y13.1,.tree (.pair .int (.pair .int (.pair sI sI))) y13.2.1,tI y13.2.2.1,tI y13.2.2.2]] (L0 h15) (rsT 5 (As (tn_ (wr_ (Ab (A3 h (fun (u4:Bool) S_=>S_=⟨Al [(1,.box (oi 0 1) 0),(6,.box (oi 1 1) 0),(34,.bool u4)],Ah (Aq [(oi 0 1,.cells 25 [ai u0,.tree (.pair .int (.pair .int (.pair sI sI))) u1,tI u2,tI u3]),(oi 1 1,.cells 31 [ai y13.1,.tree (.pair .int (.pair .int (.pair sI sI))) y13.2.1,tI y13.2.2.1,tI y13.2.2.2])]),2⟩) ?_ ?_))))))))
 ·intro v_ h;refine Aa 37 (rsT 4 ?_);rcases Ad h with ⟨q18,h⟩ | ⟨q18,h⟩
  ·refine rq 30 q18 (rsT 4 (As (tn_ ?_)));obtain rfl:=zj h;exact ⟨_,Ac [(oi 0 1,oi 1 1),(oi 1 1,oi 6 20)],rfl⟩
  refine rq 30 q18 (rsT 4 (As (tn_ ?_)));obtain rfl:=zj h;exact ⟨_,Ac [(oi 0 1,oi 1 1),(oi 1 1,oi 6 20)],rfl⟩
 rintro u4 _ rfl h
 (try dsimp only at h);rcases Ad h with ⟨q19,h⟩ | ⟨q19,h⟩
 ·refine Af q19 (Am (Ai (tr_ ?_)));obtain rfl:=zj h;exact A7 [.bool false] (At rfl zl Ax)
 refine Ae q19 (Aj (tn_ (wr_ (Ab (Ab ?_)))));obtain ⟨y23,h23,h⟩:=Ag h;obtain ⟨y24,h24,h⟩:=Ag h;refine Be 7 (dzl (.agg [ai y13.1,.tree (.pair .int (.pair .int (.pair sI sI))) y13.2.1,tI y13.2.2.1,tI y13.2.2.2]) (dzl (.agg [ai u0,.tree (.pair .int (.pair .int (.pair sI sI))) u1,tI u2,tI u3]) (dzc (.agg [ai y23.1,.tree (.pair .int (.pair .int (.pair sI sI))) y23.2.1,tI y23.2.2.1,tI y23.2.2.2]) [] [.agg [ai u0,.tree (.pair .int (.pair .int (.pair sI sI))) u1,tI u2,tI u3]] (Fp h23) (dzc (.bool y24) [] [.agg [ai y13.1,.tree (.pair .int (.pair .int (.pair sI sI))) y13.2.1,tI y13.2.2.1,tI y13.2.2.2],.agg [ai y23.1,.tree (.pair .int (.pair .int (.pair sI sI))) y23.2.1,tI y23.2.2.1,tI y23.2.2.2]] (N8 h24) (dz0 (.bool (!y24)) (N9 (Cf (by kernel_rfl)) (tn_ (wr_ ?_))))))));rcases Ad h with ⟨q25,h⟩ | ⟨q25,h⟩
 ·refine Af q25 (Am (Ai (tr_ ?_)));obtain rfl:=zj h;exact A7 [.bool false] (At rfl zl Ax)
 refine Ae q25 (Aj (tn_ (wr_ (Am (Ai ?_)))));obtain rfl:=zj h;exact A7 [.bool true] (At rfl zl Ax)
end

section
section
variable {α β σ ρ:Type}
theorem Sa {body:σ->Option (Ctl σ ρ)} {Post:ρ->Prop} (n:Nat) (I:Nat->σ->Prop)
  (hs:∀ i s,i<n->I i s->(∃ s',body s=some (.next s')∧I (i+1) s')∨∃ r,body s=some (.out r)∧Post r) (he:∀ s,I n s->∃ r,body s=some (.out r)∧Post r) :
  ∀ (F k:Nat) (s:σ),k<=n->n - k<F->I k s->∃ r,A9 body F s=some r∧Post r
 | 0,_,_,_,h,_=>by omega
 | F+1,k,s,hk,h,hi=>by
  have key:(∃ r,body s=some (.out r)∧Post r)->∃ r,A9 body (F+1) s=some r∧Post r:=by
   rintro ⟨r,h1,h2⟩;exact ⟨r,by simp only [A9,h1,obs,Ctl.then],h2⟩
  rcases Nat.lt_or_ge k n with hlt | hge
  ·rcases hs k s hlt hi with ⟨s',h1,h2⟩ | h
   ·obtain ⟨r,h3,h4⟩:=Sa n I hs he F (k+1) s' hlt (by omega) h2;exact ⟨r,by simp only [A9,h1,obs,Ctl.then]; exact h3,h4⟩
   ·exact key h
  ·obtain rfl:k=n:=by omega
   exact key (he s hi)
theorem Ql {body:σ->Option (Ctl σ ρ)} {Post:ρ->Prop} (n:Nat) (I:Nat->σ->Prop) {F:Nat} (hn:n<F) {s0:σ} (h0:I 0 s0)
  (hs:∀ i s,i<n->I i s->(∃ s',body s=some (.next s')∧I (i+1) s')∨∃ r,body s=some (.out r)∧Post r) (he:∀ s,I n s->∃ r,body s=some (.out r)∧Post r):∃ r,A9 body F s0=some r∧Post r :=
 Sa n I hs he F 0 s0 (Nat.zero_le _) (by omega) h0
theorem Vg {body:σ->Option (Ctl σ ρ)} (n:Nat) (I:Nat->σ->Prop) {F:Nat} (hn:n<F) {s0:σ} (r:ρ) (h0:I 0 s0)
  (hs:∀ i s,i<n->I i s->(∃ s',body s=some (.next s')∧I (i+1) s')∨body s=some (.out r)) (he:∀ s,I n s->body s=some (.out r)):A9 body F s0=some r:=by
 obtain ⟨r',h1,rfl⟩:=Ql (Post:=fun r'=>r'=r) n I hn h0 (fun i s hi hI=>(hs i s hi hI).imp id fun h=>⟨r,h,rfl⟩) (fun s h=>⟨r,he s h,rfl⟩);exact h1
theorem C7 {body:σ->Option (Ctl σ ρ)} (n:Nat) (S:Nat->σ) {F:Nat} (hn:n<F) {s0:σ} (r:ρ) (h0:s0=S 0) (hs:∀ i,i<n->body (S i)=some (.next (S (i+1)))) (he:body (S n)=some (.out r)):A9 body F s0=some r:=by
 subst h0;refine Vg n (fun i s=>s=S i) hn r rfl (fun i s hi e=>.inl ?_) (fun s e=>by subst e; exact he);subst e;exact ⟨_,hs i hi,rfl⟩
theorem Js {body:Nat->Option (Ctl Nat ρ)} (xs:List α) (q:α->Bool) (good bad:ρ) {F:Nat} (hn:xs.length<F) (hs:∀ i x,xs[i]? =some x->body i=some (if q x then .next (i+1) else .out bad)) (he:body xs.length=some (.out good)):A9 body F 0=some (if xs.all q then good else bad):=by
 refine Vg xs.length (fun i s=>s=i∧(xs.take i).all q=true) hn _ ⟨rfl,by simp⟩ ?_ ?_
 ·rintro i s hi ⟨hsi,hq⟩;subst s;have hx:=gEg hi;rw [hs i _ hx];cases hc:q xs[i]
  ·refine .inr ?_
   have:xs.all q=false:=by
    rw [Bool.eq_false_iff];intro ha;rw [List.all_eq_true] at ha;rw [ha _ (List.getElem_mem hi)] at hc;cases hc
   rw [this]; rfl
  ·refine .inl ⟨i+1,rfl,rfl,?_⟩;rw [List.take_add_one,List.all_append,hq,hx];simp [hc]
 ·rintro s ⟨rfl,hq⟩;rw [List.take_length] at hq;rw [he,hq]; rfl
theorem Sp {body:Nat×List β->Option (Ctl (Nat×List β) ρ)} (xs:List α) (f:α->β) (ys:List β) {F:Nat} (hn:xs.length<F) (r:ρ) (hs:∀ i x,xs[i]? =some x->body (i,ys++(xs.take i).map f)=some (.next (i+1,(ys++(xs.take i).map f)++[f x]))) (he:body (xs.length,ys++xs.map f)=some (.out r)):A9 body F (0,ys)=some r:=by
 refine C7 xs.length (fun i=>(i,ys++(xs.take i).map f)) hn r (by simp) (fun i hi=>?_) (by rw [List.take_length]; exact he);have hx:=gEg hi;rw [hs i _ hx,List.take_add_one,hx];simp only [List.map_append,Option.toList,List.map_cons,List.map_nil,List.append_assoc]
theorem R8 {xs:List α} {d:α} {i:Nat} (h:i<xs.length):(xs.take i++List.replicate (xs.length - i) d)[i]? =some d:=by
 have h1:(xs.take i).length=i:=by rw [List.length_take]; omega
 rw [List.getElem?_append_right (by omega),h1,Nat.sub_self,List.getElem?_replicate,if_pos (by omega)]
theorem Sj {xs:List α} {d x:α} {i:Nat} (h:xs[i]? =some x):(xs.take i++List.replicate (xs.length - i) d).set i x=xs.take (i+1)++List.replicate (xs.length - (i+1)) d:=by
 have hi:=(gSi.1 h).1;have e:xs.length - i=(xs.length - (i+1))+1:=by omega
 rw [List.take_add_one,h,e,List.replicate_succ,List.set_append,if_neg (by simp; omega)];simp [Nat.min_eq_left (Nat.le_of_lt hi)]
end
theorem Fw {n:Int} (h1: -9223372036854775808<=n) (h2:n<9223372036854775808):wI n=n:=Go.IntWalk.i64_in _ (by omega)
theorem Bs {p:Prop} [Decidable p] (h:p):decide p=true:=decide_eq_true h
theorem Bk {p:Prop} [Decidable p] (h:¬ p):decide p=false:=decide_eq_false h
end
section
def ba (l:List UInt8):ByteArray:=⟨l.toArray⟩
theorem B7 (a b:List UInt8):ba a++ba b=ba (a++b):=by
 apply ByteArray.ext; simp [ba]
theorem Jk (a:List UInt8):(ba a).size=a.length:=by simp [ba,ByteArray.size]
theorem X6 (a:List UInt8):(ba a).data.toList=a:=by simp [ba]
def dg (n:Int):List UInt8:=Lib.decDigits n.toNat
theorem Xv:∀ n,(Lib.decDigits n).length<=n+1:=by
 intro n
 induction n using Nat.strongRecOn with
 | _ n ih =>
  rw [Lib.decDigits];split
  ·simp
  ·rw [List.length_append,List.length_singleton];have:=ih (n / 10) (by omega);omega
theorem Acn:∀ (k n m:Nat),n<10 ^ (k+1)->n<=1000000->Bt (k+1+m) (n:Int)=some (ba (Lib.decDigits n)):=by
 intro k;have hw:∀ d:Fin 10,IntKind.u8.wrap (48+(d.val:Int))=((48+d.val:Nat):Int):=by decide
 have hb:∀ d:Nat,d<10->strOfNums [IntKind.u8.wrap (wI (48+(d:Int)))]=ba [UInt8.ofNat (48+d)]:=fun d hd=>by
  rw [Fw (by omega) (by omega),hw ⟨d,hd⟩];rfl
 induction k with
 | zero =>
  intro n m h _;rw [show 0+1+m=m+1 by omega];unfold Bt Dl;rw [Bs (show (n:Int)<10 by omega),cond_true,hb n (by omega),Lib.decDigits,dif_pos (by omega)]
 | succ k ih =>
  intro n m h hm;rw [show k+1+1+m=(k+1+m)+1 by omega];unfold Bt Dl;by_cases h10:n<10
  ·rw [Bs (show (n:Int)<10 by omega),cond_true,hb n (by omega),Lib.decDigits,dif_pos (by omega)]
  ·have hq:Int.tdiv (n:Int) 10=((n / 10:Nat):Int):=by rw [Int.tdiv_eq_ediv_of_nonneg (by omega)]; rfl
   have hr:Int.tmod (n:Int) 10=((n % 10:Nat):Int):=by rw [Int.tmod_eq_emod_of_nonneg (by omega)]; rfl
   have hl:=Xv (n / 10);rw [Bk (show ¬ (n:Int)<10 by omega),cond_false,hq,hr,Fw (n:=((n / 10:Nat):Int)) (by omega) (by omega),ih (n / 10) m (by rw [Nat.pow_succ] at h; omega) (by omega),obs,hb (n % 10) (by omega),A5 (by rw [Jk,Jk]; simp; omega),B7];congr 2
   conv=>rhs; rw [Lib.decDigits,dif_neg h10]
theorem Zu {n:Int} (h:0<=n∧n<=1000):Bt 4096 n=some (ba (dg n)):=by
 obtain ⟨k,rfl⟩:=Int.eq_ofNat_of_zero_le h.1;exact Acn 3 k 4092 (by omega) (by omega)
theorem T5 {α:Type} (f:α->List UInt8) (c:Nat):∀ (xs:List α),(∀ x∈xs,(f x).length<=c)->(xs.flatMap f).length<=c*xs.length
 | [],_=>by simp
 | x :: xs,h=>by
  rw [List.flatMap_cons,List.length_append,List.length_cons,Nat.mul_succ];have:=h x (by simp);have:=T5 f c xs fun y hy=>h y (by simp [hy])
  omega
theorem H3 {n:Int} (h:0<=n∧n<=100):(dg n).length<=101:=by
 have:=Xv n.toNat;unfold dg; omega
theorem U2 (xs:List (List UInt8)) (sep:List UInt8) (c:Nat) (h:∀ x∈xs,x.length<=c):(Lib.join xs sep).length<=(c+sep.length)*xs.length:=by
 cases xs with
 | nil=>simp [Lib.join_nil]
 | cons x r =>
  rw [Lib.join_cons,List.length_append];have h1:=h x (by simp)
  have h2:(Lib.joinTail sep r).length<=(sep.length+c)*r.length:=by
   unfold Lib.joinTail;have:=T5 (fun y=>sep++y) (sep.length+c) r (fun y hy=>by rw [List.length_append]; have:=h y (by simp [hy]); omega)
   rwa [List.flatMap_def] at this
  rw [List.length_cons,Nat.mul_succ,Nat.add_comm c];omega
theorem Aaw (xs:List (List UInt8)) (sep:List UInt8):Y8 (xs.map ba) (ba sep)=ba (Lib.join xs sep):=by
 unfold Y8;rw [List.map_map,X6];congr 3
 conv=>rhs; rw [← List.map_id xs]
 exact List.map_congr_left fun x _=>X6 x
def Gm (xs:List Int):Prop:=∀ n∈xs,0<=n∧n<100
theorem L8 {xs:List Int} (h:Gm xs) (hl:xs.length<=100):Bl xs=some (ba (Lib.join (xs.map dg) [44])):=by
 unfold Bl;have hloop:=Sp (body:=fun s_:Nat×List ByteArray=>Ce xs s_.1 s_.2) xs (fun n=>ba (dg n)) [] (F:=4611686018427387904) (by omega) (xs.map fun n=>ba (dg n)) (fun i x hx=>?_) ?_
 ·have hjl:(Lib.join (xs.map dg) [44]).length<=(101+1)*xs.length:=by
   have:=U2 (xs.map dg) [44] 101 (fun x hx=>by obtain ⟨n,hn,rfl⟩:=List.mem_map.1 hx; have:=h n hn; exact H3 (by omega))
   simpa using this
  have e:=Aaw (xs.map dg) [44];rw [List.map_map] at e;rw [show A9 (fun s_:Nat×List ByteArray=>Ce xs s_.1 s_.2) 4611686018427387904 (0,[])=some (xs.map fun n=>ba (dg n)) by simpa using hloop,obs];unfold C5;rw [show (⟨#[44]⟩:ByteArray)=ba [44] from rfl,show xs.map (fun n=>ba (dg n))=xs.map (ba∘dg) from rfl,e,A5 (by rw [Jk,List.length_map]; omega),obs]
 ·have:=Bj hx;have hn:=h x (List.mem_of_getElem? hx)
  try dsimp only
  unfold Ce Bn;rw [Bs (by omega),cond_true,hx,obs,A5 (by omega),obs,A5 (by simp; omega),A5 (by omega)];rfl
 ·try dsimp only
  unfold Ce;rw [Bk (by omega),cond_false,List.nil_append]
end
section
def szV (v:Int) (n:Nat):Int:=if v<n then -1 else v - n
theorem Ln (xs:List Int) {v:Int} (hv:0<=v∧v<=1048576) (hx:xs.length<=9223372036854775807):Cc xs v=some (szV v xs.length):=by
 unfold Cc szV;rw [Fw (by omega) (by omega)];by_cases h:v<xs.length
 ·rw [Bs (by omega),if_pos h]; rfl
 ·rw [Bk (by omega),if_neg h]; rfl
theorem Lj (xs:List Int) (hx:xs.length<=1073741824):B9 xs=some xs:=by
 unfold B9;rw [A5 (by omega)]
 have h:A9 (fun s_:Nat×List Int=>C1 xs s_.1 s_.2) 4611686018427387904 (0,List.replicate xs.length (0:Int))=some xs:=by
  refine C7 xs.length (fun i=>(i,xs.take i++List.replicate (xs.length - i) 0)) (by omega) xs (by simp) (fun i hi=>?_) ?_
  ·have hx:=gEg hi
   try dsimp only
   unfold C1;rw [Bs (by omega),cond_true,hx,obs,R8 hi,obs,A5 (by omega),Sj hx]
  ·try dsimp only
   unfold C1;rw [Bk (by omega),cond_false];simp
 rw [h]; rfl
theorem La (xs:List Int) (hx:xs.length<=1073741824):Ca xs xs=some true:=by
 unfold Ca
 have h:A9 (fun s_:Nat=>C3 xs xs s_) 4611686018427387904 0=some (.next ()):=by
  refine C7 xs.length (fun i=>i) (by omega) _ rfl (fun i hi=>?_) ?_
  ·have hx:=gEg hi
   try dsimp only
   unfold C3;rw [Bs (by omega),cond_true,hx,obs,obs,bne_self_eq_false,cond_false,A5 (by omega)]
  ·try dsimp only
   unfold C3;rw [Bk (by omega),cond_false]
 rw [h,bne_self_eq_false,cond_false]; rfl
end
section
theorem Xl (b:Bool):Qb (some (if b then Ctl.next () else Ctl.out false)) (fun _:Unit=>some true)=some b:=by cases b <;> rfl
theorem K5 (x lo hi:Int):Cb x lo hi=some (inR x lo hi):=by
 unfold Cb inR;by_cases h:lo<=x <;> simp [h]
theorem P8 (x lo hi:Int):B8 x lo hi=some (inR x lo hi):=by
 unfold B8 inR;by_cases h:lo<=x <;> simp [h]
theorem Ol (xs:List Int) (lo hi:Int) (hx:xs.length<=1099511627776):Cw xs lo hi=some (xs.all fun x=>inR x lo hi):=by
 unfold Cw;rw [Js xs (fun x=>inR x lo hi) (.next ()) (.out false) (by omega) (fun i x h=>?_) ?_,Xl]
 ·unfold Ed;rw [Bk (by omega),cond_false]
 ·have:=Bj h;unfold Ed;rw [Bs (by omega),cond_true,h,obs,K5,obs,A5 (by omega)];cases inR x lo hi <;> rfl
end
section
abbrev Edg:=Int×Int×List Int×List Int
def Acx (e:Edg):Prop:=e.2.2.1.length<=9223372036854775807∧e.2.2.2.length<=9223372036854775807
def Mv (e:Edg):Prop:=e.2.2.1.length<=1048576∧e.2.2.2.length<=1048576
theorem Jq (v:Int) (n:Nat) (hv:0<=v∧v<=1048576):(szV v n= -1)∨(szV v n=v - n∧0<=v - n∧n<=1048576):=by
 unfold szV;by_cases h:v<n
 ·rw [if_pos h]; exact .inl rfl
 ·rw [if_neg h]; exact .inr ⟨rfl,by omega,by omega⟩
theorem Aa6 (e1 e2:Int) (xs ys:List Int) (h1:xs.length<=9223372036854775807) (h2:ys.length<=9223372036854775807) {v:Int} (hv:0<=v∧v<=1048576) :
  ∃ y,D8 e1 e2 xs ys v=some y∧(y<0∨(0<=y∧y<=v∧xs.length<=1048576∧ys.length<=1048576)):=by
 unfold D8;rw [Ln xs hv h1,obs];rcases Jq v xs.length hv with h | ⟨h,h3,h4⟩
 ·rw [h]; exact ⟨_,rfl,.inl (by omega)⟩
 rw [h,Bk (by omega),cond_false,Ln ys (by omega) h2,obs];rcases Jq (v - xs.length) ys.length (by omega) with h | ⟨h,h5,h6⟩
 ·rw [h]; exact ⟨_,rfl,.inl (by omega)⟩
 rw [h,Bk (by omega),cond_false];exact ⟨_,rfl,.inr ⟨by omega,by omega,h4,h6⟩⟩
theorem Y5 (l:List Edg) {v:Int} (hv:0<=v∧v<=1048576) (hl:l.length<=9223372036854775807) (hi:∀ x∈l,Acx x):∃ y,Dq l v=some y∧(y<0∨(0<=y∧y<=v∧l.length<=1048576∧∀ x∈l,Mv x)):=by
 unfold Dq;rw [Fw (n:=v - ((l.length:Nat):Int)) (by omega) (by omega)];by_cases h:v - ((l.length:Nat):Int)<0
 ·rw [Bs h]; exact ⟨_,rfl,.inl (by omega)⟩
 rw [Bk h,cond_false]
 have key:∃ c,A9 (fun s_:Int×Nat=>Ct l s_.1 s_.2) 4611686018427387904 (v - ((l.length:Nat):Int),0)=some c∧((∃ y,c=Ctl.next y∧0<=y∧y<=v∧∀ x∈l,Mv x)∨∃ y,c=Ctl.out y∧y<0):=by
  refine Ql (Post:=fun c=>(∃ y,c=Ctl.next y∧0<=y∧y<=v∧∀ x∈l,Mv x)∨∃ y,c=Ctl.out y∧y<0) l.length (fun k s=>s.2=k∧0<=s.1∧s.1<=v∧∀ x∈l.take k,Mv x) (by omega) ⟨rfl,by dsimp only; omega,by dsimp only; omega,by simp⟩ ?_ ?_
  ·rintro k ⟨y,k'⟩ hk ⟨h1,h2,h3,h4⟩;dsimp only at h1 h2 h3;subst h1;have hn:=gEg hk;obtain ⟨z1,z2⟩:=hi _ (List.getElem_mem hk);obtain ⟨y',hy,hq⟩:=Aa6 l[k'].1 l[k'].2.1 l[k'].2.2.1 l[k'].2.2.2 z1 z2 (v:=y) (by omega)
   try dsimp only
   unfold Ct;rw [Bs (by omega),cond_true,hn,obs,hy,obs];rcases hq with hq | ⟨q1,q2,q3,q4⟩
   ·rw [Bs hq];exact .inr ⟨_,rfl,.inr ⟨_,rfl,by omega⟩⟩
   ·rw [Bk (by omega),cond_false,A5 (by omega)];refine .inl ⟨_,rfl,rfl,by dsimp only; omega,by dsimp only; omega,fun x hx=>?_⟩;rw [List.take_add_one,hn] at hx;rcases List.mem_append.1 hx with hx | hx
    ·exact h4 x hx
    ·obtain rfl:=List.mem_singleton.1 hx;exact ⟨q3,q4⟩
  ·rintro ⟨y,k'⟩ ⟨h1,h2,h3,h4⟩;dsimp only at h1 h2 h3;subst h1;rw [List.take_length] at h4
   try dsimp only
   unfold Ct;rw [Bk (by omega),cond_false];exact ⟨_,rfl,.inl ⟨_,rfl,h2,h3,h4⟩⟩
 obtain ⟨c,hc,⟨y,rfl,h1,h2,h3⟩ | ⟨y,rfl,h1⟩⟩:=key
 ·rw [hc]; exact ⟨_,rfl,.inr ⟨h1,h2,by omega,h3⟩⟩
 ·rw [hc]; exact ⟨_,rfl,.inl h1⟩
theorem Y9 (w:Int) (es:List Edg) (xs ys:List Int) (hl:es.length<=9223372036854775807) (hi:∀ x∈es,Acx x) (h1:xs.length<=9223372036854775807) (h2:ys.length<=9223372036854775807) :
  ∃ y,Du w es xs ys 1048576=some y∧(y<0∨(0<=y∧es.length<=1048576∧(∀ x∈es,Mv x)∧xs.length<=1048576∧ys.length<=1048576)):=by
 unfold Du;obtain ⟨y,hy,hq⟩:=Y5 es (v:=1048576) (by omega) hl hi;rw [hy,obs];rcases hq with hq | ⟨q1,q2,q3,q4⟩
 ·rw [Bs hq]; exact ⟨_,rfl,.inl (by omega)⟩
 rw [Bk (by omega),cond_false,Ln xs (by omega) h1,obs];rcases Jq y xs.length (by omega) with h | ⟨h,h3,h4⟩
 ·rw [h]; exact ⟨_,rfl,.inl (by omega)⟩
 rw [h,Bk (by omega),cond_false,Ln ys (by omega) h2,obs];rcases Jq (y - xs.length) ys.length (by omega) with h | ⟨h,h5,h6⟩
 ·rw [h]; exact ⟨_,rfl,.inl (by omega)⟩
 rw [h,Bk (by omega),cond_false];exact ⟨_,rfl,.inr ⟨by omega,q3,q4,h4,h6⟩⟩
theorem Aa9 (e:Edg) (h:Mv e):D6 e.1 e.2.1 e.2.2.1 e.2.2.2=some e:=by
 unfold D6;rw [Lj _ (by have:=h.1; omega),obs,Lj _ (by have:=h.2; omega),obs]
theorem Yp (l:List Edg) (hl:l.length<=1048576) (hc:∀ x∈l,Mv x):Di l=some l:=by
 unfold Di;rw [A5 (by omega)];generalize hz:(Ty.dflt (.pair .int (.pair .int (.pair (.slice .int) (.slice .int)))):Edg)=z
 have h:A9 (fun s_:Nat×List Edg=>Cq l s_.1 s_.2) 4611686018427387904 (0,List.replicate l.length z)=some l:=by
  refine C7 l.length (fun i=>(i,l.take i++List.replicate (l.length - i) z)) (by omega) l (by simp) (fun i hi=>?_) ?_
  ·have hx:=gEg hi;have hk:=hc _ (List.getElem_mem hi)
   try dsimp only
   unfold Cq;rw [Bs (by omega),cond_true,hx,obs,Aa9 _ hk,obs,R8 hi,obs,A5 (by omega),Sj hx]
  ·try dsimp only
   unfold Cq;rw [Bk (by omega),cond_false];simp
 rw [h]; rfl
theorem Yn (w:Int) (es:List Edg) (xs ys:List Int) (h1:es.length<=1048576) (h2:∀ x∈es,Mv x) (h3:xs.length<=1048576) (h4:ys.length<=1048576):Ci w es xs ys=some (w,es,xs,ys):=by
 unfold Ci;rw [Yp es h1 h2,obs,Lj xs (by omega),obs,Lj ys (by omega),obs]
theorem Aao (e:Edg) (h:Mv e):Eb e.1 e.2.1 e.2.2.1 e.2.2.2 e.1 e.2.1 e.2.2.1 e.2.2.2=some true:=by
 unfold Eb;rw [bne_self_eq_false,cond_false,bne_self_eq_false,cond_false,La _ (by have:=h.1; omega),obs,La _ (by have:=h.2; omega)];rfl
theorem Y4 (l:List Edg) (hl:l.length<=1048576) (hc:∀ x∈l,Mv x):Ds l l=some true:=by
 unfold Ds;rw [bne_self_eq_false,cond_false]
 have h:A9 (fun s_:Nat=>Cr l l s_) 4611686018427387904 0=some (Ctl.next ()):=by
  refine C7 l.length (fun i=>i) (by omega) _ rfl (fun i hi=>?_) ?_
  ·have hx:=gEg hi;have hk:=hc _ (List.getElem_mem hi)
   try dsimp only
   unfold Cr;rw [Bs (by omega),cond_true,hx,obs,obs,Aao _ hk,obs,Bool.not_true,cond_false,A5 (by omega)]
  ·try dsimp only
   unfold Cr;rw [Bk (by omega),cond_false]
 rw [h]; rfl
theorem Sg (w:Int) (es:List Edg) (xs ys:List Int) (h1:es.length<=1048576) (h2:∀ x∈es,Mv x) (h3:xs.length<=1048576) (h4:ys.length<=1048576):Dk w es xs ys w es xs ys=some true:=by
 unfold Dk;rw [bne_self_eq_false,cond_false,Y4 es h1 h2,obs,La xs (by omega),obs,La ys (by omega)];rfl
def edK (e:Edg):Bool:=inR e.1 3 14&&((if e.1=7∨e.1=13 then inR e.2.1 0 96 else e.2.1==0)&&(((e.2.2.1.length:Nat):Int)==(gwV e.1).1&&((e.2.2.2.length:Nat):Int)==(gwV e.1).2))
def Cn (W:Int) (xs:List Int):Bool:=xs.all fun x=>inR x 0 (W - 1)
theorem Jg {e:Edg} (h:edK e=true):e.2.2.1.length<=2∧e.2.2.2.length<=2:=by
 unfold edK at h;simp only [Bool.and_eq_true,beq_iff_eq] at h
 have:(gwV e.1).1<=2∧(gwV e.1).2<=2:=by
  unfold gwV; repeat' split
  all_goals decide
 omega
theorem Z3 (e:Edg):Cm e.1 e.2.1 e.2.2.1 e.2.2.2=some (edK e):=by
 unfold Cm C9 B1 B4 Df edK;simp only [P8,obs];cases hr:inR e.1 3 14
 ·rfl
 have hb:=Br.1 hr;rw [A5 hb]
 have hl:∀ a b c d:Int,([a,b]==[c,d])=(c==a&&d==b):=by
  intro a b c d;show ((a==c)&&((b==d)&&true))=_;rw [Bool.and_true,BEq.comm (a:=a),BEq.comm (a:=b)]
 by_cases h7:e.1=7
 ·rw [h7];simp only [Int.reduceBEq,cond_true,obs,true_or,if_true,Bool.not_true,cond_false,Bool.true_and,hl];cases inR e.2.1 0 96 <;> rfl
 by_cases h13:e.1=13
 ·rw [h13];simp only [Int.reduceBEq,cond_true,cond_false,obs,or_true,if_true,Bool.not_true,Bool.true_and,hl];cases inR e.2.1 0 96 <;> rfl
 rw [if_neg (by omega),beq_eq_false_iff_ne.2 h7,beq_eq_false_iff_ne.2 h13];simp only [cond_false,obs,Bool.not_true,Bool.true_and,hl];cases e.2.1==0 <;> rfl
theorem Sk (k:Int) (h:3<=k∧k<=14):E9 k=some (gwV k):=by
 have hk:k=3∨k=4∨k=5∨k=6∨k=7∨k=8∨k=9∨k=10∨k=11∨k=12∨k=13∨k=14:=by omega
 rcases hk with rfl | rfl | rfl | rfl | rfl | rfl | rfl | rfl | rfl | rfl | rfl | rfl <;> rfl
theorem Abf (e:Edg) {W:Int} (hW:0<=W∧W<=100):Dc e.1 e.2.1 e.2.2.1 e.2.2.2 W=some (edK e&&(Cn W e.2.2.1&&Cn W e.2.2.2)):=by
 have hv:inR e.1 3 14=true->Ea e.1 e.2.1 (⟨#[]⟩:ByteArray)=some (if e.1=7∨e.1=13 then inR e.2.1 0 96 else e.2.1==0):=by
  intro hr;have hb:=Br.1 hr;unfold Ea;rw [show (!((⟨#[]⟩:ByteArray).toList==(⟨#[]⟩:ByteArray).toList))=false by simp,cond_false,K5,Br.2 (show (1:Int)<=e.1∧e.1<=14 by omega),obs,obs,Bool.not_true,cond_false,beq_eq_false_iff_ne.2 (show e.1≠1 by omega),cond_false];by_cases h7:e.1=7
  ·rw [h7]; simp [K5]
  by_cases h13:e.1=13
  ·rw [h13]; simp [K5]
  rw [if_neg (by omega),beq_eq_false_iff_ne.2 h7,beq_eq_false_iff_ne.2 h13];rfl
 cases hk:edK e
 ·unfold Dc;unfold edK at hk;rw [K5,obs];cases hr:inR e.1 3 14
  ·rfl
  rw [hr,Bool.true_and] at hk;rw [hv hr,Bool.not_true,cond_false,obs];cases hq:(if e.1=7∨e.1=13 then inR e.2.1 0 96 else e.2.1==0)
  ·rfl
  rw [hq,Bool.true_and] at hk;rw [obs,Bool.not_true,cond_false,Sk _ (Br.1 hr),obs];cases h1:((e.2.2.1.length:Nat):Int)==(gwV e.1).1
  ·rfl
  rw [h1,Bool.true_and] at hk;rw [hk]; rfl
 ·have hle:=Jg hk;unfold Dc;unfold edK at hk;simp only [Bool.and_eq_true] at hk;obtain ⟨hr,hq,h1,h2⟩:=hk;rw [K5,obs,hr,Bool.not_true,cond_false,hv hr,hq,obs,obs,Bool.not_true,cond_false,Sk _ (Br.1 hr),obs,h1,h2,cond_true,cond_true,Fw (by omega) (by omega),Ol _ _ _ (by omega),obs,Ol _ _ _ (by omega)];unfold Cn;cases (e.2.2.1.all fun x=>inR x 0 (W - 1)) <;> cases (e.2.2.2.all fun x=>inR x 0 (W - 1)) <;> rfl
end
section
def N1 (es:List Edg) (xs ys:List Int):List Int:=xs++(ys++es.flatMap fun e=>e.2.2.1++e.2.2.2)
def Kq (W:Int) (es:List Edg) (xs ys:List Int):Bool :=
 inR W 0 100&&(decide (es.length<=60)&&(decide (xs.length<=12)&&(decide (ys.length<=12)&&(es.all edK&&(Cn W (N1 es xs ys)&&(List.range W.toNat).all fun j:Nat=>decide ((j:Int)∈N1 es xs ys))))))
def Da (W:Int) (S:List Int):List Bool:=(List.range W.toNat).map fun j:Nat=>decide ((j:Int)∈S)
def Hr (W:Int) (S:List Int):Int:=((Da W S).count true:Nat)
def Ez (W:Int) (S:List Int):List Int:=(List.range W.toNat).map fun j:Nat=>((S.count (j:Int):Nat):Int)
section
variable {W:Int} {S:List Int} {x:Int}
theorem Iy:(Da W S).length=W.toNat:=by simp [Da]
theorem X9:0<=Hr W S∧Hr W S<=W.toNat:=by
 have:=List.count_le_length (a:=true) (l:=Da W S);rw [Iy] at this;unfold Hr; omega
theorem Aap (h:inR x 0 (W - 1)=false):Da W (S++[x])=Da W S:=by
 unfold Da;refine List.map_congr_left fun j hj=>?_
 have hj:=List.mem_range.1 hj;have hx:=Yu.1 h;have hne:(j:Int)≠x:=by omega
 simp [hne]
theorem U8 (h:inR x 0 (W - 1)=true):J0 (Da W S) x=some (decide (x∈S)):=by
 have hx:=Br.1 h;rw [Q6 hx.1];unfold Da;rw [List.getElem?_map,List.getElem?_range (by omega),Option.map_some,Int.toNat_of_nonneg hx.1]
theorem U7 (h:inR x 0 (W - 1)=true):(Da W S).set x.toNat true=Da W (S++[x]):=by
 have hx:=Br.1 h;refine List.ext_getElem (by rw [List.length_set,Iy,Iy]) fun i h1 h2=>?_
 rw [List.getElem_set];simp only [Da,List.getElem_map,List.getElem_range];by_cases hi:x.toNat=i
 ·have:(i:Int)=x:=by omega
  simp [this,hi]
 ·have:¬ (i:Int)=x:=by omega
  simp [this,hi]
theorem Zd (h:x∈S):Da W (S++[x])=Da W S:=by
 unfold Da;refine List.map_congr_left fun j _=>?_
 have:(j:Int)∈S++[x]↔(j:Int)∈S:=by
  rw [List.mem_append,List.mem_singleton];exact ⟨fun h'=>h'.elim id fun h'=>h'▸h,.inl⟩
 simp only [this]
theorem Ab2 (h:inR x 0 (W - 1)=true) (hn:x∉S):Hr W (S++[x])=Hr W S+1:=by
 have hx:=Br.1 h;unfold Hr;rw [← U7 h,List.count_set (by rw [Iy]; omega)];have hg:=U8 (S:=S) h;rw [Q6 hx.1,decide_eq_false hn] at hg;have hg2:=(gSi.1 hg).2;rw [hg2];simp
theorem Of {xs:List Int}:Cn W (S++xs)=(Cn W S&&Cn W xs):=by unfold Cn; rw [List.all_append]
theorem Yd:Cn W [x]=inR x 0 (W - 1):=by simp [Cn]
theorem H2 (hW:0<=W∧W<=100) (es:List Edg) (a b xs:List Int) (hl:xs.length<=1048576):A4 xs W es a b (Cn W S) (Da W S) (Hr W S)=some (Cn W (S++xs),Da W (S++xs),Hr W (S++xs)):=by
 unfold A4;refine C7 xs.length (fun i=>(i,Cn W (S++xs.take i),Hr W (S++xs.take i),Da W (S++xs.take i))) (by omega) _ (by simp) (fun i hi=>?_) ?_
 ·have hx:=gEg hi
  try dsimp only
  unfold Bq;rw [Bs (by omega),cond_true,hx,obs,Fw (n:=W - 1) (by omega) (by omega),P8,obs,List.take_add_one,hx,Option.toList,← List.append_assoc];have hc:=X9 (W:=W) (S:=S++xs.take i);generalize xs[i]=x at *;generalize S++xs.take i=T at *;cases hr:inR x 0 (W - 1)
  ·rw [Bool.not_false,cond_true,obs,Of,Yd,hr,Bool.and_false,Hr,Hr,Aap hr];exact A5 (by omega) _
  ·rw [Bool.not_true,cond_false,U8 hr,obs,Of,Yd,hr,Bool.and_true];by_cases hm:x∈T
   ·rw [decide_eq_true hm,Bool.not_true,cond_false,obs,Hr,Hr,Zd hm];exact A5 (by omega) _
   ·rw [decide_eq_false hm,Bool.not_false,cond_true,obs,Fw (by omega) (by omega),Ab2 hr hm,U7 hr];exact A5 (by omega) _
 ·try dsimp only
  unfold Bq;rw [Bk (by omega),cond_false,List.take_length]
theorem U9:Da W []=List.replicate W.toNat false:=by
 unfold Da;rw [List.eq_replicate_iff];simp
theorem Aa7:Hr W []=0:=by
 unfold Hr;rw [U9,List.count_replicate];simp
theorem Ab9 (hW:0<=W∧W<=100) (es:List Edg) (xs ys:List Int) (h1:es.length<=1048576) (h2:∀ e∈es,Mv e) (h3:xs.length<=1048576) (h4:ys.length<=1048576) :
  Ar W es xs ys W es xs ys true (List.replicate W.toNat (false:Bool)) 0=some (Cn W (N1 es xs ys),Da W (N1 es xs ys),Hr W (N1 es xs ys)):=by
 unfold Ar;have e1:=H2 (S:=[]) hW es xs ys xs h3;rw [U9,Aa7,List.nil_append] at e1;rw [show (true:Bool)=Cn W [] from rfl,e1,obs]
 try dsimp only
 rw [H2 hW es xs ys ys h4,obs]
 try dsimp only
 refine C7 es.length (fun i=>(i,Cn W (xs++(ys++(es.take i).flatMap fun e=>e.2.2.1++e.2.2.2)),Hr W (xs++(ys++(es.take i).flatMap fun e=>e.2.2.1++e.2.2.2)),Da W (xs++(ys++(es.take i).flatMap fun e=>e.2.2.1++e.2.2.2)))) (by omega) _ (by simp) (fun i hi=>?_) ?_
 ·have hx:=gEg hi;have hk:=h2 _ (List.getElem_mem hi)
  try dsimp only
  unfold Az;rw [Bs (by omega),cond_true,hx,obs,H2 hW es xs ys _ hk.1,obs]
  try dsimp only
  rw [H2 hW es xs ys _ hk.2,obs,A5 (by omega),List.take_add_one,hx,Option.toList,List.flatMap_append];simp only [List.flatMap_cons,List.flatMap_nil,List.append_nil,List.append_assoc]
 ·try dsimp only
  unfold Az;rw [Bk (by omega),cond_false,List.take_length];rfl
theorem Zj:(Hr W S==W)=(if 0<=W then (List.range W.toNat).all fun j:Nat=>decide ((j:Int)∈S) else false):=by
 by_cases hW:0<=W
 ·rw [if_pos hW,Bool.eq_iff_iff,beq_iff_eq];have hlen:=Iy (W:=W) (S:=S);have:Hr W S=W↔(Da W S).count true=(Da W S).length:=by unfold Hr; rw [hlen]; omega
  rw [this,List.count_eq_length,List.all_eq_true];unfold Da;simp only [List.mem_map,List.mem_range,decide_eq_true_eq];constructor
  ·intro h j hj;have:=h _ ⟨j,hj,rfl⟩;exact of_decide_eq_true this.symm
  ·rintro h b ⟨j,hj,rfl⟩;exact (decide_eq_true (h j hj)).symm
 ·rw [if_neg hW];have:=X9 (W:=W) (S:=S);exact beq_eq_false_iff_ne.2 (by omega)
theorem Zb (W:Int) (es:List Edg) (xs ys:List Int) (h1:es.length<=1048576) (h2:∀ e∈es,Mv e):Bz W es xs ys=some (Kq W es xs ys):=by
 unfold Bz Kq;rw [P8,obs];cases hW:inR W 0 100
 ·rfl
 have hb:=Br.1 hW;rw [Bool.not_true,cond_false];rcases Nat.lt_or_ge 60 es.length with n1 | n1
 ·rw [Bs (show (60:Int)<((es.length:Nat):Int) by omega),Bk (show ¬ es.length<=60 by omega)]; rfl
 rw [Bk (show ¬ (60:Int)<((es.length:Nat):Int) by omega),Bs n1,cond_false];rcases Nat.lt_or_ge 12 xs.length with n2 | n2
 ·rw [Bs (show (12:Int)<((xs.length:Nat):Int) by omega),Bk (show ¬ xs.length<=12 by omega)]; rfl
 rw [Bk (show ¬ (12:Int)<((xs.length:Nat):Int) by omega),Bs n2,cond_false];rcases Nat.lt_or_ge 12 ys.length with n3 | n3
 ·rw [Bs (show (12:Int)<((ys.length:Nat):Int) by omega),Bk (show ¬ ys.length<=12 by omega)]; rfl
 rw [Bk (show ¬ (12:Int)<((ys.length:Nat):Int) by omega),Bs n3,obs,cond_false,Bool.true_and,Bool.true_and,Bool.true_and,Bool.true_and];rw [Js es edK (.next ()) (.out false) (by omega) (fun i x h=>?_) ?_]
 ·cases he:es.all edK
  ·rfl
  rw [if_pos rfl,Bool.true_and];show (og _ _:Option Bool)=_;rw [A5 (by omega),Ab9 hb es xs ys h1 h2 (by omega) (by omega),obs]
  try dsimp only
  rw [Zj,if_pos hb.1];cases Cn W (N1 es xs ys) <;> rfl
 ·unfold B0;rw [Bk (by omega),cond_false]
 ·have:=Bj h;unfold B0;rw [Bs (by omega),cond_true,h,obs,Z3,obs,A5 (by omega)];cases edK x <;> rfl
theorem Ab6:Ez W []=List.replicate W.toNat 0:=by
 unfold Ez;rw [List.eq_replicate_iff];simp
theorem Ac4 (h:inR x 0 (W - 1)=true):J0 (Ez W S) x=some ((S.count x:Nat):Int):=by
 have hx:=Br.1 h;rw [Q6 hx.1];unfold Ez;rw [List.getElem?_map,List.getElem?_range (by omega),Option.map_some,Int.toNat_of_nonneg hx.1]
theorem Acf (h:inR x 0 (W - 1)=true):(Ez W S).set x.toNat (((S.count x:Nat):Int)+1)=Ez W (S++[x]):=by
 have hx:=Br.1 h;refine List.ext_getElem (by simp [Ez]) fun i h1 h2=>?_
 rw [List.getElem_set];simp only [Ez,List.getElem_map,List.getElem_range,List.count_append,List.count_singleton];by_cases hi:x.toNat=i
 ·have:(i:Int)=x:=by omega
  simp [this,hi]
 ·have:¬ x=(i:Int):=by omega
  simp [this,hi]
theorem L1 {ρ:Type} {body:Nat×List Int->Option (Ctl (Nat×List Int) ρ)} (xs:List Int) (f:List Int->ρ)
  (hb:∀ i s,body (i,s)=cond (decide (((i:Nat):Int)<((xs.length:Nat):Int))) (Option.bind (xs[i]?) fun x=>Option.bind (J0 s x) fun y=>og (i+1<4611686018427387904)<|some (Ctl.next (i+1,s.set x.toNat (wI (y+1))))) (some (Ctl.out (f s))))
  (hr:Cn W xs=true) (hl:(S++xs).length<=1000000):A9 body 4611686018427387904 (0,Ez W S)=some (f (Ez W (S++xs))):=by
 rw [List.length_append] at hl;refine C7 xs.length (fun i=>(i,Ez W (S++xs.take i))) (by omega) _ (by simp) (fun i hi=>?_) ?_
 ·have hx:=gEg hi;have hin:inR xs[i] 0 (W - 1)=true:=List.all_eq_true.1 hr _ (List.getElem_mem hi);have hc:=List.count_le_length (a:=xs[i]) (l:=S++xs.take i);rw [List.length_append,List.length_take] at hc
  try dsimp only
  rw [hb,Bs (by omega),cond_true,hx,obs,Ac4 hin,obs,A5 (by omega),Fw (by omega) (by omega),Acf hin,List.take_add_one,hx,Option.toList,List.append_assoc]
 ·try dsimp only
  rw [hb,Bk (by omega),cond_false,List.take_length]
def Ge (es:List Edg) (xs:List Int):List Int:=xs++es.flatMap fun e=>e.2.2.2
def Lp (es:List Edg) (ys:List Int):List Int:=ys++es.flatMap fun e=>e.2.2.1
theorem S8 {es:List Edg} (h:∀ e∈es,edK e=true) (hl:es.length<=60) (k:Nat):(((es.take k).flatMap fun e=>e.2.2.1):List Int).length<=120∧(((es.take k).flatMap fun e=>e.2.2.2):List Int).length<=120:=by
 have key:∀ (l:List Edg),(∀ e∈l,edK e=true)->((l.flatMap fun e=>e.2.2.1):List Int).length<=2*l.length∧((l.flatMap fun e=>e.2.2.2):List Int).length<=2*l.length:=by
  intro l
  induction l with
  | nil=>simp
  | cons e l ih =>
   intro h;have h1:=Jg (h e (by simp));have h2:=ih fun e he=>h e (by simp [he])
   simp only [List.flatMap_cons,List.length_append,List.length_cons];omega
 have:=key (es.take k) fun e he=>h e (List.mem_of_mem_take he)
 rw [List.length_take] at this;omega
theorem W5 (hW:0<=W∧W<=100) (es:List Edg) (xs ys:List Int) (h1:es.length<=60) (h2:∀ e∈es,edK e=true) (h3:xs.length<=12) (h4:ys.length<=12)
  (r1:Cn W xs=true) (r2:Cn W ys=true) (r3:∀ e∈es,Cn W e.2.2.1=true∧Cn W e.2.2.2=true):Co W es xs ys=some (Ez W (Ge es xs),Ez W (Lp es ys)):=by
 unfold Co
 rw [A5 (by omega),A5 (by omega),← Ab6,
  L1 (body:=fun s_:Nat×List Int=>Ei xs s_.1 s_.2) xs (fun s=>s) (fun _ _=>rfl) r1 (by simp; omega),obs,
  L1 (body:=fun s_:Nat×List Int=>Ef ys s_.1 s_.2) ys (fun s=>s) (fun _ _=>rfl) r2 (by simp; omega),obs,List.nil_append,List.nil_append]
 have h:A9 (fun s_:Nat×List Int×List Int=>Ck es s_.1 s_.2.1 s_.2.2) 4611686018427387904 (0,Ez W xs,Ez W ys)=some (Ez W (Ge es xs),Ez W (Lp es ys)):=by
  refine C7 es.length (fun i=>(i,Ez W (Ge (es.take i) xs),Ez W (Lp (es.take i) ys))) (by omega) _ (by simp [Ge,Lp]) (fun i hi=>?_) ?_
  ·have hx:=gEg hi;have hk:=Jg (h2 _ (List.getElem_mem hi));obtain ⟨k1,k2⟩:=r3 _ (List.getElem_mem hi);have hle:=S8 h2 h1 i
   try dsimp only
   unfold Ck
   rw [Bs (by omega),cond_true,hx,obs,L1 (body:=fun s_:Nat×List Int=>Eh es[i] s_.1 s_.2) es[i].2.2.2 (fun s=>s) (fun _ _=>rfl) k2 (by simp only [Ge,List.length_append]; omega),obs,
    L1 (body:=fun s_:Nat×List Int=>Ee es[i] _ s_.1 s_.2) es[i].2.2.1 (fun s=>(_,s)) (fun _ _=>rfl) k1 (by simp only [Lp,List.length_append]; omega),obs]
   try dsimp only
   rw [A5 (by omega)];unfold Ge Lp;rw [List.take_add_one,hx,Option.toList,List.flatMap_append,List.flatMap_append];simp only [List.flatMap_cons,List.flatMap_nil,List.append_nil,List.append_assoc]
  ·try dsimp only
   unfold Ck;rw [Bk (by omega),cond_false,List.take_length]
 rw [h]; rfl
theorem Yk (W:Int) (es:List Edg) (xs ys:List Int):Cn W (N1 es xs ys)=(Cn W xs&&(Cn W ys&&es.all fun e=>Cn W e.2.2.1&&Cn W e.2.2.2)):=by
 unfold N1;rw [Of,Of];congr 2;unfold Cn;rw [List.all_flatMap];simp only [List.all_append]
theorem Acq (es:List Edg) (xs ys:List Int) (j:Int):(j∈N1 es xs ys)↔(j∈Ge es xs∨j∈Lp es ys):=by
 unfold N1 Ge Lp;simp only [List.mem_append,List.mem_flatMap];constructor
 ·rintro (h | h | ⟨e,he,h | h⟩)
  ·exact .inl (.inl h)
  ·exact .inr (.inl h)
  ·exact .inr (.inr ⟨e,he,h⟩)
  ·exact .inl (.inr ⟨e,he,h⟩)
 ·rintro ((h | ⟨e,he,h⟩) | (h | ⟨e,he,h⟩))
  ·exact .inl h
  ·exact .inr (.inr ⟨e,he,.inr h⟩)
  ·exact .inr (.inl h)
  ·exact .inr (.inr ⟨e,he,.inl h⟩)
theorem Yw (W:Int) (es:List Edg) (xs ys:List Int):Dn W es xs ys=some (Kq W es xs ys):=by
 unfold Dn Kq;rw [K5,obs];cases hW:inR W 0 100
 ·rfl
 have hb:=Br.1 hW;rw [Bool.not_true,cond_false];rcases Nat.lt_or_ge 60 es.length with n1 | n1
 ·rw [Bs (show (60:Int)<((es.length:Nat):Int) by omega),Bk (show ¬ es.length<=60 by omega)]; rfl
 rw [Bk (show ¬ (60:Int)<((es.length:Nat):Int) by omega),Bs n1,cond_false];rcases Nat.lt_or_ge 12 xs.length with n2 | n2
 ·rw [Bs (show (12:Int)<((xs.length:Nat):Int) by omega),Bk (show ¬ xs.length<=12 by omega)]; rfl
 rw [Bk (show ¬ (12:Int)<((xs.length:Nat):Int) by omega),Bs n2,cond_false];rcases Nat.lt_or_ge 12 ys.length with n3 | n3
 ·rw [Bs (show (12:Int)<((ys.length:Nat):Int) by omega),Bk (show ¬ ys.length<=12 by omega)]; rfl
 rw [Bk (show ¬ (12:Int)<((ys.length:Nat):Int) by omega),Bs n3,cond_false,Bool.true_and,Bool.true_and,Bool.true_and,Bool.true_and,Fw (by omega) (by omega),Ol xs _ _ (by omega),obs,Ol ys _ _ (by omega),Yk];show Option.bind (cond (!Cn W xs) (some true) (Option.bind (some (Cn W ys)) fun y11=>some (!y11))) _=_;cases r1:Cn W xs
 ·rw [Bool.false_and,Bool.false_and,Bool.and_false]; rfl
 cases r2:Cn W ys
 ·rw [Bool.false_and,Bool.and_false,Bool.false_and,Bool.and_false]; rfl
 rw [Bool.not_true,cond_false,obs,obs,Bool.not_true,cond_false,Bool.true_and,Bool.true_and];rw [Js es (fun e=>edK e&&(Cn W e.2.2.1&&Cn W e.2.2.2)) (.next ()) (.out false) (by omega) (fun i x h=>?_) ?_]
 ·have hsplit:(es.all fun e=>edK e&&(Cn W e.2.2.1&&Cn W e.2.2.2))=(es.all edK&&es.all fun e=>Cn W e.2.2.1&&Cn W e.2.2.2):=by
   clear n1
   induction es with
   | nil=>rfl
   | cons e es ih=>simp only [List.all_cons,ih]; cases edK e <;> cases (Cn W e.2.2.1&&Cn W e.2.2.2) <;> simp
  rw [hsplit];cases he:es.all edK
  ·rfl
  cases hr:es.all fun e=>Cn W e.2.2.1&&Cn W e.2.2.2
  ·rfl
  rw [Bool.true_and,if_pos rfl,Bool.true_and];have hk:=List.all_eq_true.1 he;show Option.bind (Co W es xs ys) _=_;rw [W5 hb es xs ys n1 hk n2 n3 r1 r2 (fun e h=>by have:=List.all_eq_true.1 hr e h; simpa using this),obs];show Qb (A9 (fun s_:Nat=>Cu (Ez W (Ge es xs),Ez W (Lp es ys)) s_) 4611686018427387904 0) (fun _=>some true)=_;have hlen:((Ez W (Ge es xs)).length:Nat)=W.toNat:=by simp [Ez]
  rw [Js (List.range W.toNat) (fun j:Nat=>decide ((j:Int)∈N1 es xs ys)) (.next ()) (.out false) (by simp; omega) (fun i x h=>?_) ?_,Xl]
  ·rw [Bool.true_and]
  ·unfold Cu;rw [List.length_range,hlen,Bk (by omega),cond_false]
  ·have hi:=Bj h;rw [List.length_range] at hi;rw [List.getElem?_range hi] at h;obtain rfl:=osj h;have hle:=S8 hk n1 es.length;rw [List.take_length] at hle;have hc1:=List.count_le_length (a:=(i:Int)) (l:=Ge es xs);have hc2:=List.count_le_length (a:=(i:Int)) (l:=Lp es ys);have hL1:(Ge es xs).length=xs.length+(es.flatMap fun e=>e.2.2.2).length:=List.length_append;have hL2:(Lp es ys).length=ys.length+(es.flatMap fun e=>e.2.2.1).length:=List.length_append;unfold Cu
   try dsimp only
   rw [show (Ez W (Ge es xs))[i]? =some (((Ge es xs).count (i:Int):Nat):Int) from by simp [Ez,hi],show (Ez W (Lp es ys))[i]? =some (((Lp es ys).count (i:Int):Nat):Int) from by simp [Ez,hi]];have e1:=List.count_eq_zero (a:=(i:Int)) (l:=Ge es xs);have e2:=List.count_eq_zero (a:=(i:Int)) (l:=Lp es ys);have e3:=Acq es xs ys (i:Int);rw [hlen,Bs (by omega),cond_true,obs,obs,Fw (by omega) (by omega),A5 (by omega)];by_cases hm:(i:Int)∈N1 es xs ys
   ·rw [decide_eq_true hm,if_pos rfl,beq_eq_false_iff_ne.2 ?_,cond_false];intro h0;rcases e3.1 hm with h | h
    ·exact (e1.1 (by omega)) h
    ·exact (e2.1 (by omega)) h
   ·rw [decide_eq_false hm,if_neg Bool.false_ne_true,beq_iff_eq.2 ?_,cond_true];have q1:=e1.2 fun h=>hm (e3.2 (.inl h))
    have q2:=e2.2 fun h=>hm (e3.2 (.inr h))
    omega
 ·unfold Dh;rw [Bk (by omega),cond_false]
 ·have:=Bj h;unfold Dh;rw [Bs (by omega),cond_true,h,obs,Abf x hb,obs,A5 (by omega)];cases (edK x&&(Cn W x.2.2.1&&Cn W x.2.2.2)) <;> rfl
end
end
section
def jn (xs:List Int):List UInt8:=Lib.join (xs.map dg) [44]
theorem Adu:jn []=[]:=rfl
theorem Acd {xs:List Int} (x:Int) (h:xs≠[]):jn (xs++[x])=(jn xs++[44])++dg x:=by
 unfold jn;cases xs with
 | nil=>exact absurd rfl h
 | cons y r =>
  rw [List.cons_append,List.map_cons,List.map_cons,Lib.join_cons,Lib.join_cons,List.map_append];simp [Lib.joinTail,List.append_assoc]
theorem Adq (x:Int):jn [x]=dg x:=by unfold jn; rw [List.map_cons,List.map_nil,Lib.join_one]
theorem F2 {xs:List Int} (h:Gm xs):(jn xs).length<=102*xs.length:=by
 have:=U2 (xs.map dg) [44] 101 (fun x hx=>by obtain ⟨n,hn,rfl⟩:=List.mem_map.1 hx; have:=h n hn; exact H3 (by omega))
 simpa [jn] using this
theorem Dm {α:Type} {a b:List UInt8} (h:a.length+b.length<=10000000) (k:Option α):og ((ba a).size+(ba b).size<=9223372036854775807) k=k:=A5 (by rw [Jk,Jk]; omega) k
theorem L9 {xs:List Int} (h:Gm xs) (hl:xs.length<=100):Cd xs=some (ba (jn xs)):=by
 unfold Cd
 have hloop:A9 (fun s_:ByteArray×Nat=>C4 xs s_.1 s_.2) 4611686018427387904 ((⟨#[]⟩:ByteArray),0)=some (ba (jn xs)):=by
  refine C7 xs.length (fun i=>(ba (jn (xs.take i)),i)) (by omega) _ rfl (fun i hi=>?_) ?_
  ·have hx:=gEg hi;have hn:=h _ (List.getElem_mem hi);have h1:=F2 (xs:=xs.take i) fun n hn=>h n (List.mem_of_mem_take hn)
   rw [List.length_take] at h1;have h2:=H3 (n:=xs[i]) (by omega)
   try dsimp only
   unfold C4;rw [Bs (by omega),cond_true,hx,obs,Zu (by omega),show (⟨#[44]⟩:ByteArray)=ba [44] from rfl,List.take_add_one,hx,Option.toList];by_cases h0:i=0
   ·subst h0;rw [Bk (by omega),cond_false,obs,obs,List.take_zero,Adu,Dm (by simp; omega),A5 (by omega),B7,List.nil_append,List.nil_append,Adq]
   ·rw [Bs (by omega),cond_true,Dm (by simp; omega),obs,obs,B7,Dm (by simp; omega),A5 (by omega),B7,Acd _ (by
     intro h;have:=congrArg List.length h;rw [List.length_take,List.length_nil] at this;omega)]
  ·try dsimp only
   unfold C4;rw [Bk (by omega),cond_false,List.take_length]
 rw [hloop]; rfl
def Aeh:List (List UInt8):=[[99,111,112,121],[100,105,115,99,97,114,100],[97,100,100],[122,101,114,111],[115,99,97,108,101],[100,101,108,97,121],[99,111,99,111,112,121],[99,111,100,105,115,99,97,114,100],[99,111,97,100,100],[99,111,122,101,114,111],[99,111,115,99,97,108,101],[99,111,100,101,108,97,121]]
def Jc (k:Int):List UInt8:=Aeh.getD (k.toNat - 3) []
def scl (k:Int):Bool:=k==7||k==13
theorem Aco:∃ ws,Dv=some ws∧∀ k:Int,3<=k∧k<=14->J0 ws k=some (ba (Jc k)):=by
 refine ⟨_,rfl,fun k h=>?_⟩;have hk:k=3∨k=4∨k=5∨k=6∨k=7∨k=8∨k=9∨k=10∨k=11∨k=12∨k=13∨k=14:=by omega
 rcases hk with rfl | rfl | rfl | rfl | rfl | rfl | rfl | rfl | rfl | rfl | rfl | rfl <;> rfl
theorem Acu:∃ ws,Es=some ws∧∀ k:Int,3<=k∧k<=14->J0 ws (k - 3)=some (ba (Jc k)):=by
 refine ⟨_,rfl,fun k h=>?_⟩;have hk:k=3∨k=4∨k=5∨k=6∨k=7∨k=8∨k=9∨k=10∨k=11∨k=12∨k=13∨k=14:=by omega
 rcases hk with rfl | rfl | rfl | rfl | rfl | rfl | rfl | rfl | rfl | rfl | rfl | rfl <;> rfl
theorem Mw {k:Int} (h:3<=k∧k<=14):(Jc k).length<=9:=by
 have hk:k=3∨k=4∨k=5∨k=6∨k=7∨k=8∨k=9∨k=10∨k=11∨k=12∨k=13∨k=14:=by omega
 rcases hk with rfl | rfl | rfl | rfl | rfl | rfl | rfl | rfl | rfl | rfl | rfl | rfl <;> decide
theorem Abc (k:Int):B4 k=some (scl k):=by
 unfold B4 scl;cases k==7 <;> rfl
theorem Aa1 (k:Int):Db k=some (scl k):=by
 unfold Db scl;cases k==7 <;> rfl
theorem T4 {e:Edg} (h:edK e=true):3<=e.1∧e.1<=14:=by
 unfold edK at h;simp only [Bool.and_eq_true] at h;exact Br.1 h.1
theorem Uo {e:Edg} (h:edK e=true) (hs:scl e.1=true):0<=e.2.1∧e.2.1<=96:=by
 unfold edK at h;simp only [Bool.and_eq_true] at h;have h2:=h.2.1;unfold scl at hs;simp only [Bool.or_eq_true,beq_iff_eq] at hs;rw [if_pos hs] at h2;exact Br.1 h2
def I2 (e:Edg):List UInt8:=if scl e.1 then Jc e.1++([58]++dg e.2.1) else Jc e.1
def Fr (e:Edg):List UInt8:=((((I2 e++[40])++jn e.2.2.1)++[62])++jn e.2.2.2)++[41]
theorem M1 {e:Edg} (h:edK e=true):(I2 e).length<=111:=by
 have h1:=Mw (T4 h);unfold I2;split
 ·rename_i hs;have h2:=H3 (n:=e.2.1) (by have:=Uo h hs; omega);simp only [List.length_append,List.length_cons,List.length_nil];omega
 ·omega
theorem Za {e:Edg} (h:edK e=true) (h1:Gm e.2.2.1) (h2:Gm e.2.2.2):(Fr e).length<=600:=by
 have:=M1 h;have:=Jg h;have:=F2 h1;have:=F2 h2;unfold Fr;simp only [List.length_append,List.length_cons,List.length_nil];omega
theorem Aat {n:Int} (h:0<=n∧n<=1000):Bn n=some (ba (dg n)):=by
 unfold Bn;rw [A5 h];rfl
theorem Xi {e:Edg} (h:edK e=true) (h1:Gm e.2.2.1) (h2:Gm e.2.2.2):C6 e.1 e.2.1 e.2.2.1 e.2.2.2=some (ba (Fr e)):=by
 obtain ⟨ws,hw,hk⟩:=Aco;have hr:=T4 h;have hl:=Jg h;have w1:=Mw hr;have w2:=M1 h;have j1:=F2 h1;have j2:=F2 h2;have c1:Bl e.2.2.1=some (ba (jn e.2.2.1)):=L8 h1 (by omega);have c2:Bl e.2.2.2=some (ba (jn e.2.2.2)):=L8 h2 (by omega);unfold C6;rw [hw,obs,hk _ hr,obs,Abc,obs,c1,c2,show (⟨#[58]⟩:ByteArray)=ba [58] from rfl,show (⟨#[40]⟩:ByteArray)=ba [40] from rfl,show (⟨#[62]⟩:ByteArray)=ba [62] from rfl,show (⟨#[41]⟩:ByteArray)=ba [41] from rfl]
 have key:(cond (scl e.1) (Option.bind (Bn e.2.1) fun y9=>og ((ba [58]).size+y9.size<=9223372036854775807)<|og ((ba (Jc e.1)).size+(ba [58]++y9).size<=9223372036854775807)<|some (ba (Jc e.1)++(ba [58]++y9))) (some (ba (Jc e.1))))=some (ba (I2 e)):=by
  unfold I2;cases hs:scl e.1
  ·rfl
  ·have hv:=Uo h hs;have h3:=H3 (n:=e.2.1) (by omega);rw [cond_true,Aat (by omega),obs,Dm (by simp; omega),B7,Dm (by simp; omega),B7,if_pos rfl]
 rw [key,obs,Dm (by simp; omega),obs];change (og ((ba (I2 e)++ba [40]).size+(ba (jn e.2.2.1)).size<=9223372036854775807) _)=_;rw [B7,Dm (by simp; omega),B7,Dm (by simp; omega),obs];change (og (((ba ((I2 e++[40])++jn e.2.2.1))++ba [62]).size+(ba (jn e.2.2.2)).size<=9223372036854775807) (og ((((ba ((I2 e++[40])++jn e.2.2.1))++ba [62])++ba (jn e.2.2.2)).size+(ba [41]).size<=9223372036854775807) (some ((((ba ((I2 e++[40])++jn e.2.2.1))++ba [62])++ba (jn e.2.2.2))++ba [41]))))=_;rw [B7,Dm (by simp; omega),B7,Dm (by simp; omega),B7];rfl
theorem Xf {e:Edg} (h:edK e=true) (h1:Gm e.2.2.1) (h2:Gm e.2.2.2) {T:List UInt8} (hT:T.length<=1000000) {i:Nat} (hi:i<1000) (es:List Edg) (he:es[i]? =some e) :
  Cg es (ba T) i=some (Ctl.next (ba (T++124 :: Fr e),i+1)):=by
 obtain ⟨ws,hw,hk⟩:=Acu;have hr:=T4 h;have hl:=Jg h;have w1:=Mw hr;have w2:=M1 h;have j1:=F2 h1;have j2:=F2 h2;have:=Bj he;unfold Cg;rw [Bs (by omega),cond_true,he,obs,hw,obs,Fw (by omega) (by omega),hk _ hr,obs,obs,Aa1,L9 h1 (by omega),L9 h2 (by omega),show (⟨#[58]⟩:ByteArray)=ba [58] from rfl,show (⟨#[40]⟩:ByteArray)=ba [40] from rfl,show (⟨#[62]⟩:ByteArray)=ba [62] from rfl,show (⟨#[41]⟩:ByteArray)=ba [41] from rfl,show (⟨#[124]⟩:ByteArray)=ba [124] from rfl];rw [Dm (by simp; omega),B7,Dm (by simp; omega),B7,obs]
 have key:(cond (scl e.1) (Option.bind (Bt 4096 e.2.1) fun y29=>og ((ba [58]).size+y29.size<=9223372036854775807)<|og ((ba (T++([124]++Jc e.1))).size+(ba [58]++y29).size<=9223372036854775807)<|some (ba (T++([124]++Jc e.1))++(ba [58]++y29))) (some (ba (T++([124]++Jc e.1)))))=some (ba (T++124 :: I2 e)):=by
  unfold I2;cases hs:scl e.1
  ·rfl
  ·have hv:=Uo h hs;have h3:=H3 (n:=e.2.1) (by omega);rw [cond_true,Zu (by omega),obs,Dm (by simp; omega),B7,Dm (by simp; omega),B7,if_pos rfl];simp [List.append_assoc]
 rw [key,obs,obs,Dm (by simp; omega),B7,Dm (by simp; omega),obs,B7,Dm (by simp; omega),B7,Dm (by simp; omega),B7,Dm (by simp; omega),A5 (by omega),B7];unfold Fr;simp [List.append_assoc]
def Sx (W:Int) (xs ys:List Int):List UInt8:=(((dg W++[124])++jn xs)++[124])++jn ys
def Q0 (W:Int) (es:List Edg) (xs ys:List Int):List UInt8:=Sx W xs ys++es.flatMap fun e=>124 :: Fr e
structure Vw (W:Int) (es:List Edg) (xs ys:List Int):Prop where
 w:0<=W∧W<=100
 n:es.length<=60
 nx:xs.length<=12
 ny:ys.length<=12
 k:∀ e∈es,edK e=true
 rx:Gm xs
 ry:Gm ys
 re:∀ e∈es,Gm e.2.2.1∧Gm e.2.2.2
theorem Jf {W:Int} {xs:List Int} (hW:W<=100) (h:Cn W xs=true):Gm xs:=fun n hn=>by
 have:=Br.1 (List.all_eq_true.1 h n hn);omega
theorem Vh {W:Int} {es:List Edg} {xs ys:List Int} (h:Kq W es xs ys=true):Vw W es xs ys:=by
 unfold Kq at h;simp only [Bool.and_eq_true,decide_eq_true_eq,Yk,List.all_eq_true] at h;obtain ⟨h1,h2,h3,h4,h5,⟨h6,h7,h8⟩,_⟩:=h;have hw:=Br.1 h1;exact ⟨hw,h2,h3,h4,h5,Jf hw.2 h6,Jf hw.2 h7,fun e he=>⟨Jf hw.2 (h8 e he).1,Jf hw.2 (h8 e he).2⟩⟩
section
variable {W:Int} {es:List Edg} {xs ys:List Int}
theorem V0 (g:Vw W es xs ys):(Sx W xs ys).length<=3000:=by
 have h1:=F2 g.rx;have h2:=F2 g.ry;have h3:=H3 (n:=W) g.w;have h4:=g.nx;have h5:=g.ny;unfold Sx;simp only [List.length_append,List.length_cons,List.length_nil];omega
theorem Jb (g:Vw W es xs ys) (i:Nat):((es.take i).flatMap fun e=>124 :: Fr e).length<=601*60:=by
 have h1:=T5 (fun e=>124 :: Fr e) 601 (es.take i) fun e he=>by
  have:=List.mem_of_mem_take he;have:=Za (g.k e this) (g.re e this).1 (g.re e this).2;rw [List.length_cons]; omega
 have h2:=g.n;rw [List.length_take] at h1;omega
theorem Ab0 (g:Vw W es xs ys):D9 W es xs ys=some (ba (Q0 W es xs ys)):=by
 have h0:=V0 g;have h3:=H3 (n:=W) g.w;have h4:=g.nx;have h5:=g.ny;have hn:=g.n;have hwd:=g.w;have h1:=F2 g.rx;have h2:=F2 g.ry;unfold D9;rw [Zu (by omega),obs,L9 g.rx (by omega),L9 g.ry (by omega),show (⟨#[124]⟩:ByteArray)=ba [124] from rfl,Dm (by simp; omega),obs,B7,Dm (by simp; omega),B7,Dm (by simp; omega),obs,B7,Dm (by simp; omega),B7]
 have hloop:A9 (fun s_:ByteArray×Nat=>Cg es s_.1 s_.2) 4611686018427387904 (ba (Sx W xs ys),0)=some (ba (Q0 W es xs ys)):=by
  refine C7 es.length (fun i=>(ba (Sx W xs ys++(es.take i).flatMap fun e=>124 :: Fr e),i)) (by omega) _ (by simp) (fun i hi=>?_) ?_
  ·have hx:=gEg hi;have hm:=List.getElem_mem hi;have hle:=Jb g i
   try dsimp only
   rw [Xf (g.k _ hm) (g.re _ hm).1 (g.re _ hm).2 (by rw [List.length_append]; omega) (by omega) es hx,List.take_add_one,hx,Option.toList,List.flatMap_append];simp only [List.flatMap_cons,List.flatMap_nil,List.append_nil,List.append_assoc]
  ·try dsimp only
   unfold Cg;rw [Bk (by omega),cond_false,List.take_length];rfl
 exact (congrArg (fun z=>Option.bind z fun l10_m3=>some l10_m3) hloop)
theorem Vc (g:Vw W es xs ys):Cs W es xs ys=some (ba (Q0 W es xs ys)):=by
 have h0:=V0 g;have h3:=H3 (n:=W) g.w;have h4:=g.nx;have h5:=g.ny;have hn:=g.n;have hwd:=g.w;unfold Cs;rw [Aat (by omega),obs,L8 g.rx (by omega),obs,L8 g.ry (by omega),obs];have hloop:=Sp (body:=fun s_:Nat×List ByteArray=>Bc es s_.1 s_.2) es (fun e=>ba (Fr e)) [ba (dg W),ba (jn xs),ba (jn ys)] (F:=4611686018427387904) (by omega) ([ba (dg W),ba (jn xs),ba (jn ys)]++es.map fun e=>ba (Fr e)) (fun i x hx=>?_) ?_
 ·have e0:[ba (dg W),ba (jn xs),ba (jn ys)]++es.map (fun e=>ba (Fr e))=(dg W :: jn xs :: jn ys :: es.map Fr).map ba:=by simp
  have e1:=Aaw (dg W :: jn xs :: jn ys :: es.map Fr) [124]
  have e2:Lib.join (dg W :: jn xs :: jn ys :: es.map Fr) [124]=Q0 W es xs ys:=by
   rw [Lib.join_cons];unfold Q0 Sx Lib.joinTail;simp only [List.map_cons,List.flatten_cons,List.map_map,List.append_assoc,List.flatMap_def];rfl
  have h6:=Jb g es.length;rw [List.take_length] at h6;have h7:(Q0 W es xs ys).length<=100000:=by unfold Q0; rw [List.length_append]; omega
  show Option.bind (A9 (fun s_:Nat×List ByteArray=>Bc es s_.1 s_.2) 4611686018427387904 (0,[ba (dg W),ba (jn xs),ba (jn ys)])) _=_;rw [show A9 (fun s_:Nat×List ByteArray=>Bc es s_.1 s_.2) 4611686018427387904 (0,[ba (dg W),ba (jn xs),ba (jn ys)])=some ([ba (dg W),ba (jn xs),ba (jn ys)]++es.map fun e=>ba (Fr e)) by simpa using hloop,obs];unfold C5;rw [e0,show (⟨#[124]⟩:ByteArray)=ba [124] from rfl,e1,e2,A5 ⟨by simp; omega,by rw [Jk]; omega⟩,obs]
 ·have:=Bj hx;have hm:=List.mem_of_getElem? hx
  try dsimp only
  unfold Bc;rw [Bs (by omega),cond_true,hx,obs,Xi (g.k _ hm) (g.re _ hm).1 (g.re _ hm).2,obs,A5 (by simp; omega),A5 (by omega)]
 ·try dsimp only
  unfold Bc;rw [Bk (by omega),cond_false]
theorem Q1 (hl:es.length<=9223372036854775807) (hi:∀ x∈es,Acx x) (h1:xs.length<=9223372036854775807) (h2:ys.length<=9223372036854775807):Bi W es xs ys=some true:=by
 unfold Bi;obtain ⟨y,hy,h | ⟨h,b1,b2,b3,b4⟩⟩:=Y9 W es xs ys hl hi h1 h2
 ·rw [hy,obs,Bs h]; rfl
 rw [hy,obs,Bk (by omega),cond_false,Yn W es xs ys b1 b2 b3 b4];simp only [obs];unfold Dx Dy;rw [Yw,Zb W es xs ys b1 b2,obs,obs];cases hg:Kq W es xs ys
 ·simp [Sg W es xs ys b1 b2 b3 b4]
 ·have g:=Vh hg;rw [Ab0 g,Vc g];simp [Sg W es xs ys b1 b2 b3 b4]
end
theorem Abs {R:Nat->Prop} {w:World} {t:Ty} {A:Option Addr} {c:Nat} {xs:List t.D} {l:List Addr} (h:Sl R w t A c xs l):∀ x∈xs,∃ a l',Ty.Mem R w t a x l':=by
 obtain ⟨_,_,f,_,h4⟩:=h;intro x hx;obtain ⟨i,hi,rfl⟩:=List.getElem_of_mem hx;obtain ⟨_,_,_,h5⟩:=h4 (by omega);exact ⟨_,_,h5 i hi⟩
theorem Ach {R:Nat->Prop} {w:World} {A:Option Addr} {c:Nat} {xs:List Edg} {l:List Addr} (h:Sl R w (.pair .int (.pair .int (.pair (.slice .int) (.slice .int)))) A c xs l):∀ x∈xs,Acx x:=by
 intro x hx;obtain ⟨a,l',_,_,_,⟨_,_,_,⟨_,_,⟨A1,c1,_,h1⟩,⟨A2,c2,_,h2⟩,_⟩,_⟩,_⟩:=Abs h x hx;exact ⟨(P7 h1).2,(P7 h2).2⟩
end
section
open Go.RowKit Go.Deep
theorem graphText_walk (gWires:Int) (gEdges:List (Int×Int×(List Int)×(List Int))) (A_gEdges:Option Addr) (c_gEdges:Nat) (l_gEdges:List Addr) (gIn:List (Int)) (A_gIn:Option Addr) (c_gIn:Nat) (l_gIn:List Addr) (gOut:List (Int)) (A_gOut:Option Addr) (c_gOut:Nat) (l_gOut:List Addr) (w:World) (_i_gWires: -9223372036854775808<=gWires∧gWires<=9223372036854775807) (s_gEdges:Sl (fun _=>True) w (.pair .int (.pair .int (.pair (.slice .int) (.slice .int)))) A_gEdges c_gEdges gEdges l_gEdges) (_i_gEdges:Ty.In (.slice (.pair .int (.pair .int (.pair (.slice .int) (.slice .int))))) gEdges) (s_gIn:Sl (fun _=>True) w .int A_gIn c_gIn gIn l_gIn) (_i_gIn:Ty.In (.slice .int) gIn) (s_gOut:Sl (fun _=>True) w .int A_gOut c_gOut gOut l_gOut) (_i_gOut:Ty.In (.slice .int) gOut) (tab:Tab w) :
  Calls Tryd.prog 3 #[.agg #[.int .i64 gWires,.slice A_gEdges gEdges.length c_gEdges,.slice A_gIn gIn.length c_gIn,.slice A_gOut gOut.length c_gOut]] w fun e w'=>e=.returned (.bool true)∧Below w.heap.size w w':=by
 have hl:Bi gWires gEdges gIn gOut=some true:=Q1 (P7 s_gEdges).2 (Ach s_gEdges) (P7 s_gIn).2 (P7 s_gOut).2;refine (G1 hl w (fun _=>True) [.agg #[.int .i64 gWires,.slice A_gEdges gEdges.length c_gEdges,.slice A_gIn gIn.length c_gIn,.slice A_gOut gOut.length c_gOut]] (fun w' hb=>tab.below hb) ⟨_,_,rfl,⟨_,rfl,⟨_,_,rfl,rfl,⟨_,_,rfl,⟨A_gEdges,c_gEdges,l_gEdges,rfl,s_gEdges⟩,⟨_,_,rfl,⟨A_gIn,c_gIn,l_gIn,rfl,s_gIn⟩,⟨_,_,rfl,⟨A_gOut,c_gOut,l_gOut,rfl,s_gOut⟩,rfl⟩⟩⟩⟩⟩,rfl⟩).mono ?_;rintro e w' ⟨u,rfl,hb,us,ls,h1,_,rfl⟩;obtain ⟨u1,us1,rfl,h2,_,rfl,rfl⟩:=h1;obtain rfl:u1=.bool true:=h2;exact ⟨rfl,hb⟩
end
end Go.Proofs.YtgljmpiofhlkjaaDoor
