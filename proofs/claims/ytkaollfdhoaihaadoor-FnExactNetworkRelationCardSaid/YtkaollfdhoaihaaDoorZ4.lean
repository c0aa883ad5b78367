/- Lemmas on the program and on partial functions that stand in place of its code (part 4); no condition beyond those that each one states. -/
import Derived.Test.YtkaollfdhoaihaaDoorZ3
import Derived.KernelRfl
import Derived.IntWalk
namespace Go.Proofs.YtkaollfdhoaihaaDoor
open Go.RowKit Go.Deep
def base0 (ol:List (Oid×Ob)):Bool:=ol.all fun q=>q.1.1.2==0&&(match q.2 with | .mat _ p _ _=>p.1.2==0 | _=>true)
theorem base0_pl {ol:List (Oid×Ob)} (h:base0 ol=true):(ol.all fun q=>match q.2 with | .pool ..=>q.1.1.2==0 | .mat _ p _ _=>p.1.2==0 | _=>true)=true:=by
 unfold base0 at h
 rw [List.all_eq_true] at h ⊢
 rintro ⟨i,o⟩ hq
 have:=h _ hq
 simp only [Bool.and_eq_true] at this
 cases o <;> first | exact this.1 | exact this.2 | rfl
def inj0 (θ:Oid->Oid) (ol:List (Oid×Ob)):Bool:=ndB ((namesN ol).map θ)&&(ndB ((namesP ol).map θ)&&(((namesP ol).all fun i=>(θ i).1.2==0)&&(namesN ol).all fun i=>(θ i).1.2==0|| !((namesP ol).map θ).contains (baseO (θ i))))
theorem memN0 {ol:List (Oid×Ob)} {q:Oid×Ob} (hq:q∈ol) (hp:q.2.isPool=false):q.1∈namesN ol:=List.mem_map.2 ⟨_,List.mem_filter.2 ⟨hq,by simp [hp]⟩,rfl⟩
theorem memP0 {ol:List (Oid×Ob)} {q:Oid×Ob} (hq:q∈ol) (hp:q.2.isPool=true):q.1∈namesP ol:=List.mem_map.2 ⟨_,List.mem_filter.2 ⟨hq,by simp [hp]⟩,rfl⟩
theorem ex_inj {θ:Oid->Oid} {ol:List (Oid×Ob)} (hk:∀ p e u xss,(p,Ob.pool e u xss)∈ol->∀ k,θ (kid p k)=kid (θ p) k) (h:inj0 θ ol=true) (h0:base0 ol=true):∀ q∈exL ol,∀ q'∈exL ol,θ q.1=θ q'.1->q.1=q'.1:=by
 simp only [inj0,Bool.and_eq_true] at h
 obtain ⟨c3,c4,c7,c8⟩:=h
 rw [List.all_eq_true] at c7 c8
 have ndN:=ndB_spec c3
 have ndP:=ndB_spec c4
 unfold base0 at h0
 rw [List.all_eq_true] at h0
 have hb:∀ q∈ol,q.1.1.2=0:=fun q hq=>by
  have:=h0 q hq
  simp only [Bool.and_eq_true,beq_iff_eq] at this
  exact this.1
 intro q hq q' hq' e
 rcases exL_mem hq with ⟨p,e1,u,xss,k,row,m1,m2,rfl⟩ | ⟨o,m1,m2,m3⟩ <;> rcases exL_mem hq' with ⟨p',e1',u',xss',k',row',m1',m2',rfl⟩ | ⟨o',m1',m2',m3'⟩
 ·simp only [hk _ _ _ _ m1,hk _ _ _ _ m1'] at e
  have z1:=c7 _ (memP0 m1 rfl)
  have z2:=c7 _ (memP0 m1' rfl)
  rw [beq_iff_eq] at z1 z2
  have e1:θ p=θ p':=by rw [← baseO_kid z1 k,e,baseO_kid z2]
  have e2:=inj_of_nd ndP (memP0 m1 rfl) (memP0 m1' rfl) e1
  have e2:p=p':=e2
  subst e2
  rw [kid_inj e]
 ·exfalso
  simp only [hk _ _ _ _ m1] at e
  have hz:=c7 _ (memP0 m1 rfl)
  rw [beq_iff_eq] at hz
  have:=c8 _ (memN0 (q:=(q'.1,o')) m1' m2')
  simp only [← e,Bool.or_eq_true,beq_iff_eq,Bool.not_eq_true',baseO_kid hz] at this
  rcases this with h | h
  ·simp [kid] at h
  ·rw [List.contains_iff_mem.2 (List.mem_map.2 ⟨_,memP0 m1 rfl,rfl⟩)] at h
   cases h
 ·exfalso
  simp only [hk _ _ _ _ m1'] at e
  have hz:=c7 _ (memP0 m1' rfl)
  rw [beq_iff_eq] at hz
  have:=c8 _ (memN0 (q:=(q.1,o)) m1 m2)
  simp only [e,Bool.or_eq_true,beq_iff_eq,Bool.not_eq_true',baseO_kid hz] at this
  rcases this with h | h
  ·simp [kid] at h
  ·rw [List.contains_iff_mem.2 (List.mem_map.2 ⟨_,memP0 m1' rfl,rfl⟩)] at h
   cases h
 ·exact inj_of_nd ndN (memN0 (q:=(q.1,o)) m1 m2) (memN0 (q:=(q'.1,o')) m1' m2') e
def renE (ν:Oid->Oid) (us:List (Oid×Ob)):List (Oid×Ob):=us.map fun q=>(ν q.1,q.2.ren ν)
theorem exL_ren {ν:Oid->Oid}:∀ {us:List (Oid×Ob)},(∀ p e u xss,(p,Ob.pool e u xss)∈us->∀ k,ν (kid p k)=kid (ν p) k)->(∀ j e p u xss,(j,Ob.mat e p u xss)∈us->∀ k,ν (kid p k)=kid (ν p) k)->exL (renE ν us)=(exL us).map fun q=>(ν q.1,q.2.ren ν)
 | [],_,_=>rfl
 | (p,o) :: r,h1,h2=>by
  have ih:=exL_ren (us:=r) (fun p e u xss h=>h1 p e u xss (List.mem_cons_of_mem _ h)) (fun j e p u xss h=>h2 j e p u xss (List.mem_cons_of_mem _ h))
  cases o with
  | pool e u xss =>
   show (xss.zipIdx.map fun x=>(kid (ν p) x.2,Ob.arr e u x.1))++exL (renE ν r)=((xss.zipIdx.map fun x=>(kid p x.2,Ob.arr e u x.1))++exL r).map fun q=>(ν q.1,q.2.ren ν)
   rw [List.map_append,ih,List.map_map]
   congr 1
   apply List.map_congr_left
   intro x _
   simp only [Function.comp,h1 p e u xss (by simp)]
   rfl
  | mat e q u xss =>
   have:=exp_ren ν (.mat e q u xss) (fun e' p' u' xss' he k=>by
    obtain ⟨rfl,rfl,rfl,he⟩:=Ob.mat.inj he
    obtain rfl:=eq_of_heq he
    exact h2 p e q u xss (by simp) k)
   simp only [Ob.ren,Ob.exp] at this
   show (ν p,Ob.vec e 1 xss.length (hdL (ν q) u xss)) :: exL (renE ν r)=((p,Ob.vec e 1 xss.length (hdL q u xss)) :: exL r).map fun q=>(ν q.1,q.2.ren ν)
   rw [List.map_cons,ih,this]
   rfl
  | _=>exact congrArg (List.cons _) ih
theorem mkOb_found {rest:List (Oid×Option Ob)}:∀ {us:List (Oid×Ob)},(namesN us).Nodup->(namesP us).Nodup->(∀ p∈namesP us,p.1.2=0)->(∀ i∈namesN us,∀ p∈namesP us,∀ k,i≠kid p k)->∀ q∈exL us,mkOb (someL us++rest) q.1=some q.2
 | [],_,_,_,_,q,hq=>by cases hq
 | (p,o) :: r,nN,nP,h0,h1,q,hq=>by
  cases o with
  | pool e u xss =>
   have nP':(p :: namesP r).Nodup:=nP
   have nN':(namesN r).Nodup:=nN
   have h0':∀ i∈p :: namesP r,i.1.2=0:=h0
   have h1':∀ i∈namesN r,∀ j∈p :: namesP r,∀ k,i≠kid j k:=h1
   obtain ⟨n1,n2⟩:=List.nodup_cons.1 nP'
   simp only [exL,List.mem_append] at hq
   show mkOb ((p,some (.pool e u xss)) :: (someL r++rest)) q.1=some q.2
   rcases hq with hq | hq
   ·obtain ⟨⟨row,k⟩,hx,rfl⟩:=List.mem_map.1 hq
    rw [List.mem_zipIdx_iff_getElem?] at hx
    rw [mkOb_pool_kid]
    have hx:xss[k]? =some row:=hx
    rw [hx]; rfl
   ·rw [mkOb_pool_ne]
    ·exact mkOb_found nN' n2 (fun i hi=>h0' i (List.mem_cons_of_mem _ hi)) (fun i hi j hj=>h1' i hi j (List.mem_cons_of_mem _ hj)) q hq
    ·intro k e'
     rcases exL_mem hq with ⟨p',e1,u',xss',k',row,m1,m2,rfl⟩ | ⟨o,m1,m2,m3⟩
     ·have e':kid p' k'=kid p k:=e'
      have hb:p'=p:=by rw [← baseO_kid (h0' p' (List.mem_cons_of_mem _ (memP0 m1 rfl))) k',e',baseO_kid (h0' p List.mem_cons_self)]
      subst hb
      exact n1 (memP0 m1 rfl)
     ·exact h1' _ (memN0 (q:=(q.1,o)) m1 m2) p List.mem_cons_self k e'
  | _ =>
   have nN':(p :: namesN r).Nodup:=nN
   have nP':(namesP r).Nodup:=nP
   have h1':∀ i∈p :: namesN r,∀ j∈namesP r,∀ k,i≠kid j k:=h1
   obtain ⟨n1,n2⟩:=List.nodup_cons.1 nN'
   simp only [exL] at hq
   rcases List.mem_cons.1 hq with rfl | hq
   ·simp [someL,mkOb]
   ·have hne:q.1≠p:=by
     intro e'
     rcases exL_mem hq with ⟨p',e1,u',xss',k',row,m1,m2,rfl⟩ | ⟨o,m1,m2,m3⟩
     ·exact h1' p List.mem_cons_self p' (memP0 m1 rfl) k' e'.symm
     ·exact n1 (by rw [← e']; exact memN0 (q:=(q.1,o)) m1 m2)
    have:=mkOb_found (rest:=rest) n2 nP' h0 (fun i hi=>h1' i (List.mem_cons_of_mem _ hi)) q hq
    simp only [someL,List.map_cons,List.cons_append,mkOb]
    rw [if_neg hne]
    exact this
theorem mkOb_past {rest:List (Oid×Option Ob)}:∀ {us:List (Oid×Ob)} {k:Oid},(∀ q∈exL us,q.1≠k)->mkOb (someL us++rest) k=mkOb rest k∨(mkOb (someL us++rest) k=none∧∃ p e u xss,(p,Ob.pool e u xss)∈us∧k.2=p.2)
 | [],_,_=>.inl rfl
 | (p,o) :: r,k,h=>by
  have ih:(∀ q∈exL r,q.1≠k)->mkOb (someL r++rest) k=mkOb rest k∨(mkOb (someL r++rest) k=none∧∃ p' e u xss,(p',Ob.pool e u xss)∈(p,o) :: r∧k.2=p'.2):=fun h=>by
   rcases mkOb_past (us:=r) (rest:=rest) h with h | ⟨h,p',e,u,xss,hm,hk⟩
   ·exact .inl h
   ·exact .inr ⟨h,p',e,u,xss,List.mem_cons_of_mem _ hm,hk⟩
  cases o with
  | pool e u xss =>
   show mkOb ((p,some (.pool e u xss)) :: (someL r++rest)) k=_∨_
   rcases kid_or k p with ⟨j,rfl⟩ | h2
   ·refine .inr ⟨?_,p,e,u,xss,List.mem_cons_self,rfl⟩
    show mkOb ((p,some (.pool e u xss)) :: (someL r++rest)) (kid p j)=none
    rw [mkOb_pool_kid]
    cases hj:xss[j]? with
    | none=>rfl
    | some row =>
     refine absurd rfl (h (kid p j,.arr e u row) ?_)
     simp only [exL,List.mem_append]
     exact .inl (List.mem_map.2 ⟨(row,j),by rw [List.mem_zipIdx_iff_getElem?]; exact hj,rfl⟩)
   ·have h3:=ih (fun q hq=>h q (by simp only [exL,List.mem_append]; exact .inr hq))
    have:mkOb (someL ((p,Ob.pool e u xss) :: r)++rest) k=mkOb (someL r++rest) k:=mkOb_pool_ne h2
    rw [this,mkOb_pool_ne h2]
    exact h3
  | _ =>
   have h3:=ih (fun q hq=>h q (by simp only [exL]; exact List.mem_cons_of_mem _ hq))
   have hne:k≠p:=fun e=>h (p,_) (by simp only [exL]; exact List.mem_cons_self) e.symm
   simp only [someL,List.map_cons,List.cons_append,mkOb] at h3 ⊢
   rw [if_neg hne]
   exact h3
def killE (θ:Oid->Oid) (ol:List (Oid×Ob)):List (Oid×Option Ob):=ol.map fun q=>(θ q.1,match q.2 with | .pool e u _=>some (.pool e u []) | _=>none)
theorem kill_at {θ:Oid->Oid} {ol0:List (Oid×Option Ob)}:∀ {ol:List (Oid×Ob)},(∀ p e u xss,(p,Ob.pool e u xss)∈ol->(∀ k,θ (kid p k)=kid (θ p) k)∧poolAt ol0 (θ p)=some (.pool e u xss))->∀ k,(k∈(nmL ol).map θ->mkOb (killE θ ol++ol0) k=none)∧(k∉(nmL ol).map θ->mkOb (killE θ ol++ol0) k=mkOb ol0 k)
 | [],_,k=>⟨fun h=>by simp [nmL,exL] at h,fun _=>rfl⟩
 | (p,o) :: r,h,k=>by
  obtain ⟨i1,i2⟩:=kill_at (ol:=r) (fun p e u xss hm=>h p e u xss (List.mem_cons_of_mem _ hm)) k
  cases o with
  | pool e u xss =>
   obtain ⟨g1,g2⟩:=h p e u xss List.mem_cons_self
   have hnm:∀ x,x∈(nmL ((p,Ob.pool e u xss) :: r)).map θ↔(∃ j row,xss[j]? =some row∧x=kid (θ p) j)∨x∈(nmL r).map θ:=by
    intro x
    simp only [nmL,exL,List.map_append,List.mem_append,List.map_map]
    constructor
    ·rintro (hx | hx)
     ·obtain ⟨⟨row,j⟩,hz,rfl⟩:=List.mem_map.1 hx
      rw [List.mem_zipIdx_iff_getElem?] at hz
      exact .inl ⟨j,row,hz,g1 j⟩
     ·exact .inr hx
    ·rintro (⟨j,row,hj,rfl⟩ | hx)
     ·exact .inl (List.mem_map.2 ⟨(row,j),by rw [List.mem_zipIdx_iff_getElem?]; exact hj,g1 j⟩)
     ·exact .inr hx
   have e1:mkOb (killE θ ((p,Ob.pool e u xss) :: r)++ol0) k=if k.1.1=(θ p).1.1∧k.2=(θ p).2∧k.1.2≠0 then none else mkOb (killE θ r++ol0) k:=kill_pool k
   rw [e1,hnm]
   rcases kid_or k (θ p) with ⟨j,rfl⟩ | h2
   ·rw [if_pos ⟨rfl,rfl,by simp [kid]⟩]
    refine ⟨fun _=>rfl,fun hn=>?_⟩
    rw [poolAt_mk g2]
    cases hj:xss[j]? with
    | none=>rfl
    | some row=>exact absurd (.inl ⟨j,row,hj,rfl⟩) hn
   ·rw [if_neg (pool_ne h2)]
    exact ⟨fun hx=>i1 (hx.resolve_left fun ⟨j,row,_,e⟩=>h2 j e),fun hn=>i2 fun hx=>hn (.inr hx)⟩
  | _ =>
   have e1:∀ o:Ob,o.isPool=false->mkOb ((θ p,none) :: (killE θ r++ol0)) k=if k=θ p then none else mkOb (killE θ r++ol0) k:=fun _ _=>kill_none k
   simp only [killE,List.map_cons,List.cons_append] at i1 i2 ⊢
   rw [kill_none]
   simp only [nmL,exL,List.map_cons,List.mem_cons] at i1 i2 ⊢
   by_cases hk:k=θ p
   ·rw [if_pos hk]
    exact ⟨fun _=>rfl,fun hn=>absurd (.inl hk) hn⟩
   ·rw [if_neg hk]
    exact ⟨fun hx=>i1 (hx.resolve_left hk),fun hn=>i2 fun hx=>hn (.inr hx)⟩
theorem newN_kid {θ:Oid->Oid} {i p:Oid} (h:p.2=0->∀ k,θ (kid p k)=kid (θ p) k) (k:Nat):newN θ i (kid p k)=kid (newN θ i p) k:=by
 unfold newN
 have e:(kid p k).2=p.2:=rfl
 rw [e]
 by_cases h0:p.2=0
 ·rw [if_pos h0,if_pos h0,h h0]
 ·rw [if_neg h0,if_neg h0]; rfl
theorem exL_exp:∀ {l:List (Oid×Ob)} {a:Oid×Ob},a∈l->a.2.isPool=false->(a.1,a.2.exp)∈exL l
 | x :: r,a,h,hp=>by
  obtain ⟨x1,x2⟩:=x
  rcases List.mem_cons.1 h with rfl | h
  ·cases x2 <;> first | (simp only [exL,Ob.exp]; exact List.mem_cons_self) | cases hp
  ·have:=exL_exp h hp
   cases x2 <;> simp only [exL] <;> first | exact List.mem_cons_of_mem _ this | exact List.mem_append_right _ this
theorem namesN_ren (ν:Oid->Oid):∀ l:List (Oid×Ob),namesN (renE ν l)=(namesN l).map ν
 | []=>rfl
 | (x1,x2) :: r=>by
  have ih:=namesN_ren ν r
  cases x2 <;> simp_all [namesN,renE,Ob.ren,Ob.isPool]
theorem namesP_ren (ν:Oid->Oid):∀ l:List (Oid×Ob),namesP (renE ν l)=(namesP l).map ν
 | []=>rfl
 | (x1,x2) :: r=>by
  have ih:=namesP_ren ν r
  cases x2 <;> simp_all [namesP,renE,Ob.ren,Ob.isPool]
theorem ofN0 {l:List (Oid×Ob)} {i:Oid} (hi:i∈namesN l):∃ o,(i,o)∈l∧o.isPool=false:=by
 obtain ⟨q,hq,rfl⟩:=List.mem_map.1 hi
 obtain ⟨h1,h2⟩:=List.mem_filter.1 hq
 exact ⟨q.2,h1,by simpa using h2⟩
theorem ofP0 {l:List (Oid×Ob)} {i:Oid} (hi:i∈namesP l):∃ e u xss,(i,Ob.pool e u xss)∈l:=by
 obtain ⟨⟨j,o⟩,hq,e0⟩:=List.mem_map.1 hi
 obtain rfl:j=i:=e0
 obtain ⟨h1,h2⟩:=List.mem_filter.1 hq
 cases o <;> first | exact ⟨_,_,_,h1⟩ | cases h2
theorem updM_at {θ:Oid->Oid} {i:Oid} {ol us:List (Oid×Ob)} {ob:Oid->Option Ob} (hnd:(nmL us).Nodup) (hinj:∀ j∈nmL us,∀ k∈nmL us,newN θ i j=newN θ i k->j=k) :
  (∀ j q,(j,q)∈exL us->applyU (updM θ i ol us) ob (newN θ i j)=some (q.ren (newN θ i)))∧∀ k,(∀ j∈nmL us,newN θ i j≠k)->applyU (updM θ i ol us) ob k=if k∈(nmL ol).map θ then none else ob k:=by
 have hnm:∀ {l:List (Oid×Ob)} {q},q∈exL l->q.1∈nmL l:=fun hq=>List.mem_map.2 ⟨_,hq,rfl⟩
 refine ⟨fun j q hq=>?_,fun k hk=>?_⟩
 ·have hkeys:(((exL us).map fun q=>(newN θ i q.1,some (q.2.ren (newN θ i)))).map (·.1)).Nodup:=by
   rw [List.map_map]
   have:((exL us).map ((·.1)∘fun q:Oid×Ob=>(newN θ i q.1,some (q.2.ren (newN θ i)))))=(nmL us).map (newN θ i):=by
    unfold nmL; rw [List.map_map]; rfl
   rw [this]
   exact nd_map hnd hinj
  have:=fold_mem (fun u:Oid×Option Ob=>u.2) (fun u=>u.1) ((exL us).map fun q=>(newN θ i q.1,some (q.2.ren (newN θ i)))) (applyU ((exL ol).map fun q=>(θ q.1,none)) ob) (newN θ i j,some (q.ren (newN θ i))) hkeys (List.mem_map.2 ⟨(j,q),hq,rfl⟩)
  unfold applyU updM
  rw [List.foldl_append]
  exact this
 ·have e1:applyU (updM θ i ol us) ob k=applyU ((exL ol).map fun q=>(θ q.1,none)) ob k:=by
   have:=applyU_none (us:=(exL us).map fun q=>(newN θ i q.1,some (q.2.ren (newN θ i)))) (ob:=applyU ((exL ol).map fun q=>(θ q.1,none)) ob) (j:=k) fun u hu=>by
    obtain ⟨q,hq,rfl⟩:=List.mem_map.1 hu
    exact hk q.1 (hnm hq)
   rw [← this]
   unfold applyU updM
   rw [List.foldl_append]
  rw [e1]
  split
  ·rename_i hk'
   obtain ⟨j,hj,rfl⟩:=List.mem_map.1 hk'
   obtain ⟨q,hq,rfl⟩:=List.mem_map.1 hj
   exact (applyU_free ((exL ol).map fun q=>(θ q.1,none)) ob (fun u hu=>by obtain ⟨_,_,rfl⟩:=List.mem_map.1 hu; rfl)).2 (θ q.1,none) (List.mem_map.2 ⟨q,hq,rfl⟩)
  ·rename_i hk'
   exact applyU_none fun u hu e=>hk' (by obtain ⟨q,hq,rfl⟩:=List.mem_map.1 hu; exact List.mem_map.2 ⟨q.1,hnm hq,e⟩)
theorem ex_nd {us:List (Oid×Ob)} (nN:(namesN us).Nodup) (nP:(namesP us).Nodup) (h0:∀ q∈us,q.1.1.2=0):(nmL us).Nodup:=by
 induction us with
 | nil=>exact List.nodup_nil
 | cons x r ih =>
  obtain ⟨p,o⟩:=x
  have h0':∀ q∈r,q.1.1.2=0:=fun q hq=>h0 q (List.mem_cons_of_mem _ hq)
  have hp0:p.1.2=0:=h0 (p,o) List.mem_cons_self
  cases o with
  | pool e u xss =>
   have nP':(p :: namesP r).Nodup:=nP
   obtain ⟨n1,n2⟩:=List.nodup_cons.1 nP'
   have ihr:=ih nN n2 h0'
   unfold nmL at ihr ⊢
   simp only [exL,List.map_append,List.map_map]
   refine List.nodup_append.2 ⟨?_,ihr,fun a ha b hb e'=>?_⟩
   ·have:(xss.zipIdx.map ((fun x=>x.1)∘fun x:List u.D×Nat=>(kid p x.2,Ob.arr e u x.1)))=(xss.zipIdx.map (·.2)).map (kid p):=by
     rw [List.map_map]; rfl
    rw [this,List.zipIdx_map_snd]
    exact List.pairwise_map.2 ((List.pairwise_lt_range' (s:=0) (n:=xss.length)).imp fun h e=>by have:=kid_inj e; omega)
   ·subst e'
    obtain ⟨x,_,rfl⟩:=List.mem_map.1 ha
    obtain ⟨q,hq,e'⟩:=List.mem_map.1 hb
    have e':q.1=kid p x.2:=e'
    rcases exL_mem hq with ⟨p',e1,u',xss',k',row,m1,m2,rfl⟩ | ⟨o,m1,m2,m3⟩
    ·have e':kid p' k'=kid p x.2:=e'
     have hp1:p'.1.2=0:=h0' _ m1
     have hb:p'=p:=by rw [← baseO_kid hp1 k',e',baseO_kid hp0]
     subst hb
     exact n1 (memP0 m1 rfl)
    ·have:=h0' _ m1
     simp only [e'] at this
     simp [kid] at this
  | _ =>
   have nN':(p :: namesN r).Nodup:=nN
   obtain ⟨n1,n2⟩:=List.nodup_cons.1 nN'
   have ihr:=ih n2 nP h0'
   unfold nmL at ihr ⊢
   simp only [exL,List.map_cons]
   refine List.nodup_cons.2 ⟨fun hm=>?_,ihr⟩
   obtain ⟨q,hq,e'⟩:=List.mem_map.1 hm
   rcases exL_mem hq with ⟨p',e1,u',xss',k',row,m1,m2,rfl⟩ | ⟨o,m1,m2,m3⟩
   ·rw [← e'] at hp0
    simp [kid] at hp0
   ·exact n1 (by rw [← e']; exact memN0 (q:=(q.1,o)) m1 m2)
def newB (ol us:List (Oid×Ob)):Bool:=(ndB (namesN us)&&ndB (namesP us))&&((us.all fun q=>q.1.2==1||(q.1.2==0&&((namesN ol).contains q.1&& !q.2.isPool)))&&base0 us)
theorem newB_ex {ol us:List (Oid×Ob)} (h:newB ol us=true):∀ q∈exL us,q.1.2=1∨(q.1.2=0∧q.1∈nmL ol):=by
 simp only [newB,Bool.and_eq_true] at h
 obtain ⟨_,hug,_⟩:=h
 rw [List.all_eq_true] at hug
 intro q hq
 rcases exL_mem hq with ⟨p,e,u,xss,k,row,m1,m2,rfl⟩ | ⟨o,m1,m2,m3⟩
 ·have:=hug _ m1
  simp only [Ob.isPool,Bool.not_true,Bool.and_false,Bool.or_false,beq_iff_eq] at this
  exact .inl this
 ·have:=hug _ m1
  simp only [Bool.or_eq_true,Bool.and_eq_true,beq_iff_eq] at this
  rcases this with h | ⟨h,h',_⟩
  ·exact .inl h
  ·refine .inr ⟨h,?_⟩
   obtain ⟨o',ho,hp⟩:=ofN0 (List.contains_iff_mem.1 h')
   exact List.mem_map.2 ⟨_,exL_exp ho hp,rfl⟩
theorem upd_list {l:List (Oid×Oid)} {i:Oid} {ol us:List (Oid×Ob)} {ol0:List (Oid×Option Ob)} (hl:keys0 l=true) (h0:base0 ol=true) (hR:ObsR ol0 (renF l) ol) (hB:newB ol us=true) (hfr:noGen i.2 ol0=true) (hij:inj0 (renF l) ol=true) :
  applyU (updM (renF l) i ol us) (mkOb ol0)=mkOb (someL (renE (newN (renF l) i) us)++(killE (renF l) ol++ol0)):=by
 have hpool:∀ {l':List (Oid×Ob)},base0 l'=true->(∀ q∈l',q.1.1.2=0)∧∀ j e p u xss,(j,Ob.mat e p u xss)∈l'->p.1.2=0:=fun h=>by
  unfold base0 at h
  rw [List.all_eq_true] at h
  refine ⟨fun q hq=>?_,fun j e p u xss hq=>?_⟩
  ·have:=h q hq
   simp only [Bool.and_eq_true,beq_iff_eq] at this
   exact this.1
  ·have:=h _ hq
   simp only [Bool.and_eq_true,beq_iff_eq] at this
   exact this.2
 have husn:=newB_ex hB
 simp only [newB,Bool.and_eq_true] at hB
 obtain ⟨hnd,hug,hu0⟩:=hB
 obtain ⟨b1,b2⟩:=hpool h0
 obtain ⟨d1,d2⟩:=hpool hu0
 have nN:=ndB_spec hnd.1
 have nP:=ndB_spec hnd.2
 rw [List.all_eq_true] at hug
 let θ:=renF l
 let ν:=newN θ i
 have hθk:∀ p e u xss,(p,Ob.pool e u xss)∈ol->∀ k,θ (kid p k)=kid (θ p) k:=fun p e u xss hm k=>renF_kid hl (b1 _ hm) k
 have hνk:∀ p,p.1.2=0->∀ k,ν (kid p k)=kid (ν p) k:=fun p hp k=>newN_kid (fun _ k=>renF_kid hl hp k) k
 have hget:=obsR_ex hl hR (base0_pl h0)
 have hold:∀ j∈nmL ol,∃ o,mkOb ol0 (θ j)=some o:=fun j hj=>by
  obtain ⟨q,hq,rfl⟩:=List.mem_map.1 hj
  exact ⟨_,hget q hq⟩
 have hgenθ:∀ j∈nmL ol,(θ j).2≠i.2:=fun j hj e=>by
  obtain ⟨o,ho⟩:=hold j hj
  rw [noGen_none hfr _ e] at ho
  cases ho
 have hex:=exL_ren (ν:=ν) (us:=us) (fun p e u xss hm=>hνk p (d1 _ hm)) (fun j e p u xss hm=>hνk p (d2 j e p u xss hm))
 have hθinj:=ex_inj hθk hij h0
 have hνcase:∀ j∈nmL us,(j.2=0∧j∈nmL ol∧ν j=θ j)∨(j.2=1∧ν j=((i.1.1*16+j.1.1,j.1.2),i.2)):=by
  intro j hj
  obtain ⟨q,hq,rfl⟩:=List.mem_map.1 hj
  rcases husn q hq with h | ⟨h,h'⟩
  ·exact .inr ⟨h,by simp [ν,newN,h]⟩
  ·exact .inl ⟨h,h',by simp [ν,newN,h]⟩
 have hνinj:∀ j∈nmL us,∀ k∈nmL us,ν j=ν k->j=k:=by
  intro j hj k hk e
  rcases hνcase j hj with ⟨a1,a2,a3⟩ | ⟨a1,a3⟩ <;> rcases hνcase k hk with ⟨b1,b2,b3⟩ | ⟨b1,b3⟩
  ·rw [a3,b3] at e
   obtain ⟨r,hr,er⟩:=List.mem_map.1 a2
   obtain ⟨r',hr',er'⟩:=List.mem_map.1 b2
   have:=hθinj r hr r' hr' (by rw [er,er']; exact e)
   rw [← er,← er',this]
  ·have:=hgenθ _ a2
   rw [← a3,e,b3] at this
   exact absurd rfl this
  ·have:=hgenθ _ b2
   rw [← b3,← e,a3] at this
   exact absurd rfl this
  ·rw [a3,b3] at e
   obtain ⟨⟨x1,x2⟩,x3⟩:=j
   obtain ⟨⟨y1,y2⟩,y3⟩:=k
   simp only [Prod.mk.injEq] at *
   omega
 have hNm:∀ z∈namesN us,z∈nmL us:=fun z hz=>by
  obtain ⟨o,ho,hp⟩:=ofN0 hz
  exact List.mem_map.2 ⟨_,exL_exp ho hp,rfl⟩
 have hpg:∀ p∈namesP us,p.2=1∧ν p=((i.1.1*16+p.1.1,p.1.2),i.2):=by
  intro p hp
  obtain ⟨e,u,xss,hm⟩:=ofP0 hp
  have:=hug _ hm
  simp only [Ob.isPool,Bool.not_true,Bool.and_false,Bool.or_false,beq_iff_eq] at this
  exact ⟨this,by simp [ν,newN,this]⟩
 have hP0:∀ p∈namesP us,p.1.2=0:=fun p hp=>by
  obtain ⟨e,u,xss,hm⟩:=ofP0 hp
  exact d1 _ hm
 have hndN:(namesN (renE ν us)).Nodup:=by
  rw [namesN_ren]
  exact nd_map nN fun x hx y hy e=>hνinj x (hNm x hx) y (hNm y hy) e
 have hndP:(namesP (renE ν us)).Nodup:=by
  rw [namesP_ren]
  refine nd_map nP fun x hx y hy e=>?_
  obtain ⟨g1,e1⟩:=hpg _ hx
  obtain ⟨g2,e2⟩:=hpg _ hy
  rw [e1,e2] at e
  obtain ⟨⟨x1,x2⟩,x3⟩:=x
  obtain ⟨⟨y1,y2⟩,y3⟩:=y
  simp only [Prod.mk.injEq] at *
  omega
 have hfound:=mkOb_found (rest:=killE θ ol++ol0) hndN hndP (fun p hp=>by
  rw [namesP_ren] at hp
  obtain ⟨p0,hp0,rfl⟩:=List.mem_map.1 hp
  rw [(hpg p0 hp0).2]; exact hP0 p0 hp0) (fun z hz p hp k e=>by
  rw [namesN_ren] at hz
  rw [namesP_ren] at hp
  obtain ⟨z0,hz0,rfl⟩:=List.mem_map.1 hz
  obtain ⟨p0,hp0,rfl⟩:=List.mem_map.1 hp
  rw [(hpg p0 hp0).2] at e
  rcases hνcase z0 (hNm z0 hz0) with ⟨a1,a2,a3⟩ | ⟨a1,a3⟩
  ·have:=hgenθ _ a2
   rw [← a3,e] at this
   exact this rfl
  ·rw [a3] at e
   have:z0.1.2=0:=by
    obtain ⟨o,ho,_⟩:=ofN0 hz0
    exact d1 _ ho
   have h9:=congrArg (fun i:Oid=>i.1.2) e
   simp only [kid] at h9
   omega)
 have hkill:=kill_at (θ:=θ) (ol0:=ol0) (ol:=ol) (fun p e u xss hm=>⟨hθk p e u xss hm,by
  have:=obsR_mem hR _ hm
  simpa only [getE,Ob.isPool,if_true,Ob.ren] using this⟩)
 obtain ⟨u1,u2⟩:=updM_at (ob:=mkOb ol0) (ol:=ol) (ex_nd nN nP d1) hνinj
 funext k
 by_cases hex':∃ j∈nmL us,ν j=k
 ·obtain ⟨j,hj,rfl⟩:=hex'
  obtain ⟨q,hq,rfl⟩:=List.mem_map.1 hj
  rw [u1 q.1 q.2 hq]
  exact (hfound (ν q.1,q.2.ren ν) (by rw [hex]; exact List.mem_map.2 ⟨q,hq,rfl⟩)).symm
 ·have hno:∀ j∈nmL us,ν j≠k:=fun j hj e=>hex' ⟨j,hj,e⟩
  rw [u2 k hno]
  have hno':∀ q∈exL (renE ν us),q.1≠k:=fun q hq e=>by
   rw [hex] at hq
   obtain ⟨q0,hq0,rfl⟩:=List.mem_map.1 hq
   exact hno q0.1 (List.mem_map.2 ⟨q0,hq0,rfl⟩) e
  have hrest:mkOb (killE θ ol++ol0) k=if k∈(nmL ol).map θ then none else mkOb ol0 k:=by
   split
   ·rename_i h; exact (hkill k).1 h
   ·rename_i h; exact (hkill k).2 h
  rcases mkOb_past (rest:=killE θ ol++ol0) hno' with h | ⟨h,p,e,u,xss,hm,hk⟩
  ·rw [← hrest]; exact h.symm
  ·have hp:p∈namesP (renE ν us):=memP0 hm rfl
   rw [namesP_ren] at hp
   obtain ⟨p0,hp0,rfl⟩:=List.mem_map.1 hp
   have hk2:k.2=i.2:=by rw [hk,(hpg p0 hp0).2]
   have h1:mkOb (someL (renE (newN (renF l) i) us)++(killE (renF l) ol++ol0)) k=none:=h
   rw [h1]
   split
   ·rfl
   ·exact noGen_none hfr k hk2
end Go.Proofs.YtkaollfdhoaihaaDoor
namespace Go.Proofs.YtkaollfdhoaihaaDoor
open Go.RowKit Go.Deep
section
variable {P:Program} {G:World->Prop}
theorem awp_seqv_ {x y:AC} {R:AE->St->Prop} {S:St} (h:awp P G x (thenA (fun S'=>∃ S'',Weak S' S''∧awp P G y R S'') R) S):awp P G (.seq x y) R S:=h
theorem awp_seqw_ {x y:AC} {R:AE->St->Prop} {S:St} (K:St->Prop) (h:awp P G x (thenA (fun S'=>∃ S'',Weak S' S''∧K S'') R) S) (k:∀ S'',K S''->awp P G y R S''):awp P G (.seq x y) R S:=by
 unfold awp
 exact awp_mono (fun e S hq=>by
  cases e with
  | normal=>obtain ⟨S'',hw,hk⟩:=hq; exact ⟨S'',hw,k S'' hk⟩
  | exit id=>exact hq
  | ret=>exact hq) h
def badB (rs:List Rec) (ds:List (List Oid)):List (Nat×Nat)->Bool
 | []=>true
 | p :: ps=>(let ri:=rs.getD p.2 (0,.any,[]); let rj:=rs.getD p.1 (0,.any,[]); let di:=ds.getD p.2 []; let dj:=ds.getD p.1 []
   ((!(ri.1==2)||rj.1==0)&&(!(rj.1==2)||ri.1==0))||((!(ri.1==2)||ri.2.2.all fun u=> !dj.contains u.1)&&((!(rj.1==2)||rj.2.2.all fun u=> !di.contains u.1)&&ri.2.2.all fun u=>rj.2.2.all fun v=> !(u.1==v.1))))&&badB rs ds ps
theorem badB_spec {rs:List Rec} {ds:List (List Oid)}:∀ {bad:List (Nat×Nat)},badB rs ds bad=true->badP rs ds bad
 | [],_=>trivial
 | p :: ps,h=>by
  simp only [badB,Bool.and_eq_true] at h
  refine ⟨?_,badB_spec h.2⟩
  have h1:=h.1
  simp only [Bool.or_eq_true,Bool.and_eq_true,Bool.not_eq_true',beq_eq_false_iff_ne,beq_iff_eq,List.all_eq_true,List.contains_eq_mem,decide_eq_false_iff_not] at h1
  unfold pairOK
  rcases h1 with ⟨a,b⟩ | ⟨a,b,c⟩
  ·refine .inl ⟨fun e=>?_,fun e=>?_⟩
   ·rcases a with a | a
    ·exact absurd e a
    ·exact a
   ·rcases b with b | b
    ·exact absurd e b
    ·exact b
  ·refine .inr ⟨fun e=>?_,fun e=>?_,c⟩
   ·rcases a with a | a
    ·exact absurd e a
    ·exact a
   ·rcases b with b | b
    ·exact absurd e b
    ·exact b
def XW (P:Program) (G:World->Prop) (g k:Nat) (xs:List X) (tl:List (Nat×AV)) (ol:List (Oid×Option Ob)) (Kf:List (Nat×AV)->List (Oid×Option Ob)->Prop):Prop :=
 ∃ rs tl' ol',RunX P G g k xs (mkTm tl) (mkOb ol) rs (mkTm tl') (mkOb ol')∧Kf tl' ol'
def XD (P:Program) (G:World->Prop) (bad:List (Nat×Nat)) (g k:Nat) (xs:List X) (tl:List (Nat×AV)) (ol:List (Oid×Option Ob)) (ra:List Rec) (da:List (List Oid)) (Kf:List (Nat×AV)->List (Oid×Option Ob)->Prop):Prop :=
 ∃ rs ds tl' ol',RunD P G g k xs (mkTm tl) (mkOb ol) rs ds (mkTm tl') (mkOb ol')∧badP (ra.reverse++rs) (da.reverse++ds) bad∧Kf tl' ol'
theorem awp_region_ {xs:List X} {bad:List (Nat×Nat)} {R:AE->St->Prop} {tl:List (Nat×AV)} {ol:List (Oid×Option Ob)} {g:Nat} (g':Nat) (h:XW P G g 0 xs tl ol fun tl' ol'=>R .normal ⟨mkTm tl',mkOb ol',g'⟩) (hn:g+xs.length=g':=by kernel_rfl):awp P G (.region xs false bad) R ⟨mkTm tl,mkOb ol,g⟩:=by
 obtain ⟨rs,tl',ol',h,hr⟩:=h
 exact ⟨rs,_,_,h,by subst hn; exact hr⟩
theorem awp_regionD_ {xs:List X} {bad:List (Nat×Nat)} {R:AE->St->Prop} {tl:List (Nat×AV)} {ol:List (Oid×Option Ob)} {g:Nat} (g':Nat) (h:XD P G bad g 0 xs tl ol [] [] fun tl' ol'=>R .normal ⟨mkTm tl',mkOb ol',g'⟩) (hn:g+xs.length=g':=by kernel_rfl):awp P G (.region xs true bad) R ⟨mkTm tl,mkOb ol,g⟩:=by
 obtain ⟨rs,ds,tl',ol',h,hb,hr⟩:=h
 exact ⟨rs,ds,_,_,h,hb,by subst hn; exact hr⟩
theorem upd_mkTm (tl:List (Nat×AV)) (d:Nat) (v:AV):upd (mkTm tl) d v=mkTm ((d,v) :: tl):=by
 funext i
 rfl
def exactO:Option Ob->Bool
 | some (.pool ..)=>false
 | some (.mat ..)=>false
 | _=>true
def exactU (us:List (Oid×Option Ob)):Bool:=us.all fun u=>exactO u.2
theorem upd_mkOb {ol:List (Oid×Option Ob)} {j:Oid} {o:Option Ob} (h:exactO o=true):upd (mkOb ol) j o=mkOb ((j,o) :: ol):=by
 cases o with
 | none=>funext i; rfl
 | some o=>cases o <;> first | (funext i; rfl) | cases h
theorem applyU_mkOb:∀ (us ol:List (Oid×Option Ob)),exactU us=true->applyU us (mkOb ol)=mkOb (us.reverseAux ol)
 | [],_,_=>rfl
 | (j,o) :: us,ol,h=>by
  simp only [exactU,List.all_cons,Bool.and_eq_true] at h
  show applyU us (upd (mkOb ol) j o)=_
  rw [upd_mkOb h.1]
  exact applyU_mkOb us _ h.2
theorem stepX_R {p:Bool} {n:Nat} {x:X} {f:Nat->AV} {ob:Oid->Option Ob} {r:Rec} (h:stepX n x f ob=some r):StepR P G p n x f ob r:=by
 unfold stepX at h
 unfold StepR
 split at h
 ·exact .inl (.inl (.inl h))
 ·split at h
  ·rename_i hc
   exact ⟨true,hc,by rw [if_pos rfl]; exact .inl (.inl (.inl h))⟩
  ·rename_i hc
   exact ⟨false,hc,by rw [if_neg (by simp)]; exact (Option.some.inj h).symm⟩
  ·cases h
def gdOK (gd:Option (Nat×Bool)) (f:Nat->AV):Prop :=
 match gd with
 | none=>True
 | some (s,c)=>f s=.bool c
theorem gdOK_v {s:Nat} {b:Bool} {f:Nat->AV} (h:gdOK (some (s,b)) f):gdv (f s) b=some true:=by
 rw [show f s=.bool b from h]; simp [gdv]
theorem gdOK_b {s:Nat} {b c:Bool} {f:Nat->AV} (h:f s=.bool c) (hc:c=b):gdOK (some (s,b)) f:=by subst hc; exact h
theorem callX_R {p:Bool} {n:Nat} {d:Option Nat} {gd:Option (Nat×Bool)} {fo:Opd} {xs:List Opd} {tys:List (List (Option Ty))} {f:Nat->AV} {ob:Oid->Option Ob} {F:FuncId} {caps args0 args:List AV} {rv:RV} {r:AV×List (Oid×Option Ob)}
  (hgd:gdOK gd f) (hfo:fo.ev f=.fn F caps) (h1:mapO (gnd ob 8) ((xs++caps.map Opd.cst).map (Opd.ev f))=some args0) (hn:nilTL tys args0=args) (hb:hasBody P F=true) (hc:CallOK P G F args rv) (hr:rv.out (mkId ((d.getD 0,0),n)) ((xs++caps.map Opd.cst).map (Opd.ev f))=r) :
  StepR P G p n ⟨d,gd,.call fo xs tys⟩ f ob (1,r.1,r.2):=by
 subst hn
 have key:EvR P G p f ob ((d.getD 0,0),n) (.call fo xs tys) (1,r.1,r.2):=.inr ⟨fo,xs,tys,F,caps,rfl,hfo,.inl ⟨rfl,hb,args0,rv,h1,hc,hr⟩⟩
 unfold StepR
 cases gd with
 | none=>exact key
 | some sb=>exact ⟨true,gdOK_v hgd,by rw [if_pos rfl]; exact key⟩
theorem callN_R {n:Nat} {d:Option Nat} {gd:Option (Nat×Bool)} {fo:Opd} {xs:List Opd} {tys:List (List (Option Ty))} {f:Nat->AV} {ob:Oid->Option Ob} {F:FuncId} {caps zs args:List AV} {v:AV} {ol us:List (Oid×Ob)} (θ:Oid->Oid)
  (hgd:gdOK gd f) (hfo:fo.ev f=.fn F caps) (hz:(xs++caps.map Opd.cst).map (Opd.ev f)=zs) (h1:ArgRL θ (less ((nmL ol).map θ) ob) zs args) (h2:∀ q∈exL ol,ob (θ q.1)=some (q.2.ren θ)) (h3:∀ q∈exL ol,∀ q'∈exL ol,θ q.1=θ q'.1->q.1=q'.1) (h4:∀ j∈nmL ol,Reached zs ob (θ j))
  (h5:∀ q∈exL us,q.1.2=1∨(q.1.2=0∧q.1∈nmL ol)) (hb:hasBody P F=true) (hc:CallM P G F args ol v us) :
  StepR P G false n ⟨d,gd,.call fo xs tys⟩ f ob (2,v.ren (newN θ ((d.getD 0,0),n)),updM θ ((d.getD 0,0),n) ol us):=by
 have hN:CallN P G f ob ((d.getD 0,0),n) F (xs++caps.map Opd.cst) (v.ren (newN θ ((d.getD 0,0),n)),updM θ ((d.getD 0,0),n) ol us):=by
  rw [← hz] at h1 h4
  refine ⟨hb,θ,args,ol,us,v,h1,h2,fun j k hj hk e=>?_,h4,hc,fun j hj=>?_,rfl⟩
  ·obtain ⟨q,hq,rfl⟩:=List.mem_map.1 hj
   obtain ⟨q',hq',rfl⟩:=List.mem_map.1 hk
   exact h3 q hq q' hq' e
  ·obtain ⟨q,hq,rfl⟩:=List.mem_map.1 hj
   rcases h5 q hq with h | ⟨_,h⟩
   ·exact .inl (by rw [h]; decide)
   ·exact .inr h
 have key:EvR P G false f ob ((d.getD 0,0),n) (.call fo xs tys) (2,v.ren (newN θ ((d.getD 0,0),n)),updM θ ((d.getD 0,0),n) ol us):=.inr ⟨fo,xs,tys,F,caps,rfl,hfo,.inr ⟨rfl,rfl,hN⟩⟩
 unfold StepR
 cases gd with
 | none=>exact key
 | some sb=>exact ⟨true,gdOK_v hgd,by rw [if_pos rfl]; exact key⟩
theorem mkV_R {n:Nat} {d:Option Nat} {gd:Option (Nat×Bool)} {q:Q} {f:Nat->AV} {ob:Oid->Option Ob} {r:Rec} (hgd:gdOK gd f) (h:evL f ((d.getD 0,0),n) q=some r):StepR P G false n ⟨d,gd,q⟩ f ob r:=by
 have key:EvR P G false f ob ((d.getD 0,0),n) q r:=.inl (.inl (.inr h))
 unfold StepR
 cases gd with
 | none=>exact key
 | some sb=>exact ⟨true,gdOK_v hgd,by rw [if_pos rfl]; exact key⟩
theorem makeM_R {n:Nat} {d:Option Nat} {gd:Option (Nat×Bool)} {q:Q} {f:Nat->AV} {ob:Oid->Option Ob} {r:Rec} (hgd:gdOK gd f) (h:MakeM f ((d.getD 0,0),n) q r):StepR P G false n ⟨d,gd,q⟩ f ob r:=by
 have key:EvR P G false f ob ((d.getD 0,0),n) q r:=.inl (.inr h)
 unfold StepR
 cases gd with
 | none=>exact key
 | some sb=>exact ⟨true,gdOK_v hgd,by rw [if_pos rfl]; exact key⟩
theorem rnil {g k:Nat} {tl:List (Nat×AV)} {ol:List (Oid×Option Ob)} {Kf:List (Nat×AV)->List (Oid×Option Ob)->Prop} (h:Kf tl ol):XW P G g k [] tl ol Kf:=⟨[],tl,ol,⟨rfl,rfl,rfl⟩,h⟩
theorem dnil {bad:List (Nat×Nat)} {g k:Nat} {tl:List (Nat×AV)} {ol:List (Oid×Option Ob)} {ra:List Rec} {da:List (List Oid)} {Kf:List (Nat×AV)->List (Oid×Option Ob)->Prop} (hb:badP (ra.reverse++[]) (da.reverse++[]) bad) (h:Kf tl ol):XD P G bad g k [] tl ol ra da Kf:=⟨[],[],tl,ol,⟨rfl,rfl,rfl,rfl⟩,hb,h⟩
section
variable {g k d:Nat} {gd:Option (Nat×Bool)} {q:Q} {xs:List X} {tl:List (Nat×AV)} {ol:List (Oid×Option Ob)} {bad:List (Nat×Nat)} {ra:List Rec} {da:List (List Oid)} {Kf:List (Nat×AV)->List (Oid×Option Ob)->Prop}
theorem rstepE (c:Nat) (v:AV) (us ol':List (Oid×Option Ob)) (h:StepR P G false (g+k) ⟨some d,gd,q⟩ (mkTm tl) (mkOb ol) (c,v,us)) (he:applyU us (mkOb ol)=mkOb ol') (h3:XW P G g (k+1) xs ((d,v) :: tl) ol' Kf):XW P G g k (⟨some d,gd,q⟩ :: xs) tl ol Kf :=
 by
 obtain ⟨rs,tl',ol',h3,hk⟩:=h3
 exact ⟨_,tl',ol',⟨_,_,rfl,h,by simp only [putT,upd_mkTm,he]; exact h3⟩,hk⟩
theorem rstepnE (c:Nat) (v:AV) (us ol':List (Oid×Option Ob)) (h:StepR P G false (g+k) ⟨none,gd,q⟩ (mkTm tl) (mkOb ol) (c,v,us)) (he:applyU us (mkOb ol)=mkOb ol') (h3:XW P G g (k+1) xs tl ol' Kf):XW P G g k (⟨none,gd,q⟩ :: xs) tl ol Kf :=
 by
 obtain ⟨rs,tl',ol',h3,hk⟩:=h3
 exact ⟨_,tl',ol',⟨_,_,rfl,h,by simp only [putT,he]; exact h3⟩,hk⟩
theorem dstepE (c:Nat) (v:AV) (us ol':List (Oid×Option Ob)) (h:StepR P G false (g+k) ⟨some d,gd,q⟩ (mkTm tl) (only (rdX (mkTm tl) (mkOb ol) ⟨some d,gd,q⟩) (mkOb ol)) (c,v,us)) (he:applyU us (mkOb ol)=mkOb ol') (h3:XD P G bad g (k+1) xs ((d,v) :: tl) ol' ((c,v,us) :: ra) ((rdX (mkTm tl) (mkOb ol) ⟨some d,gd,q⟩) :: da) Kf):XD P G bad g k (⟨some d,gd,q⟩ :: xs) tl ol ra da Kf :=
 by
 obtain ⟨rs,ds,tl',ol',h3,hb,hk⟩:=h3
 refine ⟨_,_,tl',ol',⟨_,rs,ds,rfl,rfl,h,by simp only [putT,upd_mkTm,he]; exact h3⟩,?_,hk⟩
 simpa using hb
theorem dstepnE (c:Nat) (v:AV) (us ol':List (Oid×Option Ob)) (h:StepR P G false (g+k) ⟨none,gd,q⟩ (mkTm tl) (only (rdX (mkTm tl) (mkOb ol) ⟨none,gd,q⟩) (mkOb ol)) (c,v,us)) (he:applyU us (mkOb ol)=mkOb ol') (h3:XD P G bad g (k+1) xs tl ol' ((c,v,us) :: ra) ((rdX (mkTm tl) (mkOb ol) ⟨none,gd,q⟩) :: da) Kf):XD P G bad g k (⟨none,gd,q⟩ :: xs) tl ol ra da Kf :=
 by
 obtain ⟨rs,ds,tl',ol',h3,hb,hk⟩:=h3
 refine ⟨_,_,tl',ol',⟨_,rs,ds,rfl,rfl,h,by simp only [putT,he]; exact h3⟩,?_,hk⟩
 simpa using hb
theorem rstep (c:Nat) (v:AV) (us:List (Oid×Option Ob)) (h:StepR P G false (g+k) ⟨some d,gd,q⟩ (mkTm tl) (mkOb ol) (c,v,us)) (h3:XW P G g (k+1) xs ((d,v) :: tl) (us.reverseAux ol) Kf) (hx:exactU us=true):XW P G g k (⟨some d,gd,q⟩ :: xs) tl ol Kf:=rstepE c v us _ h (applyU_mkOb us ol hx) h3
theorem rstepn (c:Nat) (v:AV) (us:List (Oid×Option Ob)) (h:StepR P G false (g+k) ⟨none,gd,q⟩ (mkTm tl) (mkOb ol) (c,v,us)) (h3:XW P G g (k+1) xs tl (us.reverseAux ol) Kf) (hx:exactU us=true):XW P G g k (⟨none,gd,q⟩ :: xs) tl ol Kf:=rstepnE c v us _ h (applyU_mkOb us ol hx) h3
theorem dstep (c:Nat) (v:AV) (us:List (Oid×Option Ob)) (h:StepR P G false (g+k) ⟨some d,gd,q⟩ (mkTm tl) (only (rdX (mkTm tl) (mkOb ol) ⟨some d,gd,q⟩) (mkOb ol)) (c,v,us)) (h3:XD P G bad g (k+1) xs ((d,v) :: tl) (us.reverseAux ol) ((c,v,us) :: ra) ((rdX (mkTm tl) (mkOb ol) ⟨some d,gd,q⟩) :: da) Kf) (hx:exactU us=true):XD P G bad g k (⟨some d,gd,q⟩ :: xs) tl ol ra da Kf:=dstepE c v us _ h (applyU_mkOb us ol hx) h3
theorem dstepn (c:Nat) (v:AV) (us:List (Oid×Option Ob)) (h:StepR P G false (g+k) ⟨none,gd,q⟩ (mkTm tl) (only (rdX (mkTm tl) (mkOb ol) ⟨none,gd,q⟩) (mkOb ol)) (c,v,us)) (h3:XD P G bad g (k+1) xs tl (us.reverseAux ol) ((c,v,us) :: ra) ((rdX (mkTm tl) (mkOb ol) ⟨none,gd,q⟩) :: da) Kf) (hx:exactU us=true):XD P G bad g k (⟨none,gd,q⟩ :: xs) tl ol ra da Kf:=dstepnE c v us _ h (applyU_mkOb us ol hx) h3
theorem xw_ob {ol':List (Oid×Option Ob)} (he:mkOb ol=mkOb ol') (h:XW P G g k xs tl ol' Kf):XW P G g k xs tl ol Kf:=by
 obtain ⟨rs,tl',ol2,h1,h2⟩:=h
 exact ⟨rs,tl',ol2,by rw [he]; exact h1,h2⟩
theorem xd_ob {ol':List (Oid×Option Ob)} (he:mkOb ol=mkOb ol') (h:XD P G bad g k xs tl ol' ra da Kf):XD P G bad g k xs tl ol ra da Kf:=by
 obtain ⟨rs,ds,tl',ol2,h1,h2⟩:=h
 exact ⟨rs,ds,tl',ol2,by rw [he]; exact h1,h2⟩
-- the shape of most steps: what the machine says is found by reckoning
theorem rs0 (v:AV) (h:stepX (g+k) ⟨some d,gd,q⟩ (mkTm tl) (mkOb ol)=some (0,v,[])) (h3:XW P G g (k+1) xs ((d,v) :: tl) ol Kf):XW P G g k (⟨some d,gd,q⟩ :: xs) tl ol Kf:=rstep 0 v [] (stepX_R h) h3 rfl
theorem rsl (v:AV) (h:stepX (g+k) ⟨some d,gd,q⟩ (mkTm tl) (mkOb ol)=some (1,v,[])) (h3:XW P G g (k+1) xs ((d,v) :: tl) ol Kf):XW P G g k (⟨some d,gd,q⟩ :: xs) tl ol Kf:=rstep 1 v [] (stepX_R h) h3 rfl
theorem rs1 (v:AV) (i:Oid) (o:Ob) (h:stepX (g+k) ⟨some d,gd,q⟩ (mkTm tl) (mkOb ol)=some (1,v,[(i,some o)])) (h3:XW P G g (k+1) xs ((d,v) :: tl) ((i,some o) :: ol) Kf) (hx:exactO (some o)=true:=by rfl):XW P G g k (⟨some d,gd,q⟩ :: xs) tl ol Kf:=rstep 1 v _ (stepX_R h) h3 (by simp only [exactU,List.all_cons,List.all_nil,hx]; rfl)
theorem rs2 (v:AV) (j i:Oid) (o:Ob) (h:stepX (g+k) ⟨some d,gd,q⟩ (mkTm tl) (mkOb ol)=some (2,v,[(j,none),(i,some o)])) (h3:XW P G g (k+1) xs ((d,v) :: tl) ((i,some o) :: (j,none) :: ol) Kf) (hx:exactO (some o)=true:=by rfl):XW P G g k (⟨some d,gd,q⟩ :: xs) tl ol Kf:=rstep 2 v _ (stepX_R h) h3 (by simp only [exactU,List.all_cons,List.all_nil,hx]; rfl)
theorem rsn2 (j i:Oid) (o:Ob) (h:stepX (g+k) ⟨none,gd,q⟩ (mkTm tl) (mkOb ol)=some (2,.any,[(j,none),(i,some o)])) (h3:XW P G g (k+1) xs tl ((i,some o) :: (j,none) :: ol) Kf) (hx:exactO (some o)=true:=by rfl):XW P G g k (⟨none,gd,q⟩ :: xs) tl ol Kf:=rstepn 2 _ _ (stepX_R h) h3 (by simp only [exactU,List.all_cons,List.all_nil,hx]; rfl)
theorem ds0 (v:AV) (h:stepX (g+k) ⟨some d,gd,q⟩ (mkTm tl) (only (rdX (mkTm tl) (mkOb ol) ⟨some d,gd,q⟩) (mkOb ol))=some (0,v,[])) (h3:XD P G bad g (k+1) xs ((d,v) :: tl) ol ((0,v,[]) :: ra) ((rdX (mkTm tl) (mkOb ol) ⟨some d,gd,q⟩) :: da) Kf):XD P G bad g k (⟨some d,gd,q⟩ :: xs) tl ol ra da Kf:=dstep 0 v [] (stepX_R h) h3 rfl
theorem dsl (v:AV) (h:stepX (g+k) ⟨some d,gd,q⟩ (mkTm tl) (only (rdX (mkTm tl) (mkOb ol) ⟨some d,gd,q⟩) (mkOb ol))=some (1,v,[])) (h3:XD P G bad g (k+1) xs ((d,v) :: tl) ol ((1,v,[]) :: ra) ((rdX (mkTm tl) (mkOb ol) ⟨some d,gd,q⟩) :: da) Kf):XD P G bad g k (⟨some d,gd,q⟩ :: xs) tl ol ra da Kf:=dstep 1 v [] (stepX_R h) h3 rfl
theorem ds1 (v:AV) (i:Oid) (o:Ob) (h:stepX (g+k) ⟨some d,gd,q⟩ (mkTm tl) (only (rdX (mkTm tl) (mkOb ol) ⟨some d,gd,q⟩) (mkOb ol))=some (1,v,[(i,some o)])) (h3:XD P G bad g (k+1) xs ((d,v) :: tl) ((i,some o) :: ol) ((1,v,[(i,some o)]) :: ra) ((rdX (mkTm tl) (mkOb ol) ⟨some d,gd,q⟩) :: da) Kf) (hx:exactO (some o)=true:=by rfl):XD P G bad g k (⟨some d,gd,q⟩ :: xs) tl ol ra da Kf:=dstep 1 v _ (stepX_R h) h3 (by simp only [exactU,List.all_cons,List.all_nil,hx]; rfl)
theorem dsn2 (j i:Oid) (o:Ob) (h:stepX (g+k) ⟨none,gd,q⟩ (mkTm tl) (only (rdX (mkTm tl) (mkOb ol) ⟨none,gd,q⟩) (mkOb ol))=some (2,.any,[(j,none),(i,some o)])) (h3:XD P G bad g (k+1) xs tl ((i,some o) :: (j,none) :: ol) ((2,.any,[(j,none),(i,some o)]) :: ra) ((rdX (mkTm tl) (mkOb ol) ⟨none,gd,q⟩) :: da) Kf) (hx:exactO (some o)=true:=by rfl):XD P G bad g k (⟨none,gd,q⟩ :: xs) tl ol ra da Kf:=dstepn 2 _ _ (stepX_R h) h3 (by simp only [exactU,List.all_cons,List.all_nil,hx]; rfl)
section
variable {fo:Opd} {ys:List Opd} {tys:List (List (Option Ty))} {F:FuncId} {caps:List AV} {rv:RV} {args0:List AV}
theorem rcall (v:AV) (us:List (Oid×Option Ob)) (zs args:List AV) (hgd:gdOK gd (mkTm tl)) (h1:mapO (gnd (mkOb ol) 8) zs=some args0) (hc:CallOK P G F args rv) (hb:hasBody P F=true) (h3:XW P G g (k+1) xs ((d,v) :: tl) (us.reverseAux ol) Kf) (hfo:fo.ev (mkTm tl)=.fn F caps:=by kernel_rfl) (hz:(ys++caps.map Opd.cst).map (Opd.ev (mkTm tl))=zs:=by kernel_rfl) (hn:nilTL tys args0=args:=by kernel_rfl) (hr:rv.out (mkId ((d,0),g+k)) zs=(v,us):=by kernel_rfl) (hx:exactU us=true:=by rfl):XW P G g k (⟨some d,gd,.call fo ys tys⟩ :: xs) tl ol Kf:=by
 subst hz
 exact rstep 1 v us (callX_R (P:=P) (G:=G) (p:=false) (n:=g+k) (d:=some d) hgd hfo h1 hn hb hc hr) h3 hx
theorem dcall (v:AV) (us:List (Oid×Option Ob)) (zs args:List AV) (hgd:gdOK gd (mkTm tl)) (h1:mapO (gnd (only (rdX (mkTm tl) (mkOb ol) ⟨some d,gd,.call fo ys tys⟩) (mkOb ol)) 8) zs=some args0) (hc:CallOK P G F args rv) (hb:hasBody P F=true) (h3:XD P G bad g (k+1) xs ((d,v) :: tl) (us.reverseAux ol) ((1,v,us) :: ra) ((rdX (mkTm tl) (mkOb ol) ⟨some d,gd,.call fo ys tys⟩) :: da) Kf) (hfo:fo.ev (mkTm tl)=.fn F caps:=by kernel_rfl) (hz:(ys++caps.map Opd.cst).map (Opd.ev (mkTm tl))=zs:=by kernel_rfl) (hn:nilTL tys args0=args:=by kernel_rfl) (hr:rv.out (mkId ((d,0),g+k)) zs=(v,us):=by kernel_rfl) (hx:exactU us=true:=by rfl):XD P G bad g k (⟨some d,gd,.call fo ys tys⟩ :: xs) tl ol ra da Kf:=by
 subst hz
 exact dstep 1 v us (callX_R (P:=P) (G:=G) (p:=false) (n:=g+k) (d:=some d) hgd hfo h1 hn hb hc hr) h3 hx
def callB (l:List (Oid×Oid)) (ol us:List (Oid×Ob)) (n:Nat) (ol0:List (Oid×Option Ob)):Bool:=keys0 l&&(base0 ol&&(inj0 (renF l) ol&&(newB ol us&&noGen n ol0)))
theorem callB_ex {l:List (Oid×Oid)} {ol us:List (Oid×Ob)} {n:Nat} {ol0:List (Oid×Option Ob)} (h:callB l ol us n ol0=true) (hR:ObsR ol0 (renF l) ol) :
  (∀ q∈exL ol,mkOb ol0 (renF l q.1)=some (q.2.ren (renF l)))∧(∀ q∈exL ol,∀ q'∈exL ol,renF l q.1=renF l q'.1->q.1=q'.1)∧(∀ q∈exL us,q.1.2=1∨(q.1.2=0∧q.1∈nmL ol))∧∀ i:Oid,i.2=n->applyU (updM (renF l) i ol us) (mkOb ol0)=mkOb (someL (renE (newN (renF l) i) us)++(killE (renF l) ol++ol0)):=by
 simp only [callB,Bool.and_eq_true] at h
 obtain ⟨c1,c2,c3,c4,c5⟩:=h
 refine ⟨obsR_ex c1 hR (base0_pl c2),ex_inj (fun p e u xss hm k=>renF_kid c1 ?_ k) c3 c2,newB_ex c4,fun i hi=>upd_list c1 c2 hR c4 (by rw [hi]; exact c5) c3⟩
 unfold base0 at c2
 rw [List.all_eq_true] at c2
 have:=c2 _ hm
 simp only [Bool.and_eq_true,beq_iff_eq] at this
 exact this.1
theorem rcallM (v:AV) (ul:List (Oid×Option Ob)) (l:List (Oid×Oid)) (zs:List AV) {args:List AV} {ol0 us:List (Oid×Ob)} {v0:AV} (hgd:gdOK gd (mkTm tl)) (hc:CallM P G F args ol0 v0 us) (hb:hasBody P F=true) (hR:ObsR ol (renF l) ol0) (h1:ArgRL (renF l) (less ((nmL ol0).map (renF l)) (mkOb ol)) zs args) (h4:∀ j∈nmL ol0,Reached zs (mkOb ol) (renF l j)) (h3:XW P G g (k+1) xs ((d,v) :: tl) (ul++ol) Kf) (hfo:fo.ev (mkTm tl)=.fn F caps:=by kernel_rfl) (hz:(ys++caps.map Opd.cst).map (Opd.ev (mkTm tl))=zs:=by kernel_rfl) (hB:callB l ol0 us (g+k) ol=true:=by kernel_rfl) (hv:v0.ren (newN (renF l) ((d,0),g+k))=v:=by kernel_rfl) (hu:someL (renE (newN (renF l) ((d,0),g+k)) us)++killE (renF l) ol0=ul:=by kernel_rfl):XW P G g k (⟨some d,gd,.call fo ys tys⟩ :: xs) tl ol Kf:=by
 subst hv hu
 obtain ⟨q1,q2,q3,q4⟩:=callB_ex hB hR
 exact rstepE 2 _ _ _ (callN_R (n:=g+k) (d:=some d) (renF l) hgd hfo hz h1 q1 q2 h4 q3 hb hc) (q4 ((d,0),g+k) rfl) (by rw [List.append_assoc] at h3; exact h3)
theorem dcallM (v:AV) (ul:List (Oid×Option Ob)) (l:List (Oid×Oid)) (zs:List AV) {args:List AV} {ol0 us:List (Oid×Ob)} {v0:AV} (hgd:gdOK gd (mkTm tl)) (hc:CallM P G F args ol0 v0 us) (hb:hasBody P F=true) (hR:ObsR ol (renF l) ol0) (h1:ArgRL (renF l) (less ((nmL ol0).map (renF l)) (only (rdX (mkTm tl) (mkOb ol) ⟨some d,gd,.call fo ys tys⟩) (mkOb ol))) zs args) (h4:∀ j∈nmL ol0,Reached zs (only (rdX (mkTm tl) (mkOb ol) ⟨some d,gd,.call fo ys tys⟩) (mkOb ol)) (renF l j)) (hd:∀ q∈exL ol0,renF l q.1∈rdX (mkTm tl) (mkOb ol) ⟨some d,gd,.call fo ys tys⟩) (h3:XD P G bad g (k+1) xs ((d,v) :: tl) (ul++ol) ((2,v,updM (renF l) ((d,0),g+k) ol0 us) :: ra) ((rdX (mkTm tl) (mkOb ol) ⟨some d,gd,.call fo ys tys⟩) :: da) Kf) (hfo:fo.ev (mkTm tl)=.fn F caps:=by kernel_rfl) (hz:(ys++caps.map Opd.cst).map (Opd.ev (mkTm tl))=zs:=by kernel_rfl) (hB:callB l ol0 us (g+k) ol=true:=by kernel_rfl) (hv:v0.ren (newN (renF l) ((d,0),g+k))=v:=by kernel_rfl) (hu:someL (renE (newN (renF l) ((d,0),g+k)) us)++killE (renF l) ol0=ul:=by kernel_rfl):XD P G bad g k (⟨some d,gd,.call fo ys tys⟩ :: xs) tl ol ra da Kf:=by
 subst hv hu
 obtain ⟨q1,q2,q3,q4⟩:=callB_ex hB hR
 exact dstepE 2 _ _ _ (callN_R (n:=g+k) (d:=some d) (renF l) hgd hfo hz h1 (fun q hq=>by unfold only; rw [if_pos (hd q hq)]; exact q1 q hq) q2 h4 q3 hb hc) (q4 ((d,0),g+k) rfl) (by rw [List.append_assoc] at h3; exact h3)
theorem rsU (v:AV) (us:List (Oid×Option Ob)) (h:stepX (g+k) ⟨some d,gd,q⟩ (mkTm tl) (mkOb ol)=some (2,v,us)) (h3:XW P G g (k+1) xs ((d,v) :: tl) (us.reverseAux ol) Kf) (hx:exactU us=true:=by rfl):XW P G g k (⟨some d,gd,q⟩ :: xs) tl ol Kf:=rstep 2 v us (stepX_R h) h3 hx
theorem dsU (v:AV) (us:List (Oid×Option Ob)) (h:stepX (g+k) ⟨some d,gd,q⟩ (mkTm tl) (only (rdX (mkTm tl) (mkOb ol) ⟨some d,gd,q⟩) (mkOb ol))=some (2,v,us)) (h3:XD P G bad g (k+1) xs ((d,v) :: tl) (us.reverseAux ol) ((2,v,us) :: ra) ((rdX (mkTm tl) (mkOb ol) ⟨some d,gd,q⟩) :: da) Kf) (hx:exactU us=true:=by rfl):XD P G bad g k (⟨some d,gd,q⟩ :: xs) tl ol ra da Kf:=dstep 2 v us (stepX_R h) h3 hx
end
end
-- what arguments read as
theorem gm_nil {g:AV->Option AV}:mapO g []=some []:=rfl
theorem gm_cons {g:AV->Option AV} {c d:AV} {cs ds:List AV} (h:g c=some d) (hs:mapO g cs=some ds):mapO g (c :: cs)=some (d :: ds):=by simp only [mapO,h,hs]
section
variable {ob:Oid->Option Ob} {n:Nat}
theorem gd_own {i:Oid} {t u:Ty} {e:TypeId} {xs:List u.D} {len:Nat} (h:ob i=some (.arr e u xs)) (hl:len=xs.length):gnd ob (n+1) (.own i t 0 len)=some (.tree u xs):=by
 subst hl
 simp only [gnd,h,Nat.zero_add,Nat.le_refl,if_true,List.drop_zero,List.take_length]
theorem gd_agg {cs ds:List AV} (h:mapO (gnd ob n) cs=some ds):gnd ob (n+1) (.agg cs)=some (.agg ds):=by simp only [gnd,h,Option.map_some]
end
-- steps that hang on something
section
variable {n:Nat} {d:Option Nat} {f:Nat->AV} {ob:Oid->Option Ob}
theorem s_gd {s:Nat} {b c:Bool} {q:Q} {r:Option Rec} (hs:f s=.bool c) (hc:c=b) (h:stepX n ⟨d,none,q⟩ f ob=r):stepX n ⟨d,some (s,b),q⟩ f ob=r:=by
 subst hc
 simp only [stepX,hs,gdv,beq_self_eq_true]; exact h
theorem s_skip {s:Nat} {b c:Bool} {q:Q} (hs:f s=.bool c) (hc:c= !b):stepX n ⟨d,some (s,b),q⟩ f ob=some (0,.tup [],[]):=by
 subst hc
 cases b <;> simp [stepX,hs,gdv]
theorem s_pickT {c x y:Opd} {b:Bool} (h:c.ev f=.bool b) (hb:b=true):stepX n ⟨d,none,.i (.pick c x y)⟩ f ob=some (0,x.ev f,[]):=by
 subst hb; simp [stepX,ev,evN,h]
theorem s_pickF {c x y:Opd} {b:Bool} (h:c.ev f=.bool b) (hb:b=false):stepX n ⟨d,none,.i (.pick c x y)⟩ f ob=some (0,y.ev f,[]):=by
 subst hb; simp [stepX,ev,evN,h]
theorem s_idxT {sz:Nat} {x i:Opd} {t:Ty} {xs:List t.D} {y:t.D} {k:IntKind} {m:Int} {j:Nat} (hx:(x.ev f).un=.tree t xs) (hi:i.ev f=.int k m) (hs:sz=t.size) (h0:0<=m) (hj:m.toNat=j) (hy:xs[j]? =some y):stepX n ⟨d,none,.i (.idx sz x i)⟩ f ob=some (0,.telt t y 0,[]):=by
 subst hs hj
 simp [stepX,ev,evN,hx,hi,h0,hy]
theorem s_idxO {sz:Nat} {x i:Opd} {t:Ty} {o:Oid} {len:Nat} {k:IntKind} {m:Int} {j:Nat} (hx:x.ev f=.own o t 0 len) (hi:i.ev f=.int k m) (hs:sz=t.size) (h0:0<=m) (hj:m.toNat=j) (hl:j<len):stepX n ⟨d,none,.i (.idx sz x i)⟩ f ob=some (0,.elt o j 0,[]):=by
 subst hs hj
 have:m<(len:Int):=by omega
 simp [stepX,ev,evN,hx,hi,h0,AV.un,this]
theorem s_idxP {sz:Nat} {x i:Opd} {t:Ty} {o:Oid} {off len:Nat} {k:IntKind} {m:Int} {j:Nat} (hx:x.ev f=.own o t off len) (hi:i.ev f=.int k m) (hs:sz=t.size) (h0:0<=m) (hj:off+m.toNat=j) (hl:m.toNat<len):stepX n ⟨d,none,.i (.idx sz x i)⟩ f ob=some (0,.elt o j 0,[]):=by
 subst hs hj
 have:m<(len:Int):=by omega
 simp [stepX,ev,evN,hx,hi,h0,AV.un,this]
theorem s_ldE {one:Bool} {m:Nat} {x:Opd} {i:Oid} {j k:Nat} {e:TypeId} {t:Ty} {xs:List t.D} {y:t.D} {c:AV} (hx:x.ev f=.elt i j k) (hob:ob i=some (.arr e t xs)) (hy:xs[j]? =some y) (hc:ldCells one m k (t.av y)=some c):stepX n ⟨d,none,.i (.ld one m x)⟩ f ob=some (1,c,[]):=by
 simp [stepX,ev,evN,evR,hx,hob,hy,hc]
theorem s_stE {one:Bool} {m:Nat} {x y:Opd} {i:Oid} {j k:Nat} {e:TypeId} {t:Ty} {xs:List t.D} {x0 x1:t.D} {cs:List AV} (hx:x.ev f=.elt i j k) (hob:ob i=some (.arr e t xs)) (hy:xs[j]? =some x0) (hc:stCells one m k (t.av x0) (y.ev f)=some cs) (hd:t.ofAV cs=some x1):stepX n ⟨d,none,.st one m x y⟩ f ob=some (2,.any,[(i,none),(i,some (.arr e t (xs.set j x1)))]):=by
 simp [stepX,ev,evSt,hx,hob,hy,hc,hd]
theorem s_make {e:TypeId} {t:Ty} {by_:Nat} {l c:Opd} {k k':IntKind} {m m':Int} {j:Nat} (hl:l.ev f=.int k m) (hc:c.ev f=.int k' m') (h:0<=m∧m<=m'∧m'<=1073741824∧(by_:Int)*m'<=140737488355328) (hj:m.toNat=j):stepX n ⟨d,none,.make e t by_ l c⟩ f ob=some (1,.own ((d.getD 0,0),n) t 0 j,[(((d.getD 0,0),n),some (.arr e t (List.replicate j t.dflt)))]):=by
 subst hj
 simp only [stepX,ev,evMake,hl,hc,if_pos h]
theorem sr_own {t t':Ty} {i:Oid} {e:TypeId} {xs:List t.D} {len:Nat} (h:ob i=some (.arr e t xs)) (hl:len=xs.length):srcOf ob t (.own i t' 0 len)=some xs:=by
 subst hl
 simp only [srcOf,h,Nat.zero_add,Nat.le_refl,if_true,Ty.eq?_self,castL_self,List.drop_zero,List.take_length]
theorem sr_tree {t:Ty} {xs:List t.D}:srcOf ob t (.tree t xs)=some xs:=by simp only [srcOf,Ty.eq?_self,castL_self]
theorem srl_nil {t:Ty}:srcL f ob t []=some []:=rfl
theorem srl_cons {t:Ty} {x:Opd} {c:AV} {xs:List Opd} {ys:List t.D} {yss:List (List t.D)} (hx:x.ev f=c) (hs:srcOf ob t c=some ys) (h:srcL f ob t xs=some yss):srcL f ob t (x :: xs)=some (ys :: yss):=by
 simp only [srcL,hx,hs,h]
theorem s_mkT {t:Ty} {xs:List Opd} {yss:List (List t.D)} {us:List (Oid×Option Ob)} (h:srcL f ob t xs=some yss) {e:TypeId} (hu:(xs.flatMap fun x=>freeOf (x.ev f))=us):stepX n ⟨d,none,.mkV e (.slice t) 1 xs⟩ f ob=some (2,.tree (.slice t) yss,us):=by
 subst hu
 simp only [stepX,ev,evMkT,h,if_true]
theorem s_appO {e:TypeId} {t t':Ty} {by_:Nat} {x y:Opd} {c:AV} {ys xs zs:List t.D} {j:Oid} {len:Nat} (hx:x.ev f=.own j t' 0 len) (hob:ob j=some (.arr e t xs)) (hl:len=xs.length) (hy:y.ev f=c) (hs:srcOf ob t c=some ys) (hz:zs=xs++ys) (h:xs.length+ys.length<=1073741824∧(xs.length+ys.length)*by_<=140737488355328) :
  stepX n ⟨d,none,.append e t by_ x y⟩ f ob=some (2,.own (j.1,n) t 0 zs.length,[(j,none),((j.1,n),some (.arr e t zs))]):=by
 subst hl hz
 simp only [stepX,ev,evAppend,hx,hy,hs,hob,Ty.eq?_self,Nat.le_refl,true_and,h.1,h.2,and_self,if_true,castL_self,List.take_length,List.length_append]
theorem s_sliceT {sz:Nat} {x:Opd} {lo hi mx:Option Opd} {t:Ty} {xs zs:List t.D} {l h m:Int} (hx:(x.ev f).un=.tree t xs) (hl:optInt f 0 lo=some l) (hh:optInt f xs.length hi=some h) (hm:optInt f xs.length mx=some m) (hs:t.size=sz) (hb:0<=l∧l<=h∧h<=m∧m<=xs.length) (hz:(xs.take h.toNat).drop l.toNat=zs) :
  stepX n ⟨d,none,.slice sz x lo hi mx⟩ f ob=some (0,.tree t zs,[]):=by
 subst hs hz
 simp only [stepX,ev,evSlice,hx,hl,hh,hm,true_and,hb.1,hb.2.1,hb.2.2.1,hb.2.2.2,and_self,if_true]
theorem s_sliceO {sz:Nat} {x:Opd} {lo hi:Option Opd} {t:Ty} {i:Oid} {off len o' j:Nat} {l h:Int} (hx:x.ev f=.own i t off len) (hl:optInt f 0 lo=some l) (hh:optInt f len hi=some h) (hs:t.size=sz) (hb:0<=l∧l<=h∧h<=len) (ho:off+l.toNat=o') (hj:(h - l).toNat=j) :
  stepX n ⟨d,none,.slice sz x lo hi none⟩ f ob=some (0,.own i t o' j,[]):=by
 subst hs ho hj
 simp only [stepX,ev,evSlice,hx,AV.un,hl,hh,true_and,hb.1,hb.2.1,hb.2.2,and_self,if_true]
theorem s_add1 {x y:Opd} {j:Nat} (hx:x.ev f=.int .i64 j) (hy:y.ev f=.int .i64 1) (h:j+1<4611686018427387904):stepX n ⟨d,none,.i (.bin .add x y)⟩ f ob=some (0,.int .i64 ((j+1:Nat):Int),[]):=by
 have:IntKind.i64.wrap ((j:Int)+1)=((j+1:Nat):Int):=by rw [Go.IntWalk.i64_in _ (by omega)]; rfl
 simp [stepX,ev,evN,evBin,hx,hy,this]
theorem s_quo {x y:Opd} {k:IntKind} {a b:Int} (hx:x.ev f=.int k a) (hy:y.ev f=.int k b) (h:b≠0):stepX n ⟨d,none,.i (.bin .quo x y)⟩ f ob=some (0,.int k (k.wrap (a.tdiv b)),[]):=by
 simp [stepX,ev,evN,evBin,hx,hy,h]
theorem s_rem {x y:Opd} {k:IntKind} {a b:Int} (hx:x.ev f=.int k a) (hy:y.ev f=.int k b) (h:b≠0):stepX n ⟨d,none,.i (.bin .rem x y)⟩ f ob=some (0,.int k (a.tmod b),[]):=by
 simp [stepX,ev,evN,evBin,hx,hy,h]
end
theorem awp_condT_ {c:Opd} {x y:AC} {R:AE->St->Prop} {S:St} {t:Bool} (ht:t=true) (h1:awp P G x R S) (h:c.ev S.tm=.bool t:=by kernel_rfl):awp P G (.cond c x y) R S:=by
 subst ht; exact .inl ⟨true,h,fun _=>h1,fun h=>(nomatch h)⟩
theorem awp_condF_ {c:Opd} {x y:AC} {R:AE->St->Prop} {S:St} {t:Bool} (ht:t=false) (h2:awp P G y R S) (h:c.ev S.tm=.bool t:=by kernel_rfl):awp P G (.cond c x y) R S:=by
 subst ht; exact .inl ⟨false,h,fun h=>(nomatch h),fun _=>h2⟩
theorem awp_block_ {i:Nat} {a:AC} {R:AE->St->Prop} {S:St} (h:awp P G a (blockA i R) S):awp P G (.block i a) R S:=h
theorem awp_loop_ {a:AC} {R:AE->St->Prop} {S:St} {α:Type} (I:α->St->Prop) (μ:α->Nat) (h0:∃ s S0,Weak S S0∧I s S0) (h1:∀ s S1,I s S1->awp P G a (thenA (fun S2=>∃ s' S3,Weak S2 S3∧I s' S3∧μ s'<μ s) R) S1):awp P G (.loop a) R S:=⟨α,I,μ,h0,h1⟩
theorem awp_exit_ {i:Nat} {R:AE->St->Prop} {S:St} (h:R (.exit i) S):awp P G (.exit i) R S:=h
theorem awp_skip_ {R:AE->St->Prop} {S:St} (h:R .normal S):awp P G .skip R S:=h
theorem awp_ret_ {R:AE->St->Prop} {S:St} (h:R .ret S):awp P G .ret R S:=h
end
section
variable {K:St->Prop} {R:AE->St->Prop} {S:St} {i j:Nat}
theorem tn_ (h:K S):thenA K R .normal S:=h
theorem te_ (h:R (.exit i) S):thenA K R (.exit i) S:=h
theorem tr_ (h:R .ret S):thenA K R .ret S:=h
theorem bn_ (h:R .normal S):blockA i R .normal S:=h
theorem be_ (h:R .normal S):blockA i R (.exit i) S:=by simpa [blockA] using h
theorem br_ (h:R .ret S):blockA i R .ret S:=h
end
def tmL:Nat->List AV->List (Nat×AV)
 | _,[]=>[]
 | k,v :: r=>(k,v) :: tmL (k+1) r
theorem mkTm_tmL:∀ (l:List AV) (k i:Nat),mkTm (tmL k l) (k+i)=l.getD i .any
 | [],k,i=>by simp [tmL,mkTm]
 | v :: r,k,i=>by
  cases i with
  | zero=>simp [tmL,mkTm]
  | succ i =>
   have:=mkTm_tmL r (k+1) i
   simp only [tmL,mkTm]
   rw [if_neg (by omega),show k+(i+1)=k+1+i by omega,this]
   simp
theorem tm_init (args:List AV):(fun i=>args.getD i .any)=mkTm (tmL 0 args):=by
 funext i
 have:=mkTm_tmL args 0 i
 rw [Nat.zero_add] at this
 exact this.symm
theorem St.init_eq (args:List AV):St.init args=⟨mkTm (tmL 0 args),mkOb [],1⟩:=by
 unfold St.init
 rw [tm_init]
 rfl
theorem weak_nil_ {tl:List (Nat×AV)} {ol:List (Oid×Option Ob)} {g:Nat} (s:Nat) (e:TypeId) (t:Ty) (ht:t.flat=true) (hs:mkTm tl s=.nils):Weak ⟨mkTm tl,mkOb ol,g⟩ ⟨mkTm ((s,.own ((s,0),g) t 0 0) :: tl),mkOb ((((s,0),g),some (.arr e t [])) :: ol),g+1⟩:=by
 have:=weak_nil (S:=⟨mkTm tl,mkOb ol,g⟩) s e t ht hs
 rw [upd_mkTm] at this
 have e2:upd (mkOb ol) ((s,0),g) (some (.arr e t []))=mkOb ((((s,0),g),some (.arr e t [])) :: ol):=upd_mkOb rfl
 rw [e2] at this
 exact this
theorem weak_tm_ {tl:List (Nat×AV)} {ol:List (Oid×Option Ob)} {g:Nat} (s:Nat) (v v':AV) (h:mkTm tl s=v) (e:v=v'):Weak ⟨mkTm tl,mkOb ol,g⟩ ⟨mkTm ((s,v') :: tl),mkOb ol,g⟩:=by
 subst e
 have:mkTm ((s,v) :: tl)=mkTm tl:=by
  funext i
  simp only [mkTm]
  split
  ·rename_i e; rw [e]; exact h.symm
  ·rfl
 rw [this]; exact Weak.refl _
theorem weak_ob_ {tl:List (Nat×AV)} {ol:List (Oid×Option Ob)} {g:Nat} (j:Oid) (o o':Ob) (h:mkOb ol j=some o) (e:o=o') (hx:exactO (some o)=true:=by rfl):Weak ⟨mkTm tl,mkOb ol,g⟩ ⟨mkTm tl,mkOb ((j,some o') :: ol),g⟩:=by
 subst e
 have:mkOb ((j,some o) :: ol)=mkOb ol:=by
  rw [← upd_mkOb hx,upd_self _ _ _ h]
 rw [this]; exact Weak.refl _
theorem weak_nilV_ {tl:List (Nat×AV)} {ol:List (Oid×Option Ob)} {g:Nat} (s:Nat) (e:TypeId) (t:Ty) (hs:mkTm tl s=.nils):Weak ⟨mkTm tl,mkOb ol,g⟩ ⟨mkTm ((s,.own ((s,0),g) t 0 0) :: tl),mkOb ((((s,0),g),some (.vec e 1 0 [])) :: ol),g+1⟩:=by
 have:=weak_nilV (S:=⟨mkTm tl,mkOb ol,g⟩) s e t hs
 rw [upd_mkTm] at this
 have e2:upd (mkOb ol) ((s,0),g) (some (.vec e 1 0 []))=mkOb ((((s,0),g),some (.vec e 1 0 [])) :: ol):=upd_mkOb rfl
 rw [e2] at this
 exact this
theorem weak_nil_cellV_ {tl:List (Nat×AV)} {ol:List (Oid×Option Ob)} {g:Nat} (s:Nat) (c:Oid) (k:Nat) (ty:TypeId) (cs ds:List AV) (e:TypeId) (t:Ty) (hb:mkOb ol c=some (.cells ty cs)) (hk:cs[k]? =some .nils) (hd:cs.set k (.own ((s,0),g) t 0 0)=ds) :
  Weak ⟨mkTm tl,mkOb ol,g⟩ ⟨mkTm tl,mkOb ((c,some (.cells ty ds)) :: (((s,0),g),some (.vec e 1 0 [])) :: ol),g+1⟩:=by
 subst hd
 have:=weak_nil_cellV (S:=⟨mkTm tl,mkOb ol,g⟩) s c k ty cs e t hb hk
 have e2:upd (upd (mkOb ol) ((s,0),g) (some (.vec e 1 0 []))) c (some (.cells ty (cs.set k (.own ((s,0),g) t 0 0))))=mkOb ((c,some (.cells ty (cs.set k (.own ((s,0),g) t 0 0)))) :: (((s,0),g),some (.vec e 1 0 [])) :: ol):=by rw [upd_mkOb rfl,upd_mkOb rfl]
 rw [← e2]
 exact this
def formB (ol us:List (Oid×Ob)) (args:List AV) (v:AV):Bool :=
 (base0 ol&&(base0 us&&((ol.all fun q=>q.1.2==0)&&((us.all fun q=>q.1.2==1||(!q.2.isPool&&(namesN ol).contains q.1))&&(ndB (namesN us)&&ndB (namesP us))))))&&((ol.all fun q=>q.2.clo1 (namesN ol))&&((us.all fun q=>q.2.hp1 (namesN us))&&(AV.cloL (namesN ol) args&&AV.hpB (namesN us) v)))
def MatsIn (ol:List (Oid×Ob)):List (Oid×Ob)->Prop
 | []=>True
 | q :: r=>(match q.2 with
  | .mat _ p u xss=>∃ e,(p,Ob.pool e u xss)∈ol
  | _=>True)∧MatsIn ol r
theorem matsIn_mem {ol:List (Oid×Ob)}:∀ {l:List (Oid×Ob)},MatsIn ol l->∀ i e p u xss,(i,Ob.mat e p u xss)∈l->∃ e,(p,Ob.pool e u xss)∈ol
 | _ :: _,h,i,e,p,u,xss,hm=>by
  rcases List.mem_cons.1 hm with rfl | hm
  ·exact h.1
  ·exact matsIn_mem h.2 i e p u xss hm
theorem pool_nm {ol:List (Oid×Ob)} {p:Oid} {e:TypeId} {u:Ty} {xss:List (List u.D)}:(p,Ob.pool e u xss)∈ol->∀ k,k<xss.length->kid p k∈nmL ol:=by
 induction ol with
 | nil=>intro h; cases h
 | cons x r ih =>
  obtain ⟨x1,x2⟩:=x
  intro h k hk
  rcases List.mem_cons.1 h with h | h
  ·cases h
   simp only [nmL,exL,List.map_append,List.mem_append]
   refine .inl (List.mem_map.2 ⟨(kid p k,.arr e u xss[k]),List.mem_map.2 ⟨(xss[k],k),?_,rfl⟩,rfl⟩)
   rw [List.mem_zipIdx_iff_getElem?]; exact List.getElem?_eq_getElem hk
  ·have:=ih h k hk
   cases x2 <;> simp only [nmL,exL,List.map_cons,List.map_append] at this⊢ <;> first | exact List.mem_cons_of_mem _ this | exact List.mem_append_right _ this
theorem names_nm {ol:List (Oid×Ob)} {i:Oid} (h:i∈namesN ol):i∈nmL ol:=by
 obtain ⟨o,ho,hp⟩:=ofN0 h
 exact List.mem_map.2 ⟨_,exL_exp ho hp,rfl⟩
theorem hdL_hp {D:Oid->Prop} {p:Oid} {u:Ty} (xss:List (List u.D)) (h:∀ k,k<xss.length->D (kid p k)):AV.hpL D (hdL p u xss):=by
 have key:∀ l:List (List u.D×Nat),(∀ x∈l,D (kid p x.2))->AV.hpL D (l.map fun x=>.own (kid p x.2) u 0 x.1.length):=by
  intro l
  induction l with
  | nil=>intro _; trivial
  | cons x l ih=>intro h; exact ⟨h x (by simp),ih fun y hy=>h y (by simp [hy])⟩
 refine key _ fun x hx=>h _ ?_
 obtain ⟨row,k⟩:=x
 rw [List.mem_zipIdx_iff_getElem?] at hx
 exact (List.getElem?_eq_some_iff.1 hx).1
theorem clo1_P {D:List Oid} (o:Ob) (h:o.clo1 D=true) (hp:o.isPool=false) (hm:∀ e p u xss,o≠.mat e p u xss):o.exp.cloP (·∈D):=by
 cases o with
 | cells _ cs=>exact AV.cloPL_of cs h
 | vec _ _ _ cs=>exact AV.cloPL_of cs h
 | mat e p u xss=>exact absurd rfl (hm _ _ _ _)
 | arr _ _ _=>trivial
 | map _ _ _=>trivial
 | pool _ _ _=>cases hp
theorem hp1_P {D:List Oid} (o:Ob) (h:o.hp1 D=true) (hp:o.isPool=false) (hm:∀ e p u xss,o≠.mat e p u xss):o.exp.hp (·∈D):=by
 cases o with
 | cells _ cs=>exact AV.hpB_PL cs h
 | vec _ _ _ cs=>exact AV.hpB_PL cs h
 | mat e p u xss=>exact absurd rfl (hm _ _ _ _)
 | arr _ _ _=>trivial
 | map _ _ _=>trivial
 | pool _ _ _=>cases hp
theorem cloP_mono {D E:Oid->Prop} (hd:∀ i,D i->E i) (o:Ob) (h:o.cloP D):o.cloP E:=by
 cases o <;> first | exact AV.cloPL_mono hd _ h | exact h
theorem hp_mono {D E:Oid->Prop} (hd:∀ i,D i->E i) (o:Ob) (h:o.hp D):o.hp E:=by
 cases o <;> first | exact AV.hpL_mono hd _ h | exact h
section
variable {P:Program} {G:World->Prop} (hfol:P.follows .mixedOrders=true) {g:FuncId} {fn:Func} (hf:P.funcs[g]? =some fn) {ac:AC} {rs:List Res} (hc:compiled P fn=some (ac,rs)) {args:List AV} {r:RV} {n:Nat} (hN:fn.ntmps=n) (hn:args.length<=n)
include hfol hf hc hN hn
theorem call_of_ [IsP P] {tl:List (Nat×AV)} (htl:tmL 0 args=tl) (h:awp P G ac (fun e S=>∃ S',Weak S S'∧(e=.normal∨e=.ret)∧RetOK [] rs S' r) ⟨mkTm tl,mkOb [],1⟩):CallOK P G g args r:=by
 refine call_of hfol hf hc hN hn ?_
 rw [St.init_eq,htl]
 exact h
omit hN hn in
theorem callM_of_ [IsP P] (hN:fn.ntmps=n) (hn:args.length<=n) {tl:List (Nat×AV)} (htl:tmL 0 args=tl) {ol us:List (Oid×Ob)} {v:AV} (hB:formB ol us args v=true) (hm1:MatsIn ol ol) (hm2:MatsIn us us)
  (h:awp P G ac (fun e S=>∃ S',Weak S S'∧(e=.normal∨e=.ret)∧(∃ rvs,Res.evL S'.tm S'.ob rs=some rvs∧v=resA rvs)∧∀ q∈exL us,S'.ob q.1=some q.2) ⟨mkTm tl,mkOb (someL ol),1⟩):CallM P G g args ol v us:=by
 simp only [formB,Bool.and_eq_true] at hB
 obtain ⟨⟨a1,a2,a3,a4,a5,a6⟩,b1,b2,b3,b4⟩:=hB
 rw [List.all_eq_true] at a3 a4 b1 b2
 have h0:∀ {l:List (Oid×Ob)},base0 l=true->∀ q∈l,q.1.1.2=0:=fun h q hq=>by
  unfold base0 at h
  rw [List.all_eq_true] at h
  have:=h q hq
  simp only [Bool.and_eq_true,beq_iff_eq] at this
  exact this.1
 refine callM_of hfol hf hc hN hn (fun q hq=>?_) (ex_nd (ndB_spec a5) (ndB_spec a6) (h0 a2)) (fun q hq=>?_) (AV.cloPL_mono (fun i hi=>names_nm hi) _ (AV.cloPL_of args b3)) (AV.hp_mono (fun i hi=>names_nm hi) _ (AV.hpB_P v b4)) ?_
 ·rcases exL_mem hq with ⟨p,e,u,xss,k,row,m1,m2,rfl⟩ | ⟨o,m1,m2,m3⟩
  ·have:=a3 _ m1
   rw [beq_iff_eq] at this
   exact ⟨this,trivial⟩
  ·have:=a3 _ m1
   refine ⟨by simpa using this,?_⟩
   rw [m3]
   by_cases hmt:∃ e p u xss,o=.mat e p u xss
   ·obtain ⟨e,p,u,xss,rfl⟩:=hmt
    obtain ⟨e',hp⟩:=matsIn_mem hm1 _ _ _ _ _ m1
    exact hdL_cl xss fun k hk=>pool_nm hp k hk
   ·exact cloP_mono (fun i hi=>names_nm hi) _ (clo1_P o (b1 _ m1) m2 fun e p u xss h=>hmt ⟨e,p,u,xss,h⟩)
 ·rcases exL_mem hq with ⟨p,e,u,xss,k,row,m1,m2,rfl⟩ | ⟨o,m1,m2,m3⟩
  ·have:=a4 _ m1
   simp only [Ob.isPool,Bool.not_true,Bool.false_and,Bool.or_false,beq_iff_eq] at this
   exact ⟨.inl this,trivial⟩
  ·have:=a4 _ m1
   simp only [Bool.or_eq_true,Bool.and_eq_true,beq_iff_eq] at this
   refine ⟨this.imp id fun h=>names_nm (List.contains_iff_mem.1 h.2),?_⟩
   rw [m3]
   by_cases hmt:∃ e p u xss,o=.mat e p u xss
   ·obtain ⟨e,p,u,xss,rfl⟩:=hmt
    obtain ⟨e',hp⟩:=matsIn_mem hm2 _ _ _ _ _ m1
    exact hdL_hp xss fun k hk=>pool_nm hp k hk
   ·exact hp_mono (fun i hi=>names_nm hi) _ (hp1_P o (b2 _ m1) m2 fun e p u xss h=>hmt ⟨e,p,u,xss,h⟩)
 ·rw [tm_init,htl]
  exact h
end
theorem ret_ {rs:List Res} {f:Nat->AV} {ob:Oid->Option Ob} {g:Nat} {r:RV} (avs:List AV) {vs:List Value} {e:AE} (h2:PartsR vs ob avs r.ps) (he:e=.normal∨e=.ret:=by simp) (h1:Res.evL f ob rs=some avs:=by kernel_rfl) (h3:ndB (idsR ob (flatA avs))=true:=by kernel_rfl) (h4:r.tup=decide (rs.length≠1):=by kernel_rfl):∃ S',Weak ⟨f,ob,g⟩ S'∧(e=.normal∨e=.ret)∧RetOK vs rs S' r :=
 ⟨_,Weak.refl _,he,avs,r.ps,h1,h2,ndB_spec h3,by cases r; cases h4; rfl⟩
theorem retM_ {rs:List Res} {S:St} {tl:List (Nat×AV)} {g:Nat} {v:AV} {us:List (Oid×Ob)} {e:AE} (rvs:List AV) (hw:Weak S ⟨mkTm tl,mkOb (someL us),g⟩) (he:e=.normal∨e=.ret:=by simp) (h1:Res.evL (mkTm tl) (mkOb (someL us)) rs=some rvs:=by kernel_rfl) (hv:v=resA rvs:=by kernel_rfl) (h2:(base0 us&&(ndB (namesN us)&&ndB (namesP us)))=true:=by kernel_rfl) :
  ∃ S',Weak S S'∧(e=.normal∨e=.ret)∧(∃ rvs,Res.evL S'.tm S'.ob rs=some rvs∧v=resA rvs)∧∀ q∈exL us,S'.ob q.1=some q.2:=by
 refine ⟨_,hw,he,⟨rvs,h1,hv⟩,fun q hq=>?_⟩
 simp only [Bool.and_eq_true] at h2
 obtain ⟨a1,a2,a3⟩:=h2
 have h0:∀ q∈us,q.1.1.2=0:=fun q hq=>by
  unfold base0 at a1
  rw [List.all_eq_true] at a1
  have:=a1 q hq
  simp only [Bool.and_eq_true,beq_iff_eq] at this
  exact this.1
 have:=mkOb_found (rest:=[]) (ndB_spec a2) (ndB_spec a3) (fun p hp=>by obtain ⟨e,u,xss,hm⟩:=ofP0 hp; exact h0 _ hm) (fun i hi p hp k e=>by
  obtain ⟨o,ho,_⟩:=ofN0 hi
  have:=h0 _ ho
  rw [e] at this
  simp [kid] at this) q hq
 rwa [List.append_nil] at this
section
variable {vs:List Value} {ob:Oid->Option Ob}
theorem p_agg {cs r:List AV} {ls:List RL} {ps:List (Bool×List RL)} (h1:LeavesR vs ob cs ls) (h2:PartsR vs ob r ps):PartsR vs ob (.agg cs :: r) ((true,ls) :: ps):=⟨ls,ps,rfl,h1,h2⟩
theorem p_one {c:AV} {r:List AV} {l:RL} {ps:List (Bool×List RL)} (hc:c.one=true) (h1:LeafR vs ob c l) (h2:PartsR vs ob r ps):PartsR vs ob (c :: r) ((false,[l]) :: ps):=by
 rw [PartsR_one (by rintro ⟨_,rfl⟩; cases hc)]
 exact ⟨l,ps,rfl,h1,h2⟩
theorem p_nil:PartsR vs ob [] []:=rfl
theorem l_cons {c:AV} {cs:List AV} {l:RL} {ls:List RL} (h1:LeafR vs ob c l) (h2:LeavesR vs ob cs ls):LeavesR vs ob (c :: cs) (l :: ls):=⟨l,ls,rfl,h1,h2⟩
theorem l_nil:LeavesR vs ob [] []:=rfl
theorem l_sc {c:AV} {l:RL} (h:leafOf ob c=some l):LeafR vs ob c l:=.inl (.inl h)
theorem l_own {i:Oid} {t u:Ty} {e:TypeId} {xs:List u.D} {len:Nat} (h:ob i=some (.arr e u xs)) (hl:len=xs.length):LeafR vs ob (.own i t 0 len) (.new e u xs):=by
 subst hl
 exact .inl (.inl (by simp only [leafOf,h,Nat.le_refl,and_self,if_true,List.take_length]))
end
end Go.Proofs.YtkaollfdhoaihaaDoor
namespace Go.Proofs.YtkaollfdhoaihaaDoor
open Go.RowKit Go.Deep
abbrev tm (n:Nat):Opd:=.tmp n
abbrev cb (b:Bool):Opd:=.cst (.bool b)
abbrev ci (n:Int):Opd:=.cst (.int .i64 n)
abbrev xo (d:Nat) (q:Q):X:=⟨some d,none,q⟩
abbrev xn (q:Q):X:=⟨none,none,q⟩
abbrev qm (x:Opd):Q:=.i (.mov x)
abbrev ql (x:Opd):Q:=.i (.ld true 1 x)
abbrev qs (x y:Opd):Q:=.st true 1 x y
abbrev qf (k:Nat) (x:Opd):Q:=.i (.fld k x)
abbrev qb (o:BinOp) (x y:Opd):Q:=.i (.bin o x y)
abbrev qx (sz:Nat) (x y:Opd):Q:=.i (.idx sz x y)
abbrev qc (f:FuncId) (xs:List Opd) (tys:List (List (Option Ty))):Q:=.call (.cst (.fn f [])) xs tys
abbrev rg (xs:List X):AC:=.region xs false []
abbrev ai (n:Int):AV:=.int .i64 n
abbrev oi (a b:Nat):Oid:=((a,0),b)
def putL (d:Option Nat) (v:AV) (tl:List (Nat×AV)):List (Nat×AV) :=
 match d with
 | some d=>(d,v) :: tl
 | none=>tl
theorem putT_L (d:Option Nat) (v:AV) (tl:List (Nat×AV)):putT d v (mkTm tl)=mkTm (putL d v tl):=by
 cases d with
 | none=>rfl
 | some d=>simp only [putT,putL,upd_mkTm]
noncomputable def runW (g:Nat):Nat->Nat->List X->List (Nat×AV)->List (Oid×Option Ob)->Option (List (Nat×AV)×List (Oid×Option Ob))
 | 0,_,_,tl,ol=>some (tl,ol)
 | _+1,_,[],_,_=>none
 | n+1,k,x :: xs,tl,ol=>match stepX (g+k) x (mkTm tl) (mkOb ol) with
  | some (_,v,us)=>if exactU us then runW g n (k+1) xs (putL x.dst v tl) (us.reverseAux ol) else none
  | none=>none
noncomputable def runD (g:Nat):Nat->Nat->List X->List (Nat×AV)->List (Oid×Option Ob)->List Rec->List (List Oid)->Option (List (Nat×AV)×List (Oid×Option Ob)×List Rec×List (List Oid))
 | 0,_,_,tl,ol,ra,da=>some (tl,ol,ra,da)
 | _+1,_,[],_,_,_,_=>none
 | n+1,k,x :: xs,tl,ol,ra,da=>match stepX (g+k) x (mkTm tl) (only (rdX (mkTm tl) (mkOb ol) x) (mkOb ol)) with
  | some (c,v,us)=>if exactU us then runD g n (k+1) xs (putL x.dst v tl) (us.reverseAux ol) ((c,v,us) :: ra) (rdX (mkTm tl) (mkOb ol) x :: da) else none
  | none=>none
theorem rsB_ {P:Program} {G:World->Prop} {g:Nat} {Kf:List (Nat×AV)->List (Oid×Option Ob)->Prop}:∀ (n k:Nat) (xs:List X) (tl:List (Nat×AV)) (ol:List (Oid×Option Ob)) (r:List (Nat×AV)×List (Oid×Option Ob)),runW g n k xs tl ol=some r->XW P G g (k+n) (xs.drop n) r.1 r.2 Kf->XW P G g k xs tl ol Kf
 | 0,k,xs,tl,ol,r,h,hk=>by
  obtain rfl:=Option.some.inj h
  exact hk
 | n+1,k,[],tl,ol,r,h,hk=>by cases h
 | n+1,k,x :: xs,tl,ol,r,h,hk=>by
  simp only [runW] at h
  split at h
  ·rename_i c v us hst
   split at h
   ·rename_i hx
    obtain ⟨rs,tl',ol',h1,h2⟩:=rsB_ (P:=P) (G:=G) n (k+1) xs _ _ r h (by rw [show k+1+n=k+(n+1) by omega]; exact hk)
    exact ⟨(c,v,us) :: rs,tl',ol',⟨_,_,rfl,stepX_R hst,by rw [putT_L,applyU_mkOb _ _ hx]; exact h1⟩,h2⟩
   ·cases h
  ·cases h
theorem rsB {P:Program} {G:World->Prop} {g k:Nat} {xs:List X} {tl:List (Nat×AV)} {ol:List (Oid×Option Ob)} {Kf:List (Nat×AV)->List (Oid×Option Ob)->Prop} (n:Nat) (hk:XW P G g (k+n) (xs.drop n) ((runW g n k xs tl ol).getD ([],[])).1 ((runW g n k xs tl ol).getD ([],[])).2 Kf) (h:(runW g n k xs tl ol).isSome=true:=by kernel_rfl):XW P G g k xs tl ol Kf:=by
 obtain ⟨r,hr⟩:=Option.isSome_iff_exists.1 h
 rw [hr] at hk
 exact rsB_ n k xs tl ol r hr hk
theorem dsB_ {P:Program} {G:World->Prop} {g:Nat} {bad:List (Nat×Nat)} {Kf:List (Nat×AV)->List (Oid×Option Ob)->Prop}:∀ (n k:Nat) (xs:List X) (tl:List (Nat×AV)) (ol:List (Oid×Option Ob)) (ra:List Rec) (da:List (List Oid)) (r:List (Nat×AV)×List (Oid×Option Ob)×List Rec×List (List Oid)),runD g n k xs tl ol ra da=some r->XD P G bad g (k+n) (xs.drop n) r.1 r.2.1 r.2.2.1 r.2.2.2 Kf->XD P G bad g k xs tl ol ra da Kf
 | 0,k,xs,tl,ol,ra,da,r,h,hk=>by
  obtain rfl:=Option.some.inj h
  exact hk
 | n+1,k,[],tl,ol,ra,da,r,h,hk=>by cases h
 | n+1,k,x :: xs,tl,ol,ra,da,r,h,hk=>by
  simp only [runD] at h
  split at h
  ·rename_i c v us hst
   split at h
   ·rename_i hx
    obtain ⟨rs,ds,tl',ol',h1,hb,h2⟩:=dsB_ (P:=P) (G:=G) n (k+1) xs _ _ _ _ r h (by rw [show k+1+n=k+(n+1) by omega]; exact hk)
    refine ⟨(c,v,us) :: rs,rdX (mkTm tl) (mkOb ol) x :: ds,tl',ol',⟨_,_,_,rfl,rfl,stepX_R hst,by rw [putT_L,applyU_mkOb _ _ hx]; exact h1⟩,?_,h2⟩
    simpa using hb
   ·cases h
  ·cases h
theorem dsB {P:Program} {G:World->Prop} {g k:Nat} {xs:List X} {tl:List (Nat×AV)} {ol:List (Oid×Option Ob)} {bad:List (Nat×Nat)} {ra:List Rec} {da:List (List Oid)} {Kf:List (Nat×AV)->List (Oid×Option Ob)->Prop} (n:Nat) (hk:XD P G bad g (k+n) (xs.drop n) ((runD g n k xs tl ol ra da).getD ([],[],[],[])).1 ((runD g n k xs tl ol ra da).getD ([],[],[],[])).2.1 ((runD g n k xs tl ol ra da).getD ([],[],[],[])).2.2.1 ((runD g n k xs tl ol ra da).getD ([],[],[],[])).2.2.2 Kf) (h:(runD g n k xs tl ol ra da).isSome=true:=by kernel_rfl):XD P G bad g k xs tl ol ra da Kf:=by
 obtain ⟨r,hr⟩:=Option.isSome_iff_exists.1 h
 rw [hr] at hk
 exact dsB_ n k xs tl ol ra da r hr hk
theorem seqR {P:Program} {G:World->Prop} {g:Nat} {xs:List X} {bad:List (Nat×Nat)} {y:AC} {R:AE->St->Prop} {tl:List (Nat×AV)} {ol:List (Oid×Option Ob)} (h:awp P G y R ⟨mkTm ((runW g xs.length 0 xs tl ol).getD ([],[])).1,mkOb ((runW g xs.length 0 xs tl ol).getD ([],[])).2,g+xs.length⟩) (hs:(runW g xs.length 0 xs tl ol).isSome=true:=by kernel_rfl):awp P G (.seq (.region xs false bad) y) R ⟨mkTm tl,mkOb ol,g⟩:=by
 refine awp_seqv_ (awp_region_ (g+xs.length) (rsB xs.length (by rw [List.drop_length]; exact rnil (tn_ ⟨_,Weak.refl _,h⟩)) hs) rfl)
theorem only1 {i:Oid} {ob:Oid->Option Ob}:only [i] ob i=ob i:=if_pos (List.mem_singleton.2 rfl)
section
variable {n:Nat} {d:Option Nat} {f:Nat->AV} {ob:Oid->Option Ob} {ol:List (Oid×Option Ob)}
theorem s_ldM {x:Opd} {o p:Oid} {e1:TypeId} {u:Ty} {xss:List (List u.D)} {row:List u.D} {j:Nat} (hx:x.ev f=.elt o j 0) (hob:ob o=some (.vec e1 1 xss.length (hdL p u xss))) (hr:xss[j]? =some row):stepX n ⟨d,none,.i (.ld true 1 x)⟩ f ob=some (1,.own (kid p j) u 0 row.length,[]):=by
 have h:(hdL p u xss)[j*1+0]? =some (.own (kid p j) u 0 row.length):=by rw [hdL_get]; simp [hr]
 simp only [Nat.mul_one,Nat.add_zero] at h
 simp [stepX,ev,evN,evR,hx,hob,ldCells,h]
theorem s_stV {x y:Opd} {o:Oid} {e1:TypeId} {m:Nat} {cs:List AV} {v:AV} {j:Nat} (hx:x.ev f=.elt o j 0) (hob:ob o=some (.vec e1 1 m cs)) (hy:y.ev f=v) (hv:v.one=true) (hj:j<cs.length):stepX n ⟨d,none,.st true 1 x y⟩ f ob=some (2,.any,[(o,none),(o,some (.vec e1 1 m (cs.set j v)))]):=by
 simp [stepX,ev,evSt,hx,hob,hy,stCells,hv,hj]
theorem s_appVO {x y:Opd} {o q:Oid} {e1 e2:TypeId} {u:Ty} {t':Ty} {b:Nat} {p:Oid} {xss:List (List u.D)} {cs:List AV} {len:Nat} (hx:x.ev f=.own o t' 0 len) (hob:ob o=some (.vec e1 1 xss.length (hdL p u xss))) (hl:len=xss.length) {t2:Ty} (hy:y.ev f=.own q t2 0 1) (hq:ob q=some (.vec e2 1 1 cs)) (hc:cs.length=1) (h:xss.length+1<=1073741824∧(xss.length+1)*b<=140737488355328) :
  stepX n ⟨d,none,.appV e1 (.slice u) b x y⟩ f ob=some (2,.own (o.1,n) (.slice u) 0 (xss.length+1),[(o,none),((o.1,n),some (.vec e1 1 (xss.length+1) (hdL p u xss++cs)))]):=by
 subst hl
 have h1:List.take (xss.length*1) (hdL p u xss)=hdL p u xss:=by rw [Nat.mul_one]; exact List.take_of_length_le (by rw [hdL_len]; exact Nat.le_refl _)
 have h2:List.take (1*1) (List.drop (0*1) cs)=cs:=by simp only [Nat.zero_mul,List.drop_zero,Nat.mul_one]; exact List.take_of_length_le (by omega)
 simp only [stepX,ev,evAppV,hx,hy,srcV,hq,hob,Ty.size,true_and,Nat.zero_add,Nat.le_refl,if_true,h1,h2,h.1,h.2,and_self]
theorem s_mkV {i:Oid} {e:TypeId} {t:Ty} {sz:Nat} {xs:List Opd} {r:Rec} (h:(evMkV f i e t sz xs).map (fun r=>((1:Nat),r.1,r.2))=some r):evL f i (.mkV e t sz xs)=some r:=by
 simp only [evL]
 cases hq:evMkV f i e t sz xs with
 | none=>rw [hq] at h; cases h
 | some q=>rw [hq] at h; obtain ⟨v,us⟩:=q; exact h
theorem s_makeM {i:Oid} {e:TypeId} (e':TypeId) {u:Ty} {b:Nat} {x y:Opd} {k k':IntKind} {m c:Int} {j:Nat} (hx:x.ev f=.int k m) (hy:y.ev f=.int k' c) (h:0<=m∧m<=c∧c<=1073741824∧(b:Int)*c<=140737488355328) (hfl:u.flat=true) (hj:m.toNat=j) :
  MakeM f i (.makeV e (.slice u) b [.nils] x y) (1,RV.out ⟨false,[(false,[.newM e e' u (List.replicate j [])])]⟩ (mkId i) []):=by
 subst hj
 exact ⟨e,e',u,b,x,y,k,k',m,c,rfl,hx,hy,h,hfl,rfl⟩
theorem mat_new {i:Oid} {e e':TypeId} {u:Ty} {xss:List (List u.D)} (h:noGen i.2 ol=true):applyU (RV.out ⟨false,[(false,[.newM e e' u xss])]⟩ (mkId i) []).2 (mkOb ol)=mkOb ((mkId i 0,some (.mat e (mkId i 0) u xss)) :: (mkId i 0,some (.pool e' u xss)) :: ol):=by
 have e0:(RV.out ⟨false,[(false,[.newM e e' u xss])]⟩ (mkId i) []).2=(mkId i 0,some (.vec e 1 xss.length (hdL (mkId i 0) u xss))) :: (kidsL (mkId i 0) e' u xss++[]):=rfl
 rw [e0,List.append_nil]
 show applyU (kidsL (mkId i 0) e' u xss) (upd (mkOb ol) (mkId i 0) (some (.vec e 1 xss.length (hdL (mkId i 0) u xss))))=_
 rw [upd_mkOb rfl,applyU_kids (fun k=>by
  have:mkOb ((mkId i 0,some (.vec e 1 xss.length (hdL (mkId i 0) u xss))) :: ol) (kid (mkId i 0) k)=if kid (mkId i 0) k=mkId i 0 then some (.vec e 1 xss.length (hdL (mkId i 0) u xss)) else mkOb ol (kid (mkId i 0) k):=by simp only [mkOb]
  rw [this,if_neg (fun e=>by have:=congrArg (fun i:Oid=>i.1.2) e; simp [kid,mkId] at this)]
  exact noGen_none h _ rfl)]
 funext j
 have h2:∀ j,mkOb ((mkId i 0,some (.vec e 1 xss.length (hdL (mkId i 0) u xss))) :: ol) j=if j=mkId i 0 then some (.vec e 1 xss.length (hdL (mkId i 0) u xss)) else mkOb ol j:=fun j=>by simp only [mkOb]
 rw [mkOb_mat,mkOb_pool,mkOb_pool,h2]
 by_cases hj:j=mkId i 0
 ·subst hj
  rw [if_pos rfl,if_neg (fun h=>h.2.2 rfl),if_pos rfl]
 ·rw [if_neg hj,if_neg hj]
end
section
variable {P:Program} {G:World->Prop} {g k d:Nat} {gd:Option (Nat×Bool)} {q:Q} {xs:List X} {tl:List (Nat×AV)} {ol:List (Oid×Option Ob)} {bad:List (Nat×Nat)} {ra:List Rec} {da:List (List Oid)} {Kf:List (Nat×AV)->List (Oid×Option Ob)->Prop}
theorem rmkV (v:AV) (i:Oid) (o:Ob) (hgd:gdOK gd (mkTm tl)) (h:evL (mkTm tl) ((d,0),g+k) q=some (1,v,[(i,some o)])) (h3:XW P G g (k+1) xs ((d,v) :: tl) ((i,some o) :: ol) Kf) (hx:exactO (some o)=true:=by rfl):XW P G g k (⟨some d,gd,q⟩ :: xs) tl ol Kf:=rstep 1 v _ (mkV_R (d:=some d) hgd h) h3 (by simp only [exactU,List.all_cons,List.all_nil,hx]; rfl)
theorem rmakeM (v:AV) (i:Oid) (e e':TypeId) (u:Ty) (xss:List (List u.D)) (hgd:gdOK gd (mkTm tl)) (h:MakeM (mkTm tl) ((d,0),g+k) q (1,RV.out ⟨false,[(false,[.newM e e' u xss])]⟩ (mkId ((d,0),g+k)) [])) (hi:mkId ((d,0),g+k) 0=i) (hv:AV.own i (.slice u) 0 xss.length=v) (hn:noGen (g+k) ol=true) (h3:XW P G g (k+1) xs ((d,v) :: tl) ((i,some (.mat e i u xss)) :: (i,some (.pool e' u xss)) :: ol) Kf):XW P G g k (⟨some d,gd,q⟩ :: xs) tl ol Kf:=by
 subst hi hv
 exact rstepE 1 _ _ _ (makeM_R (d:=some d) hgd h) (mat_new hn) h3
end
-- what arguments read as
section
variable {ol:List (Oid×Option Ob)} {n:Nat}
theorem chunks_one {α:Type} {g:List AV->Option α}:∀ {cs:List AV} {xs:List α},cs.length=xs.length->(∀ (k:Nat) (c:AV) (x:α),cs[k]? =some c->xs[k]? =some x->g [c]=some x)->chunks g 1 xs.length cs=some xs
 | [],[],_,_=>rfl
 | c :: cs,x :: xs,hl,h=>by
  have h0:=h 0 c x rfl rfl
  have ih:=chunks_one (g:=g) (cs:=cs) (xs:=xs) (by simpa using hl) (fun k c x h1 h2=>h (k+1) c x h1 h2)
  simp only [List.length_cons,chunks,List.take_succ_cons,List.take_zero,List.drop_succ_cons,List.drop_zero,h0,ih]
 | [],_ :: _,hl,_=>by simp at hl
 | _ :: _,[],hl,_=>by simp at hl
theorem vecD_mat {ob:Oid->Option Ob} {o p:Oid} {e1 e:TypeId} {u:Ty} {xss:List (List u.D)} {m len:Nat} (ho:ob o=some (.vec e1 1 m (hdL p u xss))) (hm:m=xss.length) (hk:∀ k row,xss[k]? =some row->ob (kid p k)=some (.arr e u row)) {t':Ty} (hl:len<=xss.length):vecD ob 1 (rdC ob (.slice u)) (.own o t' 0 len)=some (xss.take len):=by
 have h1:(((hdL p u xss).drop (0*1)).take (len*1))=hdL p u (xss.take len):=by
  simp only [Nat.zero_mul,List.drop_zero,Nat.mul_one]
  apply List.ext_getElem?
  intro j
  rw [List.getElem?_take,hdL_get,hdL_get,List.getElem?_take]
  split <;> rfl
 have hlen:(xss.take len).length=len:=by rw [List.length_take]; omega
 simp only [vecD,ho]
 rw [if_pos ⟨trivial,by omega⟩,h1]
 have:=chunks_one (g:=rdC ob (.slice u)) (cs:=hdL p u (xss.take len)) (xs:=xss.take len) hdL_len (fun k c x hc hx=>by
  rw [hdL_get,hx] at hc
  obtain rfl:=Option.some.inj hc
  rw [List.getElem?_take] at hx
  split at hx
  ·have:=hk k x hx
   simp only [rdC,srcOf,this,Nat.zero_add,Nat.le_refl,if_true,Ty.eq?_self,castL_self,List.drop_zero,List.take_length]
  ·cases hx)
 rw [hlen] at this
 exact this
theorem gd_mat {ob:Oid->Option Ob} {o p:Oid} {e1 e:TypeId} {u:Ty} {xss:List (List u.D)} {len:Nat} (ho:ob o=some (.vec e1 1 xss.length (hdL p u xss))) (hk:∀ k row,xss[k]? =some row->ob (kid p k)=some (.arr e u row)) (hl:len=xss.length):gnd ob (n+1) (.own o (.slice u) 0 len)=some (.tree (.slice u) xss):=by
 subst hl
 have:=vecD_mat (t':=.slice u) ho rfl hk (Nat.le_refl _)
 rw [List.take_length] at this
 simp only [gnd,ho,Ty.size,this,Option.map_some]
theorem pool_rows {p:Oid} {e:TypeId} {u:Ty} {xss:List (List u.D)} (h:poolAt ol p=some (.pool e u xss)):∀ k row,xss[k]? =some row->mkOb ol (kid p k)=some (.arr e u row):=fun _ _ hx=>mkOb_kid h hx
def notIn (θ:Oid->Oid) (ol0:List (Oid×Ob)) (i:Oid):Bool:=ol0.all fun q=>if q.2.isPool then !(i.1.1==(θ q.1).1.1&&(i.2==(θ q.1).2&&i.1.2 !=0)) else i !=θ q.1
theorem less_at {l:List (Oid×Oid)} {ob:Oid->Option Ob} {ol0:List (Oid×Ob)} {i:Oid} (hl:keys0 l=true) (h0:base0 ol0=true) (h:notIn (renF l) ol0 i=true):less ((nmL ol0).map (renF l)) ob i=ob i:=by
 unfold less
 rw [if_neg]
 intro hm
 obtain ⟨j,hj,rfl⟩:=List.mem_map.1 hm
 obtain ⟨q,hq,rfl⟩:=List.mem_map.1 hj
 unfold notIn at h
 rw [List.all_eq_true] at h
 unfold base0 at h0
 rw [List.all_eq_true] at h0
 rcases exL_mem hq with ⟨p,e,u,xss,k,row,m1,m2,rfl⟩ | ⟨o,m1,m2,m3⟩
 ·have:=h _ m1
  have hz:=h0 _ m1
  simp only [Bool.and_eq_true,beq_iff_eq] at hz
  rw [renF_kid hl hz.1] at this
  simp [Ob.isPool,kid] at this
 ·have:=h _ m1
  simp [m2] at this
theorem less_pool {l:List (Oid×Oid)} {ob:Oid->Option Ob} {ol0:List (Oid×Ob)} {p:Oid} {e:TypeId} {u:Ty} {xss:List (List u.D)} (hl:keys0 l=true) (h0:base0 ol0=true) (hk:∀ k row,xss[k]? =some row->ob (kid p k)=some (.arr e u row)) (hn:(ol0.all fun q=> !((renF l q.1).1.1==p.1.1&&((renF l q.1).2==p.2)))=true):∀ k row,xss[k]? =some row->less ((nmL ol0).map (renF l)) ob (kid p k)=some (.arr e u row):=by
 intro k row hx
 rw [less_at hl h0,hk k row hx]
 unfold notIn
 rw [List.all_eq_true] at hn ⊢
 intro q hq
 have:=hn q hq
 simp only [Bool.not_eq_true',Bool.and_eq_false_iff,beq_eq_false_iff_ne,ne_eq] at this
 split
 ·simp only [Bool.not_eq_true',Bool.and_eq_false_iff,beq_eq_false_iff_ne,ne_eq,kid]
  rcases this with h | h
  ·exact .inl fun e=>h e.symm
  ·exact .inr (.inl fun e=>h e.symm)
 ·simp only [bne_iff_ne,ne_eq]
  intro e
  rw [← e] at this
  rcases this with h | h <;> exact h rfl
theorem updM_nm {l:List (Oid×Oid)} {i:Oid} {ol us:List (Oid×Ob)} (hB:newB ol us=true):∀ u∈updM (renF l) i ol us,u.1.2=i.2∨u.1∈(nmL ol).map (renF l):=by
 intro u hu
 rcases List.mem_append.1 hu with hu | hu
 ·obtain ⟨q,hq,rfl⟩:=List.mem_map.1 hu
  exact .inr (List.mem_map.2 ⟨q.1,List.mem_map.2 ⟨q,hq,rfl⟩,rfl⟩)
 ·obtain ⟨q,hq,rfl⟩:=List.mem_map.1 hu
  rcases newB_ex hB q hq with h | ⟨h,h'⟩
  ·exact .inl (by simp [newN,h])
  ·exact .inr (List.mem_map.2 ⟨q.1,h',by simp [newN,h]⟩)
def pairN (l:List (Oid×Oid)) (i:Oid) (ol us:List (Oid×Ob)) (r:Rec) (d:List Oid):Bool:=keys0 l&&(base0 ol&&(newB ol us&&((d.all fun x=>x.2 !=i.2&&notIn (renF l) ol x)&&((r.2.2.all fun u=>u.1.2 !=i.2&&notIn (renF l) ol u.1)&&r.1 !=2))))
theorem notIn_nm {l:List (Oid×Oid)} {ol:List (Oid×Ob)} {i:Oid} (hl:keys0 l=true) (h0:base0 ol=true) (h:notIn (renF l) ol i=true):i∉(nmL ol).map (renF l):=by
 intro hm
 have:=less_at (ob:=fun _=>some (.map 0 .int [])) hl h0 h
 unfold less at this
 rw [if_pos hm] at this
 cases this
theorem pair_facts {l:List (Oid×Oid)} {i:Oid} {ol us:List (Oid×Ob)} {r:Rec} {d:List Oid} (h:pairN l i ol us r d=true):(∀ u∈updM (renF l) i ol us,u.1∉d)∧(∀ u∈updM (renF l) i ol us,∀ v∈r.2.2,u.1≠v.1)∧r.1≠2:=by
 simp only [pairN,Bool.and_eq_true,bne_iff_ne,ne_eq] at h
 obtain ⟨h1,h2,h3,h4,h5,h6⟩:=h
 rw [List.all_eq_true] at h4 h5
 refine ⟨fun u hu hd=>?_,fun u hu v hv e=>?_,h6⟩
 ·have:=h4 _ hd
  simp only [Bool.and_eq_true,bne_iff_ne,ne_eq] at this
  rcases updM_nm h3 u hu with h | h
  ·exact this.1 h
  ·exact notIn_nm h1 h2 this.2 h
 ·have:=h5 _ hv
  simp only [Bool.and_eq_true,bne_iff_ne,ne_eq] at this
  rcases updM_nm h3 u hu with h | h
  ·exact this.1 (by rw [← e]; exact h)
  ·exact notIn_nm h1 h2 this.2 (by rw [← e]; exact h)
theorem pair_j {l:List (Oid×Oid)} {i:Oid} {ol us:List (Oid×Ob)} {v:AV} {ri:Rec} {di dj:List Oid} (h:pairN l i ol us ri di=true):pairOK ri (2,v,updM (renF l) i ol us) di dj:=by
 obtain ⟨h1,h2,h3⟩:=pair_facts h
 exact .inr ⟨fun e=>absurd e h3,fun _=>h1,fun u hu v hv e=>h2 v hv u hu e.symm⟩
def ReachL (zs:List AV) (ob:Oid->Option Ob) (θ:Oid->Oid):List (Oid×Ob)->Prop
 | []=>True
 | q :: r=>(match q.2 with
  | .pool _ _ xss=>∀ k,k<xss.length->Reached zs ob (kid (θ q.1) k)
  | _=>Reached zs ob (θ q.1))∧ReachL zs ob θ r
theorem reachL_mem {zs:List AV} {ob:Oid->Option Ob} {l:List (Oid×Oid)} (hl:keys0 l=true):∀ {ol:List (Oid×Ob)},base0 ol=true->ReachL zs ob (renF l) ol->∀ j∈nmL ol,Reached zs ob (renF l j)
 | [],_,_,j,hj=>by cases hj
 | (p,o) :: r,h0,h,j,hj=>by
  simp only [base0,List.all_cons,Bool.and_eq_true,beq_iff_eq] at h0
  obtain ⟨⟨h1,_⟩,h2⟩:=h0
  have ih:j∈nmL r->Reached zs ob (renF l j):=fun hm=>reachL_mem hl (ol:=r) (by simpa [base0] using h2) h.2 j hm
  cases o with
  | pool e u xss =>
   simp only [nmL,exL,List.map_append,List.mem_append] at hj
   rcases hj with hj | hj
   ·obtain ⟨q,hq,rfl⟩:=List.mem_map.1 hj
    obtain ⟨⟨row,k⟩,hx,rfl⟩:=List.mem_map.1 hq
    rw [List.mem_zipIdx_iff_getElem?] at hx
    show Reached zs ob (renF l (kid p k))
    rw [renF_kid hl h1]
    exact h.1 k (List.getElem?_eq_some_iff.1 hx).1
   ·exact ih hj
  | _ =>
   simp only [nmL,exL,List.map_cons,List.mem_cons] at hj
   rcases hj with rfl | hj
   ·exact h.1
   ·exact ih hj
theorem re_arg {zs:List AV} {ob:Oid->Option Ob} {i:Oid} (h:(AV.nmsL zs).contains i=true):Reached zs ob i:=.arg (List.contains_iff_mem.1 h)
theorem re_cells {zs:List AV} {ob:Oid->Option Ob} {k i:Oid} {ty:TypeId} {cs:List AV} (h1:Reached zs ob k) (h2:ob k=some (.cells ty cs)) (h:(AV.nmsL cs).contains i=true):Reached zs ob i:=.cells h1 h2 (List.contains_iff_mem.1 h)
theorem hdL_nms {p:Oid} {u:Ty} {xss:List (List u.D)} {k:Nat} (h:k<xss.length):kid p k∈AV.nmsL (hdL p u xss):=by
 have key:∀ cs:List AV,∀ c∈cs,∀ i∈c.nms,i∈AV.nmsL cs:=by
  intro cs
  induction cs with
  | nil=>intro c h; cases h
  | cons x r ih =>
   intro c hc i hi
   rcases List.mem_cons.1 hc with rfl | hc
   ·exact List.mem_append_left _ hi
   ·exact List.mem_append_right _ (ih c hc i hi)
 refine key _ (.own (kid p k) u 0 xss[k].length) ?_ _ (List.mem_singleton.2 rfl)
 apply List.mem_iff_getElem?.2
 exact ⟨k,by rw [hdL_get,List.getElem?_eq_getElem h]; rfl⟩
theorem re_rows {zs:List AV} {ob:Oid->Option Ob} {o p:Oid} {e1:TypeId} {m:Nat} {u:Ty} {xss:List (List u.D)} (h1:Reached zs ob o) (h2:ob o=some (.vec e1 1 m (hdL p u xss))):∀ k,k<xss.length->Reached zs ob (kid p k):=fun _ hk=>.vec h1 h2 (hdL_nms hk)
end
theorem rd_all {L:List Oid} {l:List (Oid×Oid)} {xs:List (Oid×Ob)} (h:(xs.all fun q=>L.contains (renF l q.1))=true):∀ q∈xs,renF l q.1∈L:=fun q hq=>by
 have:=List.all_eq_true.1 h q hq
 simpa using this
end Go.Proofs.YtkaollfdhoaihaaDoor
namespace Go.Proofs.YtkaollfdhoaihaaDoor
open Go.RowKit Go.Deep
def NeL (i:Oid):List Oid->Prop
 | []=>True
 | x :: r=>x≠i∧NeL i r
theorem less_ne {L M:List Oid} {ob:Oid->Option Ob} {i:Oid} (hL:M=L) (h:NeL i L):less M ob i=ob i:=by
 subst hL
 unfold less
 rw [if_neg]
 intro hm
 induction M with
 | nil=>cases hm
 | cons x r ih =>
  rcases List.mem_cons.1 hm with rfl | hm
  ·exact h.1 rfl
  ·exact ih h.2 hm
theorem kid_ne {p:Oid} {j k:Nat} (h:j≠k):kid p j≠kid p k:=fun e=>h (kid_inj e)
theorem only_in {L:List Oid} {ob:Oid->Option Ob} {i:Oid} (h:i∈L):only L ob i=ob i:=if_pos h
theorem rd_own {f:Nat->AV} {ob:Oid->Option Ob} {d:Option Nat} {gd:Option (Nat×Bool)} {fo y:Opd} {ys:List Opd} {tys:List (List (Option Ty))} {i:Oid} {t:Ty} {off len:Nat} (n:Nat) (hy:ys[n]? =some y) (he:y.ev f=.own i t off len):i∈rdX f ob ⟨d,gd,.call fo ys tys⟩:=by
 refine List.mem_flatMap.2 ⟨y,List.mem_cons_of_mem _ (List.mem_of_getElem? hy),?_⟩
 rw [he]
 show i∈deepT ob (7+1) (.own i t off len)
 unfold deepT
 dsimp only
 split <;> simp
theorem rd_nil {L:List Oid} {l:List (Oid×Oid)}:∀ q∈exL [],renF l q.1∈L:=fun _ h=>by cases h
theorem rd_arr {L:List Oid} {l:List (Oid×Oid)} {i:Oid} {e:TypeId} {t:Ty} {xs:List t.D} {r:List (Oid×Ob)} (h:renF l i∈L) (hr:∀ q∈exL r,renF l q.1∈L):∀ q∈exL ((i,.arr e t xs) :: r),renF l q.1∈L:=fun q hq=>by
 rcases List.mem_cons.1 hq with rfl | hq
 ·exact h
 ·exact hr q hq
theorem vec_n {ob:Oid->Option Ob} {o:Oid} {e1:TypeId} {sz m n:Nat} {cs:List AV} (h:ob o=some (.vec e1 sz n cs)) (e:m=n):ob o=some (.vec e1 sz m cs):=by rw [e]; exact h
theorem cut_len {α:Type} {xs:List α} {k:Nat} (h:k<=xs.length):k=(xs.take k).length:=by rw [List.length_take]; omega
theorem weak_cutV {S:St} {o:Oid} {e1:TypeId} {sz n k:Nat} {cs:List AV} (ho:S.ob o=some (.vec e1 sz n cs)) (hk:k<=n):Weak S ⟨S.tm,upd S.ob o (some (.vec e1 sz k (cs.take (k*sz)))),S.gen⟩:=by
 intro G w0 B N a w hr
 obtain ⟨σ,hm,hf,hB⟩:=hr.ex
 have was:∀ i x,upd S.ob o (some (.vec e1 sz k (cs.take (k*sz)))) i=some x->∃ y,S.ob i=some y:=fun i x hx=>by
  by_cases h:i=o
  ·subst h; exact ⟨_,ho⟩
  ·rw [upd_other _ _ _ _ h] at hx; exact ⟨x,hx⟩
 have hL:Later σ σ (imm S.ob σ) (imm (upd S.ob o (some (.vec e1 sz k (cs.take (k*sz))))) σ) w w:=⟨fun _ _ h=>h,fun b _ hb i x c s hx hs=>by obtain ⟨y,hy⟩:=was i x hx; exact hb i y c s hy hs,fun _ _ _=>rfl,Nat.le_refl _⟩
 refine ⟨⟨σ,⟨hm.below,hm.inv,hm.gen,hm.lt,hm.cap,fun i j b c s c' s' x y hx hy e1 e2=>?_,fun i x l hx hl=>?_⟩,fun t=>AV.Rep.later hL _ _ (hf t),hB.trans hL⟩,hr.size,hr.defers,fun i hi=>?_⟩
 ·obtain ⟨x',hx'⟩:=was i x hx
  obtain ⟨y',hy'⟩:=was j y hy
  exact hm.inj i j b c s c' s' x' y' hx' hy' e1 e2
 ·by_cases h:i=o
  ·subst h
   have hx:upd S.ob i (some (.vec e1 sz k (cs.take (k*sz)))) i=some x:=hx
   rw [upd_same] at hx
   obtain rfl:=Option.some.inj hx
   obtain ⟨vs,p1,p2,p3,p4⟩:=hm.obs i _ l ho hl
   refine ⟨vs.take (k*sz),p1.take hk (fun g cap e=>?_) (fun e=>?_),(AV.RepL.later hL _ _ p2).take _,fun v hv=>p3 v (List.mem_of_mem_take hv),p4⟩
   ·cases l with
    | nil=>cases e
    | at_ b c s=>cases e; rfl
   ·cases l with
    | nil=>rfl
    | at_ b c s=>cases e
  ·have hx:upd S.ob o (some (.vec e1 sz k (cs.take (k*sz)))) i=some x:=hx
   rw [upd_other _ _ _ _ h] at hx
   exact (hm.obs i x l hx hl).later hL fun _ _ _ _=>rfl
 ·by_cases h:i=o
  ·subst h; exact hr.obg i (by rw [ho]; simp)
  ·have hi:upd S.ob o (some (.vec e1 sz k (cs.take (k*sz)))) i≠none:=hi
   rw [upd_other _ _ _ _ h] at hi
   exact hr.obg i hi
theorem weak_cutM_ {tl:List (Nat×AV)} {ol:List (Oid×Option Ob)} {g:Nat} (s:Nat) (o p:Oid) {e1 e:TypeId} {u:Ty} {xss:List (List u.D)} {n k:Nat} (hfl:u.flat=true) (ho:mkOb ol o=some (.vec e1 1 n (hdL p u xss))) (hn:n=xss.length) (hp:poolAt ol p=some (.pool e u xss)) (hk:k<=n) (hpo:(o.1.1==p.1.1&&o.2==p.2&&o.1.2 !=0)=false) (hog:(o.2==g)=false) (hfr:noGen g ((p,some (.pool e u [])) :: ol)=true) :
  Weak ⟨mkTm tl,mkOb ol,g⟩ ⟨mkTm tl,mkOb ((o,some (.mat e1 ((s,0),g) u (xss.take k))) :: (((s,0),g),some (.pool e u (xss.take k))) :: (p,some (.pool e u [])) :: (o,some (.vec e1 1 k ((hdL p u xss).take k))) :: ol),g+1⟩:=by
 have h1:Weak ⟨mkTm tl,mkOb ol,g⟩ ⟨mkTm tl,mkOb ((o,some (.vec e1 1 k ((hdL p u xss).take k))) :: ol),g⟩:=by
  have:=weak_cutV (S:=⟨mkTm tl,mkOb ol,g⟩) ho hk
  rw [Nat.mul_one] at this
  rw [← upd_mkOb rfl]
  exact this
 refine h1.trans ?_
 have hok:∀ j,kid p j≠o:=fun j e=>by rw [← e] at hpo; simp [kid] at hpo
 have hpool:poolAt ((o,some (.vec e1 1 k ((hdL p u xss).take k))) :: ol) p=some (.pool e u xss):=by
  show (if p.1.1=o.1.1∧p.2=o.2∧o.1.2≠0 then none else poolAt ol p)=_
  rw [if_neg,hp]
  rintro ⟨a1,a2,a3⟩
  rw [a1,a2] at hpo
  simp [a3] at hpo
 refine weak_rows_ s o (fun j=>kid p j) [(p,some (.pool e u []))] hfl (by show mkOb _ o=_; simp only [mkOb]; rw [if_pos trivial]) (by rw [List.length_take]; omega) (fun j row hj=>?_) (fun a b _ _ hab=>kid_inj hab) hog ?_ (fun i hi=>?_)
 ·rw [List.getElem?_take] at hj ⊢
  split at hj
  ·rename_i hlt
   rw [if_pos hlt,hdL_get,hj]
   exact ⟨rfl,row,mkOb_kid hpool hj,Nat.le_refl _,(List.take_length).symm⟩
  ·cases hj
 ·simp only [noGen,List.all_append,List.all_cons,List.all_nil,Bool.and_true,Bool.and_eq_true,bne_iff_ne] at hfr ⊢
  exact ⟨hfr.1,by simpa using hog,hfr.2⟩
 ·simp only [List.cons_append,List.nil_append,kill_pool]
  split
  ·exact .inl rfl
  ·rename_i h2
   exact .inr ⟨rfl,fun j _ e=>h2 (by rw [e]; exact ⟨rfl,rfl,by simp [kid]⟩)⟩
theorem weak_cut3_ {tl:List (Nat×AV)} {ol:List (Oid×Option Ob)} {g:Nat} (s:Nat) (o p:Oid) {e1 e:TypeId} {u:Ty} {xss:List (List u.D)} {k:Nat} (hfl:u.flat=true) (ho:mkOb ol o=some (.vec e1 1 k ((hdL p u xss).take k))) (hp:poolAt ol p=some (.pool e u xss)) (hk:k<=xss.length) (hog:(o.2==g)=false) (hfr:noGen g ((p,some (.pool e u [])) :: ol)=true) :
  Weak ⟨mkTm tl,mkOb ol,g⟩ ⟨mkTm tl,mkOb ((o,some (.mat e1 ((s,0),g) u (xss.take k))) :: (((s,0),g),some (.pool e u (xss.take k))) :: (p,some (.pool e u [])) :: ol),g+1⟩:=by
 refine weak_rows_ s o (fun j=>kid p j) [(p,some (.pool e u []))] hfl ho (by rw [List.length_take]; omega) (fun j row hj=>?_) (fun a b _ _ hab=>kid_inj hab) hog hfr (fun i hi=>?_)
 ·rw [List.getElem?_take] at hj ⊢
  split at hj
  ·rename_i hlt
   rw [if_pos hlt,hdL_get,hj]
   exact ⟨rfl,row,mkOb_kid hp hj,Nat.le_refl _,(List.take_length).symm⟩
  ·cases hj
 ·simp only [List.cons_append,List.nil_append,kill_pool]
  split
  ·exact .inl rfl
  ·rename_i h2
   exact .inr ⟨rfl,fun j _ e=>h2 (by rw [e]; exact ⟨rfl,rfl,by simp [kid]⟩)⟩
section
variable {f:Nat->AV} {ob:Oid->Option Ob} {n:Nat} {d:Option Nat}
theorem s_slice3V {sz:Nat} {x hi mx:Opd} {i:Oid} {t:Ty} {len N:Nat} {e:TypeId} {cs:List AV} {kh km:IntKind} {h m:Int} {j:Nat} (hx:x.ev f=.own i t 0 len) (hob:ob i=some (.vec e 1 N cs)) (hh:hi.ev f=.int kh h) (hm:mx.ev f=.int km m) (hs:t.size=sz) (hb:0<=h∧h<=m∧m<=(len:Int)) (hj:h.toNat=j) (hk:j<=N) :
  stepX n ⟨d,none,.slice sz x none (some hi) (some mx)⟩ f ob=some (2,.own ((d.getD 0,0),n) t 0 j,[(i,none),(((d.getD 0,0),n),some (.vec e 1 j (cs.take j)))]):=by
 subst hj
 simp [stepX,ev,evSlice,evSlice3,optInt,hx,hob,hh,hm,hs,hb,cutO,hk,AV.un]
end
end Go.Proofs.YtkaollfdhoaihaaDoor
namespace Go.Proofs.YtkaollfdhoaihaaDoor
open Go.RowKit Go.Deep
section
variable {P:Program} {G:World->Prop} {g k d:Nat} {gd:Option (Nat×Bool)} {q:Q} {xs:List X} {tl:List (Nat×AV)} {ol:List (Oid×Option Ob)} {bad:List (Nat×Nat)} {ra:List Rec} {da:List (List Oid)} {Kf:List (Nat×AV)->List (Oid×Option Ob)->Prop}
theorem rz0 (v:AV) (h3:XW P G g (k+1) xs ((d,v) :: tl) ol Kf) (h:stepX (g+k) ⟨some d,gd,q⟩ (mkTm tl) (mkOb ol)=some (0,v,[]):=by kernel_rfl):XW P G g k (⟨some d,gd,q⟩ :: xs) tl ol Kf:=rs0 v h h3
theorem rzl (v:AV) (h3:XW P G g (k+1) xs ((d,v) :: tl) ol Kf) (h:stepX (g+k) ⟨some d,gd,q⟩ (mkTm tl) (mkOb ol)=some (1,v,[]):=by kernel_rfl):XW P G g k (⟨some d,gd,q⟩ :: xs) tl ol Kf:=rsl v h h3
theorem dz0 (v:AV) (h3:XD P G bad g (k+1) xs ((d,v) :: tl) ol ((0,v,[]) :: ra) ((rdX (mkTm tl) (mkOb ol) ⟨some d,gd,q⟩) :: da) Kf) (h:stepX (g+k) ⟨some d,gd,q⟩ (mkTm tl) (only (rdX (mkTm tl) (mkOb ol) ⟨some d,gd,q⟩) (mkOb ol))=some (0,v,[]):=by kernel_rfl):XD P G bad g k (⟨some d,gd,q⟩ :: xs) tl ol ra da Kf:=ds0 v h h3
theorem dzl (v:AV) (h3:XD P G bad g (k+1) xs ((d,v) :: tl) ol ((1,v,[]) :: ra) ((rdX (mkTm tl) (mkOb ol) ⟨some d,gd,q⟩) :: da) Kf) (h:stepX (g+k) ⟨some d,gd,q⟩ (mkTm tl) (only (rdX (mkTm tl) (mkOb ol) ⟨some d,gd,q⟩) (mkOb ol))=some (1,v,[]):=by kernel_rfl):XD P G bad g k (⟨some d,gd,q⟩ :: xs) tl ol ra da Kf:=dsl v h h3
theorem zs {s:Nat} {b c:Bool} (hc:c= !b) (h3:XW P G g (k+1) xs ((d,.tup []) :: tl) ol Kf) (hs:mkTm tl s=.bool c:=by kernel_rfl):XW P G g k (⟨some d,some (s,b),q⟩ :: xs) tl ol Kf:=rs0 (.tup []) (s_skip hs hc) h3
theorem zc {fo:Opd} {ys:List Opd} {tys:List (List (Option Ty))} {F:FuncId} {rv:RV} {args:List AV} (v:AV) (us:List (Oid×Option Ob)) (zs:List AV) (hc:CallOK P G F args rv) (h3:XW P G g (k+1) xs ((d,v) :: tl) (us.reverseAux ol) Kf) (h1:mapO (gnd (mkOb ol) 8) zs=some zs:=by kernel_rfl) (hb:hasBody P F=true:=by kernel_rfl) (hfo:fo.ev (mkTm tl)=.fn F []:=by kernel_rfl) (hz:(ys++([]:List AV).map Opd.cst).map (Opd.ev (mkTm tl))=zs:=by kernel_rfl) (hn:nilTL tys zs=args:=by kernel_rfl) (hr:rv.out (mkId ((d,0),g+k)) zs=(v,us):=by kernel_rfl) (hx:exactU us=true:=by rfl):XW P G g k (⟨some d,none,.call fo ys tys⟩ :: xs) tl ol Kf:=rcall (caps:=[]) (args0:=zs) v us zs args trivial h1 hc hb h3 hfo hz hn hr hx
end
section
variable {n:Nat} {d:Option Nat} {f:Nat->AV} {ob:Oid->Option Ob}
theorem zi {sz:Nat} {x i:Opd} {t:Ty} {xs:List t.D} {y:t.D} {k:IntKind} {m:Int} {j:Nat} (h0:0<=m) (hy:xs[j]? =some y) (hx:(x.ev f).un=.tree t xs:=by kernel_rfl) (hi:i.ev f=.int k m:=by kernel_rfl) (hs:sz=t.size:=by rfl) (hj:m.toNat=j:=by rfl):stepX n ⟨d,none,.i (.idx sz x i)⟩ f ob=some (0,.telt t y 0,[]):=s_idxT hx hi hs h0 hj hy
theorem zo {sz:Nat} {x i:Opd} {t:Ty} {o:Oid} {len:Nat} {k:IntKind} {m:Int} {j:Nat} (h0:0<=m) (hl:j<len) (hx:x.ev f=.own o t 0 len:=by kernel_rfl) (hi:i.ev f=.int k m:=by kernel_rfl) (hs:sz=t.size:=by rfl) (hj:m.toNat=j:=by rfl):stepX n ⟨d,none,.i (.idx sz x i)⟩ f ob=some (0,.elt o j 0,[]):=s_idxO hx hi hs h0 hj hl
theorem zg {s:Nat} {b c:Bool} {q:Q} {r:Option Rec} (hc:c=b) (hs:f s=.bool c:=by kernel_rfl) (h:stepX n ⟨d,none,q⟩ f ob=r:=by kernel_rfl):stepX n ⟨d,some (s,b),q⟩ f ob=r:=s_gd hs hc h
theorem zT {c x y:Opd} {b:Bool} (hb:b=true) (h:c.ev f=.bool b:=by kernel_rfl):stepX n ⟨d,none,.i (.pick c x y)⟩ f ob=some (0,x.ev f,[]):=s_pickT h hb
theorem zF {c x y:Opd} {b:Bool} (hb:b=false) (h:c.ev f=.bool b:=by kernel_rfl):stepX n ⟨d,none,.i (.pick c x y)⟩ f ob=some (0,y.ev f,[]):=s_pickF h hb
theorem za {x y:Opd} {j:Nat} (h:j+1<4611686018427387904) (hx:x.ev f=.int .i64 j:=by kernel_rfl) (hy:y.ev f=.int .i64 1:=by kernel_rfl):stepX n ⟨d,none,.i (.bin .add x y)⟩ f ob=some (0,.int .i64 ((j+1:Nat):Int),[]):=s_add1 hx hy h
theorem zl {vs:List Value} {c:AV} {l:RL} (h:leafOf ob c=some l:=by kernel_rfl):LeafR vs ob c l:=l_sc h
end
theorem zj {α:Type} {a b:α} (h:some a=some b):a=b:=Option.some.inj h
theorem wr_ {S:St} {K:St->Prop} (h:K S):∃ S',Weak S S'∧K S':=⟨S,Weak.refl _,h⟩
end Go.Proofs.YtkaollfdhoaihaaDoor
namespace Go.Proofs.YtkaollfdhoaihaaDoor
open Go.RowKit Go.Deep
inductive Ctl (σ ρ:Type) where
 | next (s:σ)
 | out (r:ρ)
def Ctl.then {σ β:Type} (k:σ->Option β):Ctl σ β->Option β
 | .next t=>k t
 | .out r=>some r
section
variable {α β σ τ ρ:Type}
def og (c:Prop) [Decidable c] (k:Option α):Option α:=if c then k else none
theorem og_some {c:Prop} [Decidable c] {k:Option α} {r:α} (h:og c k=some r):c∧k=some r:=by
 unfold og at h
 split at h
 ·rename_i hc; exact ⟨hc,h⟩
 ·cases h
theorem og_true {c:Prop} [Decidable c] (h:c) (k:Option α):og c k=k:=if_pos h
theorem ob_some {o:Option α} {f:α->Option β} {b:β} (h:o.bind f=some b):∃ a,o=some a∧f a=some b:=Option.bind_eq_some_iff.1 h
theorem cond_some {c:Bool} {a b:Option α} {r:α} (h:cond c a b=some r):(c=true∧a=some r)∨(c=false∧b=some r):=by
 cases c
 ·exact .inr ⟨rfl,h⟩
 ·exact .inl ⟨rfl,h⟩
def seqC (a:Option (Ctl τ β)) (k:τ->Option β):Option β :=
 a.bind (Ctl.then k)
theorem seqC_some {a:Option (Ctl τ β)} {k:τ->Option β} {r:β} (h:seqC a k=some r):∃ v,a=some v∧Ctl.then k v=some r:=ob_some h
def loopM (body:σ->Option (Ctl σ ρ)):Nat->σ->Option ρ
 | 0,_=>none
 | n+1,s=>(body s).bind (Ctl.then (loopM body n))
theorem loopM_some {body:σ->Option (Ctl σ ρ)} {n:Nat} {s:σ} {v:ρ} (h:loopM body (n+1) s=some v):∃ c,body s=some c∧Ctl.then (loopM body n) c=some v:=ob_some h
theorem loopM_zero {body:σ->Option (Ctl σ ρ)} {s:σ} {v:ρ} (h:loopM body 0 s=some v):False:=by cases h
def getI (xs:List α) (n:Int):Option α:=if 0<=n then xs[n.toNat]? else none
theorem getN_lt {xs:List α} {k:Nat} {x:α} (h:xs[k]? =some x):k<xs.length:=(List.getElem?_eq_some_iff.1 h).1
theorem getI_some {xs:List α} {n:Int} {x:α} (h:getI xs n=some x):0<=n∧n<xs.length∧xs[n.toNat]? =some x:=by
 unfold getI at h
 split at h
 ·rename_i h0
  have:=getN_lt h
  exact ⟨h0,by omega,h⟩
 ·cases h
theorem getI_nat {xs:List α} {n:Int} (h:0<=n):getI xs n=xs[n.toNat]?:=if_pos h
end
section
variable {P:Program} {G:World->Prop} {σ τ β ρ:Type}
theorem awp_seqB {x y:AC} {R:AE->St->Prop} {S:St} {A:Option τ} {k:τ->Option β} {r:β} (h:A.bind k=some r) (J:τ->St->Prop) (h1:∀ t,A=some t->awp P G x (thenA (fun S'=>∃ S'',Weak S' S''∧J t S'') R) S) (h2:∀ t S'',J t S''->k t=some r->awp P G y R S''):awp P G (.seq x y) R S:=by
 obtain ⟨t,ha,hk⟩:=ob_some h
 exact awp_seqw_ (J t) (h1 t ha) fun S'' hj=>h2 t S'' hj hk
theorem awp_seqC {x y:AC} {R:AE->St->Prop} {S:St} {A:Option (Ctl τ β)} {k:τ->Option β} {r:β} (h:seqC A k=some r) (J:τ->St->Prop)
  (h1:∀ v,A=some v->Ctl.then k v=some r->awp P G x (thenA (fun S'=>∃ t S'',v=.next t∧Weak S' S''∧J t S'') R) S) (h2:∀ t S'',J t S''->k t=some r->awp P G y R S''):awp P G (.seq x y) R S:=by
 obtain ⟨v,ha,hk⟩:=seqC_some h
 refine awp_seqw_ (fun S''=>∃ t,v=.next t∧J t S'') (awp_mono (fun e S' hq=>?_) (h1 v ha hk)) fun S'' ⟨t,hv,hj⟩=>?_
 ·cases e with
  | normal=>obtain ⟨t,S'',hv,hw,hj⟩:=hq; exact ⟨S'',hw,t,hv,hj⟩
  | exit id=>exact hq
  | ret=>exact hq
 ·subst hv; exact h2 t S'' hj hk
theorem awp_loopL {a:AC} {R:AE->St->Prop} {S:St} {body:σ->Option (Ctl σ ρ)} {fuel:Nat} {s0:σ} {v:ρ} (h:loopM body fuel s0=some v) (J:σ->St->Prop) (h0:∃ S0,Weak S S0∧J s0 S0)
  (h1:∀ n s S1 c,J s S1->body s=some c->Ctl.then (loopM body n) c=some v->awp P G a (thenA (fun S2=>∃ s' S3,Weak S2 S3∧J s' S3∧loopM body n s'=some v) R) S1):awp P G (.loop a) R S:=by
 obtain ⟨S0,hw,hj⟩:=h0
 refine awp_loop_ (fun (p:Nat×σ) S=>loopM body p.1 p.2=some v∧J p.2 S) (·.1) ⟨(fuel,s0),S0,hw,h,hj⟩ ?_
 rintro ⟨n,s⟩ S1 ⟨hl,hj⟩
 cases n with
 | zero=>exact (loopM_zero hl).elim
 | succ n =>
  obtain ⟨c,hc,hn⟩:=loopM_some hl
  refine awp_mono (fun e S2 hq=>?_) (h1 n s S1 c hj hc hn)
  cases e with
  | normal=>obtain ⟨s',S3,hw,hj,hl⟩:=hq; exact ⟨(n,s'),S3,hw,⟨hl,hj⟩,Nat.lt_succ_self n⟩
  | exit id=>exact hq
  | ret=>exact hq
end
theorem nat_nn (n:Nat):0<=(n:Int):=by omega
end Go.Proofs.YtkaollfdhoaihaaDoor
namespace Go.Proofs.YtkaollfdhoaihaaDoor
open Go.RowKit Go.Deep
def L_impl_isField (a0:Int):Option Bool:=some (isF a0)
def rv_impl_isField (r:Bool):RV:=⟨false,[(false,[.sc (.bool r)])]⟩
theorem ok_impl_isField {a0:Int} {r:Bool} (h:L_impl_isField a0=some r):CallOK Tryd.prog Tab 59 [.int .i64 a0] (rv_impl_isField r):=by
 obtain rfl:=Option.some.inj h
 intro w im vs hG hr
 obtain ⟨u1,_,rfl,h1,h2⟩:=hr
 obtain rfl:_=[]:=h2
 obtain rfl:u1=.int .i64 a0:=h1
 refine (isField_any a0 w (hG w (Below.refl _ _))).mono ?_
 rintro e w' ⟨rfl,rfl⟩
 exact ⟨_,rfl,Below.refl _ _,[_],[],⟨_,[],rfl,rfl,rfl,rfl,rfl⟩,⟨trivial,fun _=>rfl⟩,rfl⟩
end Go.Proofs.YtkaollfdhoaihaaDoor
namespace Go.Proofs.YtkaollfdhoaihaaDoor
open Go.RowKit Go.Deep
set_option maxRecDepth 4000
def m_laws_szIntS:AC :=
 (.seq (rg [xo 4 (qm (ci 0))])
 (.seq (rg [xo 5 (qm (tm 1)),xo 6 (qm (tm 0)),xo 7 (.i (.len (tm 6))),xo 8 (qb .sub (tm 5) (tm 7)),xo 1 (qm (tm 8))])
 (.seq (.seq (rg [xo 9 (qm (tm 1)),xo 10 (qb .lss (tm 9) (ci 0))])
 (.cond (tm 10)
  (.seq (rg [xo 4 (qm (ci (-1)))])
  .ret)
  .skip))
 (.seq (rg [xo 11 (qm (tm 1)),xo 4 (qm (tm 11))])
 .ret))))
def r_laws_szIntS:List Res:=[.tmp 4]
theorem c_laws_szIntS:compiled Tryd.prog Tryd.f21=some (m_laws_szIntS,r_laws_szIntS):=by kernel_rfl
def L_laws_szIntS (a0:List Int) (a1:Int):Option Int :=
 cond (decide (IntKind.i64.wrap (a1 - ((a0.length:Nat):Int))<0))
 (some (-1))
 (some (IntKind.i64.wrap (a1 - ((a0.length:Nat):Int))))
def rv_laws_szIntS (r:Int):RV:=⟨false,[(false,[.sc (.int .i64 r)])]⟩
theorem ok_laws_szIntS {a0:List Int} {a1:Int} {r:Int} (h:L_laws_szIntS a0 a1=some r):CallOK Tryd.prog Tab 21 [(.tree .int a0),(ai a1)] (rv_laws_szIntS r):=by
 refine call_of_ (by kernel_rfl) Tryd.func21 c_laws_szIntS (n:=12) (by kernel_rfl) (by simp) (tl:=[(0,(.tree .int a0)),(1,(ai a1))]) rfl ?_
 unfold m_laws_szIntS
 unfold L_laws_szIntS at h
 refine seqR ?_
 refine seqR ?_
 refine awp_seqv_ ?_
 refine seqR ?_
 rcases cond_some h with ⟨q5,h⟩ | ⟨q5,h⟩
 ·have q5_:=of_decide_eq_true q5
  refine awp_condT_ q5 ?_
  refine seqR ?_
  refine awp_ret_ (tr_ ?_)
  obtain rfl:=zj h
  exact ret_ [(ai (-1))] (p_one rfl zl p_nil)
 have q5_:=of_decide_eq_false q5
 refine awp_condF_ q5 ?_
 refine awp_skip_ (tn_ ?_)
 refine wr_ ?_
 refine seqR ?_
 refine awp_ret_ ?_
 obtain rfl:=zj h
 exact ret_ [(ai (IntKind.i64.wrap (a1 - ((a0.length:Nat):Int))))] (p_one rfl zl p_nil)
def m_laws_toIntS_l1:AC :=
 (.seq (.seq (rg [xo 8 (qm (tm 4)),xo 9 (qm (tm 0)),xo 10 (.i (.len (tm 9))),xo 11 (qb .lss (tm 8) (tm 10))])
 (.cond (tm 11)
  .skip
  (.exit 0)))
 (.seq (.block 1 (rg [xo 14 (qm (tm 3)),xo 15 (qm (tm 4)),xo 16 (qm (tm 0)),xo 17 (qm (tm 4)),xo 18 (qx 1 (tm 16) (tm 17)),xo 19 (ql (tm 18)),xo 20 (qx 1 (tm 14) (tm 15)),xn (qs (tm 20) (tm 19))]))
 (rg [xo 12 (qm (tm 4)),xo 13 (qb .add (tm 12) (ci 1)),xo 4 (qm (tm 13))])))
def m_laws_toIntS:AC :=
 (.seq (rg [xo 2 (qm (.cst .nils))])
 (.seq (rg [xo 5 (qm (tm 0)),xo 6 (.i (.len (tm 5))),xo 7 (.make 3 .int 8 (tm 6) (tm 6)),xo 3 (qm (tm 7))])
 (.seq (.seq (rg [xo 4 (qm (ci 0))])
 (.block 0 (.loop m_laws_toIntS_l1)))
 (.seq (rg [xo 21 (qm (tm 3)),xo 2 (qm (tm 21))])
 .ret))))
def r_laws_toIntS:List Res:=[.tmp 2]
theorem c_laws_toIntS:compiled Tryd.prog Tryd.f15=some (m_laws_toIntS,r_laws_toIntS):=by kernel_rfl
def L_laws_toIntS_l1 (a0:List Int) (l6_m4:Nat) (l6_m3:List Int):Option (Ctl (Nat×List Int) (List Int)) :=
 cond (decide (((l6_m4:Nat):Int)<((a0.length:Nat):Int)))
 (Option.bind (a0[l6_m4]?) fun x11 =>
 Option.bind (l6_m3[l6_m4]?) fun x12 =>
 og (l6_m4+1<4611686018427387904) <|
 some (Ctl.next (l6_m4+1,l6_m3.set l6_m4 x11)))
 (some (Ctl.out l6_m3))
def L_laws_toIntS (a0:List Int):Option (List Int) :=
 og (0<=((a0.length:Nat):Int)∧((a0.length:Nat):Int)<=((a0.length:Nat):Int)∧((a0.length:Nat):Int)<=1073741824∧(8:Int)*((a0.length:Nat):Int)<=140737488355328) <|
Option.bind (loopM (fun s_:Nat×List Int=>L_laws_toIntS_l1 a0 s_.1 s_.2) 4611686018427387904 (0,List.replicate a0.length (0:Int))) fun l4_m3 =>
some l4_m3
def rv_laws_toIntS (r:List Int):RV:=⟨false,[(false,[.new 3 .int r])]⟩
theorem ok_laws_toIntS {a0:List Int} {r:List Int} (h:L_laws_toIntS a0=some r):CallOK Tryd.prog Tab 15 [(.tree .int a0)] (rv_laws_toIntS r):=by
 refine call_of_ (by kernel_rfl) Tryd.func15 c_laws_toIntS (n:=22) (by kernel_rfl) (by simp) (tl:=[(0,(.tree .int a0))]) rfl ?_
 unfold m_laws_toIntS
 unfold L_laws_toIntS at h
 refine seqR ?_
 refine awp_seqv_ ?_
 obtain ⟨g3,h⟩:=og_some h
 refine awp_region_ 6 ?_
 refine rz0 (.tree .int a0) ?_
 refine rz0 (ai ((a0.length:Nat):Int)) ?_
 refine rs1 (.own (oi 7 4) .int 0 a0.length) (oi 7 4) (.arr 3 .int (List.replicate a0.length (0:Int))) (s_make (t:=.int) (k:=.i64) (k':=.i64) (m:=((a0.length:Nat):Int)) (m':=((a0.length:Nat):Int)) (by kernel_rfl) (by kernel_rfl) g3 rfl) ?_
 refine rsB 1 ?_
 refine rnil (tn_ ?_)
 refine wr_ ?_
 refine awp_seqB h (fun (l4_m3:List Int) S_=>S_=⟨mkTm [(3,(.own (oi 0 1) .int 0 l4_m3.length))],mkOb (someL [((oi 0 1),.arr 3 .int l4_m3)]),2⟩) ?_ ?_
 ·intro v_ h
  refine seqR ?_
  refine awp_block_ ?_
  refine awp_loopL h (fun t_ S_=>∃ (l6_m4:Nat),∃ (l6_m3:List Int),t_=(l6_m4,l6_m3)∧S_=⟨mkTm [(0,(.tree .int a0)),(3,(.own (oi 0 1) .int 0 l6_m3.length)),(4,(ai ((l6_m4:Nat):Int)))],mkOb (someL [((oi 0 1),.arr 3 .int l6_m3)]),2⟩) ⟨_,((weak_tm_ 3 (.own (oi 7 4) .int 0 a0.length) (.own (oi 7 4) .int 0 ((List.replicate a0.length (0:Int)).length)) (by kernel_rfl) (congrArg (fun z_=>((.own (oi 7 4) .int 0 z_):AV)) (List.length_replicate.symm:a0.length=(List.replicate a0.length (0:Int)).length))).trans (weak_ren [((oi 0 1),(oi 7 4))])),⟨0,List.replicate a0.length (0:Int),rfl,rfl⟩⟩ ?_
  rintro n_ _ _ c_ ⟨l6_m4,l6_m3,rfl,rfl⟩ h hn6
  (try dsimp only at h)
  unfold L_laws_toIntS_l1 at h
  unfold m_laws_toIntS_l1
  refine awp_seqv_ ?_
  refine seqR ?_
  rcases cond_some h with ⟨q9,h⟩ | ⟨q9,h⟩
  ·have q9_:=of_decide_eq_true q9
   refine awp_condT_ q9 ?_
   refine awp_skip_ (tn_ ?_)
   refine wr_ ?_
   refine awp_seqv_ ?_
   refine awp_block_ ?_
   obtain ⟨x11,e11,h⟩:=ob_some h
   obtain ⟨x12,e12,h⟩:=ob_some h
   refine awp_region_ 14 ?_
   refine rz0 (.own (oi 0 1) .int 0 l6_m3.length) ?_
   refine rz0 (ai ((l6_m4:Nat):Int)) ?_
   refine rz0 (.tree .int a0) ?_
   refine rz0 (ai ((l6_m4:Nat):Int)) ?_
   refine rs0 (.telt .int x11 0) (zi (t:=.int) (xs:=a0) (k:=.i64) (m:=((l6_m4:Nat):Int)) (nat_nn _) e11) ?_
   refine rz0 (ai x11) ?_
   refine rs0 (.elt (oi 0 1) l6_m4 0) (zo (t:=.int) (o:=(oi 0 1)) (len:=l6_m3.length) (k:=.i64) (m:=((l6_m4:Nat):Int)) (nat_nn _) (getN_lt e12)) ?_
   refine rsn2 (oi 0 1) (oi 0 1) (.arr 3 .int (l6_m3.set l6_m4 x11)) (s_stE (i:=(oi 0 1)) (j:=l6_m4) (k:=0) (e:=3) (t:=.int) (xs:=l6_m3) (cs:=[(ai x11)]) (x1:=x11) (by kernel_rfl) (by kernel_rfl) e12 (by kernel_rfl) (by kernel_rfl)) ?_
   refine rnil (bn_ (tn_ ?_))
   refine wr_ ?_
   obtain ⟨g13,h⟩:=og_some h
   refine awp_region_ 17 ?_
   refine rz0 (ai ((l6_m4:Nat):Int)) ?_
   refine rs0 (ai ((l6_m4+1:Nat):Int)) (za g13) ?_
   refine rsB 1 ?_
   refine rnil (tn_ ?_)
   obtain rfl:=zj h
   exact ⟨(l6_m4+1,l6_m3.set l6_m4 x11),_,((weak_tm_ 3 (.own (oi 0 1) .int 0 l6_m3.length) (.own (oi 0 1) .int 0 ((l6_m3.set l6_m4 x11).length)) (by kernel_rfl) (congrArg (fun z_=>((.own (oi 0 1) .int 0 z_):AV)) (((rfl:l6_m3.length=l6_m3.length).trans List.length_set.symm):l6_m3.length=(l6_m3.set l6_m4 x11).length))).trans (weak_ren [])),⟨l6_m4+1,l6_m3.set l6_m4 x11,rfl,rfl⟩,hn6⟩
  have q9_:=of_decide_eq_false q9
  refine awp_condF_ q9 ?_
  refine awp_exit_ (te_ (te_ (be_ (tn_ ?_))))
  obtain rfl:=zj h
  have h:=hn6
  (try dsimp only at h)
  obtain rfl:=zj h
  exact ⟨_,(weak_ren []),rfl⟩
 rintro l4_m3 _ rfl h
 (try dsimp only at h)
 refine seqR ?_
 refine awp_ret_ ?_
 obtain rfl:=zj h
 exact ret_ [(.own (oi 0 1) .int 0 l4_m3.length)] (p_one rfl (l_own (by kernel_rfl) rfl) p_nil)
def m_laws_eqIntS_l1:AC :=
 (.seq (.seq (rg [xo 11 (qm (tm 5)),xo 12 (qm (tm 0)),xo 13 (.i (.len (tm 12))),xo 14 (qb .lss (tm 11) (tm 13))])
 (.cond (tm 14)
  .skip
  (.exit 0)))
 (.seq (.block 1 (.seq (.region [xo 17 (qm (tm 0)),xo 18 (qm (tm 5)),xo 19 (qx 1 (tm 17) (tm 18)),xo 20 (ql (tm 19)),xo 21 (qm (tm 1)),xo 22 (qm (tm 5)),xo 23 (qx 1 (tm 21) (tm 22)),xo 24 (ql (tm 23)),xo 25 (qb .neq (tm 20) (tm 24))] true [])
 (.cond (tm 25)
  (.seq (rg [xo 4 (qm (cb false))])
  .ret)
  .skip)))
 (rg [xo 15 (qm (tm 5)),xo 16 (qb .add (tm 15) (ci 1)),xo 5 (qm (tm 16))])))
def m_laws_eqIntS:AC :=
 (.seq (rg [xo 4 (qm (cb false))])
 (.seq (.seq (rg [xo 6 (qm (tm 0)),xo 7 (.i (.len (tm 6))),xo 8 (qm (tm 1)),xo 9 (.i (.len (tm 8))),xo 10 (qb .neq (tm 7) (tm 9))])
 (.cond (tm 10)
  (.seq (rg [xo 4 (qm (cb false))])
  .ret)
  .skip))
 (.seq (.seq (rg [xo 5 (qm (ci 0))])
 (.block 0 (.loop m_laws_eqIntS_l1)))
 (.seq (rg [xo 4 (qm (cb true))])
 .ret))))
def r_laws_eqIntS:List Res:=[.tmp 4]
theorem c_laws_eqIntS:compiled Tryd.prog Tryd.f17=some (m_laws_eqIntS,r_laws_eqIntS):=by kernel_rfl
theorem hb_laws_eqIntS:hasBody Tryd.prog 17=true:=by kernel_rfl
def L_laws_eqIntS_l1 (a0:List Int) (a1:List Int) (l8_m5:Nat):Option (Ctl Nat (Ctl Unit Bool)) :=
 cond (decide (((l8_m5:Nat):Int)<((a0.length:Nat):Int)))
 (Option.bind (a0[l8_m5]?) fun x14 =>
 Option.bind (a1[l8_m5]?) fun x15 =>
 cond (x14 !=x15)
  (some (Ctl.out (Ctl.out false)))
  (og (l8_m5+1<4611686018427387904) <|
  some (Ctl.next (l8_m5+1))))
 (some (Ctl.out (Ctl.next ())))
def L_laws_eqIntS (a0:List Int) (a1:List Int):Option Bool :=
 cond (((a0.length:Nat):Int) !=((a1.length:Nat):Int))
 (some false)
 (seqC (loopM (fun s_:Nat=>L_laws_eqIntS_l1 a0 a1 s_) 4611686018427387904 0) fun _ =>
 some true)
def rv_laws_eqIntS (r:Bool):RV:=⟨false,[(false,[.sc (.bool r)])]⟩
theorem ok_laws_eqIntS {a0:List Int} {a1:List Int} {r:Bool} (h:L_laws_eqIntS a0 a1=some r):CallOK Tryd.prog Tab 17 [(.tree .int a0),(.tree .int a1)] (rv_laws_eqIntS r):=by
 refine call_of_ (by kernel_rfl) Tryd.func17 c_laws_eqIntS (n:=26) (by kernel_rfl) (by simp) (tl:=[(0,(.tree .int a0)),(1,(.tree .int a1))]) rfl ?_
 unfold m_laws_eqIntS
 unfold L_laws_eqIntS at h
 refine seqR ?_
 refine awp_seqv_ ?_
 refine seqR ?_
 rcases cond_some h with ⟨q4,h⟩ | ⟨q4,h⟩
 ·refine awp_condT_ q4 ?_
  refine seqR ?_
  refine awp_ret_ (tr_ ?_)
  obtain rfl:=zj h
  exact ret_ [(.bool false)] (p_one rfl zl p_nil)
 refine awp_condF_ q4 ?_
 refine awp_skip_ (tn_ ?_)
 refine wr_ ?_
 refine awp_seqC h (fun (_:Unit) S_=>S_=⟨mkTm [],mkOb (someL []),2⟩) ?_ ?_
 ·intro v_ h hk6
  refine seqR ?_
  refine awp_block_ ?_
  refine awp_loopL h (fun (l8_m5:Nat) S_=>S_=⟨mkTm [(0,(.tree .int a0)),(1,(.tree .int a1)),(5,(ai ((l8_m5:Nat):Int)))],mkOb (someL []),2⟩) ⟨_,(weak_ren []),rfl⟩ ?_
  rintro n_ l8_m5 _ c_ rfl h hn8
  (try dsimp only at h)
  unfold L_laws_eqIntS_l1 at h
  unfold m_laws_eqIntS_l1
  refine awp_seqv_ ?_
  refine seqR ?_
  rcases cond_some h with ⟨q11,h⟩ | ⟨q11,h⟩
  ·have q11_:=of_decide_eq_true q11
   refine awp_condT_ q11 ?_
   refine awp_skip_ (tn_ ?_)
   refine wr_ ?_
   refine awp_seqv_ ?_
   refine awp_block_ ?_
   refine awp_seqv_ ?_
   obtain ⟨x14,e14,h⟩:=ob_some h
   obtain ⟨x15,e15,h⟩:=ob_some h
   refine awp_regionD_ 15 ?_
   refine dz0 (.tree .int a0) ?_
   refine dz0 (ai ((l8_m5:Nat):Int)) ?_
   refine ds0 (.telt .int x14 0) (zi (t:=.int) (xs:=a0) (k:=.i64) (m:=((l8_m5:Nat):Int)) (nat_nn _) e14) ?_
   refine dz0 (ai x14) ?_
   refine dz0 (.tree .int a1) ?_
   refine dz0 (ai ((l8_m5:Nat):Int)) ?_
   refine ds0 (.telt .int x15 0) (zi (t:=.int) (xs:=a1) (k:=.i64) (m:=((l8_m5:Nat):Int)) (nat_nn _) e15) ?_
   refine dz0 (ai x15) ?_
   refine dz0 (.bool (x14 !=x15)) ?_
   refine dnil (badB_spec (by kernel_rfl)) (tn_ ?_)
   refine wr_ ?_
   rcases cond_some h with ⟨q16,h⟩ | ⟨q16,h⟩
   ·refine awp_condT_ q16 ?_
    refine seqR ?_
    refine awp_ret_ (br_ (tr_ (tr_ (br_ (tr_ ?_)))))
    obtain rfl:=zj h
    have h:=hn8
    (try dsimp only at h)
    obtain rfl:=zj h
    have h:=hk6
    (try dsimp only at h)
    obtain rfl:=zj h
    exact ret_ [(.bool false)] (p_one rfl zl p_nil)
   refine awp_condF_ q16 ?_
   refine awp_skip_ (bn_ (tn_ ?_))
   refine wr_ ?_
   obtain ⟨g18,h⟩:=og_some h
   refine awp_region_ 18 ?_
   refine rz0 (ai ((l8_m5:Nat):Int)) ?_
   refine rs0 (ai ((l8_m5+1:Nat):Int)) (za g18) ?_
   refine rsB 1 ?_
   refine rnil (tn_ ?_)
   obtain rfl:=zj h
   exact ⟨l8_m5+1,_,(weak_ren []),rfl,hn8⟩
  have q11_:=of_decide_eq_false q11
  refine awp_condF_ q11 ?_
  refine awp_exit_ (te_ (te_ (be_ (tn_ ?_))))
  obtain rfl:=zj h
  have h:=hn8
  (try dsimp only at h)
  obtain rfl:=zj h
  exact ⟨(),_,rfl,(weak_ren []),rfl⟩
 rintro _ _ rfl h
 (try dsimp only at h)
 refine seqR ?_
 refine awp_ret_ ?_
 obtain rfl:=zj h
 exact ret_ [(.bool true)] (p_one rfl zl p_nil)
def m_laws_markIntS_l1:AC :=
 (.seq (.seq (rg [xo 6 (qm (tm 5)),xo 7 (qm (tm 0)),xo 8 (.i (.len (tm 7))),xo 9 (qb .lss (tm 6) (tm 8))])
 (.cond (tm 9)
  .skip
  (.exit 0)))
 (.seq (.block 1 (.seq (rg [xo 12 (qm (tm 0)),xo 13 (qm (tm 5)),xo 14 (qm (tm 1)),xo 15 (qx 1 (tm 12) (tm 13)),xn (qs (tm 15) (tm 14))])
 (rg [xo 16 (qm (tm 1)),xo 17 (qb .add (tm 16) (ci 1)),xo 1 (qm (tm 17))])))
 (rg [xo 10 (qm (tm 5)),xo 11 (qb .add (tm 10) (ci 1)),xo 5 (qm (tm 11))])))
def m_laws_markIntS:AC :=
 (.seq (rg [xo 4 (qm (ci 0))])
 (.seq (.seq (rg [xo 5 (qm (ci 0))])
 (.block 0 (.loop m_laws_markIntS_l1)))
 (.seq (rg [xo 18 (qm (tm 1)),xo 4 (qm (tm 18))])
 .ret)))
def r_laws_markIntS:List Res:=[.tmp 4]
theorem c_laws_markIntS:compiled Tryd.prog Tryd.f18=some (m_laws_markIntS,r_laws_markIntS):=by kernel_rfl
theorem hb_laws_markIntS:hasBody Tryd.prog 18=true:=by kernel_rfl
def L_laws_markIntS_l1  (l5_m1:Int) (l5_m5:Nat) (l5_m0:List Int):Option (Ctl (Int×Nat×List Int) (Int×List Int)) :=
 cond (decide (((l5_m5:Nat):Int)<((l5_m0.length:Nat):Int)))
 (Option.bind (l5_m0[l5_m5]?) fun x11 =>
 og (l5_m5+1<4611686018427387904) <|
 some (Ctl.next (IntKind.i64.wrap (l5_m1+1),l5_m5+1,l5_m0.set l5_m5 l5_m1)))
 (some (Ctl.out (l5_m1,l5_m0)))
def L_laws_markIntS (a0:List Int) (a1:Int):Option (List Int×Int) :=
 Option.bind (loopM (fun s_:Int×Nat×List Int=>L_laws_markIntS_l1 s_.1 s_.2.1 s_.2.2) 4611686018427387904 (a1,0,a0)) fun (l3_m1,l3_p0) =>
some (l3_p0,l3_m1)
theorem ok_laws_markIntS {a0:List Int} {a1:Int} {r:List Int×Int} (h:L_laws_markIntS a0 a1=some r) {n_a0:Nat} (hn_a0:n_a0=a0.length):CallM Tryd.prog Tab 18 [(.own (oi 0 0) .int 0 n_a0),(ai a1)] [((oi 0 0),.arr 3 .int a0)] (ai r.2) [((oi 0 0),.arr 3 .int r.1)]:=by
 refine callM_of_ (by kernel_rfl) Tryd.func18 c_laws_markIntS (n:=19) (by kernel_rfl) (by simp) (tl:=[(0,(.own (oi 0 0) .int 0 n_a0)),(1,(ai a1))]) rfl (by kernel_rfl) ⟨trivial,trivial⟩ ⟨trivial,trivial⟩ ?_
 unfold m_laws_markIntS
 unfold L_laws_markIntS at h
 refine seqR ?_
 refine awp_seqB h (fun t_ S_=>∃ (l3_m1:Int),∃ (l3_p0:List Int),t_=(l3_m1,l3_p0)∧S_=⟨mkTm [(1,(ai l3_m1))],mkOb (someL [((oi 0 0),.arr 3 .int l3_p0)]),2⟩) ?_ ?_
 ·intro v_ h
  refine seqR ?_
  refine awp_block_ ?_
  refine awp_loopL h (fun t_ S_=>∃ (l5_m1:Int),∃ (l5_m5:Nat),∃ (l5_m0:List Int),t_=(l5_m1,l5_m5,l5_m0)∧S_=⟨mkTm [(0,(.own (oi 0 0) .int 0 l5_m0.length)),(1,(ai l5_m1)),(5,(ai ((l5_m5:Nat):Int)))],mkOb (someL [((oi 0 0),.arr 3 .int l5_m0)]),2⟩) ⟨_,((weak_tm_ 0 (.own (oi 0 0) .int 0 n_a0) (.own (oi 0 0) .int 0 a0.length) (by kernel_rfl) (congrArg (fun z_=>((.own (oi 0 0) .int 0 z_):AV)) (hn_a0:n_a0=a0.length))).trans (weak_ren [])),⟨a1,0,a0,rfl,rfl⟩⟩ ?_
  rintro n_ _ _ c_ ⟨l5_m1,l5_m5,l5_m0,rfl,rfl⟩ h hn5
  (try dsimp only at h)
  unfold L_laws_markIntS_l1 at h
  unfold m_laws_markIntS_l1
  refine awp_seqv_ ?_
  refine seqR ?_
  rcases cond_some h with ⟨q8,h⟩ | ⟨q8,h⟩
  ·have q8_:=of_decide_eq_true q8
   refine awp_condT_ q8 ?_
   refine awp_skip_ (tn_ ?_)
   refine wr_ ?_
   refine awp_seqv_ ?_
   refine awp_block_ ?_
   refine awp_seqv_ ?_
   obtain ⟨x11,e11,h⟩:=ob_some h
   refine awp_region_ 11 ?_
   refine rz0 (.own (oi 0 0) .int 0 l5_m0.length) ?_
   refine rz0 (ai ((l5_m5:Nat):Int)) ?_
   refine rz0 (ai l5_m1) ?_
   refine rs0 (.elt (oi 0 0) l5_m5 0) (zo (t:=.int) (o:=(oi 0 0)) (len:=l5_m0.length) (k:=.i64) (m:=((l5_m5:Nat):Int)) (nat_nn _) (getN_lt e11)) ?_
   refine rsn2 (oi 0 0) (oi 0 0) (.arr 3 .int (l5_m0.set l5_m5 l5_m1)) (s_stE (i:=(oi 0 0)) (j:=l5_m5) (k:=0) (e:=3) (t:=.int) (xs:=l5_m0) (cs:=[(ai l5_m1)]) (x1:=l5_m1) (by kernel_rfl) (by kernel_rfl) e11 (by kernel_rfl) (by kernel_rfl)) ?_
   refine rnil (tn_ ?_)
   refine wr_ ?_
   refine awp_region_ 14 ?_
   refine rsB 3 ?_
   refine rnil (bn_ (tn_ ?_))
   refine wr_ ?_
   obtain ⟨g12,h⟩:=og_some h
   refine awp_region_ 17 ?_
   refine rz0 (ai ((l5_m5:Nat):Int)) ?_
   refine rs0 (ai ((l5_m5+1:Nat):Int)) (za g12) ?_
   refine rsB 1 ?_
   refine rnil (tn_ ?_)
   obtain rfl:=zj h
   exact ⟨(IntKind.i64.wrap (l5_m1+1),l5_m5+1,l5_m0.set l5_m5 l5_m1),_,((weak_tm_ 0 (.own (oi 0 0) .int 0 l5_m0.length) (.own (oi 0 0) .int 0 ((l5_m0.set l5_m5 l5_m1).length)) (by kernel_rfl) (congrArg (fun z_=>((.own (oi 0 0) .int 0 z_):AV)) (((rfl:l5_m0.length=l5_m0.length).trans List.length_set.symm):l5_m0.length=(l5_m0.set l5_m5 l5_m1).length))).trans (weak_ren [])),⟨IntKind.i64.wrap (l5_m1+1),l5_m5+1,l5_m0.set l5_m5 l5_m1,rfl,rfl⟩,hn5⟩
  have q8_:=of_decide_eq_false q8
  refine awp_condF_ q8 ?_
  refine awp_exit_ (te_ (te_ (be_ (tn_ ?_))))
  obtain rfl:=zj h
  have h:=hn5
  (try dsimp only at h)
  obtain rfl:=zj h
  exact ⟨_,(weak_ren []),⟨l5_m1,l5_m0,rfl,rfl⟩⟩
 rintro _ _ ⟨l3_m1,l3_p0,rfl,rfl⟩ h
 (try dsimp only at h)
 refine seqR ?_
 refine awp_ret_ ?_
 obtain rfl:=zj h
 exact retM_ [(ai l3_m1)] (weak_ren (tl:=[(4,(ai l3_m1))]) (g:=2) [])
def m_laws_heldIntS_l1:AC :=
 (.seq (.seq (rg [xo 6 (qm (tm 5)),xo 7 (qm (tm 0)),xo 8 (.i (.len (tm 7))),xo 9 (qb .lss (tm 6) (tm 8))])
 (.cond (tm 9)
  .skip
  (.exit 0)))
 (.seq (.block 1 (.seq (.seq (rg [xo 12 (qm (tm 0)),xo 13 (qm (tm 5)),xo 14 (qx 1 (tm 12) (tm 13)),xo 15 (ql (tm 14)),xo 16 (qm (tm 1)),xo 17 (qb .neq (tm 15) (tm 16))])
 (.cond (tm 17)
  (.seq (rg [xo 4 (qm (ci (-1)))])
  .ret)
  .skip))
 (rg [xo 18 (qm (tm 1)),xo 19 (qb .add (tm 18) (ci 1)),xo 1 (qm (tm 19))])))
 (rg [xo 10 (qm (tm 5)),xo 11 (qb .add (tm 10) (ci 1)),xo 5 (qm (tm 11))])))
def m_laws_heldIntS:AC :=
 (.seq (rg [xo 4 (qm (ci 0))])
 (.seq (.seq (rg [xo 5 (qm (ci 0))])
 (.block 0 (.loop m_laws_heldIntS_l1)))
 (.seq (rg [xo 20 (qm (tm 1)),xo 4 (qm (tm 20))])
 .ret)))
def r_laws_heldIntS:List Res:=[.tmp 4]
theorem c_laws_heldIntS:compiled Tryd.prog Tryd.f19=some (m_laws_heldIntS,r_laws_heldIntS):=by kernel_rfl
def L_laws_heldIntS_l1 (a0:List Int) (l4_m1:Int) (l4_m5:Nat):Option (Ctl (Int×Nat) (Ctl Int Int)) :=
 cond (decide (((l4_m5:Nat):Int)<((a0.length:Nat):Int)))
 (Option.bind (a0[l4_m5]?) fun x11 =>
 cond (x11 !=l4_m1)
  (some (Ctl.out (Ctl.out (-1))))
  (og (l4_m5+1<4611686018427387904) <|
  some (Ctl.next (IntKind.i64.wrap (l4_m1+1),l4_m5+1))))
 (some (Ctl.out (Ctl.next l4_m1)))
def L_laws_heldIntS (a0:List Int) (a1:Int):Option Int :=
 seqC (loopM (fun s_:Int×Nat=>L_laws_heldIntS_l1 a0 s_.1 s_.2) 4611686018427387904 (a1,0)) fun l2_m1 =>
some l2_m1
def rv_laws_heldIntS (r:Int):RV:=⟨false,[(false,[.sc (.int .i64 r)])]⟩
theorem ok_laws_heldIntS {a0:List Int} {a1:Int} {r:Int} (h:L_laws_heldIntS a0 a1=some r):CallOK Tryd.prog Tab 19 [(.tree .int a0),(ai a1)] (rv_laws_heldIntS r):=by
 refine call_of_ (by kernel_rfl) Tryd.func19 c_laws_heldIntS (n:=21) (by kernel_rfl) (by simp) (tl:=[(0,(.tree .int a0)),(1,(ai a1))]) rfl ?_
 unfold m_laws_heldIntS
 unfold L_laws_heldIntS at h
 refine seqR ?_
 refine awp_seqC h (fun (l2_m1:Int) S_=>S_=⟨mkTm [(1,(ai l2_m1))],mkOb (someL []),2⟩) ?_ ?_
 ·intro v_ h hk2
  refine seqR ?_
  refine awp_block_ ?_
  refine awp_loopL h (fun t_ S_=>∃ (l4_m1:Int),∃ (l4_m5:Nat),t_=(l4_m1,l4_m5)∧S_=⟨mkTm [(0,(.tree .int a0)),(1,(ai l4_m1)),(5,(ai ((l4_m5:Nat):Int)))],mkOb (someL []),2⟩) ⟨_,(weak_ren []),⟨a1,0,rfl,rfl⟩⟩ ?_
  rintro n_ _ _ c_ ⟨l4_m1,l4_m5,rfl,rfl⟩ h hn4
  (try dsimp only at h)
  unfold L_laws_heldIntS_l1 at h
  unfold m_laws_heldIntS_l1
  refine awp_seqv_ ?_
  refine seqR ?_
  rcases cond_some h with ⟨q7,h⟩ | ⟨q7,h⟩
  ·have q7_:=of_decide_eq_true q7
   refine awp_condT_ q7 ?_
   refine awp_skip_ (tn_ ?_)
   refine wr_ ?_
   refine awp_seqv_ ?_
   refine awp_block_ ?_
   refine awp_seqv_ ?_
   refine awp_seqv_ ?_
   obtain ⟨x11,e11,h⟩:=ob_some h
   refine awp_region_ 12 ?_
   refine rz0 (.tree .int a0) ?_
   refine rz0 (ai ((l4_m5:Nat):Int)) ?_
   refine rs0 (.telt .int x11 0) (zi (t:=.int) (xs:=a0) (k:=.i64) (m:=((l4_m5:Nat):Int)) (nat_nn _) e11) ?_
   refine rsB 3 ?_
   refine rnil (tn_ ?_)
   refine wr_ ?_
   rcases cond_some h with ⟨q12,h⟩ | ⟨q12,h⟩
   ·refine awp_condT_ q12 ?_
    refine seqR ?_
    refine awp_ret_ (tr_ (br_ (tr_ (tr_ (br_ (tr_ ?_))))))
    obtain rfl:=zj h
    have h:=hn4
    (try dsimp only at h)
    obtain rfl:=zj h
    have h:=hk2
    (try dsimp only at h)
    obtain rfl:=zj h
    exact ret_ [(ai (-1))] (p_one rfl zl p_nil)
   refine awp_condF_ q12 ?_
   refine awp_skip_ (tn_ ?_)
   refine wr_ ?_
   refine awp_region_ 15 ?_
   refine rsB 3 ?_
   refine rnil (bn_ (tn_ ?_))
   refine wr_ ?_
   obtain ⟨g14,h⟩:=og_some h
   refine awp_region_ 18 ?_
   refine rz0 (ai ((l4_m5:Nat):Int)) ?_
   refine rs0 (ai ((l4_m5+1:Nat):Int)) (za g14) ?_
   refine rsB 1 ?_
   refine rnil (tn_ ?_)
   obtain rfl:=zj h
   exact ⟨(IntKind.i64.wrap (l4_m1+1),l4_m5+1),_,(weak_ren []),⟨IntKind.i64.wrap (l4_m1+1),l4_m5+1,rfl,rfl⟩,hn4⟩
  have q7_:=of_decide_eq_false q7
  refine awp_condF_ q7 ?_
  refine awp_exit_ (te_ (te_ (be_ (tn_ ?_))))
  obtain rfl:=zj h
  have h:=hn4
  (try dsimp only at h)
  obtain rfl:=zj h
  exact ⟨l4_m1,_,rfl,(weak_ren []),rfl⟩
 rintro l2_m1 _ rfl h
 (try dsimp only at h)
 refine seqR ?_
 refine awp_ret_ ?_
 obtain rfl:=zj h
 exact ret_ [(ai l2_m1)] (p_one rfl zl p_nil)
def m_spec_l1In:AC :=
 (.seq (rg [xo 6 (qm (cb false))])
 (.seq (rg [xo 7 (qm (tm 0)),xo 8 (qm (tm 1)),xo 9 (qb .geq (tm 7) (tm 8)),xo 10 (qm (tm 9)),⟨(some 11),(some (10,true)),(qm (tm 0))⟩,⟨(some 12),(some (10,true)),(qm (tm 2))⟩,⟨(some 13),(some (10,true)),(qb .leq (tm 11) (tm 12))⟩,xo 14 (.i (.pick (tm 10) (tm 13) (cb false))),xo 6 (qm (tm 14))])
 .ret))
def r_spec_l1In:List Res:=[.tmp 6]
theorem c_spec_l1In:compiled Tryd.prog Tryd.f55=some (m_spec_l1In,r_spec_l1In):=by kernel_rfl
theorem hb_spec_l1In:hasBody Tryd.prog 55=true:=by kernel_rfl
def L_spec_l1In (a0:Int) (a1:Int) (a2:Int):Option Bool :=
 Option.bind (cond (decide (a1<=a0))
  (some (decide (a0<=a2)))
  (some false)) fun l2_m6 =>
some l2_m6
def rv_spec_l1In (r:Bool):RV:=⟨false,[(false,[.sc (.bool r)])]⟩
theorem ok_spec_l1In {a0:Int} {a1:Int} {a2:Int} {r:Bool} (h:L_spec_l1In a0 a1 a2=some r):CallOK Tryd.prog Tab 55 [(ai a0),(ai a1),(ai a2)] (rv_spec_l1In r):=by
 refine call_of_ (by kernel_rfl) Tryd.func55 c_spec_l1In (n:=15) (by kernel_rfl) (by simp) (tl:=[(0,(ai a0)),(1,(ai a1)),(2,(ai a2))]) rfl ?_
 unfold m_spec_l1In
 unfold L_spec_l1In at h
 refine seqR ?_
 refine awp_seqB h (fun (l2_m6:Bool) S_=>S_=⟨mkTm [(6,(.bool l2_m6))],mkOb (someL []),2⟩) ?_ ?_
 ·intro v_ h
  rcases cond_some h with ⟨q3,h⟩ | ⟨q3,h⟩
  ·have q3_:=of_decide_eq_true q3
   refine awp_region_ 11 ?_
   refine rz0 (ai a0) ?_
   refine rz0 (ai a1) ?_
   refine rz0 (.bool (decide (a1<=a0))) ?_
   refine rz0 (.bool (decide (a1<=a0))) ?_
   refine rs0 (ai a0) (zg q3) ?_
   refine rs0 (ai a2) (zg q3) ?_
   refine rs0 (.bool (decide (a0<=a2))) (zg q3) ?_
   refine rs0 (.bool (decide (a0<=a2))) (zT q3) ?_
   refine rsB 1 ?_
   refine rnil (tn_ ?_)
   obtain rfl:=zj h
   exact ⟨_,(weak_ren []),rfl⟩
  have q3_:=of_decide_eq_false q3
  refine awp_region_ 11 ?_
  refine rz0 (ai a0) ?_
  refine rz0 (ai a1) ?_
  refine rz0 (.bool (decide (a1<=a0))) ?_
  refine rz0 (.bool (decide (a1<=a0))) ?_
  refine zs q3 ?_
  refine zs q3 ?_
  refine zs q3 ?_
  refine rs0 (.bool false) (zF q3) ?_
  refine rsB 1 ?_
  refine rnil (tn_ ?_)
  obtain rfl:=zj h
  exact ⟨_,(weak_ren []),rfl⟩
 rintro l2_m6 _ rfl h
 (try dsimp only at h)
 refine awp_ret_ ?_
 obtain rfl:=zj h
 exact ret_ [(.bool l2_m6)] (p_one rfl zl p_nil)
def m_spec_fdGood_l1:AC :=
 (.seq (.seq (rg [xo 7 (qm (tm 3)),xo 8 (qm (tm 3)),xo 9 (qb .mul (tm 7) (tm 8)),xo 10 (qm (tm 0)),xo 11 (qb .leq (tm 9) (tm 10))])
 (.cond (tm 11)
  .skip
  (.exit 0)))
 (.seq (.block 1 (.seq (rg [xo 14 (qm (tm 0)),xo 15 (qm (tm 3)),xo 16 (qb .rem (tm 14) (tm 15)),xo 17 (qb .eql (tm 16) (ci 0))])
 (.cond (tm 17)
  (.seq (rg [xo 2 (qm (cb false))])
  .ret)
  .skip)))
 (rg [xo 12 (qm (tm 3)),xo 13 (qb .add (tm 12) (ci 1)),xo 3 (qm (tm 13))])))
def m_spec_fdGood:AC :=
 (.seq (rg [xo 2 (qm (cb false))])
 (.seq (.seq (rg [xo 4 (qm (tm 0)),xo 5 (qc 55 [(tm 4),(ci 2),(ci 97)] [[],[],[]]),xo 6 (.i (.not (tm 5)))])
 (.cond (tm 6)
  (.seq (rg [xo 2 (qm (cb false))])
  .ret)
  .skip))
 (.seq (.seq (rg [xo 3 (qm (ci 2))])
 (.block 0 (.loop m_spec_fdGood_l1)))
 (.seq (rg [xo 2 (qm (cb true))])
 .ret))))
def r_spec_fdGood:List Res:=[.tmp 2]
theorem c_spec_fdGood:compiled Tryd.prog Tryd.f54=some (m_spec_fdGood,r_spec_fdGood):=by kernel_rfl
def L_spec_fdGood_l1 (a0:Int) (l9_m3:Nat):Option (Ctl Nat (Ctl Unit Bool)) :=
 cond (decide (IntKind.i64.wrap (((l9_m3:Nat):Int)*((l9_m3:Nat):Int))<=a0))
 (og (((l9_m3:Nat):Int)≠0) <|
 cond ((Int.tmod a0 ((l9_m3:Nat):Int))==0)
  (some (Ctl.out (Ctl.out false)))
  (og (l9_m3+1<4611686018427387904) <|
  some (Ctl.next (l9_m3+1))))
 (some (Ctl.out (Ctl.next ())))
def L_spec_fdGood (a0:Int):Option Bool :=
 Option.bind (L_spec_l1In a0 2 97) fun y4 =>
cond (!y4)
 (some false)
 (seqC (loopM (fun s_:Nat=>L_spec_fdGood_l1 a0 s_) 4611686018427387904 2) fun _ =>
 some true)
def rv_spec_fdGood (r:Bool):RV:=⟨false,[(false,[.sc (.bool r)])]⟩
theorem ok_spec_fdGood {a0:Int} {r:Bool} (h:L_spec_fdGood a0=some r):CallOK Tryd.prog Tab 54 [(ai a0)] (rv_spec_fdGood r):=by
 refine call_of_ (by kernel_rfl) Tryd.func54 c_spec_fdGood (n:=18) (by kernel_rfl) (by simp) (tl:=[(0,(ai a0))]) rfl ?_
 unfold m_spec_fdGood
 unfold L_spec_fdGood at h
 refine seqR ?_
 refine awp_seqv_ ?_
 refine awp_seqv_ ?_
 obtain ⟨y4,h4,h⟩:=ob_some h
 refine awp_region_ 5 ?_
 refine rz0 (ai a0) ?_
 refine zc (.bool y4) [] [(ai a0),(ai 2),(ai 97)] (ok_spec_l1In h4) ?_
 refine rsB 1 ?_
 refine rnil (tn_ ?_)
 refine wr_ ?_
 rcases cond_some h with ⟨q5,h⟩ | ⟨q5,h⟩
 ·refine awp_condT_ q5 ?_
  refine seqR ?_
  refine awp_ret_ (tr_ ?_)
  obtain rfl:=zj h
  exact ret_ [(.bool false)] (p_one rfl zl p_nil)
 refine awp_condF_ q5 ?_
 refine awp_skip_ (tn_ ?_)
 refine wr_ ?_
 refine awp_seqC h (fun (_:Unit) S_=>S_=⟨mkTm [],mkOb (someL []),2⟩) ?_ ?_
 ·intro v_ h hk7
  refine seqR ?_
  refine awp_block_ ?_
  refine awp_loopL h (fun (l9_m3:Nat) S_=>S_=⟨mkTm [(0,(ai a0)),(3,(ai ((l9_m3:Nat):Int)))],mkOb (someL []),2⟩) ⟨_,(weak_ren []),rfl⟩ ?_
  rintro n_ l9_m3 _ c_ rfl h hn9
  (try dsimp only at h)
  unfold L_spec_fdGood_l1 at h
  unfold m_spec_fdGood_l1
  refine awp_seqv_ ?_
  refine seqR ?_
  rcases cond_some h with ⟨q12,h⟩ | ⟨q12,h⟩
  ·have q12_:=of_decide_eq_true q12
   refine awp_condT_ q12 ?_
   refine awp_skip_ (tn_ ?_)
   refine wr_ ?_
   refine awp_seqv_ ?_
   refine awp_block_ ?_
   refine awp_seqv_ ?_
   obtain ⟨g15,h⟩:=og_some h
   refine awp_region_ 11 ?_
   refine rz0 (ai a0) ?_
   refine rz0 (ai ((l9_m3:Nat):Int)) ?_
   refine rs0 (ai (Int.tmod a0 ((l9_m3:Nat):Int))) (s_rem (k:=.i64) (a:=a0) (b:=((l9_m3:Nat):Int)) (by kernel_rfl) (by kernel_rfl) g15) ?_
   refine rsB 1 ?_
   refine rnil (tn_ ?_)
   refine wr_ ?_
   rcases cond_some h with ⟨q16,h⟩ | ⟨q16,h⟩
   ·refine awp_condT_ q16 ?_
    refine seqR ?_
    refine awp_ret_ (br_ (tr_ (tr_ (br_ (tr_ ?_)))))
    obtain rfl:=zj h
    have h:=hn9
    (try dsimp only at h)
    obtain rfl:=zj h
    have h:=hk7
    (try dsimp only at h)
    obtain rfl:=zj h
    exact ret_ [(.bool false)] (p_one rfl zl p_nil)
   refine awp_condF_ q16 ?_
   refine awp_skip_ (bn_ (tn_ ?_))
   refine wr_ ?_
   obtain ⟨g18,h⟩:=og_some h
   refine awp_region_ 14 ?_
   refine rz0 (ai ((l9_m3:Nat):Int)) ?_
   refine rs0 (ai ((l9_m3+1:Nat):Int)) (za g18) ?_
   refine rsB 1 ?_
   refine rnil (tn_ ?_)
   obtain rfl:=zj h
   exact ⟨l9_m3+1,_,(weak_ren []),rfl,hn9⟩
  have q12_:=of_decide_eq_false q12
  refine awp_condF_ q12 ?_
  refine awp_exit_ (te_ (te_ (be_ (tn_ ?_))))
  obtain rfl:=zj h
  have h:=hn9
  (try dsimp only at h)
  obtain rfl:=zj h
  exact ⟨(),_,rfl,(weak_ren []),rfl⟩
 rintro _ _ rfl h
 (try dsimp only at h)
 refine seqR ?_
 refine awp_ret_ ?_
 obtain rfl:=zj h
 exact ret_ [(.bool true)] (p_one rfl zl p_nil)
def m_spec_l1All_l1:AC :=
 (.seq (rg [xo 12 (qb .lss (tm 11) (tm 10))])
 (.seq (.cond (tm 12)
  .skip
  (.exit 0))
 (.seq (.block 1 (.seq (rg [xo 13 (qx 1 (tm 9) (tm 11)),xo 14 (ql (tm 13)),xo 8 (qm (tm 14))])
 (.seq (rg [xo 15 (qm (tm 8)),xo 16 (qm (tm 1)),xo 17 (qm (tm 2)),xo 18 (qc 55 [(tm 15),(tm 16),(tm 17)] [[],[],[]]),xo 19 (.i (.not (tm 18)))])
 (.cond (tm 19)
  (.seq (rg [xo 6 (qm (cb false))])
  .ret)
  .skip))))
 (rg [xo 20 (qb .add (tm 11) (ci 1)),xo 11 (qm (tm 20))]))))
def m_spec_l1All:AC :=
 (.seq (rg [xo 6 (qm (cb false))])
 (.seq (.seq (rg [xo 9 (qm (tm 0)),xo 10 (.i (.len (tm 9))),xo 11 (qm (ci 0))])
 (.block 0 (.loop m_spec_l1All_l1)))
 (.seq (rg [xo 6 (qm (cb true))])
 .ret)))
def r_spec_l1All:List Res:=[.tmp 6]
theorem c_spec_l1All:compiled Tryd.prog Tryd.f56=some (m_spec_l1All,r_spec_l1All):=by kernel_rfl
theorem hb_spec_l1All:hasBody Tryd.prog 56=true:=by kernel_rfl
def L_spec_l1All_l1 (a0:List Int) (a1:Int) (a2:Int) (l4_m11:Nat):Option (Ctl Nat (Ctl Unit Bool)) :=
 cond (decide (((l4_m11:Nat):Int)<((a0.length:Nat):Int)))
 (Option.bind (a0[l4_m11]?) fun x10 =>
 Option.bind (L_spec_l1In x10 a1 a2) fun y12 =>
 cond (!y12)
  (some (Ctl.out (Ctl.out false)))
  (og (l4_m11+1<4611686018427387904) <|
  some (Ctl.next (l4_m11+1))))
 (some (Ctl.out (Ctl.next ())))
def L_spec_l1All (a0:List Int) (a1:Int) (a2:Int):Option Bool :=
 seqC (loopM (fun s_:Nat=>L_spec_l1All_l1 a0 a1 a2 s_) 4611686018427387904 0) fun _ =>
some true
def rv_spec_l1All (r:Bool):RV:=⟨false,[(false,[.sc (.bool r)])]⟩
theorem ok_spec_l1All {a0:List Int} {a1:Int} {a2:Int} {r:Bool} (h:L_spec_l1All a0 a1 a2=some r):CallOK Tryd.prog Tab 56 [(.tree .int a0),(ai a1),(ai a2)] (rv_spec_l1All r):=by
 refine call_of_ (by kernel_rfl) Tryd.func56 c_spec_l1All (n:=21) (by kernel_rfl) (by simp) (tl:=[(0,(.tree .int a0)),(1,(ai a1)),(2,(ai a2))]) rfl ?_
 unfold m_spec_l1All
 unfold L_spec_l1All at h
 refine seqR ?_
 refine awp_seqC h (fun (_:Unit) S_=>S_=⟨mkTm [],mkOb (someL []),2⟩) ?_ ?_
 ·intro v_ h hk2
  refine seqR ?_
  refine awp_block_ ?_
  refine awp_loopL h (fun (l4_m11:Nat) S_=>S_=⟨mkTm [(1,(ai a1)),(2,(ai a2)),(9,(.tree .int a0)),(10,(ai ((a0.length:Nat):Int))),(11,(ai ((l4_m11:Nat):Int)))],mkOb (someL []),2⟩) ⟨_,(weak_ren []),rfl⟩ ?_
  rintro n_ l4_m11 _ c_ rfl h hn4
  (try dsimp only at h)
  unfold L_spec_l1All_l1 at h
  unfold m_spec_l1All_l1
  refine seqR ?_
  refine awp_seqv_ ?_
  rcases cond_some h with ⟨q7,h⟩ | ⟨q7,h⟩
  ·have q7_:=of_decide_eq_true q7
   refine awp_condT_ q7 ?_
   refine awp_skip_ (tn_ ?_)
   refine wr_ ?_
   refine awp_seqv_ ?_
   refine awp_block_ ?_
   refine awp_seqv_ ?_
   obtain ⟨x10,e10,h⟩:=ob_some h
   refine awp_region_ 6 ?_
   refine rs0 (.telt .int x10 0) (zi (t:=.int) (xs:=a0) (k:=.i64) (m:=((l4_m11:Nat):Int)) (nat_nn _) e10) ?_
   refine rsB 2 ?_
   refine rnil (tn_ ?_)
   refine wr_ ?_
   refine awp_seqv_ ?_
   obtain ⟨y12,h12,h⟩:=ob_some h
   refine awp_region_ 11 ?_
   refine rz0 (ai x10) ?_
   refine rz0 (ai a1) ?_
   refine rz0 (ai a2) ?_
   refine zc (.bool y12) [] [(ai x10),(ai a1),(ai a2)] (ok_spec_l1In h12) ?_
   refine rsB 1 ?_
   refine rnil (tn_ ?_)
   refine wr_ ?_
   rcases cond_some h with ⟨q13,h⟩ | ⟨q13,h⟩
   ·refine awp_condT_ q13 ?_
    refine seqR ?_
    refine awp_ret_ (br_ (tr_ (tr_ (br_ (tr_ ?_)))))
    obtain rfl:=zj h
    have h:=hn4
    (try dsimp only at h)
    obtain rfl:=zj h
    have h:=hk2
    (try dsimp only at h)
    obtain rfl:=zj h
    exact ret_ [(.bool false)] (p_one rfl zl p_nil)
   refine awp_condF_ q13 ?_
   refine awp_skip_ (bn_ (tn_ ?_))
   refine wr_ ?_
   obtain ⟨g15,h⟩:=og_some h
   refine awp_region_ 13 ?_
   refine rs0 (ai ((l4_m11+1:Nat):Int)) (za g15) ?_
   refine rsB 1 ?_
   refine rnil (tn_ ?_)
   obtain rfl:=zj h
   exact ⟨l4_m11+1,_,(weak_ren []),rfl,hn4⟩
  have q7_:=of_decide_eq_false q7
  refine awp_condF_ q7 ?_
  refine awp_exit_ (te_ (te_ (be_ (tn_ ?_))))
  obtain rfl:=zj h
  have h:=hn4
  (try dsimp only at h)
  obtain rfl:=zj h
  exact ⟨(),_,rfl,(weak_ren []),rfl⟩
 rintro _ _ rfl h
 (try dsimp only at h)
 refine seqR ?_
 refine awp_ret_ ?_
 obtain rfl:=zj h
 exact ret_ [(.bool true)] (p_one rfl zl p_nil)
def m_spec_l1Own:AC :=
 (.seq (rg [xo 2 (qm (.cst .nils))])
 (.seq (rg [xo 3 (.mkS 3 .int []),xo 4 (qm (tm 0)),xo 5 (.append 3 .int 8 (tm 3) (tm 4)),xo 2 (qm (tm 5))])
 .ret))
def r_spec_l1Own:List Res:=[.tmp 2]
theorem c_spec_l1Own:compiled Tryd.prog Tryd.f41=some (m_spec_l1Own,r_spec_l1Own):=by kernel_rfl
theorem hb_spec_l1Own:hasBody Tryd.prog 41=true:=by kernel_rfl
def L_spec_l1Own (a0:List Int):Option (List Int) :=
 og (0+a0.length<=1073741824∧(0+a0.length)*8<=140737488355328) <|
some a0
def rv_spec_l1Own (r:List Int):RV:=⟨false,[(false,[.new 3 .int r])]⟩
theorem ok_spec_l1Own {a0:List Int} {r:List Int} (h:L_spec_l1Own a0=some r):CallOK Tryd.prog Tab 41 [(.tree .int a0)] (rv_spec_l1Own r):=by
 refine call_of_ (by kernel_rfl) Tryd.func41 c_spec_l1Own (n:=6) (by kernel_rfl) (by simp) (tl:=[(0,(.tree .int a0))]) rfl ?_
 unfold m_spec_l1Own
 unfold L_spec_l1Own at h
 refine seqR ?_
 refine awp_seqv_ ?_
 obtain ⟨g3,h⟩:=og_some h
 refine awp_region_ 6 ?_
 refine rs1 (.own (oi 3 2) .int 0 0) (oi 3 2) (.arr 3 .int []) (by kernel_rfl) ?_
 refine rz0 (.tree .int a0) ?_
 refine rs2 (.own (oi 3 4) .int 0 a0.length) (oi 3 2) (oi 3 4) (.arr 3 .int a0) (s_appO (t:=.int) (t':=.int) (xs:=[]) (ys:=a0) (zs:=a0) (j:=(oi 3 2)) (len:=0) (c:=(.tree .int a0)) (by kernel_rfl) (by kernel_rfl) rfl (by kernel_rfl) sr_tree rfl g3) ?_
 refine rsB 1 ?_
 refine rnil (tn_ ?_)
 refine wr_ ?_
 refine awp_ret_ ?_
 obtain rfl:=zj h
 exact ret_ [(.own (oi 3 4) .int 0 a0.length)] (p_one rfl (l_own (by kernel_rfl) rfl) p_nil)
def m_spec_fdAdd:AC :=
 (.seq (rg [xo 6 (qm (ci 0))])
 (.seq (rg [xo 7 (qm (tm 1)),xo 8 (qm (tm 2)),xo 9 (qb .add (tm 7) (tm 8)),xo 10 (qm (tm 0)),xo 11 (qb .rem (tm 9) (tm 10)),xo 6 (qm (tm 11))])
 .ret))
def r_spec_fdAdd:List Res:=[.tmp 6]
theorem c_spec_fdAdd:compiled Tryd.prog Tryd.f88=some (m_spec_fdAdd,r_spec_fdAdd):=by kernel_rfl
theorem hb_spec_fdAdd:hasBody Tryd.prog 88=true:=by kernel_rfl
def L_spec_fdAdd (a0:Int) (a1:Int) (a2:Int):Option Int :=
 og (a0≠0) <|
some (Int.tmod (IntKind.i64.wrap (a1+a2)) a0)
def rv_spec_fdAdd (r:Int):RV:=⟨false,[(false,[.sc (.int .i64 r)])]⟩
theorem ok_spec_fdAdd {a0:Int} {a1:Int} {a2:Int} {r:Int} (h:L_spec_fdAdd a0 a1 a2=some r):CallOK Tryd.prog Tab 88 [(ai a0),(ai a1),(ai a2)] (rv_spec_fdAdd r):=by
 refine call_of_ (by kernel_rfl) Tryd.func88 c_spec_fdAdd (n:=12) (by kernel_rfl) (by simp) (tl:=[(0,(ai a0)),(1,(ai a1)),(2,(ai a2))]) rfl ?_
 unfold m_spec_fdAdd
 unfold L_spec_fdAdd at h
 refine seqR ?_
 refine awp_seqv_ ?_
 obtain ⟨g3,h⟩:=og_some h
 refine awp_region_ 8 ?_
 refine rz0 (ai a1) ?_
 refine rz0 (ai a2) ?_
 refine rz0 (ai (IntKind.i64.wrap (a1+a2))) ?_
 refine rz0 (ai a0) ?_
 refine rs0 (ai (Int.tmod (IntKind.i64.wrap (a1+a2)) a0)) (s_rem (k:=.i64) (a:=IntKind.i64.wrap (a1+a2)) (b:=a0) (by kernel_rfl) (by kernel_rfl) g3) ?_
 refine rsB 1 ?_
 refine rnil (tn_ ?_)
 refine wr_ ?_
 refine awp_ret_ ?_
 obtain rfl:=zj h
 exact ret_ [(ai (Int.tmod (IntKind.i64.wrap (a1+a2)) a0))] (p_one rfl zl p_nil)
def m_spec_fdMul:AC :=
 (.seq (rg [xo 6 (qm (ci 0))])
 (.seq (rg [xo 7 (qm (tm 1)),xo 8 (qm (tm 2)),xo 9 (qb .mul (tm 7) (tm 8)),xo 10 (qm (tm 0)),xo 11 (qb .rem (tm 9) (tm 10)),xo 6 (qm (tm 11))])
 .ret))
def r_spec_fdMul:List Res:=[.tmp 6]
theorem c_spec_fdMul:compiled Tryd.prog Tryd.f79=some (m_spec_fdMul,r_spec_fdMul):=by kernel_rfl
theorem hb_spec_fdMul:hasBody Tryd.prog 79=true:=by kernel_rfl
def L_spec_fdMul (a0:Int) (a1:Int) (a2:Int):Option Int :=
 og (a0≠0) <|
some (Int.tmod (IntKind.i64.wrap (a1*a2)) a0)
def rv_spec_fdMul (r:Int):RV:=⟨false,[(false,[.sc (.int .i64 r)])]⟩
theorem ok_spec_fdMul {a0:Int} {a1:Int} {a2:Int} {r:Int} (h:L_spec_fdMul a0 a1 a2=some r):CallOK Tryd.prog Tab 79 [(ai a0),(ai a1),(ai a2)] (rv_spec_fdMul r):=by
 refine call_of_ (by kernel_rfl) Tryd.func79 c_spec_fdMul (n:=12) (by kernel_rfl) (by simp) (tl:=[(0,(ai a0)),(1,(ai a1)),(2,(ai a2))]) rfl ?_
 unfold m_spec_fdMul
 unfold L_spec_fdMul at h
 refine seqR ?_
 refine awp_seqv_ ?_
 obtain ⟨g3,h⟩:=og_some h
 refine awp_region_ 8 ?_
 refine rz0 (ai a1) ?_
 refine rz0 (ai a2) ?_
 refine rz0 (ai (IntKind.i64.wrap (a1*a2))) ?_
 refine rz0 (ai a0) ?_
 refine rs0 (ai (Int.tmod (IntKind.i64.wrap (a1*a2)) a0)) (s_rem (k:=.i64) (a:=IntKind.i64.wrap (a1*a2)) (b:=a0) (by kernel_rfl) (by kernel_rfl) g3) ?_
 refine rsB 1 ?_
 refine rnil (tn_ ?_)
 refine wr_ ?_
 refine awp_ret_ ?_
 obtain rfl:=zj h
 exact ret_ [(ai (Int.tmod (IntKind.i64.wrap (a1*a2)) a0))] (p_one rfl zl p_nil)
def m_impl_within:AC :=
 (.seq (rg [xo 6 (qm (cb false))])
 (.seq (rg [xo 7 (qm (tm 0)),xo 8 (qm (tm 1)),xo 9 (qb .geq (tm 7) (tm 8)),xo 10 (qm (tm 9)),⟨(some 11),(some (10,true)),(qm (tm 0))⟩,⟨(some 12),(some (10,true)),(qm (tm 2))⟩,⟨(some 13),(some (10,true)),(qb .leq (tm 11) (tm 12))⟩,xo 14 (.i (.pick (tm 10) (tm 13) (cb false))),xo 6 (qm (tm 14))])
 .ret))
def r_impl_within:List Res:=[.tmp 6]
theorem c_impl_within:compiled Tryd.prog Tryd.f60=some (m_impl_within,r_impl_within):=by kernel_rfl
theorem hb_impl_within:hasBody Tryd.prog 60=true:=by kernel_rfl
def L_impl_within (a0:Int) (a1:Int) (a2:Int):Option Bool :=
 Option.bind (cond (decide (a1<=a0))
  (some (decide (a0<=a2)))
  (some false)) fun l2_m6 =>
some l2_m6
def rv_impl_within (r:Bool):RV:=⟨false,[(false,[.sc (.bool r)])]⟩
theorem ok_impl_within {a0:Int} {a1:Int} {a2:Int} {r:Bool} (h:L_impl_within a0 a1 a2=some r):CallOK Tryd.prog Tab 60 [(ai a0),(ai a1),(ai a2)] (rv_impl_within r):=by
 refine call_of_ (by kernel_rfl) Tryd.func60 c_impl_within (n:=15) (by kernel_rfl) (by simp) (tl:=[(0,(ai a0)),(1,(ai a1)),(2,(ai a2))]) rfl ?_
 unfold m_impl_within
 unfold L_impl_within at h
 refine seqR ?_
 refine awp_seqB h (fun (l2_m6:Bool) S_=>S_=⟨mkTm [(6,(.bool l2_m6))],mkOb (someL []),2⟩) ?_ ?_
 ·intro v_ h
  rcases cond_some h with ⟨q3,h⟩ | ⟨q3,h⟩
  ·have q3_:=of_decide_eq_true q3
   refine awp_region_ 11 ?_
   refine rz0 (ai a0) ?_
   refine rz0 (ai a1) ?_
   refine rz0 (.bool (decide (a1<=a0))) ?_
   refine rz0 (.bool (decide (a1<=a0))) ?_
   refine rs0 (ai a0) (zg q3) ?_
   refine rs0 (ai a2) (zg q3) ?_
   refine rs0 (.bool (decide (a0<=a2))) (zg q3) ?_
   refine rs0 (.bool (decide (a0<=a2))) (zT q3) ?_
   refine rsB 1 ?_
   refine rnil (tn_ ?_)
   obtain rfl:=zj h
   exact ⟨_,(weak_ren []),rfl⟩
  have q3_:=of_decide_eq_false q3
  refine awp_region_ 11 ?_
  refine rz0 (ai a0) ?_
  refine rz0 (ai a1) ?_
  refine rz0 (.bool (decide (a1<=a0))) ?_
  refine rz0 (.bool (decide (a1<=a0))) ?_
  refine zs q3 ?_
  refine zs q3 ?_
  refine zs q3 ?_
  refine rs0 (.bool false) (zF q3) ?_
  refine rsB 1 ?_
  refine rnil (tn_ ?_)
  obtain rfl:=zj h
  exact ⟨_,(weak_ren []),rfl⟩
 rintro l2_m6 _ rfl h
 (try dsimp only at h)
 refine awp_ret_ ?_
 obtain rfl:=zj h
 exact ret_ [(.bool l2_m6)] (p_one rfl zl p_nil)
def m_impl_areBelow_l1:AC :=
 (.seq (rg [xo 10 (qb .lss (tm 9) (tm 8))])
 (.seq (.cond (tm 10)
  .skip
  (.exit 0))
 (.seq (.block 1 (.seq (rg [xo 11 (qx 1 (tm 7) (tm 9)),xo 12 (ql (tm 11)),xo 6 (qm (tm 12))])
 (.seq (rg [xo 13 (qm (tm 6)),xo 14 (qm (tm 1)),xo 15 (qb .sub (tm 14) (ci 1)),xo 16 (qc 60 [(tm 13),(ci 0),(tm 15)] [[],[],[]]),xo 17 (.i (.not (tm 16)))])
 (.cond (tm 17)
  (.seq (rg [xo 4 (qm (cb false))])
  .ret)
  .skip))))
 (rg [xo 18 (qb .add (tm 9) (ci 1)),xo 9 (qm (tm 18))]))))
def m_impl_areBelow:AC :=
 (.seq (rg [xo 4 (qm (cb false))])
 (.seq (.seq (rg [xo 7 (qm (tm 0)),xo 8 (.i (.len (tm 7))),xo 9 (qm (ci 0))])
 (.block 0 (.loop m_impl_areBelow_l1)))
 (.seq (rg [xo 4 (qm (cb true))])
 .ret)))
def r_impl_areBelow:List Res:=[.tmp 4]
theorem c_impl_areBelow:compiled Tryd.prog Tryd.f61=some (m_impl_areBelow,r_impl_areBelow):=by kernel_rfl
theorem hb_impl_areBelow:hasBody Tryd.prog 61=true:=by kernel_rfl
def L_impl_areBelow_l1 (a0:List Int) (a1:Int) (l4_m9:Nat):Option (Ctl Nat (Ctl Unit Bool)) :=
 cond (decide (((l4_m9:Nat):Int)<((a0.length:Nat):Int)))
 (Option.bind (a0[l4_m9]?) fun x10 =>
 Option.bind (L_impl_within x10 0 (IntKind.i64.wrap (a1 - 1))) fun y12 =>
 cond (!y12)
  (some (Ctl.out (Ctl.out false)))
  (og (l4_m9+1<4611686018427387904) <|
  some (Ctl.next (l4_m9+1))))
 (some (Ctl.out (Ctl.next ())))
def L_impl_areBelow (a0:List Int) (a1:Int):Option Bool :=
 seqC (loopM (fun s_:Nat=>L_impl_areBelow_l1 a0 a1 s_) 4611686018427387904 0) fun _ =>
some true
def rv_impl_areBelow (r:Bool):RV:=⟨false,[(false,[.sc (.bool r)])]⟩
theorem ok_impl_areBelow {a0:List Int} {a1:Int} {r:Bool} (h:L_impl_areBelow a0 a1=some r):CallOK Tryd.prog Tab 61 [(.tree .int a0),(ai a1)] (rv_impl_areBelow r):=by
 refine call_of_ (by kernel_rfl) Tryd.func61 c_impl_areBelow (n:=19) (by kernel_rfl) (by simp) (tl:=[(0,(.tree .int a0)),(1,(ai a1))]) rfl ?_
 unfold m_impl_areBelow
 unfold L_impl_areBelow at h
 refine seqR ?_
 refine awp_seqC h (fun (_:Unit) S_=>S_=⟨mkTm [],mkOb (someL []),2⟩) ?_ ?_
 ·intro v_ h hk2
  refine seqR ?_
  refine awp_block_ ?_
  refine awp_loopL h (fun (l4_m9:Nat) S_=>S_=⟨mkTm [(1,(ai a1)),(7,(.tree .int a0)),(8,(ai ((a0.length:Nat):Int))),(9,(ai ((l4_m9:Nat):Int)))],mkOb (someL []),2⟩) ⟨_,(weak_ren []),rfl⟩ ?_
  rintro n_ l4_m9 _ c_ rfl h hn4
  (try dsimp only at h)
  unfold L_impl_areBelow_l1 at h
  unfold m_impl_areBelow_l1
  refine seqR ?_
  refine awp_seqv_ ?_
  rcases cond_some h with ⟨q7,h⟩ | ⟨q7,h⟩
  ·have q7_:=of_decide_eq_true q7
   refine awp_condT_ q7 ?_
   refine awp_skip_ (tn_ ?_)
   refine wr_ ?_
   refine awp_seqv_ ?_
   refine awp_block_ ?_
   refine awp_seqv_ ?_
   obtain ⟨x10,e10,h⟩:=ob_some h
   refine awp_region_ 6 ?_
   refine rs0 (.telt .int x10 0) (zi (t:=.int) (xs:=a0) (k:=.i64) (m:=((l4_m9:Nat):Int)) (nat_nn _) e10) ?_
   refine rsB 2 ?_
   refine rnil (tn_ ?_)
   refine wr_ ?_
   refine awp_seqv_ ?_
   obtain ⟨y12,h12,h⟩:=ob_some h
   refine awp_region_ 11 ?_
   refine rz0 (ai x10) ?_
   refine rz0 (ai a1) ?_
   refine rz0 (ai (IntKind.i64.wrap (a1 - 1))) ?_
   refine zc (.bool y12) [] [(ai x10),(ai 0),(ai (IntKind.i64.wrap (a1 - 1)))] (ok_impl_within h12) ?_
   refine rsB 1 ?_
   refine rnil (tn_ ?_)
   refine wr_ ?_
   rcases cond_some h with ⟨q13,h⟩ | ⟨q13,h⟩
   ·refine awp_condT_ q13 ?_
    refine seqR ?_
    refine awp_ret_ (br_ (tr_ (tr_ (br_ (tr_ ?_)))))
    obtain rfl:=zj h
    have h:=hn4
    (try dsimp only at h)
    obtain rfl:=zj h
    have h:=hk2
    (try dsimp only at h)
    obtain rfl:=zj h
    exact ret_ [(.bool false)] (p_one rfl zl p_nil)
   refine awp_condF_ q13 ?_
   refine awp_skip_ (bn_ (tn_ ?_))
   refine wr_ ?_
   obtain ⟨g15,h⟩:=og_some h
   refine awp_region_ 13 ?_
   refine rs0 (ai ((l4_m9+1:Nat):Int)) (za g15) ?_
   refine rsB 1 ?_
   refine rnil (tn_ ?_)
   obtain rfl:=zj h
   exact ⟨l4_m9+1,_,(weak_ren []),rfl,hn4⟩
  have q7_:=of_decide_eq_false q7
  refine awp_condF_ q7 ?_
  refine awp_exit_ (te_ (te_ (be_ (tn_ ?_))))
  obtain rfl:=zj h
  have h:=hn4
  (try dsimp only at h)
  obtain rfl:=zj h
  exact ⟨(),_,rfl,(weak_ren []),rfl⟩
 rintro _ _ rfl h
 (try dsimp only at h)
 refine seqR ?_
 refine awp_ret_ ?_
 obtain rfl:=zj h
 exact ret_ [(.bool true)] (p_one rfl zl p_nil)
def m_impl_zeros:AC :=
 (.seq (rg [xo 2 (qm (.cst .nils))])
 (.seq (rg [xo 3 (qm (tm 0)),xo 4 (.make 3 .int 8 (tm 3) (tm 3)),xo 2 (qm (tm 4))])
 .ret))
def r_impl_zeros:List Res:=[.tmp 2]
theorem c_impl_zeros:compiled Tryd.prog Tryd.f69=some (m_impl_zeros,r_impl_zeros):=by kernel_rfl
def L_impl_zeros (a0:Int):Option (List Int) :=
 og (0<=a0∧a0<=a0∧a0<=1073741824∧(8:Int)*a0<=140737488355328) <|
some (List.replicate a0.toNat (0:Int))
def rv_impl_zeros (r:List Int):RV:=⟨false,[(false,[.new 3 .int r])]⟩
theorem ok_impl_zeros {a0:Int} {r:List Int} (h:L_impl_zeros a0=some r):CallOK Tryd.prog Tab 69 [(ai a0)] (rv_impl_zeros r):=by
 refine call_of_ (by kernel_rfl) Tryd.func69 c_impl_zeros (n:=5) (by kernel_rfl) (by simp) (tl:=[(0,(ai a0))]) rfl ?_
 unfold m_impl_zeros
 unfold L_impl_zeros at h
 refine seqR ?_
 refine awp_seqv_ ?_
 obtain ⟨g3,h⟩:=og_some h
 refine awp_region_ 5 ?_
 refine rz0 (ai a0) ?_
 refine rs1 (.own (oi 4 3) .int 0 a0.toNat) (oi 4 3) (.arr 3 .int (List.replicate a0.toNat (0:Int))) (s_make (t:=.int) (k:=.i64) (k':=.i64) (m:=a0) (m':=a0) (by kernel_rfl) (by kernel_rfl) g3 rfl) ?_
 refine rsB 1 ?_
 refine rnil (tn_ ?_)
 refine wr_ ?_
 refine awp_ret_ ?_
 obtain rfl:=zj h
 exact ret_ [(.own (oi 4 3) .int 0 a0.toNat)] (p_one rfl (l_own (by kernel_rfl) List.length_replicate.symm) p_nil)
def m_impl_mod:AC :=
 (.seq (rg [xo 4 (qm (ci 0))])
 (.seq (rg [xo 5 (qm (tm 1)),xo 6 (qm (tm 0)),xo 7 (qb .rem (tm 5) (tm 6)),xo 1 (qm (tm 7))])
 (.seq (.seq (rg [xo 8 (qm (tm 1)),xo 9 (qb .lss (tm 8) (ci 0))])
 (.cond (tm 9)
  (rg [xo 10 (qm (tm 1)),xo 11 (qm (tm 0)),xo 12 (qb .add (tm 10) (tm 11)),xo 1 (qm (tm 12))])
  .skip))
 (.seq (rg [xo 13 (qm (tm 1)),xo 4 (qm (tm 13))])
 .ret))))
def r_impl_mod:List Res:=[.tmp 4]
theorem c_impl_mod:compiled Tryd.prog Tryd.f50=some (m_impl_mod,r_impl_mod):=by kernel_rfl
theorem hb_impl_mod:hasBody Tryd.prog 50=true:=by kernel_rfl
def L_impl_mod (a0:Int) (a1:Int):Option Int :=
 og (a0≠0) <|
Option.bind (cond (decide (Int.tmod a1 a0<0))
  (some (IntKind.i64.wrap (Int.tmod a1 a0+a0)))
  (some (Int.tmod a1 a0))) fun l4_m1 =>
some l4_m1
def rv_impl_mod (r:Int):RV:=⟨false,[(false,[.sc (.int .i64 r)])]⟩
theorem ok_impl_mod {a0:Int} {a1:Int} {r:Int} (h:L_impl_mod a0 a1=some r):CallOK Tryd.prog Tab 50 [(ai a0),(ai a1)] (rv_impl_mod r):=by
 refine call_of_ (by kernel_rfl) Tryd.func50 c_impl_mod (n:=14) (by kernel_rfl) (by simp) (tl:=[(0,(ai a0)),(1,(ai a1))]) rfl ?_
 unfold m_impl_mod
 unfold L_impl_mod at h
 refine seqR ?_
 refine awp_seqv_ ?_
 obtain ⟨g3,h⟩:=og_some h
 refine awp_region_ 6 ?_
 refine rz0 (ai a1) ?_
 refine rz0 (ai a0) ?_
 refine rs0 (ai (Int.tmod a1 a0)) (s_rem (k:=.i64) (a:=a1) (b:=a0) (by kernel_rfl) (by kernel_rfl) g3) ?_
 refine rsB 1 ?_
 refine rnil (tn_ ?_)
 refine wr_ ?_
 refine awp_seqB h (fun (l4_m1:Int) S_=>S_=⟨mkTm [(1,(ai l4_m1))],mkOb (someL []),2⟩) ?_ ?_
 ·intro v_ h
  refine seqR ?_
  rcases cond_some h with ⟨q6,h⟩ | ⟨q6,h⟩
  ·have q6_:=of_decide_eq_true q6
   refine awp_condT_ q6 ?_
   refine awp_region_ 12 ?_
   refine rsB 4 ?_
   refine rnil (tn_ ?_)
   obtain rfl:=zj h
   exact ⟨_,(weak_ren []),rfl⟩
  have q6_:=of_decide_eq_false q6
  refine awp_condF_ q6 ?_
  refine awp_skip_ (tn_ ?_)
  obtain rfl:=zj h
  exact ⟨_,(weak_ren []),rfl⟩
 rintro l4_m1 _ rfl h
 (try dsimp only at h)
 refine seqR ?_
 refine awp_ret_ ?_
 obtain rfl:=zj h
 exact ret_ [(ai l4_m1)] (p_one rfl zl p_nil)
def m_impl_clone:AC :=
 (.seq (rg [xo 2 (qm (.cst .nils))])
 (.seq (rg [xo 3 (.mkS 3 .int []),xo 4 (qm (tm 0)),xo 5 (.append 3 .int 8 (tm 3) (tm 4)),xo 2 (qm (tm 5))])
 .ret))
def r_impl_clone:List Res:=[.tmp 2]
theorem c_impl_clone:compiled Tryd.prog Tryd.f49=some (m_impl_clone,r_impl_clone):=by kernel_rfl
def L_impl_clone (a0:List Int):Option (List Int) :=
 og (0+a0.length<=1073741824∧(0+a0.length)*8<=140737488355328) <|
some a0
def rv_impl_clone (r:List Int):RV:=⟨false,[(false,[.new 3 .int r])]⟩
theorem ok_impl_clone {a0:List Int} {r:List Int} (h:L_impl_clone a0=some r):CallOK Tryd.prog Tab 49 [(.tree .int a0)] (rv_impl_clone r):=by
 refine call_of_ (by kernel_rfl) Tryd.func49 c_impl_clone (n:=6) (by kernel_rfl) (by simp) (tl:=[(0,(.tree .int a0))]) rfl ?_
 unfold m_impl_clone
 unfold L_impl_clone at h
 refine seqR ?_
 refine awp_seqv_ ?_
 obtain ⟨g3,h⟩:=og_some h
 refine awp_region_ 6 ?_
 refine rs1 (.own (oi 3 2) .int 0 0) (oi 3 2) (.arr 3 .int []) (by kernel_rfl) ?_
 refine rz0 (.tree .int a0) ?_
 refine rs2 (.own (oi 3 4) .int 0 a0.length) (oi 3 2) (oi 3 4) (.arr 3 .int a0) (s_appO (t:=.int) (t':=.int) (xs:=[]) (ys:=a0) (zs:=a0) (j:=(oi 3 2)) (len:=0) (c:=(.tree .int a0)) (by kernel_rfl) (by kernel_rfl) rfl (by kernel_rfl) sr_tree rfl g3) ?_
 refine rsB 1 ?_
 refine rnil (tn_ ?_)
 refine wr_ ?_
 refine awp_ret_ ?_
 obtain rfl:=zj h
 exact ret_ [(.own (oi 3 4) .int 0 a0.length)] (p_one rfl (l_own (by kernel_rfl) rfl) p_nil)
def m_impl_upTo_l1:AC :=
 (.seq (rg [xo 10 (qb .lss (tm 9) (tm 8))])
 (.seq (.cond (tm 10)
  .skip
  (.exit 0))
 (.seq (.block 1 (.seq (rg [xo 11 (qm (tm 9)),xo 4 (qm (tm 11))])
 (rg [xo 12 (qm (tm 3)),xo 13 (qm (tm 4)),xo 14 (qm (tm 4)),xo 15 (qx 1 (tm 12) (tm 13)),xn (qs (tm 15) (tm 14))])))
 (rg [xo 16 (qb .add (tm 9) (ci 1)),xo 9 (qm (tm 16))]))))
def m_impl_upTo:AC :=
 (.seq (rg [xo 2 (qm (.cst .nils))])
 (.seq (rg [xo 5 (qm (tm 0)),xo 6 (qc 69 [(tm 5)] [[]]),xo 3 (qm (tm 6))])
 (.seq (.seq (rg [xo 7 (qm (tm 3)),xo 8 (.i (.len (tm 7))),xo 9 (qm (ci 0))])
 (.block 0 (.loop m_impl_upTo_l1)))
 (.seq (rg [xo 17 (qm (tm 3)),xo 2 (qm (tm 17))])
 .ret))))
def r_impl_upTo:List Res:=[.tmp 2]
theorem c_impl_upTo:compiled Tryd.prog Tryd.f65=some (m_impl_upTo,r_impl_upTo):=by kernel_rfl
def L_impl_upTo_l1 (y3:List Int) (l6_m9:Nat) (l6_m3:List Int):Option (Ctl (Nat×List Int) (List Int)) :=
 cond (decide (((l6_m9:Nat):Int)<((y3.length:Nat):Int)))
 (Option.bind (l6_m3[l6_m9]?) fun x12 =>
 og (l6_m9+1<4611686018427387904) <|
 some (Ctl.next (l6_m9+1,l6_m3.set l6_m9 ((l6_m9:Nat):Int))))
 (some (Ctl.out l6_m3))
def L_impl_upTo (a0:Int):Option (List Int) :=
 Option.bind (L_impl_zeros a0) fun y3 =>
Option.bind (loopM (fun s_:Nat×List Int=>L_impl_upTo_l1 y3 s_.1 s_.2) 4611686018427387904 (0,y3)) fun l4_m3 =>
some l4_m3
def rv_impl_upTo (r:List Int):RV:=⟨false,[(false,[.new 3 .int r])]⟩
theorem ok_impl_upTo {a0:Int} {r:List Int} (h:L_impl_upTo a0=some r):CallOK Tryd.prog Tab 65 [(ai a0)] (rv_impl_upTo r):=by
 refine call_of_ (by kernel_rfl) Tryd.func65 c_impl_upTo (n:=18) (by kernel_rfl) (by simp) (tl:=[(0,(ai a0))]) rfl ?_
 unfold m_impl_upTo
 unfold L_impl_upTo at h
 refine seqR ?_
 refine awp_seqv_ ?_
 obtain ⟨y3,h3,h⟩:=ob_some h
 refine awp_region_ 5 ?_
 refine rz0 (ai a0) ?_
 refine zc (.own (oi 96 3) .int 0 y3.length) [((oi 96 3),some (.arr 3 .int y3))] [(ai a0)] (ok_impl_zeros h3) ?_
 refine rsB 1 ?_
 refine rnil (tn_ ?_)
 refine wr_ ?_
 refine awp_seqB h (fun (l4_m3:List Int) S_=>S_=⟨mkTm [(3,(.own (oi 0 1) .int 0 l4_m3.length))],mkOb (someL [((oi 0 1),.arr 3 .int l4_m3)]),2⟩) ?_ ?_
 ·intro v_ h
  refine seqR ?_
  refine awp_block_ ?_
  refine awp_loopL h (fun t_ S_=>∃ (l6_m9:Nat),∃ (l6_m3:List Int),t_=(l6_m9,l6_m3)∧S_=⟨mkTm [(3,(.own (oi 0 1) .int 0 l6_m3.length)),(8,(ai ((y3.length:Nat):Int))),(9,(ai ((l6_m9:Nat):Int)))],mkOb (someL [((oi 0 1),.arr 3 .int l6_m3)]),2⟩) ⟨_,(weak_ren [((oi 0 1),(oi 96 3))]),⟨0,y3,rfl,rfl⟩⟩ ?_
  rintro n_ _ _ c_ ⟨l6_m9,l6_m3,rfl,rfl⟩ h hn6
  (try dsimp only at h)
  unfold L_impl_upTo_l1 at h
  unfold m_impl_upTo_l1
  refine seqR ?_
  refine awp_seqv_ ?_
  rcases cond_some h with ⟨q9,h⟩ | ⟨q9,h⟩
  ·have q9_:=of_decide_eq_true q9
   refine awp_condT_ q9 ?_
   refine awp_skip_ (tn_ ?_)
   refine wr_ ?_
   refine awp_seqv_ ?_
   refine awp_block_ ?_
   refine seqR ?_
   obtain ⟨x12,e12,h⟩:=ob_some h
   refine awp_region_ 10 ?_
   refine rz0 (.own (oi 0 1) .int 0 l6_m3.length) ?_
   refine rz0 (ai ((l6_m9:Nat):Int)) ?_
   refine rz0 (ai ((l6_m9:Nat):Int)) ?_
   refine rs0 (.elt (oi 0 1) l6_m9 0) (zo (t:=.int) (o:=(oi 0 1)) (len:=l6_m3.length) (k:=.i64) (m:=((l6_m9:Nat):Int)) (nat_nn _) (getN_lt e12)) ?_
   refine rsn2 (oi 0 1) (oi 0 1) (.arr 3 .int (l6_m3.set l6_m9 ((l6_m9:Nat):Int))) (s_stE (i:=(oi 0 1)) (j:=l6_m9) (k:=0) (e:=3) (t:=.int) (xs:=l6_m3) (cs:=[(ai ((l6_m9:Nat):Int))]) (x1:=((l6_m9:Nat):Int)) (by kernel_rfl) (by kernel_rfl) e12 (by kernel_rfl) (by kernel_rfl)) ?_
   refine rnil (bn_ (tn_ ?_))
   refine wr_ ?_
   obtain ⟨g13,h⟩:=og_some h
   refine awp_region_ 12 ?_
   refine rs0 (ai ((l6_m9+1:Nat):Int)) (za g13) ?_
   refine rsB 1 ?_
   refine rnil (tn_ ?_)
   obtain rfl:=zj h
   exact ⟨(l6_m9+1,l6_m3.set l6_m9 ((l6_m9:Nat):Int)),_,((weak_tm_ 3 (.own (oi 0 1) .int 0 l6_m3.length) (.own (oi 0 1) .int 0 ((l6_m3.set l6_m9 ((l6_m9:Nat):Int)).length)) (by kernel_rfl) (congrArg (fun z_=>((.own (oi 0 1) .int 0 z_):AV)) (((rfl:l6_m3.length=l6_m3.length).trans List.length_set.symm):l6_m3.length=(l6_m3.set l6_m9 ((l6_m9:Nat):Int)).length))).trans (weak_ren [])),⟨l6_m9+1,l6_m3.set l6_m9 ((l6_m9:Nat):Int),rfl,rfl⟩,hn6⟩
  have q9_:=of_decide_eq_false q9
  refine awp_condF_ q9 ?_
  refine awp_exit_ (te_ (te_ (be_ (tn_ ?_))))
  obtain rfl:=zj h
  have h:=hn6
  (try dsimp only at h)
  obtain rfl:=zj h
  exact ⟨_,(weak_ren []),rfl⟩
 rintro l4_m3 _ rfl h
 (try dsimp only at h)
 refine seqR ?_
 refine awp_ret_ ?_
 obtain rfl:=zj h
 exact ret_ [(.own (oi 0 1) .int 0 l4_m3.length)] (p_one rfl (l_own (by kernel_rfl) rfl) p_nil)
def m_spec_hgList_l1:AC :=
 (.seq (rg [xo 11 (qb .lss (tm 10) (tm 9))])
 (.seq (.cond (tm 11)
  .skip
  (.exit 0))
 (.seq (.block 1 (.seq (rg [xo 12 (qx 1 (tm 8) (tm 10)),xo 13 (ql (tm 12)),xo 7 (qm (tm 13))])
 (rg [xo 14 (qm (tm 5)),xo 15 (qm (tm 1)),xo 16 (qm (tm 7)),xo 17 (qx 1 (tm 15) (tm 16)),xo 18 (ql (tm 17)),xo 19 (.mkS 3 .int [(tm 18)]),xo 20 (.append 3 .int 8 (tm 14) (tm 19)),xo 5 (qm (tm 20))])))
 (rg [xo 21 (qb .add (tm 10) (ci 1)),xo 10 (qm (tm 21))]))))
def m_spec_hgList:AC :=
 (.seq (rg [xo 4 (qm (.cst .nils))])
 (.seq (rg [xo 5 (qm (.cst .nils))])
 (.seq (.seq (rg [xo 8 (qm (tm 0)),xo 9 (.i (.len (tm 8))),xo 10 (qm (ci 0))])
 (.block 0 (.loop m_spec_hgList_l1)))
 (.seq (rg [xo 22 (qm (tm 5)),xo 4 (qm (tm 22))])
 .ret))))
def r_spec_hgList:List Res:=[.tmp 4]
theorem c_spec_hgList:compiled Tryd.prog Tryd.f74=some (m_spec_hgList,r_spec_hgList):=by kernel_rfl
def L_spec_hgList_l1 (a0:List Int) (a1:List Int) (l5_m10:Nat) (l5_m5:List Int):Option (Ctl (Nat×List Int) (List Int)) :=
 cond (decide (((l5_m10:Nat):Int)<((a0.length:Nat):Int)))
 (Option.bind (a0[l5_m10]?) fun x11 =>
 Option.bind (getI a1 x11) fun x12 =>
 og (l5_m5.length+1<=1073741824∧(l5_m5.length+1)*8<=140737488355328) <|
 og (l5_m10+1<4611686018427387904) <|
 some (Ctl.next (l5_m10+1,l5_m5++([x12]))))
 (some (Ctl.out l5_m5))
def L_spec_hgList (a0:List Int) (a1:List Int):Option (List Int) :=
 Option.bind (loopM (fun s_:Nat×List Int=>L_spec_hgList_l1 a0 a1 s_.1 s_.2) 4611686018427387904 (0,[])) fun l3_m5 =>
some l3_m5
def rv_spec_hgList (r:List Int):RV:=⟨false,[(false,[.new 3 .int r])]⟩
theorem ok_spec_hgList {a0:List Int} {a1:List Int} {r:List Int} (h:L_spec_hgList a0 a1=some r):CallOK Tryd.prog Tab 74 [(.tree .int a0),(.tree .int a1)] (rv_spec_hgList r):=by
 refine call_of_ (by kernel_rfl) Tryd.func74 c_spec_hgList (n:=23) (by kernel_rfl) (by simp) (tl:=[(0,(.tree .int a0)),(1,(.tree .int a1))]) rfl ?_
 unfold m_spec_hgList
 unfold L_spec_hgList at h
 refine seqR ?_
 refine seqR ?_
 refine awp_seqB h (fun (l3_m5:List Int) S_=>S_=⟨mkTm [(5,(.own (oi 0 1) .int 0 l3_m5.length))],mkOb (someL [((oi 0 1),.arr 3 .int l3_m5)]),2⟩) ?_ ?_
 ·intro v_ h
  refine seqR ?_
  refine awp_block_ ?_
  refine awp_loopL h (fun t_ S_=>∃ (l5_m10:Nat),∃ (l5_m5:List Int),t_=(l5_m10,l5_m5)∧S_=⟨mkTm [(1,(.tree .int a1)),(5,(.own (oi 0 1) .int 0 l5_m5.length)),(8,(.tree .int a0)),(9,(ai ((a0.length:Nat):Int))),(10,(ai ((l5_m10:Nat):Int)))],mkOb (someL [((oi 0 1),.arr 3 .int l5_m5)]),2⟩) ⟨_,((weak_nil_ 5 3 .int rfl (by kernel_rfl)).trans (weak_ren [((oi 0 1),(oi 5 6))])),⟨0,[],rfl,rfl⟩⟩ ?_
  rintro n_ _ _ c_ ⟨l5_m10,l5_m5,rfl,rfl⟩ h hn5
  (try dsimp only at h)
  unfold L_spec_hgList_l1 at h
  unfold m_spec_hgList_l1
  refine seqR ?_
  refine awp_seqv_ ?_
  rcases cond_some h with ⟨q8,h⟩ | ⟨q8,h⟩
  ·have q8_:=of_decide_eq_true q8
   refine awp_condT_ q8 ?_
   refine awp_skip_ (tn_ ?_)
   refine wr_ ?_
   refine awp_seqv_ ?_
   refine awp_block_ ?_
   refine awp_seqv_ ?_
   obtain ⟨x11,e11,h⟩:=ob_some h
   refine awp_region_ 6 ?_
   refine rs0 (.telt .int x11 0) (zi (t:=.int) (xs:=a0) (k:=.i64) (m:=((l5_m10:Nat):Int)) (nat_nn _) e11) ?_
   refine rsB 2 ?_
   refine rnil (tn_ ?_)
   refine wr_ ?_
   obtain ⟨x12,f12,h⟩:=ob_some h
   obtain ⟨p12,b12,e12⟩:=getI_some f12
   obtain ⟨g13,h⟩:=og_some h
   refine awp_region_ 14 ?_
   refine rz0 (.own (oi 0 1) .int 0 l5_m5.length) ?_
   refine rz0 (.tree .int a1) ?_
   refine rz0 (ai x11) ?_
   refine rs0 (.telt .int x12 0) (zi (t:=.int) (xs:=a1) (k:=.i64) (m:=x11) p12 e12) ?_
   refine rz0 (ai x12) ?_
   refine rs1 (.own (oi 19 11) .int 0 1) (oi 19 11) (.arr 3 .int ([x12])) (by kernel_rfl) ?_
   refine rs2 (.own (oi 0 12) .int 0 ((l5_m5++([x12])).length)) (oi 0 1) (oi 0 12) (.arr 3 .int (l5_m5++([x12]))) (s_appO (t:=.int) (t':=.int) (xs:=l5_m5) (ys:=[x12]) (zs:=l5_m5++([x12])) (j:=(oi 0 1)) (len:=l5_m5.length) (c:=(.own (oi 19 11) .int 0 1)) (by kernel_rfl) (by kernel_rfl) rfl (by kernel_rfl) (sr_own (e:=3) (by kernel_rfl) rfl) rfl g13) ?_
   refine rsB 1 ?_
   refine rnil (bn_ (tn_ ?_))
   refine wr_ ?_
   obtain ⟨g14,h⟩:=og_some h
   refine awp_region_ 16 ?_
   refine rs0 (ai ((l5_m10+1:Nat):Int)) (za g14) ?_
   refine rsB 1 ?_
   refine rnil (tn_ ?_)
   obtain rfl:=zj h
   exact ⟨(l5_m10+1,l5_m5++([x12])),_,(weak_ren [((oi 0 1),(oi 0 12))]),⟨l5_m10+1,l5_m5++([x12]),rfl,rfl⟩,hn5⟩
  have q8_:=of_decide_eq_false q8
  refine awp_condF_ q8 ?_
  refine awp_exit_ (te_ (te_ (be_ (tn_ ?_))))
  obtain rfl:=zj h
  have h:=hn5
  (try dsimp only at h)
  obtain rfl:=zj h
  exact ⟨_,(weak_ren []),rfl⟩
 rintro l3_m5 _ rfl h
 (try dsimp only at h)
 refine seqR ?_
 refine awp_ret_ ?_
 obtain rfl:=zj h
 exact ret_ [(.own (oi 0 1) .int 0 l3_m5.length)] (p_one rfl (l_own (by kernel_rfl) rfl) p_nil)
def m_impl_chosen_l1:AC :=
 (.seq (rg [xo 14 (qb .lss (tm 13) (tm 12))])
 (.seq (.cond (tm 14)
  .skip
  (.exit 0))
 (.seq (.block 1 (.seq (rg [xo 15 (qx 1 (tm 11) (tm 13)),xo 16 (ql (tm 15)),xo 7 (qm (tm 16))])
 (rg [xo 17 (qm (tm 5)),xo 18 (qm (tm 0)),xo 19 (qm (tm 7)),xo 20 (qx 1 (tm 18) (tm 19)),xo 21 (ql (tm 20)),xo 22 (.mkS 3 .int [(tm 21)]),xo 23 (.append 3 .int 8 (tm 17) (tm 22)),xo 5 (qm (tm 23))])))
 (rg [xo 24 (qb .add (tm 13) (ci 1)),xo 13 (qm (tm 24))]))))
def m_impl_chosen:AC :=
 (.seq (rg [xo 4 (qm (.cst .nils))])
 (.seq (rg [xo 8 (qm (tm 1)),xo 9 (.i (.len (tm 8))),xo 10 (.make 3 .int 8 (ci 0) (tm 9)),xo 5 (qm (tm 10))])
 (.seq (.seq (rg [xo 11 (qm (tm 1)),xo 12 (.i (.len (tm 11))),xo 13 (qm (ci 0))])
 (.block 0 (.loop m_impl_chosen_l1)))
 (.seq (rg [xo 25 (qm (tm 5)),xo 4 (qm (tm 25))])
 .ret))))
def r_impl_chosen:List Res:=[.tmp 4]
theorem c_impl_chosen:compiled Tryd.prog Tryd.f71=some (m_impl_chosen,r_impl_chosen):=by kernel_rfl
def L_impl_chosen_l1 (a1:List Int) (a0:List Int) (l6_m13:Nat) (l6_m5:List Int):Option (Ctl (Nat×List Int) (List Int)) :=
 cond (decide (((l6_m13:Nat):Int)<((a1.length:Nat):Int)))
 (Option.bind (a1[l6_m13]?) fun x12 =>
 Option.bind (getI a0 x12) fun x13 =>
 og (l6_m5.length+1<=1073741824∧(l6_m5.length+1)*8<=140737488355328) <|
 og (l6_m13+1<4611686018427387904) <|
 some (Ctl.next (l6_m13+1,l6_m5++([x13]))))
 (some (Ctl.out l6_m5))
def L_impl_chosen (a0:List Int) (a1:List Int):Option (List Int) :=
 og (0<=(0:Int)∧(0:Int)<=((a1.length:Nat):Int)∧((a1.length:Nat):Int)<=1073741824∧(8:Int)*((a1.length:Nat):Int)<=140737488355328) <|
Option.bind (loopM (fun s_:Nat×List Int=>L_impl_chosen_l1 a1 a0 s_.1 s_.2) 4611686018427387904 (0,List.replicate 0 (0:Int))) fun l4_m5 =>
some l4_m5
def rv_impl_chosen (r:List Int):RV:=⟨false,[(false,[.new 3 .int r])]⟩
theorem ok_impl_chosen {a0:List Int} {a1:List Int} {r:List Int} (h:L_impl_chosen a0 a1=some r):CallOK Tryd.prog Tab 71 [(.tree .int a0),(.tree .int a1)] (rv_impl_chosen r):=by
 refine call_of_ (by kernel_rfl) Tryd.func71 c_impl_chosen (n:=26) (by kernel_rfl) (by simp) (tl:=[(0,(.tree .int a0)),(1,(.tree .int a1))]) rfl ?_
 unfold m_impl_chosen
 unfold L_impl_chosen at h
 refine seqR ?_
 refine awp_seqv_ ?_
 obtain ⟨g3,h⟩:=og_some h
 refine awp_region_ 6 ?_
 refine rz0 (.tree .int a1) ?_
 refine rz0 (ai ((a1.length:Nat):Int)) ?_
 refine rs1 (.own (oi 10 4) .int 0 0) (oi 10 4) (.arr 3 .int (List.replicate 0 (0:Int))) (s_make (t:=.int) (k:=.i64) (k':=.i64) (m:=0) (m':=((a1.length:Nat):Int)) (by kernel_rfl) (by kernel_rfl) g3 rfl) ?_
 refine rsB 1 ?_
 refine rnil (tn_ ?_)
 refine wr_ ?_
 refine awp_seqB h (fun (l4_m5:List Int) S_=>S_=⟨mkTm [(5,(.own (oi 0 1) .int 0 l4_m5.length))],mkOb (someL [((oi 0 1),.arr 3 .int l4_m5)]),2⟩) ?_ ?_
 ·intro v_ h
  refine seqR ?_
  refine awp_block_ ?_
  refine awp_loopL h (fun t_ S_=>∃ (l6_m13:Nat),∃ (l6_m5:List Int),t_=(l6_m13,l6_m5)∧S_=⟨mkTm [(0,(.tree .int a0)),(5,(.own (oi 0 1) .int 0 l6_m5.length)),(11,(.tree .int a1)),(12,(ai ((a1.length:Nat):Int))),(13,(ai ((l6_m13:Nat):Int)))],mkOb (someL [((oi 0 1),.arr 3 .int l6_m5)]),2⟩) ⟨_,((weak_tm_ 5 (.own (oi 10 4) .int 0 0) (.own (oi 10 4) .int 0 ((List.replicate 0 (0:Int)).length)) (by kernel_rfl) (congrArg (fun z_=>((.own (oi 10 4) .int 0 z_):AV)) (List.length_replicate.symm:0=(List.replicate 0 (0:Int)).length))).trans (weak_ren [((oi 0 1),(oi 10 4))])),⟨0,List.replicate 0 (0:Int),rfl,rfl⟩⟩ ?_
  rintro n_ _ _ c_ ⟨l6_m13,l6_m5,rfl,rfl⟩ h hn6
  (try dsimp only at h)
  unfold L_impl_chosen_l1 at h
  unfold m_impl_chosen_l1
  refine seqR ?_
  refine awp_seqv_ ?_
  rcases cond_some h with ⟨q9,h⟩ | ⟨q9,h⟩
  ·have q9_:=of_decide_eq_true q9
   refine awp_condT_ q9 ?_
   refine awp_skip_ (tn_ ?_)
   refine wr_ ?_
   refine awp_seqv_ ?_
   refine awp_block_ ?_
   refine awp_seqv_ ?_
   obtain ⟨x12,e12,h⟩:=ob_some h
   refine awp_region_ 6 ?_
   refine rs0 (.telt .int x12 0) (zi (t:=.int) (xs:=a1) (k:=.i64) (m:=((l6_m13:Nat):Int)) (nat_nn _) e12) ?_
   refine rsB 2 ?_
   refine rnil (tn_ ?_)
   refine wr_ ?_
   obtain ⟨x13,f13,h⟩:=ob_some h
   obtain ⟨p13,b13,e13⟩:=getI_some f13
   obtain ⟨g14,h⟩:=og_some h
   refine awp_region_ 14 ?_
   refine rz0 (.own (oi 0 1) .int 0 l6_m5.length) ?_
   refine rz0 (.tree .int a0) ?_
   refine rz0 (ai x12) ?_
   refine rs0 (.telt .int x13 0) (zi (t:=.int) (xs:=a0) (k:=.i64) (m:=x12) p13 e13) ?_
   refine rz0 (ai x13) ?_
   refine rs1 (.own (oi 22 11) .int 0 1) (oi 22 11) (.arr 3 .int ([x13])) (by kernel_rfl) ?_
   refine rs2 (.own (oi 0 12) .int 0 ((l6_m5++([x13])).length)) (oi 0 1) (oi 0 12) (.arr 3 .int (l6_m5++([x13]))) (s_appO (t:=.int) (t':=.int) (xs:=l6_m5) (ys:=[x13]) (zs:=l6_m5++([x13])) (j:=(oi 0 1)) (len:=l6_m5.length) (c:=(.own (oi 22 11) .int 0 1)) (by kernel_rfl) (by kernel_rfl) rfl (by kernel_rfl) (sr_own (e:=3) (by kernel_rfl) rfl) rfl g14) ?_
   refine rsB 1 ?_
   refine rnil (bn_ (tn_ ?_))
   refine wr_ ?_
   obtain ⟨g15,h⟩:=og_some h
   refine awp_region_ 16 ?_
   refine rs0 (ai ((l6_m13+1:Nat):Int)) (za g15) ?_
   refine rsB 1 ?_
   refine rnil (tn_ ?_)
   obtain rfl:=zj h
   exact ⟨(l6_m13+1,l6_m5++([x13])),_,(weak_ren [((oi 0 1),(oi 0 12))]),⟨l6_m13+1,l6_m5++([x13]),rfl,rfl⟩,hn6⟩
  have q9_:=of_decide_eq_false q9
  refine awp_condF_ q9 ?_
  refine awp_exit_ (te_ (te_ (be_ (tn_ ?_))))
  obtain rfl:=zj h
  have h:=hn6
  (try dsimp only at h)
  obtain rfl:=zj h
  exact ⟨_,(weak_ren []),rfl⟩
 rintro l4_m5 _ rfl h
 (try dsimp only at h)
 refine seqR ?_
 refine awp_ret_ ?_
 obtain rfl:=zj h
 exact ret_ [(.own (oi 0 1) .int 0 l4_m5.length)] (p_one rfl (l_own (by kernel_rfl) rfl) p_nil)
end Go.Proofs.YtkaollfdhoaihaaDoor
