/- Lemmas on the program and on partial functions that stand in place of its code (part 4); no condition beyond those that each one states. -/
import Derived.Test.YtopjojkjaklalaaGreatDoorZ3
import Derived.KernelRfl
import Derived.IntWalk
namespace Go.Proofs.YtopjojkjaklalaaGreatDoor
open Go.RowKit Go.Deep
def Hu (ol:List (Oid×Ob)):Bool:=ol.all fun q=>q.1.1.2==0&&(match q.2 with | .mat _ p _ _=>p.1.2==0|_=>true)
theorem Ais {ol:List (Oid×Ob)} (h:Hu ol=true):(ol.all fun q=>match q.2 with | .pool ..=>q.1.1.2==0 | .mat _ p _ _=>p.1.2==0|_=>true)=true:=by
 unfold Hu at h;rw [List.all_eq_true] at h ⊢;rintro ⟨i,o⟩ hq;have:=h _ hq;simp only [Bool.and_eq_true] at this;cases o <;> first|exact this.1|exact this.2|rfl
def Atr (θ:Oid->Oid) (ol:List (Oid×Ob)):Bool:=ndB ((B3 ol).map θ)&&(ndB ((B4 ol).map θ)&&(((B4 ol).all fun i=>(θ i).1.2==0)&&(B3 ol).all fun i=>(θ i).1.2==0|| !((B4 ol).map θ).contains (Qk (θ i))))
theorem Acq {ol:List (Oid×Ob)} {q:Oid×Ob} (hq:q∈ol) (hp:q.2.isPool=false):q.1∈B3 ol:=List.mem_map.2 ⟨_,List.mem_filter.2 ⟨hq,by simp [hp]⟩,rfl⟩
theorem Qg {ol:List (Oid×Ob)} {q:Oid×Ob} (hq:q∈ol) (hp:q.2.isPool=true):q.1∈B4 ol:=List.mem_map.2 ⟨_,List.mem_filter.2 ⟨hq,by simp [hp]⟩,rfl⟩
theorem Ap1 {θ:Oid->Oid} {ol:List (Oid×Ob)} (hk:∀ p e u xss,(p,Ob.pool e u xss)∈ol->∀ k,θ (kid p k)=kid (θ p) k) (h:Atr θ ol=true) (h0:Hu ol=true):∀ q∈exL ol,∀ q'∈exL ol,θ q.1=θ q'.1->q.1=q'.1:=by
 simp only [Atr,Bool.and_eq_true] at h;obtain ⟨c3,c4,c7,c8⟩:=h;rw [List.all_eq_true] at c7 c8;have ndN:=G0 c3;have ndP:=G0 c4;unfold Hu at h0;rw [List.all_eq_true] at h0
 have hb:∀ q∈ol,q.1.1.2=0:=fun q hq=>by
  have:=h0 q hq;simp only [Bool.and_eq_true,beq_iff_eq] at this;exact this.1
 intro q hq q' hq' e;rcases Is hq with ⟨p,e1,u,xss,k,row,m1,m2,rfl⟩|⟨o,m1,m2,m3⟩ <;> rcases Is hq' with ⟨p',e1',u',xss',k',row',m1',m2',rfl⟩|⟨o',m1',m2',m3'⟩
 ·simp only [hk _ _ _ _ m1,hk _ _ _ _ m1'] at e;have z1:=c7 _ (Qg m1 rfl);have z2:=c7 _ (Qg m1' rfl);rw [beq_iff_eq] at z1 z2;have e1:θ p=θ p':=by rw [← Dz z1 k,e,Dz z2]
  have e2:=Qh ndP (Qg m1 rfl) (Qg m1' rfl) e1;have e2:p=p':=e2;subst e2;rw [Gh e]
 ·exfalso;simp only [hk _ _ _ _ m1] at e;have hz:=c7 _ (Qg m1 rfl);rw [beq_iff_eq] at hz;have:=c8 _ (Acq (q:=(q'.1,o')) m1' m2');simp only [← e,Bool.or_eq_true,beq_iff_eq,Bool.not_eq_true',Dz hz] at this;rcases this with h|h
  ·simp [kid] at h
  ·rw [List.contains_iff_mem.2 (List.mem_map.2 ⟨_,Qg m1 rfl,rfl⟩)] at h;cases h
 ·exfalso;simp only [hk _ _ _ _ m1'] at e;have hz:=c7 _ (Qg m1' rfl);rw [beq_iff_eq] at hz;have:=c8 _ (Acq (q:=(q.1,o)) m1 m2);simp only [e,Bool.or_eq_true,beq_iff_eq,Bool.not_eq_true',Dz hz] at this;rcases this with h|h
  ·simp [kid] at h
  ·rw [List.contains_iff_mem.2 (List.mem_map.2 ⟨_,Qg m1' rfl,rfl⟩)] at h;cases h
 ·exact Qh ndN (Acq (q:=(q.1,o)) m1 m2) (Acq (q:=(q'.1,o')) m1' m2') e
def Pv (ν:Oid->Oid) (us:List (Oid×Ob)):List (Oid×Ob):=us.map fun q=>(ν q.1,q.2.ren ν)
theorem Amv {ν:Oid->Oid}:∀ {us:List (Oid×Ob)},(∀ p e u xss,(p,Ob.pool e u xss)∈us->∀ k,ν (kid p k)=kid (ν p) k)->(∀ j e p u xss,(j,Ob.mat e p u xss)∈us->∀ k,ν (kid p k)=kid (ν p) k)->exL (Pv ν us)=(exL us).map fun q=>(ν q.1,q.2.ren ν)
 | [],_,_=>rfl
 | (p,o) :: r,h1,h2=>by
  have ih:=Amv (us:=r) (fun p e u xss h=>h1 p e u xss (List.mem_cons_of_mem _ h)) (fun j e p u xss h=>h2 j e p u xss (List.mem_cons_of_mem _ h));cases o with
  | pool e u xss =>
   show (xss.zipIdx.map fun x=>(kid (ν p) x.2,Ob.arr e u x.1))++exL (Pv ν r)=((xss.zipIdx.map fun x=>(kid p x.2,Ob.arr e u x.1))++exL r).map fun q=>(ν q.1,q.2.ren ν)
   rw [List.map_append,ih,List.map_map];congr 1;apply List.map_congr_left;intro x _;simp only [Function.comp,h1 p e u xss (by simp)];rfl
  | mat e q u xss =>
   have:=Anh ν (.mat e q u xss) (fun e' p' u' xss' he k=>by
    obtain ⟨rfl,rfl,rfl,he⟩:=Ob.mat.inj he;obtain rfl:=eq_of_heq he;exact h2 p e q u xss (by simp) k)
   simp only [Ob.ren,Ob.exp] at this;show (ν p,Ob.vec e 1 xss.length (hdL (ν q) u xss)) :: exL (Pv ν r)=((p,Ob.vec e 1 xss.length (hdL q u xss)) :: exL r).map fun q=>(ν q.1,q.2.ren ν)
   rw [List.map_cons,ih,this];rfl
  | tv e m t xs =>
   show (ν p,Ob.vec e t.size xs.length (tvC m t xs)) :: exL (Pv ν r)=((p,Ob.vec e t.size xs.length (tvC m t xs)) :: exL r).map fun q=>(ν q.1,q.2.ren ν)
   rw [List.map_cons,ih];simp only [Ob.ren,Qv]
  | _=>exact congrArg (List.cons _) ih
theorem Qx {rest:List (Oid×Option Ob)}:∀ {us:List (Oid×Ob)},(B3 us).Nodup->(B4 us).Nodup->(∀ p∈B4 us,p.1.2=0)->(∀ i∈B3 us,∀ p∈B4 us,∀ k,i≠kid p k)->∀ q∈exL us,Aj (B9 us++rest) q.1=some q.2
 | [],_,_,_,_,q,hq=>by cases hq
 | (p,o) :: r,nN,nP,h0,h1,q,hq=>by
  cases o with
  | pool e u xss =>
   have nP':(p :: B4 r).Nodup:=nP;have nN':(B3 r).Nodup:=nN;have h0':∀ i∈p :: B4 r,i.1.2=0:=h0;have h1':∀ i∈B3 r,∀ j∈p :: B4 r,∀ k,i≠kid j k:=h1;obtain ⟨n1,n2⟩:=List.nodup_cons.1 nP';simp only [exL,List.mem_append] at hq;show Aj ((p,some (.pool e u xss)) :: (B9 r++rest)) q.1=some q.2;rcases hq with hq|hq
   ·obtain ⟨⟨row,k⟩,hx,rfl⟩:=List.mem_map.1 hq;rw [List.mem_zipIdx_iff_getElem?] at hx;rw [Jl];have hx:xss[k]? =some row:=hx;rw [hx];rfl
   ·rw [Im]
    ·exact Qx nN' n2 (fun i hi=>h0' i (List.mem_cons_of_mem _ hi)) (fun i hi j hj=>h1' i hi j (List.mem_cons_of_mem _ hj)) q hq
    ·intro k e';rcases Is hq with ⟨p',e1,u',xss',k',row,m1,m2,rfl⟩|⟨o,m1,m2,m3⟩
     ·have e':kid p' k'=kid p k:=e';have hb:p'=p:=by rw [← Dz (h0' p' (List.mem_cons_of_mem _ (Qg m1 rfl))) k',e',Dz (h0' p List.mem_cons_self)]
      subst hb;exact n1 (Qg m1 rfl)
     ·exact h1' _ (Acq (q:=(q.1,o)) m1 m2) p List.mem_cons_self k e'
  | _ =>
   have nN':(p :: B3 r).Nodup:=nN;have nP':(B4 r).Nodup:=nP;have h1':∀ i∈p :: B3 r,∀ j∈B4 r,∀ k,i≠kid j k:=h1;obtain ⟨n1,n2⟩:=List.nodup_cons.1 nN';simp only [exL] at hq;rcases List.mem_cons.1 hq with rfl|hq
   ·simp [B9,Aj]
   ·have hne:q.1≠p:=by
     intro e';rcases Is hq with ⟨p',e1,u',xss',k',row,m1,m2,rfl⟩|⟨o,m1,m2,m3⟩
     ·exact h1' p List.mem_cons_self p' (Qg m1 rfl) k' e'.symm
     ·exact n1 (by rw [← e'];exact Acq (q:=(q.1,o)) m1 m2)
    have:=Qx (rest:=rest) n2 nP' h0 (fun i hi=>h1' i (List.mem_cons_of_mem _ hi)) q hq;simp only [B9,List.map_cons,List.cons_append,Aj];rw [if_neg hne];exact this
theorem Aex {rest:List (Oid×Option Ob)}:∀ {us:List (Oid×Ob)} {k:Oid},(∀ q∈exL us,q.1≠k)->Aj (B9 us++rest) k=Aj rest k∨(Aj (B9 us++rest) k=none/\∃ p e u xss,(p,Ob.pool e u xss)∈us/\k.2=p.2)
 | [],_,_=>.inl rfl
 | (p,o) :: r,k,h=>by
  have ih:(∀ q∈exL r,q.1≠k)->Aj (B9 r++rest) k=Aj rest k∨(Aj (B9 r++rest) k=none/\∃ p' e u xss,(p',Ob.pool e u xss)∈(p,o) :: r/\k.2=p'.2):=fun h=>by
   rcases Aex (us:=r) (rest:=rest) h with h|⟨h,p',e,u,xss,hm,hk⟩
   ·exact .inl h
   ·exact .inr ⟨h,p',e,u,xss,List.mem_cons_of_mem _ hm,hk⟩
  cases o with
  | pool e u xss =>
   show Aj ((p,some (.pool e u xss)) :: (B9 r++rest)) k=_∨_;rcases Ag4 k p with ⟨j,rfl⟩|h2
   ·refine .inr ⟨?_,p,e,u,xss,List.mem_cons_self,rfl⟩;show Aj ((p,some (.pool e u xss)) :: (B9 r++rest)) (kid p j)=none;rw [Jl];cases hj:xss[j]? with
    | none=>rfl
    | some row =>
     refine absurd rfl (h (kid p j,.arr e u row) ?_);simp only [exL,List.mem_append];exact .inl (List.mem_map.2 ⟨(row,j),by rw [List.mem_zipIdx_iff_getElem?];exact hj,rfl⟩)
   ·have h3:=ih (fun q hq=>h q (by simp only [exL,List.mem_append];exact .inr hq));have:Aj (B9 ((p,Ob.pool e u xss) :: r)++rest) k=Aj (B9 r++rest) k:=Im h2;rw [this,Im h2];exact h3
  | _ =>
   have h3:=ih (fun q hq=>h q (by simp only [exL];exact List.mem_cons_of_mem _ hq));have hne:k≠p:=fun e=>h (p,_) (by simp only [exL];exact List.mem_cons_self) e.symm
   simp only [B9,List.map_cons,List.cons_append,Aj] at h3 ⊢;rw [if_neg hne];exact h3
def M3 (θ:Oid->Oid) (ol:List (Oid×Ob)):List (Oid×Option Ob):=ol.map fun q=>(θ q.1,match q.2 with | .pool e u _=>some (.pool e u [])|_=>none)
theorem Alx {θ:Oid->Oid} {ol0:List (Oid×Option Ob)}:∀ {ol:List (Oid×Ob)},(∀ p e u xss,(p,Ob.pool e u xss)∈ol->(∀ k,θ (kid p k)=kid (θ p) k)/\Fw ol0 (θ p)=some (.pool e u xss))->∀ k,(k∈(nmL ol).map θ->Aj (M3 θ ol++ol0) k=none)/\(k∉(nmL ol).map θ->Aj (M3 θ ol++ol0) k=Aj ol0 k)
 | [],_,k=>⟨fun h=>by simp [nmL,exL] at h,fun _=>rfl⟩
 | (p,o) :: r,h,k=>by
  obtain ⟨i1,i2⟩:=Alx (ol:=r) (fun p e u xss hm=>h p e u xss (List.mem_cons_of_mem _ hm)) k;cases o with
  | pool e u xss =>
   obtain ⟨g1,g2⟩:=h p e u xss List.mem_cons_self
   have hnm:∀ x,x∈(nmL ((p,Ob.pool e u xss) :: r)).map θ↔(∃ j row,xss[j]? =some row/\x=kid (θ p) j)∨x∈(nmL r).map θ:=by
    intro x;simp only [nmL,exL,List.map_append,List.mem_append,List.map_map];constructor
    ·rintro (hx|hx)
     ·obtain ⟨⟨row,j⟩,hz,rfl⟩:=List.mem_map.1 hx;rw [List.mem_zipIdx_iff_getElem?] at hz;exact .inl ⟨j,row,hz,g1 j⟩
     ·exact .inr hx
    ·rintro (⟨j,row,hj,rfl⟩|hx)
     ·exact .inl (List.mem_map.2 ⟨(row,j),by rw [List.mem_zipIdx_iff_getElem?];exact hj,g1 j⟩)
     ·exact .inr hx
   have e1:Aj (M3 θ ((p,Ob.pool e u xss) :: r)++ol0) k=if k.1.1=(θ p).1.1/\k.2=(θ p).2/\k.1.2≠0 then none else Aj (M3 θ r++ol0) k:=L6 k
   rw [e1,hnm];rcases Ag4 k (θ p) with ⟨j,rfl⟩|h2
   ·rw [if_pos ⟨rfl,rfl,by simp [kid]⟩];refine ⟨fun _=>rfl,fun hn=>?_⟩;rw [Xk g2];cases hj:xss[j]? with
    | none=>rfl
    | some row=>exact absurd (.inl ⟨j,row,hj,rfl⟩) hn
   ·rw [if_neg (Alv h2)];exact ⟨fun hx=>i1 (hx.resolve_left fun ⟨j,row,_,e⟩=>h2 j e),fun hn=>i2 fun hx=>hn (.inr hx)⟩
  | _ =>
   have e1:∀ o:Ob,o.isPool=false->Aj ((θ p,none) :: (M3 θ r++ol0)) k=if k=θ p then none else Aj (M3 θ r++ol0) k:=fun _ _=>Kp k
   simp only [M3,List.map_cons,List.cons_append] at i1 i2 ⊢;rw [Kp];simp only [nmL,exL,List.map_cons,List.mem_cons] at i1 i2 ⊢;by_cases hk:k=θ p
   ·rw [if_pos hk];exact ⟨fun _=>rfl,fun hn=>absurd (.inl hk) hn⟩
   ·rw [if_neg hk];exact ⟨fun hx=>i1 (hx.resolve_left hk),fun hn=>i2 fun hx=>hn (.inr hx)⟩
theorem Asq {θ:Oid->Oid} {i p:Oid} (h:p.2=0->∀ k,θ (kid p k)=kid (θ p) k) (k:Nat):Bu θ i (kid p k)=kid (Bu θ i p) k:=by
 unfold Bu;have e:(kid p k).2=p.2:=rfl;rw [e];by_cases h0:p.2=0
 ·rw [if_pos h0,if_pos h0,h h0]
 ·rw [if_neg h0,if_neg h0];rfl
theorem Z4:∀ {l:List (Oid×Ob)} {a:Oid×Ob},a∈l->a.2.isPool=false->(a.1,a.2.exp)∈exL l
 | x :: r,a,h,hp=>by
  obtain ⟨x1,x2⟩:=x;rcases List.mem_cons.1 h with rfl|h
  ·cases x2 <;> first|(simp only [exL,Ob.exp];exact List.mem_cons_self)|cases hp
  ·have:=Z4 h hp;cases x2 <;> simp only [exL] <;> first|exact List.mem_cons_of_mem _ this|exact List.mem_append_right _ this
theorem Up (ν:Oid->Oid):∀ l:List (Oid×Ob),B3 (Pv ν l)=(B3 l).map ν
 | []=>rfl
 | (x1,x2) :: r=>by
  have ih:=Up ν r;cases x2 <;> simp_all [B3,Pv,Ob.ren,Ob.isPool]
theorem Of (ν:Oid->Oid):∀ l:List (Oid×Ob),B4 (Pv ν l)=(B4 l).map ν
 | []=>rfl
 | (x1,x2) :: r=>by
  have ih:=Of ν r;cases x2 <;> simp_all [B4,Pv,Ob.ren,Ob.isPool]
theorem Ar1 {l:List (Oid×Ob)} {i:Oid} (hi:i∈B3 l):∃ o,(i,o)∈l/\o.isPool=false:=by
 obtain ⟨q,hq,rfl⟩:=List.mem_map.1 hi;obtain ⟨h1,h2⟩:=List.mem_filter.1 hq;exact ⟨q.2,h1,by simpa using h2⟩
theorem Av5 {l:List (Oid×Ob)} {i:Oid} (hi:i∈B4 l):∃ e u xss,(i,Ob.pool e u xss)∈l:=by
 obtain ⟨⟨j,o⟩,hq,e0⟩:=List.mem_map.1 hi;obtain rfl:j=i:=e0;obtain ⟨h1,h2⟩:=List.mem_filter.1 hq;cases o <;> first|exact ⟨_,_,_,h1⟩|cases h2
theorem Aui {θ:Oid->Oid} {i:Oid} {ol us:List (Oid×Ob)} {ob:Oid->Option Ob} (hnd:(nmL us).Nodup) (hinj:∀ j∈nmL us,∀ k∈nmL us,Bu θ i j=Bu θ i k->j=k) :
  (∀ j q,(j,q)∈exL us->Ax (Ie θ i ol us) ob (Bu θ i j)=some (q.ren (Bu θ i)))/\∀ k,(∀ j∈nmL us,Bu θ i j≠k)->Ax (Ie θ i ol us) ob k=if k∈(nmL ol).map θ then none else ob k:=by
 have hnm:∀ {l:List (Oid×Ob)} {q},q∈exL l->q.1∈nmL l:=fun hq=>List.mem_map.2 ⟨_,hq,rfl⟩
 refine ⟨fun j q hq=>?_,fun k hk=>?_⟩
 ·have hkeys:(((exL us).map fun q=>(Bu θ i q.1,some (q.2.ren (Bu θ i)))).map (·.1)).Nodup:=by
   rw [List.map_map]
   have:((exL us).map ((·.1)∘fun q:Oid×Ob=>(Bu θ i q.1,some (q.2.ren (Bu θ i)))))=(nmL us).map (Bu θ i):=by
    unfold nmL;rw [List.map_map];rfl
   rw [this];exact Aab hnd hinj
  have:=Oa (fun u:Oid×Option Ob=>u.2) (fun u=>u.1) ((exL us).map fun q=>(Bu θ i q.1,some (q.2.ren (Bu θ i)))) (Ax ((exL ol).map fun q=>(θ q.1,none)) ob) (Bu θ i j,some (q.ren (Bu θ i))) hkeys (List.mem_map.2 ⟨(j,q),hq,rfl⟩);unfold Ax Ie;rw [List.foldl_append];exact this
 ·have e1:Ax (Ie θ i ol us) ob k=Ax ((exL ol).map fun q=>(θ q.1,none)) ob k:=by
   have:=Dr (us:=(exL us).map fun q=>(Bu θ i q.1,some (q.2.ren (Bu θ i)))) (ob:=Ax ((exL ol).map fun q=>(θ q.1,none)) ob) (j:=k) fun u hu=>by
    obtain ⟨q,hq,rfl⟩:=List.mem_map.1 hu;exact hk q.1 (hnm hq)
   rw [← this];unfold Ax Ie;rw [List.foldl_append]
  rw [e1];split
  ·rename_i hk';obtain ⟨j,hj,rfl⟩:=List.mem_map.1 hk';obtain ⟨q,hq,rfl⟩:=List.mem_map.1 hj;exact (O5 ((exL ol).map fun q=>(θ q.1,none)) ob (fun u hu=>by obtain ⟨_,_,rfl⟩:=List.mem_map.1 hu;rfl)).2 (θ q.1,none) (List.mem_map.2 ⟨q,hq,rfl⟩)
  ·rename_i hk';exact Dr fun u hu e=>hk' (by obtain ⟨q,hq,rfl⟩:=List.mem_map.1 hu;exact List.mem_map.2 ⟨q.1,hnm hq,e⟩)
theorem Avo {us:List (Oid×Ob)} (nN:(B3 us).Nodup) (nP:(B4 us).Nodup) (h0:∀ q∈us,q.1.1.2=0):(nmL us).Nodup:=by
 induction us with
 | nil=>exact List.nodup_nil
 | cons x r ih =>
  obtain ⟨p,o⟩:=x;have h0':∀ q∈r,q.1.1.2=0:=fun q hq=>h0 q (List.mem_cons_of_mem _ hq)
  have hp0:p.1.2=0:=h0 (p,o) List.mem_cons_self;cases o with
  | pool e u xss =>
   have nP':(p :: B4 r).Nodup:=nP;obtain ⟨n1,n2⟩:=List.nodup_cons.1 nP';have ihr:=ih nN n2 h0';unfold nmL at ihr ⊢;simp only [exL,List.map_append,List.map_map];refine List.nodup_append.2 ⟨?_,ihr,fun a ha b hb e'=>?_⟩
   ·have:(xss.zipIdx.map ((fun x=>x.1)∘fun x:List u.D×Nat=>(kid p x.2,Ob.arr e u x.1)))=(xss.zipIdx.map (·.2)).map (kid p):=by
     rw [List.map_map];rfl
    rw [this,List.zipIdx_map_snd];exact List.pairwise_map.2 ((List.pairwise_lt_range' (s:=0) (n:=xss.length)).imp fun h e=>by have:=Gh e;omega)
   ·subst e';obtain ⟨x,_,rfl⟩:=List.mem_map.1 ha;obtain ⟨q,hq,e'⟩:=List.mem_map.1 hb;have e':q.1=kid p x.2:=e';rcases Is hq with ⟨p',e1,u',xss',k',row,m1,m2,rfl⟩|⟨o,m1,m2,m3⟩
    ·have e':kid p' k'=kid p x.2:=e';have hp1:p'.1.2=0:=h0' _ m1;have hb:p'=p:=by rw [← Dz hp1 k',e',Dz hp0]
     subst hb;exact n1 (Qg m1 rfl)
    ·have:=h0' _ m1;simp only [e'] at this;simp [kid] at this
  | _ =>
   have nN':(p :: B3 r).Nodup:=nN;obtain ⟨n1,n2⟩:=List.nodup_cons.1 nN';have ihr:=ih n2 nP h0';unfold nmL at ihr ⊢;simp only [exL,List.map_cons];refine List.nodup_cons.2 ⟨fun hm=>?_,ihr⟩;obtain ⟨q,hq,e'⟩:=List.mem_map.1 hm;rcases Is hq with ⟨p',e1,u',xss',k',row,m1,m2,rfl⟩|⟨o,m1,m2,m3⟩
   ·rw [← e'] at hp0;simp [kid] at hp0
   ·exact n1 (by rw [← e'];exact Acq (q:=(q.1,o)) m1 m2)
def Alq (ol us:List (Oid×Ob)):Bool:=(ndB (B3 us)&&ndB (B4 us))&&((us.all fun q=>q.1.2==1||(q.1.2==0&&((B3 ol).contains q.1&& !q.2.isPool)))&&Hu us)
theorem Ago {ol us:List (Oid×Ob)} (h:Alq ol us=true):∀ q∈exL us,q.1.2=1∨(q.1.2=0/\q.1∈nmL ol):=by
 simp only [Alq,Bool.and_eq_true] at h;obtain ⟨_,hug,_⟩:=h;rw [List.all_eq_true] at hug;intro q hq;rcases Is hq with ⟨p,e,u,xss,k,row,m1,m2,rfl⟩|⟨o,m1,m2,m3⟩
 ·have:=hug _ m1;simp only [Ob.isPool,Bool.not_true,Bool.and_false,Bool.or_false,beq_iff_eq] at this;exact .inl this
 ·have:=hug _ m1;simp only [Bool.or_eq_true,Bool.and_eq_true,beq_iff_eq] at this;rcases this with h|⟨h,h',_⟩
  ·exact .inl h
  ·refine .inr ⟨h,?_⟩;obtain ⟨o',ho,hp⟩:=Ar1 (List.contains_iff_mem.1 h');exact List.mem_map.2 ⟨_,Z4 ho hp,rfl⟩
theorem Arf {l:List (Oid×Oid)} {i:Oid} {ol us:List (Oid×Ob)} {ol0:List (Oid×Option Ob)} (hl:Sx l=true) (h0:Hu ol=true) (hR:Vf ol0 (Ba l) ol) (hB:Alq ol us=true) (hfr:Ow i.2 ol0=true) (hij:Atr (Ba l) ol=true) :
  Ax (Ie (Ba l) i ol us) (Aj ol0)=Aj (B9 (Pv (Bu (Ba l) i) us)++(M3 (Ba l) ol++ol0)):=by
 have hpool:∀ {l':List (Oid×Ob)},Hu l'=true->(∀ q∈l',q.1.1.2=0)/\∀ j e p u xss,(j,Ob.mat e p u xss)∈l'->p.1.2=0:=fun h=>by
  unfold Hu at h;rw [List.all_eq_true] at h;refine ⟨fun q hq=>?_,fun j e p u xss hq=>?_⟩
  ·have:=h q hq;simp only [Bool.and_eq_true,beq_iff_eq] at this;exact this.1
  ·have:=h _ hq;simp only [Bool.and_eq_true,beq_iff_eq] at this;exact this.2
 have husn:=Ago hB;simp only [Alq,Bool.and_eq_true] at hB;obtain ⟨hnd,hug,hu0⟩:=hB;obtain ⟨b1,b2⟩:=hpool h0;obtain ⟨d1,d2⟩:=hpool hu0;have nN:=G0 hnd.1;have nP:=G0 hnd.2;rw [List.all_eq_true] at hug
 let θ:=Ba l
 let ν:=Bu θ i
 have hθk:∀ p e u xss,(p,Ob.pool e u xss)∈ol->∀ k,θ (kid p k)=kid (θ p) k:=fun p e u xss hm k=>Lh hl (b1 _ hm) k
 have hνk:∀ p,p.1.2=0->∀ k,ν (kid p k)=kid (ν p) k:=fun p hp k=>Asq (fun _ k=>Lh hl hp k) k
 have hget:=Af7 hl hR (Ais h0)
 have hold:∀ j∈nmL ol,∃ o,Aj ol0 (θ j)=some o:=fun j hj=>by
  obtain ⟨q,hq,rfl⟩:=List.mem_map.1 hj;exact ⟨_,hget q hq⟩
 have hgenθ:∀ j∈nmL ol,(θ j).2≠i.2:=fun j hj e=>by
  obtain ⟨o,ho⟩:=hold j hj;rw [Q0 hfr _ e] at ho;cases ho
 have hex:=Amv (ν:=ν) (us:=us) (fun p e u xss hm=>hνk p (d1 _ hm)) (fun j e p u xss hm=>hνk p (d2 j e p u xss hm));have hθinj:=Ap1 hθk hij h0
 have hνcase:∀ j∈nmL us,(j.2=0/\j∈nmL ol/\ν j=θ j)∨(j.2=1/\ν j=((i.1.1*16+j.1.1,j.1.2),i.2)):=by
  intro j hj;obtain ⟨q,hq,rfl⟩:=List.mem_map.1 hj;rcases husn q hq with h|⟨h,h'⟩
  ·exact .inr ⟨h,by simp [ν,Bu,h]⟩
  ·exact .inl ⟨h,h',by simp [ν,Bu,h]⟩
 have hνinj:∀ j∈nmL us,∀ k∈nmL us,ν j=ν k->j=k:=by
  intro j hj k hk e;rcases hνcase j hj with ⟨a1,a2,a3⟩|⟨a1,a3⟩ <;> rcases hνcase k hk with ⟨b1,b2,b3⟩|⟨b1,b3⟩
  ·rw [a3,b3] at e;obtain ⟨r,hr,er⟩:=List.mem_map.1 a2;obtain ⟨r',hr',er'⟩:=List.mem_map.1 b2;have:=hθinj r hr r' hr' (by rw [er,er'];exact e);rw [← er,← er',this]
  ·have:=hgenθ _ a2;rw [← a3,e,b3] at this;exact absurd rfl this
  ·have:=hgenθ _ b2;rw [← b3,← e,a3] at this;exact absurd rfl this
  ·rw [a3,b3] at e;obtain ⟨⟨x1,x2⟩,x3⟩:=j;obtain ⟨⟨y1,y2⟩,y3⟩:=k;simp only [Prod.mk.injEq] at *;omega
 have hNm:∀ z∈B3 us,z∈nmL us:=fun z hz=>by
  obtain ⟨o,ho,hp⟩:=Ar1 hz;exact List.mem_map.2 ⟨_,Z4 ho hp,rfl⟩
 have hpg:∀ p∈B4 us,p.2=1/\ν p=((i.1.1*16+p.1.1,p.1.2),i.2):=by
  intro p hp;obtain ⟨e,u,xss,hm⟩:=Av5 hp;have:=hug _ hm;simp only [Ob.isPool,Bool.not_true,Bool.and_false,Bool.or_false,beq_iff_eq] at this;exact ⟨this,by simp [ν,Bu,this]⟩
 have hP0:∀ p∈B4 us,p.1.2=0:=fun p hp=>by
  obtain ⟨e,u,xss,hm⟩:=Av5 hp;exact d1 _ hm
 have hndN:(B3 (Pv ν us)).Nodup:=by
  rw [Up];exact Aab nN fun x hx y hy e=>hνinj x (hNm x hx) y (hNm y hy) e
 have hndP:(B4 (Pv ν us)).Nodup:=by
  rw [Of];refine Aab nP fun x hx y hy e=>?_
  obtain ⟨g1,e1⟩:=hpg _ hx;obtain ⟨g2,e2⟩:=hpg _ hy;rw [e1,e2] at e;obtain ⟨⟨x1,x2⟩,x3⟩:=x;obtain ⟨⟨y1,y2⟩,y3⟩:=y;simp only [Prod.mk.injEq] at *;omega
 have hfound:=Qx (rest:=M3 θ ol++ol0) hndN hndP (fun p hp=>by
  rw [Of] at hp;obtain ⟨p0,hp0,rfl⟩:=List.mem_map.1 hp;rw [(hpg p0 hp0).2];exact hP0 p0 hp0) (fun z hz p hp k e=>by
  rw [Up] at hz;rw [Of] at hp;obtain ⟨z0,hz0,rfl⟩:=List.mem_map.1 hz;obtain ⟨p0,hp0,rfl⟩:=List.mem_map.1 hp;rw [(hpg p0 hp0).2] at e;rcases hνcase z0 (hNm z0 hz0) with ⟨a1,a2,a3⟩|⟨a1,a3⟩
  ·have:=hgenθ _ a2;rw [← a3,e] at this;exact this rfl
  ·rw [a3] at e
   have:z0.1.2=0:=by
    obtain ⟨o,ho,_⟩:=Ar1 hz0;exact d1 _ ho
   have h9:=congrArg (fun i:Oid=>i.1.2) e;simp only [kid] at h9;omega)
 have hkill:=Alx (θ:=θ) (ol0:=ol0) (ol:=ol) (fun p e u xss hm=>⟨hθk p e u xss hm,by
  have:=V8 hR _ hm
  simpa only [Aoe,Ob.isPool,if_true,Ob.ren] using this⟩)
 obtain ⟨u1,u2⟩:=Aui (ob:=Aj ol0) (ol:=ol) (Avo nN nP d1) hνinj;funext k;by_cases hex':∃ j∈nmL us,ν j=k
 ·obtain ⟨j,hj,rfl⟩:=hex';obtain ⟨q,hq,rfl⟩:=List.mem_map.1 hj;rw [u1 q.1 q.2 hq];exact (hfound (ν q.1,q.2.ren ν) (by rw [hex];exact List.mem_map.2 ⟨q,hq,rfl⟩)).symm
 ·have hno:∀ j∈nmL us,ν j≠k:=fun j hj e=>hex' ⟨j,hj,e⟩
  rw [u2 k hno]
  have hno':∀ q∈exL (Pv ν us),q.1≠k:=fun q hq e=>by
   rw [hex] at hq;obtain ⟨q0,hq0,rfl⟩:=List.mem_map.1 hq;exact hno q0.1 (List.mem_map.2 ⟨q0,hq0,rfl⟩) e
  have hrest:Aj (M3 θ ol++ol0) k=if k∈(nmL ol).map θ then none else Aj ol0 k:=by
   split
   ·rename_i h;exact (hkill k).1 h
   ·rename_i h;exact (hkill k).2 h
  rcases Aex (rest:=M3 θ ol++ol0) hno' with h|⟨h,p,e,u,xss,hm,hk⟩
  ·rw [← hrest];exact h.symm
  ·have hp:p∈B4 (Pv ν us):=Qg hm rfl;rw [Of] at hp;obtain ⟨p0,hp0,rfl⟩:=List.mem_map.1 hp;have hk2:k.2=i.2:=by rw [hk,(hpg p0 hp0).2]
   have h1:Aj (B9 (Pv (Bu (Ba l) i) us)++(M3 (Ba l) ol++ol0)) k=none:=h;rw [h1];split
   ·rfl
   ·exact Q0 hfr k hk2
end Go.Proofs.YtopjojkjaklalaaGreatDoor
namespace Go.Proofs.YtopjojkjaklalaaGreatDoor
open Go.RowKit Go.Deep
section
variable {P:Program} {G:World->Prop}
theorem Ab {x y:AC} {R:AE->St->Prop} {S:St} (h:awp P G x (H0 (fun S'=>∃ S'',WeakG G S' S''/\awp P G y R S'') R) S):awp P G (.seq x y) R S:=h
theorem Aee {x y:AC} {R:AE->St->Prop} {S:St} (K:St->Prop) (h:awp P G x (H0 (fun S'=>∃ S'',WeakG G S' S''/\K S'') R) S) (k:∀ S'',K S''->awp P G y R S''):awp P G (.seq x y) R S:=by
 unfold awp
 exact Df (fun e S hq=>by
  cases e with
  | normal=>obtain ⟨S'',hw,hk⟩:=hq;exact ⟨S'',hw,k S'' hk⟩
  | exit id=>exact hq
  | ret=>exact hq) h
def Aw4 (rs:List Rec) (ds:List (List Oid)):List (Nat×Nat)->Bool
 | []=>true
 | p :: ps=>(let ri:=rs.getD p.2 (0,.any,[]);let rj:=rs.getD p.1 (0,.any,[]);let di:=ds.getD p.2 [];let dj:=ds.getD p.1 []
   ((!(ri.1==2)||rj.1==0)&&(!(rj.1==2)||ri.1==0))||((!(ri.1==2)||ri.2.2.all fun u=> !dj.contains u.1)&&((!(rj.1==2)||rj.2.2.all fun u=> !di.contains u.1)&&ri.2.2.all fun u=>rj.2.2.all fun v=> !(u.1==v.1))))&&Aw4 rs ds ps
theorem As {rs:List Rec} {ds:List (List Oid)}:∀ {bad:List (Nat×Nat)},Aw4 rs ds bad=true->Aj0 rs ds bad
 | [],_=>trivial
 | p :: ps,h=>by
  simp only [Aw4,Bool.and_eq_true] at h;refine ⟨?_,As h.2⟩;have h1:=h.1;simp only [Bool.or_eq_true,Bool.and_eq_true,Bool.not_eq_true',beq_eq_false_iff_ne,beq_iff_eq,List.all_eq_true,List.contains_eq_mem,decide_eq_false_iff_not] at h1;unfold Qt;rcases h1 with ⟨a,b⟩|⟨a,b,c⟩
  ·refine .inl ⟨fun e=>?_,fun e=>?_⟩
   ·rcases a with a|a
    ·exact absurd e a
    ·exact a
   ·rcases b with b|b
    ·exact absurd e b
    ·exact b
  ·refine .inr ⟨fun e=>?_,fun e=>?_,c⟩
   ·rcases a with a|a
    ·exact absurd e a
    ·exact a
   ·rcases b with b|b
    ·exact absurd e b
    ·exact b
def XW (P:Program) (G:World->Prop) (g k:Nat) (xs:List X) (tl:List (Nat×AV)) (ol:List (Oid×Option Ob)) (Kf:List (Nat×AV)->List (Oid×Option Ob)->Prop):Prop :=
 ∃ rs tl' ol',Atg P G g k xs (Am tl) (Aj ol) rs (Am tl') (Aj ol')/\Kf tl' ol'
def XD (P:Program) (G:World->Prop) (bad:List (Nat×Nat)) (g k:Nat) (xs:List X) (tl:List (Nat×AV)) (ol:List (Oid×Option Ob)) (ra:List Rec) (da:List (List Oid)) (Kf:List (Nat×AV)->List (Oid×Option Ob)->Prop):Prop :=
 ∃ rs ds tl' ol',Ao2 P G g k xs (Am tl) (Aj ol) rs ds (Am tl') (Aj ol')/\Aj0 (ra.reverse++rs) (da.reverse++ds) bad/\Kf tl' ol'
theorem Aa {xs:List X} {bad:List (Nat×Nat)} {R:AE->St->Prop} {tl:List (Nat×AV)} {ol:List (Oid×Option Ob)} {g:Nat} (g':Nat) (h:XW P G g 0 xs tl ol fun tl' ol'=>R .normal ⟨Am tl',Aj ol',g'⟩) (hn:g+xs.length=g':=by kernel_rfl):awp P G (.region xs false bad) R ⟨Am tl,Aj ol,g⟩:=by
 obtain ⟨rs,tl',ol',h,hr⟩:=h;exact ⟨rs,_,_,h,by subst hn;exact hr⟩
theorem Aec {tl:List (Nat×AV)} {d:Nat} {v:AV} (h:Am tl d=v):Am ((d,v) :: tl)=Am tl:=by
 funext i;show (if i=d then v else Am tl i)=Am tl i;split
 ·rename_i e;rw [e,h]
 ·rfl
theorem rq {xs:List X} {tl:List (Nat×AV)} {ol:List (Oid×Option Ob)} {g k:Nat} {Kf:List (Nat×AV)->List (Oid×Option Ob)->Prop} (d:Nat) {b c:Bool} (q:b=c) (h:XW P G g k xs ((d,.bool c) :: tl) ol Kf) (hd:Am tl d=.bool b:=by kernel_rfl):XW P G g k xs tl ol Kf:=by
 subst q;unfold XW at *
 rwa [Aec hd] at h
theorem dq {xs:List X} {bad:List (Nat×Nat)} {tl:List (Nat×AV)} {ol:List (Oid×Option Ob)} {g k:Nat} {ra:List Rec} {da:List (List Oid)} {Kf:List (Nat×AV)->List (Oid×Option Ob)->Prop} (d:Nat) {b c:Bool} (q:b=c) (h:XD P G bad g k xs ((d,.bool c) :: tl) ol ra da Kf) (hd:Am tl d=.bool b:=by kernel_rfl):XD P G bad g k xs tl ol ra da Kf:=by
 subst q;unfold XD at *
 rwa [Aec hd] at h
theorem Ao {xs:List X} {bad:List (Nat×Nat)} {R:AE->St->Prop} {tl:List (Nat×AV)} {ol:List (Oid×Option Ob)} {g:Nat} (g':Nat) (h:XD P G bad g 0 xs tl ol [] [] fun tl' ol'=>R .normal ⟨Am tl',Aj ol',g'⟩) (hn:g+xs.length=g':=by kernel_rfl):awp P G (.region xs true bad) R ⟨Am tl,Aj ol,g⟩:=by
 obtain ⟨rs,ds,tl',ol',h,hb,hr⟩:=h;exact ⟨rs,ds,_,_,h,hb,by subst hn;exact hr⟩
theorem Ql (tl:List (Nat×AV)) (d:Nat) (v:AV):upd (Am tl) d v=Am ((d,v) :: tl):=by
 funext i;rfl
def Lx:Option Ob->Bool
 | some (.pool ..)=>false
 | some (.mat ..)=>false
 | some (.tv ..)=>false
 | _=>true
def Ds (us:List (Oid×Option Ob)):Bool:=us.all fun u=>Lx u.2
theorem H3 {ol:List (Oid×Option Ob)} {j:Oid} {o:Option Ob} (h:Lx o=true):upd (Aj ol) j o=Aj ((j,o) :: ol):=by
 cases o with
 | none=>funext i;rfl
 | some o=>cases o <;> first|(funext i;rfl)|cases h
theorem Kq:∀ (us ol:List (Oid×Option Ob)),Ds us=true->Ax us (Aj ol)=Aj (us.reverseAux ol)
 | [],_,_=>rfl
 | (j,o) :: us,ol,h=>by
  simp only [Ds,List.all_cons,Bool.and_eq_true] at h;show Ax us (upd (Aj ol) j o)=_;rw [H3 h.1];exact Kq us _ h.2
theorem Gr {p:Bool} {n:Nat} {x:X} {f:Nat->AV} {ob:Oid->Option Ob} {r:Rec} (h:A7 n x f ob=some r):E5 P G p n x f ob r:=by
 unfold A7 at h;unfold E5;split at h
 ·exact .inl (.inl (.inl h))
 ·split at h
  ·rename_i hc;exact ⟨true,hc,by rw [if_pos rfl];exact .inl (.inl (.inl h))⟩
  ·rename_i hc;exact ⟨false,hc,by rw [if_neg (by simp)];exact (osj h).symm⟩
  ·cases h
def Q1 (gd:Option (Nat×Bool)) (f:Nat->AV):Prop :=
 match gd with
 | none=>True
 | some (s,c)=>f s=.bool c
theorem Xs {s:Nat} {b:Bool} {f:Nat->AV} (h:Q1 (some (s,b)) f):gdv (f s) b=some true:=by
 rw [show f s=.bool b from h];simp [gdv]
theorem Aah {s:Nat} {b:Bool} {f:Nat->AV} (h:f s=.bool b):Q1 (some (s,b)) f:=h
theorem Amu {p:Bool} {n:Nat} {d:Option Nat} {gd:Option (Nat×Bool)} {fo:Opd} {xs:List Opd} {tys:List (List (Option Ty))} {f:Nat->AV} {ob:Oid->Option Ob} {F:FuncId} {caps args0 args:List AV} {rv:RV} {r:AV×List (Oid×Option Ob)}
  (hgd:Q1 gd f) {F0:FuncId} (hfo:fo.ev f=.fn F0 caps) (hF:Pr F0=F) (h1:M7 (gnd ob 8) ((C3 F0 xs (caps.map Opd.cst)).map (Opd.ev f))=some args0) (hn:Nk tys args0=args) (hb:Ch P F=true) (hc:Cr P G F args rv) (hni:rv.noI=true) (hr:rv.out (Ce ((d.getD 0,0),n)) ((C3 F0 xs (caps.map Opd.cst)).map (Opd.ev f))=r) :
  E5 P G p n ⟨d,gd,.call fo xs tys⟩ f ob (1,r.1,r.2):=by
 subst hn hF;have key:EvR P G p f ob ((d.getD 0,0),n) (.call fo xs tys) (1,r.1,r.2):=.inr ⟨fo,xs,tys,F0,caps,rfl,hfo,.inl ⟨rfl,hb,args0,rv,.inl ⟨h1,hni⟩,hc,hr⟩⟩;unfold E5;cases gd with
 | none=>exact key
 | some sb=>exact ⟨true,Xs hgd,by rw [if_pos rfl];exact key⟩
theorem Anl {n:Nat} {d:Option Nat} {gd:Option (Nat×Bool)} {fo:Opd} {xs:List Opd} {tys:List (List (Option Ty))} {f:Nat->AV} {ob:Oid->Option Ob} {F:FuncId} {caps zs args:List AV} {v:AV} {ol us:List (Oid×Ob)} (θ:Oid->Oid)
  (hgd:Q1 gd f) (hfo:fo.ev f=.fn F caps) (hF:F<mtd) (hz:(xs++caps.map Opd.cst).map (Opd.ev f)=zs) (h1:Qa θ (Vz ((nmL ol).map θ) ob) zs args) (h2:∀ q∈exL ol,ob (θ q.1)=some (q.2.ren θ)) (h3:∀ q∈exL ol,∀ q'∈exL ol,θ q.1=θ q'.1->q.1=q'.1) (h4:∀ j∈nmL ol,Reached zs ob (θ j))
  (h5:∀ q∈exL us,q.1.2=1∨(q.1.2=0/\q.1∈nmL ol)) (hb:Ch P F=true) (hc:D1 P G F args ol v us) :
  E5 P G false n ⟨d,gd,.call fo xs tys⟩ f ob (2,v.ren (Bu θ ((d.getD 0,0),n)),Ie θ ((d.getD 0,0),n) ol us):=by
 have hN:Alz P G f ob ((d.getD 0,0),n) (Pr F) (C3 F xs (caps.map Opd.cst)) (v.ren (Bu θ ((d.getD 0,0),n)),Ie θ ((d.getD 0,0),n) ol us):=by
  rw [← hz] at h1 h4;unfold Pr C3;rw [if_pos hF,if_pos hF];refine .inl ⟨hb,θ,args,ol,us,v,h1,h2,fun j k hj hk e=>?_,h4,hc,fun j hj=>?_,rfl⟩
  ·obtain ⟨q,hq,rfl⟩:=List.mem_map.1 hj;obtain ⟨q',hq',rfl⟩:=List.mem_map.1 hk;exact h3 q hq q' hq' e
  ·obtain ⟨q,hq,rfl⟩:=List.mem_map.1 hj;rcases h5 q hq with h|⟨_,h⟩
   ·exact .inl (by rw [h];decide)
   ·exact .inr h
 have key:EvR P G false f ob ((d.getD 0,0),n) (.call fo xs tys) (2,v.ren (Bu θ ((d.getD 0,0),n)),Ie θ ((d.getD 0,0),n) ol us):=.inr ⟨fo,xs,tys,F,caps,rfl,hfo,.inr ⟨rfl,rfl,hN⟩⟩;unfold E5;cases gd with
 | none=>exact key
 | some sb=>exact ⟨true,Xs hgd,by rw [if_pos rfl];exact key⟩
theorem Avs {n:Nat} {d:Option Nat} {gd:Option (Nat×Bool)} {q:Q} {f:Nat->AV} {ob:Oid->Option Ob} {r:Rec} (hgd:Q1 gd f) (h:evL f ((d.getD 0,0),n) q=some r):E5 P G false n ⟨d,gd,q⟩ f ob r:=by
 have key:EvR P G false f ob ((d.getD 0,0),n) q r:=.inl (.inl (.inr h));unfold E5;cases gd with
 | none=>exact key
 | some sb=>exact ⟨true,Xs hgd,by rw [if_pos rfl];exact key⟩
theorem Ata {n:Nat} {d:Option Nat} {gd:Option (Nat×Bool)} {q:Q} {f:Nat->AV} {ob:Oid->Option Ob} {r:Rec} (hgd:Q1 gd f) (h:Aiv f ((d.getD 0,0),n) q r):E5 P G false n ⟨d,gd,q⟩ f ob r:=by
 have key:EvR P G false f ob ((d.getD 0,0),n) q r:=.inl (.inr h);unfold E5;cases gd with
 | none=>exact key
 | some sb=>exact ⟨true,Xs hgd,by rw [if_pos rfl];exact key⟩
theorem Ap {g k:Nat} {tl:List (Nat×AV)} {ol:List (Oid×Option Ob)} {Kf:List (Nat×AV)->List (Oid×Option Ob)->Prop} (h:Kf tl ol):XW P G g k [] tl ol Kf:=⟨[],tl,ol,⟨rfl,rfl,rfl⟩,h⟩
theorem Co {bad:List (Nat×Nat)} {g k:Nat} {tl:List (Nat×AV)} {ol:List (Oid×Option Ob)} {ra:List Rec} {da:List (List Oid)} {Kf:List (Nat×AV)->List (Oid×Option Ob)->Prop} (hb:Aj0 (ra.reverse++[]) (da.reverse++[]) bad) (h:Kf tl ol):XD P G bad g k [] tl ol ra da Kf:=⟨[],[],tl,ol,⟨rfl,rfl,rfl,rfl⟩,hb,h⟩
section
variable {g k d:Nat} {gd:Option (Nat×Bool)} {q:Q} {xs:List X} {tl:List (Nat×AV)} {ol:List (Oid×Option Ob)} {bad:List (Nat×Nat)} {ra:List Rec} {da:List (List Oid)} {Kf:List (Nat×AV)->List (Oid×Option Ob)->Prop}
theorem Agp (c:Nat) (v:AV) (us ol':List (Oid×Option Ob)) (h:E5 P G false (g+k) ⟨some d,gd,q⟩ (Am tl) (Aj ol) (c,v,us)) (he:Ax us (Aj ol)=Aj ol') (h3:XW P G g (k+1) xs ((d,v) :: tl) ol' Kf):XW P G g k (⟨some d,gd,q⟩ :: xs) tl ol Kf :=
 by
 obtain ⟨rs,tl',ol',h3,hk⟩:=h3;exact ⟨_,tl',ol',⟨_,_,rfl,h,by simp only [Oi,Ql,he];exact h3⟩,hk⟩
theorem Atx (c:Nat) (v:AV) (us ol':List (Oid×Option Ob)) (h:E5 P G false (g+k) ⟨none,gd,q⟩ (Am tl) (Aj ol) (c,v,us)) (he:Ax us (Aj ol)=Aj ol') (h3:XW P G g (k+1) xs tl ol' Kf):XW P G g k (⟨none,gd,q⟩ :: xs) tl ol Kf :=
 by
 obtain ⟨rs,tl',ol',h3,hk⟩:=h3;exact ⟨_,tl',ol',⟨_,_,rfl,h,by simp only [Oi,he];exact h3⟩,hk⟩
theorem Aj7 (c:Nat) (v:AV) (us ol':List (Oid×Option Ob)) (h:E5 P G false (g+k) ⟨some d,gd,q⟩ (Am tl) (only (rdX (Am tl) (Aj ol) ⟨some d,gd,q⟩) (Aj ol)) (c,v,us)) (he:Ax us (Aj ol)=Aj ol') (h3:XD P G bad g (k+1) xs ((d,v) :: tl) ol' ((c,v,us) :: ra) ((rdX (Am tl) (Aj ol) ⟨some d,gd,q⟩) :: da) Kf):XD P G bad g k (⟨some d,gd,q⟩ :: xs) tl ol ra da Kf :=
 by
 obtain ⟨rs,ds,tl',ol',h3,hb,hk⟩:=h3;refine ⟨_,_,tl',ol',⟨_,rs,ds,rfl,rfl,h,by simp only [Oi,Ql,he];exact h3⟩,?_,hk⟩
 simpa using hb
theorem Atw (c:Nat) (v:AV) (us ol':List (Oid×Option Ob)) (h:E5 P G false (g+k) ⟨none,gd,q⟩ (Am tl) (only (rdX (Am tl) (Aj ol) ⟨none,gd,q⟩) (Aj ol)) (c,v,us)) (he:Ax us (Aj ol)=Aj ol') (h3:XD P G bad g (k+1) xs tl ol' ((c,v,us) :: ra) ((rdX (Am tl) (Aj ol) ⟨none,gd,q⟩) :: da) Kf):XD P G bad g k (⟨none,gd,q⟩ :: xs) tl ol ra da Kf :=
 by
 obtain ⟨rs,ds,tl',ol',h3,hb,hk⟩:=h3;refine ⟨_,_,tl',ol',⟨_,rs,ds,rfl,rfl,h,by simp only [Oi,he];exact h3⟩,?_,hk⟩
 simpa using hb
theorem Abh (c:Nat) (v:AV) (us:List (Oid×Option Ob)) (h:E5 P G false (g+k) ⟨some d,gd,q⟩ (Am tl) (Aj ol) (c,v,us)) (h3:XW P G g (k+1) xs ((d,v) :: tl) (us.reverseAux ol) Kf) (hx:Ds us=true):XW P G g k (⟨some d,gd,q⟩ :: xs) tl ol Kf:=Agp c v us _ h (Kq us ol hx) h3
theorem Awh (c:Nat) (v:AV) (us:List (Oid×Option Ob)) (h:E5 P G false (g+k) ⟨none,gd,q⟩ (Am tl) (Aj ol) (c,v,us)) (h3:XW P G g (k+1) xs tl (us.reverseAux ol) Kf) (hx:Ds us=true):XW P G g k (⟨none,gd,q⟩ :: xs) tl ol Kf:=Atx c v us _ h (Kq us ol hx) h3
theorem X7 (c:Nat) (v:AV) (us:List (Oid×Option Ob)) (h:E5 P G false (g+k) ⟨some d,gd,q⟩ (Am tl) (only (rdX (Am tl) (Aj ol) ⟨some d,gd,q⟩) (Aj ol)) (c,v,us)) (h3:XD P G bad g (k+1) xs ((d,v) :: tl) (us.reverseAux ol) ((c,v,us) :: ra) ((rdX (Am tl) (Aj ol) ⟨some d,gd,q⟩) :: da) Kf) (hx:Ds us=true):XD P G bad g k (⟨some d,gd,q⟩ :: xs) tl ol ra da Kf:=Aj7 c v us _ h (Kq us ol hx) h3
theorem Aw8 (c:Nat) (v:AV) (us:List (Oid×Option Ob)) (h:E5 P G false (g+k) ⟨none,gd,q⟩ (Am tl) (only (rdX (Am tl) (Aj ol) ⟨none,gd,q⟩) (Aj ol)) (c,v,us)) (h3:XD P G bad g (k+1) xs tl (us.reverseAux ol) ((c,v,us) :: ra) ((rdX (Am tl) (Aj ol) ⟨none,gd,q⟩) :: da) Kf) (hx:Ds us=true):XD P G bad g k (⟨none,gd,q⟩ :: xs) tl ol ra da Kf:=Atw c v us _ h (Kq us ol hx) h3
theorem Ax1 {ol':List (Oid×Option Ob)} (he:Aj ol=Aj ol') (h:XW P G g k xs tl ol' Kf):XW P G g k xs tl ol Kf:=by
 obtain ⟨rs,tl',ol2,h1,h2⟩:=h;exact ⟨rs,tl',ol2,by rw [he];exact h1,h2⟩
theorem Alr {ol':List (Oid×Option Ob)} (he:Aj ol=Aj ol') (h:XD P G bad g k xs tl ol' ra da Kf):XD P G bad g k xs tl ol ra da Kf:=by
 obtain ⟨rs,ds,tl',ol2,h1,h2⟩:=h;exact ⟨rs,ds,tl',ol2,by rw [he];exact h1,h2⟩
-- the shape of most steps: what the machine says is found by reckoning
theorem rs0 (v:AV) (h:A7 (g+k) ⟨some d,gd,q⟩ (Am tl) (Aj ol)=some (0,v,[])) (h3:XW P G g (k+1) xs ((d,v) :: tl) ol Kf):XW P G g k (⟨some d,gd,q⟩ :: xs) tl ol Kf:=Abh 0 v [] (Gr h) h3 rfl
theorem rsl (v:AV) (h:A7 (g+k) ⟨some d,gd,q⟩ (Am tl) (Aj ol)=some (1,v,[])) (h3:XW P G g (k+1) xs ((d,v) :: tl) ol Kf):XW P G g k (⟨some d,gd,q⟩ :: xs) tl ol Kf:=Abh 1 v [] (Gr h) h3 rfl
theorem rs1 (v:AV) (i:Oid) (o:Ob) (h:A7 (g+k) ⟨some d,gd,q⟩ (Am tl) (Aj ol)=some (1,v,[(i,some o)])) (h3:XW P G g (k+1) xs ((d,v) :: tl) ((i,some o) :: ol) Kf) (hx:Lx (some o)=true:=by rfl):XW P G g k (⟨some d,gd,q⟩ :: xs) tl ol Kf:=Abh 1 v _ (Gr h) h3 (by simp only [Ds,List.all_cons,List.all_nil,hx];rfl)
theorem rs2 (v:AV) (j i:Oid) (o:Ob) (h:A7 (g+k) ⟨some d,gd,q⟩ (Am tl) (Aj ol)=some (2,v,[(j,none),(i,some o)])) (h3:XW P G g (k+1) xs ((d,v) :: tl) ((i,some o) :: (j,none) :: ol) Kf) (hx:Lx (some o)=true:=by rfl):XW P G g k (⟨some d,gd,q⟩ :: xs) tl ol Kf:=Abh 2 v _ (Gr h) h3 (by simp only [Ds,List.all_cons,List.all_nil,hx];rfl)
theorem Afj (j i:Oid) (o:Ob) (h:A7 (g+k) ⟨none,gd,q⟩ (Am tl) (Aj ol)=some (2,.any,[(j,none),(i,some o)])) (h3:XW P G g (k+1) xs tl ((i,some o) :: (j,none) :: ol) Kf) (hx:Lx (some o)=true:=by rfl):XW P G g k (⟨none,gd,q⟩ :: xs) tl ol Kf:=Awh 2 _ _ (Gr h) h3 (by simp only [Ds,List.all_cons,List.all_nil,hx];rfl)
theorem ds0 (v:AV) (h:A7 (g+k) ⟨some d,gd,q⟩ (Am tl) (only (rdX (Am tl) (Aj ol) ⟨some d,gd,q⟩) (Aj ol))=some (0,v,[])) (h3:XD P G bad g (k+1) xs ((d,v) :: tl) ol ((0,v,[]) :: ra) ((rdX (Am tl) (Aj ol) ⟨some d,gd,q⟩) :: da) Kf):XD P G bad g k (⟨some d,gd,q⟩ :: xs) tl ol ra da Kf:=X7 0 v [] (Gr h) h3 rfl
theorem dsl (v:AV) (h:A7 (g+k) ⟨some d,gd,q⟩ (Am tl) (only (rdX (Am tl) (Aj ol) ⟨some d,gd,q⟩) (Aj ol))=some (1,v,[])) (h3:XD P G bad g (k+1) xs ((d,v) :: tl) ol ((1,v,[]) :: ra) ((rdX (Am tl) (Aj ol) ⟨some d,gd,q⟩) :: da) Kf):XD P G bad g k (⟨some d,gd,q⟩ :: xs) tl ol ra da Kf:=X7 1 v [] (Gr h) h3 rfl
theorem ds1 (v:AV) (i:Oid) (o:Ob) (h:A7 (g+k) ⟨some d,gd,q⟩ (Am tl) (only (rdX (Am tl) (Aj ol) ⟨some d,gd,q⟩) (Aj ol))=some (1,v,[(i,some o)])) (h3:XD P G bad g (k+1) xs ((d,v) :: tl) ((i,some o) :: ol) ((1,v,[(i,some o)]) :: ra) ((rdX (Am tl) (Aj ol) ⟨some d,gd,q⟩) :: da) Kf) (hx:Lx (some o)=true:=by rfl):XD P G bad g k (⟨some d,gd,q⟩ :: xs) tl ol ra da Kf:=X7 1 v _ (Gr h) h3 (by simp only [Ds,List.all_cons,List.all_nil,hx];rfl)
theorem ds2 (v:AV) (j i:Oid) (o:Ob) (h:A7 (g+k) ⟨some d,gd,q⟩ (Am tl) (only (rdX (Am tl) (Aj ol) ⟨some d,gd,q⟩) (Aj ol))=some (2,v,[(j,none),(i,some o)])) (h3:XD P G bad g (k+1) xs ((d,v) :: tl) ((i,some o) :: (j,none) :: ol) ((2,v,[(j,none),(i,some o)]) :: ra) ((rdX (Am tl) (Aj ol) ⟨some d,gd,q⟩) :: da) Kf) (hx:Lx (some o)=true:=by rfl):XD P G bad g k (⟨some d,gd,q⟩ :: xs) tl ol ra da Kf:=X7 2 v _ (Gr h) h3 (by simp only [Ds,List.all_cons,List.all_nil,hx];rfl)
theorem Oz (j i:Oid) (o:Ob) (h:A7 (g+k) ⟨none,gd,q⟩ (Am tl) (only (rdX (Am tl) (Aj ol) ⟨none,gd,q⟩) (Aj ol))=some (2,.any,[(j,none),(i,some o)])) (h3:XD P G bad g (k+1) xs tl ((i,some o) :: (j,none) :: ol) ((2,.any,[(j,none),(i,some o)]) :: ra) ((rdX (Am tl) (Aj ol) ⟨none,gd,q⟩) :: da) Kf) (hx:Lx (some o)=true:=by rfl):XD P G bad g k (⟨none,gd,q⟩ :: xs) tl ol ra da Kf:=Aw8 2 _ _ (Gr h) h3 (by simp only [Ds,List.all_cons,List.all_nil,hx];rfl)
section
variable {fo:Opd} {ys:List Opd} {tys:List (List (Option Ty))} {F:FuncId} {caps:List AV} {rv:RV} {args0:List AV}
theorem Jk (v:AV) (us:List (Oid×Option Ob)) (zs args:List AV) (hgd:Q1 gd (Am tl)) (h1:M7 (gnd (Aj ol) 8) zs=some args0) (hc:Cr P G F args rv) (hb:Ch P F=true) (h3:XW P G g (k+1) xs ((d,v) :: tl) (us.reverseAux ol) Kf) (m:Nat:=0) (hfo:fo.ev (Am tl)=.fn (F+m) caps:=by kernel_rfl) (hz:(C3 (F+m) ys (caps.map Opd.cst)).map (Opd.ev (Am tl))=zs:=by kernel_rfl) (hn:Nk tys args0=args:=by kernel_rfl) (hr:rv.out (Ce ((d,0),g+k)) zs=(v,us):=by kernel_rfl) (hF:Pr (F+m)=F:=by kernel_rfl) (hx:Ds us=true:=by rfl) (hni:rv.noI=true:=by kernel_rfl):XW P G g k (⟨some d,gd,.call fo ys tys⟩ :: xs) tl ol Kf:=by
 subst hz;exact Abh 1 v us (Amu (P:=P) (G:=G) (p:=false) (n:=g+k) (d:=some d) hgd hfo hF h1 hn hb hc hni hr) h3 hx
theorem My (v:AV) (us:List (Oid×Option Ob)) (zs args:List AV) (hgd:Q1 gd (Am tl)) (h1:M7 (gnd (only (rdX (Am tl) (Aj ol) ⟨some d,gd,.call fo ys tys⟩) (Aj ol)) 8) zs=some args0) (hc:Cr P G F args rv) (hb:Ch P F=true) (h3:XD P G bad g (k+1) xs ((d,v) :: tl) (us.reverseAux ol) ((1,v,us) :: ra) ((rdX (Am tl) (Aj ol) ⟨some d,gd,.call fo ys tys⟩) :: da) Kf) (m:Nat:=0) (hfo:fo.ev (Am tl)=.fn (F+m) caps:=by kernel_rfl) (hz:(C3 (F+m) ys (caps.map Opd.cst)).map (Opd.ev (Am tl))=zs:=by kernel_rfl) (hn:Nk tys args0=args:=by kernel_rfl) (hr:rv.out (Ce ((d,0),g+k)) zs=(v,us):=by kernel_rfl) (hF:Pr (F+m)=F:=by kernel_rfl) (hx:Ds us=true:=by rfl) (hni:rv.noI=true:=by kernel_rfl):XD P G bad g k (⟨some d,gd,.call fo ys tys⟩ :: xs) tl ol ra da Kf:=by
 subst hz;exact X7 1 v us (Amu (P:=P) (G:=G) (p:=false) (n:=g+k) (d:=some d) hgd hfo hF h1 hn hb hc hni hr) h3 hx
def X2 (l:List (Oid×Oid)) (ol us:List (Oid×Ob)) (n:Nat) (ol0:List (Oid×Option Ob)):Bool:=Sx l&&(Hu ol&&(Atr (Ba l) ol&&(Alq ol us&&Ow n ol0)))
theorem Wb {l:List (Oid×Oid)} {ol us:List (Oid×Ob)} {n:Nat} {ol0:List (Oid×Option Ob)} (h:X2 l ol us n ol0=true) (hR:Vf ol0 (Ba l) ol) :
  (∀ q∈exL ol,Aj ol0 (Ba l q.1)=some (q.2.ren (Ba l)))/\(∀ q∈exL ol,∀ q'∈exL ol,Ba l q.1=Ba l q'.1->q.1=q'.1)/\(∀ q∈exL us,q.1.2=1∨(q.1.2=0/\q.1∈nmL ol))/\∀ i:Oid,i.2=n->Ax (Ie (Ba l) i ol us) (Aj ol0)=Aj (B9 (Pv (Bu (Ba l) i) us)++(M3 (Ba l) ol++ol0)):=by
 simp only [X2,Bool.and_eq_true] at h;obtain ⟨c1,c2,c3,c4,c5⟩:=h;refine ⟨Af7 c1 hR (Ais c2),Ap1 (fun p e u xss hm k=>Lh c1 ?_ k) c3 c2,Ago c4,fun i hi=>Arf c1 c2 hR c4 (by rw [hi];exact c5) c3⟩;unfold Hu at c2;rw [List.all_eq_true] at c2;have:=c2 _ hm;simp only [Bool.and_eq_true,beq_iff_eq] at this;exact this.1
theorem L0 (v:AV) (ul:List (Oid×Option Ob)) (l:List (Oid×Oid)) (zs:List AV) {args:List AV} {ol0 us:List (Oid×Ob)} {v0:AV} (hgd:Q1 gd (Am tl)) (hc:D1 P G F args ol0 v0 us) (hb:Ch P F=true) (hR:Vf ol (Ba l) ol0) (h1:Qa (Ba l) (Vz ((nmL ol0).map (Ba l)) (Aj ol)) zs args) (h4:∀ j∈nmL ol0,Reached zs (Aj ol) (Ba l j)) (h3:XW P G g (k+1) xs ((d,v) :: tl) (ul++ol) Kf) (hfo:fo.ev (Am tl)=.fn F caps:=by kernel_rfl) (hz:(ys++caps.map Opd.cst).map (Opd.ev (Am tl))=zs:=by kernel_rfl) (hB:X2 l ol0 us (g+k) ol=true:=by kernel_rfl) (hF:F<mtd:=by decide) (hv:v0.ren (Bu (Ba l) ((d,0),g+k))=v:=by kernel_rfl) (hu:B9 (Pv (Bu (Ba l) ((d,0),g+k)) us)++M3 (Ba l) ol0=ul:=by kernel_rfl):XW P G g k (⟨some d,gd,.call fo ys tys⟩ :: xs) tl ol Kf:=by
 subst hv hu;obtain ⟨q1,q2,q3,q4⟩:=Wb hB hR;exact Agp 2 _ _ _ (Anl (n:=g+k) (d:=some d) (Ba l) hgd hfo hF hz h1 q1 q2 h4 q3 hb hc) (q4 ((d,0),g+k) rfl) (by rw [List.append_assoc] at h3;exact h3)
theorem Alk (v:AV) (ul:List (Oid×Option Ob)) (l:List (Oid×Oid)) (zs:List AV) {args:List AV} {ol0 us:List (Oid×Ob)} {v0:AV} (hgd:Q1 gd (Am tl)) (hc:D1 P G F args ol0 v0 us) (hb:Ch P F=true) (hR:Vf ol (Ba l) ol0) (h1:Qa (Ba l) (Vz ((nmL ol0).map (Ba l)) (only (rdX (Am tl) (Aj ol) ⟨some d,gd,.call fo ys tys⟩) (Aj ol))) zs args) (h4:∀ j∈nmL ol0,Reached zs (only (rdX (Am tl) (Aj ol) ⟨some d,gd,.call fo ys tys⟩) (Aj ol)) (Ba l j)) (hd:∀ q∈exL ol0,Ba l q.1∈rdX (Am tl) (Aj ol) ⟨some d,gd,.call fo ys tys⟩) (h3:XD P G bad g (k+1) xs ((d,v) :: tl) (ul++ol) ((2,v,Ie (Ba l) ((d,0),g+k) ol0 us) :: ra) ((rdX (Am tl) (Aj ol) ⟨some d,gd,.call fo ys tys⟩) :: da) Kf) (hfo:fo.ev (Am tl)=.fn F caps:=by kernel_rfl) (hz:(ys++caps.map Opd.cst).map (Opd.ev (Am tl))=zs:=by kernel_rfl) (hB:X2 l ol0 us (g+k) ol=true:=by kernel_rfl) (hF:F<mtd:=by decide) (hv:v0.ren (Bu (Ba l) ((d,0),g+k))=v:=by kernel_rfl) (hu:B9 (Pv (Bu (Ba l) ((d,0),g+k)) us)++M3 (Ba l) ol0=ul:=by kernel_rfl):XD P G bad g k (⟨some d,gd,.call fo ys tys⟩ :: xs) tl ol ra da Kf:=by
 subst hv hu;obtain ⟨q1,q2,q3,q4⟩:=Wb hB hR;exact Aj7 2 _ _ _ (Anl (n:=g+k) (d:=some d) (Ba l) hgd hfo hF hz h1 (fun q hq=>by unfold only;rw [if_pos (hd q hq)];exact q1 q hq) q2 h4 q3 hb hc) (q4 ((d,0),g+k) rfl) (by rw [List.append_assoc] at h3;exact h3)
theorem rsU (v:AV) (us:List (Oid×Option Ob)) (h:A7 (g+k) ⟨some d,gd,q⟩ (Am tl) (Aj ol)=some (2,v,us)) (h3:XW P G g (k+1) xs ((d,v) :: tl) (us.reverseAux ol) Kf) (hx:Ds us=true:=by rfl):XW P G g k (⟨some d,gd,q⟩ :: xs) tl ol Kf:=Abh 2 v us (Gr h) h3 hx
theorem dsU (v:AV) (us:List (Oid×Option Ob)) (h:A7 (g+k) ⟨some d,gd,q⟩ (Am tl) (only (rdX (Am tl) (Aj ol) ⟨some d,gd,q⟩) (Aj ol))=some (2,v,us)) (h3:XD P G bad g (k+1) xs ((d,v) :: tl) (us.reverseAux ol) ((2,v,us) :: ra) ((rdX (Am tl) (Aj ol) ⟨some d,gd,q⟩) :: da) Kf) (hx:Ds us=true:=by rfl):XD P G bad g k (⟨some d,gd,q⟩ :: xs) tl ol ra da Kf:=X7 2 v us (Gr h) h3 hx
end
end
-- what arguments read as
theorem Bg {g:AV->Option AV}:M7 g []=some []:=rfl
theorem Al {g:AV->Option AV} {c d:AV} {cs ds:List AV} (h:g c=some d) (hs:M7 g cs=some ds):M7 g (c :: cs)=some (d :: ds):=by simp only [M7,h,hs]
section
variable {ob:Oid->Option Ob} {n:Nat}
theorem Bl {i:Oid} {t u:Ty} {e:TypeId} {xs:List u.D} {len:Nat} (h:ob i=some (.arr e u xs)) (hl:len=xs.length):gnd ob (n+1) (.own i t 0 len)=some (.tree u xs):=by
 subst hl;simp only [gnd,h,Nat.zero_add,Nat.le_refl,if_true,List.drop_zero,List.take_length]
theorem Afz {i:Oid} {t u:Ty} {e:TypeId} {xs:List u.D} {len:Nat} (h:ob i=some (.arr e u xs)) (hl:len<=xs.length):gnd ob (n+1) (.own i t 0 len)=some (.tree u (xs.take len)):=by
 simp only [gnd,h,Nat.zero_add,if_pos hl,List.drop_zero]
theorem Aqc {i:Oid} {t u:Ty} {e:TypeId} {xs ys:List u.D} {off len:Nat} (h:ob i=some (.arr e u xs)) (hl:off+len<=xs.length) (hy:ys=(xs.drop off).take len):gnd ob (n+1) (.own i t off len)=some (.tree u ys):=by
 subst hy;simp only [gnd,h,if_pos hl]
theorem Z6 {cs ds:List AV} (h:M7 (gnd ob n) cs=some ds):gnd ob (n+1) (.agg cs)=some (.agg ds):=by simp only [gnd,h,Option.map_some]
theorem Avh {f:FuncId} {cs ds:List AV} (h:M7 (gnd ob n) cs=some ds):gnd ob (n+1) (.fn f cs)=some (.fn f ds):=by simp only [gnd,h,Option.map_some]
theorem Akj {i:Oid} {k:Nat} {ty:TypeId} {cs es ds:List AV} (h:ob i=some (.cells ty cs)) (he:cs.drop k=es) (hs:M7 (gnd ob n) es=some ds):gnd ob (n+1) (.box i k)=some (.ref ds):=by simp only [gnd,h,he,hs,Option.map_some]
end
-- steps that hang on something
section
variable {n:Nat} {d:Option Nat} {f:Nat->AV} {ob:Oid->Option Ob}
theorem Ayi {s:Nat} {b c:Bool} {q:Q} {r:Option Rec} (hs:f s=.bool c) (hc:c=b) (h:A7 n ⟨d,none,q⟩ f ob=r):A7 n ⟨d,some (s,b),q⟩ f ob=r:=by
 subst hc;simp only [A7,hs,gdv,beq_self_eq_true];exact h
theorem Zl {s:Nat} {b:Bool} {q:Q} (hs:f s=.tup []):A7 n ⟨d,some (s,b),q⟩ f ob=some (0,.tup [],[]):=by
 simp [A7,hs,gdv]
theorem Agd {sz:Nat} {x i:Opd} {t:Ty} {xs:List t.D} {y:t.D} {k:IntKind} {m:Int} {j:Nat} (hx:(x.ev f).un=.tree t xs) (hi:i.ev f=.int k m) (hs:sz=t.size) (h0:0<=m) (hj:m.toNat=j) (hy:xs[j]? =some y) {g:Option (Nat->Prop)} (hg:(x.ev f).tag=g:=by kernel_rfl):A7 n ⟨d,none,.i (.idx sz x i)⟩ f ob=some (0,.telt g t y 0,[]):=by
 subst hs hj hg;simp [A7,ev,evN,hx,hi,h0,hy]
theorem Wn {sz:Nat} {x i:Opd} {t:Ty} {o:Oid} {len:Nat} {k:IntKind} {m:Int} {j:Nat} (hx:x.ev f=.own o t 0 len) (hi:i.ev f=.int k m) (hs:sz=t.size) (h0:0<=m) (hj:m.toNat=j) (hl:j<len):A7 n ⟨d,none,.i (.idx sz x i)⟩ f ob=some (0,.elt o j 0,[]):=by
 subst hs hj;have:m<(len:Int):=by omega
 simp [A7,ev,evN,hx,hi,h0,AV.un,this]
theorem Aw5 {sz:Nat} {x i:Opd} {t:Ty} {o:Oid} {off len:Nat} {k:IntKind} {m:Int} {j:Nat} (hx:x.ev f=.own o t off len) (hi:i.ev f=.int k m) (hs:sz=t.size) (h0:0<=m) (hj:off+m.toNat=j) (hl:m.toNat<len):A7 n ⟨d,none,.i (.idx sz x i)⟩ f ob=some (0,.elt o j 0,[]):=by
 subst hs hj;have:m<(len:Int):=by omega
 simp [A7,ev,evN,hx,hi,h0,AV.un,this]
def tyA:Nat->Ty
 | 0=>.int
 | n+1=>.pair .int (tyA n)
def He:(n:Nat)->List Int->(tyA n).D
 | 0,l=>l.getD 0 0
 | n+1,l=>(l.getD 0 0,He n l.tail)
theorem Sd:∀ (n:Nat) (l:List Int),((tyA n).av (He n l)).length=n+1
 | 0,_=>rfl
 | n+1,l=>by simp [tyA,He,Ty.av,Sd n]
theorem Wp:∀ (n:Nat) (l:List Int),(tyA n).ofAV ((tyA n).av (He n l))=some (He n l)
 | 0,_=>rfl
 | n+1,l=>by
  have:=Wp n l.tail;simp only [tyA,He,Ty.av,List.cons_append,List.nil_append,Ty.ofAV,Ty.size,List.take_succ_cons,List.take_zero,List.drop_succ_cons,List.drop_zero,this,ofI,obs,Option.map_some]
theorem Ax7 {m N:Nat} {x:Opd} {i:Oid} {e:Nat} {ty:TypeId} {xs:List (tyA N).D} {l:List Int} (hx:x.ev f=.elt i e 0) (hob:ob i=some (.arr ty (tyA N) xs)) (hl:xs[e]? =some (He N l)) (hm:m=N+1):A7 n ⟨d,none,.i (.ld false m x)⟩ f ob=some (1,.agg ((tyA N).av (He N l)),[]):=by
 subst hm;have h1:=Sd N l;simp [A7,ev,evN,evR,hx,hob,hl,C5,h1];rw [List.take_of_length_le oM]
theorem Aig:∀ (n:Nat) (l:List Int),((tyA n).av (He n l)).all AV.one=true
 | 0,_=>rfl
 | n+1,l=>by simp [tyA,He,Ty.av,AV.one,Aig n,← List.all_eq_true]
theorem Ax6 {m N:Nat} {x y:Opd} {i:Oid} {e:Nat} {ty:TypeId} {xs ys:List (tyA N).D} {l l2:List Int} (hx:x.ev f=.elt i e 0) (hob:ob i=some (.arr ty (tyA N) xs)) (hl:xs[e]? =some (He N l)) (hm:m=N+1) (hv:y.ev f=.agg ((tyA N).av (He N l2))) (hs:xs.set e (He N l2)=ys) :
  A7 n ⟨d,none,.st false m x y⟩ f ob=some (2,.any,[(i,none),(i,some (.arr ty (tyA N) ys))]):=by
 subst hs hm;have h1:=Sd N l;have h2:=Sd N l2;have h3:=Aig N l2
 have h4:J5 false (N+1) 0 ((tyA N).av (He N l)) (.agg ((tyA N).av (He N l2)))=some ((tyA N).av (He N l2)):=by
  simp only [J5,h2,h1,h3,Nat.zero_add,Nat.le_refl,and_self,if_true,List.take_zero,List.nil_append,Bool.false_eq_true,if_false];rw [List.drop_of_length_le oM,List.append_nil]
 simp [A7,ev,Ad2,hx,hob,hl,hv,h4,Wp]
theorem H5 {one:Bool} {m:Nat} {x:Opd} {i:Oid} {j k:Nat} {e:TypeId} {t:Ty} {xs:List t.D} {y:t.D} {c:AV} (hx:x.ev f=.elt i j k) (hob:ob i=some (.arr e t xs)) (hy:xs[j]? =some y) (hc:C5 one m k (t.av y)=some c):A7 n ⟨d,none,.i (.ld one m x)⟩ f ob=some (1,c,[]):=by
 simp [A7,ev,evN,evR,hx,hob,hy,hc]
theorem Vm {one:Bool} {m:Nat} {x y:Opd} {i:Oid} {j k:Nat} {e:TypeId} {t:Ty} {xs:List t.D} {x0 x1:t.D} {cs:List AV} (hx:x.ev f=.elt i j k) (hob:ob i=some (.arr e t xs)) (hy:xs[j]? =some x0) (hc:J5 one m k (t.av x0) (y.ev f)=some cs) (hd:t.ofAV cs=some x1):A7 n ⟨d,none,.st one m x y⟩ f ob=some (2,.any,[(i,none),(i,some (.arr e t (xs.set j x1)))]):=by
 simp [A7,ev,Ad2,hx,hob,hy,hc,hd]
theorem Ot {e:TypeId} {t:Ty} {by_:Nat} {l c:Opd} {k k':IntKind} {m m':Int} {j:Nat} (hl:l.ev f=.int k m) (hc:c.ev f=.int k' m') (h:0<=m/\m<=m'/\m'<=1073741824/\(by_:Int)*m'<=140737488355328) (hj:m.toNat=j):A7 n ⟨d,none,.make e t by_ l c⟩ f ob=some (1,.own ((d.getD 0,0),n) t 0 j,[(((d.getD 0,0),n),some (.arr e t (List.replicate j t.dflt)))]):=by
 subst hj;simp only [A7,ev,Aaw,hl,hc,if_pos h]
theorem Jf {t t':Ty} {i:Oid} {e:TypeId} {xs:List t.D} {len:Nat} (h:ob i=some (.arr e t xs)) (hl:len=xs.length):D8 ob t (.own i t' 0 len)=some xs:=by
 subst hl;simp only [D8,h,Nat.zero_add,Nat.le_refl,if_true,Ty.eq?_self,Ca,List.drop_zero,List.take_length]
theorem Av2 {t t':Ty} {i:Oid} {e:TypeId} {xs ys:List t.D} {off len:Nat} (h:ob i=some (.arr e t xs)) (hl:off+len<=xs.length) (hy:ys=(xs.drop off).take len):D8 ob t (.own i t' off len)=some ys:=by
 subst hy;simp only [D8,h,if_pos hl,Ty.eq?_self,Ca]
theorem J2 {t:Ty} {xs:List t.D}:D8 ob t (.tree t xs)=some xs:=by simp only [D8,Ty.eq?_self,Ca]
theorem Qy {t:Ty}:Vd f ob t []=some []:=rfl
theorem Dp {t:Ty} {x:Opd} {c:AV} {xs:List Opd} {ys:List t.D} {yss:List (List t.D)} (hx:x.ev f=c) (hs:D8 ob t c=some ys) (h:Vd f ob t xs=some yss):Vd f ob t (x :: xs)=some (ys :: yss):=by
 simp only [Vd,hx,hs,h]
theorem Ack {t:Ty} {xs:List Opd} {yss:List (List t.D)} {us:List (Oid×Option Ob)} (h:Vd f ob t xs=some yss) {e:TypeId} (hu:(xs.flatMap fun x=>Q7 (x.ev f))=us):A7 n ⟨d,none,.mkV e (.slice t) 1 xs⟩ f ob=some (2,.tree (.slice t) yss,us):=by
 subst hu;simp only [A7,ev,Vr,h,if_true]
theorem P5 {e:TypeId} {t t':Ty} {by_:Nat} {x y:Opd} {c:AV} {ys xs zs:List t.D} {j:Oid} {len:Nat} (hx:x.ev f=.own j t' 0 len) (hob:ob j=some (.arr e t xs)) (hl:len=xs.length) (hy:y.ev f=c) (hs:D8 ob t c=some ys) (hz:zs=xs++ys) (h:xs.length+ys.length<=1073741824/\(xs.length+ys.length)*by_<=140737488355328) :
  A7 n ⟨d,none,.append e t by_ x y⟩ f ob=some (2,.own (j.1,n) t 0 zs.length,[(j,none),((j.1,n),some (.arr e t zs))]):=by
 subst hl hz;simp only [A7,ev,Kz,hx,hy,hs,hob,Ty.eq?_self,Nat.le_refl,true_and,h.1,h.2,and_self,if_true,Ca,List.take_length,List.length_append]
theorem Awf {e:TypeId} {t t':Ty} {by_:Nat} {x y:Opd} {c:AV} {ys xs zs:List t.D} {j:Oid} {len:Nat} (hx:x.ev f=.own j t' 0 len) (hob:ob j=some (.arr e t xs)) (hl:len<=xs.length) (hy:y.ev f=c) (hs:D8 ob t c=some ys) (hz:zs=xs.take len++ys) (h:(xs.take len).length+ys.length<=1073741824/\((xs.take len).length+ys.length)*by_<=140737488355328) :
  A7 n ⟨d,none,.append e t by_ x y⟩ f ob=some (2,.own (j.1,n) t 0 zs.length,[(j,none),((j.1,n),some (.arr e t zs))]):=by
 subst hz;have hl':(xs.take len).length=len:=by rw [List.length_take];omega
 rw [hl'] at h;simp only [A7,ev,Kz,hx,hy,hs,hob,Ty.eq?_self,hl,true_and,h.1,h.2,and_self,if_true,Ca,List.length_append,hl']
theorem Aix {sz:Nat} {x:Opd} {lo hi mx:Option Opd} {t:Ty} {xs zs:List t.D} {l h m:Int} (hx:(x.ev f).un=.tree t xs) (hl:Ey f 0 lo=some l) (hh:Ey f xs.length hi=some h) (hm:Ey f xs.length mx=some m) (hs:t.size=sz) (hb:0<=l/\l<=h/\h<=m/\m<=xs.length) (hz:(xs.take h.toNat).drop l.toNat=zs) (htag:(x.ev f).tag=none:=by kernel_rfl) :
  A7 n ⟨d,none,.slice sz x lo hi mx⟩ f ob=some (0,.tree t zs,[]):=by
 subst hs hz;simp only [A7,ev,Sz,hx,htag,trM,hl,hh,hm,true_and,hb.1,hb.2.1,hb.2.2.1,hb.2.2.2,and_self,if_true]
theorem G5 {sz:Nat} {x:Opd} {lo hi:Option Opd} {t:Ty} {i:Oid} {off len o' j:Nat} {l h:Int} (hx:x.ev f=.own i t off len) (hl:Ey f 0 lo=some l) (hh:Ey f len hi=some h) (hs:t.size=sz) (hb:0<=l/\l<=h/\h<=len) (ho:off+l.toNat=o') (hj:(h - l).toNat=j) :
  A7 n ⟨d,none,.slice sz x lo hi none⟩ f ob=some (0,.own i t o' j,[]):=by
 subst hs ho hj;simp only [A7,ev,Sz,hx,AV.un,hl,hh,true_and,hb.1,hb.2.1,hb.2.2,and_self,if_true]
theorem Arq {x y:Opd} {j:Nat} (hx:x.ev f=.int .i64 j) (hy:y.ev f=.int .i64 1) (h:j+1<4611686018427387904):A7 n ⟨d,none,.i (.bin .add x y)⟩ f ob=some (0,.int .i64 ((j+1:Nat):Int),[]):=by
 have:IntKind.i64.wrap ((j:Int)+1)=((j+1:Nat):Int):=by rw [Go.IntWalk.i64_in _ oM];rfl
 simp [A7,ev,evN,X8,hx,hy,this]
theorem Avq {x y:Opd} {k:IntKind} {a b:Int} (hx:x.ev f=.int k a) (hy:y.ev f=.int k b) (h:b≠0):A7 n ⟨d,none,.i (.bin .quo x y)⟩ f ob=some (0,.int k (k.wrap (a.tdiv b)),[]):=by
 simp [A7,ev,evN,X8,hx,hy,h]
theorem Pb {x y:Opd} {k:IntKind} {a b:Int} (hx:x.ev f=.int k a) (hy:y.ev f=.int k b) (h:b≠0):A7 n ⟨d,none,.i (.bin .rem x y)⟩ f ob=some (0,.int k (a.tmod b),[]):=by
 simp [A7,ev,evN,X8,hx,hy,h]
theorem Ap4 {x y:Opd} {a b:ByteArray} (hx:x.ev f=.str a) (hy:y.ev f=.str b) (h:(a.size+b.size:Nat)<=9223372036854775807):A7 n ⟨d,none,.i (.bin .add x y)⟩ f ob=some (0,.str (a++b),[]):=by
 simp [A7,ev,evN,X8,hx,hy,h]
theorem On {x i:Opd} {s:ByteArray} {k:IntKind} {m:Int} {j:Nat} {b:UInt8} (hx:x.ev f=.str s) (hi:i.ev f=.int k m) (h0:0<=m) (hj:m.toNat=j) (hy:s[j]? =some b):A7 n ⟨d,none,.i (.char x i)⟩ f ob=some (0,.int .u8 b.toNat,[]):=by
 subst hj;simp [A7,ev,evN,hx,hi,h0,hy]
end
theorem Akz {c:Opd} {x y:AC} {R:AE->St->Prop} {S:St} {t:Bool} (ht:t=true) (h1:awp P G x R S) (h:c.ev S.tm=.bool t:=by kernel_rfl):awp P G (.cond c x y) R S:=by
 subst ht;exact .inl ⟨true,h,fun _=>h1,fun h=>nomatch h⟩
theorem Ak2 {c:Opd} {x y:AC} {R:AE->St->Prop} {S:St} {t:Bool} (ht:t=false) (h2:awp P G y R S) (h:c.ev S.tm=.bool t:=by kernel_rfl):awp P G (.cond c x y) R S:=by
 subst ht;exact .inl ⟨false,h,fun h=>(nomatch h),fun _=>h2⟩
theorem Ad {i:Nat} {a:AC} {R:AE->St->Prop} {S:St} (h:awp P G a (K8 i R) S):awp P G (.block i a) R S:=h
theorem Ans {a:AC} {R:AE->St->Prop} {S:St} {α:Type} (I:α->St->Prop) (μ:α->Nat) (h0:∃ s S0,WeakG G S S0/\I s S0) (h1:∀ s S1,I s S1->awp P G a (H0 (fun S2=>∃ s' S3,WeakG G S2 S3/\I s' S3/\μ s'<μ s) R) S1):awp P G (.loop a) R S:=⟨α,I,μ,h0,h1⟩
theorem Dv {i:Nat} {R:AE->St->Prop} {S:St} (h:R (.exit i) S):awp P G (.exit i) R S:=h
theorem Az {R:AE->St->Prop} {S:St} (h:R .normal S):awp P G .skip R S:=h
theorem Ac {R:AE->St->Prop} {S:St} (h:R .ret S):awp P G .ret R S:=h
end
section
variable {K:St->Prop} {R:AE->St->Prop} {S:St} {i j:Nat}
theorem tn_ (h:K S):H0 K R .normal S:=h
theorem te_ (h:R (.exit i) S):H0 K R (.exit i) S:=h
theorem tr_ (h:R .ret S):H0 K R .ret S:=h
theorem bn_ (h:R .normal S):K8 i R .normal S:=h
theorem be_ (h:R .normal S):K8 i R (.exit i) S:=by simpa [K8] using h
theorem br_ (h:R .ret S):K8 i R .ret S:=h
end
def tmL:Nat->List AV->List (Nat×AV)
 | _,[]=>[]
 | k,v :: r=>(k,v) :: tmL (k+1) r
theorem Ahz:∀ (l:List AV) (k i:Nat),Am (tmL k l) (k+i)=l.getD i .any
 | [],k,i=>by simp [tmL,Am]
 | v :: r,k,i=>by
  cases i with
  | zero=>simp [tmL,Am]
  | succ i =>
   have:=Ahz r (k+1) i;simp only [tmL,Am];rw [if_neg oM,show k+(i+1)=k+1+i by omega,this];simp
theorem Agn (args:List AV):(fun i=>args.getD i .any)=Am (tmL 0 args):=by
 funext i;have:=Ahz args 0 i;rw [Nat.zero_add] at this;exact this.symm
theorem St.init_eq (args:List AV):St.init args=⟨Am (tmL 0 args),Aj [],1⟩:=by
 unfold St.init;rw [Agn];rfl
theorem Aew {G:World->Prop} {tl:List (Nat×AV)} {ol:List (Oid×Option Ob)} {g:Nat} (s:Nat) (e:TypeId) (t:Ty) (ht:t.flat=true) (hs:Am tl s=.nils):WeakG G ⟨Am tl,Aj ol,g⟩ ⟨Am ((s,.own ((s,0),g) t 0 0) :: tl),Aj ((((s,0),g),some (.arr e t [])) :: ol),g+1⟩:=by
 have:=Apt (G:=G) (S:=⟨Am tl,Aj ol,g⟩) s e t ht hs;rw [Ql] at this;have e2:upd (Aj ol) ((s,0),g) (some (.arr e t []))=Aj ((((s,0),g),some (.arr e t [])) :: ol):=H3 rfl;rw [e2] at this;exact this
theorem Abl {G:World->Prop} {tl:List (Nat×AV)} {ol:List (Oid×Option Ob)} {g:Nat} (s:Nat) (v v':AV) (h:Am tl s=v) (e:v=v'):WeakG G ⟨Am tl,Aj ol,g⟩ ⟨Am ((s,v') :: tl),Aj ol,g⟩:=by
 subst e
 have:Am ((s,v) :: tl)=Am tl:=by
  funext i;simp only [Am];split
  ·rename_i e;rw [e];exact h.symm
  ·rfl
 rw [this];exact WeakG.refl _
theorem Sv {G:World->Prop} {tl:List (Nat×AV)} {ol:List (Oid×Option Ob)} {g:Nat} (j:Oid) (o o':Ob) (h:Aj ol j=some o) (e:o=o') (hx:Lx (some o)=true:=by rfl):WeakG G ⟨Am tl,Aj ol,g⟩ ⟨Am tl,Aj ((j,some o') :: ol),g⟩:=by
 subst e
 have:Aj ((j,some o) :: ol)=Aj ol:=by
  rw [← H3 hx,Ar8 _ _ _ h]
 rw [this];exact WeakG.refl _
theorem C0 {G:World->Prop} {tl:List (Nat×AV)} {ol:List (Oid×Option Ob)} {g:Nat} (s:Nat) (c:Oid) (k:Nat) (ty:TypeId) (cs ds:List AV) (e:TypeId) (t:Ty) (ht:t.flat=true) (hb:Aj ol c=some (.cells ty cs)) (hk:cs[k]? =some .nils) (hd:cs.set k (.own ((s,0),g) t 0 0)=ds) :
  WeakG G ⟨Am tl,Aj ol,g⟩ ⟨Am tl,Aj ((c,some (.cells ty ds)) :: (((s,0),g),some (.arr e t [])) :: ol),g+1⟩:=by
 subst hd;have:=Ads (G:=G) (S:=⟨Am tl,Aj ol,g⟩) s c k ty cs e t ht hb hk;have e2:upd (upd (Aj ol) ((s,0),g) (some (.arr e t []))) c (some (.cells ty (cs.set k (.own ((s,0),g) t 0 0))))=Aj ((c,some (.cells ty (cs.set k (.own ((s,0),g) t 0 0)))) :: (((s,0),g),some (.arr e t [])) :: ol):=by rw [H3 rfl,H3 rfl]
 rw [← e2];exact this
theorem Og {G:World->Prop} {tl:List (Nat×AV)} {ol:List (Oid×Option Ob)} {g:Nat} (s:Nat) (e:TypeId) (t:Ty) (hs:Am tl s=.nils):WeakG G ⟨Am tl,Aj ol,g⟩ ⟨Am ((s,.own ((s,0),g) t 0 0) :: tl),Aj ((((s,0),g),some (.vec e 1 0 [])) :: ol),g+1⟩:=by
 have:=An5 (G:=G) (S:=⟨Am tl,Aj ol,g⟩) s e t hs;rw [Ql] at this;have e2:upd (Aj ol) ((s,0),g) (some (.vec e 1 0 []))=Aj ((((s,0),g),some (.vec e 1 0 [])) :: ol):=H3 rfl;rw [e2] at this;exact this
theorem Zj {G:World->Prop} {tl:List (Nat×AV)} {ol:List (Oid×Option Ob)} {g:Nat} (s:Nat) (c:Oid) (k:Nat) (ty:TypeId) (cs ds:List AV) (e:TypeId) (t:Ty) (hb:Aj ol c=some (.cells ty cs)) (hk:cs[k]? =some .nils) (hd:cs.set k (.own ((s,0),g) t 0 0)=ds) :
  WeakG G ⟨Am tl,Aj ol,g⟩ ⟨Am tl,Aj ((c,some (.cells ty ds)) :: (((s,0),g),some (.vec e 1 0 [])) :: ol),g+1⟩:=by
 subst hd;have:=Aa5 (G:=G) (S:=⟨Am tl,Aj ol,g⟩) s c k ty cs e t hb hk;have e2:upd (upd (Aj ol) ((s,0),g) (some (.vec e 1 0 []))) c (some (.cells ty (cs.set k (.own ((s,0),g) t 0 0))))=Aj ((c,some (.cells ty (cs.set k (.own ((s,0),g) t 0 0)))) :: (((s,0),g),some (.vec e 1 0 [])) :: ol):=by rw [H3 rfl,H3 rfl]
 rw [← e2];exact this
def Avg (ol us:List (Oid×Ob)) (args:List AV) (v:AV):Bool :=
 (Hu ol&&(Hu us&&((ol.all fun q=>q.1.2==0)&&((us.all fun q=>q.1.2==1||(!q.2.isPool&&(B3 ol).contains q.1))&&(ndB (B3 us)&&ndB (B4 us))))))&&((ol.all fun q=>q.2.clo1 (B3 ol))&&((us.all fun q=>q.2.hp1 (B3 us))&&(AV.cloL (B3 ol) args&&AV.hpB (B3 us) v)))
def Afo (ol:List (Oid×Ob)):List (Oid×Ob)->Prop
 | []=>True
 | q :: r=>(match q.2 with
  | .mat _ p u xss=>∃ e,(p,Ob.pool e u xss)∈ol
  | _=>True)/\Afo ol r
theorem Uw {ol:List (Oid×Ob)}:∀ {l:List (Oid×Ob)},Afo ol l->∀ i e p u xss,(i,Ob.mat e p u xss)∈l->∃ e,(p,Ob.pool e u xss)∈ol
 | _ :: _,h,i,e,p,u,xss,hm=>by
  rcases List.mem_cons.1 hm with rfl|hm
  ·exact h.1
  ·exact Uw h.2 i e p u xss hm
theorem Amj {ol:List (Oid×Ob)} {p:Oid} {e:TypeId} {u:Ty} {xss:List (List u.D)}:(p,Ob.pool e u xss)∈ol->∀ k,k<xss.length->kid p k∈nmL ol:=by
 induction ol with
 | nil=>intro h;cases h
 | cons x r ih =>
  obtain ⟨x1,x2⟩:=x;intro h k hk;rcases List.mem_cons.1 h with h|h
  ·cases h;simp only [nmL,exL,List.map_append,List.mem_append];refine .inl (List.mem_map.2 ⟨(kid p k,.arr e u xss[k]),List.mem_map.2 ⟨(xss[k],k),?_,rfl⟩,rfl⟩);rw [List.mem_zipIdx_iff_getElem?];exact gEg hk
  ·have:=ih h k hk;cases x2 <;> simp only [nmL,exL,List.map_cons,List.map_append] at this⊢ <;> first|exact List.mem_cons_of_mem _ this|exact List.mem_append_right _ this
theorem Sb {ol:List (Oid×Ob)} {i:Oid} (h:i∈B3 ol):i∈nmL ol:=by
 obtain ⟨o,ho,hp⟩:=Ar1 h;exact List.mem_map.2 ⟨_,Z4 ho hp,rfl⟩
theorem Axk {D:Oid->Prop} {p:Oid} {u:Ty} (xss:List (List u.D)) (h:∀ k,k<xss.length->D (kid p k)):AV.hpL D (hdL p u xss):=by
 have key:∀ l:List (List u.D×Nat),(∀ x∈l,D (kid p x.2))->AV.hpL D (l.map fun x=>.own (kid p x.2) u 0 x.1.length):=by
  intro l
  induction l with
  | nil=>intro _;trivial
  | cons x l ih=>intro h;exact ⟨h x (by simp),ih fun y hy=>h y (by simp [hy])⟩
 refine key _ fun x hx=>h _ ?_
 obtain ⟨row,k⟩:=x;rw [List.mem_zipIdx_iff_getElem?] at hx;exact (gSi.1 hx).1
theorem Axh {D:List Oid} (o:Ob) (h:o.clo1 D=true) (hp:o.isPool=false) (hm:∀ e p u xss,o≠.mat e p u xss):o.exp.cloP (·∈D):=by
 cases o with
 | cells _ cs=>exact AV.cloPL_of cs h
 | vec _ _ _ cs=>exact AV.cloPL_of cs h
 | mat e p u xss=>exact absurd rfl (hm _ _ _ _)
 | arr _ _ _=>trivial
 | map _ _ _=>trivial
 | pool _ _ _=>cases hp
 | tv e m t xs=>exact Ak6 xs
theorem Axr {D:List Oid} (o:Ob) (h:o.hp1 D=true) (hp:o.isPool=false) (hm:∀ e p u xss,o≠.mat e p u xss):o.exp.hp (·∈D):=by
 cases o with
 | cells _ cs=>exact AV.hpB_PL cs h
 | vec _ _ _ cs=>exact AV.hpB_PL cs h
 | mat e p u xss=>exact absurd rfl (hm _ _ _ _)
 | arr _ _ _=>trivial
 | map _ _ _=>trivial
 | pool _ _ _=>cases hp
 | tv e m t xs=>cases h
theorem cloP_mono {D E:Oid->Prop} (hd:∀ i,D i->E i) (o:Ob) (h:o.cloP D):o.cloP E:=by
 cases o <;> first|exact AV.cloPL_mono hd _ h|exact h
theorem hp_mono {D E:Oid->Prop} (hd:∀ i,D i->E i) (o:Ob) (h:o.hp D):o.hp E:=by
 cases o <;> first|exact AV.hpL_mono hd _ h|exact h
section
variable {P:Program} {G:World->Prop} (hfol:P.follows .mixedOrders=true) {g:FuncId} {fn:Func} (hf:P.funcs[g]? =some fn) {ac:AC} {rs:List Res} (hc:Ci P fn=some (ac,rs)) {args:List AV} {r:RV} {n:Nat} (hN:fn.ntmps=n) (hn:args.length<=n)
include hfol hf hc hN hn
theorem Acv [IsP P] {tl:List (Nat×AV)} (htl:tmL 0 args=tl) (h:awp P G ac (fun e S=>∃ S',WeakG G S S'/\(e=.normal∨e=.ret)/\RetOK [] rs S' r) ⟨Am tl,Aj [],1⟩):Cr P G g args r:=by
 refine As1 hfol hf hc hN hn ?_;rw [St.init_eq,htl];exact h
omit hN hn in
theorem Br [IsP P] (hN:fn.ntmps=n) (hn:args.length<=n) {tl:List (Nat×AV)} (htl:tmL 0 args=tl) {ol us:List (Oid×Ob)} {v:AV} (hB:Avg ol us args v=true) (hm1:Afo ol ol) (hm2:Afo us us)
  (h:awp P G ac (fun e S=>∃ S',WeakG G S S'/\(e=.normal∨e=.ret)/\(∃ rvs,Res.evL S'.tm S'.ob rs=some rvs/\v=Ady rvs)/\∀ q∈exL us,S'.ob q.1=some q.2) ⟨Am tl,Aj (B9 ol),1⟩):D1 P G g args ol v us:=by
 simp only [Avg,Bool.and_eq_true] at hB;obtain ⟨⟨a1,a2,a3,a4,a5,a6⟩,b1,b2,b3,b4⟩:=hB;rw [List.all_eq_true] at a3 a4 b1 b2
 have h0:∀ {l:List (Oid×Ob)},Hu l=true->∀ q∈l,q.1.1.2=0:=fun h q hq=>by
  unfold Hu at h;rw [List.all_eq_true] at h;have:=h q hq;simp only [Bool.and_eq_true,beq_iff_eq] at this;exact this.1
 refine Are hfol hf hc hN hn (fun q hq=>?_) (Avo (G0 a5) (G0 a6) (h0 a2)) (fun q hq=>?_) (AV.cloPL_mono (fun i hi=>Sb hi) _ (AV.cloPL_of args b3)) (AV.hp_mono (fun i hi=>Sb hi) _ (AV.hpB_P v b4)) ?_
 ·rcases Is hq with ⟨p,e,u,xss,k,row,m1,m2,rfl⟩|⟨o,m1,m2,m3⟩
  ·have:=a3 _ m1;rw [beq_iff_eq] at this;exact ⟨this,trivial⟩
  ·have:=a3 _ m1;refine ⟨by simpa using this,?_⟩;rw [m3];by_cases hmt:∃ e p u xss,o=.mat e p u xss
   ·obtain ⟨e,p,u,xss,rfl⟩:=hmt;obtain ⟨e',hp⟩:=Uw hm1 _ _ _ _ _ m1;exact Arr xss fun k hk=>Amj hp k hk
   ·exact cloP_mono (fun i hi=>Sb hi) _ (Axh o (b1 _ m1) m2 fun e p u xss h=>hmt ⟨e,p,u,xss,h⟩)
 ·rcases Is hq with ⟨p,e,u,xss,k,row,m1,m2,rfl⟩|⟨o,m1,m2,m3⟩
  ·have:=a4 _ m1;simp only [Ob.isPool,Bool.not_true,Bool.false_and,Bool.or_false,beq_iff_eq] at this;exact ⟨.inl this,.inl trivial⟩
  ·have:=a4 _ m1;simp only [Bool.or_eq_true,Bool.and_eq_true,beq_iff_eq] at this;refine ⟨this.imp id fun h=>Sb (List.contains_iff_mem.1 h.2),.inl ?_⟩;rw [m3];by_cases hmt:∃ e p u xss,o=.mat e p u xss
   ·obtain ⟨e,p,u,xss,rfl⟩:=hmt;obtain ⟨e',hp⟩:=Uw hm2 _ _ _ _ _ m1;exact Axk xss fun k hk=>Amj hp k hk
   ·exact hp_mono (fun i hi=>Sb hi) _ (Axr o (b2 _ m1) m2 fun e p u xss h=>hmt ⟨e,p,u,xss,h⟩)
 ·rw [Agn,htl];exact h
end
theorem Ax0 {G:World->Prop} {rs:List Res} {f:Nat->AV} {ob:Oid->Option Ob} {g:Nat} {r:RV} (avs:List AV) {vs:List Value} {e:AE} (h2:PartsR vs ob avs r.ps) (he:e=.normal∨e=.ret:=by simp) (h1:Res.evL f ob rs=some avs:=by kernel_rfl) (h3:ndB (Yv ob (Ry avs))=true:=by kernel_rfl) (h4:r.tup=decide (rs.length≠1):=by kernel_rfl):∃ S',WeakG G ⟨f,ob,g⟩ S'/\(e=.normal∨e=.ret)/\RetOK vs rs S' r :=
 ⟨_,WeakG.refl _,he,avs,r.ps,h1,h2,G0 h3,by cases r;cases h4;rfl⟩
theorem E4 {G:World->Prop} {rs:List Res} {S:St} {tl:List (Nat×AV)} {g:Nat} {v:AV} {us:List (Oid×Ob)} {e:AE} (rvs:List AV) (hw:WeakG G S ⟨Am tl,Aj (B9 us),g⟩) (he:e=.normal∨e=.ret:=by simp) (h1:Res.evL (Am tl) (Aj (B9 us)) rs=some rvs:=by kernel_rfl) (hv:v=Ady rvs:=by kernel_rfl) (h2:(Hu us&&(ndB (B3 us)&&ndB (B4 us)))=true:=by kernel_rfl) :
  ∃ S',WeakG G S S'/\(e=.normal∨e=.ret)/\(∃ rvs,Res.evL S'.tm S'.ob rs=some rvs/\v=Ady rvs)/\∀ q∈exL us,S'.ob q.1=some q.2:=by
 refine ⟨_,hw,he,⟨rvs,h1,hv⟩,fun q hq=>?_⟩;simp only [Bool.and_eq_true] at h2;obtain ⟨a1,a2,a3⟩:=h2
 have h0:∀ q∈us,q.1.1.2=0:=fun q hq=>by
  unfold Hu at a1;rw [List.all_eq_true] at a1;have:=a1 q hq;simp only [Bool.and_eq_true,beq_iff_eq] at this;exact this.1
 have:=Qx (rest:=[]) (G0 a2) (G0 a3) (fun p hp=>by obtain ⟨e,u,xss,hm⟩:=Av5 hp;exact h0 _ hm) (fun i hi p hp k e=>by
  obtain ⟨o,ho,_⟩:=Ar1 hi;have:=h0 _ ho;rw [e] at this;simp [kid] at this) q hq
 rwa [List.append_nil] at this
section
variable {vs:List Value} {ob:Oid->Option Ob}
theorem T3 {cs r:List AV} {ls:List RL} {ps:List (Bool×List RL)} (h1:LeavesR vs ob cs ls) (h2:PartsR vs ob r ps):PartsR vs ob (.agg cs :: r) ((true,ls) :: ps):=⟨ls,ps,rfl,h1,h2⟩
theorem Db {c:AV} {r:List AV} {l:RL} {ps:List (Bool×List RL)} (hc:c.one=true) (h1:LeafR vs ob c l) (h2:PartsR vs ob r ps):PartsR vs ob (c :: r) ((false,[l]) :: ps):=by
 rw [Q2 (by rintro ⟨_,rfl⟩;cases hc)];exact ⟨l,ps,rfl,h1,h2⟩
theorem E6:PartsR vs ob [] []:=rfl
theorem Ed {c:AV} {cs:List AV} {l:RL} {ls:List RL} (h1:LeafR vs ob c l) (h2:LeavesR vs ob cs ls):LeavesR vs ob (c :: cs) (l :: ls):=⟨l,ls,rfl,h1,h2⟩
theorem V2:LeavesR vs ob [] []:=rfl
theorem Arn {c:AV} {l:RL} (h:Rp ob c=some l):LeafR vs ob c l:=.inl (.inl h)
theorem Cv {i:Oid} {t u:Ty} {e:TypeId} {xs:List u.D} {len:Nat} (h:ob i=some (.arr e u xs)) (hl:len=xs.length):LeafR vs ob (.own i t 0 len) (.new e u xs):=by
 subst hl;exact .inl (.inl (by simp only [Rp,h,Nat.le_refl,and_self,if_true,List.take_length]))
theorem T4 {e:TypeId} {t:Ty} (h:t.flat=true):LeafR vs ob .nils (.new e t []):=.inl (.inr (.inr ⟨e,t,rfl,rfl,h⟩))
end
end Go.Proofs.YtopjojkjaklalaaGreatDoor
namespace Go.Proofs.YtopjojkjaklalaaGreatDoor
open Go.RowKit Go.Deep
abbrev tm (n:Nat):Opd:=.tmp n
abbrev cb (b:Bool):Opd:=.cst (.bool b)
abbrev ci (n:Int):Opd:=.cst (.int .i64 n)
abbrev xo (d:Nat) (q:Q):X:=⟨some d,none,q⟩
abbrev xn (q:Q):X:=⟨none,none,q⟩
abbrev qm (x:Opd):Q:=.i (.mov x)
abbrev qf (k:Nat) (x:Opd):Q:=.i (.fld k x)
abbrev qb (o:BinOp) (x y:Opd):Q:=.i (.bin o x y)
abbrev qc (f:FuncId) (xs:List Opd) (tys:List (List (Option Ty))):Q:=.call (.cst (.fn f [])) xs tys
abbrev rg (xs:List X):AC:=.region xs false []
abbrev ai (n:Int):AV:=.int .i64 n
abbrev oi (a b:Nat):Oid:=((a,0),b)
def Aq7 (d:Option Nat) (v:AV) (tl:List (Nat×AV)):List (Nat×AV) :=
 match d with
 | some d=>(d,v) :: tl
 | none=>tl
theorem Akp (d:Option Nat) (v:AV) (tl:List (Nat×AV)):Oi d v (Am tl)=Am (Aq7 d v tl):=by
 cases d with
 | none=>rfl
 | some d=>simp only [Oi,Aq7,Ql]
noncomputable def Ae9 (g:Nat):Nat->Nat->List X->List (Nat×AV)->List (Oid×Option Ob)->Option (List (Nat×AV)×List (Oid×Option Ob))
 | 0,_,_,tl,ol=>some (tl,ol)
 | _+1,_,[],_,_=>none
 | n+1,k,x :: xs,tl,ol=>match A7 (g+k) x (Am tl) (Aj ol) with
  | some (_,v,us)=>if Ds us then Ae9 g n (k+1) xs (Aq7 x.dst v tl) (us.reverseAux ol) else none
  | none=>none
theorem Aye {P:Program} {G:World->Prop} {g:Nat} {Kf:List (Nat×AV)->List (Oid×Option Ob)->Prop}:∀ (n k:Nat) (xs:List X) (tl:List (Nat×AV)) (ol:List (Oid×Option Ob)) (r:List (Nat×AV)×List (Oid×Option Ob)),Ae9 g n k xs tl ol=some r->XW P G g (k+n) (xs.drop n) r.1 r.2 Kf->XW P G g k xs tl ol Kf
 | 0,k,xs,tl,ol,r,h,hk=>by
  obtain rfl:=osj h;exact hk
 | n+1,k,[],tl,ol,r,h,hk=>by cases h
 | n+1,k,x :: xs,tl,ol,r,h,hk=>by
  simp only [Ae9] at h;split at h
  ·rename_i c v us hst;split at h
   ·rename_i hx;obtain ⟨rs,tl',ol',h1,h2⟩:=Aye (P:=P) (G:=G) n (k+1) xs _ _ r h (by rw [show k+1+n=k+(n+1) by omega];exact hk);exact ⟨(c,v,us) :: rs,tl',ol',⟨_,_,rfl,Gr hst,by rw [Akp,Kq _ _ hx];exact h1⟩,h2⟩
   ·cases h
  ·cases h
theorem rsB {P:Program} {G:World->Prop} {g k:Nat} {xs:List X} {tl:List (Nat×AV)} {ol:List (Oid×Option Ob)} {Kf:List (Nat×AV)->List (Oid×Option Ob)->Prop} (n:Nat) (hk:XW P G g (k+n) (xs.drop n) ((Ae9 g n k xs tl ol).getD ([],[])).1 ((Ae9 g n k xs tl ol).getD ([],[])).2 Kf) (h:(Ae9 g n k xs tl ol).isSome=true:=by kernel_rfl):XW P G g k xs tl ol Kf:=by
 obtain ⟨r,hr⟩:=Option.isSome_iff_exists.1 h;rw [hr] at hk;exact Aye n k xs tl ol r hr hk
noncomputable def Aqw (g:Nat):Nat->Nat->List X->List (Nat×AV)->List (Oid×Option Ob)->Option (List (Nat×AV))
 | 0,_,_,tl,_=>some tl
 | _+1,_,[],_,_=>none
 | n+1,k,x :: xs,tl,ol=>match A7 (g+k) x (Am tl) (Aj ol) with
  | some (_,v,[])=>Aqw g n (k+1) xs (Aq7 x.dst v tl) ol
  | _=>none
theorem Axs {P:Program} {G:World->Prop} {g:Nat} {ol:List (Oid×Option Ob)} {Kf:List (Nat×AV)->List (Oid×Option Ob)->Prop}:∀ (n k:Nat) (xs:List X) (tl:List (Nat×AV)) (r:List (Nat×AV)),Aqw g n k xs tl ol=some r->XW P G g (k+n) (xs.drop n) r ol Kf->XW P G g k xs tl ol Kf
 | 0,k,xs,tl,r,h,hk=>by
  obtain rfl:=osj h;exact hk
 | n+1,k,[],tl,r,h,hk=>by cases h
 | n+1,k,x :: xs,tl,r,h,hk=>by
  simp only [Aqw] at h;split at h
  ·rename_i c v hst;obtain ⟨rs,tl',ol',h1,h2⟩:=Axs (P:=P) (G:=G) n (k+1) xs _ r h (by rw [show k+1+n=k+(n+1) by omega];exact hk);exact ⟨(c,v,[]) :: rs,tl',ol',⟨_,_,rfl,Gr hst,by rw [Akp];exact h1⟩,h2⟩
  ·cases h
theorem rsT {P:Program} {G:World->Prop} {g k:Nat} {xs:List X} {tl:List (Nat×AV)} {ol:List (Oid×Option Ob)} {Kf:List (Nat×AV)->List (Oid×Option Ob)->Prop} (n:Nat) (hk:XW P G g (k+n) (xs.drop n) ((Aqw g n k xs tl ol).getD []) ol Kf) (h:(Aqw g n k xs tl ol).isSome=true:=by kernel_rfl):XW P G g k xs tl ol Kf:=by
 obtain ⟨r,hr⟩:=Option.isSome_iff_exists.1 h;rw [hr] at hk;exact Axs n k xs tl r hr hk
noncomputable def Ajo (g:Nat):Nat->Nat->List X->List (Nat×AV)->List (Oid×Option Ob)->List Rec->List (List Oid)->Option (List (Nat×AV)×List Rec×List (List Oid))
 | 0,_,_,tl,_,ra,da=>some (tl,ra,da)
 | _+1,_,[],_,_,_,_=>none
 | n+1,k,x :: xs,tl,ol,ra,da=>match A7 (g+k) x (Am tl) (only (rdX (Am tl) (Aj ol) x) (Aj ol)) with
  | some (c,v,[])=>Ajo g n (k+1) xs (Aq7 x.dst v tl) ol ((c,v,[]) :: ra) (rdX (Am tl) (Aj ol) x :: da)
  | _=>none
theorem Ax9 {P:Program} {G:World->Prop} {g:Nat} {ol:List (Oid×Option Ob)} {bad:List (Nat×Nat)} {Kf:List (Nat×AV)->List (Oid×Option Ob)->Prop}:∀ (n k:Nat) (xs:List X) (tl:List (Nat×AV)) (ra:List Rec) (da:List (List Oid)) (r:List (Nat×AV)×List Rec×List (List Oid)),Ajo g n k xs tl ol ra da=some r->XD P G bad g (k+n) (xs.drop n) r.1 ol r.2.1 r.2.2 Kf->XD P G bad g k xs tl ol ra da Kf
 | 0,k,xs,tl,ra,da,r,h,hk=>by
  obtain rfl:=osj h;exact hk
 | n+1,k,[],tl,ra,da,r,h,hk=>by cases h
 | n+1,k,x :: xs,tl,ra,da,r,h,hk=>by
  simp only [Ajo] at h;split at h
  ·rename_i c v hst;obtain ⟨rs,ds,tl',ol',h1,hb,h2⟩:=Ax9 (P:=P) (G:=G) n (k+1) xs _ _ _ r h (by rw [show k+1+n=k+(n+1) by omega];exact hk);refine ⟨(c,v,[]) :: rs,rdX (Am tl) (Aj ol) x :: ds,tl',ol',⟨_,_,_,rfl,rfl,Gr hst,by rw [Akp];exact h1⟩,?_,h2⟩
   simpa using hb
  ·cases h
theorem dsT {P:Program} {G:World->Prop} {g k:Nat} {xs:List X} {tl:List (Nat×AV)} {ol:List (Oid×Option Ob)} {bad:List (Nat×Nat)} {ra:List Rec} {da:List (List Oid)} {Kf:List (Nat×AV)->List (Oid×Option Ob)->Prop} (n:Nat) (hk:XD P G bad g (k+n) (xs.drop n) ((Ajo g n k xs tl ol ra da).getD ([],[],[])).1 ol ((Ajo g n k xs tl ol ra da).getD ([],[],[])).2.1 ((Ajo g n k xs tl ol ra da).getD ([],[],[])).2.2 Kf) (h:(Ajo g n k xs tl ol ra da).isSome=true:=by kernel_rfl):XD P G bad g k xs tl ol ra da Kf:=by
 obtain ⟨r,hr⟩:=Option.isSome_iff_exists.1 h;rw [hr] at hk;exact Ax9 n k xs tl ra da r hr hk
theorem Ae {P:Program} {G:World->Prop} {g:Nat} {xs:List X} {bad:List (Nat×Nat)} {y:AC} {R:AE->St->Prop} {tl:List (Nat×AV)} {ol:List (Oid×Option Ob)} (h:awp P G y R ⟨Am ((Ae9 g xs.length 0 xs tl ol).getD ([],[])).1,Aj ((Ae9 g xs.length 0 xs tl ol).getD ([],[])).2,g+xs.length⟩) (hs:(Ae9 g xs.length 0 xs tl ol).isSome=true:=by kernel_rfl):awp P G (.seq (.region xs false bad) y) R ⟨Am tl,Aj ol,g⟩:=by
 refine Ab (Aa (g+xs.length) (rsB xs.length (by rw [List.drop_length];exact Ap (tn_ ⟨_,WeakG.refl _,h⟩)) hs) rfl)
theorem Z8 {i:Oid} {ob:Oid->Option Ob}:only [i] ob i=ob i:=if_pos (List.mem_singleton.2 rfl)
section
variable {n:Nat} {d:Option Nat} {f:Nat->AV} {ob:Oid->Option Ob} {ol:List (Oid×Option Ob)}
theorem D6 {x:Opd} {o p:Oid} {e1:TypeId} {u:Ty} {xss:List (List u.D)} {row:List u.D} {j:Nat} (hx:x.ev f=.elt o j 0) (hob:ob o=some (.vec e1 1 xss.length (hdL p u xss))) (hr:xss[j]? =some row):A7 n ⟨d,none,.i (.ld true 1 x)⟩ f ob=some (1,.own (kid p j) u 0 row.length,[]):=by
 have h:(hdL p u xss)[j*1+0]? =some (.own (kid p j) u 0 row.length):=by rw [D9];simp [hr]
 simp only [Nat.mul_one,Nat.add_zero] at h;simp [A7,ev,evN,evR,hx,hob,C5,h]
theorem Abq {x y:Opd} {o:Oid} {e1:TypeId} {m:Nat} {cs:List AV} {v:AV} {j:Nat} (hx:x.ev f=.elt o j 0) (hob:ob o=some (.vec e1 1 m cs)) (hy:y.ev f=v) (hv:v.one=true) (hj:j<cs.length):A7 n ⟨d,none,.st true 1 x y⟩ f ob=some (2,.any,[(o,none),(o,some (.vec e1 1 m (cs.set j v)))]):=by
 simp [A7,ev,Ad2,hx,hob,hy,J5,hv,hj]
theorem Amk {x y:Opd} {o q:Oid} {e1 e2:TypeId} {u:Ty} {t':Ty} {b:Nat} {p:Oid} {xss:List (List u.D)} {cs:List AV} {len:Nat} (hx:x.ev f=.own o t' 0 len) (hob:ob o=some (.vec e1 1 xss.length (hdL p u xss))) (hl:len=xss.length) {t2:Ty} (hy:y.ev f=.own q t2 0 1) (hq:ob q=some (.vec e2 1 1 cs)) (hc:cs.length=1) (h:xss.length+1<=1073741824/\(xss.length+1)*b<=140737488355328) :
  A7 n ⟨d,none,.appV e1 (.slice u) b x y⟩ f ob=some (2,.own (o.1,n) (.slice u) 0 (xss.length+1),[(o,none),((o.1,n),some (.vec e1 1 (xss.length+1) (hdL p u xss++cs)))]):=by
 subst hl;have h1:List.take (xss.length*1) (hdL p u xss)=hdL p u xss:=by rw [Nat.mul_one];exact List.take_of_length_le (by rw [C7];exact Nat.le_refl _)
 have h2:List.take (1*1) (List.drop (0*1) cs)=cs:=by simp only [Nat.zero_mul,List.drop_zero,Nat.mul_one];exact List.take_of_length_le oM
 simp only [A7,ev,Li,hx,hy,Ud,hq,hob,Ty.size,true_and,Nat.zero_add,Nat.le_refl,if_true,h1,h2,h.1,h.2,and_self]
theorem Dt {i:Oid} {e:TypeId} {t:Ty} {sz:Nat} {xs:List Opd} {r:Rec} (h:(Aen f i e t sz xs).map (fun r=>((1:Nat),r.1,r.2))=some r):evL f i (.mkV e t sz xs)=some r:=by
 simp only [evL];cases hq:Aen f i e t sz xs with
 | none=>rw [hq] at h;cases h
 | some q=>rw [hq] at h;obtain ⟨v,us⟩:=q;exact h
theorem Zn {i:Oid} {e:TypeId} (e':TypeId) {u:Ty} {b:Nat} {x y:Opd} {k k':IntKind} {m c:Int} {j:Nat} (hx:x.ev f=.int k m) (hy:y.ev f=.int k' c) (h:0<=m/\m<=c/\c<=1073741824/\(b:Int)*c<=140737488355328) (hfl:u.flat=true) (hj:m.toNat=j) :
  Aiv f i (.makeV e (.slice u) b [.nils] x y) (1,RV.out ⟨false,[(false,[.newM e e' u (List.replicate j [])])]⟩ (Ce i) []):=by
 subst hj;exact ⟨e,e',u,b,x,y,k,k',m,c,rfl,hx,hy,h,hfl,rfl⟩
theorem As7 {i:Oid} {e e':TypeId} {u:Ty} {xss:List (List u.D)} (h:Ow i.2 ol=true):Ax (RV.out ⟨false,[(false,[.newM e e' u xss])]⟩ (Ce i) []).2 (Aj ol)=Aj ((Ce i 0,some (.mat e (Ce i 0) u xss)) :: (Ce i 0,some (.pool e' u xss)) :: ol):=by
 have e0:(RV.out ⟨false,[(false,[.newM e e' u xss])]⟩ (Ce i) []).2=(Ce i 0,some (.vec e 1 xss.length (hdL (Ce i 0) u xss))) :: (Ac3 (Ce i 0) e' u xss++[]):=rfl;rw [e0,List.append_nil];show Ax (Ac3 (Ce i 0) e' u xss) (upd (Aj ol) (Ce i 0) (some (.vec e 1 xss.length (hdL (Ce i 0) u xss))))=_
 rw [H3 rfl,Aii (fun k=>by
  have:Aj ((Ce i 0,some (.vec e 1 xss.length (hdL (Ce i 0) u xss))) :: ol) (kid (Ce i 0) k)=if kid (Ce i 0) k=Ce i 0 then some (.vec e 1 xss.length (hdL (Ce i 0) u xss)) else Aj ol (kid (Ce i 0) k):=by simp only [Aj]
  rw [this,if_neg (fun e=>by have:=congrArg (fun i:Oid=>i.1.2) e;simp [kid,Ce] at this)];exact Q0 h _ rfl)]
 funext j;have h2:∀ j,Aj ((Ce i 0,some (.vec e 1 xss.length (hdL (Ce i 0) u xss))) :: ol) j=if j=Ce i 0 then some (.vec e 1 xss.length (hdL (Ce i 0) u xss)) else Aj ol j:=fun j=>by simp only [Aj]
 rw [P7,Nw,Nw,h2];by_cases hj:j=Ce i 0
 ·subst hj;rw [if_pos rfl,if_neg (fun h=>h.2.2 rfl),if_pos rfl]
 ·rw [if_neg hj,if_neg hj]
end
section
variable {P:Program} {G:World->Prop} {g k d:Nat} {gd:Option (Nat×Bool)} {q:Q} {xs:List X} {tl:List (Nat×AV)} {ol:List (Oid×Option Ob)} {bad:List (Nat×Nat)} {ra:List Rec} {da:List (List Oid)} {Kf:List (Nat×AV)->List (Oid×Option Ob)->Prop}
theorem Lq (v:AV) (i:Oid) (o:Ob) (hgd:Q1 gd (Am tl)) (h:evL (Am tl) ((d,0),g+k) q=some (1,v,[(i,some o)])) (h3:XW P G g (k+1) xs ((d,v) :: tl) ((i,some o) :: ol) Kf) (hx:Lx (some o)=true:=by rfl):XW P G g k (⟨some d,gd,q⟩ :: xs) tl ol Kf:=Abh 1 v _ (Avs (d:=some d) hgd h) h3 (by simp only [Ds,List.all_cons,List.all_nil,hx];rfl)
theorem Alg (v:AV) (i:Oid) (o:Ob) (hgd:Q1 gd (Am tl)) (h:evL (Am tl) ((d,0),g+k) q=some (1,v,[(i,some o)])) (h3:XD P G bad g (k+1) xs ((d,v) :: tl) ((i,some o) :: ol) ((1,v,[(i,some o)]) :: ra) ((rdX (Am tl) (Aj ol) ⟨some d,gd,q⟩) :: da) Kf) (hx:Lx (some o)=true:=by rfl):XD P G bad g k (⟨some d,gd,q⟩ :: xs) tl ol ra da Kf:=X7 1 v _ (Avs (d:=some d) hgd h) h3 (by simp only [Ds,List.all_cons,List.all_nil,hx];rfl)
theorem Afi (v:AV) (i:Oid) (e e':TypeId) (u:Ty) (xss:List (List u.D)) (hgd:Q1 gd (Am tl)) (h:Aiv (Am tl) ((d,0),g+k) q (1,RV.out ⟨false,[(false,[.newM e e' u xss])]⟩ (Ce ((d,0),g+k)) [])) (hi:Ce ((d,0),g+k) 0=i) (hv:AV.own i (.slice u) 0 xss.length=v) (hn:Ow (g+k) ol=true) (h3:XW P G g (k+1) xs ((d,v) :: tl) ((i,some (.mat e i u xss)) :: (i,some (.pool e' u xss)) :: ol) Kf):XW P G g k (⟨some d,gd,q⟩ :: xs) tl ol Kf:=by
 subst hi hv;exact Agp 1 _ _ _ (Ata (d:=some d) hgd h) (As7 hn) h3
end
-- what arguments read as
section
variable {ol:List (Oid×Option Ob)} {n:Nat}
theorem Qn {α:Type} {g:List AV->Option α}:∀ {cs:List AV} {xs:List α},cs.length=xs.length->(∀ (k:Nat) (c:AV) (x:α),cs[k]? =some c->xs[k]? =some x->g [c]=some x)->Jh g 1 xs.length cs=some xs
 | [],[],_,_=>rfl
 | c :: cs,x :: xs,hl,h=>by
  have h0:=h 0 c x rfl rfl;have ih:=Qn (g:=g) (cs:=cs) (xs:=xs) (by simpa using hl) (fun k c x h1 h2=>h (k+1) c x h1 h2);simp only [List.length_cons,Jh,List.take_succ_cons,List.take_zero,List.drop_succ_cons,List.drop_zero,h0,ih]
 | [],_ :: _,hl,_=>by simp at hl
 | _ :: _,[],hl,_=>by simp at hl
theorem Ap7 {ob:Oid->Option Ob} {o p:Oid} {e1 e:TypeId} {u:Ty} {xss:List (List u.D)} {m len:Nat} (ho:ob o=some (.vec e1 1 m (hdL p u xss))) (hm:m=xss.length) (hk:∀ k row,xss[k]? =some row->ob (kid p k)=some (.arr e u row)) {t':Ty} (hl:len<=xss.length):Zf ob 1 (rdC ob (.slice u)) (.own o t' 0 len)=some (xss.take len):=by
 have h1:(((hdL p u xss).drop (0*1)).take (len*1))=hdL p u (xss.take len):=by
  simp only [Nat.zero_mul,List.drop_zero,Nat.mul_one];apply List.ext_getElem?;intro j;rw [List.getElem?_take,D9,D9,List.getElem?_take];split <;> rfl
 have hlen:(xss.take len).length=len:=by rw [List.length_take];omega
 simp only [Zf,ho];rw [if_pos ⟨trivial,by omega⟩,h1]
 have:=Qn (g:=rdC ob (.slice u)) (cs:=hdL p u (xss.take len)) (xs:=xss.take len) C7 (fun k c x hc hx=>by
  rw [D9,hx] at hc;obtain rfl:=osj hc;rw [List.getElem?_take] at hx;split at hx
  ·have:=hk k x hx;simp only [rdC,D8,this,Nat.zero_add,Nat.le_refl,if_true,Ty.eq?_self,Ca,List.drop_zero,List.take_length]
  ·cases hx)
 rw [hlen] at this;exact this
theorem La {ob:Oid->Option Ob} {o p:Oid} {e1 e:TypeId} {u:Ty} {xss:List (List u.D)} {len:Nat} (ho:ob o=some (.vec e1 1 xss.length (hdL p u xss))) (hk:∀ k row,xss[k]? =some row->ob (kid p k)=some (.arr e u row)) (hl:len=xss.length):gnd ob (n+1) (.own o (.slice u) 0 len)=some (.tree (.slice u) xss):=by
 subst hl;have:=Ap7 (t':=.slice u) ho rfl hk (Nat.le_refl _);rw [List.take_length] at this;simp only [gnd,ho,Ty.size,this,Option.map_some]
theorem Cc {p:Oid} {e:TypeId} {u:Ty} {xss:List (List u.D)} (h:Fw ol p=some (.pool e u xss)):∀ k row,xss[k]? =some row->Aj ol (kid p k)=some (.arr e u row):=fun _ _ hx=>Bc h hx
def Aed (θ:Oid->Oid) (ol0:List (Oid×Ob)) (i:Oid):Bool:=ol0.all fun q=>if q.2.isPool then !(i.1.1==(θ q.1).1.1&&(i.2==(θ q.1).2&&i.1.2 !=0)) else i !=θ q.1
theorem Mn {l:List (Oid×Oid)} {ob:Oid->Option Ob} {ol0:List (Oid×Ob)} {i:Oid} (hl:Sx l=true) (h0:Hu ol0=true) (h:Aed (Ba l) ol0 i=true):Vz ((nmL ol0).map (Ba l)) ob i=ob i:=by
 unfold Vz;rw [if_neg];intro hm;obtain ⟨j,hj,rfl⟩:=List.mem_map.1 hm;obtain ⟨q,hq,rfl⟩:=List.mem_map.1 hj;unfold Aed at h;rw [List.all_eq_true] at h;unfold Hu at h0;rw [List.all_eq_true] at h0;rcases Is hq with ⟨p,e,u,xss,k,row,m1,m2,rfl⟩|⟨o,m1,m2,m3⟩
 ·have:=h _ m1;have hz:=h0 _ m1;simp only [Bool.and_eq_true,beq_iff_eq] at hz;rw [Lh hl hz.1] at this;simp [Ob.isPool,kid] at this
 ·have:=h _ m1;simp [m2] at this
theorem Xu {l:List (Oid×Oid)} {ob:Oid->Option Ob} {ol0:List (Oid×Ob)} {p:Oid} {e:TypeId} {u:Ty} {xss:List (List u.D)} (hl:Sx l=true) (h0:Hu ol0=true) (hk:∀ k row,xss[k]? =some row->ob (kid p k)=some (.arr e u row)) (hn:(ol0.all fun q=> !((Ba l q.1).1.1==p.1.1&&((Ba l q.1).2==p.2)))=true):∀ k row,xss[k]? =some row->Vz ((nmL ol0).map (Ba l)) ob (kid p k)=some (.arr e u row):=by
 intro k row hx;rw [Mn hl h0,hk k row hx];unfold Aed;rw [List.all_eq_true] at hn ⊢;intro q hq;have:=hn q hq;simp only [Bool.not_eq_true',Bool.and_eq_false_iff,beq_eq_false_iff_ne,ne_eq] at this;split
 ·simp only [Bool.not_eq_true',Bool.and_eq_false_iff,beq_eq_false_iff_ne,ne_eq,kid];rcases this with h|h
  ·exact .inl fun e=>h e.symm
  ·exact .inr (.inl fun e=>h e.symm)
 ·simp only [bne_iff_ne,ne_eq];intro e;rw [← e] at this;rcases this with h|h <;> exact h rfl
theorem Amo {l:List (Oid×Oid)} {i:Oid} {ol us:List (Oid×Ob)} (hB:Alq ol us=true):∀ u∈Ie (Ba l) i ol us,u.1.2=i.2∨u.1∈(nmL ol).map (Ba l):=by
 intro u hu;rcases List.mem_append.1 hu with hu|hu
 ·obtain ⟨q,hq,rfl⟩:=List.mem_map.1 hu;exact .inr (List.mem_map.2 ⟨q.1,List.mem_map.2 ⟨q,hq,rfl⟩,rfl⟩)
 ·obtain ⟨q,hq,rfl⟩:=List.mem_map.1 hu;rcases Ago hB q hq with h|⟨h,h'⟩
  ·exact .inl (by simp [Bu,h])
  ·exact .inr (List.mem_map.2 ⟨q.1,h',by simp [Bu,h]⟩)
def Aml (l:List (Oid×Oid)) (i:Oid) (ol us:List (Oid×Ob)) (r:Rec) (d:List Oid):Bool:=Sx l&&(Hu ol&&(Alq ol us&&((d.all fun x=>x.2 !=i.2&&Aed (Ba l) ol x)&&((r.2.2.all fun u=>u.1.2 !=i.2&&Aed (Ba l) ol u.1)&&r.1 !=2))))
theorem Ai2 {l:List (Oid×Oid)} {ol:List (Oid×Ob)} {i:Oid} (hl:Sx l=true) (h0:Hu ol=true) (h:Aed (Ba l) ol i=true):i∉(nmL ol).map (Ba l):=by
 intro hm;have:=Mn (ob:=fun _=>some (.map 0 .int [])) hl h0 h;unfold Vz at this;rw [if_pos hm] at this;cases this
theorem Aas {l:List (Oid×Oid)} {i:Oid} {ol us:List (Oid×Ob)} {r:Rec} {d:List Oid} (h:Aml l i ol us r d=true):(∀ u∈Ie (Ba l) i ol us,u.1∉d)/\(∀ u∈Ie (Ba l) i ol us,∀ v∈r.2.2,u.1≠v.1)/\r.1≠2:=by
 simp only [Aml,Bool.and_eq_true,bne_iff_ne,ne_eq] at h;obtain ⟨h1,h2,h3,h4,h5,h6⟩:=h;rw [List.all_eq_true] at h4 h5;refine ⟨fun u hu hd=>?_,fun u hu v hv e=>?_,h6⟩
 ·have:=h4 _ hd;simp only [Bool.and_eq_true,bne_iff_ne,ne_eq] at this;rcases Amo h3 u hu with h|h
  ·exact this.1 h
  ·exact Ai2 h1 h2 this.2 h
 ·have:=h5 _ hv;simp only [Bool.and_eq_true,bne_iff_ne,ne_eq] at this;rcases Amo h3 u hu with h|h
  ·exact this.1 (by rw [← e];exact h)
  ·exact Ai2 h1 h2 this.2 (by rw [← e];exact h)
theorem Alm {l:List (Oid×Oid)} {i:Oid} {ol us:List (Oid×Ob)} {v:AV} {rj:Rec} {di dj:List Oid} (h:Aml l i ol us rj dj=true):Qt (2,v,Ie (Ba l) i ol us) rj di dj:=by
 obtain ⟨h1,h2,h3⟩:=Aas h;exact .inr ⟨fun _=>h1,fun e=>absurd e h3,h2⟩
theorem Aku {l:List (Oid×Oid)} {i:Oid} {ol us:List (Oid×Ob)} {v:AV} {ri:Rec} {di dj:List Oid} (h:Aml l i ol us ri di=true):Qt ri (2,v,Ie (Ba l) i ol us) di dj:=by
 obtain ⟨h1,h2,h3⟩:=Aas h;exact .inr ⟨fun e=>absurd e h3,fun _=>h1,fun u hu v hv e=>h2 v hv u hu e.symm⟩
def Apq (zs:List AV) (ob:Oid->Option Ob) (θ:Oid->Oid):List (Oid×Ob)->Prop
 | []=>True
 | q :: r=>(match q.2 with
  | .pool _ _ xss=>∀ k,k<xss.length->Reached zs ob (kid (θ q.1) k)
  | _=>Reached zs ob (θ q.1))/\Apq zs ob θ r
theorem Ay {zs:List AV} {ob:Oid->Option Ob} {l:List (Oid×Oid)} (hl:Sx l=true):∀ {ol:List (Oid×Ob)},Hu ol=true->Apq zs ob (Ba l) ol->∀ j∈nmL ol,Reached zs ob (Ba l j)
 | [],_,_,j,hj=>by cases hj
 | (p,o) :: r,h0,h,j,hj=>by
  simp only [Hu,List.all_cons,Bool.and_eq_true,beq_iff_eq] at h0;obtain ⟨⟨h1,_⟩,h2⟩:=h0;have ih:j∈nmL r->Reached zs ob (Ba l j):=fun hm=>Ay hl (ol:=r) (by simpa [Hu] using h2) h.2 j hm
  cases o with
  | pool e u xss =>
   simp only [nmL,exL,List.map_append,List.mem_append] at hj;rcases hj with hj|hj
   ·obtain ⟨q,hq,rfl⟩:=List.mem_map.1 hj;obtain ⟨⟨row,k⟩,hx,rfl⟩:=List.mem_map.1 hq;rw [List.mem_zipIdx_iff_getElem?] at hx;show Reached zs ob (Ba l (kid p k));rw [Lh hl h1];exact h.1 k (gSi.1 hx).1
   ·exact ih hj
  | _ =>
   simp only [nmL,exL,List.map_cons,List.mem_cons] at hj;rcases hj with rfl|hj
   ·exact h.1
   ·exact ih hj
theorem Bh {zs:List AV} {ob:Oid->Option Ob} {i:Oid} (h:(AV.nmsL zs).contains i=true):Reached zs ob i:=.arg (List.contains_iff_mem.1 h)
theorem G4 {zs:List AV} {ob:Oid->Option Ob} {k i:Oid} {ty:TypeId} {cs:List AV} (h1:Reached zs ob k) (h2:ob k=some (.cells ty cs)) (h:(AV.nmsL cs).contains i=true):Reached zs ob i:=.cells h1 h2 (List.contains_iff_mem.1 h)
theorem At7 {p:Oid} {u:Ty} {xss:List (List u.D)} {k:Nat} (h:k<xss.length):kid p k∈AV.nmsL (hdL p u xss):=by
 have key:∀ cs:List AV,∀ c∈cs,∀ i∈c.nms,i∈AV.nmsL cs:=by
  intro cs
  induction cs with
  | nil=>intro c h;cases h
  | cons x r ih =>
   intro c hc i hi;rcases List.mem_cons.1 hc with rfl|hc
   ·exact List.mem_append_left _ hi
   ·exact List.mem_append_right _ (ih c hc i hi)
 refine key _ (.own (kid p k) u 0 xss[k].length) ?_ _ (List.mem_singleton.2 rfl);apply List.mem_iff_getElem?.2;exact ⟨k,by rw [D9,gEg h];rfl⟩
theorem Gm {zs:List AV} {ob:Oid->Option Ob} {o p:Oid} {e1:TypeId} {m:Nat} {u:Ty} {xss:List (List u.D)} (h1:Reached zs ob o) (h2:ob o=some (.vec e1 1 m (hdL p u xss))):∀ k,k<xss.length->Reached zs ob (kid p k):=fun _ hk=>.vec h1 h2 (At7 hk)
end
theorem Aj4 {L:List Oid} {l:List (Oid×Oid)} {xs:List (Oid×Ob)} (h:(xs.all fun q=>L.contains (Ba l q.1))=true):∀ q∈xs,Ba l q.1∈L:=fun q hq=>by
 have:=List.all_eq_true.1 h q hq
 simpa using this
end Go.Proofs.YtopjojkjaklalaaGreatDoor
namespace Go.Proofs.YtopjojkjaklalaaGreatDoor
open Go.RowKit Go.Deep
def NeL (i:Oid):List Oid->Prop
 | []=>True
 | x :: r=>x≠i/\NeL i r
theorem At6 {L M:List Oid} {ob:Oid->Option Ob} {i:Oid} (hL:M=L) (h:NeL i L):Vz M ob i=ob i:=by
 subst hL;unfold Vz;rw [if_neg];intro hm
 induction M with
 | nil=>cases hm
 | cons x r ih =>
  rcases List.mem_cons.1 hm with rfl|hm
  ·exact h.1 rfl
  ·exact ih h.2 hm
theorem Axe {p:Oid} {j k:Nat} (h:j≠k):kid p j≠kid p k:=fun e=>h (Gh e)
theorem Fj {L:List Oid} {ob:Oid->Option Ob} {i:Oid} (h:i∈L):only L ob i=ob i:=if_pos h
theorem P3 {f:Nat->AV} {ob:Oid->Option Ob} {d:Option Nat} {gd:Option (Nat×Bool)} {fo y:Opd} {ys:List Opd} {tys:List (List (Option Ty))} {i:Oid} {t:Ty} {off len:Nat} (n:Nat) (hy:ys[n]? =some y) (he:y.ev f=.own i t off len):i∈rdX f ob ⟨d,gd,.call fo ys tys⟩:=by
 refine List.mem_flatMap.2 ⟨y,List.mem_cons_of_mem _ (List.mem_of_getElem? hy),?_⟩;rw [he];show i∈Ls ob (7+1) (.own i t off len);unfold Ls;dsimp only;split <;> simp
theorem Awp {L:List Oid} {l:List (Oid×Oid)}:∀ q∈exL [],Ba l q.1∈L:=fun _ h=>by cases h
theorem Av8 {L:List Oid} {l:List (Oid×Oid)} {i:Oid} {e:TypeId} {t:Ty} {xs:List t.D} {r:List (Oid×Ob)} (h:Ba l i∈L) (hr:∀ q∈exL r,Ba l q.1∈L):∀ q∈exL ((i,.arr e t xs) :: r),Ba l q.1∈L:=fun q hq=>by
 rcases List.mem_cons.1 hq with rfl|hq
 ·exact h
 ·exact hr q hq
theorem Ax2 {ob:Oid->Option Ob} {o:Oid} {e1:TypeId} {sz m n:Nat} {cs:List AV} (h:ob o=some (.vec e1 sz n cs)) (e:m=n):ob o=some (.vec e1 sz m cs):=by rw [e];exact h
theorem Amy {α:Type} {xs:List α} {k:Nat} (h:k<=xs.length):k=(xs.take k).length:=by rw [List.length_take];omega
theorem Ao0 {G:World->Prop} {S:St} {o:Oid} {e1:TypeId} {sz n k:Nat} {cs:List AV} (ho:S.ob o=some (.vec e1 sz n cs)) (hk:k<=n):WeakG G S ⟨S.tm,upd S.ob o (some (.vec e1 sz k (cs.take (k*sz)))),S.gen⟩:=by
 intro w0 B N a w hr;obtain ⟨σ,hm,hf,hB⟩:=hr.ex
 have was:∀ i x,upd S.ob o (some (.vec e1 sz k (cs.take (k*sz)))) i=some x->∃ y,S.ob i=some y:=fun i x hx=>by
  by_cases h:i=o
  ·subst h;exact ⟨_,ho⟩
  ·rw [Av _ _ _ _ h] at hx;exact ⟨x,hx⟩
 have hL:Later σ σ (imm S.ob σ) (imm (upd S.ob o (some (.vec e1 sz k (cs.take (k*sz))))) σ) w w:=⟨fun _ _ h=>h,fun b _ hb i x c s hx hs=>by obtain ⟨y,hy⟩:=was i x hx;exact hb i y c s hy hs,fun _ _ _=>rfl,Nat.le_refl _⟩
 refine ⟨⟨σ,⟨hm.below,hm.inv,hm.gen,hm.lt,hm.cap,fun i j b c s c' s' x y hx hy e1 e2=>?_,fun i x l hx hl=>?_⟩,fun t=>AV.Rep.later hL _ _ (hf t),hB.trans hL⟩,hr.size,hr.defers,fun i hi=>?_⟩
 ·obtain ⟨x',hx'⟩:=was i x hx;obtain ⟨y',hy'⟩:=was j y hy;exact hm.inj i j b c s c' s' x' y' hx' hy' e1 e2
 ·by_cases h:i=o
  ·subst h;have hx:upd S.ob i (some (.vec e1 sz k (cs.take (k*sz)))) i=some x:=hx;rw [A4] at hx;obtain rfl:=osj hx;obtain ⟨vs,p1,p2,p3,p4⟩:=hm.obs i _ l ho hl;refine ⟨vs.take (k*sz),p1.take hk (fun g cap e=>?_) (fun e=>?_),(AV.RepL.later hL _ _ p2).take _,fun v hv=>p3 v (List.mem_of_mem_take hv),p4⟩
   ·cases l with
    | nil=>cases e
    | at_ b c s=>cases e;rfl
   ·cases l with
    | nil=>rfl
    | at_ b c s=>cases e
  ·have hx:upd S.ob o (some (.vec e1 sz k (cs.take (k*sz)))) i=some x:=hx;rw [Av _ _ _ _ h] at hx;exact (hm.obs i x l hx hl).later hL fun _ _ _ _=>rfl
 ·by_cases h:i=o
  ·subst h;exact hr.obg i (by rw [ho];simp)
  ·have hi:upd S.ob o (some (.vec e1 sz k (cs.take (k*sz)))) i≠none:=hi;rw [Av _ _ _ _ h] at hi;exact hr.obg i hi
theorem Ak0 {G:World->Prop} {tl:List (Nat×AV)} {ol:List (Oid×Option Ob)} {g:Nat} (s:Nat) (o p:Oid) {e1 e:TypeId} {u:Ty} {xss:List (List u.D)} {n k:Nat} (hfl:u.flat=true) (ho:Aj ol o=some (.vec e1 1 n (hdL p u xss))) (hn:n=xss.length) (hp:Fw ol p=some (.pool e u xss)) (hk:k<=n) (hpo:(o.1.1==p.1.1&&o.2==p.2&&o.1.2 !=0)=false) (hog:(o.2==g)=false) (hfr:Ow g ((p,some (.pool e u [])) :: ol)=true) :
  WeakG G ⟨Am tl,Aj ol,g⟩ ⟨Am tl,Aj ((o,some (.mat e1 ((s,0),g) u (xss.take k))) :: (((s,0),g),some (.pool e u (xss.take k))) :: (p,some (.pool e u [])) :: (o,some (.vec e1 1 k ((hdL p u xss).take k))) :: ol),g+1⟩:=by
 have h1:WeakG G ⟨Am tl,Aj ol,g⟩ ⟨Am tl,Aj ((o,some (.vec e1 1 k ((hdL p u xss).take k))) :: ol),g⟩:=by
  have:=Ao0 (G:=G) (S:=⟨Am tl,Aj ol,g⟩) ho hk;rw [Nat.mul_one] at this;rw [← H3 rfl];exact this
 refine h1.trans ?_;have hok:∀ j,kid p j≠o:=fun j e=>by rw [← e] at hpo;simp [kid] at hpo
 have hpool:Fw ((o,some (.vec e1 1 k ((hdL p u xss).take k))) :: ol) p=some (.pool e u xss):=by
  show (if p.1.1=o.1.1/\p.2=o.2/\o.1.2≠0 then none else Fw ol p)=_;rw [if_neg,hp];rintro ⟨a1,a2,a3⟩;rw [a1,a2] at hpo;simp [a3] at hpo
 refine Ke s o (fun j=>kid p j) [(p,some (.pool e u []))] hfl (by show Aj _ o=_;simp only [Aj];rw [if_pos trivial]) (by rw [List.length_take];omega) (fun j row hj=>?_) (fun a b _ _ hab=>Gh hab) hog ?_ (fun i hi=>?_)
 ·rw [List.getElem?_take] at hj ⊢;split at hj
  ·rename_i hlt;rw [if_pos hlt,D9,hj];exact ⟨rfl,row,Bc hpool hj,Nat.le_refl _,(List.take_length).symm⟩
  ·cases hj
 ·simp only [Ow,List.all_append,List.all_cons,List.all_nil,Bool.and_true,Bool.and_eq_true,bne_iff_ne] at hfr ⊢;exact ⟨hfr.1,by simpa using hog,hfr.2⟩
 ·simp only [List.cons_append,List.nil_append,L6];split
  ·exact .inl rfl
  ·rename_i h2;exact .inr ⟨rfl,fun j _ e=>h2 (by rw [e];exact ⟨rfl,rfl,by simp [kid]⟩)⟩
theorem Ajr {G:World->Prop} {tl:List (Nat×AV)} {ol:List (Oid×Option Ob)} {g:Nat} (s:Nat) (o p:Oid) {e1 e:TypeId} {u:Ty} {xss:List (List u.D)} {k:Nat} (hfl:u.flat=true) (ho:Aj ol o=some (.vec e1 1 k ((hdL p u xss).take k))) (hp:Fw ol p=some (.pool e u xss)) (hk:k<=xss.length) (hog:(o.2==g)=false) (hfr:Ow g ((p,some (.pool e u [])) :: ol)=true) :
  WeakG G ⟨Am tl,Aj ol,g⟩ ⟨Am tl,Aj ((o,some (.mat e1 ((s,0),g) u (xss.take k))) :: (((s,0),g),some (.pool e u (xss.take k))) :: (p,some (.pool e u [])) :: ol),g+1⟩:=by
 refine Ke s o (fun j=>kid p j) [(p,some (.pool e u []))] hfl ho (by rw [List.length_take];omega) (fun j row hj=>?_) (fun a b _ _ hab=>Gh hab) hog hfr (fun i hi=>?_)
 ·rw [List.getElem?_take] at hj ⊢;split at hj
  ·rename_i hlt;rw [if_pos hlt,D9,hj];exact ⟨rfl,row,Bc hp hj,Nat.le_refl _,(List.take_length).symm⟩
  ·cases hj
 ·simp only [List.cons_append,List.nil_append,L6];split
  ·exact .inl rfl
  ·rename_i h2;exact .inr ⟨rfl,fun j _ e=>h2 (by rw [e];exact ⟨rfl,rfl,by simp [kid]⟩)⟩
section
variable {f:Nat->AV} {ob:Oid->Option Ob} {n:Nat} {d:Option Nat}
theorem An8 {sz:Nat} {x hi mx:Opd} {i:Oid} {t:Ty} {len N:Nat} {e:TypeId} {cs:List AV} {kh km:IntKind} {h m:Int} {j:Nat} (hx:x.ev f=.own i t 0 len) (hob:ob i=some (.vec e 1 N cs)) (hh:hi.ev f=.int kh h) (hm:mx.ev f=.int km m) (hs:t.size=sz) (hb:0<=h/\h<=m/\m<=(len:Int)) (hj:h.toNat=j) (hk:j<=N) :
  A7 n ⟨d,none,.slice sz x none (some hi) (some mx)⟩ f ob=some (2,.own ((d.getD 0,0),n) t 0 j,[(i,none),(((d.getD 0,0),n),some (.vec e 1 j (cs.take j)))]):=by
 subst hj;simp [A7,ev,Sz,Ku,Ey,hx,hob,hh,hm,hs,hb,Agz,hk,AV.un]
theorem Xw:∀ (n:Nat) (l:List Int),l.length=n+1->R4 ((tyA n).av (He n l))=some l
 | 0,[x],_=>rfl
 | 0,[],h=>by cases h
 | 0,_ :: _ :: _,h=>by simp at h
 | n+1,[],h=>by cases h
 | n+1,x :: l,h=>by
  have:=Xw n l (by simpa using h);simp only [tyA,He,Ty.av,List.cons_append,List.nil_append,List.tail_cons,List.getD_cons_zero,R4,this]
theorem Aww {neg:Bool} {N:Nat} {x y:Opd} {l l':List Int} (hx:x.ev f=.agg ((tyA N).av (He N l))) (hy:y.ev f=.agg ((tyA N).av (He N l'))) (h1:l.length=N+1/\l'.length=N+1) :
  A7 n ⟨d,none,.i (.cmp neg (N+4) x y)⟩ f ob=some (0,.bool (if neg then !(l==l') else l==l'),[]):=by
 have e1:=Xw N l h1.1;have e2:=Xw N l' h1.2;have e3:=Sd N l;simp [A7,ev,evN,Yi,Afa,hx,hy,AV.un,e1,e2,e3,h1]
end
end Go.Proofs.YtopjojkjaklalaaGreatDoor
namespace Go.Proofs.YtopjojkjaklalaaGreatDoor
open Go.RowKit Go.Deep
inductive Ctl (σ ρ:Type) where
 | next (s:σ)
 | out (r:ρ)
def Ctl.then {σ β:Type} (k:σ->Option β):Ctl σ β->Option β
 | .next t=>k t
 | .out r=>some r
section
variable {α β σ τ ρ:Type}
def og (c:Prop) [Decidable c] (k:Option α):Option α:=if c then k else none
theorem Ak {c:Prop} [Decidable c] {k:Option α} {r:α} (h:og c k=some r):c/\k=some r:=by
 unfold og at h;split at h
 ·rename_i hc;exact ⟨hc,h⟩
 ·cases h
theorem Af {c:Prop} [Decidable c] (h:c) (k:Option α):og c k=k:=if_pos h
theorem Ah {o:Option α} {f:α->Option β} {b:β} (h:o.bind f=some b):∃ a,o=some a/\f a=some b:=Option.bind_eq_some_iff.1 h
theorem A0 {c:Bool} {a b:Option α} {r:α} (h:cond c a b=some r):(c=true/\a=some r)∨(c=false/\b=some r):=by
 cases c
 ·exact .inr ⟨rfl,h⟩
 ·exact .inl ⟨rfl,h⟩
def Di (a:Option (Ctl τ β)) (k:τ->Option β):Option β :=
 a.bind (Ctl.then k)
theorem Ao7 {a:Option (Ctl τ β)} {k:τ->Option β} {r:β} (h:Di a k=some r):∃ v,a=some v/\Ctl.then k v=some r:=Ah h
def Aq (body:σ->Option (Ctl σ ρ)):Nat->σ->Option ρ
 | 0,_=>none
 | n+1,s=>(body s).bind (Ctl.then (Aq body n))
theorem Akk {body:σ->Option (Ctl σ ρ)} {n:Nat} {s:σ} {v:ρ} (h:Aq body (n+1) s=some v):∃ c,body s=some c/\Ctl.then (Aq body n) c=some v:=Ah h
theorem Ak5 {body:σ->Option (Ctl σ ρ)} {s:σ} {v:ρ} (h:Aq body 0 s=some v):False:=by cases h
def Cb (xs:List α) (n:Int):Option α:=if 0<=n then xs[n.toNat]? else none
theorem Ai {xs:List α} {k:Nat} {x:α} (h:xs[k]? =some x):k<xs.length:=(gSi.1 h).1
theorem Ar {xs:List α} {n:Int} {x:α} (h:Cb xs n=some x):0<=n/\n<xs.length/\xs[n.toNat]? =some x:=by
 unfold Cb at h;split at h
 ·rename_i h0;have:=Ai h;exact ⟨h0,by omega,h⟩
 ·cases h
theorem Bt {xs:List α} {n:Int} (h:0<=n):Cb xs n=xs[n.toNat]?:=if_pos h
end
section
variable {P:Program} {G:World->Prop} {σ τ β ρ:Type}
theorem Aq1 {x y:AC} {R:AE->St->Prop} {S:St} {A:Option τ} {k:τ->Option β} {r:β} (h:A.bind k=some r) (J:τ->St->Prop) (h1:∀ t,A=some t->awp P G x (H0 (fun S'=>∃ S'',WeakG G S' S''/\J t S'') R) S) (h2:∀ t S'',J t S''->k t=some r->awp P G y R S''):awp P G (.seq x y) R S:=by
 obtain ⟨t,ha,hk⟩:=Ah h;exact Aee (J t) (h1 t ha) fun S'' hj=>h2 t S'' hj hk
theorem Asn {x y:AC} {R:AE->St->Prop} {S:St} {A:Option (Ctl τ β)} {k:τ->Option β} {r:β} (h:Di A k=some r) (J:τ->St->Prop)
  (h1:∀ v,A=some v->Ctl.then k v=some r->awp P G x (H0 (fun S'=>∃ t S'',v=.next t/\WeakG G S' S''/\J t S'') R) S) (h2:∀ t S'',J t S''->k t=some r->awp P G y R S''):awp P G (.seq x y) R S:=by
 obtain ⟨v,ha,hk⟩:=Ao7 h;refine Aee (fun S''=>∃ t,v=.next t/\J t S'') (Df (fun e S' hq=>?_) (h1 v ha hk)) fun S'' ⟨t,hv,hj⟩=>?_
 ·cases e with
  | normal=>obtain ⟨t,S'',hv,hw,hj⟩:=hq;exact ⟨S'',hw,t,hv,hj⟩
  | exit id=>exact hq
  | ret=>exact hq
 ·subst hv;exact h2 t S'' hj hk
theorem Aoq {a:AC} {R:AE->St->Prop} {S:St} {body:σ->Option (Ctl σ ρ)} {fuel:Nat} {s0:σ} {v:ρ} (h:Aq body fuel s0=some v) (J:σ->St->Prop) (h0:∃ S0,WeakG G S S0/\J s0 S0)
  (h1:∀ n s S1 c,J s S1->body s=some c->Ctl.then (Aq body n) c=some v->awp P G a (H0 (fun S2=>∃ s' S3,WeakG G S2 S3/\J s' S3/\Aq body n s'=some v) R) S1):awp P G (.loop a) R S:=by
 obtain ⟨S0,hw,hj⟩:=h0;refine Ans (fun (p:Nat×σ) S=>Aq body p.1 p.2=some v/\J p.2 S) (·.1) ⟨(fuel,s0),S0,hw,h,hj⟩ ?_;rintro ⟨n,s⟩ S1 ⟨hl,hj⟩;cases n with
 | zero=>exact (Ak5 hl).elim
 | succ n =>
  obtain ⟨c,hc,hn⟩:=Akk hl;refine Df (fun e S2 hq=>?_) (h1 n s S1 c hj hc hn);cases e with
  | normal=>obtain ⟨s',S3,hw,hj,hl⟩:=hq;exact ⟨(n,s'),S3,hw,⟨hl,hj⟩,Nat.lt_succ_self n⟩
  | exit id=>exact hq
  | ret=>exact hq
end
theorem Cu (n:Nat):0<=(n:Int):=by omega
end Go.Proofs.YtopjojkjaklalaaGreatDoor
namespace Go.Proofs.YtopjojkjaklalaaGreatDoor
open Go.RowKit Go.Deep
def H7 (a0:Int):Option Bool:=some (isF a0)
def Yp (r:Bool):RV:=⟨false,[(false,[.sc (.bool r)])]⟩
theorem Rd {a0:Int} {r:Bool} (h:H7 a0=some r):Cr Tryz.prog Tab 82 [.int .i64 a0] (Yp r):=by
 obtain rfl:=osj h;intro w im vs hG hr;obtain ⟨u1,_,rfl,h1,h2⟩:=hr;obtain rfl:_=[]:=h2;obtain rfl:u1=.int .i64 a0:=h1;refine (Ajm a0 w (hG w (Below.refl _ _))).mono ?_;rintro e w' ⟨rfl,rfl⟩;exact ⟨_,rfl,Below.refl _ _,[_],[],⟨_,[],rfl,rfl,rfl,rfl,rfl⟩,⟨trivial,fun _=>rfl⟩,rfl⟩
end Go.Proofs.YtopjojkjaklalaaGreatDoor
namespace Go.Proofs.YtopjojkjaklalaaGreatDoor
open Go.RowKit Go.Deep
theorem Awi {f:Nat->AV} {ob:Oid->Option Ob} {d:Option Nat} {gd:Option (Nat×Bool)} {fo y:Opd} {ys:List Opd} {tys:List (List (Option Ty))} {i p:Oid} {t u:Ty} {off len z m k:Nat} {e1:TypeId} {xss:List (List u.D)} (n:Nat) (hy:ys[n]? =some y) (he:y.ev f=.own i t off len) (hob:ob i=some (.vec e1 z m (hdL p u xss))) (hk:k<xss.length):kid p k∈rdX f ob ⟨d,gd,.call fo ys tys⟩:=by
 refine List.mem_flatMap.2 ⟨y,List.mem_cons_of_mem _ (List.mem_of_getElem? hy),?_⟩;rw [he];show kid p k∈Ls ob (7+1) (.own i t off len);unfold Ls;dsimp only;rw [hob];refine List.mem_cons_of_mem _ (List.mem_flatMap.2 ⟨.own (kid p k) u 0 xss[k].length,List.mem_of_getElem? (i:=k) (by rw [D9,gEg hk];rfl),?_⟩);exact List.mem_singleton.2 rfl
theorem Aar {f:Nat->AV} {ob:Oid->Option Ob} {d:Option Nat} {gd:Option (Nat×Bool)} {fo y:Opd} {ys:List Opd} {tys:List (List (Option Ty))} {i p:Oid} {t u:Ty} {off len z m:Nat} {e e1:TypeId} {xss:List (List u.D)} (n:Nat) (hy:ys[n]? =some y) (he:y.ev f=.own i t off len) (hob:ob i=some (.vec e1 z m (hdL p u xss))) (hr:∀ (k:Nat) (row:List u.D),xss[k]? =some row->ob (kid p k)=some (.arr e u row)) (k:Nat) (row:List u.D) (h:xss[k]? =some row):only (rdX f ob ⟨d,gd,.call fo ys tys⟩) ob (kid p k)=some (.arr e u row):=(Fj (Awi n hy he hob (gSi.1 h).1)).trans (hr k row h)
end Go.Proofs.YtopjojkjaklalaaGreatDoor
namespace Go.Proofs.YtopjojkjaklalaaGreatDoor
open Go.RowKit Go.Deep
theorem Aad:∀ (n:Nat) (l:List Int),l.length=n+1->(tyA n).av (He n l)=l.map (AV.int .i64)
 | 0,[x],_=>rfl
 | 0,[],h=>by cases h
 | 0,_ :: _ :: _,h=>by simp at h
 | n+1,[],h=>by cases h
 | n+1,x :: l,h=>by
  have:=Aad n l (by simpa using h);simp only [tyA,He,Ty.av,List.tail_cons,this];rfl
theorem Auw {f:Nat->AV} {ob:Oid->Option Ob} {d:Option Nat} {gd:Option (Nat×Bool)} {fo y:Opd} {ys:List Opd} {tys:List (List (Option Ty))} {az:List AV} {i p:Oid} {t u:Ty} {off len z m k:Nat} {e1:TypeId} {xss:List (List u.D)} (n j:Nat) (hy:ys[n]? =some y) (he:y.ev f=.agg az) (hj:az[j]? =some (.own i t off len)) (hob:ob i=some (.vec e1 z m (hdL p u xss))) (hk:k<xss.length):kid p k∈rdX f ob ⟨d,gd,.call fo ys tys⟩:=by
 refine List.mem_flatMap.2 ⟨y,List.mem_cons_of_mem _ (List.mem_of_getElem? hy),?_⟩;rw [he];show kid p k∈Ls ob (7+1) (.agg az);unfold Ls;dsimp only;refine List.mem_flatMap.2 ⟨_,List.mem_of_getElem? hj,?_⟩;show kid p k∈Ls ob (6+1) (.own i t off len);unfold Ls;dsimp only;rw [hob];refine List.mem_cons_of_mem _ (List.mem_flatMap.2 ⟨.own (kid p k) u 0 xss[k].length,List.mem_of_getElem? (i:=k) (by rw [D9,gEg hk];rfl),?_⟩);exact List.mem_singleton.2 rfl
theorem Adg {f:Nat->AV} {ob:Oid->Option Ob} {d:Option Nat} {gd:Option (Nat×Bool)} {fo y:Opd} {ys:List Opd} {tys:List (List (Option Ty))} (az:List AV) {i p:Oid} {t u:Ty} {off len z m:Nat} {e e1:TypeId} {xss:List (List u.D)} (n j:Nat) (hy:ys[n]? =some y) (he:y.ev f=.agg az) (hj:az[j]? =some (.own i t off len)) (hob:ob i=some (.vec e1 z m (hdL p u xss))) (hr:∀ (k:Nat) (row:List u.D),xss[k]? =some row->ob (kid p k)=some (.arr e u row)) (k:Nat) (row:List u.D) (h:xss[k]? =some row):only (rdX f ob ⟨d,gd,.call fo ys tys⟩) ob (kid p k)=some (.arr e u row):=(Fj (Auw n j hy he hj hob (gSi.1 h).1)).trans (hr k row h)
theorem Z0 {f:Nat->AV} {ob:Oid->Option Ob} {d:Option Nat} {gd:Option (Nat×Bool)} {fo y:Opd} {ys:List Opd} {tys:List (List (Option Ty))} (az:List AV) {i:Oid} {t:Ty} {off len:Nat} (n j:Nat) (hy:ys[n]? =some y) (he:y.ev f=.agg az) (hj:az[j]? =some (.own i t off len)):i∈rdX f ob ⟨d,gd,.call fo ys tys⟩:=by
 refine List.mem_flatMap.2 ⟨y,List.mem_cons_of_mem _ (List.mem_of_getElem? hy),?_⟩;rw [he];show i∈Ls ob (7+1) (.agg az);unfold Ls;dsimp only;refine List.mem_flatMap.2 ⟨_,List.mem_of_getElem? hj,?_⟩;show i∈Ls ob (6+1) (.own i t off len);unfold Ls;dsimp only;split <;> simp
theorem Avj {vs:List Value} {ob:Oid->Option Ob}:∀ (n:Nat) (l:List Int),LeavesR vs ob ((tyA n).av (He n l)) (((tyA n).av (He n l)).map .sc)
 | 0,_=>Ed (Arn rfl) V2
 | n+1,l=>Ed (Arn rfl) (Avj n l.tail)
section
variable {n:Nat} {d:Option Nat} {f:Nat->AV} {ob:Oid->Option Ob}
theorem Axq {N:Nat} {x:Opd} {i:Oid} {j:Nat} {e:TypeId} {xs:List (tyA N).D} (hx:x.ev f=.elt i j 0) (hob:ob i=some (.arr e (tyA N) xs)) (hs:(tyA N).size=N+1):A7 n ⟨d,none,.slA (N+1) x⟩ f ob=some (1,.sla i j (N+1),[]):=by
 simp [A7,ev,Al3,hx,hob,hs]
theorem At0 {N:Nat} {x y:Opd} {i:Oid} {e:TypeId} {l ys zs:List Int} (hx:x.ev f=.sla i 0 (N+1)) (hy:D8 ob .int (y.ev f)=some ys) (hob:ob i=some (.arr e (tyA N) [He N l])) (hs:(tyA N).size=N+1) (hl:l.length=N+1) (hz:ys.take (N+1)++l.drop (ys.take (N+1)).length=zs) :
  A7 n ⟨d,none,.copy x y⟩ f ob=some (2,.int .i64 ((ys.take (N+1)).length:Nat),[(i,none),(i,some (.arr e (tyA N) [He N zs]))]):=by
 subst hz
 have hzl:(ys.take (N+1)++l.drop (ys.take (N+1)).length).length=N+1:=by
  simp only [List.length_append,List.length_take,List.length_drop];omega
 have h1:=Aad N l hl;have h2:=Aad N _ hzl;have h3:=Wp N (ys.take (N+1)++l.drop (ys.take (N+1)).length);have h4:(ys.take (N+1)).length<=N+1:=by rw [List.length_take];omega
 have hc:J5 false (ys.take (N+1)).length 0 ((tyA N).av (He N l)) (.agg ((ys.take (N+1)).map (AV.int .i64)))=some ((tyA N).av (He N (ys.take (N+1)++l.drop (ys.take (N+1)).length))):=by
  rw [h1,h2];generalize ys.take (N+1)=z at h4 ⊢;have h5:(z.map (AV.int .i64)).all AV.one=true:=by rw [List.all_eq_true];intro a ha;obtain ⟨b,_,rfl⟩:=List.mem_map.1 ha;rfl
  simp only [J5,Bool.false_eq_true,if_false,List.length_map,Nat.zero_add,List.take_zero,List.nil_append,List.map_append,List.map_drop];rw [if_pos (by first|exact ⟨rfl,by omega,h5⟩|exact ⟨trivial,by omega,h5⟩)]
 have e1:Q3 f ob x y=some (.int .i64 ((ys.take (N+1)).length:Nat),[(i,none),(i,some (.arr e (tyA N) [He N (ys.take (N+1)++l.drop (ys.take (N+1)).length)]))]):=by
  unfold Q3;rw [hx];dsimp only;rw [hy];dsimp only;rw [hob];dsimp only [List.getElem?_cons_zero];rw [hc];dsimp only;rw [h3];dsimp only;rw [if_pos hs];rfl
 simp only [A7,ev,e1]
end
end Go.Proofs.YtopjojkjaklalaaGreatDoor
namespace Go.Proofs.YtopjojkjaklalaaGreatDoor
open Go.RowKit Go.Deep
theorem As6 {n:Nat} {ob:Oid->Option Ob} {o p:Oid} {e1 e:TypeId} {u:Ty} {xss ys:List (List u.D)} {off len:Nat} (ho:ob o=some (.vec e1 1 xss.length (hdL p u xss))) (hk:∀ k row,xss[k]? =some row->ob (kid p k)=some (.arr e u row))
  (hl:off+len<=xss.length) (hy:(xss.drop off).take len=ys):gnd ob (n+1) (.own o (.slice u) off len)=some (.tree (.slice u) ys):=by
 subst hy;have hlen:((xss.drop off).take len).length=len:=by rw [List.length_take,List.length_drop];omega
 have key:Zf ob 1 (rdC ob (.slice u)) (.own o (.slice u) off len)=some ((xss.drop off).take len):=by
  simp only [Zf,ho];rw [if_pos ⟨trivial,hl⟩]
  have:=Qn (g:=rdC ob (.slice u)) (cs:=((hdL p u xss).drop (off*1)).take (len*1)) (xs:=(xss.drop off).take len) (by simp only [Nat.mul_one,List.length_take,List.length_drop,C7]) (fun k c x hc hx=>by
   rw [List.getElem?_take,List.getElem?_drop] at hx;rw [Nat.mul_one,Nat.mul_one,List.getElem?_take,List.getElem?_drop,D9] at hc;split at hx
   ·rename_i hkl;rw [if_pos hkl,hx] at hc;obtain rfl:=osj hc;have:=hk _ x hx;simp only [rdC,D8,this,Nat.zero_add,Nat.le_refl,if_true,Ty.eq?_self,Ca,List.drop_zero,List.take_length]
   ·cases hx)
  rw [hlen] at this;exact this
 simp only [gnd,ho,Ty.size,key,Option.map_some]
theorem Arw {G:World->Prop} {S:St} {ob' obD:Oid->Option Ob} {tm':Nat->AV} (h1:∀ i o,ob' i=some o->S.ob i=some o) (h2:∀ i o,obD i=some o->S.ob i=some o/\ob' i=none) (h3:∀ t,tm' t=S.tm t∨∃ n,gnd obD n (S.tm t)=some (tm' t)):WeakG G S ⟨tm',ob',S.gen⟩:=by
 intro w0 B N a w hr;obtain ⟨σ,hm,hf,hB⟩:=hr.ex;have him:∀ b,imm S.ob σ b->imm ob' σ b:=fun b hb i o c s ho=>hb i o c s (h1 i o ho)
 have hL:Later σ σ (imm S.ob σ) (imm ob' σ) w w:=⟨fun _ _ h=>h,fun b _ hb=>him b hb,fun _ _ _=>rfl,Nat.le_refl _⟩
 refine ⟨⟨σ,⟨hm.below,hm.inv,hm.gen,hm.lt,hm.cap,fun i j b c s c' s' o o' hi hj=>hm.inj i j b c s c' s' o o' (h1 i o hi) (h1 j o' hj),fun i o l hi hl=>(hm.obs i o l (h1 i o hi) hl).later hL fun _ _ _ _=>rfl⟩,fun t=>?_,hB.trans hL⟩,hr.size,hr.defers,fun i hi=>?_⟩
 ·rcases h3 t with e|⟨n,e⟩
  ·show AV.Rep σ (imm ob' σ) w (tm' t) _;rw [e];exact AV.Rep.later hL _ _ (hf t)
  ·refine Ky (ob:=obD) (lo:=w0.heap.size) (im:=imm S.ob σ) (fun i o l ho hl=>hm.obs i o l (h2 i o ho).1 hl) him (fun i o b c s ho hs j o' c' s' hj hs'=>?_) n _ _ _ e (hf t);have:=hm.inj i j b c s c' s' o o' (h2 i o ho).1 (h1 j o' hj) hs hs';subst this;rw [(h2 _ o ho).2] at hj;cases hj
 ·refine hr.obg i fun hn=>hi ?_
  cases ho:ob' i with
  | none=>exact ho
  | some o=>rw [h1 i o ho] at hn;cases hn
end Go.Proofs.YtopjojkjaklalaaGreatDoor
namespace Go.Proofs.YtopjojkjaklalaaGreatDoor
open Go.RowKit Go.Deep
def GN (G:World->Prop) (n:Nat) (w:World):Prop:=G w/\n<=w.heap.size
def AV.toR (R:Nat->Prop):AV->AV
 | .tree t xs=>.ftr R t xs
 | c=>c
def RL.toR (R:Nat->Prop):RL->RL
 | .frz c=>.frz (c.toR R)
 | .imm c=>.imm (c.toR R)
 | l=>l
def RV.toR (R:Nat->Prop) (r:RV):RV:=⟨r.tup,r.ps.map fun p=>(p.1,p.2.map (RL.toR R))⟩
section
variable {P:Program} {G:World->Prop} {f:FuncId} {args:List AV} {r:RV} {n:Nat} {R:Nat->Prop}
theorem Gb (h:Cr P G f args r):Cr P (GN G n) f args r:=fun w im vs hG hr=>h w im vs (fun w' hb=>(hG w' hb).1) hr
theorem Sy {ol us:List (Oid×Ob)} {v:AV} (h:D1 P G f args ol v us):D1 P (GN G n) f args ol v us:=by
 intro θ i w0 ob σ K w vs hM h1 h2 h3 h4 h5;refine (h θ i w0 ob σ K w vs ⟨hM.below,fun w' hb=>(hM.inv w' hb).1,hM.gen,hM.lt,hM.cap,hM.inj,hM.obs⟩ h1 h2 h3 h4 h5).mono ?_;rintro e w' ⟨u,rfl,σ',q1,q2,q3⟩;exact ⟨u,rfl,σ',q1,⟨q2.below,hM.inv,q2.gen,q2.lt,q2.cap,q2.inj,q2.obs⟩,q3⟩
theorem Al9 {c:AV} (h:c.gndB=true):(c.toR R).gndB=true:=by
 cases c <;> first|exact h|rfl
theorem And {c:AV} {im im':Nat->Prop} {w:World} {u:Value} (hg:c.gndB=true) (h1:∀ b,im b->im' b) (h2:∀ b,im b->R b) (h:AV.Rep (fun _=>none) im w c u):AV.Rep (fun _=>none) im' w (c.toR R) u:=by
 cases c <;> first|exact Ol h1 _ hg _ h|skip
 obtain ⟨A,c,l,e,hs⟩:=h;exact ⟨A,c,l,e,Bz (fun b _ hb=>⟨h1 b hb,h2 b hb⟩) hs⟩
theorem Mw {lo:Nat} {im im':Nat->Prop} {vs:List Value} {w:World} (hR:∀ b,lo<=b->R b) (him:∀ b,im' b->im b):∀ {rs:List RL} {us:List Value} {ls:List Loc},(∀ l∈rs,l.isI=true->∀ b,im' b->R b)->RL.RepL lo im' vs w rs us ls->RL.RepL lo im vs w (rs.map (RL.toR R)) us ls
 | [],_,_,_,h=>h
 | .sc c :: _,_,_,hI,⟨u,us',e,q1,q2,q3⟩=>⟨u,us',e,(by cases c <;> first|exact q1|cases q2),q2,Mw hR him (fun l hl=>hI l (List.mem_cons_of_mem _ hl)) q3⟩
 | .new _ _ _ :: _,_,_,hI,⟨l,ls',us',e1,e2,q1,q2,q3,q4⟩=>⟨l,ls',us',e1,e2,q1,q2,q3,Mw hR him (fun l hl=>hI l (List.mem_cons_of_mem _ hl)) q4⟩
 | .newM _ _ _ _ :: _,_,_,hI,⟨l,kl,ls',us',ks,e1,e2,q,q4⟩=>⟨l,kl,ls',us',ks,e1,e2,q,Mw hR him (fun l hl=>hI l (List.mem_cons_of_mem _ hl)) q4⟩
 | .arg _ _ :: _,_,_,hI,⟨u,us',e,q1,q3⟩=>⟨u,us',e,q1,Mw hR him (fun l hl=>hI l (List.mem_cons_of_mem _ hl)) q3⟩
 | .argS _ _ _ _ _ :: _,_,_,hI,⟨A,m,c,us',e,q1,q3⟩=>⟨A,m,c,us',e,q1,Mw hR him (fun l hl=>hI l (List.mem_cons_of_mem _ hl)) q3⟩
 | .frz c :: _,_,_,hI,⟨u,us',e,q1,q2,q3⟩=>⟨u,us',e,And q2 (fun _ h=>h) (fun b hb=>hR b hb) q1,Al9 q2,Mw hR him (fun l hl=>hI l (List.mem_cons_of_mem _ hl)) q3⟩
 | .imm c :: _,_,_,hI,⟨u,us',e,q1,q2,q3⟩=>⟨u,us',e,And q2 (fun b hb=>hb.imp (him b) id) (fun b hb=>hb.elim (hI _ List.mem_cons_self rfl b) (hR b)) q1,Al9 q2,Mw hR him (fun l hl=>hI l (List.mem_cons_of_mem _ hl)) q3⟩
theorem Ab3:∀ (ps:List (Bool×List RL)) (us:List Value),J7 (ps.map fun p=>(p.1,p.2.map (RL.toR R))) us=J7 ps us
 | [],_=>rfl
 | (b,rs) :: ps,us=>by simp only [List.map_cons,J7,List.length_map,Ab3 ps]
theorem Abv (r:RV):(r.toR R).leaves=r.leaves.map (RL.toR R):=by
 simp only [RV.leaves,RV.toR,List.flatMap_map,List.map_flatMap]
theorem Axf (l:RL):(l.toR R).fi=l.fi:=by cases l <;> rfl
theorem As0 {lo:Nat} {im im':Nat->Prop} {vs:List Value} {w:World} {u:Value} (hR:∀ b,lo<=b->R b) (him:∀ b,im' b->im b) (hI:(∃ l∈r.leaves,l.isI=true)->∀ b,im' b->R b) (h:r.Rep lo im' vs w u):(r.toR R).Rep lo im vs w u:=by
 obtain ⟨us,ls,q1,⟨q2,q3⟩,q4⟩:=h;refine ⟨us,ls,by rw [Abv];exact Mw hR him (fun l hl hi=>hI ⟨l,hl,hi⟩) q1,⟨q2,fun ⟨c,hc,hd⟩=>q3 ?_⟩,?_⟩
 ·rw [Abv] at hc;obtain ⟨l,hl,e⟩:=List.mem_map.1 hc;subst e;rw [Axf] at hd;exact ⟨l,hl,hd⟩
 ·rw [q4];simp only [RV.toR,Ab3]
theorem Fc (hR:∀ b,n<=b->R b) (h:Cr P G f args r) (hni:r.noI=true:=by kernel_rfl):Cr P (GN G n) f args (r.toR R):=by
 intro w im vs hG hr;have hn:n<=w.heap.size:=(hG w (Below.refl _ _)).2;refine (h w im vs (fun w' hb=>(hG w' hb).1) hr).mono ?_;rintro e w' ⟨u,rfl,hb,hrv⟩;refine ⟨u,rfl,hb,As0 (fun b hb=>hR b (Nat.le_trans hn hb)) (fun _ h=>h) (fun ⟨l,hl,hi⟩=>?_) hrv⟩;have:=List.all_eq_true.1 hni l hl;rw [hi] at this;cases this
mutual
def AV.unR (R:Nat->Prop):AV->AV->Prop
 | .tree t xs,d=>d=.ftr R t xs
 | .agg cs,d=>∃ ds,d=.agg ds/\AV.unRL R cs ds
 | c,d=>c.scal=true/\d=c
def AV.unRL (R:Nat->Prop):List AV->List AV->Prop
 | [],ds=>ds=[]
 | c :: cs,ds=>∃ d ds',ds=d :: ds'/\AV.unR R c d/\AV.unRL R cs ds'
end
mutual
theorem Aty {im:Nat->Prop} {w:World}:∀ (c d:AV) (u:Value),AV.unR R c d->AV.Rep (fun _=>none) im w d u->AV.Rep (fun _=>none) (fun b=>im b/\R b) w c u
 | .tree t xs,d,u,h,hr=>by
  have h:d=.ftr R t xs:=h;subst h;exact hr
 | .agg cs,d,u,⟨ds,e,h⟩,hr=>by
  subst e;obtain ⟨us,e,hr⟩:=hr;exact ⟨us,e,Ai6 cs ds us h hr⟩
 | .int ..,d,u,⟨_,e⟩,hr=>by subst e;exact hr
 | .bool ..,d,u,⟨_,e⟩,hr=>by subst e;exact hr
 | .str ..,d,u,⟨_,e⟩,hr=>by subst e;exact hr
 | .err ..,d,u,⟨h,e⟩,hr=>by first|(cases h;done)|(subst e;exact hr)
 | .nils,d,u,⟨_,e⟩,hr=>by subst e;exact hr
 | .any,d,u,⟨h,_⟩,_=>by cases h
 | .mtree ..,d,u,⟨h,_⟩,_=>by cases h
 | .ftr ..,d,u,⟨h,_⟩,_=>by cases h
 | .mp _,d,u,⟨h,_⟩,_=>by cases h
 | .tup _,d,u,⟨h,_⟩,_=>by cases h
 | .fn ..,d,u,⟨h,_⟩,_=>by cases h
 | .ref _,d,u,⟨h,_⟩,_=>by cases h
 | .own ..,d,u,⟨h,_⟩,_=>by cases h
 | .box ..,d,u,⟨h,_⟩,_=>by cases h
 | .elt ..,d,u,⟨h,_⟩,_=>by cases h
 | .sla ..,d,u,⟨h,_⟩,_=>by cases h
 | .telt ..,d,u,⟨h,_⟩,_=>by cases h
 | .giv ..,d,u,⟨h,_⟩,_=>by cases h
 | .abool ..,d,u,⟨h,_⟩,_=>by cases h
theorem Ai6 {im:Nat->Prop} {w:World}:∀ (cs ds:List AV) (us:List Value),AV.unRL R cs ds->AV.RepL (fun _=>none) im w ds us->AV.RepL (fun _=>none) (fun b=>im b/\R b) w cs us
 | [],ds,us,h,hr=>by obtain rfl:ds=[]:=h;exact hr
 | c :: cs,ds,us,⟨d,ds',e,h1,h2⟩,hr=>by
  subst e;obtain ⟨u,us',e,r1,r2⟩:=hr;exact ⟨u,us',e,Aty c d u h1 r1,Ai6 cs ds' us' h2 r2⟩
end
theorem Atv {p:Bool} {n:Nat} {d:Option Nat} {gd:Option (Nat×Bool)} {fo:Opd} {xs:List Opd} {tys:List (List (Option Ty))} {f:Nat->AV} {ob:Oid->Option Ob} {F:FuncId} {caps args:List AV} {rv:RV} {r:AV×List (Oid×Option Ob)}
  (hgd:Q1 gd f) {F0:FuncId} (hfo:fo.ev f=.fn F0 caps) (hF:Pr F0=F) (hg:AV.gndBL ((C3 F0 xs (caps.map Opd.cst)).map (Opd.ev f))=true) (hn:Nk tys ((C3 F0 xs (caps.map Opd.cst)).map (Opd.ev f))=args) (hb:Ch P F=true) (hc:Cr P G F args rv) (hr:rv.out (Ce ((d.getD 0,0),n)) ((C3 F0 xs (caps.map Opd.cst)).map (Opd.ev f))=r) :
  E5 P G p n ⟨d,gd,.call fo xs tys⟩ f ob (1,r.1,r.2):=by
 subst hn hF;have key:EvR P G p f ob ((d.getD 0,0),n) (.call fo xs tys) (1,r.1,r.2):=.inr ⟨fo,xs,tys,F0,caps,rfl,hfo,.inl ⟨rfl,hb,_,rv,.inr ⟨rfl,hg⟩,hc,hr⟩⟩;unfold E5;cases gd with
 | none=>exact key
 | some sb=>exact ⟨true,Xs hgd,by rw [if_pos rfl];exact key⟩
end
-- rows of things that nobody writes
theorem Np {m:Option (Nat->Prop)} {t:Ty} (xs:List t.D):(tvC m t xs).length=xs.length*t.size:=by
 unfold tvC
 induction xs with
 | nil=>simp
 | cons x xs ih=>rw [List.flatMap_cons,List.length_append,ih,Ec,List.length_cons,Nat.succ_mul];omega
theorem Z3 {m:Option (Nat->Prop)} {t:Ty} (xs ys:List t.D):tvC m t (xs++ys)=tvC m t xs++tvC m t ys:=by simp [tvC]
theorem Apc {m:Option (Nat->Prop)} {t:Ty}:∀ {xs:List t.D} {j:Nat} {x:t.D},xs[j]? =some x->((tvC m t xs).drop (j*t.size)).take t.size=t.avM m x
 | [],_,_,h=>by simp at h
 | y :: r,0,x,h=>by
  obtain rfl:=osj h;simp only [tvC,List.flatMap_cons,Nat.zero_mul,List.drop_zero];rw [List.take_append_of_le_length (by rw [Ec];exact Nat.le_refl _),List.take_of_length_le (by rw [Ec];exact Nat.le_refl _)]
 | y :: r,j+1,x,h=>by
  have ih:=Apc (m:=m) (xs:=r) (j:=j) (x:=x) (by simpa using h);have e:tvC m t (y :: r)=t.avM m y++tvC m t r:=rfl;rw [e,Nat.succ_mul,Nat.add_comm,← List.drop_drop];have h2:(t.avM m y++tvC m t r).drop t.size=tvC m t r:=List.drop_left' (Ec m t y);rw [h2];exact ih
theorem Akw {ob:Oid->Option Ob} (m:Option (Nat->Prop)):∀ (t:Ty) (x:t.D),rdC ob t (t.avM m x)=some x
 | .int,_=>rfl
 | .bool,_=>rfl
 | .str,_=>rfl
 | .slice t,xs=>by
  have:D8 ob t (trM m t xs)=some xs:=by cases m <;> simp only [trM,D8,Ty.eq?_self,Ca]
  simp only [Ty.avM,rdC,this]
 | .pair a b,x=>by
  have h1:(a.avM m x.1++b.avM m x.2).take a.size=a.avM m x.1:=List.take_left' (Ec m a x.1);have h2:(a.avM m x.1++b.avM m x.2).drop a.size=b.avM m x.2:=List.drop_left' (Ec m a x.1);simp only [Ty.avM,rdC,h1,h2,Akw m a,Akw m b]
theorem Xr {ob:Oid->Option Ob} {m:Option (Nat->Prop)} {t:Ty}:∀ (xs:List t.D),Jh (rdC ob t) t.size xs.length (tvC m t xs)=some xs
 | []=>rfl
 | x :: xs=>by
  have h1:(tvC m t (x :: xs)).take t.size=t.avM m x:=List.take_left' (Ec m t x);have h2:(tvC m t (x :: xs)).drop t.size=tvC m t xs:=List.drop_left' (Ec m t x);simp only [List.length_cons,Jh,h1,h2,Akw,Xr xs]
section
variable {ob:Oid->Option Ob}
theorem Ahh {n len:Nat} {o:Oid} {e:TypeId} {m:Option (Nat->Prop)} {t:Ty} {xs:List t.D} (ho:ob o=some (.vec e t.size xs.length (tvC m t xs))) (hl:len=xs.length):gnd ob (n+1) (.own o t 0 len)=some (.tree t xs):=by
 subst hl
 have:Zf ob t.size (rdC ob t) (.own o t 0 xs.length)=some xs:=by
  simp only [Zf,ho];rw [if_pos ⟨trivial,by omega⟩,Nat.zero_mul,List.drop_zero,List.take_of_length_le (by rw [Np];exact Nat.le_refl _)];exact Xr xs
 simp only [gnd,ho,this,Option.map_some]
end
theorem Dc {G:World->Prop} {tl:List (Nat×AV)} {ol:List (Oid×Option Ob)} {g:Nat} (o:Oid) (e:TypeId) (m:Option (Nat->Prop)) (t:Ty) (xs:List t.D) {N:Nat} (h:Aj ol o=some (.vec e t.size N (tvC m t xs))) (hN:N=xs.length):WeakG G ⟨Am tl,Aj ol,g⟩ ⟨Am tl,Aj ((o,some (.tv e m t xs)) :: ol),g⟩:=by
 subst hN
 have:Aj ((o,some (.tv e m t xs)) :: ol)=Aj ol:=by
  funext i;show (if i=o then some (.vec e t.size xs.length (tvC m t xs)) else Aj ol i)=Aj ol i;by_cases hi:i=o
  ·rw [if_pos hi,hi,h]
  ·rw [if_neg hi]
 rw [this];exact WeakG.refl _
theorem X6 {G:World->Prop} {tl:List (Nat×AV)} {ol:List (Oid×Option Ob)} {g:Nat} (s:Nat) (e:TypeId) (m:Option (Nat->Prop)) (t:Ty) (hs:Am tl s=.nils):WeakG G ⟨Am tl,Aj ol,g⟩ ⟨Am ((s,.own ((s,0),g) t 0 0) :: tl),Aj ((((s,0),g),some (.tv e m t [])) :: ol),g+1⟩:=by
 have key:WeakG G ⟨Am tl,Aj ol,g⟩ ⟨upd (Am tl) s (.own ((s,0),g) t 0 0),upd (Aj ol) ((s,0),g) (some (.vec e t.size 0 [])),g+1⟩:=by
  intro w0 B N a w hr;obtain ⟨σ,hm,hf,hB⟩:=hr.ex;obtain ⟨hL,hM⟩:=Acb (e:=e) (sz:=t.size) (i:=((s,0),g)) hm rfl;refine ⟨⟨_,hM,fun u=>?_,hB.trans hL⟩,hr.size,hr.defers,fun i hi=>?_⟩
  ·simp only [upd];split
   ·rename_i eu;subst eu;have:=hf u;rw [show (St.tm ⟨Am tl,Aj ol,g⟩) u=.nils from hs] at this;exact .inl ⟨A4 _ _ _,rfl,rfl,this⟩
   ·exact AV.Rep.later hL _ _ (hf u)
  ·show i.2<g+1;by_cases h:i=((s,0),g)
   ·subst h;show g<g+1;omega
   ·simp only [Av _ _ _ _ h] at hi;have:i.2<g:=hr.obg i hi;omega
 rw [Ql] at key;have e2:upd (Aj ol) ((s,0),g) (some (.vec e t.size 0 []))=Aj ((((s,0),g),some (.tv e m t [])) :: ol):=by rw [H3 rfl];rfl
 rw [e2] at key;exact key
section
variable {n:Nat} {d:Option Nat} {f:Nat->AV} {ob:Oid->Option Ob}
theorem Zo {x y:Opd} {o q:Oid} {e1 e2:TypeId} {t t' t2:Ty} {b len:Nat} {m:Option (Nat->Prop)} {xs:List t.D} {z:t.D} (hx:x.ev f=.own o t' 0 len) (hob:ob o=some (.vec e1 t.size xs.length (tvC m t xs))) (hl:len=xs.length) (hy:y.ev f=.own q t2 0 1) (hq:ob q=some (.vec e2 t.size 1 (tvC m t [z]))) (h:xs.length+1<=1073741824/\(xs.length+1)*b<=140737488355328) :
  A7 n ⟨d,none,.appV e1 t b x y⟩ f ob=some (2,.own (o.1,n) t 0 (xs.length+1),[(o,none),((o.1,n),some (.vec e1 t.size (xs.length+1) (tvC m t (xs++[z]))))]):=by
 subst hl;have h1:List.take (xs.length*t.size) (tvC m t xs)=tvC m t xs:=List.take_of_length_le (by rw [Np];exact Nat.le_refl _);have h2:List.take (1*t.size) (List.drop (0*t.size) (tvC m t [z]))=tvC m t [z]:=by rw [Nat.zero_mul,List.drop_zero];exact List.take_of_length_le (by rw [Np];exact Nat.le_refl _)
 simp only [A7,ev,Li,hx,hy,Ud,hq,hob,true_and,Nat.zero_add,Nat.le_refl,if_true,h1,h2,h.1,h.2,and_self,Z3]
theorem Wa {one:Bool} {k m1:Nat} {x:Opd} {o:Oid} {e1:TypeId} {t:Ty} {N j:Nat} {m:Option (Nat->Prop)} {xs:List t.D} {z:t.D} {c:AV} (hx:x.ev f=.elt o j k) (hob:ob o=some (.vec e1 t.size N (tvC m t xs))) (hz:xs[j]? =some z) (hc:C5 one m1 k (t.avM m z)=some c) (hk:(if one then k+1 else k+m1)<=t.size:=by decide) :
  A7 n ⟨d,none,.i (.ld one m1 x)⟩ f ob=some (1,c,[]):=by
 have hj:=(gSi.1 hz).1;have hat:=Apc (m:=m) hz
 have hcell:∀ i,i<t.size->(tvC m t xs)[j*t.size+i]? =(t.avM m z)[i]?:=fun i hi=>by
  rw [← hat,List.getElem?_take,if_pos hi,List.getElem?_drop]
 have hmul:(j+1)*t.size<=xs.length*t.size:=Nat.mul_le_mul_right _ hj;rw [Nat.succ_mul] at hmul
 have e:C5 one m1 (j*t.size+k) (tvC m t xs)=some c:=by
  cases one with
  | true=>simp only [C5,if_true] at hc hk ⊢;rw [hcell k oM];exact hc
  | false =>
   simp only [C5,Bool.false_eq_true,if_false] at hc hk ⊢;rw [if_pos (by rw [Ec];exact hk)] at hc;rw [if_pos (by rw [Np];omega)];rw [← hc];congr 2;rw [← List.drop_drop,← hat];rw [List.drop_take,List.take_take,Nat.min_eq_left oM]
 simp [A7,ev,evN,evR,hx,hob,e]
end
-- results
inductive Af1 (R:Nat->Prop) (ob:Oid->Option Ob):AV->AV->Prop
 | ftr {t:Ty} {xs:List t.D}:Af1 R ob (.ftr R t xs) (.tree t xs)
 | nil {t:Ty}:Af1 R ob .nils (.tree t [])
 | arr {i:Oid} {t u:Ty} {e:TypeId} {xs:List u.D} {len:Nat}:ob i=some (.arr e u xs)->len=xs.length->Af1 R ob (.own i t 0 len) (.tree u xs)
 | mat {o p:Oid} {e1 e:TypeId} {u:Ty} {xss:List (List u.D)} {len:Nat}:ob o=some (.vec e1 1 xss.length (hdL p u xss))->(∀ k row,xss[k]? =some row->ob (kid p k)=some (.arr e u row))->len=xss.length->Af1 R ob (.own o (.slice u) 0 len) (.tree (.slice u) xss)
 | tv {o:Oid} {e:TypeId} {t:Ty} {xs:List t.D} {len:Nat}:ob o=some (.vec e t.size xs.length (tvC (some R) t xs))->len=xs.length->Af1 R ob (.own o t 0 len) (.tree t xs)
 | fnM {F:FuncId} {i j:Oid} {ty mt:TypeId} {t:Ty} {es:List (Int×t.D)}:ob i=some (.cells ty [.mp j])->ob j=some (.map mt t es)->Af1 R ob (.fn F [.box i 0]) (.fn F [.ref [.mtree mt t es]])
section
variable {G:World->Prop} {w0 w:World} {ob:Oid->Option Ob} {σ:Oid->Option Loc} {K:Nat->Prop}
theorem Abc {im im':Nat->Prop} {i:Oid} {t:Ty} {off len:Nat} {v:Value} (h:AV.Rep σ im w (.own i t off len) v):AV.Rep σ im' w (.own i t off len) v:=h
theorem Av0 {im im':Nat->Prop} {p:Oid} {u:Ty} {xss:List (List u.D)} {vs:List Value} (h:AV.RepL σ im w (hdL p u xss) vs):AV.RepL σ im' w (hdL p u xss) vs:=by
 have key:∀ (l:List (List u.D×Nat)) (vs:List Value),AV.RepL σ im w (l.map fun x=>.own (kid p x.2) u 0 x.1.length) vs->AV.RepL σ im' w (l.map fun x=>.own (kid p x.2) u 0 x.1.length) vs:=by
  intro l
  induction l with
  | nil=>intro vs h;exact h
  | cons x l ih=>rintro vs ⟨v,vs',e,h1,h2⟩;exact ⟨v,vs',e,Abc h1,ih vs' h2⟩
 exact key _ _ h
theorem Ajw {im R:Nat->Prop}:∀ (t:Ty) (x:t.D) (vs:List Value),AV.RepL σ im w (t.avM (some R) x) vs->AV.RepL σ R w (t.av x) vs
 | .int,_,_,⟨v,vs',e,h1,h2⟩=>⟨v,vs',e,h1,h2⟩
 | .bool,_,_,⟨v,vs',e,h1,h2⟩=>⟨v,vs',e,h1,h2⟩
 | .str,_,_,⟨v,vs',e,h1,h2⟩=>⟨v,vs',e,h1,h2⟩
 | .slice t,xs,_,⟨v,vs',e,⟨A,c,l,e1,hs⟩,h2⟩=>⟨v,vs',e,⟨A,c,l,e1,Bz (fun b _ hb=>hb.2) hs⟩,h2⟩
 | .pair a b,x,vs,h=>by
  have hl:=h.length;have h1:=h.take a.size;have h2:=h.drop a.size;have e1:((Ty.pair a b).avM (some R) x).take a.size=a.avM (some R) x.1:=List.take_left' (Ec _ a x.1);have e2:((Ty.pair a b).avM (some R) x).drop a.size=b.avM (some R) x.2:=List.drop_left' (Ec _ a x.1);rw [e1] at h1;rw [e2] at h2;have:=(Ajw a x.1 _ h1).append (Ajw b x.2 _ h2);rw [List.take_append_drop] at this;exact this
theorem Ash {im R:Nat->Prop} {t:Ty}:∀ (xs:List t.D) (vs:List Value),AV.RepL σ im w (tvC (some R) t xs) vs->AV.RepL σ R w (tvC none t xs) vs
 | [],_,h=>h
 | x :: xs,vs,h=>by
  have h1:=h.take t.size;have h2:=h.drop t.size;have e1:(tvC (some R) t (x :: xs)).take t.size=t.avM (some R) x:=List.take_left' (Ec _ t x);have e2:(tvC (some R) t (x :: xs)).drop t.size=tvC (some R) t xs:=List.drop_left' (Ec _ t x);rw [e1] at h1;rw [e2] at h2
  have hav:∀ (t:Ty) (x:t.D),t.avM none x=t.av x:=by
   intro t
   induction t with
   | pair a b ha hb=>intro x;simp only [Ty.avM,Ty.av,ha,hb]
   | _=>intro x;rfl
  have h1':=Ajw t x _ h1;rw [← hav] at h1';have:=h1'.append (Ash xs _ h2);rw [List.take_append_drop] at this;exact this
theorem Aq4 {R:Nat->Prop} (hM:Mem0 G w0 ob σ K w) (hR:∀ b,w0.heap.size<=b->R b) {c d:AV} {v:Value} (h:Af1 R ob c d) (hr:AV.Rep σ (imm ob σ) w c v):AV.Rep (fun _=>none) R w d v:=by
 cases h with
 | ftr=>obtain ⟨A,c,l,e,hs⟩:=hr;exact ⟨A,c,l,e,Bz (fun b _ hb=>hb.2) hs⟩
 | nil=>exact ⟨none,0,[],hr,by simp,by simp [maxLen],fun _=>[],by simp,fun h=>absurd h (by simp)⟩
 | @arr i t u e xs len h1 h2 =>
  refine Ky (ob:=fun j=>if j=i then some (.arr e u xs) else none) (σ:=σ) (im:=R) (lo:=w0.heap.size) (fun j o l hj hl=>?_) (fun _ hb=>hb) (fun j o b c s _ hs=>hR b (hM.lt j b c s hs).1) 1 _ _ _ (Bl (e:=e) (if_pos rfl) h2) (Abc hr);split at hj
  ·rename_i e';subst e';obtain rfl:=osj hj;exact hM.obs j _ l h1 hl
  ·cases hj
 | @mat o p e1 e u xss len h1 h2 h3 =>
  refine Ky (ob:=fun j=>match ob j with|some (.arr e u xs)=>some (.arr e u xs)|_=>if j=o then some (.vec e1 1 xss.length (hdL p u xss)) else none) (σ:=σ) (im:=R) (lo:=w0.heap.size) (fun j q l hj hl=>?_) (fun _ hb=>hb) (fun j o b c s _ hs=>hR b (hM.lt j b c s hs).1) 1 _ _ _ (La (p:=p) (e1:=e1) (e:=e) (by simp only [h1];rw [if_pos trivial]) (fun k row hk=>by simp only [h2 k row hk]) h3) (Abc hr);split at hj
  ·rename_i e' u' xs' hj';obtain rfl:=osj hj;exact hM.obs j _ l hj' hl
  ·split at hj
   ·rename_i e';subst e';obtain rfl:=osj hj;obtain ⟨vs,g1,g2,g3⟩:=hM.obs j _ l h1 hl;exact ⟨vs,g1,Av0 g2,g3⟩
   ·cases hj
 | @tv o e t xs len h1 h2 =>
  refine Ky (ob:=fun j=>if j=o then some (.vec e t.size xs.length (tvC none t xs)) else none) (σ:=σ) (im:=R) (lo:=w0.heap.size) (fun j q l hj hl=>?_) (fun _ hb=>hb) (fun j o b c s _ hs=>hR b (hM.lt j b c s hs).1) 1 _ _ _ (Ahh (m:=none) (e:=e) (if_pos rfl) h2) (Abc hr);split at hj
  ·rename_i e';subst e';obtain rfl:=osj hj;obtain ⟨vs,g1,g2,g3⟩:=hM.obs j _ l h1 hl;exact ⟨vs,g1,Ash xs vs g2,g3⟩
  ·cases hj
 | @fnM F i j ty mt t es h1 h2 =>
  have hji:j≠i:=by rintro rfl;rw [h1] at h2;cases h2
  refine Ky (ob:=fun x=>if x=i then some (.cells ty [.mp j]) else if x=j then some (.map mt t es) else none) (σ:=σ) (im:=R) (lo:=w0.heap.size) (fun x o l hx hl=>?_) (fun _ hb=>hb) (fun x o b c s _ hs=>hR b (hM.lt x b c s hs).1) 4 _ _ _ (by simp [gnd,M7,hji]) (show AV.Rep σ R w (.fn F [.box i 0]) v from hr);split at hx
  ·rename_i e';subst e';obtain rfl:=osj hx;have:=hM.obs x _ l h1 hl;cases l with
   | nil=>exact this
   | at_ b c s=>exact this
  ·split at hx
   ·rename_i e';subst e';obtain rfl:=osj hx;have:=hM.obs x _ l h2 hl;cases l with
    | nil=>exact this
    | at_ b c s=>exact this
   ·cases hx
def RL.zl:Bool->AV->RL
 | true,d=>.frz d
 | false,d=>.imm d
def zR (z:Bool) (im:Nat->Prop) (n:Nat) (b:Nat):Prop:=if z then n<=b else im b∨n<=b
theorem Avm {z:Bool} {im:Nat->Prop} {n b:Nat} (h:n<=b):zR z im n b:=by cases z;exact .inr h;exact h
def Ahk (R:Nat->Prop) (z:Bool) (ob:Oid->Option Ob) (c:AV) (l:RL):Prop:=(c.scal=true/\l=.sc c)∨∃ d,l=.zl z d/\d.gndB=true/\Af1 R ob c d
def O4 (R:Nat->Prop) (z:Bool) (ob:Oid->Option Ob):List AV->List RL->Prop
 | [],ls=>ls=[]
 | c :: cs,ls=>∃ l ls',ls=l :: ls'/\Ahk R z ob c l/\O4 R z ob cs ls'
def Pu (R:Nat->Prop) (z:Bool) (ob:Oid->Option Ob):List (Bool×List AV)->List (Bool×List RL)->Prop
 | [],ps=>ps=[]
 | (b,cs) :: r,ps=>∃ ls ps',ps=(b,ls) :: ps'/\O4 R z ob cs ls/\(b=false->cs.length=1)/\Pu R z ob r ps'
def Ar3:List (Bool×List AV)->List AV
 | []=>[]
 | (b,cs) :: r=>(if b then .agg cs else cs.headD .any) :: Ar3 r
def An4 (R:Nat->Prop) (z:Bool) (rs:List Res) (S:St) (r:RV):Prop :=
 ∃ gs ps,Res.evL S.tm S.ob rs=some (Ar3 gs)/\Pu R z S.ob gs ps/\r=⟨decide (rs.length≠1),ps⟩
theorem Xx {z:Bool} (hM:Mem0 G w0 ob σ K w) {im:Nat->Prop} {vs0:List Value}:∀ {cs:List AV} {ls:List RL} {us:List Value},O4 (zR z im w0.heap.size) z ob cs ls->AV.RepL σ (imm ob σ) w cs us->RL.RepL w0.heap.size im vs0 w ls us []/\ls.length=us.length
 | [],ls,us,h,hr=>by obtain rfl:ls=[]:=h;exact ⟨⟨hr,rfl⟩,by rw [show us=[] from hr];rfl⟩
 | c :: cs,ls,us,⟨l,ls',e,h1,h2⟩,⟨u,us',e',r1,r2⟩=>by
  subst e e';obtain ⟨q1,q2⟩:=Xx hM (im:=im) (vs0:=vs0) h2 r2;refine ⟨?_,by simp [q2]⟩;rcases h1 with ⟨a1,rfl⟩|⟨d,rfl,a1,a2⟩
  ·exact ⟨u,us',rfl,(by cases c <;> first|exact r1|cases a1),a1,q1⟩
  ·have hr:=Aq4 hM (fun _ h=>Avm h) a2 r1;cases z with
   | true=>exact ⟨u,us',rfl,Ol (fun b h=>h) _ a1 _ hr,a1,q1⟩
   | false=>exact ⟨u,us',rfl,Ol (fun b h=>h) _ a1 _ hr,a1,q1⟩
theorem Ahd {lo:Nat} {im:Nat->Prop} {vs:List Value} {w:World}:∀ {rs:List RL} {us:List Value} {rs':List RL} {us':List Value},(∀ l∈rs,(∃ c,l=.sc c)∨(∃ d,l=.frz d)∨∃ d,l=.imm d)->RL.RepL lo im vs w rs us []->RL.RepL lo im vs w rs' us' []->RL.RepL lo im vs w (rs++rs') (us++us') []
 | [],_,_,_,_,⟨e,_⟩,h=>by subst e;exact h
 | l :: rs,us,rs',us',hk,h,h'=>by
  have hk':=fun l hl=>hk l (List.mem_cons_of_mem _ hl)
  rcases hk l List.mem_cons_self with ⟨c,rfl⟩|⟨d,rfl⟩|⟨d,rfl⟩ <;> obtain ⟨u,us1,rfl,q1,q2,q3⟩:=h <;> exact ⟨u,us1++us',rfl,q1,q2,Ahd hk' q3 h'⟩
theorem Wl {R:Nat->Prop} {z:Bool}:∀ {cs:List AV} {ls:List RL},O4 R z ob cs ls->∀ l∈ls,(∃ c,l=.sc c)∨(∃ d,l=.frz d)∨∃ d,l=.imm d
 | [],ls,h,l,hl=>by rw [show ls=[] from h] at hl;cases hl
 | c :: cs,ls,⟨l0,ls',e,h1,h2⟩,l,hl=>by
  subst e;rcases List.mem_cons.1 hl with rfl|hl
  ·rcases h1 with ⟨_,rfl⟩|⟨d,rfl,_⟩
   ·exact .inl ⟨_,rfl⟩
   ·cases z with
    | true=>exact .inr (.inl ⟨_,rfl⟩)
    | false=>exact .inr (.inr ⟨_,rfl⟩)
  ·exact Wl h2 l hl
theorem Abd {z:Bool} (hM:Mem0 G w0 ob σ K w) {im:Nat->Prop} {vs0:List Value}:∀ {gs:List (Bool×List AV)} {ps:List (Bool×List RL)} {us:List Value},Pu (zR z im w0.heap.size) z ob gs ps->AV.RepL σ (imm ob σ) w (Ar3 gs) us->∃ vs,RL.RepL w0.heap.size im vs0 w (ps.flatMap (·.2)) vs []/\J7 ps vs=us
 | [],ps,us,h,hr=>by
  obtain rfl:ps=[]:=h;exact ⟨[],⟨rfl,rfl⟩,hr.symm⟩
 | (b,cs) :: gs,ps,us,⟨ls,ps',e,h1,h2,h3⟩,⟨u,us',e',r1,r2⟩=>by
  subst e e';obtain ⟨vs,q1,q2⟩:=Abd hM (im:=im) (vs0:=vs0) h3 r2
  have key:∀ ws:List Value,AV.RepL σ (imm ob σ) w cs ws->(if b then Value.agg ws.toArray else ws.headD undef)=u->∃ vs,RL.RepL w0.heap.size im vs0 w (((b,ls) :: ps').flatMap (·.2)) vs []/\J7 ((b,ls) :: ps') vs=u :: us':=fun ws hw hu=>by
   obtain ⟨a1,a2⟩:=Xx hM (im:=im) (vs0:=vs0) h1 hw;refine ⟨ws++vs,Ahd (Wl h1) a1 q1,?_⟩;simp only [J7];rw [List.drop_left' a2.symm,q2,List.take_left' a2.symm];congr 1;cases b with
   | true=>exact hu
   | false =>
    have hl:=h2 rfl;rw [← hw.length] at hl;cases ws with
    | nil=>simp at hl
    | cons w0 ws=>exact hu
  cases b with
  | true =>
   obtain ⟨ws,e1,e2⟩:=r1;exact key ws e2 (by rw [e1];rfl)
  | false =>
   have hl:=h2 rfl;obtain ⟨c,rfl⟩:=List.length_eq_one_iff.1 hl;exact key [u] ⟨u,[],rfl,r1,rfl⟩ rfl
end
theorem Ahf {P:Program} [IsP P] {G:World->Prop} (hfol:P.follows .mixedOrders=true) {g:FuncId} {fn:Func} (hf:P.funcs[g]? =some fn) {ac:AC} {rs:List Res} (hc0:Ci P fn=some (ac,rs)) {args:List AV} {args':(Nat->Prop)->List AV} {r:RV} {n:Nat} (z:Bool) (hN:fn.ntmps=n) (hn:∀ R,(args' R).length<=n) {tl:(Nat->Prop)->List (Nat×AV)} (htl:∀ R,tmL 0 (args' R)=tl R) (ha:∀ (R im:Nat->Prop) (w:World) (us:List Value),(∀ b,im b->z=false->R b)->AV.RepL (fun _=>none) im w args us->AV.RepL (fun _=>none) im w (args' R) us)
  (h:∀ (n:Nat) (R:Nat->Prop),(∀ b,n<=b->R b)->awp P (GN G n) ac (fun e S=>∃ S',WeakG (GN G n) S S'/\(e=.normal∨e=.ret)/\An4 R z rs S' r) ⟨Am (tl R),Aj [],1⟩):Cr P G g args r:=by
 subst hN
 have h0:∃ c,fn.body=some c/\AC.of P fn.ntmps c=some ac/\Res.ofL P fn.results.toList=some rs:=by
  unfold Ci at hc0;split at hc0
  ·rename_i c hb;split at hc0
   ·rename_i ac' rs' h1 h2;obtain ⟨rfl,rfl⟩:=Prod.mk.inj (osj hc0);exact ⟨c,hb,h1,h2⟩
   ·cases hc0
  ·cases hc0
 obtain ⟨c,hb,hc,hrs⟩:=h0;intro w im vs hG hargs
 replace h:=h w.heap.size (zR z im w.heap.size) fun _ h=>Avm h
 replace hn:=hn (zR z im w.heap.size)
 rw [← htl,← St.init_eq] at h
 replace hargs:=ha (zR z im w.heap.size) im w vs (fun b hb e=>by subst e;exact .inl hb) hargs
 generalize args' (zR z im w.heap.size)=args at h hn hargs;have hlen:vs.length=args.length:=hargs.length
 have hany:∀ (cs:List AV) (us:List Value),AV.RepL (fun _=>none) im w cs us->AV.RepL (fun _=>none) (imm (fun _=>none) (fun _=>none)) w cs us:=fun cs us h' =>
  AV.RepL.later ⟨fun _ _ h=>h,(fun _ _ _ _ _ _ _ h=>by cases h),fun _ _ _=>rfl,Nat.le_refl _⟩ cs us h'
 have hreps:Sa (GN G w.heap.size) w ⟨fun _=>none,fun _=>False,w,fun _ _ h=>nomatch h⟩ fn.ntmps (St.init args) { tmps:=vs.toArray++Array.replicate (fn.ntmps - vs.toArray.size) undef,defers:=[] } w:=by
  refine ⟨⟨fun _=>none,⟨Below.refl _ _,fun w' hb=>⟨hG w' hb,hb.size⟩,(fun _ _ h=>by cases h),(fun _ _ _ _ h=>by cases h),(fun _ _ _ _ h=>by cases h),(fun _ _ _ _ _ _ _ _ _ h=>by cases h),(fun _ _ _ h=>by cases h)⟩,fun t=>?_,⟨fun _ _ h=>h,fun _ _ h=>h.elim,fun _ _ h=>h.elim,Nat.le_refl _⟩⟩,by simp;omega,rfl,fun i h=>absurd rfl h⟩;simp only [St.init,gDg];cases ht:args[t]? with
  | none=>trivial
  | some c =>
   obtain ⟨v,hv,hr⟩:=(hany _ _ hargs).get ht;have hlt:t<vs.length:=(gSi.1 hv).1
   have e:(vs.toArray++Array.replicate (fn.ntmps - vs.toArray.size) undef).getD t undef=v:=by
    rw [Array.getD_eq_getD_getElem?,Array.getElem?_append_left (by simpa using hlt)];simp [hv]
   rw [e];exact hr
 refine calls_of_wp hf hb (Code.wp_mono (fun e a' w' hq=>?_) (Wv hfol c ac _ _ _ w hc h hreps));obtain ⟨e',S0,rfl,⟨S',hweak,hend,gs,ps,h1,h2,h4⟩,hr⟩:=hq
 replace hr:=hweak _ _ _ _ _ hr
 obtain ⟨σ,hM,hF,_⟩:=hr.ex
 have hrun:∀ (vars:List ResultVar) (rs:List Res) (avs:List AV),Res.ofL P vars=some rs->Res.evL S'.tm S'.ob rs=some avs ->
   ∃ us,(vars.mapM (Aij a'.tmps)).run P w'=.ok us w'/\AV.RepL σ (imm S'.ob σ) w' avs us/\us.length=vars.length/\rs.length=vars.length:=by
  intro vars
  induction vars with
  | nil =>
   intro rs avs q1 q2;obtain rfl:[]=rs:=osj q1;obtain rfl:[]=avs:=osj q2;exact ⟨[],rfl,rfl,rfl,rfl⟩
  | cons v vars ih =>
   intro rs avs q1 q2;simp only [Res.ofL] at q1;split at q1
   ·rename_i x xs p1 p2;obtain rfl:=osj q1;simp only [Res.evL] at q2;split at q2
    ·rename_i y ys p3 p4;obtain rfl:=osj q2;obtain ⟨u,r1,r2⟩:=Res.run hM hF p1 p3;obtain ⟨us,r3,r4,r5,r6⟩:=ih _ _ p2 p4;refine ⟨u :: us,?_,⟨u,us,rfl,r2,r4⟩,by simp [r5],by simp [r6]⟩;rw [List.mapM_cons,Sem.run_bind,r1];simp only [Result.andThen_ok,Sem.run_bind,r3,Sem.run_pure]
    ·cases q2
   ·cases q1
 obtain ⟨us,u1,u2,u3,u4⟩:=hrun fn.results.toList rs _ hrs h1;obtain ⟨vs',f1,f3⟩:=Abd (im:=im) (vs0:=vs) hM h2 u2;have hres:(results fn a'.tmps).run P w'=.ok (if fn.results.size=1 then us.headD undef else .tuple us.toArray) w':=Rx u1 (by rw [u3];simp)
 have hrv:r.Rep w.heap.size im vs w' (if fn.results.size=1 then us.headD undef else .tuple us.toArray):=by
  subst h4;refine ⟨vs',[],f1,⟨trivial,fun _=>rfl⟩,?_⟩;simp only [f3];have:rs.length=fn.results.size:=by rw [u4];simp
  rw [this];by_cases h1:fn.results.size=1 <;> simp [h1]
 have fin:∃ u,(results fn a'.tmps).run P w'=.ok u w'/\∃ v,Ending.returned u=.returned v/\Below w.heap.size w w'/\r.Rep w.heap.size im vs w' v:=⟨_,hres,_,rfl,hM.below,hrv⟩
 rcases hend with rfl|rfl
 ·exact ⟨hr.defers,fin⟩
 ·exact ⟨hr.defers,fin⟩
theorem Aqm {P:Program} [IsP P] {G:World->Prop} (hfol:P.follows .mixedOrders=true) {g:FuncId} {fn:Func} (hf:P.funcs[g]? =some fn) {ac:AC} {rs:List Res} (hc0:Ci P fn=some (ac,rs)) {args:List AV} {r:RV} {n:Nat} (hN:fn.ntmps=n) (hn:args.length<=n) {tl:List (Nat×AV)} (htl:tmL 0 args=tl)
  (h:∀ (n:Nat) (R:Nat->Prop),(∀ b,n<=b->R b)->awp P (GN G n) ac (fun e S=>∃ S',WeakG (GN G n) S S'/\(e=.normal∨e=.ret)/\An4 R true rs S' r) ⟨Am tl,Aj [],1⟩):Cr P G g args r :=
 Ahf hfol hf hc0 (args':=fun _=>args) true hN (fun _=>hn) (tl:=fun _=>tl) (fun _=>htl) (fun _ _ _ _ _ h=>h) h
mutual
theorem Ask {R im:Nat->Prop} {w:World} (hR:∀ b,im b->R b):∀ (c d:AV) (u:Value),AV.unR R c d->AV.Rep (fun _=>none) im w c u->AV.Rep (fun _=>none) im w d u
 | .tree t xs,d,u,h,⟨A,c,l,e,hs⟩=>by
  have h:d=.ftr R t xs:=h;subst h;exact ⟨A,c,l,e,Bz (fun b _ hb=>⟨hb,hR b hb⟩) hs⟩
 | .agg cs,d,u,⟨ds,e,h⟩,hr=>by
  subst e;obtain ⟨us,e,hr⟩:=hr;exact ⟨us,e,Xv hR cs ds us h hr⟩
 | .int ..,d,u,⟨_,e⟩,hr=>by subst e;exact hr
 | .bool ..,d,u,⟨_,e⟩,hr=>by subst e;exact hr
 | .str ..,d,u,⟨_,e⟩,hr=>by subst e;exact hr
 | .err ..,d,u,⟨h,e⟩,hr=>by first|(cases h;done)|(subst e;exact hr)
 | .nils,d,u,⟨_,e⟩,hr=>by subst e;exact hr
 | .any,d,u,⟨h,_⟩,_=>by cases h
 | .mtree ..,d,u,⟨h,_⟩,_=>by cases h
 | .ftr ..,d,u,⟨h,_⟩,_=>by cases h
 | .mp _,d,u,⟨h,_⟩,_=>by cases h
 | .tup _,d,u,⟨h,_⟩,_=>by cases h
 | .fn ..,d,u,⟨h,_⟩,_=>by cases h
 | .ref _,d,u,⟨h,_⟩,_=>by cases h
 | .own ..,d,u,⟨h,_⟩,_=>by cases h
 | .box ..,d,u,⟨h,_⟩,_=>by cases h
 | .elt ..,d,u,⟨h,_⟩,_=>by cases h
 | .sla ..,d,u,⟨h,_⟩,_=>by cases h
 | .telt ..,d,u,⟨h,_⟩,_=>by cases h
 | .giv ..,d,u,⟨h,_⟩,_=>by cases h
 | .abool ..,d,u,⟨h,_⟩,_=>by cases h
theorem Xv {R im:Nat->Prop} {w:World} (hR:∀ b,im b->R b):∀ (cs ds:List AV) (us:List Value),AV.unRL R cs ds->AV.RepL (fun _=>none) im w cs us->AV.RepL (fun _=>none) im w ds us
 | [],ds,us,h,hr=>by obtain rfl:ds=[]:=h;exact hr
 | c :: cs,ds,us,⟨d,ds',e,h1,h2⟩,hr=>by
  subst e;obtain ⟨u,us',e,r1,r2⟩:=hr;exact ⟨u,us',e,Ask hR c d u h1 r1,Xv hR cs ds' us' h2 r2⟩
end
theorem Ait {P:Program} [IsP P] {G:World->Prop} (hfol:P.follows .mixedOrders=true) {g:FuncId} {fn:Func} (hf:P.funcs[g]? =some fn) {ac:AC} {rs:List Res} (hc0:Ci P fn=some (ac,rs)) {args:List AV} (args':(Nat->Prop)->List AV) {r:RV} {n:Nat} (hN:fn.ntmps=n) (hn:∀ R,(args' R).length<=n) (hu:∀ R,AV.unRL R args (args' R)) {tl:(Nat->Prop)->List (Nat×AV)} (htl:∀ R,tmL 0 (args' R)=tl R)
  (h:∀ (n:Nat) (R:Nat->Prop),(∀ b,n<=b->R b)->awp P (GN G n) ac (fun e S=>∃ S',WeakG (GN G n) S S'/\(e=.normal∨e=.ret)/\An4 R false rs S' r) ⟨Am (tl R),Aj [],1⟩):Cr P G g args r :=
 Ahf hfol hf hc0 false hN hn htl (fun R im w us hR hr=>Xv (fun b hb=>hR b hb rfl) _ _ _ (hu R) hr) h
theorem Ax4 {G:World->Prop} {R:Nat->Prop} {z:Bool} {rs:List Res} {tm:Nat->AV} {ob:Oid->Option Ob} {g:Nat} {r:RV} (gs:List (Bool×List AV)) {e:AE} (h2:Pu R z ob gs r.ps) (he:e=.normal∨e=.ret:=by simp) (h1:Res.evL tm ob rs=some (Ar3 gs):=by kernel_rfl) (h4:r.tup=decide (rs.length≠1):=by kernel_rfl):∃ S',WeakG G ⟨tm,ob,g⟩ S'/\(e=.normal∨e=.ret)/\An4 R z rs S' r :=
 ⟨_,WeakG.refl _,he,gs,r.ps,h1,h2,by cases r;cases h4;rfl⟩
section
variable {R:Nat->Prop} {z:Bool} {ob:Oid->Option Ob}
theorem B8:Pu R z ob [] []:=rfl
theorem Ea {cs:List AV} {r:List (Bool×List AV)} {ls:List RL} {ps:List (Bool×List RL)} (h1:O4 R z ob cs ls) (h2:Pu R z ob r ps):Pu R z ob ((true,cs) :: r) ((true,ls) :: ps):=⟨ls,ps,rfl,h1,(fun h=>by cases h),h2⟩
theorem Ji {c:AV} {r:List (Bool×List AV)} {l:RL} {ps:List (Bool×List RL)} (h1:Ahk R z ob c l) (h2:Pu R z ob r ps):Pu R z ob ((false,[c]) :: r) ((false,[l]) :: ps):=⟨[l],ps,rfl,⟨l,[],rfl,h1,rfl⟩,fun _=>rfl,h2⟩
theorem Ee:O4 R z ob [] []:=rfl
theorem Aw {c:AV} {cs:List AV} {l:RL} {ls:List RL} (h1:Ahk R z ob c l) (h2:O4 R z ob cs ls):O4 R z ob (c :: cs) (l :: ls):=⟨l,ls,rfl,h1,h2⟩
theorem B2 {c:AV} (h:c.scal=true:=by kernel_rfl):Ahk R z ob c (.sc c):=.inl ⟨h,rfl⟩
theorem Bp {c:AV} {t:Ty} {xs:List t.D} (h:Af1 R ob c (.tree t xs)):Ahk R z ob c (.zl z (.tree t xs)):=.inr ⟨_,rfl,rfl,h⟩
end
section
variable {P:Program} {G:World->Prop} {g k d:Nat} {gd:Option (Nat×Bool)} {xs:List X} {tl:List (Nat×AV)} {ol:List (Oid×Option Ob)} {bad:List (Nat×Nat)} {ra:List Rec} {da:List (List Oid)} {Kf:List (Nat×AV)->List (Oid×Option Ob)->Prop}
variable {fo:Opd} {ys:List Opd} {tys:List (List (Option Ty))} {F:FuncId} {caps:List AV} {rv:RV}
theorem Av1 (v:AV) (us:List (Oid×Option Ob)) (zs args:List AV) (hgd:Q1 gd (Am tl)) (hc:Cr P G F args rv) (hb:Ch P F=true) (h3:XD P G bad g (k+1) xs ((d,v) :: tl) (us.reverseAux ol) ((1,v,us) :: ra) ((rdX (Am tl) (Aj ol) ⟨some d,gd,.call fo ys tys⟩) :: da) Kf) (m:Nat:=0) (hg:AV.gndBL zs=true:=by kernel_rfl) (hfo:fo.ev (Am tl)=.fn (F+m) caps:=by kernel_rfl) (hz:(C3 (F+m) ys (caps.map Opd.cst)).map (Opd.ev (Am tl))=zs:=by kernel_rfl) (hn:Nk tys zs=args:=by kernel_rfl) (hr:rv.out (Ce ((d,0),g+k)) zs=(v,us):=by kernel_rfl) (hF:Pr (F+m)=F:=by kernel_rfl) (hx:Ds us=true:=by rfl):XD P G bad g k (⟨some d,gd,.call fo ys tys⟩ :: xs) tl ol ra da Kf:=by
 subst hz;exact X7 1 v us (Atv (P:=P) (G:=G) (p:=false) (n:=g+k) (d:=some d) hgd hfo hF hg hn hb hc hr) h3 hx
end
end Go.Proofs.YtopjojkjaklalaaGreatDoor
namespace Go.Proofs.YtopjojkjaklalaaGreatDoor
open Go.RowKit Go.Deep
theorem wr_ {G:World->Prop} {S:St} {K:St->Prop} (h:K S):∃ S',WeakG G S S'/\K S':=⟨S,WeakG.refl _,h⟩
def rC (x:Option (AC×List Res)):List Res:=x.elim [] (·.2)
theorem B6 {x:Option (AC×List Res)} (h:x.isSome=true):x=some (mC x,rC x):=by
 cases x with
 | none=>cases h
 | some p=>rfl
section
variable {P:Program} [IsP P] {G:World->Prop} {g:FuncId} {fn:Func} {args:List AV} {r:RV}
theorem cO (hf:P.funcs[g]? =some fn) (h:awp P G (mC (Ci P fn)) (fun e S=>∃ S',WeakG G S S'/\(e=.normal∨e=.ret)/\RetOK [] (rC (Ci P fn)) S' r) ⟨Am (tmL 0 args),Aj [],1⟩) (hfol:P.follows .mixedOrders=true:=by kernel_rfl) (hc:(Ci P fn).isSome=true:=by kernel_rfl) (hn:Nat.ble args.length fn.ntmps=true:=by kernel_rfl):Cr P G g args r :=
 Acv hfol hf (B6 hc) rfl (Nat.le_of_ble_eq_true hn) rfl h
theorem cZ (hf:P.funcs[g]? =some fn) (h:∀ (n:Nat) (R:Nat->Prop),(∀ b,n<=b->R b)->awp P (GN G n) (mC (Ci P fn)) (fun e S=>∃ S',WeakG (GN G n) S S'/\(e=.normal∨e=.ret)/\An4 R true (rC (Ci P fn)) S' r) ⟨Am (tmL 0 args),Aj [],1⟩) (hfol:P.follows .mixedOrders=true:=by kernel_rfl) (hc:(Ci P fn).isSome=true:=by kernel_rfl) (hn:Nat.ble args.length fn.ntmps=true:=by kernel_rfl):Cr P G g args r :=
 Aqm hfol hf (B6 hc) rfl (Nat.le_of_ble_eq_true hn) rfl h
end
def gdB (gd:Option (Nat×Bool)) (f:Nat->AV):Bool :=
 match gd with
 | none=>true
 | some (s,b)=>match f s with
  | .bool c=>c==b
  | _=>false
theorem Uv {gd:Option (Nat×Bool)} {f:Nat->AV} (h:gdB gd f=true):Q1 gd f:=by
 cases gd with
 | none=>trivial
 | some p =>
  obtain ⟨s,b⟩:=p;simp only [gdB] at h;split at h
  ·rename_i c hc;rw [beq_iff_eq] at h;subst h;exact Aah hc
  ·cases h
theorem Fd {gd:Option (Nat×Bool)} {f:Nat->AV} {n:Nat} {d:Option Nat} {q:Q} {ob:Oid->Option Ob} {r:Option Rec} (hg:gdB gd f=true) (h:A7 n ⟨d,none,q⟩ f ob=r):A7 n ⟨d,gd,q⟩ f ob=r:=by
 have h1:=Uv hg;cases gd with
 | none=>exact h
 | some p=>exact Ayi h1 rfl h
section
variable {P:Program} {G:World->Prop} {g k d:Nat} {gd:Option (Nat×Bool)} {xs:List X} {tl:List (Nat×AV)} {ol:List (Oid×Option Ob)} {bad:List (Nat×Nat)} {ra:List Rec} {da:List (List Oid)} {Kf:List (Nat×AV)->List (Oid×Option Ob)->Prop}
variable {α β:Type} {x:Option α} {K:α->Option β} {r:β} {rv:α->RV} {args:List AV} {fo:Opd} {ys:List Opd} {tys:List (List (Option Ty))} {F:FuncId}
theorem map_some {γ δ:Type} {o:Option γ} {f:γ->δ} {b:δ} (h:o.map f=some b):∃ a,o=some a/\f a=b:=oms.1 h
theorem rcH (h:x.bind K=some r) (hc:∀ {y},x=some y->Cr P G F args (rv y))
  (h3:∀ y,K y=some r->XW P G g (k+1) xs ((d,((rv y).out (Ce ((d,0),g+k)) (ys.map (Opd.ev (Am tl)))).1) :: tl) (((rv y).out (Ce ((d,0),g+k)) (ys.map (Opd.ev (Am tl)))).2.reverseAux ol) Kf)
  (hA:(M7 (gnd (Aj ol) 8) (ys.map (Opd.ev (Am tl)))).map (Nk tys)=some args:=by kernel_rfl) (hb:Ch P F=true:=by kernel_rfl) (hfo:fo.ev (Am tl)=.fn F []:=by kernel_rfl)
  (hx:∀ y,Ds ((rv y).out (Ce ((d,0),g+k)) (ys.map (Opd.ev (Am tl)))).2=true:=by intro _;rfl) (hni:∀ y,(rv y).noI=true:=by intro _;rfl) (hgd:gdB gd (Am tl)=true:=by kernel_rfl) (hF:Nat.blt F mtd=true:=by kernel_rfl):XW P G g k (⟨some d,gd,.call fo ys tys⟩ :: xs) tl ol Kf:=by
 obtain ⟨y,hy,hK⟩:=Ah h;obtain ⟨args0,h1,hn⟩:=map_some hA;have hF':F<mtd:=Nat.le_of_ble_eq_true hF;exact Jk (caps:=[]) _ _ _ _ (Uv hgd) h1 (hc hy) hb (h3 y hK) (hfo:=hfo) (hz:=by simp only [C3,List.map_nil,List.append_nil,List.nil_append,ite_self]) (hn:=hn) (hr:=rfl) (hF:=if_pos hF') (hx:=hx y) (hni:=hni y)
theorem dcH (h:x.bind K=some r) (hc:∀ {y},x=some y->Cr P G F args (rv y))
  (h3:∀ y,K y=some r->XD P G bad g (k+1) xs ((d,((rv y).out (Ce ((d,0),g+k)) (ys.map (Opd.ev (Am tl)))).1) :: tl) (((rv y).out (Ce ((d,0),g+k)) (ys.map (Opd.ev (Am tl)))).2.reverseAux ol) ((1,((rv y).out (Ce ((d,0),g+k)) (ys.map (Opd.ev (Am tl)))).1,((rv y).out (Ce ((d,0),g+k)) (ys.map (Opd.ev (Am tl)))).2) :: ra) ((rdX (Am tl) (Aj ol) ⟨some d,gd,.call fo ys tys⟩) :: da) Kf)
  (hA:(M7 (gnd (only (rdX (Am tl) (Aj ol) ⟨some d,gd,.call fo ys tys⟩) (Aj ol)) 8) (ys.map (Opd.ev (Am tl)))).map (Nk tys)=some args:=by kernel_rfl) (hb:Ch P F=true:=by kernel_rfl) (hfo:fo.ev (Am tl)=.fn F []:=by kernel_rfl)
  (hx:∀ y,Ds ((rv y).out (Ce ((d,0),g+k)) (ys.map (Opd.ev (Am tl)))).2=true:=by intro _;rfl) (hni:∀ y,(rv y).noI=true:=by intro _;rfl) (hgd:gdB gd (Am tl)=true:=by kernel_rfl) (hF:Nat.blt F mtd=true:=by kernel_rfl):XD P G bad g k (⟨some d,gd,.call fo ys tys⟩ :: xs) tl ol ra da Kf:=by
 obtain ⟨y,hy,hK⟩:=Ah h;obtain ⟨args0,h1,hn⟩:=map_some hA;have hF':F<mtd:=Nat.le_of_ble_eq_true hF;exact My (caps:=[]) _ _ _ _ (Uv hgd) h1 (hc hy) hb (h3 y hK) (hfo:=hfo) (hz:=by simp only [C3,List.map_nil,List.append_nil,List.nil_append,ite_self]) (hn:=hn) (hr:=rfl) (hF:=if_pos hF') (hx:=hx y) (hni:=hni y)
variable {sz j:Nat} {c e:Opd}
theorem riH (t:Ty) {zs:List t.D} {K:t.D->Option β} (h:(zs[j]?).bind K=some r) (h3:∀ y,zs[j]? =some y->K y=some r->XW P G g (k+1) xs ((d,.telt (c.ev (Am tl)).tag t y 0) :: tl) ol Kf) (hx:(c.ev (Am tl)).un=.tree t zs:=by kernel_rfl) (hi:e.ev (Am tl)=.int .i64 (j:Int):=by kernel_rfl) (hs:sz=t.size:=by rfl) (hgd:gdB gd (Am tl)=true:=by kernel_rfl):XW P G g k (⟨some d,gd,.i (.idx sz c e)⟩ :: xs) tl ol Kf:=by
 obtain ⟨y,hy,hK⟩:=Ah h;exact rs0 _ (Fd hgd (Agd hx hi hs (Int.natCast_nonneg _) rfl hy rfl)) (h3 y hy hK)
theorem diH (t:Ty) {zs:List t.D} {K:t.D->Option β} (h:(zs[j]?).bind K=some r) (h3:∀ y,zs[j]? =some y->K y=some r->XD P G bad g (k+1) xs ((d,.telt (c.ev (Am tl)).tag t y 0) :: tl) ol ((0,.telt (c.ev (Am tl)).tag t y 0,[]) :: ra) ((rdX (Am tl) (Aj ol) ⟨some d,gd,.i (.idx sz c e)⟩) :: da) Kf) (hx:(c.ev (Am tl)).un=.tree t zs:=by kernel_rfl) (hi:e.ev (Am tl)=.int .i64 (j:Int):=by kernel_rfl) (hs:sz=t.size:=by rfl) (hgd:gdB gd (Am tl)=true:=by kernel_rfl):XD P G bad g k (⟨some d,gd,.i (.idx sz c e)⟩ :: xs) tl ol ra da Kf:=by
 obtain ⟨y,hy,hK⟩:=Ah h;exact ds0 _ (Fd hgd (Agd hx hi hs (Int.natCast_nonneg _) rfl hy rfl)) (h3 y hy hK)
theorem diE (t:Ty) {zs:List t.D} {y:t.D} (hy:zs[j]? =some y) (h3:XD P G bad g (k+1) xs ((d,.telt (c.ev (Am tl)).tag t y 0) :: tl) ol ((0,.telt (c.ev (Am tl)).tag t y 0,[]) :: ra) ((rdX (Am tl) (Aj ol) ⟨some d,gd,.i (.idx sz c e)⟩) :: da) Kf) (hx:(c.ev (Am tl)).un=.tree t zs:=by kernel_rfl) (hi:e.ev (Am tl)=.int .i64 (j:Int):=by kernel_rfl) (hs:sz=t.size:=by rfl) (hgd:gdB gd (Am tl)=true:=by kernel_rfl):XD P G bad g k (⟨some d,gd,.i (.idx sz c e)⟩ :: xs) tl ol ra da Kf :=
 ds0 _ (Fd hgd (Agd hx hi hs (Int.natCast_nonneg _) rfl hy rfl)) h3
theorem raH {M:Option β} (h:og (j+1<4611686018427387904) M=some r) (h3:M=some r->XW P G g (k+1) xs ((d,.int .i64 ((j+1:Nat):Int)) :: tl) ol Kf) (hx:c.ev (Am tl)=.int .i64 (j:Int):=by kernel_rfl) (hy:e.ev (Am tl)=.int .i64 1:=by kernel_rfl) (hgd:gdB gd (Am tl)=true:=by kernel_rfl):XW P G g k (⟨some d,gd,.i (.bin .add c e)⟩ :: xs) tl ol Kf:=by
 obtain ⟨hg,hK⟩:=Ak h;exact rs0 _ (Fd hgd (Arq hx hy hg)) (h3 hK)
variable {t:Bool} {A B:Option β}
theorem kQ {y z:AC} {R:AE->St->Prop} {S:St} (h:cond t A B=some r) (h1:t=true->A=some r->awp P G y R S) (h2:t=false->B=some r->awp P G z R S) (hc:c.ev S.tm=.bool t:=by kernel_rfl):awp P G (.cond c y z) R S:=by
 rcases A0 h with ⟨q,h⟩|⟨q,h⟩
 ·exact Akz q (h1 q h) hc
 ·exact Ak2 q (h2 q h) hc
theorem kR (h:cond t A B=some r) (s:Nat) (h1:t=true->A=some r->XW P G g k xs ((s,.bool true) :: tl) ol Kf) (h2:t=false->B=some r->XW P G g k xs ((s,.bool false) :: tl) ol Kf) (hd:Am tl s=.bool t:=by kernel_rfl):XW P G g k xs tl ol Kf:=by
 rcases A0 h with ⟨q,h⟩|⟨q,h⟩
 ·exact rq s q (h1 q h) hd
 ·exact rq s q (h2 q h) hd
theorem kD (h:cond t A B=some r) (s:Nat) (h1:t=true->A=some r->XD P G bad g k xs ((s,.bool true) :: tl) ol ra da Kf) (h2:t=false->B=some r->XD P G bad g k xs ((s,.bool false) :: tl) ol ra da Kf) (hd:Am tl s=.bool t:=by kernel_rfl):XD P G bad g k xs tl ol ra da Kf:=by
 rcases A0 h with ⟨q,h⟩|⟨q,h⟩
 ·exact dq s q (h1 q h) hd
 ·exact dq s q (h2 q h) hd
end
section
variable {G:World->Prop} {α β:Type} {a r:α}
theorem jO {k:α->Option β} {x v:β} {c:Ctl α β} (h:some (Ctl.out x)=some c) (hn:Ctl.then k c=some v):some x=some v:=by
 cases h;exact hn
variable {tl0 tl:List (Nat×AV)} {ol0:List (Oid×Option Ob)} {ol:List (Oid×Ob)} {g0 g:Nat} {l:List (Oid×Oid)} {T:Prop}
def Lr (_l:List (Oid×Oid)) (T:Prop):Prop:=T
theorem jE0 (h1:(tl.map fun p=>Am tl0 p.1)=tl.map fun p=>p.2.ren (Ba l):=by kernel_rfl) (h2:Vf ol0 (Ba l) ol:=by exact V6 (by kernel_rfl)) (h3:Aqa l tl ol g=true:=by kernel_rfl):Lr l (WeakG G ⟨Am tl0,Aj ol0,g0⟩ ⟨Am tl,Aj (B9 ol),g⟩):=Ag l h1 h2 h3
theorem jE (l:List (Oid×Oid)) (k:Lr l T:=by cases h;exact jE0):T:=k
theorem jC0 {F:α->St} (j:⟨Am tl,Aj (B9 ol),g⟩=F a:=by exact rfl) (h1:(tl.map fun p=>Am tl0 p.1)=tl.map fun p=>p.2.ren (Ba l):=by kernel_rfl) (h2:Vf ol0 (Ba l) ol:=by exact V6 (by kernel_rfl)) (h3:Aqa l tl ol g=true:=by kernel_rfl):Lr l (∃ t,(Ctl.next a:Ctl α β)=.next t/\WeakG G ⟨Am tl0,Aj ol0,g0⟩ (F t)):=⟨_,rfl,j▸Ag l h1 h2 h3⟩
theorem jC (l:List (Oid×Oid)) (k:Lr l T:=by cases h;exact jC0):T:=k
theorem jL0 {F:α->St} {k:α->Option β} {v:β} (hn:Ctl.then k (Ctl.next a)=some v) (j:⟨Am tl,Aj (B9 ol),g⟩=F a:=by exact rfl) (h1:(tl.map fun p=>Am tl0 p.1)=tl.map fun p=>p.2.ren (Ba l):=by kernel_rfl) (h2:Vf ol0 (Ba l) ol:=by exact V6 (by kernel_rfl)) (h3:Aqa l tl ol g=true:=by kernel_rfl):Lr l (∃ t,WeakG G ⟨Am tl0,Aj ol0,g0⟩ (F t)/\k t=some v):=⟨_,j▸Ag l h1 h2 h3,hn⟩
theorem jL (l:List (Oid×Oid)) (k:Lr l T:=by cases h;exact jL0 (by assumption)):T:=k
theorem jLw {S:St} {F:α->St} {k:α->Option β} {v:β} (hn:Ctl.then k (Ctl.next a)=some v) (w:WeakG G S (F a)):∃ t,WeakG G S (F t)/\k t=some v:=⟨_,w,hn⟩
def scL:List RL->List AV
 | []=>[]
 | .sc c :: r=>c :: scL r
 | _ :: r=>.any :: scL r
def scP:List (Bool×List RL)->List AV
 | []=>[]
 | (b,ls) :: r=>(if b then .agg (scL ls) else (scL ls).headD .any) :: scP r
def AV.sc1:AV->Bool
 | .int .. | .bool .. | .str .. | .nils | .err ..=>true
 | _=>false
def Ao9:List RL->Bool
 | []=>true
 | .sc c :: r=>c.sc1&&Ao9 r
 | _ :: _=>false
def scB:List (Bool×List RL)->Bool
 | []=>true
 | (b,ls) :: r=>(Ao9 ls&&(b||ls.length==1))&&scB r
theorem Aet {ob:Oid->Option Ob} {c:AV} (h:c.sc1=true):Rp ob c=some (.sc c):=by
 cases c <;> first|rfl|cases h
theorem Adl {vs:List Value} {ob:Oid->Option Ob}:∀ {ls:List RL},Ao9 ls=true->LeavesR vs ob (scL ls) ls
 | [],_=>rfl
 | .sc c :: r,h=>by
  simp only [Ao9,Bool.and_eq_true] at h;exact ⟨_,_,rfl,Arn (Aet h.1),Adl h.2⟩
 | .new .. :: _,h=>by cases h
 | .newM .. :: _,h=>by cases h
 | .arg .. :: _,h=>by cases h
 | .argS .. :: _,h=>by cases h
 | .frz _ :: _,h=>by cases h
 | .imm _ :: _,h=>by cases h
theorem W2 {vs:List Value} {ob:Oid->Option Ob}:∀ {ps:List (Bool×List RL)},scB ps=true->PartsR vs ob (scP ps) ps
 | [],_=>rfl
 | (b,ls) :: r,h=>by
  simp only [scB,Bool.and_eq_true,Bool.or_eq_true,beq_iff_eq] at h;obtain ⟨⟨h1,h2⟩,h3⟩:=h;cases b with
  | true=>exact T3 (Adl h1) (W2 h3)
  | false =>
   have h2:=h2.resolve_left (by decide)
   match ls,h1,h2 with
   | [.sc c],h1,_ =>
    simp only [Ao9,Bool.and_eq_true] at h1;have h1:c.sc1=true:=h1.1;refine Db ?_ (Arn (Aet h1)) (W2 h3);show c.one=true;cases c <;> first|rfl|cases h1
   | [.new ..],h1,_=>cases h1
   | [.newM ..],h1,_=>cases h1
   | [.arg ..],h1,_=>cases h1
   | [.argS ..],h1,_=>cases h1
   | [.frz _],h1,_=>cases h1
   | [.imm _],h1,_=>cases h1
theorem jR {rs:List Res} {f:Nat->AV} {ob:Oid->Option Ob} {g:Nat} {rv:α->RV} {vs:List Value} {e:AE} (h:some a=some r) (avs:List AV) (h2:PartsR vs ob avs (rv a).ps) (he:e=.normal∨e=.ret:=by simp) (h1:Res.evL f ob rs=some avs:=by kernel_rfl) (h3:ndB (Yv ob (Ry avs))=true:=by kernel_rfl) (h4:(rv a).tup=decide (rs.length≠1):=by kernel_rfl):∃ S',WeakG G ⟨f,ob,g⟩ S'/\(e=.normal∨e=.ret)/\RetOK vs rs S' (rv r):=by
 cases h;exact Ax0 avs h2 he h1 h3 h4
theorem jZ {R:Nat->Prop} {z:Bool} {rs:List Res} {f:Nat->AV} {ob:Oid->Option Ob} {g:Nat} {rv:α->RV} {e:AE} (h:some a=some r) (gs:List (Bool×List AV)) (h2:Pu R z ob gs (rv a).ps) (he:e=.normal∨e=.ret:=by simp) (h1:Res.evL f ob rs=some (Ar3 gs):=by kernel_rfl) (h4:(rv a).tup=decide (rs.length≠1):=by kernel_rfl):∃ S',WeakG G ⟨f,ob,g⟩ S'/\(e=.normal∨e=.ret)/\An4 R z rs S' (rv r):=by
 cases h;exact Ax4 gs h2 he h1 h4
theorem jS {rs:List Res} {f:Nat->AV} {ob:Oid->Option Ob} {g:Nat} {rv:α->RV} {vs:List Value} {e:AE} (h:some a=some r) (he:e=.normal∨e=.ret:=by simp) (h1:Res.evL f ob rs=some (scP (rv a).ps):=by kernel_rfl) (h2:scB (rv a).ps=true:=by kernel_rfl) (h3:ndB (Yv ob (Ry (scP (rv a).ps)))=true:=by kernel_rfl) (h4:(rv a).tup=decide (rs.length≠1):=by kernel_rfl):∃ S',WeakG G ⟨f,ob,g⟩ S'/\(e=.normal∨e=.ret)/\RetOK vs rs S' (rv r):=by
 cases h;exact Ax0 _ (W2 h2) he h1 h3 h4
end
abbrev sT (tl:List (Nat×AV)) (ol:List (Oid×Ob)):St:=⟨Am tl,Aj (B9 ol),2⟩
section
variable {P:Program} {G:World->Prop} {σ τ β ρ:Type} {x y:AC} {R:AE->St->Prop} {S:St}
theorem sqF {A:Option τ} {k:τ->Option β} {r:β} (h:A.bind k=some r) (F:τ->St) (h1:∀ t,A=some t->awp P G x (H0 (fun S'=>WeakG G S' (F t)) R) S) (h2:∀ t,k t=some r->awp P G y R (F t)):awp P G (.seq x y) R S:=by
 refine Aq1 h (fun t S''=>S''=F t) (fun t ht=>Df (fun e S' hq=>?_) (h1 t ht)) fun t S'' e hk=>e▸h2 t hk
 cases e with
 | normal=>exact ⟨_,hq,rfl⟩
 | exit id=>exact hq
 | ret=>exact hq
theorem sqC {A:Option (Ctl τ β)} {k:τ->Option β} {r:β} (h:Di A k=some r) (F:τ->St) (h1:∀ v,A=some v->Ctl.then k v=some r->awp P G x (H0 (fun S'=>∃ t,v=.next t/\WeakG G S' (F t)) R) S) (h2:∀ t,k t=some r->awp P G y R (F t)):awp P G (.seq x y) R S:=by
 refine Asn h (fun t S''=>S''=F t) (fun v hv hk=>Df (fun e S' hq=>?_) (h1 v hv hk)) fun t S'' e hk=>e▸h2 t hk
 cases e with
 | normal=>obtain ⟨t,ht,hw⟩:=hq;exact ⟨t,_,ht,hw,rfl⟩
 | exit id=>exact hq
 | ret=>exact hq
theorem lpF {body:σ->Option (Ctl σ ρ)} {fuel:Nat} {s0:σ} {v:ρ} (h:Aq body fuel s0=some v) (F:σ->St) (w:WeakG G S (F s0))
  (h1:∀ n s c,body s=some c->Ctl.then (Aq body n) c=some v->awp P G x (H0 (fun S2=>∃ s',WeakG G S2 (F s')/\Aq body n s'=some v) R) (F s)):awp P G (.loop x) R S:=by
 refine Aoq h (fun s S=>S=F s) ⟨_,w,rfl⟩ fun n s S1 c e hc hn=>e▸Df (fun e S2 hq=>?_) (h1 n s c hc hn)
 cases e with
 | normal=>obtain ⟨s',hw,hl⟩:=hq;exact ⟨s',_,hw,rfl,hl⟩
 | exit id=>exact hq
 | ret=>exact hq
end
theorem skW {P:Program} {G:World->Prop} {R:AE->St->Prop} {S:St} {K:St->Prop} (h:K S):awp P G .skip (H0 (fun S'=>∃ S'',WeakG G S' S''/\K S'') R) S:=Az (tn_ (wr_ h))
theorem rnW {P:Program} {G:World->Prop} {R:AE->St->Prop} {g k g':Nat} {tl:List (Nat×AV)} {ol:List (Oid×Option Ob)} {K:St->Prop} (h:K ⟨Am tl,Aj ol,g'⟩):XW P G g k [] tl ol (fun tl' ol'=>H0 (fun S'=>∃ S'',WeakG G S' S''/\K S'') R .normal ⟨Am tl',Aj ol',g'⟩):=Ap (tn_ (wr_ h))
theorem lxT {P:Program} {G:World->Prop} {R:AE->St->Prop} {S:St} {i:Nat} {K K1 K2:St->Prop} (h:K S):awp P G (.exit i) (H0 K1 (H0 K2 (K8 i (H0 K R)))) S:=Dv (te_ (te_ (be_ (tn_ h))))
def AV.setL (m:Nat):AV->AV
 | .own i t o _=>.own i t o m
 | v=>v
theorem wL {G:World->Prop} {tl:List (Nat×AV)} {ol:List (Oid×Option Ob)} {g:Nat} (s:Nat) {n m:Nat} (h:n=m) (hs:Am tl s=(Am tl s).setL n:=by kernel_rfl):WeakG G ⟨Am tl,Aj ol,g⟩ ⟨Am ((s,(Am tl s).setL m) :: tl),Aj ol,g⟩ :=
 Abl s (Am tl s) _ rfl (by rw [← h];exact hs)
section
variable {P:Program} {G:World->Prop} {g k d:Nat} {gd:Option (Nat×Bool)} {xs:List X} {tl:List (Nat×AV)} {ol:List (Oid×Option Ob)} {bad:List (Nat×Nat)} {ra:List Rec} {da:List (List Oid)} {Kf:List (Nat×AV)->List (Oid×Option Ob)->Prop}
variable {α β:Type} {x:Option α} {K:α->Option β} {r:β} {args:List AV} {fo:Opd} {ys:List Opd} {tys:List (List (Option Ty))} {F:FuncId}
theorem rcG {rv:α->RV} (h:x.bind K=some r) (zs:List AV) (hc:∀ {y},x=some y->Cr P G F args (rv y)) (h1:M7 (gnd (Aj ol) 8) zs=some args)
  (h3:∀ y,K y=some r->XW P G g (k+1) xs ((d,((rv y).out (Ce ((d,0),g+k)) zs).1) :: tl) (((rv y).out (Ce ((d,0),g+k)) zs).2.reverseAux ol) Kf)
  (hz:ys.map (Opd.ev (Am tl))=zs:=by kernel_rfl) (hn:Nk tys args=args:=by kernel_rfl) (hb:Ch P F=true:=by kernel_rfl) (hfo:fo.ev (Am tl)=.fn F []:=by kernel_rfl)
  (hx:∀ y,Ds ((rv y).out (Ce ((d,0),g+k)) zs).2=true:=by intro _;rfl) (hni:∀ y,(rv y).noI=true:=by intro _;rfl) (hgd:gdB gd (Am tl)=true:=by kernel_rfl) (hF:Nat.blt F mtd=true:=by kernel_rfl):XW P G g k (⟨some d,gd,.call fo ys tys⟩ :: xs) tl ol Kf:=by
 obtain ⟨y,hy,hK⟩:=Ah h;have hF':F<mtd:=Nat.le_of_ble_eq_true hF;subst hz;exact Jk (caps:=[]) _ _ _ _ (Uv hgd) h1 (hc hy) hb (h3 y hK) (hfo:=hfo) (hz:=by simp only [C3,List.map_nil,List.append_nil,List.nil_append,ite_self]) (hn:=hn) (hr:=rfl) (hF:=if_pos hF') (hx:=hx y) (hni:=hni y)
theorem dcG {rv:α->RV} (h:x.bind K=some r) (zs:List AV) (hc:∀ {y},x=some y->Cr P G F args (rv y)) (h1:M7 (gnd (only (rdX (Am tl) (Aj ol) ⟨some d,gd,.call fo ys tys⟩) (Aj ol)) 8) zs=some args)
  (h3:∀ y,K y=some r->XD P G bad g (k+1) xs ((d,((rv y).out (Ce ((d,0),g+k)) zs).1) :: tl) (((rv y).out (Ce ((d,0),g+k)) zs).2.reverseAux ol) ((1,((rv y).out (Ce ((d,0),g+k)) zs).1,((rv y).out (Ce ((d,0),g+k)) zs).2) :: ra) ((rdX (Am tl) (Aj ol) ⟨some d,gd,.call fo ys tys⟩) :: da) Kf)
  (hz:ys.map (Opd.ev (Am tl))=zs:=by kernel_rfl) (hn:Nk tys args=args:=by kernel_rfl) (hb:Ch P F=true:=by kernel_rfl) (hfo:fo.ev (Am tl)=.fn F []:=by kernel_rfl)
  (hx:∀ y,Ds ((rv y).out (Ce ((d,0),g+k)) zs).2=true:=by intro _;rfl) (hni:∀ y,(rv y).noI=true:=by intro _;rfl) (hgd:gdB gd (Am tl)=true:=by kernel_rfl) (hF:Nat.blt F mtd=true:=by kernel_rfl):XD P G bad g k (⟨some d,gd,.call fo ys tys⟩ :: xs) tl ol ra da Kf:=by
 obtain ⟨y,hy,hK⟩:=Ah h;have hF':F<mtd:=Nat.le_of_ble_eq_true hF;subst hz;exact My (caps:=[]) _ _ _ _ (Uv hgd) h1 (hc hy) hb (h3 y hK) (hfo:=hfo) (hz:=by simp only [C3,List.map_nil,List.append_nil,List.nil_append,ite_self]) (hn:=hn) (hr:=rfl) (hF:=if_pos hF') (hx:=hx y) (hni:=hni y)
variable {ol0:List (Oid×Ob)} {v0:α->AV} {us:α->List (Oid×Ob)}
theorem rcM (h:x.bind K=some r) (l:List (Oid×Oid)) (zs:List AV) (hc:∀ {y},x=some y->D1 P G F args ol0 (v0 y) (us y)) (hR:Vf ol (Ba l) ol0) (h1:Qa (Ba l) (Vz ((nmL ol0).map (Ba l)) (Aj ol)) zs args) (h4:∀ j∈nmL ol0,Reached zs (Aj ol) (Ba l j))
  (h3:∀ y,K y=some r->XW P G g (k+1) xs ((d,(v0 y).ren (Bu (Ba l) ((d,0),g+k))) :: tl) ((B9 (Pv (Bu (Ba l) ((d,0),g+k)) (us y))++M3 (Ba l) ol0)++ol) Kf)
  (hz:ys.map (Opd.ev (Am tl))=zs:=by kernel_rfl) (hB:∀ y,X2 l ol0 (us y) (g+k) ol=true:=by intro _;kernel_rfl) (hb:Ch P F=true:=by kernel_rfl) (hfo:fo.ev (Am tl)=.fn F []:=by kernel_rfl) (hgd:gdB gd (Am tl)=true:=by kernel_rfl) (hF:Nat.blt F mtd=true:=by kernel_rfl):XW P G g k (⟨some d,gd,.call fo ys tys⟩ :: xs) tl ol Kf:=by
 obtain ⟨y,hy,hK⟩:=Ah h;exact L0 (caps:=[]) _ _ l zs (Uv hgd) (hc hy) hb hR h1 h4 (h3 y hK) (hfo:=hfo) (hz:=by rw [List.map_nil,List.append_nil];exact hz) (hB:=hB y) (hF:=Nat.le_of_ble_eq_true hF) (hv:=rfl) (hu:=rfl)
theorem dcM (h:x.bind K=some r) (l:List (Oid×Oid)) (zs:List AV) (hc:∀ {y},x=some y->D1 P G F args ol0 (v0 y) (us y)) (hR:Vf ol (Ba l) ol0) (h1:Qa (Ba l) (Vz ((nmL ol0).map (Ba l)) (only (rdX (Am tl) (Aj ol) ⟨some d,gd,.call fo ys tys⟩) (Aj ol))) zs args) (h4:∀ j∈nmL ol0,Reached zs (only (rdX (Am tl) (Aj ol) ⟨some d,gd,.call fo ys tys⟩) (Aj ol)) (Ba l j)) (hd:∀ q∈exL ol0,Ba l q.1∈rdX (Am tl) (Aj ol) ⟨some d,gd,.call fo ys tys⟩)
  (h3:∀ y,K y=some r->XD P G bad g (k+1) xs ((d,(v0 y).ren (Bu (Ba l) ((d,0),g+k))) :: tl) ((B9 (Pv (Bu (Ba l) ((d,0),g+k)) (us y))++M3 (Ba l) ol0)++ol) ((2,(v0 y).ren (Bu (Ba l) ((d,0),g+k)),Ie (Ba l) ((d,0),g+k) ol0 (us y)) :: ra) ((rdX (Am tl) (Aj ol) ⟨some d,gd,.call fo ys tys⟩) :: da) Kf)
  (hz:ys.map (Opd.ev (Am tl))=zs:=by kernel_rfl) (hB:∀ y,X2 l ol0 (us y) (g+k) ol=true:=by intro _;kernel_rfl) (hb:Ch P F=true:=by kernel_rfl) (hfo:fo.ev (Am tl)=.fn F []:=by kernel_rfl) (hgd:gdB gd (Am tl)=true:=by kernel_rfl) (hF:Nat.blt F mtd=true:=by kernel_rfl):XD P G bad g k (⟨some d,gd,.call fo ys tys⟩ :: xs) tl ol ra da Kf:=by
 obtain ⟨y,hy,hK⟩:=Ah h;exact Alk (caps:=[]) _ _ l zs (Uv hgd) (hc hy) hb hR h1 h4 hd (h3 y hK) (hfo:=hfo) (hz:=by rw [List.map_nil,List.append_nil];exact hz) (hB:=hB y) (hF:=Nat.le_of_ble_eq_true hF) (hv:=rfl) (hu:=rfl)
theorem aR {θ:Oid->Oid} {ob:Oid->Option Ob}:∀ {zs args:List AV},zs=args.map (AV.ren θ)->Qa θ ob zs args
 | _,[],h=>by subst h;exact .nil
 | _,_ :: _,h=>by subst h;exact .cons (.ren rfl) (aR rfl)
end
end Go.Proofs.YtopjojkjaklalaaGreatDoor
namespace Go.Proofs.YtopjojkjaklalaaGreatDoor
open Go.RowKit Go.Deep
abbrev sI:Ty:=.slice .int
abbrev Y0:Ty:=.slice sI
abbrev Y1:Ty:=.slice .int
abbrev Y2:Ty:=.pair sI sI
abbrev Y3:Ty:=.pair .int .int
abbrev Y4:Ty:=.pair .int .str
abbrev Y5:Ty:=.pair .int Y0
abbrev Y6:Ty:=.pair .int Y2
abbrev Y8:Ty:=.pair .int Y4
abbrev Y9:Ty:=.pair .int Y5
abbrev Ya:Ty:=.slice Y8
abbrev Yb:Ty:=.pair .int Y6
abbrev Yc:Ty:=.pair .int Ya
abbrev Yd:Ty:=.pair .int Yc
abbrev Ye:Ty:=.pair .str Yd
section
variable {P:Program} {G:World->Prop} {g k d:Nat} {gd:Option (Nat×Bool)} {q:Q} {xs:List X} {tl:List (Nat×AV)} {ol:List (Oid×Option Ob)} {bad:List (Nat×Nat)} {ra:List Rec} {da:List (List Oid)} {Kf:List (Nat×AV)->List (Oid×Option Ob)->Prop}
theorem dz0 (v:AV) (h3:XD P G bad g (k+1) xs ((d,v) :: tl) ol ((0,v,[]) :: ra) ((rdX (Am tl) (Aj ol) ⟨some d,gd,q⟩) :: da) Kf) (h:A7 (g+k) ⟨some d,gd,q⟩ (Am tl) (only (rdX (Am tl) (Aj ol) ⟨some d,gd,q⟩) (Aj ol))=some (0,v,[]):=by kernel_rfl):XD P G bad g k (⟨some d,gd,q⟩ :: xs) tl ol ra da Kf:=ds0 v h h3
theorem dzl (v:AV) (h3:XD P G bad g (k+1) xs ((d,v) :: tl) ol ((1,v,[]) :: ra) ((rdX (Am tl) (Aj ol) ⟨some d,gd,q⟩) :: da) Kf) (h:A7 (g+k) ⟨some d,gd,q⟩ (Am tl) (only (rdX (Am tl) (Aj ol) ⟨some d,gd,q⟩) (Aj ol))=some (1,v,[]):=by kernel_rfl):XD P G bad g k (⟨some d,gd,q⟩ :: xs) tl ol ra da Kf:=dsl v h h3
theorem zc {fo:Opd} {ys:List Opd} {tys:List (List (Option Ty))} {F:FuncId} {rv:RV} {args:List AV} (v:AV) (us:List (Oid×Option Ob)) (zs:List AV) (hc:Cr P G F args rv) (h3:XW P G g (k+1) xs ((d,v) :: tl) (us.reverseAux ol) Kf) (h1:M7 (gnd (Aj ol) 8) zs=some zs:=by kernel_rfl) (hb:Ch P F=true:=by kernel_rfl) (hfo:fo.ev (Am tl)=.fn F []:=by kernel_rfl) (hz:ys.map (Opd.ev (Am tl))=zs:=by kernel_rfl) (hn:Nk tys zs=args:=by kernel_rfl) (hr:rv.out (Ce ((d,0),g+k)) zs=(v,us):=by kernel_rfl) (hx:Ds us=true:=by rfl) (hni:rv.noI=true:=by kernel_rfl) (hF:Nat.blt F mtd=true:=by kernel_rfl):XW P G g k (⟨some d,none,.call fo ys tys⟩ :: xs) tl ol Kf:=Jk (caps:=[]) (args0:=zs) v us zs args trivial h1 hc hb h3 (hfo:=hfo) (hz:=by simpa only [C3,List.map_nil,List.append_nil,List.nil_append,ite_self] using hz) (hn:=hn) (hr:=hr) (hF:=if_pos (Nat.le_of_ble_eq_true hF)) (hx:=hx) (hni:=hni)
end
theorem kr {p:Prop} (h:p:=by kernel_rfl):p:=h
abbrev LL:=List (List Int)
abbrev an (n:Nat):AV:=.int .i64 n
abbrev tI (x:List Int):AV:=.tree .int x
abbrev tS (x:List (List Int)):AV:=.tree Y1 x
abbrev oI (a b n:Nat):AV:=.own (oi a b) .int 0 n
abbrev oS (a b n:Nat):AV:=.own (oi a b) Y1 0 n
abbrev nI (a b:Nat) (x:List Int):Oid×Option Ob:=(oi a b,some (.arr 3 .int x))
abbrev xm (d s:Nat):X:=⟨some d,none,.i (.mov (.tmp s))⟩
abbrev xl (d s:Nat):X:=⟨some d,none,.i (.ld true 1 (.tmp s))⟩
abbrev xf (d k s:Nat):X:=⟨some d,none,.i (.fld k (.tmp s))⟩
abbrev xx (d z a b:Nat):X:=⟨some d,none,.i (.idx z (.tmp a) (.tmp b))⟩
abbrev xn1 (d s:Nat):X:=⟨some d,none,.i (.len (.tmp s))⟩
abbrev xa (d s:Nat):X:=⟨some d,none,.i (.bin .add (.tmp s) (.cst (.int .i64 1)))⟩
abbrev xs1 (d a b:Nat):X:=⟨some d,none,.i (.bin .lss (.tmp a) (.tmp b))⟩
section
variable {P:Program} {G:World->Prop} {g k d:Nat} {gd:Option (Nat×Bool)} {q:Q} {xs:List X} {tl:List (Nat×AV)} {ol:List (Oid×Option Ob)} {bad:List (Nat×Nat)} {ra:List Rec} {da:List (List Oid)} {Kf:List (Nat×AV)->List (Oid×Option Ob)->Prop}
theorem dzc {fo:Opd} {ys:List Opd} {tys:List (List (Option Ty))} {F:FuncId} {rv:RV} {args:List AV} (v:AV) (us:List (Oid×Option Ob)) (zs:List AV) (hc:Cr P G F args rv) (h3:XD P G bad g (k+1) xs ((d,v) :: tl) (us.reverseAux ol) ((1,v,us) :: ra) ((rdX (Am tl) (Aj ol) ⟨some d,none,.call fo ys tys⟩) :: da) Kf) (h1:M7 (gnd (only (rdX (Am tl) (Aj ol) ⟨some d,none,.call fo ys tys⟩) (Aj ol)) 8) zs=some zs:=by kernel_rfl) (hb:Ch P F=true:=by kernel_rfl) (hfo:fo.ev (Am tl)=.fn F []:=by kernel_rfl) (hz:ys.map (Opd.ev (Am tl))=zs:=by kernel_rfl) (hn:Nk tys zs=args:=by kernel_rfl) (hr:rv.out (Ce ((d,0),g+k)) zs=(v,us):=by kernel_rfl) (hx:Ds us=true:=by rfl) (hni:rv.noI=true:=by kernel_rfl) (hF:Nat.blt F mtd=true:=by kernel_rfl):XD P G bad g k (⟨some d,none,.call fo ys tys⟩ :: xs) tl ol ra da Kf:=My (caps:=[]) (args0:=zs) v us zs args trivial h1 hc hb h3 (hfo:=hfo) (hz:=by simpa only [C3,List.map_nil,List.append_nil,List.nil_append,ite_self] using hz) (hn:=hn) (hr:=hr) (hF:=if_pos (Nat.le_of_ble_eq_true hF)) (hx:=hx) (hni:=hni)
theorem zO {sz:Nat} {x i:Opd} (o:Oid) (t:Ty) (len:Nat) {j:Nat} (hl:j<len) (h3:XW P G g (k+1) xs ((d,.elt o j 0) :: tl) ol Kf) (hx:x.ev (Am tl)=.own o t 0 len:=by kernel_rfl) (hi:i.ev (Am tl)=.int .i64 (j:Int):=by kernel_rfl) (hs:sz=t.size:=by rfl) (hgd:gdB gd (Am tl)=true:=by kernel_rfl):XW P G g k (⟨some d,gd,.i (.idx sz x i)⟩ :: xs) tl ol Kf:=rs0 _ (Fd hgd (Wn hx hi hs (Int.natCast_nonneg _) rfl hl)) h3
theorem dzO {sz:Nat} {x i:Opd} (o:Oid) (t:Ty) (len:Nat) {j:Nat} (hl:j<len) (h3:XD P G bad g (k+1) xs ((d,.elt o j 0) :: tl) ol ((0,.elt o j 0,[]) :: ra) ((rdX (Am tl) (Aj ol) ⟨some d,gd,.i (.idx sz x i)⟩) :: da) Kf) (hx:x.ev (Am tl)=.own o t 0 len:=by kernel_rfl) (hi:i.ev (Am tl)=.int .i64 (j:Int):=by kernel_rfl) (hs:sz=t.size:=by rfl) (hgd:gdB gd (Am tl)=true:=by kernel_rfl):XD P G bad g k (⟨some d,gd,.i (.idx sz x i)⟩ :: xs) tl ol ra da Kf:=ds0 _ (Fd hgd (Wn hx hi hs (Int.natCast_nonneg _) rfl hl)) h3
theorem zE {x:Opd} (i:Oid) {ws:List Int} {j:Nat} {z:Int} (hz:ws[j]? =some z) (h3:XW P G g (k+1) xs ((d,.int .i64 z) :: tl) ol Kf) (hx:x.ev (Am tl)=.elt i j 0:=by kernel_rfl) (hob:Aj ol i=some (.arr 3 .int ws):=by kernel_rfl) (hgd:gdB gd (Am tl)=true:=by kernel_rfl):XW P G g k (⟨some d,gd,.i (.ld true 1 x)⟩ :: xs) tl ol Kf:=rsl _ (Fd hgd (H5 (k:=0) (t:=.int) hx hob hz rfl)) h3
theorem dzE {x:Opd} (i:Oid) {ws:List Int} {j:Nat} {z:Int} (hz:ws[j]? =some z) (h3:XD P G bad g (k+1) xs ((d,.int .i64 z) :: tl) ol ((1,.int .i64 z,[]) :: ra) ((rdX (Am tl) (Aj ol) ⟨some d,gd,.i (.ld true 1 x)⟩) :: da) Kf) (hx:x.ev (Am tl)=.elt i j 0:=by kernel_rfl) (hob:only (rdX (Am tl) (Aj ol) ⟨some d,gd,.i (.ld true 1 x)⟩) (Aj ol) i=some (.arr 3 .int ws):=by kernel_rfl) (hgd:gdB gd (Am tl)=true:=by kernel_rfl):XD P G bad g k (⟨some d,gd,.i (.ld true 1 x)⟩ :: xs) tl ol ra da Kf:=dsl _ (Fd hgd (H5 (k:=0) (t:=.int) hx hob hz rfl)) h3
theorem zS {x y:Opd} (i:Oid) {ws:List Int} {j:Nat} {z:Int} (z1:Int) (hz:ws[j]? =some z) (h3:XW P G g (k+1) xs tl ((i,some (.arr 3 .int (ws.set j z1))) :: (i,none) :: ol) Kf) (hx:x.ev (Am tl)=.elt i j 0:=by kernel_rfl) (hob:Aj ol i=some (.arr 3 .int ws):=by kernel_rfl) (hy:y.ev (Am tl)=.int .i64 z1:=by kernel_rfl) (hgd:gdB gd (Am tl)=true:=by kernel_rfl):XW P G g k (⟨none,gd,.st true 1 x y⟩ :: xs) tl ol Kf:=Afj _ _ _ (Fd hgd (Vm (k:=0) (t:=.int) (cs:=[.int .i64 z1]) (x1:=z1) hx hob hz (by rw [hy];rfl) rfl)) h3
theorem dzS {x y:Opd} (i:Oid) {ws:List Int} {j:Nat} {z:Int} (z1:Int) (hz:ws[j]? =some z) (h3:XD P G bad g (k+1) xs tl ((i,some (.arr 3 .int (ws.set j z1))) :: (i,none) :: ol) ((2,.any,[(i,none),(i,some (.arr 3 .int (ws.set j z1)))]) :: ra) ((rdX (Am tl) (Aj ol) ⟨none,gd,.st true 1 x y⟩) :: da) Kf) (hx:x.ev (Am tl)=.elt i j 0:=by kernel_rfl) (hob:only (rdX (Am tl) (Aj ol) ⟨none,gd,.st true 1 x y⟩) (Aj ol) i=some (.arr 3 .int ws):=by kernel_rfl) (hy:y.ev (Am tl)=.int .i64 z1:=by kernel_rfl) (hgd:gdB gd (Am tl)=true:=by kernel_rfl):XD P G bad g k (⟨none,gd,.st true 1 x y⟩ :: xs) tl ol ra da Kf:=Oz _ _ _ (Fd hgd (Vm (k:=0) (t:=.int) (cs:=[.int .i64 z1]) (x1:=z1) hx hob hz (by rw [hy];rfl) rfl)) h3
theorem zB {x y:Opd} {by_:Nat} (j q:Oid) (ws:List Int) (z:Int) (h:ws.length+1<=1073741824/\(ws.length+1)*by_<=140737488355328) (h3:XW P G g (k+1) xs ((d,.own (j.1,g+k) .int 0 (ws++[z]).length) :: tl) (((j.1,g+k),some (.arr 3 .int (ws++[z]))) :: (j,none) :: ol) Kf) (hx:x.ev (Am tl)=.own j .int 0 ws.length:=by kernel_rfl) (hob:Aj ol j=some (.arr 3 .int ws):=by kernel_rfl) (hy:y.ev (Am tl)=.own q .int 0 1:=by kernel_rfl) (hq:Aj ol q=some (.arr 3 .int [z]):=by kernel_rfl) (hgd:gdB gd (Am tl)=true:=by kernel_rfl):XW P G g k (⟨some d,gd,.append 3 .int by_ x y⟩ :: xs) tl ol Kf:=rs2 _ _ _ _ (Fd hgd (P5 (t:=.int) (ys:=[z]) hx hob rfl hy (Jf hq rfl) rfl h)) h3
theorem dzB {x y:Opd} {by_:Nat} (j q:Oid) (ws:List Int) (z:Int) (h:ws.length+1<=1073741824/\(ws.length+1)*by_<=140737488355328) (h3:XD P G bad g (k+1) xs ((d,.own (j.1,g+k) .int 0 (ws++[z]).length) :: tl) (((j.1,g+k),some (.arr 3 .int (ws++[z]))) :: (j,none) :: ol) ((2,.own (j.1,g+k) .int 0 (ws++[z]).length,[(j,none),((j.1,g+k),some (.arr 3 .int (ws++[z])))]) :: ra) ((rdX (Am tl) (Aj ol) ⟨some d,gd,.append 3 .int by_ x y⟩) :: da) Kf) (hx:x.ev (Am tl)=.own j .int 0 ws.length:=by kernel_rfl) (hob:only (rdX (Am tl) (Aj ol) ⟨some d,gd,.append 3 .int by_ x y⟩) (Aj ol) j=some (.arr 3 .int ws):=by kernel_rfl) (hy:y.ev (Am tl)=.own q .int 0 1:=by kernel_rfl) (hq:only (rdX (Am tl) (Aj ol) ⟨some d,gd,.append 3 .int by_ x y⟩) (Aj ol) q=some (.arr 3 .int [z]):=by kernel_rfl) (hgd:gdB gd (Am tl)=true:=by kernel_rfl):XD P G bad g k (⟨some d,gd,.append 3 .int by_ x y⟩ :: xs) tl ol ra da Kf:=ds2 _ _ _ _ (Fd hgd (P5 (t:=.int) (ys:=[z]) hx hob rfl hy (Jf hq rfl) rfl h)) h3
theorem zV {x y:Opd} {by_:Nat} (o q p:Oid) (ws:List (List Int)) (cs:List AV) (h:ws.length+1<=1073741824/\(ws.length+1)*by_<=140737488355328) (h3:XW P G g (k+1) xs ((d,.own (o.1,g+k) Y1 0 (ws.length+1)) :: tl) (((o.1,g+k),some (.vec 42 1 (ws.length+1) (hdL p .int ws++cs))) :: (o,none) :: ol) Kf) (hc:cs.length=1:=by rfl) (hx:x.ev (Am tl)=.own o Y1 0 ws.length:=by kernel_rfl) (hob:Aj ol o=some (.vec 42 1 ws.length (hdL p .int ws)):=by kernel_rfl) (hy:y.ev (Am tl)=.own q Y1 0 1:=by kernel_rfl) (hq:Aj ol q=some (.vec 42 1 1 cs):=by kernel_rfl) (he:Lx (some (.vec 42 1 (ws.length+1) (hdL p .int ws++cs)))=true:=by rfl) (hgd:gdB gd (Am tl)=true:=by kernel_rfl):XW P G g k (⟨some d,gd,.appV 42 Y1 by_ x y⟩ :: xs) tl ol Kf:=rs2 _ _ _ _ (Fd hgd (Amk (t2:=.slice .int) hx hob rfl hy hq hc h)) h3 he
theorem dzV {x y:Opd} {by_:Nat} (o q p:Oid) (ws:List (List Int)) (cs:List AV) (h:ws.length+1<=1073741824/\(ws.length+1)*by_<=140737488355328) (h3:XD P G bad g (k+1) xs ((d,.own (o.1,g+k) Y1 0 (ws.length+1)) :: tl) (((o.1,g+k),some (.vec 42 1 (ws.length+1) (hdL p .int ws++cs))) :: (o,none) :: ol) ((2,.own (o.1,g+k) Y1 0 (ws.length+1),[(o,none),((o.1,g+k),some (.vec 42 1 (ws.length+1) (hdL p .int ws++cs)))]) :: ra) ((rdX (Am tl) (Aj ol) ⟨some d,gd,.appV 42 Y1 by_ x y⟩) :: da) Kf) (hc:cs.length=1:=by rfl) (hx:x.ev (Am tl)=.own o Y1 0 ws.length:=by kernel_rfl) (hob:only (rdX (Am tl) (Aj ol) ⟨some d,gd,.appV 42 Y1 by_ x y⟩) (Aj ol) o=some (.vec 42 1 ws.length (hdL p .int ws)):=by kernel_rfl) (hy:y.ev (Am tl)=.own q Y1 0 1:=by kernel_rfl) (hq:only (rdX (Am tl) (Aj ol) ⟨some d,gd,.appV 42 Y1 by_ x y⟩) (Aj ol) q=some (.vec 42 1 1 cs):=by kernel_rfl) (he:Lx (some (.vec 42 1 (ws.length+1) (hdL p .int ws++cs)))=true:=by rfl) (hgd:gdB gd (Am tl)=true:=by kernel_rfl):XD P G bad g k (⟨some d,gd,.appV 42 Y1 by_ x y⟩ :: xs) tl ol ra da Kf:=ds2 _ _ _ _ (Fd hgd (Amk (t2:=.slice .int) hx hob rfl hy hq hc h)) h3 he
theorem zA {x y:Opd} {j:Nat} (h:j+1<4611686018427387904) (h3:XW P G g (k+1) xs ((d,.int .i64 ((j+1:Nat):Int)) :: tl) ol Kf) (hx:x.ev (Am tl)=.int .i64 j:=by kernel_rfl) (hy:y.ev (Am tl)=.int .i64 1:=by kernel_rfl):XW P G g k (⟨some d,none,.i (.bin .add x y)⟩ :: xs) tl ol Kf:=rs0 _ (Arq hx hy h) h3
end
section
variable {n:Nat} {d:Option Nat} {f:Nat->AV} {ob:Oid->Option Ob}
theorem zi {sz:Nat} {x i:Opd} {t:Ty} {xs:List t.D} {y:t.D} {k:IntKind} {m:Int} {j:Nat} (h0:0<=m) (hy:xs[j]? =some y) (hx:(x.ev f).un=.tree t xs:=by kernel_rfl) (hi:i.ev f=.int k m:=by kernel_rfl) (hs:sz=t.size:=by rfl) (hj:m.toNat=j:=by rfl) {e:Option (Nat->Prop)} (he:(x.ev f).tag=e:=by kernel_rfl):A7 n ⟨d,none,.i (.idx sz x i)⟩ f ob=some (0,.telt e t y 0,[]):=Agd hx hi hs h0 hj hy he
theorem zo {sz:Nat} {x i:Opd} {t:Ty} {o:Oid} {len:Nat} {k:IntKind} {m:Int} {j:Nat} (h0:0<=m) (hl:j<len) (hx:x.ev f=.own o t 0 len:=by kernel_rfl) (hi:i.ev f=.int k m:=by kernel_rfl) (hs:sz=t.size:=by rfl) (hj:m.toNat=j:=by rfl):A7 n ⟨d,none,.i (.idx sz x i)⟩ f ob=some (0,.elt o j 0,[]):=Wn hx hi hs h0 hj hl
theorem zl {vs:List Value} {c:AV} {l:RL} (h:Rp ob c=some l:=by kernel_rfl):LeafR vs ob c l:=Arn h
end
theorem zj {α:Type} {a b:α} (h:some a=some b):a=b:=osj h
end Go.Proofs.YtopjojkjaklalaaGreatDoor
namespace Go.Proofs.YtopjojkjaklalaaGreatDoor
open Go.RowKit Go.Deep
set_option maxRecDepth 4000
set_option maxHeartbeats 4800000
variable {aA aB:List Int} {bA bB bC bD:Int} {cA:Bool}
def Mr (a0:List Int) (a1:Int):Option Int :=
 cond (decide (wI (a1 - (a0.length:Int))<0))
 (some (-1))
 (some (wI (a1 - (a0.length:Int))))
def A3 (r:Int):RV:=⟨false,[(false,[.sc (.int .i64 r)])]⟩
theorem Ab9 (h:Mr aA bA=some bB):cK 65 [tI aA,ai bA] (A3 bB):=by
 exact cO Tryz.func65 (Ae (Ae (Ab (Ae (kQ h (fun _ h=>Ae (Ac (tr_ (jS h)))) fun _ h=>skW (Ae (Ac (jS h))))))))
def It (a0:List Int) (u0:Nat) (u1:List Int):Option (Ctl (Nat×List Int) (List Int)) :=
 cond (decide ((u0:Int)<(a0.length:Int)))
 ((a0[u0]?).bind fun x11 =>
 (u1[u0]?).bind fun x12 =>
 og (u0+1<4611686018427387904) <|
 some (Ctl.next (u0+1,u1.set u0 x11)))
 (some (Ctl.out u1))
def Ml (a0:List Int):Option (List Int) :=
 og (0<=(a0.length:Int)/\(a0.length:Int)<=(a0.length:Int)/\(a0.length:Int)<=1073741824/\(8:Int)*(a0.length:Int)<=140737488355328) <|
(Aq (fun s_:Nat×List Int=>It a0 s_.1 s_.2) 4611686018427387904 (0,List.replicate a0.length (0:Int))).bind fun u0 =>
some u0
def Bs (r:List Int):RV:=⟨false,[(false,[.new 3 .int r])]⟩
theorem Adn (h:Ml aA=some aB):cK 75 [tI aA] (Bs aB):=by
 refine cO Tryz.func75 (Ae (Ab (Aa 6 (rsT 2 ?_))));obtain ⟨g3,h⟩:=Ak h;refine rs1 (oI 7 4 aA.length) (oi 7 4) (.arr 3 .int (List.replicate aA.length (0:Int))) (Ot (t:=.int) (k:=.i64) (k':=.i64) (m:=(aA.length:Int)) (m':=(aA.length:Int)) kr kr g3 rfl) (rsT 1 (rnW (sqF h (fun u1=>sT [(3,oI 0 1 u1.length)] [(oi 0 1,.arr 3 .int u1)]) ?_ fun u1 h=>Ae (Ac (jR h [oI 0 1 u1.length] (Db rfl (Cv kr rfl) E6))))));intro _ h;refine Ae (Ad (lpF h (fun (u2,u0)=>sT [(0,tI aA),(3,oI 0 1 u0.length),(4,an u2)] [(oi 0 1,.arr 3 .int u0)]) ((wL 3 (List.length_replicate.symm:aA.length=(List.replicate aA.length (0:Int)).length)).trans (Ag [(oi 0 1,oi 7 4)])) ?_));rintro n_ ⟨u2,u0⟩ c_ h hn6;refine Ab (Ae (kQ h (fun _ h=>skW (Ab (Ad (Aa 14 (rsT 4 (riH .int h fun x11 _ h=>rsT 1 ?_)))))) fun _ h=>lxT (have h:=jO h hn6;jE [])));obtain ⟨x12,e12,h⟩:=Ah h;refine zO (oi 0 1) .int u0.length (Ai e12) (zS (oi 0 1) (x11) e12 (Ap (bn_ (tn_ (wr_ (Aa 17 (rsT 1 (raH h fun h=>rsT 1 (Ap (tn_ ?_))))))))));obtain rfl:=zj h;exact jLw hn6 ((wL 3 (((rfl:u0.length=u0.length).trans List.length_set.symm):u0.length=(u0.set u2 x11).length)).trans (Ag []))
def Io (a0 a1:List Int) (u0:Nat):Option (Ctl Nat (Ctl Unit Bool)) :=
 cond (decide ((u0:Int)<(a0.length:Int)))
 ((a0[u0]?).bind fun x14 =>
 (a1[u0]?).bind fun x15 =>
 cond (x14 !=x15)
  (some (Ctl.out (Ctl.out false)))
  (og (u0+1<4611686018427387904) <|
  some (Ctl.next (u0+1))))
 (some (Ctl.out (Ctl.next ())))
def Cx (a0 a1:List Int):Option Bool :=
 cond ((a0.length:Int) !=(a1.length:Int))
 (some false)
 (Di (Aq (fun s_:Nat=>Io a0 a1 s_) 4611686018427387904 0) fun _ =>
 some true)
def An (r:Bool):RV:=⟨false,[(false,[.sc (.bool r)])]⟩
theorem Ev (h:Cx aA aB=some cA):cK 12 [tI aA,tI aB] (An cA):=by
 exact cO Tryz.func12 (Ae (Ab (Ae (kQ h (fun _ h=>Ae (Ac (tr_ (jS h)))) fun _ h=>skW (sqC h (fun _=>sT [] []) (fun _ h hk6=>Ae (Ad (lpF h (fun u0=>sT [(0,tI aA),(1,tI aB),(5,an u0)] []) (Ag []) (fun n_ u0 c_ h hn8=>Ab (Ae (kQ h (fun _ h=>skW (Ab (Ad (Ab (Ao 15 (ds0 (tI aA) kr (ds0 (an u0) kr (diH .int h fun x14 _ h=>dsT 3 (diH .int h fun x15 _ h=>ds0 (ai x15) kr (ds0 (.bool (x14 !=x15)) kr (Co (As kr) (tn_ (wr_ (kQ h (fun _ h=>Ae (Ac (br_ (tr_ (tr_ (br_ (tr_ (have h:=jO h hn8;(have h:=jO h hk6;jS h))))))))) fun _ h=>Az (bn_ (tn_ (wr_ (Aa 18 (rsT 1 (raH h fun h=>rsT 1 (Ap (tn_ (jL []))))))))))))))))))))))) fun _ h=>lxT (have h:=jO h hn8;jC []))))))) fun _ h=>Ae (Ac (jS h)))))))
def B7 (a0 a1 a2:Int):Option Bool :=
 (cond (decide (a1<=a0))
  (some (decide (a0<=a2)))
  (some false)).bind fun u0 =>
some u0
theorem Cl (h:B7 bA bB bC=some cA):cK 72 [ai bA,ai bB,ai bC] (An cA):=by
 exact cO Tryz.func72 (Ae (sqF h (fun u0=>sT [(6,.bool u0)] []) (fun _ h=>Aa 11 (rsT 4 (kR h 10 (fun _ h=>rsT 5 (Ap (tn_ (jE [])))) fun _ h=>rsT 5 (Ap (tn_ (jE [])))))) fun u0 h=>Ac (jS h)))
def Il (a0:Int) (u0:Nat):Option (Ctl Nat (Ctl Unit Bool)) :=
 cond (decide (wI ((u0:Int)*(u0:Int))<=a0))
 (og ((u0:Int)≠0) <|
 cond ((Int.tmod a0 (u0:Int))==0)
  (some (Ctl.out (Ctl.out false)))
  (og (u0+1<4611686018427387904) <|
  some (Ctl.next (u0+1))))
 (some (Ctl.out (Ctl.next ())))
def Hd (a0:Int):Option Bool :=
 (B7 a0 2 97).bind fun y4 =>
cond (!y4)
 (some false)
 (Di (Aq (fun s_:Nat=>Il a0 s_) 4611686018427387904 2) fun _ =>
 some true)
theorem Oc (h:Hd bA=some cA):cK 70 [ai bA] (An cA):=by
 refine cO Tryz.func70 (Ae (Ab (Ab (Aa 5 (rsT 1 (rcH h Cl fun y4 h=>rsT 1 (rnW (kQ h (fun _ h=>Ae (Ac (tr_ (jS h)))) fun _ h=>skW (sqC h (fun _=>sT [] []) ?_ fun _ h=>Ae (Ac (jS h)))))))))));intro _ h hk7;refine Ae (Ad (lpF h (fun u0=>sT [(0,ai bA),(3,an u0)] []) (Ag []) ?_));intro n_ u0 c_ h hn9;refine Ab (Ae (kQ h (fun _ h=>skW (Ab (Ad (Ab (Aa 11 (rsT 2 ?_)))))) fun _ h=>lxT (have h:=jO h hn9;jC [])));obtain ⟨g15,h⟩:=Ak h;exact rs0 (ai (Int.tmod bA (u0:Int))) (Pb (k:=.i64) (a:=bA) (b:=(u0:Int)) kr kr g15) (rsT 1 (rnW (kQ h (fun _ h=>Ae (Ac (br_ (tr_ (tr_ (br_ (tr_ (have h:=jO h hn9;(have h:=jO h hk7;jS h))))))))) fun _ h=>Az (bn_ (tn_ (wr_ (Aa 14 (rsT 1 (raH h fun h=>rsT 1 (Ap (tn_ (jL []))))))))))))
def Nc (a0:List Int) (a1 a2:Int) (u0:Nat):Option (Ctl Nat (Ctl Unit Bool)) :=
 cond (decide ((u0:Int)<(a0.length:Int)))
 ((a0[u0]?).bind fun x10 =>
 (B7 x10 a1 a2).bind fun y12 =>
 cond (!y12)
  (some (Ctl.out (Ctl.out false)))
  (og (u0+1<4611686018427387904) <|
  some (Ctl.next (u0+1))))
 (some (Ctl.out (Ctl.next ())))
def Fa (a0:List Int) (a1 a2:Int):Option Bool :=
 Di (Aq (fun s_:Nat=>Nc a0 a1 a2 s_) 4611686018427387904 0) fun _ =>
some true
theorem Jm (h:Fa aA bA bB=some cA):cK 157 [tI aA,ai bA,ai bB] (An cA):=by
 exact cO Tryz.func157 (Ae (sqC h (fun _=>sT [] []) (fun _ h hk2=>Ae (Ad (lpF h (fun u0=>sT [(1,ai bA),(2,ai bB),(9,tI aA),(10,an aA.length),(11,an u0)] []) (Ag []) (fun n_ u0 c_ h hn4=>Ae (Ab (kQ h (fun _ h=>skW (Ab (Ad (Ab (Aa 6 (riH .int h fun x10 _ h=>rsT 2 (rnW (Ab (Aa 11 (rsT 3 (rcH h Cl fun y12 h=>rsT 1 (rnW (kQ h (fun _ h=>Ae (Ac (br_ (tr_ (tr_ (br_ (tr_ (have h:=jO h hn4;(have h:=jO h hk2;jS h))))))))) fun _ h=>Az (bn_ (tn_ (wr_ (Aa 13 (raH h fun h=>rsT 1 (Ap (tn_ (jL []))))))))))))))))))))) fun _ h=>lxT (have h:=jO h hn4;jC []))))))) fun _ h=>Ae (Ac (jS h))))
def Fi (a0:List Int):Option (List Int) :=
 og (0+a0.length<=1073741824/\(0+a0.length)*8<=140737488355328) <|
some a0
theorem Jy (h:Fi aA=some aB):cK 29 [tI aA] (Bs aB):=by
 refine cO Tryz.func29 (Ae (Ab (Aa 6 (rsB 2 ?_))));obtain ⟨g3,h⟩:=Ak h;exact rs2 (oI 3 4 aA.length) (oi 3 2) (oi 3 4) (.arr 3 .int aA) (P5 (t:=.int) (t':=.int) (xs:=[]) (ys:=aA) (zs:=aA) (j:=oi 3 2) (len:=0) (c:=tI aA) kr kr rfl kr J2 rfl g3) (rsT 1 (rnW (Ac (jR h [oI 3 4 aA.length] (Db rfl (Cv kr rfl) E6)))))
def O7 (a0:Int) (a1:List Int):Option Bool :=
 (Fa a1 0 (wI (a0 - 1))).bind fun y3 =>
some y3
theorem Ag7 (h:O7 bA aA=some cA):cK 138 [ai bA,tI aA] (An cA):=by
 exact cO Tryz.func138 (Ae (Ab (Aa 7 (rsT 3 (rcH h Jm fun y3 h=>rsT 1 (rnW (Ac (jS h))))))))
def Do (a0 a1 a2:Int):Option Int :=
 og (a0≠0) <|
some (Int.tmod (wI (a1+a2)) a0)
theorem Adv (h:Do bA bB bC=some bD):cK 170 [ai bA,ai bB,ai bC] (A3 bD):=by
 refine cO Tryz.func170 (Ae (Ab (Aa 8 (rsT 4 ?_))));obtain ⟨g3,h⟩:=Ak h;exact rs0 (ai (Int.tmod (wI (bB+bC)) bA)) (Pb (k:=.i64) (a:=wI (bB+bC)) (b:=bA) kr kr g3) (rsT 1 (rnW (Ac (jS h))))
def Ll (a0 a1 a2:Int):Option Int :=
 og (a0≠0) <|
some (Int.tmod (wI (a1*a2)) a0)
theorem Tz (h:Ll bA bB bC=some bD):cK 140 [ai bA,ai bB,ai bC] (A3 bD):=by
 refine cO Tryz.func140 (Ae (Ab (Aa 8 (rsT 4 ?_))));obtain ⟨g3,h⟩:=Ak h;exact rs0 (ai (Int.tmod (wI (bB*bC)) bA)) (Pb (k:=.i64) (a:=wI (bB*bC)) (b:=bA) kr kr g3) (rsT 1 (rnW (Ac (jS h))))
def B0 (a0 a1 a2:Int):Option Bool :=
 (cond (decide (a1<=a0))
  (some (decide (a0<=a2)))
  (some false)).bind fun u0 =>
some u0
theorem C1 (h:B0 bA bB bC=some cA):cK 76 [ai bA,ai bB,ai bC] (An cA):=by
 exact cO Tryz.func76 (Ae (sqF h (fun u0=>sT [(6,.bool u0)] []) (fun _ h=>Aa 11 (rsT 4 (kR h 10 (fun _ h=>rsT 5 (Ap (tn_ (jE [])))) fun _ h=>rsT 5 (Ap (tn_ (jE [])))))) fun u0 h=>Ac (jS h)))
def Ij (a0 a1:Int):Option Bool :=
 (cond (decide (0<=a1))
  (some (decide (a1<a0)))
  (some false)).bind fun u0 =>
some u0
theorem Vx (h:Ij bA bB=some cA):cK 158 [ai bA,ai bB] (An cA):=by
 exact cO Tryz.func158 (Ae (sqF h (fun u0=>sT [(4,.bool u0)] []) (fun _ h=>Aa 10 (rsT 3 (kR h 7 (fun _ h=>rsT 5 (Ap (tn_ (jE [])))) fun _ h=>rsT 5 (Ap (tn_ (jE [])))))) fun u0 h=>Ac (jS h)))
def Ki (a1:List Int) (a0:Int) (u0:Nat):Option (Ctl Nat (Ctl Unit Bool)) :=
 cond (decide ((u0:Int)<(a1.length:Int)))
 ((a1[u0]?).bind fun x14 =>
 (Ij a0 x14).bind fun y16 =>
 cond (!y16)
  (some (Ctl.out (Ctl.out false)))
  (og (u0+1<4611686018427387904) <|
  some (Ctl.next (u0+1))))
 (some (Ctl.out (Ctl.next ())))
def J4 (a0:Int) (a1:List Int) (a2:Int):Option Bool :=
 cond ((a1.length:Int) !=a2)
 (some false)
 (Di (Aq (fun s_:Nat=>Ki a1 a0 s_) 4611686018427387904 0) fun _ =>
 some true)
theorem Ws (h:J4 bA aA bB=some cA):cK 142 [ai bA,tI aA,ai bB] (An cA):=by
 exact cO Tryz.func142 (Ae (Ab (Ae (kQ h (fun _ h=>Ae (Ac (tr_ (jS h)))) fun _ h=>skW (sqC h (fun _=>sT [] []) (fun _ h hk6=>Ae (Ad (lpF h (fun u0=>sT [(0,ai bA),(13,tI aA),(14,an aA.length),(15,an u0)] []) (Ag []) (fun n_ u0 c_ h hn8=>Ae (Ab (kQ h (fun _ h=>skW (Ab (Ad (Ab (Aa 6 (riH .int h fun x14 _ h=>rsT 2 (rnW (Ab (Aa 10 (rsT 2 (rcH h Vx fun y16 h=>rsT 1 (rnW (kQ h (fun _ h=>Ae (Ac (br_ (tr_ (tr_ (br_ (tr_ (have h:=jO h hn8;(have h:=jO h hk6;jS h))))))))) fun _ h=>Az (bn_ (tn_ (wr_ (Aa 12 (raH h fun h=>rsT 1 (Ap (tn_ (jL []))))))))))))))))))))) fun _ h=>lxT (have h:=jO h hn8;jC []))))))) fun _ h=>Ae (Ac (jS h)))))))
def Qp (a0 a1:Int):Option Int :=
 og (a0≠0) <|
(cond (decide (Int.tmod a1 a0<0))
  (some (wI (Int.tmod a1 a0+a0)))
  (some (Int.tmod a1 a0))).bind fun u0 =>
some u0
theorem Aio (h:Qp bA bB=some bC):cK 146 [ai bA,ai bB] (A3 bC):=by
 refine cO Tryz.func146 (Ae (Ab (Aa 6 (rsT 2 ?_))));obtain ⟨g3,h⟩:=Ak h;exact rs0 (ai (Int.tmod bB bA)) (Pb (k:=.i64) (a:=bB) (b:=bA) kr kr g3) (rsT 1 (rnW (sqF h (fun u0=>sT [(1,ai u0)] []) (fun _ h=>Ae (kQ h (fun _ h=>Aa 12 (rsT 4 (Ap (tn_ (jE []))))) fun _ h=>Az (tn_ (jE [])))) fun u0 h=>Ae (Ac (jS h)))))
def Iz (a0:List Int):Option (List Int) :=
 og (0+a0.length<=1073741824/\(0+a0.length)*8<=140737488355328) <|
some a0
theorem Py (h:Iz aA=some aB):cK 51 [tI aA] (Bs aB):=by
 refine cO Tryz.func51 (Ae (Ab (Aa 6 (rsB 2 ?_))));obtain ⟨g3,h⟩:=Ak h;exact rs2 (oI 3 4 aA.length) (oi 3 2) (oi 3 4) (.arr 3 .int aA) (P5 (t:=.int) (t':=.int) (xs:=[]) (ys:=aA) (zs:=aA) (j:=oi 3 2) (len:=0) (c:=tI aA) kr kr rfl kr J2 rfl g3) (rsT 1 (rnW (Ac (jR h [oI 3 4 aA.length] (Db rfl (Cv kr rfl) E6)))))
end Go.Proofs.YtopjojkjaklalaaGreatDoor


