/- Lemmas on the program and on partial functions that stand in place of its code (part 4); no condition beyond those that each one states. -/
import Derived.Test.YtjlcpiemabfpiaaGreatDoorZ3
import Derived.KernelRfl
import Derived.IntWalk
import Derived.Lib.AppendIntMem
import Derived.Lib.ItoaNum
import Derived.WalkSpells
import Derived.WalkLawsBesides
import Derived.Shelf.Strconv.Itoa3
import Derived.Shelf.Strings.OnBuilder
import Derived.Shelf.Strings.Split
import Derived.Shelf.Strconv.AtoiAll
import Derived.Shelf.LaysC
import Derived.Shelf.Strings.Cut
import Derived.Shelf.Small.Wraps
namespace Go.Proofs.YtjlcpiemabfpiaaGreatDoor
section
open Go.RowKit Go.Deep
def Ex (ol:List (Oid×Ob)):Bool:=ol.all fun q=>q.1.1.2==0&&(match q.2 with | .mat _ p _ _=>p.1.2==0|_=>true)
theorem V1 {ol:List (Oid×Ob)} (h:Ex ol=true):(ol.all fun q=>match q.2 with | .pool ..=>q.1.1.2==0 | .mat _ p _ _=>p.1.2==0|_=>true)=true:=by
 unfold Ex at h;rw [List.all_eq_true] at h ⊢;rintro ⟨i,o⟩ hq;have:=h _ hq;simp only [Bool.and_eq_true] at this;cases o <;> first|exact this.1|exact this.2|rfl
def Adt (θ:Oid->Oid) (ol:List (Oid×Ob)):Bool:=ndB ((A9 ol).map θ)&&(ndB ((Bf ol).map θ)&&(((Bf ol).all fun i=>(θ i).1.2==0)&&(A9 ol).all fun i=>(θ i).1.2==0|| !((Bf ol).map θ).contains (Ia (θ i))))
theorem Qh {ol:List (Oid×Ob)} {q:Oid×Ob} (hq:q∈ol) (hp:q.2.isPool=false):q.1∈A9 ol:=List.mem_map.2 ⟨_,List.mem_filter.2 ⟨hq,by simp [hp]⟩,rfl⟩
theorem Ih {ol:List (Oid×Ob)} {q:Oid×Ob} (hq:q∈ol) (hp:q.2.isPool=true):q.1∈Bf ol:=List.mem_map.2 ⟨_,List.mem_filter.2 ⟨hq,by simp [hp]⟩,rfl⟩
theorem Add {θ:Oid->Oid} {ol:List (Oid×Ob)} (hk:∀ p e u xss,(p,Ob.pool e u xss)∈ol->∀ k,θ (kid p k)=kid (θ p) k) (h:Adt θ ol=true) (h0:Ex ol=true):∀ q∈exL ol,∀ q'∈exL ol,θ q.1=θ q'.1->q.1=q'.1:=by
 simp only [Adt,Bool.and_eq_true] at h;obtain ⟨c3,c4,c7,c8⟩:=h;rw [List.all_eq_true] at c7 c8;have ndN:=Cy c3;have ndP:=Cy c4;unfold Ex at h0;rw [List.all_eq_true] at h0
 have hb:∀ q∈ol,q.1.1.2=0:=fun q hq=>by
  have:=h0 q hq;simp only [Bool.and_eq_true,beq_iff_eq] at this;exact this.1
 intro q hq q' hq' e;rcases E0 hq with ⟨p,e1,u,xss,k,row,m1,m2,rfl⟩|⟨o,m1,m2,m3⟩ <;> rcases E0 hq' with ⟨p',e1',u',xss',k',row',m1',m2',rfl⟩|⟨o',m1',m2',m3'⟩
 ·simp only [hk _ _ _ _ m1,hk _ _ _ _ m1'] at e;have z1:=c7 _ (Ih m1 rfl);have z2:=c7 _ (Ih m1' rfl);rw [beq_iff_eq] at z1 z2;have e1:θ p=θ p':=by rw [← Cg z1 k,e,Cg z2]
  have e2:=Fu ndP (Ih m1 rfl) (Ih m1' rfl) e1;have e2:p=p':=e2;subst e2;rw [N8 e]
 ·exfalso;simp only [hk _ _ _ _ m1] at e;have hz:=c7 _ (Ih m1 rfl);rw [beq_iff_eq] at hz;have:=c8 _ (Qh (q:=(q'.1,o')) m1' m2');simp only [← e,Bool.or_eq_true,beq_iff_eq,Bool.not_eq_true',Cg hz] at this;rcases this with h|h
  ·simp [kid] at h
  ·rw [List.contains_iff_mem.2 (List.mem_map.2 ⟨_,Ih m1 rfl,rfl⟩)] at h;cases h
 ·exfalso;simp only [hk _ _ _ _ m1'] at e;have hz:=c7 _ (Ih m1' rfl);rw [beq_iff_eq] at hz;have:=c8 _ (Qh (q:=(q.1,o)) m1 m2);simp only [e,Bool.or_eq_true,beq_iff_eq,Bool.not_eq_true',Cg hz] at this;rcases this with h|h
  ·simp [kid] at h
  ·rw [List.contains_iff_mem.2 (List.mem_map.2 ⟨_,Ih m1' rfl,rfl⟩)] at h;cases h
 ·exact Fu ndN (Qh (q:=(q.1,o)) m1 m2) (Qh (q:=(q'.1,o')) m1' m2') e
def Jw (ν:Oid->Oid) (us:List (Oid×Ob)):List (Oid×Ob):=us.map fun q=>(ν q.1,q.2.ren ν)
theorem Yq {ν:Oid->Oid}:∀ {us:List (Oid×Ob)},(∀ p e u xss,(p,Ob.pool e u xss)∈us->∀ k,ν (kid p k)=kid (ν p) k)->(∀ j e p u xss,(j,Ob.mat e p u xss)∈us->∀ k,ν (kid p k)=kid (ν p) k)->exL (Jw ν us)=(exL us).map fun q=>(ν q.1,q.2.ren ν)
 | [],_,_=>rfl
 | (p,o) :: r,h1,h2=>by
  have ih:=Yq (us:=r) (fun p e u xss h=>h1 p e u xss (List.mem_cons_of_mem _ h)) (fun j e p u xss h=>h2 j e p u xss (List.mem_cons_of_mem _ h));cases o with
  | pool e u xss =>
   show (xss.zipIdx.map fun x=>(kid (ν p) x.2,Ob.arr e u x.1))++exL (Jw ν r)=((xss.zipIdx.map fun x=>(kid p x.2,Ob.arr e u x.1))++exL r).map fun q=>(ν q.1,q.2.ren ν)
   rw [List.map_append,ih,List.map_map];congr 1;apply List.map_congr_left;intro x _;simp only [Function.comp,h1 p e u xss (by simp)];rfl
  | mat e q u xss =>
   have:=Ym ν (.mat e q u xss) (fun e' p' u' xss' he k=>by
    obtain ⟨rfl,rfl,rfl,he⟩:=Ob.mat.inj he;obtain rfl:=eq_of_heq he;exact h2 p e q u xss (by simp) k)
   simp only [Ob.ren,Ob.exp] at this;show (ν p,Ob.vec e 1 xss.length (hdL (ν q) u xss)) :: exL (Jw ν r)=((p,Ob.vec e 1 xss.length (hdL q u xss)) :: exL r).map fun q=>(ν q.1,q.2.ren ν)
   rw [List.map_cons,ih,this];rfl
  | tv e m t xs =>
   show (ν p,Ob.vec e t.size xs.length (tvC m t xs)) :: exL (Jw ν r)=((p,Ob.vec e t.size xs.length (tvC m t xs)) :: exL r).map fun q=>(ν q.1,q.2.ren ν)
   rw [List.map_cons,ih];simp only [Ob.ren,S5]
  | _=>exact congrArg (List.cons _) ih
theorem Iw {rest:List (Oid×Option Ob)}:∀ {us:List (Oid×Ob)},(A9 us).Nodup->(Bf us).Nodup->(∀ p∈Bf us,p.1.2=0)->(∀ i∈A9 us,∀ p∈Bf us,∀ k,i≠kid p k)->∀ q∈exL us,Ag (Br us++rest) q.1=some q.2
 | [],_,_,_,_,q,hq=>by cases hq
 | (p,o) :: r,nN,nP,h0,h1,q,hq=>by
  cases o with
  | pool e u xss =>
   have nP':(p :: Bf r).Nodup:=nP;have nN':(A9 r).Nodup:=nN;have h0':∀ i∈p :: Bf r,i.1.2=0:=h0;have h1':∀ i∈A9 r,∀ j∈p :: Bf r,∀ k,i≠kid j k:=h1;obtain ⟨n1,n2⟩:=List.nodup_cons.1 nP';simp only [exL,List.mem_append] at hq;show Ag ((p,some (.pool e u xss)) :: (Br r++rest)) q.1=some q.2;rcases hq with hq|hq
   ·obtain ⟨⟨row,k⟩,hx,rfl⟩:=List.mem_map.1 hq;rw [List.mem_zipIdx_iff_getElem?] at hx;rw [Kj];have hx:xss[k]? =some row:=hx;rw [hx];rfl
   ·rw [I0]
    ·exact Iw nN' n2 (fun i hi=>h0' i (List.mem_cons_of_mem _ hi)) (fun i hi j hj=>h1' i hi j (List.mem_cons_of_mem _ hj)) q hq
    ·intro k e';rcases E0 hq with ⟨p',e1,u',xss',k',row,m1,m2,rfl⟩|⟨o,m1,m2,m3⟩
     ·have e':kid p' k'=kid p k:=e';have hb:p'=p:=by rw [← Cg (h0' p' (List.mem_cons_of_mem _ (Ih m1 rfl))) k',e',Cg (h0' p List.mem_cons_self)]
      subst hb;exact n1 (Ih m1 rfl)
     ·exact h1' _ (Qh (q:=(q.1,o)) m1 m2) p List.mem_cons_self k e'
  | _ =>
   have nN':(p :: A9 r).Nodup:=nN;have nP':(Bf r).Nodup:=nP;have h1':∀ i∈p :: A9 r,∀ j∈Bf r,∀ k,i≠kid j k:=h1;obtain ⟨n1,n2⟩:=List.nodup_cons.1 nN';simp only [exL] at hq;rcases List.mem_cons.1 hq with rfl|hq
   ·simp [Br,Ag]
   ·have hne:q.1≠p:=by
     intro e';rcases E0 hq with ⟨p',e1,u',xss',k',row,m1,m2,rfl⟩|⟨o,m1,m2,m3⟩
     ·exact h1' p List.mem_cons_self p' (Ih m1 rfl) k' e'.symm
     ·exact n1 (by rw [← e'];exact Qh (q:=(q.1,o)) m1 m2)
    have:=Iw (rest:=rest) n2 nP' h0 (fun i hi=>h1' i (List.mem_cons_of_mem _ hi)) q hq;simp only [Br,List.map_cons,List.cons_append,Ag];rw [if_neg hne];exact this
theorem Rp {rest:List (Oid×Option Ob)}:∀ {us:List (Oid×Ob)} {k:Oid},(∀ q∈exL us,q.1≠k)->Ag (Br us++rest) k=Ag rest k∨(Ag (Br us++rest) k=none/\∃ p e u xss,(p,Ob.pool e u xss)∈us/\k.2=p.2)
 | [],_,_=>.inl rfl
 | (p,o) :: r,k,h=>by
  have ih:(∀ q∈exL r,q.1≠k)->Ag (Br r++rest) k=Ag rest k∨(Ag (Br r++rest) k=none/\∃ p' e u xss,(p',Ob.pool e u xss)∈(p,o) :: r/\k.2=p'.2):=fun h=>by
   rcases Rp (us:=r) (rest:=rest) h with h|⟨h,p',e,u,xss,hm,hk⟩
   ·exact .inl h
   ·exact .inr ⟨h,p',e,u,xss,List.mem_cons_of_mem _ hm,hk⟩
  cases o with
  | pool e u xss =>
   show Ag ((p,some (.pool e u xss)) :: (Br r++rest)) k=_∨_;rcases Ade k p with ⟨j,rfl⟩|h2
   ·refine .inr ⟨?_,p,e,u,xss,List.mem_cons_self,rfl⟩;show Ag ((p,some (.pool e u xss)) :: (Br r++rest)) (kid p j)=none;rw [Kj];cases hj:xss[j]? with
    | none=>rfl
    | some row =>
     refine absurd rfl (h (kid p j,.arr e u row) ?_);simp only [exL,List.mem_append];exact .inl (List.mem_map.2 ⟨(row,j),by rw [List.mem_zipIdx_iff_getElem?];exact hj,rfl⟩)
   ·have h3:=ih (fun q hq=>h q (by simp only [exL,List.mem_append];exact .inr hq));have:Ag (Br ((p,Ob.pool e u xss) :: r)++rest) k=Ag (Br r++rest) k:=I0 h2;rw [this,I0 h2];exact h3
  | _ =>
   have h3:=ih (fun q hq=>h q (by simp only [exL];exact List.mem_cons_of_mem _ hq));have hne:k≠p:=fun e=>h (p,_) (by simp only [exL];exact List.mem_cons_self) e.symm
   simp only [Br,List.map_cons,List.cons_append,Ag] at h3 ⊢;rw [if_neg hne];exact h3
def G8 (θ:Oid->Oid) (ol:List (Oid×Ob)):List (Oid×Option Ob):=ol.map fun q=>(θ q.1,match q.2 with | .pool e u _=>some (.pool e u [])|_=>none)
theorem Yd {θ:Oid->Oid} {ol0:List (Oid×Option Ob)}:∀ {ol:List (Oid×Ob)},(∀ p e u xss,(p,Ob.pool e u xss)∈ol->(∀ k,θ (kid p k)=kid (θ p) k)/\Hv ol0 (θ p)=some (.pool e u xss))->∀ k,(k∈(nmL ol).map θ->Ag (G8 θ ol++ol0) k=none)/\(k∉(nmL ol).map θ->Ag (G8 θ ol++ol0) k=Ag ol0 k)
 | [],_,k=>⟨fun h=>by simp [nmL,exL] at h,fun _=>rfl⟩
 | (p,o) :: r,h,k=>by
  obtain ⟨i1,i2⟩:=Yd (ol:=r) (fun p e u xss hm=>h p e u xss (List.mem_cons_of_mem _ hm)) k;cases o with
  | pool e u xss =>
   obtain ⟨g1,g2⟩:=h p e u xss List.mem_cons_self
   have hnm:∀ x,x∈(nmL ((p,Ob.pool e u xss) :: r)).map θ↔(∃ j row,xss[j]? =some row/\x=kid (θ p) j)∨x∈(nmL r).map θ:=by
    intro x;simp only [nmL,exL,List.map_append,List.mem_append,List.map_map];constructor
    ·rintro (hx|hx)
     ·obtain ⟨⟨row,j⟩,hz,rfl⟩:=List.mem_map.1 hx;rw [List.mem_zipIdx_iff_getElem?] at hz;exact .inl ⟨j,row,hz,g1 j⟩
     ·exact .inr hx
    ·rintro (⟨j,row,hj,rfl⟩|hx)
     ·exact .inl (List.mem_map.2 ⟨(row,j),by rw [List.mem_zipIdx_iff_getElem?];exact hj,g1 j⟩)
     ·exact .inr hx
   have e1:Ag (G8 θ ((p,Ob.pool e u xss) :: r)++ol0) k=if k.1.1=(θ p).1.1/\k.2=(θ p).2/\k.1.2≠0 then none else Ag (G8 θ r++ol0) k:=Z1 k
   rw [e1,hnm];rcases Ade k (θ p) with ⟨j,rfl⟩|h2
   ·rw [if_pos ⟨rfl,rfl,by simp [kid]⟩];refine ⟨fun _=>rfl,fun hn=>?_⟩;rw [R7 g2];cases hj:xss[j]? with
    | none=>rfl
    | some row=>exact absurd (.inl ⟨j,row,hj,rfl⟩) hn
   ·rw [if_neg (Yl h2)];exact ⟨fun hx=>i1 (hx.resolve_left fun ⟨j,row,_,e⟩=>h2 j e),fun hn=>i2 fun hx=>hn (.inr hx)⟩
  | _ =>
   have e1:∀ o:Ob,o.isPool=false->Ag ((θ p,none) :: (G8 θ r++ol0)) k=if k=θ p then none else Ag (G8 θ r++ol0) k:=fun _ _=>Sb k
   simp only [G8,List.map_cons,List.cons_append] at i1 i2 ⊢;rw [Sb];simp only [nmL,exL,List.map_cons,List.mem_cons] at i1 i2 ⊢;by_cases hk:k=θ p
   ·rw [if_pos hk];exact ⟨fun _=>rfl,fun hn=>absurd (.inl hk) hn⟩
   ·rw [if_neg hk];exact ⟨fun hx=>i1 (hx.resolve_left hk),fun hn=>i2 fun hx=>hn (.inr hx)⟩
theorem Ac3 {θ:Oid->Oid} {i p:Oid} (h:p.2=0->∀ k,θ (kid p k)=kid (θ p) k) (k:Nat):Bk θ i (kid p k)=kid (Bk θ i p) k:=by
 unfold Bk;have e:(kid p k).2=p.2:=rfl;rw [e];by_cases h0:p.2=0
 ·rw [if_pos h0,if_pos h0,h h0]
 ·rw [if_neg h0,if_neg h0];rfl
theorem Od:∀ {l:List (Oid×Ob)} {a:Oid×Ob},a∈l->a.2.isPool=false->(a.1,a.2.exp)∈exL l
 | x :: r,a,h,hp=>by
  obtain ⟨x1,x2⟩:=x;rcases List.mem_cons.1 h with rfl|h
  ·cases x2 <;> first|(simp only [exL,Ob.exp];exact List.mem_cons_self)|cases hp
  ·have:=Od h hp;cases x2 <;> simp only [exL] <;> first|exact List.mem_cons_of_mem _ this|exact List.mem_append_right _ this
theorem Ku (ν:Oid->Oid):∀ l:List (Oid×Ob),A9 (Jw ν l)=(A9 l).map ν
 | []=>rfl
 | (x1,x2) :: r=>by
  have ih:=Ku ν r;cases x2 <;> simp_all [A9,Jw,Ob.ren,Ob.isPool]
theorem G9 (ν:Oid->Oid):∀ l:List (Oid×Ob),Bf (Jw ν l)=(Bf l).map ν
 | []=>rfl
 | (x1,x2) :: r=>by
  have ih:=G9 ν r;cases x2 <;> simp_all [Bf,Jw,Ob.ren,Ob.isPool]
theorem Abr {l:List (Oid×Ob)} {i:Oid} (hi:i∈A9 l):∃ o,(i,o)∈l/\o.isPool=false:=by
 obtain ⟨q,hq,rfl⟩:=List.mem_map.1 hi;obtain ⟨h1,h2⟩:=List.mem_filter.1 hq;exact ⟨q.2,h1,by simpa using h2⟩
theorem Afb {l:List (Oid×Ob)} {i:Oid} (hi:i∈Bf l):∃ e u xss,(i,Ob.pool e u xss)∈l:=by
 obtain ⟨⟨j,o⟩,hq,e0⟩:=List.mem_map.1 hi;obtain rfl:j=i:=e0;obtain ⟨h1,h2⟩:=List.mem_filter.1 hq;cases o <;> first|exact ⟨_,_,_,h1⟩|cases h2
theorem Ad8 {θ:Oid->Oid} {i:Oid} {ol us:List (Oid×Ob)} {ob:Oid->Option Ob} (hnd:(nmL us).Nodup) (hinj:∀ j∈nmL us,∀ k∈nmL us,Bk θ i j=Bk θ i k->j=k) :
  (∀ j q,(j,q)∈exL us->Ae (Fr θ i ol us) ob (Bk θ i j)=some (q.ren (Bk θ i)))/\∀ k,(∀ j∈nmL us,Bk θ i j≠k)->Ae (Fr θ i ol us) ob k=if k∈(nmL ol).map θ then none else ob k:=by
 have hnm:∀ {l:List (Oid×Ob)} {q},q∈exL l->q.1∈nmL l:=fun hq=>List.mem_map.2 ⟨_,hq,rfl⟩
 refine ⟨fun j q hq=>?_,fun k hk=>?_⟩
 ·have hkeys:(((exL us).map fun q=>(Bk θ i q.1,some (q.2.ren (Bk θ i)))).map (·.1)).Nodup:=by
   rw [List.map_map]
   have:((exL us).map ((·.1)∘fun q:Oid×Ob=>(Bk θ i q.1,some (q.2.ren (Bk θ i)))))=(nmL us).map (Bk θ i):=by
    unfold nmL;rw [List.map_map];rfl
   rw [this];exact Pv hnd hinj
  have:=Ha (fun u:Oid×Option Ob=>u.2) (fun u=>u.1) ((exL us).map fun q=>(Bk θ i q.1,some (q.2.ren (Bk θ i)))) (Ae ((exL ol).map fun q=>(θ q.1,none)) ob) (Bk θ i j,some (q.ren (Bk θ i))) hkeys (List.mem_map.2 ⟨(j,q),hq,rfl⟩);unfold Ae Fr;rw [List.foldl_append];exact this
 ·have e1:Ae (Fr θ i ol us) ob k=Ae ((exL ol).map fun q=>(θ q.1,none)) ob k:=by
   have:=Cd (us:=(exL us).map fun q=>(Bk θ i q.1,some (q.2.ren (Bk θ i)))) (ob:=Ae ((exL ol).map fun q=>(θ q.1,none)) ob) (j:=k) fun u hu=>by
    obtain ⟨q,hq,rfl⟩:=List.mem_map.1 hu;exact hk q.1 (hnm hq)
   rw [← this];unfold Ae Fr;rw [List.foldl_append]
  rw [e1];split
  ·rename_i hk';obtain ⟨j,hj,rfl⟩:=List.mem_map.1 hk';obtain ⟨q,hq,rfl⟩:=List.mem_map.1 hj;exact (Hq ((exL ol).map fun q=>(θ q.1,none)) ob (fun u hu=>by obtain ⟨_,_,rfl⟩:=List.mem_map.1 hu;rfl)).2 (θ q.1,none) (List.mem_map.2 ⟨q,hq,rfl⟩)
  ·rename_i hk';exact Cd fun u hu e=>hk' (by obtain ⟨q,hq,rfl⟩:=List.mem_map.1 hu;exact List.mem_map.2 ⟨q.1,hnm hq,e⟩)
theorem Abi {us:List (Oid×Ob)} (nN:(A9 us).Nodup) (nP:(Bf us).Nodup) (h0:∀ q∈us,q.1.1.2=0):(nmL us).Nodup:=by
 induction us with
 | nil=>exact List.nodup_nil
 | cons x r ih =>
  obtain ⟨p,o⟩:=x;have h0':∀ q∈r,q.1.1.2=0:=fun q hq=>h0 q (List.mem_cons_of_mem _ hq)
  have hp0:p.1.2=0:=h0 (p,o) List.mem_cons_self;cases o with
  | pool e u xss =>
   have nP':(p :: Bf r).Nodup:=nP;obtain ⟨n1,n2⟩:=List.nodup_cons.1 nP';have ihr:=ih nN n2 h0';unfold nmL at ihr ⊢;simp only [exL,List.map_append,List.map_map];refine List.nodup_append.2 ⟨?_,ihr,fun a ha b hb e'=>?_⟩
   ·have:(xss.zipIdx.map ((fun x=>x.1)∘fun x:List u.D×Nat=>(kid p x.2,Ob.arr e u x.1)))=(xss.zipIdx.map (·.2)).map (kid p):=by
     rw [List.map_map];rfl
    rw [this,List.zipIdx_map_snd];exact List.pairwise_map.2 ((List.pairwise_lt_range' (s:=0) (n:=xss.length)).imp fun h e=>by have:=N8 e;omega)
   ·subst e';obtain ⟨x,_,rfl⟩:=List.mem_map.1 ha;obtain ⟨q,hq,e'⟩:=List.mem_map.1 hb;have e':q.1=kid p x.2:=e';rcases E0 hq with ⟨p',e1,u',xss',k',row,m1,m2,rfl⟩|⟨o,m1,m2,m3⟩
    ·have e':kid p' k'=kid p x.2:=e';have hp1:p'.1.2=0:=h0' _ m1;have hb:p'=p:=by rw [← Cg hp1 k',e',Cg hp0]
     subst hb;exact n1 (Ih m1 rfl)
    ·have:=h0' _ m1;simp only [e'] at this;simp [kid] at this
  | _ =>
   have nN':(p :: A9 r).Nodup:=nN;obtain ⟨n1,n2⟩:=List.nodup_cons.1 nN';have ihr:=ih n2 nP h0';unfold nmL at ihr ⊢;simp only [exL,List.map_cons];refine List.nodup_cons.2 ⟨fun hm=>?_,ihr⟩;obtain ⟨q,hq,e'⟩:=List.mem_map.1 hm;rcases E0 hq with ⟨p',e1,u',xss',k',row,m1,m2,rfl⟩|⟨o,m1,m2,m3⟩
   ·rw [← e'] at hp0;simp [kid] at hp0
   ·exact n1 (by rw [← e'];exact Qh (q:=(q.1,o)) m1 m2)
def Aao (ol us:List (Oid×Ob)):Bool:=(ndB (A9 us)&&ndB (Bf us))&&((us.all fun q=>q.1.2==1||(q.1.2==0&&((A9 ol).contains q.1&& !q.2.isPool)))&&Ex us)
theorem X7 {ol us:List (Oid×Ob)} (h:Aao ol us=true):∀ q∈exL us,q.1.2=1∨(q.1.2=0/\q.1∈nmL ol):=by
 simp only [Aao,Bool.and_eq_true] at h;obtain ⟨_,hug,_⟩:=h;rw [List.all_eq_true] at hug;intro q hq;rcases E0 hq with ⟨p,e,u,xss,k,row,m1,m2,rfl⟩|⟨o,m1,m2,m3⟩
 ·have:=hug _ m1;simp only [Ob.isPool,Bool.not_true,Bool.and_false,Bool.or_false,beq_iff_eq] at this;exact .inl this
 ·have:=hug _ m1;simp only [Bool.or_eq_true,Bool.and_eq_true,beq_iff_eq] at this;rcases this with h|⟨h,h',_⟩
  ·exact .inl h
  ·refine .inr ⟨h,?_⟩;obtain ⟨o',ho,hp⟩:=Abr (List.contains_iff_mem.1 h');exact List.mem_map.2 ⟨_,Od ho hp,rfl⟩
theorem Acz {l:List (Oid×Oid)} {i:Oid} {ol us:List (Oid×Ob)} {ol0:List (Oid×Option Ob)} (hl:Px l=true) (h0:Ex ol=true) (hR:N6 ol0 (Be l) ol) (hB:Aao ol us=true) (hfr:Xv i.2 ol0=true) (hij:Adt (Be l) ol=true) :
  Ae (Fr (Be l) i ol us) (Ag ol0)=Ag (Br (Jw (Bk (Be l) i) us)++(G8 (Be l) ol++ol0)):=by
 have hpool:∀ {l':List (Oid×Ob)},Ex l'=true->(∀ q∈l',q.1.1.2=0)/\∀ j e p u xss,(j,Ob.mat e p u xss)∈l'->p.1.2=0:=fun h=>by
  unfold Ex at h;rw [List.all_eq_true] at h;refine ⟨fun q hq=>?_,fun j e p u xss hq=>?_⟩
  ·have:=h q hq;simp only [Bool.and_eq_true,beq_iff_eq] at this;exact this.1
  ·have:=h _ hq;simp only [Bool.and_eq_true,beq_iff_eq] at this;exact this.2
 have husn:=X7 hB;simp only [Aao,Bool.and_eq_true] at hB;obtain ⟨hnd,hug,hu0⟩:=hB;obtain ⟨b1,b2⟩:=hpool h0;obtain ⟨d1,d2⟩:=hpool hu0;have nN:=Cy hnd.1;have nP:=Cy hnd.2;rw [List.all_eq_true] at hug
 let θ:=Be l
 let ν:=Bk θ i
 have hθk:∀ p e u xss,(p,Ob.pool e u xss)∈ol->∀ k,θ (kid p k)=kid (θ p) k:=fun p e u xss hm k=>Gf hl (b1 _ hm) k
 have hνk:∀ p,p.1.2=0->∀ k,ν (kid p k)=kid (ν p) k:=fun p hp k=>Ac3 (fun _ k=>Gf hl hp k) k
 have hget:=T4 hl hR (V1 h0)
 have hold:∀ j∈nmL ol,∃ o,Ag ol0 (θ j)=some o:=fun j hj=>by
  obtain ⟨q,hq,rfl⟩:=List.mem_map.1 hj;exact ⟨_,hget q hq⟩
 have hgenθ:∀ j∈nmL ol,(θ j).2≠i.2:=fun j hj e=>by
  obtain ⟨o,ho⟩:=hold j hj;rw [Ky hfr _ e] at ho;cases ho
 have hex:=Yq (ν:=ν) (us:=us) (fun p e u xss hm=>hνk p (d1 _ hm)) (fun j e p u xss hm=>hνk p (d2 j e p u xss hm));have hθinj:=Add hθk hij h0
 have hνcase:∀ j∈nmL us,(j.2=0/\j∈nmL ol/\ν j=θ j)∨(j.2=1/\ν j=((i.1.1*16+j.1.1,j.1.2),i.2)):=by
  intro j hj;obtain ⟨q,hq,rfl⟩:=List.mem_map.1 hj;rcases husn q hq with h|⟨h,h'⟩
  ·exact .inr ⟨h,by simp [ν,Bk,h]⟩
  ·exact .inl ⟨h,h',by simp [ν,Bk,h]⟩
 have hνinj:∀ j∈nmL us,∀ k∈nmL us,ν j=ν k->j=k:=by
  intro j hj k hk e;rcases hνcase j hj with ⟨a1,a2,a3⟩|⟨a1,a3⟩ <;> rcases hνcase k hk with ⟨b1,b2,b3⟩|⟨b1,b3⟩
  ·rw [a3,b3] at e;obtain ⟨r,hr,er⟩:=List.mem_map.1 a2;obtain ⟨r',hr',er'⟩:=List.mem_map.1 b2;have:=hθinj r hr r' hr' (by rw [er,er'];exact e);rw [← er,← er',this]
  ·have:=hgenθ _ a2;rw [← a3,e,b3] at this;exact absurd rfl this
  ·have:=hgenθ _ b2;rw [← b3,← e,a3] at this;exact absurd rfl this
  ·rw [a3,b3] at e;obtain ⟨⟨x1,x2⟩,x3⟩:=j;obtain ⟨⟨y1,y2⟩,y3⟩:=k;simp only [Prod.mk.injEq] at *;omega
 have hNm:∀ z∈A9 us,z∈nmL us:=fun z hz=>by
  obtain ⟨o,ho,hp⟩:=Abr hz;exact List.mem_map.2 ⟨_,Od ho hp,rfl⟩
 have hpg:∀ p∈Bf us,p.2=1/\ν p=((i.1.1*16+p.1.1,p.1.2),i.2):=by
  intro p hp;obtain ⟨e,u,xss,hm⟩:=Afb hp;have:=hug _ hm;simp only [Ob.isPool,Bool.not_true,Bool.and_false,Bool.or_false,beq_iff_eq] at this;exact ⟨this,by simp [ν,Bk,this]⟩
 have hP0:∀ p∈Bf us,p.1.2=0:=fun p hp=>by
  obtain ⟨e,u,xss,hm⟩:=Afb hp;exact d1 _ hm
 have hndN:(A9 (Jw ν us)).Nodup:=by
  rw [Ku];exact Pv nN fun x hx y hy e=>hνinj x (hNm x hx) y (hNm y hy) e
 have hndP:(Bf (Jw ν us)).Nodup:=by
  rw [G9];refine Pv nP fun x hx y hy e=>?_
  obtain ⟨g1,e1⟩:=hpg _ hx;obtain ⟨g2,e2⟩:=hpg _ hy;rw [e1,e2] at e;obtain ⟨⟨x1,x2⟩,x3⟩:=x;obtain ⟨⟨y1,y2⟩,y3⟩:=y;simp only [Prod.mk.injEq] at *;omega
 have hfound:=Iw (rest:=G8 θ ol++ol0) hndN hndP (fun p hp=>by
  rw [G9] at hp;obtain ⟨p0,hp0,rfl⟩:=List.mem_map.1 hp;rw [(hpg p0 hp0).2];exact hP0 p0 hp0) (fun z hz p hp k e=>by
  rw [Ku] at hz;rw [G9] at hp;obtain ⟨z0,hz0,rfl⟩:=List.mem_map.1 hz;obtain ⟨p0,hp0,rfl⟩:=List.mem_map.1 hp;rw [(hpg p0 hp0).2] at e;rcases hνcase z0 (hNm z0 hz0) with ⟨a1,a2,a3⟩|⟨a1,a3⟩
  ·have:=hgenθ _ a2;rw [← a3,e] at this;exact this rfl
  ·rw [a3] at e
   have:z0.1.2=0:=by
    obtain ⟨o,ho,_⟩:=Abr hz0;exact d1 _ ho
   have h9:=congrArg (fun i:Oid=>i.1.2) e;simp only [kid] at h9;omega)
 have hkill:=Yd (θ:=θ) (ol0:=ol0) (ol:=ol) (fun p e u xss hm=>⟨hθk p e u xss hm,by
  have:=Li hR _ hm
  simpa only [Zq,Ob.isPool,if_true,Ob.ren] using this⟩)
 obtain ⟨u1,u2⟩:=Ad8 (ob:=Ag ol0) (ol:=ol) (Abi nN nP d1) hνinj;funext k;by_cases hex':∃ j∈nmL us,ν j=k
 ·obtain ⟨j,hj,rfl⟩:=hex';obtain ⟨q,hq,rfl⟩:=List.mem_map.1 hj;rw [u1 q.1 q.2 hq];exact (hfound (ν q.1,q.2.ren ν) (by rw [hex];exact List.mem_map.2 ⟨q,hq,rfl⟩)).symm
 ·have hno:∀ j∈nmL us,ν j≠k:=fun j hj e=>hex' ⟨j,hj,e⟩
  rw [u2 k hno]
  have hno':∀ q∈exL (Jw ν us),q.1≠k:=fun q hq e=>by
   rw [hex] at hq;obtain ⟨q0,hq0,rfl⟩:=List.mem_map.1 hq;exact hno q0.1 (List.mem_map.2 ⟨q0,hq0,rfl⟩) e
  have hrest:Ag (G8 θ ol++ol0) k=if k∈(nmL ol).map θ then none else Ag ol0 k:=by
   split
   ·rename_i h;exact (hkill k).1 h
   ·rename_i h;exact (hkill k).2 h
  rcases Rp (rest:=G8 θ ol++ol0) hno' with h|⟨h,p,e,u,xss,hm,hk⟩
  ·rw [← hrest];exact h.symm
  ·have hp:p∈Bf (Jw ν us):=Ih hm rfl;rw [G9] at hp;obtain ⟨p0,hp0,rfl⟩:=List.mem_map.1 hp;have hk2:k.2=i.2:=by rw [hk,(hpg p0 hp0).2]
   have h1:Ag (Br (Jw (Bk (Be l) i) us)++(G8 (Be l) ol++ol0)) k=none:=h;rw [h1];split
   ·rfl
   ·exact Ky hfr k hk2
end
section
open Go.RowKit Go.Deep
section
variable {P:Program} {G:World->Prop}
theorem Ab {x y:AC} {R:AE->St->Prop} {S:St} (h:awp P G x (Ed (fun S'=>∃ S'',WeakG G S' S''/\awp P G y R S'') R) S):awp P G (.seq x y) R S:=h
theorem Rw {x y:AC} {R:AE->St->Prop} {S:St} (K:St->Prop) (h:awp P G x (Ed (fun S'=>∃ S'',WeakG G S' S''/\K S'') R) S) (k:∀ S'',K S''->awp P G y R S''):awp P G (.seq x y) R S:=by
 unfold awp
 exact B4 (fun e S hq=>by
  cases e with
  | normal=>obtain ⟨S'',hw,hk⟩:=hq;exact ⟨S'',hw,k S'' hk⟩
  | exit id=>exact hq
  | ret=>exact hq) h
def Afr (rs:List Rec) (ds:List (List Oid)):List (Nat×Nat)->Bool
 | []=>true
 | p :: ps=>(let ri:=rs.getD p.2 (0,.any,[]);let rj:=rs.getD p.1 (0,.any,[]);let di:=ds.getD p.2 [];let dj:=ds.getD p.1 []
   ((!(ri.1==2)||rj.1==0)&&(!(rj.1==2)||ri.1==0))||((!(ri.1==2)||ri.2.2.all fun u=> !dj.contains u.1)&&((!(rj.1==2)||rj.2.2.all fun u=> !di.contains u.1)&&ri.2.2.all fun u=>rj.2.2.all fun v=> !(u.1==v.1))))&&Afr rs ds ps
theorem Cp {rs:List Rec} {ds:List (List Oid)}:∀ {bad:List (Nat×Nat)},Afr rs ds bad=true->Wx rs ds bad
 | [],_=>trivial
 | p :: ps,h=>by
  simp only [Afr,Bool.and_eq_true] at h;refine ⟨?_,Cp h.2⟩;have h1:=h.1;simp only [Bool.or_eq_true,Bool.and_eq_true,Bool.not_eq_true',beq_eq_false_iff_ne,beq_iff_eq,List.all_eq_true,List.contains_eq_mem,decide_eq_false_iff_not] at h1;unfold K4;rcases h1 with ⟨a,b⟩|⟨a,b,c⟩
  ·refine .inl ⟨fun e=>?_,fun e=>?_⟩
   ·rcases a with a|a
    ·exact absurd e a
    ·exact a
   ·rcases b with b|b
    ·exact absurd e b
    ·exact b
  ·refine .inr ⟨fun e=>?_,fun e=>?_,c⟩
   ·rcases a with a|a
    ·exact absurd e a
    ·exact a
   ·rcases b with b|b
    ·exact absurd e b
    ·exact b
def XW (P:Program) (G:World->Prop) (g k:Nat) (xs:List X) (tl:List (Nat×AV)) (ol:List (Oid×Option Ob)) (Kf:List (Nat×AV)->List (Oid×Option Ob)->Prop):Prop :=
 ∃ rs tl' ol',Ad6 P G g k xs (Ak tl) (Ag ol) rs (Ak tl') (Ag ol')/\Kf tl' ol'
def XD (P:Program) (G:World->Prop) (bad:List (Nat×Nat)) (g k:Nat) (xs:List X) (tl:List (Nat×AV)) (ol:List (Oid×Option Ob)) (ra:List Rec) (da:List (List Oid)) (Kf:List (Nat×AV)->List (Oid×Option Ob)->Prop):Prop :=
 ∃ rs ds tl' ol',Zb P G g k xs (Ak tl) (Ag ol) rs ds (Ak tl') (Ag ol')/\Wx (ra.reverse++rs) (da.reverse++ds) bad/\Kf tl' ol'
theorem Aa {xs:List X} {bad:List (Nat×Nat)} {R:AE->St->Prop} {tl:List (Nat×AV)} {ol:List (Oid×Option Ob)} {g:Nat} (g':Nat) (h:XW P G g 0 xs tl ol fun tl' ol'=>R .normal ⟨Ak tl',Ag ol',g'⟩) (hn:g+xs.length=g':=by kernel_rfl):awp P G (.region xs false bad) R ⟨Ak tl,Ag ol,g⟩:=by
 obtain ⟨rs,tl',ol',h,hr⟩:=h;exact ⟨rs,_,_,h,by subst hn;exact hr⟩
theorem Zh {tl:List (Nat×AV)} {d:Nat} {v:AV} (h:Ak tl d=v):Ak ((d,v) :: tl)=Ak tl:=by
 funext i;show (if i=d then v else Ak tl i)=Ak tl i;split
 ·rename_i e;rw [e,h]
 ·rfl
theorem rq {xs:List X} {tl:List (Nat×AV)} {ol:List (Oid×Option Ob)} {g k:Nat} {Kf:List (Nat×AV)->List (Oid×Option Ob)->Prop} (d:Nat) {b c:Bool} (q:b=c) (h:XW P G g k xs ((d,.bool c) :: tl) ol Kf) (hd:Ak tl d=.bool b:=by kernel_rfl):XW P G g k xs tl ol Kf:=by
 subst q;unfold XW at *
 rwa [Zh hd] at h
theorem Bq {xs:List X} {bad:List (Nat×Nat)} {R:AE->St->Prop} {tl:List (Nat×AV)} {ol:List (Oid×Option Ob)} {g:Nat} (g':Nat) (h:XD P G bad g 0 xs tl ol [] [] fun tl' ol'=>R .normal ⟨Ak tl',Ag ol',g'⟩) (hn:g+xs.length=g':=by kernel_rfl):awp P G (.region xs true bad) R ⟨Ak tl,Ag ol,g⟩:=by
 obtain ⟨rs,ds,tl',ol',h,hb,hr⟩:=h;exact ⟨rs,ds,_,_,h,hb,by subst hn;exact hr⟩
theorem Lu (tl:List (Nat×AV)) (d:Nat) (v:AV):upd (Ak tl) d v=Ak ((d,v) :: tl):=by
 funext i;rfl
def Iq:Option Ob->Bool
 | some (.pool ..)=>false
 | some (.mat ..)=>false
 | some (.tv ..)=>false
 | _=>true
def Dq (us:List (Oid×Option Ob)):Bool:=us.all fun u=>Iq u.2
theorem Qk {ol:List (Oid×Option Ob)} {j:Oid} {o:Option Ob} (h:Iq o=true):upd (Ag ol) j o=Ag ((j,o) :: ol):=by
 cases o with
 | none=>funext i;rfl
 | some o=>cases o <;> first|(funext i;rfl)|cases h
theorem Ge:∀ (us ol:List (Oid×Option Ob)),Dq us=true->Ae us (Ag ol)=Ag (us.reverseAux ol)
 | [],_,_=>rfl
 | (j,o) :: us,ol,h=>by
  simp only [Dq,List.all_cons,Bool.and_eq_true] at h;show Ae us (upd (Ag ol) j o)=_;rw [Qk h.1];exact Ge us _ h.2
theorem Fj {p:Bool} {n:Nat} {x:X} {f:Nat->AV} {ob:Oid->Option Ob} {r:Rec} (h:Bi n x f ob=some r):Et P G p n x f ob r:=by
 unfold Bi at h;unfold Et;split at h
 ·exact .inl (.inl (.inl h))
 ·split at h
  ·rename_i hc;exact ⟨true,hc,by rw [if_pos rfl];exact .inl (.inl (.inl h))⟩
  ·rename_i hc;exact ⟨false,hc,by rw [if_neg (by simp)];exact (osj h).symm⟩
  ·cases h
def Pp (gd:Option (Nat×Bool)) (f:Nat->AV):Prop :=
 match gd with
 | none=>True
 | some (s,c)=>f s=.bool c
theorem W6 {s:Nat} {b:Bool} {f:Nat->AV} (h:Pp (some (s,b)) f):gdv (f s) b=some true:=by
 rw [show f s=.bool b from h];simp [gdv]
theorem Afg {s:Nat} {b:Bool} {f:Nat->AV} (h:f s=.bool b):Pp (some (s,b)) f:=h
theorem Yr {p:Bool} {n:Nat} {d:Option Nat} {gd:Option (Nat×Bool)} {fo:Opd} {xs:List Opd} {tys:List (List (Option Ty))} {f:Nat->AV} {ob:Oid->Option Ob} {F:FuncId} {caps args0 args:List AV} {rv:RV} {r:AV×List (Oid×Option Ob)}
  (hgd:Pp gd f) {F0:FuncId} (hfo:fo.ev f=.fn F0 caps) (hF:Kz F0=F) (h1:Hy (gnd ob 8) ((Ct F0 xs (caps.map Opd.cst)).map (Opd.ev f))=some args0) (hn:Ig tys args0=args) (hb:Cs P F=true) (hc:Bs P G F args rv) (hni:rv.noI=true) (hr:rv.out (Ev ((d.getD 0,0),n)) ((Ct F0 xs (caps.map Opd.cst)).map (Opd.ev f))=r) :
  Et P G p n ⟨d,gd,.call fo xs tys⟩ f ob (1,r.1,r.2):=by
 subst hn hF;have key:EvR P G p f ob ((d.getD 0,0),n) (.call fo xs tys) (1,r.1,r.2):=.inr ⟨fo,xs,tys,F0,caps,rfl,hfo,.inl ⟨rfl,hb,args0,rv,.inl ⟨h1,hni⟩,hc,hr⟩⟩;unfold Et;cases gd with
 | none=>exact key
 | some sb=>exact ⟨true,W6 hgd,by rw [if_pos rfl];exact key⟩
theorem Adm {n:Nat} {d:Option Nat} {gd:Option (Nat×Bool)} {fo:Opd} {xs:List Opd} {tys:List (List (Option Ty))} {f:Nat->AV} {ob:Oid->Option Ob} {F:FuncId} {caps zs args:List AV} {v:AV} {ol us:List (Oid×Ob)} (θ:Oid->Oid)
  (hgd:Pp gd f) (hfo:fo.ev f=.fn F caps) (hF:F<mtd) (hz:(xs++caps.map Opd.cst).map (Opd.ev f)=zs) (h1:Jy θ (Zc ((nmL ol).map θ) ob) zs args) (h2:∀ q∈exL ol,ob (θ q.1)=some (q.2.ren θ)) (h3:∀ q∈exL ol,∀ q'∈exL ol,θ q.1=θ q'.1->q.1=q'.1) (h4:∀ j∈nmL ol,Reached zs ob (θ j))
  (h5:∀ q∈exL us,q.1.2=1∨(q.1.2=0/\q.1∈nmL ol)) (hb:Cs P F=true) (hc:I3 P G F args ol v us) :
  Et P G false n ⟨d,gd,.call fo xs tys⟩ f ob (2,v.ren (Bk θ ((d.getD 0,0),n)),Fr θ ((d.getD 0,0),n) ol us):=by
 have hN:Aae P G f ob ((d.getD 0,0),n) (Kz F) (Ct F xs (caps.map Opd.cst)) (v.ren (Bk θ ((d.getD 0,0),n)),Fr θ ((d.getD 0,0),n) ol us):=by
  rw [← hz] at h1 h4;unfold Kz Ct;rw [if_pos hF,if_pos hF];refine .inl ⟨hb,θ,args,ol,us,v,h1,h2,fun j k hj hk e=>?_,h4,hc,fun j hj=>?_,rfl⟩
  ·obtain ⟨q,hq,rfl⟩:=List.mem_map.1 hj;obtain ⟨q',hq',rfl⟩:=List.mem_map.1 hk;exact h3 q hq q' hq' e
  ·obtain ⟨q,hq,rfl⟩:=List.mem_map.1 hj;rcases h5 q hq with h|⟨_,h⟩
   ·exact .inl (by rw [h];decide)
   ·exact .inr h
 have key:EvR P G false f ob ((d.getD 0,0),n) (.call fo xs tys) (2,v.ren (Bk θ ((d.getD 0,0),n)),Fr θ ((d.getD 0,0),n) ol us):=.inr ⟨fo,xs,tys,F,caps,rfl,hfo,.inr ⟨rfl,rfl,hN⟩⟩;unfold Et;cases gd with
 | none=>exact key
 | some sb=>exact ⟨true,W6 hgd,by rw [if_pos rfl];exact key⟩
theorem Aev {n:Nat} {d:Option Nat} {gd:Option (Nat×Bool)} {q:Q} {f:Nat->AV} {ob:Oid->Option Ob} {r:Rec} (hgd:Pp gd f) (h:evL f ((d.getD 0,0),n) q=some r):Et P G false n ⟨d,gd,q⟩ f ob r:=by
 have key:EvR P G false f ob ((d.getD 0,0),n) q r:=.inl (.inl (.inr h));unfold Et;cases gd with
 | none=>exact key
 | some sb=>exact ⟨true,W6 hgd,by rw [if_pos rfl];exact key⟩
theorem A0 {g k:Nat} {tl:List (Nat×AV)} {ol:List (Oid×Option Ob)} {Kf:List (Nat×AV)->List (Oid×Option Ob)->Prop} (h:Kf tl ol):XW P G g k [] tl ol Kf:=⟨[],tl,ol,⟨rfl,rfl,rfl⟩,h⟩
theorem N3 {bad:List (Nat×Nat)} {g k:Nat} {tl:List (Nat×AV)} {ol:List (Oid×Option Ob)} {ra:List Rec} {da:List (List Oid)} {Kf:List (Nat×AV)->List (Oid×Option Ob)->Prop} (hb:Wx (ra.reverse++[]) (da.reverse++[]) bad) (h:Kf tl ol):XD P G bad g k [] tl ol ra da Kf:=⟨[],[],tl,ol,⟨rfl,rfl,rfl,rfl⟩,hb,h⟩
section
variable {g k d:Nat} {gd:Option (Nat×Bool)} {q:Q} {xs:List X} {tl:List (Nat×AV)} {ol:List (Oid×Option Ob)} {bad:List (Nat×Nat)} {ra:List Rec} {da:List (List Oid)} {Kf:List (Nat×AV)->List (Oid×Option Ob)->Prop}
theorem Aay (c:Nat) (v:AV) (us ol':List (Oid×Option Ob)) (h:Et P G false (g+k) ⟨some d,gd,q⟩ (Ak tl) (Ag ol) (c,v,us)) (he:Ae us (Ag ol)=Ag ol') (h3:XW P G g (k+1) xs ((d,v) :: tl) ol' Kf):XW P G g k (⟨some d,gd,q⟩ :: xs) tl ol Kf :=
 by
 obtain ⟨rs,tl',ol',h3,hk⟩:=h3;exact ⟨_,tl',ol',⟨_,_,rfl,h,by simp only [Hm,Lu,he];exact h3⟩,hk⟩
theorem Aen (c:Nat) (v:AV) (us ol':List (Oid×Option Ob)) (h:Et P G false (g+k) ⟨none,gd,q⟩ (Ak tl) (Ag ol) (c,v,us)) (he:Ae us (Ag ol)=Ag ol') (h3:XW P G g (k+1) xs tl ol' Kf):XW P G g k (⟨none,gd,q⟩ :: xs) tl ol Kf :=
 by
 obtain ⟨rs,tl',ol',h3,hk⟩:=h3;exact ⟨_,tl',ol',⟨_,_,rfl,h,by simp only [Hm,he];exact h3⟩,hk⟩
theorem Afm (c:Nat) (v:AV) (us ol':List (Oid×Option Ob)) (h:Et P G false (g+k) ⟨some d,gd,q⟩ (Ak tl) (only (rdX (Ak tl) (Ag ol) ⟨some d,gd,q⟩) (Ag ol)) (c,v,us)) (he:Ae us (Ag ol)=Ag ol') (h3:XD P G bad g (k+1) xs ((d,v) :: tl) ol' ((c,v,us) :: ra) ((rdX (Ak tl) (Ag ol) ⟨some d,gd,q⟩) :: da) Kf):XD P G bad g k (⟨some d,gd,q⟩ :: xs) tl ol ra da Kf :=
 by
 obtain ⟨rs,ds,tl',ol',h3,hb,hk⟩:=h3;refine ⟨_,_,tl',ol',⟨_,rs,ds,rfl,rfl,h,by simp only [Hm,Lu,he];exact h3⟩,?_,hk⟩
 simpa using hb
theorem Ru (c:Nat) (v:AV) (us:List (Oid×Option Ob)) (h:Et P G false (g+k) ⟨some d,gd,q⟩ (Ak tl) (Ag ol) (c,v,us)) (h3:XW P G g (k+1) xs ((d,v) :: tl) (us.reverseAux ol) Kf) (hx:Dq us=true):XW P G g k (⟨some d,gd,q⟩ :: xs) tl ol Kf:=Aay c v us _ h (Ge us ol hx) h3
theorem Afu (c:Nat) (v:AV) (us:List (Oid×Option Ob)) (h:Et P G false (g+k) ⟨none,gd,q⟩ (Ak tl) (Ag ol) (c,v,us)) (h3:XW P G g (k+1) xs tl (us.reverseAux ol) Kf) (hx:Dq us=true):XW P G g k (⟨none,gd,q⟩ :: xs) tl ol Kf:=Aen c v us _ h (Ge us ol hx) h3
theorem Uh (c:Nat) (v:AV) (us:List (Oid×Option Ob)) (h:Et P G false (g+k) ⟨some d,gd,q⟩ (Ak tl) (only (rdX (Ak tl) (Ag ol) ⟨some d,gd,q⟩) (Ag ol)) (c,v,us)) (h3:XD P G bad g (k+1) xs ((d,v) :: tl) (us.reverseAux ol) ((c,v,us) :: ra) ((rdX (Ak tl) (Ag ol) ⟨some d,gd,q⟩) :: da) Kf) (hx:Dq us=true):XD P G bad g k (⟨some d,gd,q⟩ :: xs) tl ol ra da Kf:=Afm c v us _ h (Ge us ol hx) h3
-- the shape of most steps: what the machine says is found by reckoning
theorem rs0 (v:AV) (h:Bi (g+k) ⟨some d,gd,q⟩ (Ak tl) (Ag ol)=some (0,v,[])) (h3:XW P G g (k+1) xs ((d,v) :: tl) ol Kf):XW P G g k (⟨some d,gd,q⟩ :: xs) tl ol Kf:=Ru 0 v [] (Fj h) h3 rfl
theorem rsl (v:AV) (h:Bi (g+k) ⟨some d,gd,q⟩ (Ak tl) (Ag ol)=some (1,v,[])) (h3:XW P G g (k+1) xs ((d,v) :: tl) ol Kf):XW P G g k (⟨some d,gd,q⟩ :: xs) tl ol Kf:=Ru 1 v [] (Fj h) h3 rfl
theorem rs1 (v:AV) (i:Oid) (o:Ob) (h:Bi (g+k) ⟨some d,gd,q⟩ (Ak tl) (Ag ol)=some (1,v,[(i,some o)])) (h3:XW P G g (k+1) xs ((d,v) :: tl) ((i,some o) :: ol) Kf) (hx:Iq (some o)=true:=by rfl):XW P G g k (⟨some d,gd,q⟩ :: xs) tl ol Kf:=Ru 1 v _ (Fj h) h3 (by simp only [Dq,List.all_cons,List.all_nil,hx];rfl)
theorem rs2 (v:AV) (j i:Oid) (o:Ob) (h:Bi (g+k) ⟨some d,gd,q⟩ (Ak tl) (Ag ol)=some (2,v,[(j,none),(i,some o)])) (h3:XW P G g (k+1) xs ((d,v) :: tl) ((i,some o) :: (j,none) :: ol) Kf) (hx:Iq (some o)=true:=by rfl):XW P G g k (⟨some d,gd,q⟩ :: xs) tl ol Kf:=Ru 2 v _ (Fj h) h3 (by simp only [Dq,List.all_cons,List.all_nil,hx];rfl)
theorem Agd (j i:Oid) (o:Ob) (h:Bi (g+k) ⟨none,gd,q⟩ (Ak tl) (Ag ol)=some (2,.any,[(j,none),(i,some o)])) (h3:XW P G g (k+1) xs tl ((i,some o) :: (j,none) :: ol) Kf) (hx:Iq (some o)=true:=by rfl):XW P G g k (⟨none,gd,q⟩ :: xs) tl ol Kf:=Afu 2 _ _ (Fj h) h3 (by simp only [Dq,List.all_cons,List.all_nil,hx];rfl)
theorem ds0 (v:AV) (h:Bi (g+k) ⟨some d,gd,q⟩ (Ak tl) (only (rdX (Ak tl) (Ag ol) ⟨some d,gd,q⟩) (Ag ol))=some (0,v,[])) (h3:XD P G bad g (k+1) xs ((d,v) :: tl) ol ((0,v,[]) :: ra) ((rdX (Ak tl) (Ag ol) ⟨some d,gd,q⟩) :: da) Kf):XD P G bad g k (⟨some d,gd,q⟩ :: xs) tl ol ra da Kf:=Uh 0 v [] (Fj h) h3 rfl
theorem dsl (v:AV) (h:Bi (g+k) ⟨some d,gd,q⟩ (Ak tl) (only (rdX (Ak tl) (Ag ol) ⟨some d,gd,q⟩) (Ag ol))=some (1,v,[])) (h3:XD P G bad g (k+1) xs ((d,v) :: tl) ol ((1,v,[]) :: ra) ((rdX (Ak tl) (Ag ol) ⟨some d,gd,q⟩) :: da) Kf):XD P G bad g k (⟨some d,gd,q⟩ :: xs) tl ol ra da Kf:=Uh 1 v [] (Fj h) h3 rfl
theorem ds1 (v:AV) (i:Oid) (o:Ob) (h:Bi (g+k) ⟨some d,gd,q⟩ (Ak tl) (only (rdX (Ak tl) (Ag ol) ⟨some d,gd,q⟩) (Ag ol))=some (1,v,[(i,some o)])) (h3:XD P G bad g (k+1) xs ((d,v) :: tl) ((i,some o) :: ol) ((1,v,[(i,some o)]) :: ra) ((rdX (Ak tl) (Ag ol) ⟨some d,gd,q⟩) :: da) Kf) (hx:Iq (some o)=true:=by rfl):XD P G bad g k (⟨some d,gd,q⟩ :: xs) tl ol ra da Kf:=Uh 1 v _ (Fj h) h3 (by simp only [Dq,List.all_cons,List.all_nil,hx];rfl)
section
variable {fo:Opd} {ys:List Opd} {tys:List (List (Option Ty))} {F:FuncId} {caps:List AV} {rv:RV} {args0:List AV}
theorem Abx (v:AV) (us:List (Oid×Option Ob)) (zs args:List AV) (hgd:Pp gd (Ak tl)) (h1:Hy (gnd (Ag ol) 8) zs=some args0) (hc:Bs P G F args rv) (hb:Cs P F=true) (h3:XW P G g (k+1) xs ((d,v) :: tl) (us.reverseAux ol) Kf) (m:Nat:=0) (hfo:fo.ev (Ak tl)=.fn (F+m) caps:=by kernel_rfl) (hz:(Ct (F+m) ys (caps.map Opd.cst)).map (Opd.ev (Ak tl))=zs:=by kernel_rfl) (hn:Ig tys args0=args:=by kernel_rfl) (hr:rv.out (Ev ((d,0),g+k)) zs=(v,us):=by kernel_rfl) (hF:Kz (F+m)=F:=by kernel_rfl) (hx:Dq us=true:=by rfl) (hni:rv.noI=true:=by kernel_rfl):XW P G g k (⟨some d,gd,.call fo ys tys⟩ :: xs) tl ol Kf:=by
 subst hz;exact Ru 1 v us (Yr (P:=P) (G:=G) (p:=false) (n:=g+k) (d:=some d) hgd hfo hF h1 hn hb hc hni hr) h3 hx
theorem Ae1 (v:AV) (us:List (Oid×Option Ob)) (zs args:List AV) (hgd:Pp gd (Ak tl)) (h1:Hy (gnd (only (rdX (Ak tl) (Ag ol) ⟨some d,gd,.call fo ys tys⟩) (Ag ol)) 8) zs=some args0) (hc:Bs P G F args rv) (hb:Cs P F=true) (h3:XD P G bad g (k+1) xs ((d,v) :: tl) (us.reverseAux ol) ((1,v,us) :: ra) ((rdX (Ak tl) (Ag ol) ⟨some d,gd,.call fo ys tys⟩) :: da) Kf) (m:Nat:=0) (hfo:fo.ev (Ak tl)=.fn (F+m) caps:=by kernel_rfl) (hz:(Ct (F+m) ys (caps.map Opd.cst)).map (Opd.ev (Ak tl))=zs:=by kernel_rfl) (hn:Ig tys args0=args:=by kernel_rfl) (hr:rv.out (Ev ((d,0),g+k)) zs=(v,us):=by kernel_rfl) (hF:Kz (F+m)=F:=by kernel_rfl) (hx:Dq us=true:=by rfl) (hni:rv.noI=true:=by kernel_rfl):XD P G bad g k (⟨some d,gd,.call fo ys tys⟩ :: xs) tl ol ra da Kf:=by
 subst hz;exact Uh 1 v us (Yr (P:=P) (G:=G) (p:=false) (n:=g+k) (d:=some d) hgd hfo hF h1 hn hb hc hni hr) h3 hx
def Yw (l:List (Oid×Oid)) (ol us:List (Oid×Ob)) (n:Nat) (ol0:List (Oid×Option Ob)):Bool:=Px l&&(Ex ol&&(Adt (Be l) ol&&(Aao ol us&&Xv n ol0)))
theorem Ac4 {l:List (Oid×Oid)} {ol us:List (Oid×Ob)} {n:Nat} {ol0:List (Oid×Option Ob)} (h:Yw l ol us n ol0=true) (hR:N6 ol0 (Be l) ol) :
  (∀ q∈exL ol,Ag ol0 (Be l q.1)=some (q.2.ren (Be l)))/\(∀ q∈exL ol,∀ q'∈exL ol,Be l q.1=Be l q'.1->q.1=q'.1)/\(∀ q∈exL us,q.1.2=1∨(q.1.2=0/\q.1∈nmL ol))/\∀ i:Oid,i.2=n->Ae (Fr (Be l) i ol us) (Ag ol0)=Ag (Br (Jw (Bk (Be l) i) us)++(G8 (Be l) ol++ol0)):=by
 simp only [Yw,Bool.and_eq_true] at h;obtain ⟨c1,c2,c3,c4,c5⟩:=h;refine ⟨T4 c1 hR (V1 c2),Add (fun p e u xss hm k=>Gf c1 ?_ k) c3 c2,X7 c4,fun i hi=>Acz c1 c2 hR c4 (by rw [hi];exact c5) c3⟩;unfold Ex at c2;rw [List.all_eq_true] at c2;have:=c2 _ hm;simp only [Bool.and_eq_true,beq_iff_eq] at this;exact this.1
theorem Pf (v:AV) (ul:List (Oid×Option Ob)) (l:List (Oid×Oid)) (zs:List AV) {args:List AV} {ol0 us:List (Oid×Ob)} {v0:AV} (hgd:Pp gd (Ak tl)) (hc:I3 P G F args ol0 v0 us) (hb:Cs P F=true) (hR:N6 ol (Be l) ol0) (h1:Jy (Be l) (Zc ((nmL ol0).map (Be l)) (Ag ol)) zs args) (h4:∀ j∈nmL ol0,Reached zs (Ag ol) (Be l j)) (h3:XW P G g (k+1) xs ((d,v) :: tl) (ul++ol) Kf) (hfo:fo.ev (Ak tl)=.fn F caps:=by kernel_rfl) (hz:(ys++caps.map Opd.cst).map (Opd.ev (Ak tl))=zs:=by kernel_rfl) (hB:Yw l ol0 us (g+k) ol=true:=by kernel_rfl) (hF:F<mtd:=by decide) (hv:v0.ren (Bk (Be l) ((d,0),g+k))=v:=by kernel_rfl) (hu:Br (Jw (Bk (Be l) ((d,0),g+k)) us)++G8 (Be l) ol0=ul:=by kernel_rfl):XW P G g k (⟨some d,gd,.call fo ys tys⟩ :: xs) tl ol Kf:=by
 subst hv hu;obtain ⟨q1,q2,q3,q4⟩:=Ac4 hB hR;exact Aay 2 _ _ _ (Adm (n:=g+k) (d:=some d) (Be l) hgd hfo hF hz h1 q1 q2 h4 q3 hb hc) (q4 ((d,0),g+k) rfl) (by rw [List.append_assoc] at h3;exact h3)
end
end
-- what arguments read as
theorem Abn {g:AV->Option AV}:Hy g []=some []:=rfl
theorem Oh {g:AV->Option AV} {c d:AV} {cs ds:List AV} (h:g c=some d) (hs:Hy g cs=some ds):Hy g (c :: cs)=some (d :: ds):=by simp only [Hy,h,hs]
section
variable {ob:Oid->Option Ob} {n:Nat}
theorem Wk {i:Oid} {t u:Ty} {e:TypeId} {xs:List u.D} {len:Nat} (h:ob i=some (.arr e u xs)) (hl:len=xs.length):gnd ob (n+1) (.own i t 0 len)=some (.tree u xs):=by
 subst hl;simp only [gnd,h,Nat.zero_add,Nat.le_refl,if_true,List.drop_zero,List.take_length]
end
-- steps that hang on something
section
variable {n:Nat} {d:Option Nat} {f:Nat->AV} {ob:Oid->Option Ob}
theorem Ag1 {s:Nat} {b c:Bool} {q:Q} {r:Option Rec} (hs:f s=.bool c) (hc:c=b) (h:Bi n ⟨d,none,q⟩ f ob=r):Bi n ⟨d,some (s,b),q⟩ f ob=r:=by
 subst hc;simp only [Bi,hs,gdv,beq_self_eq_true];exact h
theorem T7 {s:Nat} {b:Bool} {q:Q} (hs:f s=.tup []):Bi n ⟨d,some (s,b),q⟩ f ob=some (0,.tup [],[]):=by
 simp [Bi,hs,gdv]
theorem Aaj {sz:Nat} {x i:Opd} {t:Ty} {xs:List t.D} {y:t.D} {k:IntKind} {m:Int} {j:Nat} (hx:(x.ev f).un=.tree t xs) (hi:i.ev f=.int k m) (hs:sz=t.size) (h0:0<=m) (hj:m.toNat=j) (hy:xs[j]? =some y) {g:Option (Nat->Prop)} (hg:(x.ev f).tag=g:=by kernel_rfl):Bi n ⟨d,none,.i (.idx sz x i)⟩ f ob=some (0,.telt g t y 0,[]):=by
 subst hs hj hg;simp [Bi,ev,evN,hx,hi,h0,hy]
theorem G5 {sz:Nat} {x i:Opd} {t:Ty} {o:Oid} {len:Nat} {k:IntKind} {m:Int} {j:Nat} (hx:x.ev f=.own o t 0 len) (hi:i.ev f=.int k m) (hs:sz=t.size) (h0:0<=m) (hj:m.toNat=j) (hl:j<len):Bi n ⟨d,none,.i (.idx sz x i)⟩ f ob=some (0,.elt o j 0,[]):=by
 subst hs hj;have:m<(len:Int):=by omega
 simp [Bi,ev,evN,hx,hi,h0,AV.un,this]
theorem Gn {one:Bool} {m:Nat} {x:Opd} {i:Oid} {j k:Nat} {e:TypeId} {t:Ty} {xs:List t.D} {y:t.D} {c:AV} (hx:x.ev f=.elt i j k) (hob:ob i=some (.arr e t xs)) (hy:xs[j]? =some y) (hc:Cz one m k (t.av y)=some c):Bi n ⟨d,none,.i (.ld one m x)⟩ f ob=some (1,c,[]):=by
 simp [Bi,ev,evN,evR,hx,hob,hy,hc]
theorem Ae3 {one:Bool} {m:Nat} {x y:Opd} {i:Oid} {j k:Nat} {e:TypeId} {t:Ty} {xs:List t.D} {x0 x1:t.D} {cs:List AV} (hx:x.ev f=.elt i j k) (hob:ob i=some (.arr e t xs)) (hy:xs[j]? =some x0) (hc:Iz one m k (t.av x0) (y.ev f)=some cs) (hd:t.ofAV cs=some x1):Bi n ⟨d,none,.st one m x y⟩ f ob=some (2,.any,[(i,none),(i,some (.arr e t (xs.set j x1)))]):=by
 simp [Bi,ev,U7,hx,hob,hy,hc,hd]
theorem W9 {e:TypeId} {t:Ty} {by_:Nat} {l c:Opd} {k k':IntKind} {m m':Int} {j:Nat} (hl:l.ev f=.int k m) (hc:c.ev f=.int k' m') (h:0<=m/\m<=m'/\m'<=1073741824/\(by_:Int)*m'<=140737488355328) (hj:m.toNat=j):Bi n ⟨d,none,.make e t by_ l c⟩ f ob=some (1,.own ((d.getD 0,0),n) t 0 j,[(((d.getD 0,0),n),some (.arr e t (List.replicate j t.dflt)))]):=by
 subst hj;simp only [Bi,ev,Pk,hl,hc,if_pos h]
theorem Ow {t t':Ty} {i:Oid} {e:TypeId} {xs:List t.D} {len:Nat} (h:ob i=some (.arr e t xs)) (hl:len=xs.length):D4 ob t (.own i t' 0 len)=some xs:=by
 subst hl;simp only [D4,h,Nat.zero_add,Nat.le_refl,if_true,Ty.eq?_self,C5,List.drop_zero,List.take_length]
theorem Qg {e:TypeId} {t t':Ty} {by_:Nat} {x y:Opd} {c:AV} {ys xs zs:List t.D} {j:Oid} {len:Nat} (hx:x.ev f=.own j t' 0 len) (hob:ob j=some (.arr e t xs)) (hl:len=xs.length) (hy:y.ev f=c) (hs:D4 ob t c=some ys) (hz:zs=xs++ys) (h:xs.length+ys.length<=1073741824/\(xs.length+ys.length)*by_<=140737488355328) :
  Bi n ⟨d,none,.append e t by_ x y⟩ f ob=some (2,.own (j.1,n) t 0 zs.length,[(j,none),((j.1,n),some (.arr e t zs))]):=by
 subst hl hz;simp only [Bi,ev,F7,hx,hy,hs,hob,Ty.eq?_self,Nat.le_refl,true_and,h.1,h.2,and_self,if_true,C5,List.take_length,List.length_append]
theorem Afa {x y:Opd} {j:Nat} (hx:x.ev f=.int .i64 j) (hy:y.ev f=.int .i64 1) (h:j+1<4611686018427387904):Bi n ⟨d,none,.i (.bin .add x y)⟩ f ob=some (0,.int .i64 ((j+1:Nat):Int),[]):=by
 have:IntKind.i64.wrap ((j:Int)+1)=((j+1:Nat):Int):=by rw [Go.IntWalk.i64_in _ oM];rfl
 simp [Bi,ev,evN,Nm,hx,hy,this]
theorem Agm {x y:Opd} {k:IntKind} {a b:Int} (hx:x.ev f=.int k a) (hy:y.ev f=.int k b) (h:b≠0):Bi n ⟨d,none,.i (.bin .quo x y)⟩ f ob=some (0,.int k (k.wrap (a.tdiv b)),[]):=by
 simp [Bi,ev,evN,Nm,hx,hy,h]
theorem Agk {x y:Opd} {k:IntKind} {a b:Int} (hx:x.ev f=.int k a) (hy:y.ev f=.int k b) (h:b≠0):Bi n ⟨d,none,.i (.bin .rem x y)⟩ f ob=some (0,.int k (a.tmod b),[]):=by
 simp [Bi,ev,evN,Nm,hx,hy,h]
theorem Cr {x y:Opd} {a b:ByteArray} (hx:x.ev f=.str a) (hy:y.ev f=.str b) (h:(a.size+b.size:Nat)<=9223372036854775807):Bi n ⟨d,none,.i (.bin .add x y)⟩ f ob=some (0,.str (a++b),[]):=by
 simp [Bi,ev,evN,Nm,hx,hy,h]
theorem Pj {x i:Opd} {s:ByteArray} {k:IntKind} {m:Int} {j:Nat} {b:UInt8} (hx:x.ev f=.str s) (hi:i.ev f=.int k m) (h0:0<=m) (hj:m.toNat=j) (hy:s[j]? =some b):Bi n ⟨d,none,.i (.char x i)⟩ f ob=some (0,.int .u8 b.toNat,[]):=by
 subst hj;simp [Bi,ev,evN,hx,hi,h0,hy]
theorem Z9 {x:Opd} {lo hi:Option Opd} {s:ByteArray} {l h:Int} (hx:x.ev f=.str s) (hl:Dn f 0 lo=some l) (hh:Dn f s.size hi=some h) (hb:0<=l/\l<=h/\h<=s.size):Bi n ⟨d,none,.sub x lo hi⟩ f ob=some (0,.str (s.extract l.toNat h.toNat),[]):=by
 simp [Bi,ev,Yx,hx,hl,hh,hb]
end
theorem V9 {c:Opd} {x y:AC} {R:AE->St->Prop} {S:St} {t:Bool} (ht:t=true) (h1:awp P G x R S) (h:c.ev S.tm=.bool t:=by kernel_rfl):awp P G (.cond c x y) R S:=by
 subst ht;exact .inl ⟨true,h,fun _=>h1,fun h=>nomatch h⟩
theorem Wd {c:Opd} {x y:AC} {R:AE->St->Prop} {S:St} {t:Bool} (ht:t=false) (h2:awp P G y R S) (h:c.ev S.tm=.bool t:=by kernel_rfl):awp P G (.cond c x y) R S:=by
 subst ht;exact .inl ⟨false,h,fun h=>(nomatch h),fun _=>h2⟩
theorem Ai {i:Nat} {a:AC} {R:AE->St->Prop} {S:St} (h:awp P G a (Fn i R) S):awp P G (.block i a) R S:=h
theorem Zr {a:AC} {R:AE->St->Prop} {S:St} {α:Type} (I:α->St->Prop) (μ:α->Nat) (h0:∃ s S0,WeakG G S S0/\I s S0) (h1:∀ s S1,I s S1->awp P G a (Ed (fun S2=>∃ s' S3,WeakG G S2 S3/\I s' S3/\μ s'<μ s) R) S1):awp P G (.loop a) R S:=⟨α,I,μ,h0,h1⟩
theorem H6 {i:Nat} {R:AE->St->Prop} {S:St} (h:R (.exit i) S):awp P G (.exit i) R S:=h
theorem Ba {R:AE->St->Prop} {S:St} (h:R .normal S):awp P G .skip R S:=h
theorem Af {R:AE->St->Prop} {S:St} (h:R .ret S):awp P G .ret R S:=h
end
section
variable {K:St->Prop} {R:AE->St->Prop} {S:St} {i j:Nat}
theorem tn_ (h:K S):Ed K R .normal S:=h
theorem te_ (h:R (.exit i) S):Ed K R (.exit i) S:=h
theorem tr_ (h:R .ret S):Ed K R .ret S:=h
theorem bn_ (h:R .normal S):Fn i R .normal S:=h
theorem be_ (h:R .normal S):Fn i R (.exit i) S:=by simpa [Fn] using h
theorem br_ (h:R .ret S):Fn i R .ret S:=h
end
def tmL:Nat->List AV->List (Nat×AV)
 | _,[]=>[]
 | k,v :: r=>(k,v) :: tmL (k+1) r
theorem V0:∀ (l:List AV) (k i:Nat),Ak (tmL k l) (k+i)=l.getD i .any
 | [],k,i=>by simp [tmL,Ak]
 | v :: r,k,i=>by
  cases i with
  | zero=>simp [tmL,Ak]
  | succ i =>
   have:=V0 r (k+1) i;simp only [tmL,Ak];rw [if_neg oM,show k+(i+1)=k+1+i by omega,this];simp
theorem X6 (args:List AV):(fun i=>args.getD i .any)=Ak (tmL 0 args):=by
 funext i;have:=V0 args 0 i;rw [Nat.zero_add] at this;exact this.symm
theorem St.init_eq (args:List AV):St.init args=⟨Ak (tmL 0 args),Ag [],1⟩:=by
 unfold St.init;rw [X6];rfl
theorem Sf {G:World->Prop} {tl:List (Nat×AV)} {ol:List (Oid×Option Ob)} {g:Nat} (s:Nat) (e:TypeId) (t:Ty) (ht:t.flat=true) (hs:Ak tl s=.nils):WeakG G ⟨Ak tl,Ag ol,g⟩ ⟨Ak ((s,.own ((s,0),g) t 0 0) :: tl),Ag ((((s,0),g),some (.arr e t [])) :: ol),g+1⟩:=by
 have:=Ace (G:=G) (S:=⟨Ak tl,Ag ol,g⟩) s e t ht hs;rw [Lu] at this;have e2:upd (Ag ol) ((s,0),g) (some (.arr e t []))=Ag ((((s,0),g),some (.arr e t [])) :: ol):=Qk rfl;rw [e2] at this;exact this
theorem Abu {G:World->Prop} {tl:List (Nat×AV)} {ol:List (Oid×Option Ob)} {g:Nat} (s:Nat) (v v':AV) (h:Ak tl s=v) (e:v=v'):WeakG G ⟨Ak tl,Ag ol,g⟩ ⟨Ak ((s,v') :: tl),Ag ol,g⟩:=by
 subst e
 have:Ak ((s,v) :: tl)=Ak tl:=by
  funext i;simp only [Ak];split
  ·rename_i e;rw [e];exact h.symm
  ·rfl
 rw [this];exact WeakG.refl _
theorem Aar {G:World->Prop} {tl:List (Nat×AV)} {ol:List (Oid×Option Ob)} {g:Nat} (j:Oid) (o o':Ob) (h:Ag ol j=some o) (e:o=o') (hx:Iq (some o)=true:=by rfl):WeakG G ⟨Ak tl,Ag ol,g⟩ ⟨Ak tl,Ag ((j,some o') :: ol),g⟩:=by
 subst e
 have:Ag ((j,some o) :: ol)=Ag ol:=by
  rw [← Qk hx,Aco _ _ _ h]
 rw [this];exact WeakG.refl _
def Ti (ol:List (Oid×Ob)):List (Oid×Ob)->Prop
 | []=>True
 | q :: r=>(match q.2 with
  | .mat _ p u xss=>∃ e,(p,Ob.pool e u xss)∈ol
  | _=>True)/\Ti ol r
theorem K5 {ol:List (Oid×Ob)}:∀ {l:List (Oid×Ob)},Ti ol l->∀ i e p u xss,(i,Ob.mat e p u xss)∈l->∃ e,(p,Ob.pool e u xss)∈ol
 | _ :: _,h,i,e,p,u,xss,hm=>by
  rcases List.mem_cons.1 hm with rfl|hm
  ·exact h.1
  ·exact K5 h.2 i e p u xss hm
theorem Y6 {ol:List (Oid×Ob)} {p:Oid} {e:TypeId} {u:Ty} {xss:List (List u.D)}:(p,Ob.pool e u xss)∈ol->∀ k,k<xss.length->kid p k∈nmL ol:=by
 induction ol with
 | nil=>intro h;cases h
 | cons x r ih =>
  obtain ⟨x1,x2⟩:=x;intro h k hk;rcases List.mem_cons.1 h with h|h
  ·cases h;simp only [nmL,exL,List.map_append,List.mem_append];refine .inl (List.mem_map.2 ⟨(kid p k,.arr e u xss[k]),List.mem_map.2 ⟨(xss[k],k),?_,rfl⟩,rfl⟩);rw [List.mem_zipIdx_iff_getElem?];exact gEg hk
  ·have:=ih h k hk;cases x2 <;> simp only [nmL,exL,List.map_cons,List.map_append] at this⊢ <;> first|exact List.mem_cons_of_mem _ this|exact List.mem_append_right _ this
theorem Hj {ol:List (Oid×Ob)} {i:Oid} (h:i∈A9 ol):i∈nmL ol:=by
 obtain ⟨o,ho,hp⟩:=Abr h;exact List.mem_map.2 ⟨_,Od ho hp,rfl⟩
theorem Afy {D:Oid->Prop} {p:Oid} {u:Ty} (xss:List (List u.D)) (h:∀ k,k<xss.length->D (kid p k)):AV.hpL D (hdL p u xss):=by
 have key:∀ l:List (List u.D×Nat),(∀ x∈l,D (kid p x.2))->AV.hpL D (l.map fun x=>.own (kid p x.2) u 0 x.1.length):=by
  intro l
  induction l with
  | nil=>intro _;trivial
  | cons x l ih=>intro h;exact ⟨h x (by simp),ih fun y hy=>h y (by simp [hy])⟩
 refine key _ fun x hx=>h _ ?_
 obtain ⟨row,k⟩:=x;rw [List.mem_zipIdx_iff_getElem?] at hx;exact (gSi.1 hx).1
theorem Ae9 {D:List Oid} (o:Ob) (h:o.clo1 D=true) (hp:o.isPool=false) (hm:∀ e p u xss,o≠.mat e p u xss):o.exp.cloP (·∈D):=by
 cases o with
 | cells _ cs=>exact AV.cloPL_of cs h
 | vec _ _ _ cs=>exact AV.cloPL_of cs h
 | mat e p u xss=>exact absurd rfl (hm _ _ _ _)
 | arr _ _ _=>trivial
 | map _ _ _=>trivial
 | pool _ _ _=>cases hp
 | tv e m t xs=>exact V8 xs
theorem Aeu {D:List Oid} (o:Ob) (h:o.hp1 D=true) (hp:o.isPool=false) (hm:∀ e p u xss,o≠.mat e p u xss):o.exp.hp (·∈D):=by
 cases o with
 | cells _ cs=>exact AV.hpB_PL cs h
 | vec _ _ _ cs=>exact AV.hpB_PL cs h
 | mat e p u xss=>exact absurd rfl (hm _ _ _ _)
 | arr _ _ _=>trivial
 | map _ _ _=>trivial
 | pool _ _ _=>cases hp
 | tv e m t xs=>cases h
theorem cloP_mono {D E:Oid->Prop} (hd:∀ i,D i->E i) (o:Ob) (h:o.cloP D):o.cloP E:=by
 cases o <;> first|exact AV.cloPL_mono hd _ h|exact h
theorem hp_mono {D E:Oid->Prop} (hd:∀ i,D i->E i) (o:Ob) (h:o.hp D):o.hp E:=by
 cases o <;> first|exact AV.hpL_mono hd _ h|exact h
section
variable {P:Program} {G:World->Prop} (hfol:P.follows .mixedOrders=true) {g:FuncId} {fn:Func} (hf:P.funcs[g]? =some fn) {ac:AC} {rs:List Res} (hc:Cj P fn=some (ac,rs)) {args:List AV} {r:RV} {n:Nat} (hN:fn.ntmps=n) (hn:args.length<=n)
include hfol hf hc hN hn
theorem Uq [IsP P] {tl:List (Nat×AV)} (htl:tmL 0 args=tl) (h:awp P G ac (fun e S=>∃ S',WeakG G S S'/\(e=.normal∨e=.ret)/\RetOK [] rs S' r) ⟨Ak tl,Ag [],1⟩):Bs P G g args r:=by
 refine Ad4 hfol hf hc hN hn ?_;rw [St.init_eq,htl];exact h
omit hN hn in
end
theorem Agb {G:World->Prop} {rs:List Res} {f:Nat->AV} {ob:Oid->Option Ob} {g:Nat} {r:RV} (avs:List AV) {vs:List Value} {e:AE} (h2:PartsR vs ob avs r.ps) (he:e=.normal∨e=.ret:=by simp) (h1:Res.evL f ob rs=some avs:=by kernel_rfl) (h3:ndB (N0 ob (Ja avs))=true:=by kernel_rfl) (h4:r.tup=decide (rs.length≠1):=by kernel_rfl):∃ S',WeakG G ⟨f,ob,g⟩ S'/\(e=.normal∨e=.ret)/\RetOK vs rs S' r :=
 ⟨_,WeakG.refl _,he,avs,r.ps,h1,h2,Cy h3,by cases r;cases h4;rfl⟩
theorem Aew {G:World->Prop} {rs:List Res} {S:St} {tl:List (Nat×AV)} {g:Nat} {v:AV} {us:List (Oid×Ob)} {e:AE} (rvs:List AV) (hw:WeakG G S ⟨Ak tl,Ag (Br us),g⟩) (he:e=.normal∨e=.ret:=by simp) (h1:Res.evL (Ak tl) (Ag (Br us)) rs=some rvs:=by kernel_rfl) (hv:v=Sv rvs:=by kernel_rfl) (h2:(Ex us&&(ndB (A9 us)&&ndB (Bf us)))=true:=by kernel_rfl) :
  ∃ S',WeakG G S S'/\(e=.normal∨e=.ret)/\(∃ rvs,Res.evL S'.tm S'.ob rs=some rvs/\v=Sv rvs)/\∀ q∈exL us,S'.ob q.1=some q.2:=by
 refine ⟨_,hw,he,⟨rvs,h1,hv⟩,fun q hq=>?_⟩;simp only [Bool.and_eq_true] at h2;obtain ⟨a1,a2,a3⟩:=h2
 have h0:∀ q∈us,q.1.1.2=0:=fun q hq=>by
  unfold Ex at a1;rw [List.all_eq_true] at a1;have:=a1 q hq;simp only [Bool.and_eq_true,beq_iff_eq] at this;exact this.1
 have:=Iw (rest:=[]) (Cy a2) (Cy a3) (fun p hp=>by obtain ⟨e,u,xss,hm⟩:=Afb hp;exact h0 _ hm) (fun i hi p hp k e=>by
  obtain ⟨o,ho,_⟩:=Abr hi;have:=h0 _ ho;rw [e] at this;simp [kid] at this) q hq
 rwa [List.append_nil] at this
section
variable {vs:List Value} {ob:Oid->Option Ob}
theorem Agj {cs r:List AV} {ls:List RL} {ps:List (Bool×List RL)} (h1:LeavesR vs ob cs ls) (h2:PartsR vs ob r ps):PartsR vs ob (.agg cs :: r) ((true,ls) :: ps):=⟨ls,ps,rfl,h1,h2⟩
theorem Rh {c:AV} {r:List AV} {l:RL} {ps:List (Bool×List RL)} (hc:c.one=true) (h1:LeafR vs ob c l) (h2:PartsR vs ob r ps):PartsR vs ob (c :: r) ((false,[l]) :: ps):=by
 rw [Iu (by rintro ⟨_,rfl⟩;cases hc)];exact ⟨l,ps,rfl,h1,h2⟩
theorem Y3:PartsR vs ob [] []:=rfl
theorem Af2 {c:AV} {l:RL} (h:Jd ob c=some l):LeafR vs ob c l:=.inl (.inl h)
theorem Ue {i:Oid} {t u:Ty} {e:TypeId} {xs:List u.D} {len:Nat} (h:ob i=some (.arr e u xs)) (hl:len=xs.length):LeafR vs ob (.own i t 0 len) (.new e u xs):=by
 subst hl;exact .inl (.inl (by simp only [Jd,h,Nat.le_refl,and_self,if_true,List.take_length]))
end
end
section
open Go.RowKit Go.Deep
abbrev tm (n:Nat):Opd:=.tmp n
abbrev cb (b:Bool):Opd:=.cst (.bool b)
abbrev xo (d:Nat) (q:Q):X:=⟨some d,none,q⟩
abbrev qm (x:Opd):Q:=.i (.mov x)
abbrev ql (x:Opd):Q:=.i (.ld true 1 x)
abbrev qf (k:Nat) (x:Opd):Q:=.i (.fld k x)
abbrev qc (f:FuncId) (xs:List Opd) (tys:List (List (Option Ty))):Q:=.call (.cst (.fn f [])) xs tys
abbrev rg (xs:List X):AC:=.region xs false []
abbrev ai (n:Int):AV:=.int .i64 n
abbrev oi (a b:Nat):Oid:=((a,0),b)
def Aah (d:Option Nat) (v:AV) (tl:List (Nat×AV)):List (Nat×AV) :=
 match d with
 | some d=>(d,v) :: tl
 | none=>tl
theorem Ww (d:Option Nat) (v:AV) (tl:List (Nat×AV)):Hm d v (Ak tl)=Ak (Aah d v tl):=by
 cases d with
 | none=>rfl
 | some d=>simp only [Hm,Aah,Lu]
noncomputable def Tx (g:Nat):Nat->Nat->List X->List (Nat×AV)->List (Oid×Option Ob)->Option (List (Nat×AV)×List (Oid×Option Ob))
 | 0,_,_,tl,ol=>some (tl,ol)
 | _+1,_,[],_,_=>none
 | n+1,k,x :: xs,tl,ol=>match Bi (g+k) x (Ak tl) (Ag ol) with
  | some (_,v,us)=>if Dq us then Tx g n (k+1) xs (Aah x.dst v tl) (us.reverseAux ol) else none
  | none=>none
theorem Agt {P:Program} {G:World->Prop} {g:Nat} {Kf:List (Nat×AV)->List (Oid×Option Ob)->Prop}:∀ (n k:Nat) (xs:List X) (tl:List (Nat×AV)) (ol:List (Oid×Option Ob)) (r:List (Nat×AV)×List (Oid×Option Ob)),Tx g n k xs tl ol=some r->XW P G g (k+n) (xs.drop n) r.1 r.2 Kf->XW P G g k xs tl ol Kf
 | 0,k,xs,tl,ol,r,h,hk=>by
  obtain rfl:=osj h;exact hk
 | n+1,k,[],tl,ol,r,h,hk=>by cases h
 | n+1,k,x :: xs,tl,ol,r,h,hk=>by
  simp only [Tx] at h;split at h
  ·rename_i c v us hst;split at h
   ·rename_i hx;obtain ⟨rs,tl',ol',h1,h2⟩:=Agt (P:=P) (G:=G) n (k+1) xs _ _ r h (by rw [show k+1+n=k+(n+1) by omega];exact hk);exact ⟨(c,v,us) :: rs,tl',ol',⟨_,_,rfl,Fj hst,by rw [Ww,Ge _ _ hx];exact h1⟩,h2⟩
   ·cases h
  ·cases h
theorem rsB {P:Program} {G:World->Prop} {g k:Nat} {xs:List X} {tl:List (Nat×AV)} {ol:List (Oid×Option Ob)} {Kf:List (Nat×AV)->List (Oid×Option Ob)->Prop} (n:Nat) (hk:XW P G g (k+n) (xs.drop n) ((Tx g n k xs tl ol).getD ([],[])).1 ((Tx g n k xs tl ol).getD ([],[])).2 Kf) (h:(Tx g n k xs tl ol).isSome=true:=by kernel_rfl):XW P G g k xs tl ol Kf:=by
 obtain ⟨r,hr⟩:=Option.isSome_iff_exists.1 h;rw [hr] at hk;exact Agt n k xs tl ol r hr hk
noncomputable def Abc (g:Nat):Nat->Nat->List X->List (Nat×AV)->List (Oid×Option Ob)->Option (List (Nat×AV))
 | 0,_,_,tl,_=>some tl
 | _+1,_,[],_,_=>none
 | n+1,k,x :: xs,tl,ol=>match Bi (g+k) x (Ak tl) (Ag ol) with
  | some (_,v,[])=>Abc g n (k+1) xs (Aah x.dst v tl) ol
  | _=>none
theorem Af6 {P:Program} {G:World->Prop} {g:Nat} {ol:List (Oid×Option Ob)} {Kf:List (Nat×AV)->List (Oid×Option Ob)->Prop}:∀ (n k:Nat) (xs:List X) (tl:List (Nat×AV)) (r:List (Nat×AV)),Abc g n k xs tl ol=some r->XW P G g (k+n) (xs.drop n) r ol Kf->XW P G g k xs tl ol Kf
 | 0,k,xs,tl,r,h,hk=>by
  obtain rfl:=osj h;exact hk
 | n+1,k,[],tl,r,h,hk=>by cases h
 | n+1,k,x :: xs,tl,r,h,hk=>by
  simp only [Abc] at h;split at h
  ·rename_i c v hst;obtain ⟨rs,tl',ol',h1,h2⟩:=Af6 (P:=P) (G:=G) n (k+1) xs _ r h (by rw [show k+1+n=k+(n+1) by omega];exact hk);exact ⟨(c,v,[]) :: rs,tl',ol',⟨_,_,rfl,Fj hst,by rw [Ww];exact h1⟩,h2⟩
  ·cases h
theorem rsT {P:Program} {G:World->Prop} {g k:Nat} {xs:List X} {tl:List (Nat×AV)} {ol:List (Oid×Option Ob)} {Kf:List (Nat×AV)->List (Oid×Option Ob)->Prop} (n:Nat) (hk:XW P G g (k+n) (xs.drop n) ((Abc g n k xs tl ol).getD []) ol Kf) (h:(Abc g n k xs tl ol).isSome=true:=by kernel_rfl):XW P G g k xs tl ol Kf:=by
 obtain ⟨r,hr⟩:=Option.isSome_iff_exists.1 h;rw [hr] at hk;exact Af6 n k xs tl r hr hk
noncomputable def Xb (g:Nat):Nat->Nat->List X->List (Nat×AV)->List (Oid×Option Ob)->List Rec->List (List Oid)->Option (List (Nat×AV)×List Rec×List (List Oid))
 | 0,_,_,tl,_,ra,da=>some (tl,ra,da)
 | _+1,_,[],_,_,_,_=>none
 | n+1,k,x :: xs,tl,ol,ra,da=>match Bi (g+k) x (Ak tl) (only (rdX (Ak tl) (Ag ol) x) (Ag ol)) with
  | some (c,v,[])=>Xb g n (k+1) xs (Aah x.dst v tl) ol ((c,v,[]) :: ra) (rdX (Ak tl) (Ag ol) x :: da)
  | _=>none
theorem Agf {P:Program} {G:World->Prop} {g:Nat} {ol:List (Oid×Option Ob)} {bad:List (Nat×Nat)} {Kf:List (Nat×AV)->List (Oid×Option Ob)->Prop}:∀ (n k:Nat) (xs:List X) (tl:List (Nat×AV)) (ra:List Rec) (da:List (List Oid)) (r:List (Nat×AV)×List Rec×List (List Oid)),Xb g n k xs tl ol ra da=some r->XD P G bad g (k+n) (xs.drop n) r.1 ol r.2.1 r.2.2 Kf->XD P G bad g k xs tl ol ra da Kf
 | 0,k,xs,tl,ra,da,r,h,hk=>by
  obtain rfl:=osj h;exact hk
 | n+1,k,[],tl,ra,da,r,h,hk=>by cases h
 | n+1,k,x :: xs,tl,ra,da,r,h,hk=>by
  simp only [Xb] at h;split at h
  ·rename_i c v hst;obtain ⟨rs,ds,tl',ol',h1,hb,h2⟩:=Agf (P:=P) (G:=G) n (k+1) xs _ _ _ r h (by rw [show k+1+n=k+(n+1) by omega];exact hk);refine ⟨(c,v,[]) :: rs,rdX (Ak tl) (Ag ol) x :: ds,tl',ol',⟨_,_,_,rfl,rfl,Fj hst,by rw [Ww];exact h1⟩,?_,h2⟩
   simpa using hb
  ·cases h
theorem dsT {P:Program} {G:World->Prop} {g k:Nat} {xs:List X} {tl:List (Nat×AV)} {ol:List (Oid×Option Ob)} {bad:List (Nat×Nat)} {ra:List Rec} {da:List (List Oid)} {Kf:List (Nat×AV)->List (Oid×Option Ob)->Prop} (n:Nat) (hk:XD P G bad g (k+n) (xs.drop n) ((Xb g n k xs tl ol ra da).getD ([],[],[])).1 ol ((Xb g n k xs tl ol ra da).getD ([],[],[])).2.1 ((Xb g n k xs tl ol ra da).getD ([],[],[])).2.2 Kf) (h:(Xb g n k xs tl ol ra da).isSome=true:=by kernel_rfl):XD P G bad g k xs tl ol ra da Kf:=by
 obtain ⟨r,hr⟩:=Option.isSome_iff_exists.1 h;rw [hr] at hk;exact Agf n k xs tl ra da r hr hk
theorem Am {P:Program} {G:World->Prop} {g:Nat} {xs:List X} {bad:List (Nat×Nat)} {y:AC} {R:AE->St->Prop} {tl:List (Nat×AV)} {ol:List (Oid×Option Ob)} (h:awp P G y R ⟨Ak ((Tx g xs.length 0 xs tl ol).getD ([],[])).1,Ag ((Tx g xs.length 0 xs tl ol).getD ([],[])).2,g+xs.length⟩) (hs:(Tx g xs.length 0 xs tl ol).isSome=true:=by kernel_rfl):awp P G (.seq (.region xs false bad) y) R ⟨Ak tl,Ag ol,g⟩:=by
 refine Ab (Aa (g+xs.length) (rsB xs.length (by rw [List.drop_length];exact A0 (tn_ ⟨_,WeakG.refl _,h⟩)) hs) rfl)
section
variable {n:Nat} {d:Option Nat} {f:Nat->AV} {ob:Oid->Option Ob} {ol:List (Oid×Option Ob)}
theorem Ae4 {i:Oid} {e:TypeId} {t:Ty} {sz:Nat} {xs:List Opd} {r:Rec} (h:(Sc f i e t sz xs).map (fun r=>((1:Nat),r.1,r.2))=some r):evL f i (.mkV e t sz xs)=some r:=by
 simp only [evL];cases hq:Sc f i e t sz xs with
 | none=>rw [hq] at h;cases h
 | some q=>rw [hq] at h;obtain ⟨v,us⟩:=q;exact h
end
section
variable {P:Program} {G:World->Prop} {g k d:Nat} {gd:Option (Nat×Bool)} {q:Q} {xs:List X} {tl:List (Nat×AV)} {ol:List (Oid×Option Ob)} {bad:List (Nat×Nat)} {ra:List Rec} {da:List (List Oid)} {Kf:List (Nat×AV)->List (Oid×Option Ob)->Prop}
theorem Agw (v:AV) (i:Oid) (o:Ob) (hgd:Pp gd (Ak tl)) (h:evL (Ak tl) ((d,0),g+k) q=some (1,v,[(i,some o)])) (h3:XW P G g (k+1) xs ((d,v) :: tl) ((i,some o) :: ol) Kf) (hx:Iq (some o)=true:=by rfl):XW P G g k (⟨some d,gd,q⟩ :: xs) tl ol Kf:=Ru 1 v _ (Aev (d:=some d) hgd h) h3 (by simp only [Dq,List.all_cons,List.all_nil,hx];rfl)
theorem Ag4 (v:AV) (i:Oid) (o:Ob) (hgd:Pp gd (Ak tl)) (h:evL (Ak tl) ((d,0),g+k) q=some (1,v,[(i,some o)])) (h3:XD P G bad g (k+1) xs ((d,v) :: tl) ((i,some o) :: ol) ((1,v,[(i,some o)]) :: ra) ((rdX (Ak tl) (Ag ol) ⟨some d,gd,q⟩) :: da) Kf) (hx:Iq (some o)=true:=by rfl):XD P G bad g k (⟨some d,gd,q⟩ :: xs) tl ol ra da Kf:=Uh 1 v _ (Aev (d:=some d) hgd h) h3 (by simp only [Dq,List.all_cons,List.all_nil,hx];rfl)
end
-- what arguments read as
section
variable {ol:List (Oid×Option Ob)} {n:Nat}
theorem Pw {α:Type} {g:List AV->Option α}:∀ {cs:List AV} {xs:List α},cs.length=xs.length->(∀ (k:Nat) (c:AV) (x:α),cs[k]? =some c->xs[k]? =some x->g [c]=some x)->Jt g 1 xs.length cs=some xs
 | [],[],_,_=>rfl
 | c :: cs,x :: xs,hl,h=>by
  have h0:=h 0 c x rfl rfl;have ih:=Pw (g:=g) (cs:=cs) (xs:=xs) (by simpa using hl) (fun k c x h1 h2=>h (k+1) c x h1 h2);simp only [List.length_cons,Jt,List.take_succ_cons,List.take_zero,List.drop_succ_cons,List.drop_zero,h0,ih]
 | [],_ :: _,hl,_=>by simp at hl
 | _ :: _,[],hl,_=>by simp at hl
theorem Abe {ob:Oid->Option Ob} {o p:Oid} {e1 e:TypeId} {u:Ty} {xss:List (List u.D)} {m len:Nat} (ho:ob o=some (.vec e1 1 m (hdL p u xss))) (hm:m=xss.length) (hk:∀ k row,xss[k]? =some row->ob (kid p k)=some (.arr e u row)) {t':Ty} (hl:len<=xss.length):Vr ob 1 (rdC ob (.slice u)) (.own o t' 0 len)=some (xss.take len):=by
 have h1:(((hdL p u xss).drop (0*1)).take (len*1))=hdL p u (xss.take len):=by
  simp only [Nat.zero_mul,List.drop_zero,Nat.mul_one];apply List.ext_getElem?;intro j;rw [List.getElem?_take,Oe,Oe,List.getElem?_take];split <;> rfl
 have hlen:(xss.take len).length=len:=by rw [List.length_take];omega
 simp only [Vr,ho];rw [if_pos ⟨trivial,by omega⟩,h1]
 have:=Pw (g:=rdC ob (.slice u)) (cs:=hdL p u (xss.take len)) (xs:=xss.take len) Yf (fun k c x hc hx=>by
  rw [Oe,hx] at hc;obtain rfl:=osj hc;rw [List.getElem?_take] at hx;split at hx
  ·have:=hk k x hx;simp only [rdC,D4,this,Nat.zero_add,Nat.le_refl,if_true,Ty.eq?_self,C5,List.drop_zero,List.take_length]
  ·cases hx)
 rw [hlen] at this;exact this
theorem Afs {ob:Oid->Option Ob} {o p:Oid} {e1 e:TypeId} {u:Ty} {xss:List (List u.D)} {len:Nat} (ho:ob o=some (.vec e1 1 xss.length (hdL p u xss))) (hk:∀ k row,xss[k]? =some row->ob (kid p k)=some (.arr e u row)) (hl:len=xss.length):gnd ob (n+1) (.own o (.slice u) 0 len)=some (.tree (.slice u) xss):=by
 subst hl;have:=Abe (t':=.slice u) ho rfl hk (Nat.le_refl _);rw [List.take_length] at this;simp only [gnd,ho,Ty.size,this,Option.map_some]
def Ac1 (zs:List AV) (ob:Oid->Option Ob) (θ:Oid->Oid):List (Oid×Ob)->Prop
 | []=>True
 | q :: r=>(match q.2 with
  | .pool _ _ xss=>∀ k,k<xss.length->Reached zs ob (kid (θ q.1) k)
  | _=>Reached zs ob (θ q.1))/\Ac1 zs ob θ r
theorem Ft {zs:List AV} {ob:Oid->Option Ob} {l:List (Oid×Oid)} (hl:Px l=true):∀ {ol:List (Oid×Ob)},Ex ol=true->Ac1 zs ob (Be l) ol->∀ j∈nmL ol,Reached zs ob (Be l j)
 | [],_,_,j,hj=>by cases hj
 | (p,o) :: r,h0,h,j,hj=>by
  simp only [Ex,List.all_cons,Bool.and_eq_true,beq_iff_eq] at h0;obtain ⟨⟨h1,_⟩,h2⟩:=h0;have ih:j∈nmL r->Reached zs ob (Be l j):=fun hm=>Ft hl (ol:=r) (by simpa [Ex] using h2) h.2 j hm
  cases o with
  | pool e u xss =>
   simp only [nmL,exL,List.map_append,List.mem_append] at hj;rcases hj with hj|hj
   ·obtain ⟨q,hq,rfl⟩:=List.mem_map.1 hj;obtain ⟨⟨row,k⟩,hx,rfl⟩:=List.mem_map.1 hq;rw [List.mem_zipIdx_iff_getElem?] at hx;show Reached zs ob (Be l (kid p k));rw [Gf hl h1];exact h.1 k (gSi.1 hx).1
   ·exact ih hj
  | _ =>
   simp only [nmL,exL,List.map_cons,List.mem_cons] at hj;rcases hj with rfl|hj
   ·exact h.1
   ·exact ih hj
theorem Ci {zs:List AV} {ob:Oid->Option Ob} {i:Oid} (h:(AV.nmsL zs).contains i=true):Reached zs ob i:=.arg (List.contains_iff_mem.1 h)
theorem Jc {zs:List AV} {ob:Oid->Option Ob} {k i:Oid} {ty:TypeId} {cs:List AV} (h1:Reached zs ob k) (h2:ob k=some (.cells ty cs)) (h:(AV.nmsL cs).contains i=true):Reached zs ob i:=.cells h1 h2 (List.contains_iff_mem.1 h)
end
end
section
open Go.RowKit Go.Deep
section
variable {P:Program} {G:World->Prop} {w0 w:World} {ob:Oid->Option Ob} {σ:Oid->Option Loc} {K:Nat->Prop} {im:Nat->Prop}
end
end
section
open Go.RowKit
def Tab (w:World):Prop:=Lib.TabIs Tryz.prog w "internal/strconv.uint64pow10" .u64 Lib.pow10Tab/\(∃ m,w.cell? ⟨0,0,none⟩=some (.int .i64 m)) /\
 (∃ e,w.cell? ⟨1,0,none⟩=some e/\(e=.nilIface∨∃ t u,e=.iface t u))/\∃ e,w.cell? ⟨2,0,none⟩=some e/\(e=.nilIface∨∃ t u,e=.iface t u)
theorem Tab.below {w w':World} (h:Tab w) (hb:Below w.heap.size w w'):Tab w':=⟨Lib.tabBelow_of_tabIs h.1 w' hb,h.2.1.imp fun _ h=>Ac hb h,h.2.2.1.imp fun _ h=>⟨Ac hb h.1,h.2⟩,h.2.2.2.imp fun _ h=>⟨Ac hb h.1,h.2⟩⟩
theorem Tab.len {w:World} (h:Tab w):∃ m,w.cell? ⟨0,0,none⟩=some (.int .i64 m):=h.2.1
def inR (n lo hi:Int):Bool:=decide (lo<=n)&&decide (n<=hi)
theorem Bn {n lo hi:Int}:inR n lo hi=true↔lo<=n/\n<=hi:=by simp [inR]
theorem Zv {n lo hi:Int}:inR n lo hi=false↔n<lo∨hi<n:=by
 cases h:inR n lo hi
 ·simp only [true_iff];have h1:¬ (lo<=n/\n<=hi):=fun h'=>by rw [Bn.2 h'] at h;cases h
  omega
 ·simp only [Bool.true_eq_false,false_iff];have:=Bn.1 h;omega
abbrev cK (f:FuncId) (a:List AV) (r:RV):Prop:=Bs Tryz.prog Tab f a r
end

section
open Go.RowKit Go.Deep
section
variable {f:Nat->AV} {ob:Oid->Option Ob} {n:Nat} {d:Option Nat}
end
end
section
open Go.RowKit Go.Deep
inductive Ctl (σ ρ:Type) where
 | next (s:σ)
 | out (r:ρ)
def Ctl.then {σ β:Type} (k:σ->Option β):Ctl σ β->Option β
 | .next t=>k t
 | .out r=>some r
section
variable {α β σ τ ρ:Type}
def og (c:Prop) [Decidable c] (k:Option α):Option α:=if c then k else none
theorem Ax {c:Prop} [Decidable c] {k:Option α} {r:α} (h:og c k=some r):c/\k=some r:=by
 unfold og at h;split at h
 ·rename_i hc;exact ⟨hc,h⟩
 ·cases h
theorem Aj {c:Prop} [Decidable c] (h:c) (k:Option α):og c k=k:=if_pos h
theorem Au {o:Option α} {f:α->Option β} {b:β} (h:o.bind f=some b):∃ a,o=some a/\f a=some b:=Option.bind_eq_some_iff.1 h
theorem Co {c:Bool} {a b:Option α} {r:α} (h:cond c a b=some r):(c=true/\a=some r)∨(c=false/\b=some r):=by
 cases c
 ·exact .inr ⟨rfl,h⟩
 ·exact .inl ⟨rfl,h⟩
def Mm (a:Option (Ctl τ β)) (k:τ->Option β):Option β :=
 a.bind (Ctl.then k)
theorem Zd {a:Option (Ctl τ β)} {k:τ->Option β} {r:β} (h:Mm a k=some r):∃ v,a=some v/\Ctl.then k v=some r:=Au h
def Az (body:σ->Option (Ctl σ ρ)):Nat->σ->Option ρ
 | 0,_=>none
 | n+1,s=>(body s).bind (Ctl.then (Az body n))
theorem W7 {body:σ->Option (Ctl σ ρ)} {n:Nat} {s:σ} {v:ρ} (h:Az body (n+1) s=some v):∃ c,body s=some c/\Ctl.then (Az body n) c=some v:=Au h
theorem Wl {body:σ->Option (Ctl σ ρ)} {s:σ} {v:ρ} (h:Az body 0 s=some v):False:=by cases h
def Kg (xs:List α) (n:Int):Option α:=if 0<=n then xs[n.toNat]? else none
theorem Ay {xs:List α} {k:Nat} {x:α} (h:xs[k]? =some x):k<xs.length:=(gSi.1 h).1
theorem E5 {xs:List α} {n:Int} {x:α} (h:Kg xs n=some x):0<=n/\n<xs.length/\xs[n.toNat]? =some x:=by
 unfold Kg at h;split at h
 ·rename_i h0;have:=Ay h;exact ⟨h0,by omega,h⟩
 ·cases h
theorem Qt {xs:List α} {n:Int} (h:0<=n):Kg xs n=xs[n.toNat]?:=if_pos h
end
section
variable {P:Program} {G:World->Prop} {σ τ β ρ:Type}
theorem Ab4 {x y:AC} {R:AE->St->Prop} {S:St} {A:Option τ} {k:τ->Option β} {r:β} (h:A.bind k=some r) (J:τ->St->Prop) (h1:∀ t,A=some t->awp P G x (Ed (fun S'=>∃ S'',WeakG G S' S''/\J t S'') R) S) (h2:∀ t S'',J t S''->k t=some r->awp P G y R S''):awp P G (.seq x y) R S:=by
 obtain ⟨t,ha,hk⟩:=Au h;exact Rw (J t) (h1 t ha) fun S'' hj=>h2 t S'' hj hk
theorem Acg {x y:AC} {R:AE->St->Prop} {S:St} {A:Option (Ctl τ β)} {k:τ->Option β} {r:β} (h:Mm A k=some r) (J:τ->St->Prop)
  (h1:∀ v,A=some v->Ctl.then k v=some r->awp P G x (Ed (fun S'=>∃ t S'',v=.next t/\WeakG G S' S''/\J t S'') R) S) (h2:∀ t S'',J t S''->k t=some r->awp P G y R S''):awp P G (.seq x y) R S:=by
 obtain ⟨v,ha,hk⟩:=Zd h;refine Rw (fun S''=>∃ t,v=.next t/\J t S'') (B4 (fun e S' hq=>?_) (h1 v ha hk)) fun S'' ⟨t,hv,hj⟩=>?_
 ·cases e with
  | normal=>obtain ⟨t,S'',hv,hw,hj⟩:=hq;exact ⟨S'',hw,t,hv,hj⟩
  | exit id=>exact hq
  | ret=>exact hq
 ·subst hv;exact h2 t S'' hj hk
theorem Za {a:AC} {R:AE->St->Prop} {S:St} {body:σ->Option (Ctl σ ρ)} {fuel:Nat} {s0:σ} {v:ρ} (h:Az body fuel s0=some v) (J:σ->St->Prop) (h0:∃ S0,WeakG G S S0/\J s0 S0)
  (h1:∀ n s S1 c,J s S1->body s=some c->Ctl.then (Az body n) c=some v->awp P G a (Ed (fun S2=>∃ s' S3,WeakG G S2 S3/\J s' S3/\Az body n s'=some v) R) S1):awp P G (.loop a) R S:=by
 obtain ⟨S0,hw,hj⟩:=h0;refine Zr (fun (p:Nat×σ) S=>Az body p.1 p.2=some v/\J p.2 S) (·.1) ⟨(fuel,s0),S0,hw,h,hj⟩ ?_;rintro ⟨n,s⟩ S1 ⟨hl,hj⟩;cases n with
 | zero=>exact (Wl hl).elim
 | succ n =>
  obtain ⟨c,hc,hn⟩:=W7 hl;refine B4 (fun e S2 hq=>?_) (h1 n s S1 c hj hc hn);cases e with
  | normal=>obtain ⟨s',S3,hw,hj,hl⟩:=hq;exact ⟨(n,s'),S3,hw,⟨hl,hj⟩,Nat.lt_succ_self n⟩
  | exit id=>exact hq
  | ret=>exact hq
end
theorem Ts (n:Nat):0<=(n:Int):=by omega
end
section
open Go.RowKit Go.Deep
end
section
open Go.RowKit Go.Deep
theorem gw3 (w:World):Calls Tryz.prog 55 #[.int .i64 3] w fun e w'=>e=.returned (.agg #[.int .i64 1,.int .i64 2])/\Below w.heap.size w w':=by
 go_enter Tryz.func55,Tryz.ntmps55
 go_wp2
 refine bodyPost_ret (v:=.agg #[.int .i64 1,.int .i64 2]) (by simp [results,Tryz.results55,go_sem]) rfl ⟨rfl,?_⟩;exact (by repeat (first|with_reducible exact Below.refl _ _|((with_reducible refine Below.setCell ?_ ?_ _);rotate_left;focus (first|(simp;done)|omega|(simp;omega)))|((with_reducible refine Below.alloc ?_ ?_ _);rotate_left;focus (first|(simp;done)|omega|(simp;omega)))|(with_reducible refine Below.drew ?_)|(with_reducible refine below_draws_ ?_ _)))
theorem gw4 (w:World):Calls Tryz.prog 55 #[.int .i64 4] w fun e w'=>e=.returned (.agg #[.int .i64 1,.int .i64 0])/\Below w.heap.size w w':=by
 go_enter Tryz.func55,Tryz.ntmps55
 go_wp2
 refine bodyPost_ret (v:=.agg #[.int .i64 1,.int .i64 0]) (by simp [results,Tryz.results55,go_sem]) rfl ⟨rfl,?_⟩;exact (by repeat (first|with_reducible exact Below.refl _ _|((with_reducible refine Below.setCell ?_ ?_ _);rotate_left;focus (first|(simp;done)|omega|(simp;omega)))|((with_reducible refine Below.alloc ?_ ?_ _);rotate_left;focus (first|(simp;done)|omega|(simp;omega)))|(with_reducible refine Below.drew ?_)|(with_reducible refine below_draws_ ?_ _)))
theorem gw5 (w:World):Calls Tryz.prog 55 #[.int .i64 5] w fun e w'=>e=.returned (.agg #[.int .i64 2,.int .i64 1])/\Below w.heap.size w w':=by
 go_enter Tryz.func55,Tryz.ntmps55
 go_wp2
 refine bodyPost_ret (v:=.agg #[.int .i64 2,.int .i64 1]) (by simp [results,Tryz.results55,go_sem]) rfl ⟨rfl,?_⟩;exact (by repeat (first|with_reducible exact Below.refl _ _|((with_reducible refine Below.setCell ?_ ?_ _);rotate_left;focus (first|(simp;done)|omega|(simp;omega)))|((with_reducible refine Below.alloc ?_ ?_ _);rotate_left;focus (first|(simp;done)|omega|(simp;omega)))|(with_reducible refine Below.drew ?_)|(with_reducible refine below_draws_ ?_ _)))
theorem gw6 (w:World):Calls Tryz.prog 55 #[.int .i64 6] w fun e w'=>e=.returned (.agg #[.int .i64 0,.int .i64 1])/\Below w.heap.size w w':=by
 go_enter Tryz.func55,Tryz.ntmps55
 go_wp2
 refine bodyPost_ret (v:=.agg #[.int .i64 0,.int .i64 1]) (by simp [results,Tryz.results55,go_sem]) rfl ⟨rfl,?_⟩;exact (by repeat (first|with_reducible exact Below.refl _ _|((with_reducible refine Below.setCell ?_ ?_ _);rotate_left;focus (first|(simp;done)|omega|(simp;omega)))|((with_reducible refine Below.alloc ?_ ?_ _);rotate_left;focus (first|(simp;done)|omega|(simp;omega)))|(with_reducible refine Below.drew ?_)|(with_reducible refine below_draws_ ?_ _)))
theorem gw7 (w:World):Calls Tryz.prog 55 #[.int .i64 7] w fun e w'=>e=.returned (.agg #[.int .i64 1,.int .i64 1])/\Below w.heap.size w w':=by
 go_enter Tryz.func55,Tryz.ntmps55
 go_wp2
 refine bodyPost_ret (v:=.agg #[.int .i64 1,.int .i64 1]) (by simp [results,Tryz.results55,go_sem]) rfl ⟨rfl,?_⟩;exact (by repeat (first|with_reducible exact Below.refl _ _|((with_reducible refine Below.setCell ?_ ?_ _);rotate_left;focus (first|(simp;done)|omega|(simp;omega)))|((with_reducible refine Below.alloc ?_ ?_ _);rotate_left;focus (first|(simp;done)|omega|(simp;omega)))|(with_reducible refine Below.drew ?_)|(with_reducible refine below_draws_ ?_ _)))
theorem gw8 (w:World):Calls Tryz.prog 55 #[.int .i64 8] w fun e w'=>e=.returned (.agg #[.int .i64 1,.int .i64 1])/\Below w.heap.size w w':=by
 go_enter Tryz.func55,Tryz.ntmps55
 go_wp2
 refine bodyPost_ret (v:=.agg #[.int .i64 1,.int .i64 1]) (by simp [results,Tryz.results55,go_sem]) rfl ⟨rfl,?_⟩;exact (by repeat (first|with_reducible exact Below.refl _ _|((with_reducible refine Below.setCell ?_ ?_ _);rotate_left;focus (first|(simp;done)|omega|(simp;omega)))|((with_reducible refine Below.alloc ?_ ?_ _);rotate_left;focus (first|(simp;done)|omega|(simp;omega)))|(with_reducible refine Below.drew ?_)|(with_reducible refine below_draws_ ?_ _)))
theorem gw9 (w:World):Calls Tryz.prog 55 #[.int .i64 9] w fun e w'=>e=.returned (.agg #[.int .i64 2,.int .i64 1])/\Below w.heap.size w w':=by
 go_enter Tryz.func55,Tryz.ntmps55
 go_wp2
 refine bodyPost_ret (v:=.agg #[.int .i64 2,.int .i64 1]) (by simp [results,Tryz.results55,go_sem]) rfl ⟨rfl,?_⟩;exact (by repeat (first|with_reducible exact Below.refl _ _|((with_reducible refine Below.setCell ?_ ?_ _);rotate_left;focus (first|(simp;done)|omega|(simp;omega)))|((with_reducible refine Below.alloc ?_ ?_ _);rotate_left;focus (first|(simp;done)|omega|(simp;omega)))|(with_reducible refine Below.drew ?_)|(with_reducible refine below_draws_ ?_ _)))
theorem Agx (w:World):Calls Tryz.prog 55 #[.int .i64 10] w fun e w'=>e=.returned (.agg #[.int .i64 0,.int .i64 1])/\Below w.heap.size w w':=by
 go_enter Tryz.func55,Tryz.ntmps55
 go_wp2
 refine bodyPost_ret (v:=.agg #[.int .i64 0,.int .i64 1]) (by simp [results,Tryz.results55,go_sem]) rfl ⟨rfl,?_⟩;exact (by repeat (first|with_reducible exact Below.refl _ _|((with_reducible refine Below.setCell ?_ ?_ _);rotate_left;focus (first|(simp;done)|omega|(simp;omega)))|((with_reducible refine Below.alloc ?_ ?_ _);rotate_left;focus (first|(simp;done)|omega|(simp;omega)))|(with_reducible refine Below.drew ?_)|(with_reducible refine below_draws_ ?_ _)))
theorem Ag3 (w:World):Calls Tryz.prog 55 #[.int .i64 11] w fun e w'=>e=.returned (.agg #[.int .i64 1,.int .i64 2])/\Below w.heap.size w w':=by
 go_enter Tryz.func55,Tryz.ntmps55
 go_wp2
 refine bodyPost_ret (v:=.agg #[.int .i64 1,.int .i64 2]) (by simp [results,Tryz.results55,go_sem]) rfl ⟨rfl,?_⟩;exact (by repeat (first|with_reducible exact Below.refl _ _|((with_reducible refine Below.setCell ?_ ?_ _);rotate_left;focus (first|(simp;done)|omega|(simp;omega)))|((with_reducible refine Below.alloc ?_ ?_ _);rotate_left;focus (first|(simp;done)|omega|(simp;omega)))|(with_reducible refine Below.drew ?_)|(with_reducible refine below_draws_ ?_ _)))
theorem Agv (w:World):Calls Tryz.prog 55 #[.int .i64 12] w fun e w'=>e=.returned (.agg #[.int .i64 1,.int .i64 0])/\Below w.heap.size w w':=by
 go_enter Tryz.func55,Tryz.ntmps55
 go_wp2
 refine bodyPost_ret (v:=.agg #[.int .i64 1,.int .i64 0]) (by simp [results,Tryz.results55,go_sem]) rfl ⟨rfl,?_⟩;exact (by repeat (first|with_reducible exact Below.refl _ _|((with_reducible refine Below.setCell ?_ ?_ _);rotate_left;focus (first|(simp;done)|omega|(simp;omega)))|((with_reducible refine Below.alloc ?_ ?_ _);rotate_left;focus (first|(simp;done)|omega|(simp;omega)))|(with_reducible refine Below.drew ?_)|(with_reducible refine below_draws_ ?_ _)))
theorem Ag5 (w:World):Calls Tryz.prog 55 #[.int .i64 13] w fun e w'=>e=.returned (.agg #[.int .i64 1,.int .i64 1])/\Below w.heap.size w w':=by
 go_enter Tryz.func55,Tryz.ntmps55
 go_wp2
 refine bodyPost_ret (v:=.agg #[.int .i64 1,.int .i64 1]) (by simp [results,Tryz.results55,go_sem]) rfl ⟨rfl,?_⟩;exact (by repeat (first|with_reducible exact Below.refl _ _|((with_reducible refine Below.setCell ?_ ?_ _);rotate_left;focus (first|(simp;done)|omega|(simp;omega)))|((with_reducible refine Below.alloc ?_ ?_ _);rotate_left;focus (first|(simp;done)|omega|(simp;omega)))|(with_reducible refine Below.drew ?_)|(with_reducible refine below_draws_ ?_ _)))
theorem Ag2 (w:World):Calls Tryz.prog 55 #[.int .i64 14] w fun e w'=>e=.returned (.agg #[.int .i64 1,.int .i64 1])/\Below w.heap.size w w':=by
 go_enter Tryz.func55,Tryz.ntmps55
 go_wp2
 refine bodyPost_ret (v:=.agg #[.int .i64 1,.int .i64 1]) (by simp [results,Tryz.results55,go_sem]) rfl ⟨rfl,?_⟩;exact (by repeat (first|with_reducible exact Below.refl _ _|((with_reducible refine Below.setCell ?_ ?_ _);rotate_left;focus (first|(simp;done)|omega|(simp;omega)))|((with_reducible refine Below.alloc ?_ ?_ _);rotate_left;focus (first|(simp;done)|omega|(simp;omega)))|(with_reducible refine Below.drew ?_)|(with_reducible refine below_draws_ ?_ _)))
def gwV (k:Int):Int×Int:=if k=3 then (1,2) else if k=4 then (1,0) else if k=5 then (2,1) else if k=6 then (0,1) else if k=9 then (2,1) else if k=10 then (0,1) else if k=11 then (1,2) else if k=12 then (1,0) else (1,1)
def D0 (a0:Int):Option (Int×Int):=og (3<=a0/\a0<=14) (some (gwV a0))
def Ik (r:Int×Int):RV:=⟨false,[(true,[.sc (.int .i64 r.1),.sc (.int .i64 r.2)])]⟩
theorem Ae8 (k:Int) (h:3<=k/\k<=14) (w:World):Calls Tryz.prog 55 #[.int .i64 k] w fun e w'=>e=.returned (.agg #[.int .i64 (gwV k).1,.int .i64 (gwV k).2])/\Below w.heap.size w w':=by
 have hk:k=3∨k=4∨k=5∨k=6∨k=7∨k=8∨k=9∨k=10∨k=11∨k=12∨k=13∨k=14:=by omega
 rcases hk with rfl|rfl|rfl|rfl|rfl|rfl|rfl|rfl|rfl|rfl|rfl|rfl
 ·exact gw3 w
 ·exact gw4 w
 ·exact gw5 w
 ·exact gw6 w
 ·exact gw7 w
 ·exact gw8 w
 ·exact gw9 w
 ·exact Agx w
 ·exact Ag3 w
 ·exact Agv w
 ·exact Ag5 w
 ·exact Ag2 w
theorem Is {a0:Int} {r:Int×Int} (h:D0 a0=some r):Bs Tryz.prog Tab 55 [.int .i64 a0] (Ik r):=by
 obtain ⟨hb,h⟩:=Ax h;obtain rfl:=osj h;intro w im vs hG hr;obtain ⟨u1,_,rfl,h1,h2⟩:=hr;obtain rfl:_=[]:=h2;obtain rfl:u1=.int .i64 a0:=h1;refine (Ae8 a0 hb w).mono ?_;rintro e w' ⟨rfl,hw⟩;exact ⟨_,rfl,hw,[_,_],[],⟨_,_,rfl,rfl,rfl,_,_,rfl,rfl,rfl,rfl,rfl⟩,⟨trivial,fun _=>rfl⟩,rfl⟩
end
section
open Go.RowKit Go.Deep Go.Shelf
def Z6:Go.Shelf.Ren:=⟨fun|171=>40|243=>56|246=>70|283=>84|284=>85|285=>86|286=>87|129=>99|317=>98|318=>100|319=>101|320=>102|337=>107|338=>108|n=>n,fun|3=>3|9=>9|2=>2|4=>4|171=>110|0=>0|53=>111|37=>72|5=>5|173=>114|212=>128|51=>129|20=>20|213=>130|46=>120|232=>143|233=>144|n=>n,fun|17=>3|18=>6|19=>7|n=>n⟩
theorem Abh:LaysM.n171 Tryz.prog Z6 where
  mixed:=by kernel_rfl
  f129:=Tryz.func99.trans (congrArg some (by kernel_rfl))
  f171:=Tryz.func40.trans (congrArg some (by kernel_rfl))
  f243:=Tryz.func56.trans (congrArg some (by kernel_rfl))
  f246:=Tryz.func70.trans (congrArg some (by kernel_rfl))
  f283:=Tryz.func84.trans (congrArg some (by kernel_rfl))
  f284:=Tryz.func85.trans (congrArg some (by kernel_rfl))
  f285:=Tryz.func86.trans (congrArg some (by kernel_rfl))
  f286:=Tryz.func87.trans (congrArg some (by kernel_rfl))
  f317:=Tryz.func98.trans (congrArg some (by kernel_rfl))
  f318:=Tryz.func100.trans (congrArg some (by kernel_rfl))
  f319:=Tryz.func101.trans (congrArg some (by kernel_rfl))
  f320:=Tryz.func102.trans (congrArg some (by kernel_rfl))
  f337:=Tryz.func107.trans (congrArg some (by kernel_rfl))
  f338:=Tryz.func108.trans (congrArg some (by kernel_rfl))
  t0:=Tryz.underlying0
  a0:=Tryz.isAgg0
  z0:=Tryz.sizeOf0
  v0:=Tryz.zeroValue0
  t2:=Tryz.underlying2
  a2:=Tryz.isAgg2
  z2:=Tryz.sizeOf2
  v2:=Tryz.zeroValue2
  t3:=Tryz.underlying3
  a3:=Tryz.isAgg3
  z3:=Tryz.sizeOf3
  v3:=Tryz.zeroValue3
  t4:=Tryz.underlying4
  a4:=Tryz.isAgg4
  z4:=Tryz.sizeOf4
  v4:=Tryz.zeroValue4
  t5:=Tryz.underlying5
  a5:=Tryz.isAgg5
  z5:=Tryz.sizeOf5
  v5:=Tryz.zeroValue5
  t9:=Tryz.underlying9
  a9:=Tryz.isAgg9
  z9:=Tryz.sizeOf9
  v9:=Tryz.zeroValue9
  t20:=Tryz.underlying20
  a20:=Tryz.isAgg20
  z20:=Tryz.sizeOf20
  v20:=Tryz.zeroValue20
  t37:=Tryz.underlying72
  a37:=Tryz.isAgg72
  z37:=Tryz.sizeOf72
  v37:=Tryz.zeroValue72
  t46:=Tryz.underlying120
  a46:=Tryz.isAgg120
  z46:=Tryz.sizeOf120
  v46:=Tryz.zeroValue120
  t51:=Tryz.underlying129
  a51:=Tryz.isAgg129
  z51:=Tryz.sizeOf129
  v51:=Tryz.zeroValue129
  t53:=Tryz.underlying111
  a53:=Tryz.isAgg111
  z53:=Tryz.sizeOf111
  v53:=Tryz.zeroValue111
  t171:=Tryz.underlying110
  a171:=Tryz.isAgg110
  z171:=Tryz.sizeOf110
  v171:=Tryz.zeroValue110
  t173:=Tryz.underlying114
  a173:=Tryz.isAgg114
  z173:=Tryz.sizeOf114
  v173:=Tryz.zeroValue114
  t212:=Tryz.underlying128
  a212:=Tryz.isAgg128
  z212:=Tryz.sizeOf128
  v212:=Tryz.zeroValue128
  t213:=Tryz.underlying130
  a213:=Tryz.isAgg130
  z213:=Tryz.sizeOf130
  t232:=Tryz.underlying143
  a232:=Tryz.isAgg143
  z232:=Tryz.sizeOf143
  v232:=Tryz.zeroValue143
  t233:=Tryz.underlying144
  a233:=Tryz.isAgg144
  z233:=Tryz.sizeOf144
  v233:=Tryz.zeroValue144
  g17:=by kernel_rfl
  g18:=by kernel_rfl
  g19:=by kernel_rfl
  i0:=by kernel_rfl
  i2:=by kernel_rfl
  i3:=by kernel_rfl
  i4:=by kernel_rfl
  i5:=by kernel_rfl
  i9:=by kernel_rfl
  i20:=by kernel_rfl
  i37:=by kernel_rfl
  i46:=by kernel_rfl
  i51:=by kernel_rfl
  i53:=by kernel_rfl
  i171:=by kernel_rfl
  i173:=by kernel_rfl
  i212:=by kernel_rfl
  i232:=by kernel_rfl
  i233:=by kernel_rfl
  m17:=by kernel_rfl
  m18:=by kernel_rfl
  m19:=by kernel_rfl
end

section
open Go.RowKit Go.Deep Go.Shelf
def Vn:Go.Shelf.Ren:=⟨fun|156=>43|165=>59|166=>60|169=>61|240=>71|241=>72|276=>88|277=>89|n=>n,fun|31=>31|9=>9|3=>3|4=>4|0=>0|20=>20|72=>91|76=>76|70=>89|37=>72|75=>75|127=>99|164=>116|5=>5|80=>42|n=>n,fun  | n=>n⟩
theorem U3:Lays.n156 Tryz.prog Vn where
  mixed:=by kernel_rfl
  f156:=Tryz.func43.trans (congrArg some (by kernel_rfl))
  f165:=Tryz.func59.trans (congrArg some (by kernel_rfl))
  f166:=Tryz.func60.trans (congrArg some (by kernel_rfl))
  f169:=Tryz.func61.trans (congrArg some (by kernel_rfl))
  f240:=Tryz.func71.trans (congrArg some (by kernel_rfl))
  f241:=Tryz.func72.trans (congrArg some (by kernel_rfl))
  f276:=Tryz.func88.trans (congrArg some (by kernel_rfl))
  f277:=Tryz.func89.trans (congrArg some (by kernel_rfl))
  t0:=Tryz.underlying0
  a0:=Tryz.isAgg0
  z0:=Tryz.sizeOf0
  v0:=Tryz.zeroValue0
  t3:=Tryz.underlying3
  a3:=Tryz.isAgg3
  z3:=Tryz.sizeOf3
  v3:=Tryz.zeroValue3
  t4:=Tryz.underlying4
  a4:=Tryz.isAgg4
  z4:=Tryz.sizeOf4
  v4:=Tryz.zeroValue4
  t9:=Tryz.underlying9
  a9:=Tryz.isAgg9
  z9:=Tryz.sizeOf9
  v9:=Tryz.zeroValue9
  t20:=Tryz.underlying20
  a20:=Tryz.isAgg20
  z20:=Tryz.sizeOf20
  v20:=Tryz.zeroValue20
  t31:=Tryz.underlying31
  a31:=Tryz.isAgg31
  z31:=Tryz.sizeOf31
  v31:=Tryz.zeroValue31
  t37:=Tryz.underlying72
  a37:=Tryz.isAgg72
  z37:=Tryz.sizeOf72
  v37:=Tryz.zeroValue72
  t70:=Tryz.underlying89
  a70:=Tryz.isAgg89
  z70:=Tryz.sizeOf89
  v70:=Tryz.zeroValue89
  t72:=Tryz.underlying91
  a72:=Tryz.isAgg91
  z72:=Tryz.sizeOf91
  v72:=Tryz.zeroValue91
  t75:=Tryz.underlying75
  a75:=Tryz.isAgg75
  z75:=Tryz.sizeOf75
  v75:=Tryz.zeroValue75
  t76:=Tryz.underlying76
  a76:=Tryz.isAgg76
  z76:=Tryz.sizeOf76
  v76:=Tryz.zeroValue76
  t127:=Tryz.underlying99
  a127:=Tryz.isAgg99
  z127:=Tryz.sizeOf99
  v127:=Tryz.zeroValue99
  t164:=Tryz.underlying116
  a164:=Tryz.isAgg116
  z164:=Tryz.sizeOf116
  v164:=Tryz.zeroValue116
theorem Vm:Builder.Extra Tryz.prog Vn where
  sizeBuilder:=by kernel_rfl
  liesBuilder:=by kernel_rfl
  t5:=Tryz.underlying5
  a5:=Tryz.isAgg5
  z5:=Tryz.sizeOf5
  v5:=Tryz.zeroValue5
  infoByte:=by kernel_rfl
  cellsByte:=by kernel_rfl
  sizeByte:=by kernel_rfl
  neB5:=by decide
end

section
open Go.RowKit Go.Deep Go.Shelf
def U4:Go.Shelf.Ren:=⟨fun|146=>32|221=>47|268=>62|138=>63|143=>64|195=>73|197=>74|218=>75|219=>76|260=>90|217=>91|225=>92|224=>93|267=>94|266=>103|314=>104|n=>n,fun|9=>9|31=>31|3=>3|4=>4|0=>0|105=>100|21=>21|5=>5|46=>120|119=>132|139=>135|138=>134|146=>136|51=>129|n=>n,fun|1=>0|3=>4|4=>5|n=>n⟩
theorem Adf:Lays.n146 Tryz.prog U4 where
  mixed:=by kernel_rfl
  f138:=Tryz.func63.trans (congrArg some (by kernel_rfl))
  f143:=Tryz.func64.trans (congrArg some (by kernel_rfl))
  f146:=Tryz.func32.trans (congrArg some (by kernel_rfl))
  f195:=Tryz.func73.trans (congrArg some (by kernel_rfl))
  f197:=Tryz.func74.trans (congrArg some (by kernel_rfl))
  f217:=Tryz.func91.trans (congrArg some (by kernel_rfl))
  f218:=Tryz.func75.trans (congrArg some (by kernel_rfl))
  f219:=Tryz.func76.trans (congrArg some (by kernel_rfl))
  f221:=Tryz.func47.trans (congrArg some (by kernel_rfl))
  f224:=Tryz.func93.trans (congrArg some (by kernel_rfl))
  f225:=Tryz.func92.trans (congrArg some (by kernel_rfl))
  f260:=Tryz.func90.trans (congrArg some (by kernel_rfl))
  f266:=Tryz.func103.trans (congrArg some (by kernel_rfl))
  f267:=Tryz.func94.trans (congrArg some (by kernel_rfl))
  f268:=Tryz.func62.trans (congrArg some (by kernel_rfl))
  f314:=Tryz.func104.trans (congrArg some (by kernel_rfl))
  t0:=Tryz.underlying0
  a0:=Tryz.isAgg0
  z0:=Tryz.sizeOf0
  v0:=Tryz.zeroValue0
  t3:=Tryz.underlying3
  a3:=Tryz.isAgg3
  z3:=Tryz.sizeOf3
  v3:=Tryz.zeroValue3
  t4:=Tryz.underlying4
  a4:=Tryz.isAgg4
  z4:=Tryz.sizeOf4
  v4:=Tryz.zeroValue4
  t5:=Tryz.underlying5
  a5:=Tryz.isAgg5
  z5:=Tryz.sizeOf5
  v5:=Tryz.zeroValue5
  t9:=Tryz.underlying9
  a9:=Tryz.isAgg9
  z9:=Tryz.sizeOf9
  v9:=Tryz.zeroValue9
  t21:=Tryz.underlying21
  a21:=Tryz.isAgg21
  z21:=Tryz.sizeOf21
  v21:=Tryz.zeroValue21
  t31:=Tryz.underlying31
  a31:=Tryz.isAgg31
  z31:=Tryz.sizeOf31
  v31:=Tryz.zeroValue31
  t46:=Tryz.underlying120
  a46:=Tryz.isAgg120
  z46:=Tryz.sizeOf120
  v46:=Tryz.zeroValue120
  t51:=Tryz.underlying129
  a51:=Tryz.isAgg129
  z51:=Tryz.sizeOf129
  v51:=Tryz.zeroValue129
  t105:=Tryz.underlying100
  a105:=Tryz.isAgg100
  z105:=Tryz.sizeOf100
  v105:=Tryz.zeroValue100
  t119:=Tryz.underlying132
  a119:=Tryz.isAgg132
  z119:=Tryz.sizeOf132
  t138:=Tryz.underlying134
  a138:=Tryz.isAgg134
  z138:=Tryz.sizeOf134
  v138:=Tryz.zeroValue134
  t139:=Tryz.underlying135
  a139:=Tryz.isAgg135
  z139:=Tryz.sizeOf135
  v139:=Tryz.zeroValue135
  t146:=Tryz.underlying136
  a146:=Tryz.isAgg136
  z146:=Tryz.sizeOf136
  v146:=Tryz.zeroValue136
  g1:=by kernel_rfl
  g3:=by kernel_rfl
  g4:=by kernel_rfl
end

section
open Go.RowKit Go.Deep Go.Shelf
def Acv:Go.Shelf.Ren:=⟨fun|172=>48|244=>65|245=>66|247=>77|279=>78|280=>79|281=>80|282=>81|287=>95|316=>96|171=>40|205=>97|321=>105|322=>106|243=>56|246=>70|283=>84|284=>85|285=>86|286=>87|129=>99|317=>98|318=>100|319=>101|320=>102|337=>107|338=>108|n=>n,fun|9=>9|3=>3|75=>75|76=>76|4=>4|5=>5|167=>103|37=>72|0=>0|85=>104|2=>2|168=>106|53=>111|175=>121|46=>120|210=>125|127=>99|145=>141|143=>139|21=>21|171=>110|173=>114|212=>128|51=>129|20=>20|213=>130|232=>143|233=>144|80=>42|n=>n,fun|15=>1|16=>2|17=>3|18=>6|19=>7|n=>n⟩
theorem Qf:LaysC.n172 Tryz.prog Acv where
  mixed:=by kernel_rfl
  f129:=Tryz.func99.trans (congrArg some (by kernel_rfl))
  f171:=Tryz.func40.trans (congrArg some (by kernel_rfl))
  f172:=Tryz.func48.trans (congrArg some (by kernel_rfl))
  f205:=Tryz.func97.trans (congrArg some (by kernel_rfl))
  f243:=Tryz.func56.trans (congrArg some (by kernel_rfl))
  f244:=Tryz.func65.trans (congrArg some (by kernel_rfl))
  f245:=Tryz.func66.trans (congrArg some (by kernel_rfl))
  f246:=Tryz.func70.trans (congrArg some (by kernel_rfl))
  f247:=Tryz.func77.trans (congrArg some (by kernel_rfl))
  f279:=Tryz.func78.trans (congrArg some (by kernel_rfl))
  f280:=Tryz.func79.trans (congrArg some (by kernel_rfl))
  f281:=Tryz.func80.trans (congrArg some (by kernel_rfl))
  f282:=Tryz.func81.trans (congrArg some (by kernel_rfl))
  f283:=Tryz.func84.trans (congrArg some (by kernel_rfl))
  f284:=Tryz.func85.trans (congrArg some (by kernel_rfl))
  f285:=Tryz.func86.trans (congrArg some (by kernel_rfl))
  f286:=Tryz.func87.trans (congrArg some (by kernel_rfl))
  f287:=Tryz.func95.trans (congrArg some (by kernel_rfl))
  f316:=Tryz.func96.trans (congrArg some (by kernel_rfl))
  f317:=Tryz.func98.trans (congrArg some (by kernel_rfl))
  f318:=Tryz.func100.trans (congrArg some (by kernel_rfl))
  f319:=Tryz.func101.trans (congrArg some (by kernel_rfl))
  f320:=Tryz.func102.trans (congrArg some (by kernel_rfl))
  f321:=Tryz.func105.trans (congrArg some (by kernel_rfl))
  f322:=Tryz.func106.trans (congrArg some (by kernel_rfl))
  f337:=Tryz.func107.trans (congrArg some (by kernel_rfl))
  f338:=Tryz.func108.trans (congrArg some (by kernel_rfl))
  t0:=Tryz.underlying0
  a0:=Tryz.isAgg0
  z0:=Tryz.sizeOf0
  v0:=Tryz.zeroValue0
  t2:=Tryz.underlying2
  a2:=Tryz.isAgg2
  z2:=Tryz.sizeOf2
  v2:=Tryz.zeroValue2
  t3:=Tryz.underlying3
  a3:=Tryz.isAgg3
  z3:=Tryz.sizeOf3
  v3:=Tryz.zeroValue3
  t4:=Tryz.underlying4
  a4:=Tryz.isAgg4
  z4:=Tryz.sizeOf4
  v4:=Tryz.zeroValue4
  t5:=Tryz.underlying5
  a5:=Tryz.isAgg5
  z5:=Tryz.sizeOf5
  v5:=Tryz.zeroValue5
  t9:=Tryz.underlying9
  a9:=Tryz.isAgg9
  z9:=Tryz.sizeOf9
  v9:=Tryz.zeroValue9
  t20:=Tryz.underlying20
  a20:=Tryz.isAgg20
  z20:=Tryz.sizeOf20
  v20:=Tryz.zeroValue20
  t21:=Tryz.underlying21
  a21:=Tryz.isAgg21
  z21:=Tryz.sizeOf21
  v21:=Tryz.zeroValue21
  t37:=Tryz.underlying72
  a37:=Tryz.isAgg72
  z37:=Tryz.sizeOf72
  v37:=Tryz.zeroValue72
  t46:=Tryz.underlying120
  a46:=Tryz.isAgg120
  z46:=Tryz.sizeOf120
  v46:=Tryz.zeroValue120
  t51:=Tryz.underlying129
  a51:=Tryz.isAgg129
  z51:=Tryz.sizeOf129
  v51:=Tryz.zeroValue129
  t53:=Tryz.underlying111
  a53:=Tryz.isAgg111
  z53:=Tryz.sizeOf111
  v53:=Tryz.zeroValue111
  t75:=Tryz.underlying75
  a75:=Tryz.isAgg75
  z75:=Tryz.sizeOf75
  v75:=Tryz.zeroValue75
  t76:=Tryz.underlying76
  a76:=Tryz.isAgg76
  z76:=Tryz.sizeOf76
  v76:=Tryz.zeroValue76
  t85:=Tryz.underlying104
  a85:=Tryz.isAgg104
  z85:=Tryz.sizeOf104
  v85:=Tryz.zeroValue104
  t127:=Tryz.underlying99
  a127:=Tryz.isAgg99
  z127:=Tryz.sizeOf99
  v127:=Tryz.zeroValue99
  t143:=Tryz.underlying139
  a143:=Tryz.isAgg139
  z143:=Tryz.sizeOf139
  v143:=Tryz.zeroValue139
  t145:=Tryz.underlying141
  a145:=Tryz.isAgg141
  z145:=Tryz.sizeOf141
  v145:=Tryz.zeroValue141
  t167:=Tryz.underlying103
  a167:=Tryz.isAgg103
  z167:=Tryz.sizeOf103
  v167:=Tryz.zeroValue103
  t168:=Tryz.underlying106
  a168:=Tryz.isAgg106
  z168:=Tryz.sizeOf106
  v168:=Tryz.zeroValue106
  t171:=Tryz.underlying110
  a171:=Tryz.isAgg110
  z171:=Tryz.sizeOf110
  v171:=Tryz.zeroValue110
  t173:=Tryz.underlying114
  a173:=Tryz.isAgg114
  z173:=Tryz.sizeOf114
  v173:=Tryz.zeroValue114
  t175:=Tryz.underlying121
  a175:=Tryz.isAgg121
  z175:=Tryz.sizeOf121
  v175:=Tryz.zeroValue121
  t210:=Tryz.underlying125
  a210:=Tryz.isAgg125
  z210:=Tryz.sizeOf125
  v210:=Tryz.zeroValue125
  t212:=Tryz.underlying128
  a212:=Tryz.isAgg128
  z212:=Tryz.sizeOf128
  v212:=Tryz.zeroValue128
  t213:=Tryz.underlying130
  a213:=Tryz.isAgg130
  z213:=Tryz.sizeOf130
  t232:=Tryz.underlying143
  a232:=Tryz.isAgg143
  z232:=Tryz.sizeOf143
  v232:=Tryz.zeroValue143
  t233:=Tryz.underlying144
  a233:=Tryz.isAgg144
  z233:=Tryz.sizeOf144
  v233:=Tryz.zeroValue144
  g15:=by kernel_rfl
  g16:=by kernel_rfl
  g17:=by kernel_rfl
  g18:=by kernel_rfl
  g19:=by kernel_rfl
  t80:=Tryz.underlying42
  a80:=Tryz.isAgg42
  z80:=Tryz.sizeOf42
  v80:=Tryz.zeroValue42
  i0:=by kernel_rfl
  i2:=by kernel_rfl
  i3:=by kernel_rfl
  i4:=by kernel_rfl
  i5:=by kernel_rfl
  i9:=by kernel_rfl
  i20:=by kernel_rfl
  i21:=by kernel_rfl
  i37:=by kernel_rfl
  i46:=by kernel_rfl
  i51:=by kernel_rfl
  i53:=by kernel_rfl
  i75:=by kernel_rfl
  i76:=by kernel_rfl
  i80:=by kernel_rfl
  i85:=by kernel_rfl
  i127:=by kernel_rfl
  i143:=by kernel_rfl
  i145:=by kernel_rfl
  i167:=by kernel_rfl
  i168:=by kernel_rfl
  i171:=by kernel_rfl
  i173:=by kernel_rfl
  i175:=by kernel_rfl
  i210:=by kernel_rfl
  i212:=by kernel_rfl
  i232:=by kernel_rfl
  i233:=by kernel_rfl
  m15:=by kernel_rfl
  m16:=by kernel_rfl
  m17:=by kernel_rfl
  m18:=by kernel_rfl
  m19:=by kernel_rfl
  c0:=by kernel_rfl
  c2:=by kernel_rfl
  c3:=by kernel_rfl
  c4:=by kernel_rfl
  c5:=by kernel_rfl
  c9:=by kernel_rfl
  c20:=by kernel_rfl
  c21:=by kernel_rfl
  c37:=by kernel_rfl
  c46:=by kernel_rfl
  c51:=by kernel_rfl
  c53:=by kernel_rfl
  c75:=by kernel_rfl
  c76:=by kernel_rfl
  c80:=by kernel_rfl
  c85:=by kernel_rfl
  c127:=by kernel_rfl
  c143:=by kernel_rfl
  c145:=by kernel_rfl
  c167:=by kernel_rfl
  c168:=by kernel_rfl
  c171:=by kernel_rfl
  c173:=by kernel_rfl
  c175:=by kernel_rfl
  c210:=by kernel_rfl
  c212:=by kernel_rfl
  c213:=by kernel_rfl
  c232:=by kernel_rfl
  c233:=by kernel_rfl
end

section
open Go.RowKit Go.Deep Go.Shelf
def Ago (n:Int):ByteArray:=⟨(Lib.itoa n).toArray⟩
def Bj (a0:Int):Option ByteArray:=og (-9223372036854775808<=a0/\a0<=9223372036854775807) (some (Ago a0))
def Nw (r:ByteArray):RV:=⟨false,[(false,[.sc (.str r)])]⟩
theorem E3 {a0:Int} {r:ByteArray} (h:Bj a0=some r):Bs Tryz.prog Tab 40 [.int .i64 a0] (Nw r):=by
 unfold Bj og at h;split at h
 ·rename_i hc;obtain rfl:=osj h;intro w im vs hG hr;obtain ⟨u1,_,rfl,h1,h2⟩:=hr;obtain rfl:_=[]:=h2;obtain rfl:u1=.int .i64 a0:=h1;refine (Any.strconv_Itoa Abh a0 oM oM w (hG w (Below.refl _ _)).1).mono ?_;rintro e w' ⟨rfl,k,os,rfl⟩;have hb:Below w.heap.size w (Sort.grow (w.drewN k) os):=⟨rfl,rfl,rfl,by simp [Sort.grow,World.drewN],fun j hj=>by simp [Sort.grow,World.drewN,Array.getElem?_append_left hj]⟩
  exact ⟨_,rfl,hb,
   [_],[],⟨_,[],rfl,rfl,rfl,rfl,rfl⟩,⟨trivial,fun _=>rfl⟩,rfl⟩
 ·cases h
def Zm (xs:List ByteArray) (sep:ByteArray):ByteArray:=⟨(Lib.join (xs.map (·.data.toList)) sep.data.toList).toArray⟩
def De (a0:List ByteArray) (a1:ByteArray):Option ByteArray:=og (a0.length<=1073741824/\(Zm a0 a1).size<=140737488355328) (some (Zm a0 a1))
def N1 (r:ByteArray):RV:=⟨false,[(false,[.sc (.str r)])]⟩
theorem I4 {a0:List ByteArray} {a1 r:ByteArray} (h:De a0 a1=some r):Bs Tryz.prog Tab 43 [.tree .str a0,.str a1] (N1 r):=by
 unfold De og at h;split at h
 ·rename_i hc;obtain rfl:=osj h;intro w im vs hG hr;obtain ⟨u1,_,rfl,h1,u2,_,rfl,h2,h3⟩:=hr;obtain rfl:_=[]:=h3;obtain rfl:u2=.string a1:=h2;obtain ⟨A,c,l,rfl,hl1,hl2,f,-,hf⟩:=h1
  have key:Calls Tryz.prog 43 #[.slice A a0.length c,.string a1] w fun e w'=>e=.returned (.string (Zm a0 a1))/\Below w.heap.size w w':=by
   by_cases h0:a0=[]
   ·subst h0;exact (Any.strings_Join_none U3 Vm A c a1 w).mono fun e w' ⟨he,hw⟩=>⟨he,hw▸Below.refl _ _⟩
   ·have hp:0<a0.length:=by cases a0 with|nil=>exact absurd rfl h0|cons _ _=>simp
    obtain ⟨ad,rfl,-,hm⟩:=hf hp;obtain ⟨b,off,sp⟩:=ad;have hc0:w.cell? ⟨b,off,sp⟩=some (.string a0[0]):=by have:=(hm 0 hp).1;simpa [Addr.add] using this
    obtain rfl:sp=none:=World.cell?_spot hc0;refine Any.strings_Join U3 Vm b off c a0 a1 w (fun j x hx=>?_) (World.block_lt_of_cell? w _ hc0) oM hl1 ?_
    ·obtain ⟨hj,rfl⟩:=gSi.1 hx;rw [show (⟨b,off+j,none⟩:Addr)=(⟨b,off,none⟩:Addr).add (j*Ty.str.size) from by simp [Addr.add,Ty.size]];exact (hm j hj).1
    ·have:=hc.2
     simpa [Zm,ByteArray.size] using this
  refine key.mono ?_;rintro e w' ⟨rfl,hb⟩;exact ⟨_,rfl,hb,[_],[],⟨_,[],rfl,rfl,rfl,rfl,rfl⟩,⟨trivial,fun _=>rfl⟩,rfl⟩
 ·cases h
def Ur (s sep:ByteArray):List ByteArray:=Lib.splitB sep 0 (Lib.countB s sep) s
def Dr (a0 a1:ByteArray):Option (List ByteArray):=og (a0.size<1073741823/\1<=a1.size) (some (Ur a0 a1))
def Mr (r:List ByteArray):RV:=⟨false,[(false,[.frz (.tree .str r)])]⟩
theorem Mp {a0 a1:ByteArray} {r:List ByteArray} (h:Dr a0 a1=some r):Bs Tryz.prog Tab 32 [.str a0,.str a1] (Mr r):=by
 unfold Dr og at h;split at h
 ·rename_i hc;obtain rfl:=osj h;intro w im vs hG hr;obtain ⟨u1,_,rfl,h1,u2,_,rfl,h2,h3⟩:=hr;obtain rfl:_=[]:=h3;obtain rfl:u1=.string a0:=h1;obtain rfl:u2=.string a1:=h2;obtain ⟨m,hm⟩:=(hG w (Below.refl _ _)).len;refine (Any.strings_Split Adf (by kernel_rfl) a0 a1 m w oM hm hc.2).mono ?_;rintro e w' ⟨rfl,rfl⟩;have hlen:(Ur a0 a1).length=Lib.countB a0 a1+1:=Lib.splitB_all a1 hc.2 0 _ a0 rfl;have hle:=Lib.countB_le a1 hc.2 a0.size a0 (Nat.le_refl _)
  have hcell:∀ (i:Nat) (hi:i<(Ur a0 a1).length),(w.alloc (.cells ((Ur a0 a1).map Value.string).toArray (U4.t 9))).cell? ⟨w.heap.size,i,none⟩=some (.string (Ur a0 a1)[i]):=fun i hi=>by
   simp [hi]
  refine ⟨_,rfl,Below.alloc (Below.refl _ _) (Nat.le_refl _) _,[_],[],⟨_,[],rfl,⟨some ⟨w.heap.size,0,none⟩,Lib.countB a0 a1+1,(List.range (Ur a0 a1).length).flatMap fun i=>[⟨w.heap.size,i,none⟩],by rw [hlen],?_⟩,rfl,rfl,rfl⟩,⟨trivial,fun _=>rfl⟩,rfl⟩;refine ⟨by omega,?_,fun i=>[⟨w.heap.size,i,none⟩],rfl,fun _=>⟨_,rfl,Nat.le_refl _,fun i hi=>?_⟩⟩
  ·have:maxLen=1099511627776∨True:=.inr trivial
   first|omega|(refine Nat.le_trans (show Lib.countB a0 a1+1<=1073741824 by omega) (by decide))
  ·have ea:(⟨w.heap.size,0,none⟩:Addr).add (i*Ty.str.size)=⟨w.heap.size,i,none⟩:=by
    by_cases h:i=0 <;> simp [Addr.add,Ty.size,h]
   rw [ea];exact ⟨hcell i hi,rfl⟩
 ·cases h
def Tv (s:ByteArray):Int×Bool:=match Lib.atoiAll s.data.toList with
 | .ok v=>(v,false)
 | .range=>(Lib.atoiSat s.data.toList,true)
 | _=>(0,true)
def Fl (a0:ByteArray):Option (Int×Bool):=og (a0.size<=1073741824) (some (Tv a0))
def N4 (r:Int×Bool):RV:=⟨true,[(false,[.sc (.int .i64 r.1)]),(false,[.sc (.err r.2 none)])]⟩
theorem N5 {a0:ByteArray} {r:Int×Bool} (h:Fl a0=some r):Bs Tryz.prog Tab 48 [.str a0] (N4 r):=by
 unfold Fl og at h;split at h
 ·rename_i hc;obtain rfl:=osj h;intro w im vs hG hr;obtain ⟨u1,_,rfl,h1,h2⟩:=hr;obtain rfl:_=[]:=h2;obtain rfl:u1=.string a0:=h1
  have key:Calls Tryz.prog 48 #[.string a0] w fun e w'=>(∃ ev,e=.returned (.tuple #[.int .i64 (Tv a0).1,ev])/\(((Tv a0).2=false/\ev=.nilIface)∨((Tv a0).2=true/\∃ t u,ev=.iface t u/\∀ T xs,(none:Option (TypeId×(Nat ⊕ List Int)))=some (T,xs)->t=T/\(∀ n,xs=.inl n->∃ us:List Value,us.length=n/\u=.agg us.toArray)/\∀ l,xs=.inr l->u=.agg (l.map (Value.int .i64)).toArray)))/\Below w.heap.size w w':=by
   have hT:=(hG w (Below.refl _ _)).2.2;unfold Tv;cases hA:Lib.atoiAll a0.data.toList with
   | ok v =>
    refine (Any.strconv_Atoi_ok Qf a0 oM v hA w).mono ?_;rintro e w' ⟨rfl,hw⟩;refine ⟨⟨_,rfl,.inl ⟨rfl,rfl⟩⟩,?_⟩;rcases hw with rfl|⟨t,rfl⟩
    ·exact Below.refl _ _
    ·exact Lib.bytesWorld_below _ _ _
   | range =>
    obtain ⟨ev,hv,hev⟩:=hT.2;refine (Any.strconv_Atoi_range Qf a0 oM hA ev w hv hev).mono ?_;rintro e w' ⟨n,rfl,-,-,hb⟩;exact ⟨⟨_,rfl,.inr ⟨rfl,_,_,rfl,fun _ _ h=>nomatch h⟩⟩,hb⟩
   | _ =>
    obtain ⟨ev,hv,hev⟩:=hT.1;refine (Any.strconv_Atoi_syntax Qf a0 oM hA ev w hv hev).mono ?_;rintro e w' ⟨n,rfl,-,-,hb⟩;exact ⟨⟨_,rfl,.inr ⟨rfl,_,_,rfl,fun _ _ h=>nomatch h⟩⟩,hb⟩
  refine key.mono ?_;rintro e w' ⟨⟨ev,rfl,hev⟩,hb⟩;exact ⟨_,rfl,hb,[_,_],[],⟨_,[_],rfl,rfl,rfl,_,[],rfl,hev,rfl,rfl,rfl⟩,⟨trivial,fun _=>rfl⟩,rfl⟩
 ·cases h
end
section
open Go.RowKit Go.Deep Go.Shelf
def Ac9:Go.Shelf.Ren:=⟨fun|145=>50|220=>68|219=>76|217=>91|225=>92|224=>93|267=>94|266=>103|314=>104|n=>n,fun|9=>9|4=>4|59=>81|3=>3|5=>5|46=>120|146=>136|51=>129|n=>n,fun|1=>0|n=>n⟩
theorem Acu:Lays.n145 Tryz.prog Ac9 where
  mixed:=by kernel_rfl
  f145:=Tryz.func50.trans (congrArg some (by kernel_rfl))
  f217:=Tryz.func91.trans (congrArg some (by kernel_rfl))
  f219:=Tryz.func76.trans (congrArg some (by kernel_rfl))
  f220:=Tryz.func68.trans (congrArg some (by kernel_rfl))
  f224:=Tryz.func93.trans (congrArg some (by kernel_rfl))
  f225:=Tryz.func92.trans (congrArg some (by kernel_rfl))
  f266:=Tryz.func103.trans (congrArg some (by kernel_rfl))
  f267:=Tryz.func94.trans (congrArg some (by kernel_rfl))
  f314:=Tryz.func104.trans (congrArg some (by kernel_rfl))
  t3:=Tryz.underlying3
  a3:=Tryz.isAgg3
  z3:=Tryz.sizeOf3
  v3:=Tryz.zeroValue3
  t4:=Tryz.underlying4
  a4:=Tryz.isAgg4
  z4:=Tryz.sizeOf4
  v4:=Tryz.zeroValue4
  t5:=Tryz.underlying5
  a5:=Tryz.isAgg5
  z5:=Tryz.sizeOf5
  v5:=Tryz.zeroValue5
  t9:=Tryz.underlying9
  a9:=Tryz.isAgg9
  z9:=Tryz.sizeOf9
  v9:=Tryz.zeroValue9
  t46:=Tryz.underlying120
  a46:=Tryz.isAgg120
  z46:=Tryz.sizeOf120
  v46:=Tryz.zeroValue120
  t51:=Tryz.underlying129
  a51:=Tryz.isAgg129
  z51:=Tryz.sizeOf129
  v51:=Tryz.zeroValue129
  t59:=Tryz.underlying81
  a59:=Tryz.isAgg81
  z59:=Tryz.sizeOf81
  v59:=Tryz.zeroValue81
  t146:=Tryz.underlying136
  a146:=Tryz.isAgg136
  z146:=Tryz.sizeOf136
  v146:=Tryz.zeroValue136
  g1:=by kernel_rfl
end

section
open Go.RowKit Go.Deep Go.Shelf
def Abp:Go.Shelf.Ren:=⟨fun|104=>51|211=>69|207=>83|n=>n,fun|9=>9|4=>4|24=>83|3=>3|n=>n,fun  | n=>n⟩
theorem Ac8:Lays.n104 Tryz.prog Abp where
  mixed:=by kernel_rfl
  f104:=Tryz.func51.trans (congrArg some (by kernel_rfl))
  f207:=Tryz.func83.trans (congrArg some (by kernel_rfl))
  f211:=Tryz.func69.trans (congrArg some (by kernel_rfl))
  t3:=Tryz.underlying3
  a3:=Tryz.isAgg3
  z3:=Tryz.sizeOf3
  v3:=Tryz.zeroValue3
  t4:=Tryz.underlying4
  a4:=Tryz.isAgg4
  z4:=Tryz.sizeOf4
  v4:=Tryz.zeroValue4
  t9:=Tryz.underlying9
  a9:=Tryz.isAgg9
  z9:=Tryz.sizeOf9
  v9:=Tryz.zeroValue9
  t24:=Tryz.underlying83
  a24:=Tryz.isAgg83
  z24:=Tryz.sizeOf83
  v24:=Tryz.zeroValue83
end

section
open Go.RowKit Go.Deep Go.Shelf
def Dc (s sep:ByteArray):ByteArray×ByteArray×Bool:=(⟨(Lib.cut s.data.toList sep.data.toList).1.toArray⟩,⟨(Lib.cut s.data.toList sep.data.toList).2.1.toArray⟩,(Lib.cut s.data.toList sep.data.toList).2.2)
def Bx (a0 a1:ByteArray):Option (ByteArray×ByteArray×Bool):=og (a0.size<=1073741824) (some (Dc a0 a1))
def Ps (r:ByteArray×ByteArray×Bool):RV:=⟨true,[(false,[.sc (.str r.1)]),(false,[.sc (.str r.2.1)]),(false,[.sc (.bool r.2.2)])]⟩
theorem Oo {a0 a1:ByteArray} {r:ByteArray×ByteArray×Bool} (h:Bx a0 a1=some r):Bs Tryz.prog Tab 50 [.str a0,.str a1] (Ps r):=by
 unfold Bx og at h;split at h
 ·rename_i hc;obtain rfl:=osj h;intro w im vs hG hr;obtain ⟨u1,_,rfl,h1,u2,_,rfl,h2,h3⟩:=hr;obtain rfl:_=[]:=h3;obtain rfl:u1=.string a0:=h1;obtain rfl:u2=.string a1:=h2;obtain ⟨m,hm⟩:=(hG w (Below.refl _ _)).len;refine (Any.strings_Cut Acu a0 a1 m w oM hm).mono ?_;rintro e w' ⟨rfl,n,rfl⟩;have hb:Below w.heap.size w (w.drewN n):=⟨rfl,rfl,rfl,Nat.le_refl _,fun j hj=>rfl⟩
  exact ⟨_,rfl,hb,[_,_,_],[],⟨_,[_,_],rfl,rfl,rfl,_,[_],rfl,rfl,rfl,_,[],rfl,rfl,rfl,rfl,rfl⟩,⟨trivial,fun _=>rfl⟩,rfl⟩
 ·cases h
def Kx (s p:ByteArray):ByteArray×Bool:=(⟨(Lib.trimSuffix s.data.toList p.data.toList).toArray⟩,Lib.hasSuffix s.data.toList p.data.toList)
def Bd (a0 a1:ByteArray):Option (ByteArray×Bool):=og (a0.size<=1073741824) (some (Kx a0 a1))
def Jz (r:ByteArray×Bool):RV:=⟨true,[(false,[.sc (.str r.1)]),(false,[.sc (.bool r.2)])]⟩
theorem I8 {a0 a1:ByteArray} {r:ByteArray×Bool} (h:Bd a0 a1=some r):Bs Tryz.prog Tab 51 [.str a0,.str a1] (Jz r):=by
 unfold Bd og at h;split at h
 ·rename_i hc;obtain rfl:=osj h;intro w im vs hG hr;obtain ⟨u1,_,rfl,h1,u2,_,rfl,h2,h3⟩:=hr;obtain rfl:_=[]:=h3;obtain rfl:u1=.string a0:=h1;obtain rfl:u2=.string a1:=h2;refine (Any.strings_CutSuffix Ac8 a0 a1 w oM).mono ?_;rintro e w' ⟨rfl,rfl⟩;exact ⟨_,rfl,Below.refl _ _,[_,_],[],⟨_,[_],rfl,rfl,rfl,_,[],rfl,rfl,rfl,rfl,rfl⟩,⟨trivial,fun _=>rfl⟩,rfl⟩
 ·cases h
end
section
open Go.RowKit Go.Deep
end
section
open Go.RowKit Go.Deep
section
variable {n:Nat} {d:Option Nat} {f:Nat->AV} {ob:Oid->Option Ob}
end
end
section
open Go.RowKit Go.Deep
end
section
open Go.RowKit Go.Deep
def GN (G:World->Prop) (n:Nat) (w:World):Prop:=G w/\n<=w.heap.size
def AV.toR (R:Nat->Prop):AV->AV
 | .tree t xs=>.ftr R t xs
 | c=>c
def RL.toR (R:Nat->Prop):RL->RL
 | .frz c=>.frz (c.toR R)
 | .imm c=>.imm (c.toR R)
 | l=>l
def RV.toR (R:Nat->Prop) (r:RV):RV:=⟨r.tup,r.ps.map fun p=>(p.1,p.2.map (RL.toR R))⟩
section
variable {P:Program} {G:World->Prop} {f:FuncId} {args:List AV} {r:RV} {n:Nat} {R:Nat->Prop}
theorem Qb (h:Bs P G f args r):Bs P (GN G n) f args r:=fun w im vs hG hr=>h w im vs (fun w' hb=>(hG w' hb).1) hr
theorem X5 {c:AV} (h:c.gndB=true):(c.toR R).gndB=true:=by
 cases c <;> first|exact h|rfl
theorem Ye {c:AV} {im im':Nat->Prop} {w:World} {u:Value} (hg:c.gndB=true) (h1:∀ b,im b->im' b) (h2:∀ b,im b->R b) (h:AV.Rep (fun _=>none) im w c u):AV.Rep (fun _=>none) im' w (c.toR R) u:=by
 cases c <;> first|exact Gz h1 _ hg _ h|skip
 obtain ⟨A,c,l,e,hs⟩:=h;exact ⟨A,c,l,e,Al (fun b _ hb=>⟨h1 b hb,h2 b hb⟩) hs⟩
theorem Gd {lo:Nat} {im im':Nat->Prop} {vs:List Value} {w:World} (hR:∀ b,lo<=b->R b) (him:∀ b,im' b->im b):∀ {rs:List RL} {us:List Value} {ls:List Loc},(∀ l∈rs,l.isI=true->∀ b,im' b->R b)->RL.RepL lo im' vs w rs us ls->RL.RepL lo im vs w (rs.map (RL.toR R)) us ls
 | [],_,_,_,h=>h
 | .sc c :: _,_,_,hI,⟨u,us',e,q1,q2,q3⟩=>⟨u,us',e,(by cases c <;> first|exact q1|cases q2),q2,Gd hR him (fun l hl=>hI l (List.mem_cons_of_mem _ hl)) q3⟩
 | .new _ _ _ :: _,_,_,hI,⟨l,ls',us',e1,e2,q1,q2,q3,q4⟩=>⟨l,ls',us',e1,e2,q1,q2,q3,Gd hR him (fun l hl=>hI l (List.mem_cons_of_mem _ hl)) q4⟩
 | .newM _ _ _ _ :: _,_,_,hI,⟨l,kl,ls',us',ks,e1,e2,q,q4⟩=>⟨l,kl,ls',us',ks,e1,e2,q,Gd hR him (fun l hl=>hI l (List.mem_cons_of_mem _ hl)) q4⟩
 | .arg _ _ :: _,_,_,hI,⟨u,us',e,q1,q3⟩=>⟨u,us',e,q1,Gd hR him (fun l hl=>hI l (List.mem_cons_of_mem _ hl)) q3⟩
 | .argS _ _ _ _ _ :: _,_,_,hI,⟨A,m,c,us',e,q1,q3⟩=>⟨A,m,c,us',e,q1,Gd hR him (fun l hl=>hI l (List.mem_cons_of_mem _ hl)) q3⟩
 | .frz c :: _,_,_,hI,⟨u,us',e,q1,q2,q3⟩=>⟨u,us',e,Ye q2 (fun _ h=>h) (fun b hb=>hR b hb) q1,X5 q2,Gd hR him (fun l hl=>hI l (List.mem_cons_of_mem _ hl)) q3⟩
 | .imm c :: _,_,_,hI,⟨u,us',e,q1,q2,q3⟩=>⟨u,us',e,Ye q2 (fun b hb=>hb.imp (him b) id) (fun b hb=>hb.elim (hI _ List.mem_cons_self rfl b) (hR b)) q1,X5 q2,Gd hR him (fun l hl=>hI l (List.mem_cons_of_mem _ hl)) q3⟩
theorem Ou:∀ (ps:List (Bool×List RL)) (us:List Value),Ec (ps.map fun p=>(p.1,p.2.map (RL.toR R))) us=Ec ps us
 | [],_=>rfl
 | (b,rs) :: ps,us=>by simp only [List.map_cons,Ec,List.length_map,Ou ps]
theorem Pm (r:RV):(r.toR R).leaves=r.leaves.map (RL.toR R):=by
 simp only [RV.leaves,RV.toR,List.flatMap_map,List.map_flatMap]
theorem Af1 (l:RL):(l.toR R).fi=l.fi:=by cases l <;> rfl
theorem Aee {lo:Nat} {im im':Nat->Prop} {vs:List Value} {w:World} {u:Value} (hR:∀ b,lo<=b->R b) (him:∀ b,im' b->im b) (hI:(∃ l∈r.leaves,l.isI=true)->∀ b,im' b->R b) (h:r.Rep lo im' vs w u):(r.toR R).Rep lo im vs w u:=by
 obtain ⟨us,ls,q1,⟨q2,q3⟩,q4⟩:=h;refine ⟨us,ls,by rw [Pm];exact Gd hR him (fun l hl hi=>hI ⟨l,hl,hi⟩) q1,⟨q2,fun ⟨c,hc,hd⟩=>q3 ?_⟩,?_⟩
 ·rw [Pm] at hc;obtain ⟨l,hl,e⟩:=List.mem_map.1 hc;subst e;rw [Af1] at hd;exact ⟨l,hl,hd⟩
 ·rw [q4];simp only [RV.toR,Ou]
theorem Aeq (hR:∀ b,n<=b->R b) (h:Bs P G f args r) (hni:r.noI=true:=by kernel_rfl):Bs P (GN G n) f args (r.toR R):=by
 intro w im vs hG hr;have hn:n<=w.heap.size:=(hG w (Below.refl _ _)).2;refine (h w im vs (fun w' hb=>(hG w' hb).1) hr).mono ?_;rintro e w' ⟨u,rfl,hb,hrv⟩;refine ⟨u,rfl,hb,Aee (fun b hb=>hR b (Nat.le_trans hn hb)) (fun _ h=>h) (fun ⟨l,hl,hi⟩=>?_) hrv⟩;have:=List.all_eq_true.1 hni l hl;rw [hi] at this;cases this
mutual
def AV.unR (R:Nat->Prop):AV->AV->Prop
 | .tree t xs,d=>d=.ftr R t xs
 | .agg cs,d=>∃ ds,d=.agg ds/\AV.unRL R cs ds
 | c,d=>c.scal=true/\d=c
def AV.unRL (R:Nat->Prop):List AV->List AV->Prop
 | [],ds=>ds=[]
 | c :: cs,ds=>∃ d ds',ds=d :: ds'/\AV.unR R c d/\AV.unRL R cs ds'
end
mutual
theorem Aec {im:Nat->Prop} {w:World}:∀ (c d:AV) (u:Value),AV.unR R c d->AV.Rep (fun _=>none) im w d u->AV.Rep (fun _=>none) (fun b=>im b/\R b) w c u
 | .tree t xs,d,u,h,hr=>by
  have h:d=.ftr R t xs:=h;subst h;exact hr
 | .agg cs,d,u,⟨ds,e,h⟩,hr=>by
  subst e;obtain ⟨us,e,hr⟩:=hr;exact ⟨us,e,V5 cs ds us h hr⟩
 | .int ..,d,u,⟨_,e⟩,hr=>by subst e;exact hr
 | .bool ..,d,u,⟨_,e⟩,hr=>by subst e;exact hr
 | .str ..,d,u,⟨_,e⟩,hr=>by subst e;exact hr
 | .err ..,d,u,⟨h,e⟩,hr=>by first|(cases h;done)|(subst e;exact hr)
 | .nils,d,u,⟨_,e⟩,hr=>by subst e;exact hr
 | .any,d,u,⟨h,_⟩,_=>by cases h
 | .mtree ..,d,u,⟨h,_⟩,_=>by cases h
 | .ftr ..,d,u,⟨h,_⟩,_=>by cases h
 | .mp _,d,u,⟨h,_⟩,_=>by cases h
 | .tup _,d,u,⟨h,_⟩,_=>by cases h
 | .fn ..,d,u,⟨h,_⟩,_=>by cases h
 | .ref _,d,u,⟨h,_⟩,_=>by cases h
 | .own ..,d,u,⟨h,_⟩,_=>by cases h
 | .box ..,d,u,⟨h,_⟩,_=>by cases h
 | .elt ..,d,u,⟨h,_⟩,_=>by cases h
 | .sla ..,d,u,⟨h,_⟩,_=>by cases h
 | .telt ..,d,u,⟨h,_⟩,_=>by cases h
 | .giv ..,d,u,⟨h,_⟩,_=>by cases h
 | .abool ..,d,u,⟨h,_⟩,_=>by cases h
theorem V5 {im:Nat->Prop} {w:World}:∀ (cs ds:List AV) (us:List Value),AV.unRL R cs ds->AV.RepL (fun _=>none) im w ds us->AV.RepL (fun _=>none) (fun b=>im b/\R b) w cs us
 | [],ds,us,h,hr=>by obtain rfl:ds=[]:=h;exact hr
 | c :: cs,ds,us,⟨d,ds',e,h1,h2⟩,hr=>by
  subst e;obtain ⟨u,us',e,r1,r2⟩:=hr;exact ⟨u,us',e,Aec c d u h1 r1,V5 cs ds' us' h2 r2⟩
end
end
-- rows of things that nobody writes
theorem Adz {m:Option (Nat->Prop)} {t:Ty} (xs:List t.D):(tvC m t xs).length=xs.length*t.size:=by
 unfold tvC
 induction xs with
 | nil=>simp
 | cons x xs ih=>rw [List.flatMap_cons,List.length_append,ih,Dl,List.length_cons,Nat.succ_mul];omega
theorem V7 {ob:Oid->Option Ob} (m:Option (Nat->Prop)):∀ (t:Ty) (x:t.D),rdC ob t (t.avM m x)=some x
 | .int,_=>rfl
 | .bool,_=>rfl
 | .str,_=>rfl
 | .slice t,xs=>by
  have:D4 ob t (trM m t xs)=some xs:=by cases m <;> simp only [trM,D4,Ty.eq?_self,C5]
  simp only [Ty.avM,rdC,this]
 | .pair a b,x=>by
  have h1:(a.avM m x.1++b.avM m x.2).take a.size=a.avM m x.1:=List.take_left' (Dl m a x.1);have h2:(a.avM m x.1++b.avM m x.2).drop a.size=b.avM m x.2:=List.drop_left' (Dl m a x.1);simp only [Ty.avM,rdC,h1,h2,V7 m a,V7 m b]
theorem Ro {ob:Oid->Option Ob} {m:Option (Nat->Prop)} {t:Ty}:∀ (xs:List t.D),Jt (rdC ob t) t.size xs.length (tvC m t xs)=some xs
 | []=>rfl
 | x :: xs=>by
  have h1:(tvC m t (x :: xs)).take t.size=t.avM m x:=List.take_left' (Dl m t x);have h2:(tvC m t (x :: xs)).drop t.size=tvC m t xs:=List.drop_left' (Dl m t x);simp only [List.length_cons,Jt,h1,h2,V7,Ro xs]
section
variable {ob:Oid->Option Ob}
theorem Agp {n len:Nat} {o:Oid} {e:TypeId} {m:Option (Nat->Prop)} {t:Ty} {xs:List t.D} (ho:ob o=some (.vec e t.size xs.length (tvC m t xs))) (hl:len=xs.length):gnd ob (n+1) (.own o t 0 len)=some (.tree t xs):=by
 subst hl
 have:Vr ob t.size (rdC ob t) (.own o t 0 xs.length)=some xs:=by
  simp only [Vr,ho];rw [if_pos ⟨trivial,by omega⟩,Nat.zero_mul,List.drop_zero,List.take_of_length_le (by rw [Adz];exact Nat.le_refl _)];exact Ro xs
 simp only [gnd,ho,this,Option.map_some]
end
section
variable {n:Nat} {d:Option Nat} {f:Nat->AV} {ob:Oid->Option Ob}
end
-- results
inductive T5 (R:Nat->Prop) (ob:Oid->Option Ob):AV->AV->Prop
 | ftr {t:Ty} {xs:List t.D}:T5 R ob (.ftr R t xs) (.tree t xs)
 | nil {t:Ty}:T5 R ob .nils (.tree t [])
 | arr {i:Oid} {t u:Ty} {e:TypeId} {xs:List u.D} {len:Nat}:ob i=some (.arr e u xs)->len=xs.length->T5 R ob (.own i t 0 len) (.tree u xs)
 | mat {o p:Oid} {e1 e:TypeId} {u:Ty} {xss:List (List u.D)} {len:Nat}:ob o=some (.vec e1 1 xss.length (hdL p u xss))->(∀ k row,xss[k]? =some row->ob (kid p k)=some (.arr e u row))->len=xss.length->T5 R ob (.own o (.slice u) 0 len) (.tree (.slice u) xss)
 | tv {o:Oid} {e:TypeId} {t:Ty} {xs:List t.D} {len:Nat}:ob o=some (.vec e t.size xs.length (tvC (some R) t xs))->len=xs.length->T5 R ob (.own o t 0 len) (.tree t xs)
 | fnM {F:FuncId} {i j:Oid} {ty mt:TypeId} {t:Ty} {es:List (Int×t.D)}:ob i=some (.cells ty [.mp j])->ob j=some (.map mt t es)->T5 R ob (.fn F [.box i 0]) (.fn F [.ref [.mtree mt t es]])
section
variable {G:World->Prop} {w0 w:World} {ob:Oid->Option Ob} {σ:Oid->Option Loc} {K:Nat->Prop}
theorem Tp {im im':Nat->Prop} {i:Oid} {t:Ty} {off len:Nat} {v:Value} (h:AV.Rep σ im w (.own i t off len) v):AV.Rep σ im' w (.own i t off len) v:=h
theorem Afv {im im':Nat->Prop} {p:Oid} {u:Ty} {xss:List (List u.D)} {vs:List Value} (h:AV.RepL σ im w (hdL p u xss) vs):AV.RepL σ im' w (hdL p u xss) vs:=by
 have key:∀ (l:List (List u.D×Nat)) (vs:List Value),AV.RepL σ im w (l.map fun x=>.own (kid p x.2) u 0 x.1.length) vs->AV.RepL σ im' w (l.map fun x=>.own (kid p x.2) u 0 x.1.length) vs:=by
  intro l
  induction l with
  | nil=>intro vs h;exact h
  | cons x l ih=>rintro vs ⟨v,vs',e,h1,h2⟩;exact ⟨v,vs',e,Tp h1,ih vs' h2⟩
 exact key _ _ h
theorem Xf {im R:Nat->Prop}:∀ (t:Ty) (x:t.D) (vs:List Value),AV.RepL σ im w (t.avM (some R) x) vs->AV.RepL σ R w (t.av x) vs
 | .int,_,_,⟨v,vs',e,h1,h2⟩=>⟨v,vs',e,h1,h2⟩
 | .bool,_,_,⟨v,vs',e,h1,h2⟩=>⟨v,vs',e,h1,h2⟩
 | .str,_,_,⟨v,vs',e,h1,h2⟩=>⟨v,vs',e,h1,h2⟩
 | .slice t,xs,_,⟨v,vs',e,⟨A,c,l,e1,hs⟩,h2⟩=>⟨v,vs',e,⟨A,c,l,e1,Al (fun b _ hb=>hb.2) hs⟩,h2⟩
 | .pair a b,x,vs,h=>by
  have hl:=h.length;have h1:=h.take a.size;have h2:=h.drop a.size;have e1:((Ty.pair a b).avM (some R) x).take a.size=a.avM (some R) x.1:=List.take_left' (Dl _ a x.1);have e2:((Ty.pair a b).avM (some R) x).drop a.size=b.avM (some R) x.2:=List.drop_left' (Dl _ a x.1);rw [e1] at h1;rw [e2] at h2;have:=(Xf a x.1 _ h1).append (Xf b x.2 _ h2);rw [List.take_append_drop] at this;exact this
theorem Aba {im R:Nat->Prop} {t:Ty}:∀ (xs:List t.D) (vs:List Value),AV.RepL σ im w (tvC (some R) t xs) vs->AV.RepL σ R w (tvC none t xs) vs
 | [],_,h=>h
 | x :: xs,vs,h=>by
  have h1:=h.take t.size;have h2:=h.drop t.size;have e1:(tvC (some R) t (x :: xs)).take t.size=t.avM (some R) x:=List.take_left' (Dl _ t x);have e2:(tvC (some R) t (x :: xs)).drop t.size=tvC (some R) t xs:=List.drop_left' (Dl _ t x);rw [e1] at h1;rw [e2] at h2
  have hav:∀ (t:Ty) (x:t.D),t.avM none x=t.av x:=by
   intro t
   induction t with
   | pair a b ha hb=>intro x;simp only [Ty.avM,Ty.av,ha,hb]
   | _=>intro x;rfl
  have h1':=Xf t x _ h1;rw [← hav] at h1';have:=h1'.append (Aba xs _ h2);rw [List.take_append_drop] at this;exact this
theorem Abf {R:Nat->Prop} (hM:Mem0 G w0 ob σ K w) (hR:∀ b,w0.heap.size<=b->R b) {c d:AV} {v:Value} (h:T5 R ob c d) (hr:AV.Rep σ (imm ob σ) w c v):AV.Rep (fun _=>none) R w d v:=by
 cases h with
 | ftr=>obtain ⟨A,c,l,e,hs⟩:=hr;exact ⟨A,c,l,e,Al (fun b _ hb=>hb.2) hs⟩
 | nil=>exact ⟨none,0,[],hr,by simp,by simp [maxLen],fun _=>[],by simp,fun h=>absurd h (by simp)⟩
 | @arr i t u e xs len h1 h2 =>
  refine Hg (ob:=fun j=>if j=i then some (.arr e u xs) else none) (σ:=σ) (im:=R) (lo:=w0.heap.size) (fun j o l hj hl=>?_) (fun _ hb=>hb) (fun j o b c s _ hs=>hR b (hM.lt j b c s hs).1) 1 _ _ _ (Wk (e:=e) (if_pos rfl) h2) (Tp hr);split at hj
  ·rename_i e';subst e';obtain rfl:=osj hj;exact hM.obs j _ l h1 hl
  ·cases hj
 | @mat o p e1 e u xss len h1 h2 h3 =>
  refine Hg (ob:=fun j=>match ob j with|some (.arr e u xs)=>some (.arr e u xs)|_=>if j=o then some (.vec e1 1 xss.length (hdL p u xss)) else none) (σ:=σ) (im:=R) (lo:=w0.heap.size) (fun j q l hj hl=>?_) (fun _ hb=>hb) (fun j o b c s _ hs=>hR b (hM.lt j b c s hs).1) 1 _ _ _ (Afs (p:=p) (e1:=e1) (e:=e) (by simp only [h1];rw [if_pos trivial]) (fun k row hk=>by simp only [h2 k row hk]) h3) (Tp hr);split at hj
  ·rename_i e' u' xs' hj';obtain rfl:=osj hj;exact hM.obs j _ l hj' hl
  ·split at hj
   ·rename_i e';subst e';obtain rfl:=osj hj;obtain ⟨vs,g1,g2,g3⟩:=hM.obs j _ l h1 hl;exact ⟨vs,g1,Afv g2,g3⟩
   ·cases hj
 | @tv o e t xs len h1 h2 =>
  refine Hg (ob:=fun j=>if j=o then some (.vec e t.size xs.length (tvC none t xs)) else none) (σ:=σ) (im:=R) (lo:=w0.heap.size) (fun j q l hj hl=>?_) (fun _ hb=>hb) (fun j o b c s _ hs=>hR b (hM.lt j b c s hs).1) 1 _ _ _ (Agp (m:=none) (e:=e) (if_pos rfl) h2) (Tp hr);split at hj
  ·rename_i e';subst e';obtain rfl:=osj hj;obtain ⟨vs,g1,g2,g3⟩:=hM.obs j _ l h1 hl;exact ⟨vs,g1,Aba xs vs g2,g3⟩
  ·cases hj
 | @fnM F i j ty mt t es h1 h2 =>
  have hji:j≠i:=by rintro rfl;rw [h1] at h2;cases h2
  refine Hg (ob:=fun x=>if x=i then some (.cells ty [.mp j]) else if x=j then some (.map mt t es) else none) (σ:=σ) (im:=R) (lo:=w0.heap.size) (fun x o l hx hl=>?_) (fun _ hb=>hb) (fun x o b c s _ hs=>hR b (hM.lt x b c s hs).1) 4 _ _ _ (by simp [gnd,Hy,hji]) (show AV.Rep σ R w (.fn F [.box i 0]) v from hr);split at hx
  ·rename_i e';subst e';obtain rfl:=osj hx;have:=hM.obs x _ l h1 hl;cases l with
   | nil=>exact this
   | at_ b c s=>exact this
  ·split at hx
   ·rename_i e';subst e';obtain rfl:=osj hx;have:=hM.obs x _ l h2 hl;cases l with
    | nil=>exact this
    | at_ b c s=>exact this
   ·cases hx
def RL.zl:Bool->AV->RL
 | true,d=>.frz d
 | false,d=>.imm d
def zR (z:Bool) (im:Nat->Prop) (n:Nat) (b:Nat):Prop:=if z then n<=b else im b∨n<=b
theorem Aez {z:Bool} {im:Nat->Prop} {n b:Nat} (h:n<=b):zR z im n b:=by cases z;exact .inr h;exact h
def V4 (R:Nat->Prop) (z:Bool) (ob:Oid->Option Ob) (c:AV) (l:RL):Prop:=(c.scal=true/\l=.sc c)∨∃ d,l=.zl z d/\d.gndB=true/\T5 R ob c d
def Hs (R:Nat->Prop) (z:Bool) (ob:Oid->Option Ob):List AV->List RL->Prop
 | [],ls=>ls=[]
 | c :: cs,ls=>∃ l ls',ls=l :: ls'/\V4 R z ob c l/\Hs R z ob cs ls'
def Hw (R:Nat->Prop) (z:Bool) (ob:Oid->Option Ob):List (Bool×List AV)->List (Bool×List RL)->Prop
 | [],ps=>ps=[]
 | (b,cs) :: r,ps=>∃ ls ps',ps=(b,ls) :: ps'/\Hs R z ob cs ls/\(b=false->cs.length=1)/\Hw R z ob r ps'
def Abo:List (Bool×List AV)->List AV
 | []=>[]
 | (b,cs) :: r=>(if b then .agg cs else cs.headD .any) :: Abo r
def Abm (R:Nat->Prop) (z:Bool) (rs:List Res) (S:St) (r:RV):Prop :=
 ∃ gs ps,Res.evL S.tm S.ob rs=some (Abo gs)/\Hw R z S.ob gs ps/\r=⟨decide (rs.length≠1),ps⟩
theorem Nj {z:Bool} (hM:Mem0 G w0 ob σ K w) {im:Nat->Prop} {vs0:List Value}:∀ {cs:List AV} {ls:List RL} {us:List Value},Hs (zR z im w0.heap.size) z ob cs ls->AV.RepL σ (imm ob σ) w cs us->RL.RepL w0.heap.size im vs0 w ls us []/\ls.length=us.length
 | [],ls,us,h,hr=>by obtain rfl:ls=[]:=h;exact ⟨⟨hr,rfl⟩,by rw [show us=[] from hr];rfl⟩
 | c :: cs,ls,us,⟨l,ls',e,h1,h2⟩,⟨u,us',e',r1,r2⟩=>by
  subst e e';obtain ⟨q1,q2⟩:=Nj hM (im:=im) (vs0:=vs0) h2 r2;refine ⟨?_,by simp [q2]⟩;rcases h1 with ⟨a1,rfl⟩|⟨d,rfl,a1,a2⟩
  ·exact ⟨u,us',rfl,(by cases c <;> first|exact r1|cases a1),a1,q1⟩
  ·have hr:=Abf hM (fun _ h=>Aez h) a2 r1;cases z with
   | true=>exact ⟨u,us',rfl,Gz (fun b h=>h) _ a1 _ hr,a1,q1⟩
   | false=>exact ⟨u,us',rfl,Gz (fun b h=>h) _ a1 _ hr,a1,q1⟩
theorem Vq {lo:Nat} {im:Nat->Prop} {vs:List Value} {w:World}:∀ {rs:List RL} {us:List Value} {rs':List RL} {us':List Value},(∀ l∈rs,(∃ c,l=.sc c)∨(∃ d,l=.frz d)∨∃ d,l=.imm d)->RL.RepL lo im vs w rs us []->RL.RepL lo im vs w rs' us' []->RL.RepL lo im vs w (rs++rs') (us++us') []
 | [],_,_,_,_,⟨e,_⟩,h=>by subst e;exact h
 | l :: rs,us,rs',us',hk,h,h'=>by
  have hk':=fun l hl=>hk l (List.mem_cons_of_mem _ hl)
  rcases hk l List.mem_cons_self with ⟨c,rfl⟩|⟨d,rfl⟩|⟨d,rfl⟩ <;> obtain ⟨u,us1,rfl,q1,q2,q3⟩:=h <;> exact ⟨u,us1++us',rfl,q1,q2,Vq hk' q3 h'⟩
theorem L5 {R:Nat->Prop} {z:Bool}:∀ {cs:List AV} {ls:List RL},Hs R z ob cs ls->∀ l∈ls,(∃ c,l=.sc c)∨(∃ d,l=.frz d)∨∃ d,l=.imm d
 | [],ls,h,l,hl=>by rw [show ls=[] from h] at hl;cases hl
 | c :: cs,ls,⟨l0,ls',e,h1,h2⟩,l,hl=>by
  subst e;rcases List.mem_cons.1 hl with rfl|hl
  ·rcases h1 with ⟨_,rfl⟩|⟨d,rfl,_⟩
   ·exact .inl ⟨_,rfl⟩
   ·cases z with
    | true=>exact .inr (.inl ⟨_,rfl⟩)
    | false=>exact .inr (.inr ⟨_,rfl⟩)
  ·exact L5 h2 l hl
theorem Ql {z:Bool} (hM:Mem0 G w0 ob σ K w) {im:Nat->Prop} {vs0:List Value}:∀ {gs:List (Bool×List AV)} {ps:List (Bool×List RL)} {us:List Value},Hw (zR z im w0.heap.size) z ob gs ps->AV.RepL σ (imm ob σ) w (Abo gs) us->∃ vs,RL.RepL w0.heap.size im vs0 w (ps.flatMap (·.2)) vs []/\Ec ps vs=us
 | [],ps,us,h,hr=>by
  obtain rfl:ps=[]:=h;exact ⟨[],⟨rfl,rfl⟩,hr.symm⟩
 | (b,cs) :: gs,ps,us,⟨ls,ps',e,h1,h2,h3⟩,⟨u,us',e',r1,r2⟩=>by
  subst e e';obtain ⟨vs,q1,q2⟩:=Ql hM (im:=im) (vs0:=vs0) h3 r2
  have key:∀ ws:List Value,AV.RepL σ (imm ob σ) w cs ws->(if b then Value.agg ws.toArray else ws.headD undef)=u->∃ vs,RL.RepL w0.heap.size im vs0 w (((b,ls) :: ps').flatMap (·.2)) vs []/\Ec ((b,ls) :: ps') vs=u :: us':=fun ws hw hu=>by
   obtain ⟨a1,a2⟩:=Nj hM (im:=im) (vs0:=vs0) h1 hw;refine ⟨ws++vs,Vq (L5 h1) a1 q1,?_⟩;simp only [Ec];rw [List.drop_left' a2.symm,q2,List.take_left' a2.symm];congr 1;cases b with
   | true=>exact hu
   | false =>
    have hl:=h2 rfl;rw [← hw.length] at hl;cases ws with
    | nil=>simp at hl
    | cons w0 ws=>exact hu
  cases b with
  | true =>
   obtain ⟨ws,e1,e2⟩:=r1;exact key ws e2 (by rw [e1];rfl)
  | false =>
   have hl:=h2 rfl;obtain ⟨c,rfl⟩:=List.length_eq_one_iff.1 hl;exact key [u] ⟨u,[],rfl,r1,rfl⟩ rfl
end
theorem Ach {P:Program} [IsP P] {G:World->Prop} (hfol:P.follows .mixedOrders=true) {g:FuncId} {fn:Func} (hf:P.funcs[g]? =some fn) {ac:AC} {rs:List Res} (hc0:Cj P fn=some (ac,rs)) {args:List AV} {args':(Nat->Prop)->List AV} {r:RV} {n:Nat} (z:Bool) (hN:fn.ntmps=n) (hn:∀ R,(args' R).length<=n) {tl:(Nat->Prop)->List (Nat×AV)} (htl:∀ R,tmL 0 (args' R)=tl R) (ha:∀ (R im:Nat->Prop) (w:World) (us:List Value),(∀ b,im b->z=false->R b)->AV.RepL (fun _=>none) im w args us->AV.RepL (fun _=>none) im w (args' R) us)
  (h:∀ (n:Nat) (R:Nat->Prop),(∀ b,n<=b->R b)->awp P (GN G n) ac (fun e S=>∃ S',WeakG (GN G n) S S'/\(e=.normal∨e=.ret)/\Abm R z rs S' r) ⟨Ak (tl R),Ag [],1⟩):Bs P G g args r:=by
 subst hN
 have h0:∃ c,fn.body=some c/\AC.of P fn.ntmps c=some ac/\Res.ofL P fn.results.toList=some rs:=by
  unfold Cj at hc0;split at hc0
  ·rename_i c hb;split at hc0
   ·rename_i ac' rs' h1 h2;obtain ⟨rfl,rfl⟩:=Prod.mk.inj (osj hc0);exact ⟨c,hb,h1,h2⟩
   ·cases hc0
  ·cases hc0
 obtain ⟨c,hb,hc,hrs⟩:=h0;intro w im vs hG hargs
 replace h:=h w.heap.size (zR z im w.heap.size) fun _ h=>Aez h
 replace hn:=hn (zR z im w.heap.size)
 rw [← htl,← St.init_eq] at h
 replace hargs:=ha (zR z im w.heap.size) im w vs (fun b hb e=>by subst e;exact .inl hb) hargs
 generalize args' (zR z im w.heap.size)=args at h hn hargs;have hlen:vs.length=args.length:=hargs.length
 have hany:∀ (cs:List AV) (us:List Value),AV.RepL (fun _=>none) im w cs us->AV.RepL (fun _=>none) (imm (fun _=>none) (fun _=>none)) w cs us:=fun cs us h' =>
  AV.RepL.later ⟨fun _ _ h=>h,(fun _ _ _ _ _ _ _ h=>by cases h),fun _ _ _=>rfl,Nat.le_refl _⟩ cs us h'
 have hreps:Ji (GN G w.heap.size) w ⟨fun _=>none,fun _=>False,w,fun _ _ h=>nomatch h⟩ fn.ntmps (St.init args) { tmps:=vs.toArray++Array.replicate (fn.ntmps - vs.toArray.size) undef,defers:=[] } w:=by
  refine ⟨⟨fun _=>none,⟨Below.refl _ _,fun w' hb=>⟨hG w' hb,hb.size⟩,(fun _ _ h=>by cases h),(fun _ _ _ _ h=>by cases h),(fun _ _ _ _ h=>by cases h),(fun _ _ _ _ _ _ _ _ _ h=>by cases h),(fun _ _ _ h=>by cases h)⟩,fun t=>?_,⟨fun _ _ h=>h,fun _ _ h=>h.elim,fun _ _ h=>h.elim,Nat.le_refl _⟩⟩,by simp;omega,rfl,fun i h=>absurd rfl h⟩;simp only [St.init,gDg];cases ht:args[t]? with
  | none=>trivial
  | some c =>
   obtain ⟨v,hv,hr⟩:=(hany _ _ hargs).get ht;have hlt:t<vs.length:=(gSi.1 hv).1
   have e:(vs.toArray++Array.replicate (fn.ntmps - vs.toArray.size) undef).getD t undef=v:=by
    rw [Array.getD_eq_getD_getElem?,Array.getElem?_append_left (by simpa using hlt)];simp [hv]
   rw [e];exact hr
 refine calls_of_wp hf hb (Code.wp_mono (fun e a' w' hq=>?_) (M6 hfol c ac _ _ _ w hc h hreps));obtain ⟨e',S0,rfl,⟨S',hweak,hend,gs,ps,h1,h2,h4⟩,hr⟩:=hq
 replace hr:=hweak _ _ _ _ _ hr
 obtain ⟨σ,hM,hF,_⟩:=hr.ex
 have hrun:∀ (vars:List ResultVar) (rs:List Res) (avs:List AV),Res.ofL P vars=some rs->Res.evL S'.tm S'.ob rs=some avs ->
   ∃ us,(vars.mapM (Ui a'.tmps)).run P w'=.ok us w'/\AV.RepL σ (imm S'.ob σ) w' avs us/\us.length=vars.length/\rs.length=vars.length:=by
  intro vars
  induction vars with
  | nil =>
   intro rs avs q1 q2;obtain rfl:[]=rs:=osj q1;obtain rfl:[]=avs:=osj q2;exact ⟨[],rfl,rfl,rfl,rfl⟩
  | cons v vars ih =>
   intro rs avs q1 q2;simp only [Res.ofL] at q1;split at q1
   ·rename_i x xs p1 p2;obtain rfl:=osj q1;simp only [Res.evL] at q2;split at q2
    ·rename_i y ys p3 p4;obtain rfl:=osj q2;obtain ⟨u,r1,r2⟩:=Res.run hM hF p1 p3;obtain ⟨us,r3,r4,r5,r6⟩:=ih _ _ p2 p4;refine ⟨u :: us,?_,⟨u,us,rfl,r2,r4⟩,by simp [r5],by simp [r6]⟩;rw [List.mapM_cons,Sem.run_bind,r1];simp only [Result.andThen_ok,Sem.run_bind,r3,Sem.run_pure]
    ·cases q2
   ·cases q1
 obtain ⟨us,u1,u2,u3,u4⟩:=hrun fn.results.toList rs _ hrs h1;obtain ⟨vs',f1,f3⟩:=Ql (im:=im) (vs0:=vs) hM h2 u2;have hres:(results fn a'.tmps).run P w'=.ok (if fn.results.size=1 then us.headD undef else .tuple us.toArray) w':=Jl u1 (by rw [u3];simp)
 have hrv:r.Rep w.heap.size im vs w' (if fn.results.size=1 then us.headD undef else .tuple us.toArray):=by
  subst h4;refine ⟨vs',[],f1,⟨trivial,fun _=>rfl⟩,?_⟩;simp only [f3];have:rs.length=fn.results.size:=by rw [u4];simp
  rw [this];by_cases h1:fn.results.size=1 <;> simp [h1]
 have fin:∃ u,(results fn a'.tmps).run P w'=.ok u w'/\∃ v,Ending.returned u=.returned v/\Below w.heap.size w w'/\r.Rep w.heap.size im vs w' v:=⟨_,hres,_,rfl,hM.below,hrv⟩
 rcases hend with rfl|rfl
 ·exact ⟨hr.defers,fin⟩
 ·exact ⟨hr.defers,fin⟩
theorem Abq {P:Program} [IsP P] {G:World->Prop} (hfol:P.follows .mixedOrders=true) {g:FuncId} {fn:Func} (hf:P.funcs[g]? =some fn) {ac:AC} {rs:List Res} (hc0:Cj P fn=some (ac,rs)) {args:List AV} {r:RV} {n:Nat} (hN:fn.ntmps=n) (hn:args.length<=n) {tl:List (Nat×AV)} (htl:tmL 0 args=tl)
  (h:∀ (n:Nat) (R:Nat->Prop),(∀ b,n<=b->R b)->awp P (GN G n) ac (fun e S=>∃ S',WeakG (GN G n) S S'/\(e=.normal∨e=.ret)/\Abm R true rs S' r) ⟨Ak tl,Ag [],1⟩):Bs P G g args r :=
 Ach hfol hf hc0 (args':=fun _=>args) true hN (fun _=>hn) (tl:=fun _=>tl) (fun _=>htl) (fun _ _ _ _ _ h=>h) h
mutual
theorem Aaw {R im:Nat->Prop} {w:World} (hR:∀ b,im b->R b):∀ (c d:AV) (u:Value),AV.unR R c d->AV.Rep (fun _=>none) im w c u->AV.Rep (fun _=>none) im w d u
 | .tree t xs,d,u,h,⟨A,c,l,e,hs⟩=>by
  have h:d=.ftr R t xs:=h;subst h;exact ⟨A,c,l,e,Al (fun b _ hb=>⟨hb,hR b hb⟩) hs⟩
 | .agg cs,d,u,⟨ds,e,h⟩,hr=>by
  subst e;obtain ⟨us,e,hr⟩:=hr;exact ⟨us,e,Rc hR cs ds us h hr⟩
 | .int ..,d,u,⟨_,e⟩,hr=>by subst e;exact hr
 | .bool ..,d,u,⟨_,e⟩,hr=>by subst e;exact hr
 | .str ..,d,u,⟨_,e⟩,hr=>by subst e;exact hr
 | .err ..,d,u,⟨h,e⟩,hr=>by first|(cases h;done)|(subst e;exact hr)
 | .nils,d,u,⟨_,e⟩,hr=>by subst e;exact hr
 | .any,d,u,⟨h,_⟩,_=>by cases h
 | .mtree ..,d,u,⟨h,_⟩,_=>by cases h
 | .ftr ..,d,u,⟨h,_⟩,_=>by cases h
 | .mp _,d,u,⟨h,_⟩,_=>by cases h
 | .tup _,d,u,⟨h,_⟩,_=>by cases h
 | .fn ..,d,u,⟨h,_⟩,_=>by cases h
 | .ref _,d,u,⟨h,_⟩,_=>by cases h
 | .own ..,d,u,⟨h,_⟩,_=>by cases h
 | .box ..,d,u,⟨h,_⟩,_=>by cases h
 | .elt ..,d,u,⟨h,_⟩,_=>by cases h
 | .sla ..,d,u,⟨h,_⟩,_=>by cases h
 | .telt ..,d,u,⟨h,_⟩,_=>by cases h
 | .giv ..,d,u,⟨h,_⟩,_=>by cases h
 | .abool ..,d,u,⟨h,_⟩,_=>by cases h
theorem Rc {R im:Nat->Prop} {w:World} (hR:∀ b,im b->R b):∀ (cs ds:List AV) (us:List Value),AV.unRL R cs ds->AV.RepL (fun _=>none) im w cs us->AV.RepL (fun _=>none) im w ds us
 | [],ds,us,h,hr=>by obtain rfl:ds=[]:=h;exact hr
 | c :: cs,ds,us,⟨d,ds',e,h1,h2⟩,hr=>by
  subst e;obtain ⟨u,us',e,r1,r2⟩:=hr;exact ⟨u,us',e,Aaw hR c d u h1 r1,Rc hR cs ds' us' h2 r2⟩
end
theorem Age {G:World->Prop} {R:Nat->Prop} {z:Bool} {rs:List Res} {tm:Nat->AV} {ob:Oid->Option Ob} {g:Nat} {r:RV} (gs:List (Bool×List AV)) {e:AE} (h2:Hw R z ob gs r.ps) (he:e=.normal∨e=.ret:=by simp) (h1:Res.evL tm ob rs=some (Abo gs):=by kernel_rfl) (h4:r.tup=decide (rs.length≠1):=by kernel_rfl):∃ S',WeakG G ⟨tm,ob,g⟩ S'/\(e=.normal∨e=.ret)/\Abm R z rs S' r :=
 ⟨_,WeakG.refl _,he,gs,r.ps,h1,h2,by cases r;cases h4;rfl⟩
section
variable {R:Nat->Prop} {z:Bool} {ob:Oid->Option Ob}
theorem Pb:Hw R z ob [] []:=rfl
theorem Ws {cs:List AV} {r:List (Bool×List AV)} {ls:List RL} {ps:List (Bool×List RL)} (h1:Hs R z ob cs ls) (h2:Hw R z ob r ps):Hw R z ob ((true,cs) :: r) ((true,ls) :: ps):=⟨ls,ps,rfl,h1,(fun h=>by cases h),h2⟩
theorem Adc {c:AV} {r:List (Bool×List AV)} {l:RL} {ps:List (Bool×List RL)} (h1:V4 R z ob c l) (h2:Hw R z ob r ps):Hw R z ob ((false,[c]) :: r) ((false,[l]) :: ps):=⟨[l],ps,rfl,⟨l,[],rfl,h1,rfl⟩,fun _=>rfl,h2⟩
theorem Wb:Hs R z ob [] []:=rfl
theorem E1 {c:AV} {cs:List AV} {l:RL} {ls:List RL} (h1:V4 R z ob c l) (h2:Hs R z ob cs ls):Hs R z ob (c :: cs) (l :: ls):=⟨l,ls,rfl,h1,h2⟩
theorem Sm {c:AV} (h:c.scal=true:=by kernel_rfl):V4 R z ob c (.sc c):=.inl ⟨h,rfl⟩
theorem Jb {c:AV} {t:Ty} {xs:List t.D} (h:T5 R ob c (.tree t xs)):V4 R z ob c (.zl z (.tree t xs)):=.inr ⟨_,rfl,rfl,h⟩
end
section
variable {P:Program} {G:World->Prop} {g k d:Nat} {gd:Option (Nat×Bool)} {xs:List X} {tl:List (Nat×AV)} {ol:List (Oid×Option Ob)} {bad:List (Nat×Nat)} {ra:List Rec} {da:List (List Oid)} {Kf:List (Nat×AV)->List (Oid×Option Ob)->Prop}
variable {fo:Opd} {ys:List Opd} {tys:List (List (Option Ty))} {F:FuncId} {caps:List AV} {rv:RV}
end
end
section
open Go.RowKit Go.Deep
theorem wr_ {G:World->Prop} {S:St} {K:St->Prop} (h:K S):∃ S',WeakG G S S'/\K S':=⟨S,WeakG.refl _,h⟩
def rC (x:Option (AC×List Res)):List Res:=x.elim [] (·.2)
theorem Oa {x:Option (AC×List Res)} (h:x.isSome=true):x=some (mC x,rC x):=by
 cases x with
 | none=>cases h
 | some p=>rfl
section
variable {P:Program} [IsP P] {G:World->Prop} {g:FuncId} {fn:Func} {args:List AV} {r:RV}
theorem cO (hf:P.funcs[g]? =some fn) (h:awp P G (mC (Cj P fn)) (fun e S=>∃ S',WeakG G S S'/\(e=.normal∨e=.ret)/\RetOK [] (rC (Cj P fn)) S' r) ⟨Ak (tmL 0 args),Ag [],1⟩) (hfol:P.follows .mixedOrders=true:=by kernel_rfl) (hc:(Cj P fn).isSome=true:=by kernel_rfl) (hn:Nat.ble args.length fn.ntmps=true:=by kernel_rfl):Bs P G g args r :=
 Uq hfol hf (Oa hc) rfl (Nat.le_of_ble_eq_true hn) rfl h
theorem cZ (hf:P.funcs[g]? =some fn) (h:∀ (n:Nat) (R:Nat->Prop),(∀ b,n<=b->R b)->awp P (GN G n) (mC (Cj P fn)) (fun e S=>∃ S',WeakG (GN G n) S S'/\(e=.normal∨e=.ret)/\Abm R true (rC (Cj P fn)) S' r) ⟨Ak (tmL 0 args),Ag [],1⟩) (hfol:P.follows .mixedOrders=true:=by kernel_rfl) (hc:(Cj P fn).isSome=true:=by kernel_rfl) (hn:Nat.ble args.length fn.ntmps=true:=by kernel_rfl):Bs P G g args r :=
 Abq hfol hf (Oa hc) rfl (Nat.le_of_ble_eq_true hn) rfl h
end
def gdB (gd:Option (Nat×Bool)) (f:Nat->AV):Bool :=
 match gd with
 | none=>true
 | some (s,b)=>match f s with
  | .bool c=>c==b
  | _=>false
theorem Py {gd:Option (Nat×Bool)} {f:Nat->AV} (h:gdB gd f=true):Pp gd f:=by
 cases gd with
 | none=>trivial
 | some p =>
  obtain ⟨s,b⟩:=p;simp only [gdB] at h;split at h
  ·rename_i c hc;rw [beq_iff_eq] at h;subst h;exact Afg hc
  ·cases h
theorem E9 {gd:Option (Nat×Bool)} {f:Nat->AV} {n:Nat} {d:Option Nat} {q:Q} {ob:Oid->Option Ob} {r:Option Rec} (hg:gdB gd f=true) (h:Bi n ⟨d,none,q⟩ f ob=r):Bi n ⟨d,gd,q⟩ f ob=r:=by
 have h1:=Py hg;cases gd with
 | none=>exact h
 | some p=>exact Ag1 h1 rfl h
section
variable {P:Program} {G:World->Prop} {g k d:Nat} {gd:Option (Nat×Bool)} {xs:List X} {tl:List (Nat×AV)} {ol:List (Oid×Option Ob)} {bad:List (Nat×Nat)} {ra:List Rec} {da:List (List Oid)} {Kf:List (Nat×AV)->List (Oid×Option Ob)->Prop}
variable {α β:Type} {x:Option α} {K:α->Option β} {r:β} {rv:α->RV} {args:List AV} {fo:Opd} {ys:List Opd} {tys:List (List (Option Ty))} {F:FuncId}
theorem map_some {γ δ:Type} {o:Option γ} {f:γ->δ} {b:δ} (h:o.map f=some b):∃ a,o=some a/\f a=b:=oms.1 h
theorem rcH (h:x.bind K=some r) (hc:∀ {y},x=some y->Bs P G F args (rv y))
  (h3:∀ y,K y=some r->XW P G g (k+1) xs ((d,((rv y).out (Ev ((d,0),g+k)) (ys.map (Opd.ev (Ak tl)))).1) :: tl) (((rv y).out (Ev ((d,0),g+k)) (ys.map (Opd.ev (Ak tl)))).2.reverseAux ol) Kf)
  (hA:(Hy (gnd (Ag ol) 8) (ys.map (Opd.ev (Ak tl)))).map (Ig tys)=some args:=by kernel_rfl) (hb:Cs P F=true:=by kernel_rfl) (hfo:fo.ev (Ak tl)=.fn F []:=by kernel_rfl)
  (hx:∀ y,Dq ((rv y).out (Ev ((d,0),g+k)) (ys.map (Opd.ev (Ak tl)))).2=true:=by intro _;rfl) (hni:∀ y,(rv y).noI=true:=by intro _;rfl) (hgd:gdB gd (Ak tl)=true:=by kernel_rfl) (hF:Nat.blt F mtd=true:=by kernel_rfl):XW P G g k (⟨some d,gd,.call fo ys tys⟩ :: xs) tl ol Kf:=by
 obtain ⟨y,hy,hK⟩:=Au h;obtain ⟨args0,h1,hn⟩:=map_some hA;have hF':F<mtd:=Nat.le_of_ble_eq_true hF;exact Abx (caps:=[]) _ _ _ _ (Py hgd) h1 (hc hy) hb (h3 y hK) (hfo:=hfo) (hz:=by simp only [Ct,List.map_nil,List.append_nil,List.nil_append,ite_self]) (hn:=hn) (hr:=rfl) (hF:=if_pos hF') (hx:=hx y) (hni:=hni y)
theorem dcH (h:x.bind K=some r) (hc:∀ {y},x=some y->Bs P G F args (rv y))
  (h3:∀ y,K y=some r->XD P G bad g (k+1) xs ((d,((rv y).out (Ev ((d,0),g+k)) (ys.map (Opd.ev (Ak tl)))).1) :: tl) (((rv y).out (Ev ((d,0),g+k)) (ys.map (Opd.ev (Ak tl)))).2.reverseAux ol) ((1,((rv y).out (Ev ((d,0),g+k)) (ys.map (Opd.ev (Ak tl)))).1,((rv y).out (Ev ((d,0),g+k)) (ys.map (Opd.ev (Ak tl)))).2) :: ra) ((rdX (Ak tl) (Ag ol) ⟨some d,gd,.call fo ys tys⟩) :: da) Kf)
  (hA:(Hy (gnd (only (rdX (Ak tl) (Ag ol) ⟨some d,gd,.call fo ys tys⟩) (Ag ol)) 8) (ys.map (Opd.ev (Ak tl)))).map (Ig tys)=some args:=by kernel_rfl) (hb:Cs P F=true:=by kernel_rfl) (hfo:fo.ev (Ak tl)=.fn F []:=by kernel_rfl)
  (hx:∀ y,Dq ((rv y).out (Ev ((d,0),g+k)) (ys.map (Opd.ev (Ak tl)))).2=true:=by intro _;rfl) (hni:∀ y,(rv y).noI=true:=by intro _;rfl) (hgd:gdB gd (Ak tl)=true:=by kernel_rfl) (hF:Nat.blt F mtd=true:=by kernel_rfl):XD P G bad g k (⟨some d,gd,.call fo ys tys⟩ :: xs) tl ol ra da Kf:=by
 obtain ⟨y,hy,hK⟩:=Au h;obtain ⟨args0,h1,hn⟩:=map_some hA;have hF':F<mtd:=Nat.le_of_ble_eq_true hF;exact Ae1 (caps:=[]) _ _ _ _ (Py hgd) h1 (hc hy) hb (h3 y hK) (hfo:=hfo) (hz:=by simp only [Ct,List.map_nil,List.append_nil,List.nil_append,ite_self]) (hn:=hn) (hr:=rfl) (hF:=if_pos hF') (hx:=hx y) (hni:=hni y)
variable {sz j:Nat} {c e:Opd}
theorem riH (t:Ty) {zs:List t.D} {K:t.D->Option β} (h:(zs[j]?).bind K=some r) (h3:∀ y,zs[j]? =some y->K y=some r->XW P G g (k+1) xs ((d,.telt (c.ev (Ak tl)).tag t y 0) :: tl) ol Kf) (hx:(c.ev (Ak tl)).un=.tree t zs:=by kernel_rfl) (hi:e.ev (Ak tl)=.int .i64 (j:Int):=by kernel_rfl) (hs:sz=t.size:=by rfl) (hgd:gdB gd (Ak tl)=true:=by kernel_rfl):XW P G g k (⟨some d,gd,.i (.idx sz c e)⟩ :: xs) tl ol Kf:=by
 obtain ⟨y,hy,hK⟩:=Au h;exact rs0 _ (E9 hgd (Aaj hx hi hs (Int.natCast_nonneg _) rfl hy rfl)) (h3 y hy hK)
theorem diH (t:Ty) {zs:List t.D} {K:t.D->Option β} (h:(zs[j]?).bind K=some r) (h3:∀ y,zs[j]? =some y->K y=some r->XD P G bad g (k+1) xs ((d,.telt (c.ev (Ak tl)).tag t y 0) :: tl) ol ((0,.telt (c.ev (Ak tl)).tag t y 0,[]) :: ra) ((rdX (Ak tl) (Ag ol) ⟨some d,gd,.i (.idx sz c e)⟩) :: da) Kf) (hx:(c.ev (Ak tl)).un=.tree t zs:=by kernel_rfl) (hi:e.ev (Ak tl)=.int .i64 (j:Int):=by kernel_rfl) (hs:sz=t.size:=by rfl) (hgd:gdB gd (Ak tl)=true:=by kernel_rfl):XD P G bad g k (⟨some d,gd,.i (.idx sz c e)⟩ :: xs) tl ol ra da Kf:=by
 obtain ⟨y,hy,hK⟩:=Au h;exact ds0 _ (E9 hgd (Aaj hx hi hs (Int.natCast_nonneg _) rfl hy rfl)) (h3 y hy hK)
theorem raH {M:Option β} (h:og (j+1<4611686018427387904) M=some r) (h3:M=some r->XW P G g (k+1) xs ((d,.int .i64 ((j+1:Nat):Int)) :: tl) ol Kf) (hx:c.ev (Ak tl)=.int .i64 (j:Int):=by kernel_rfl) (hy:e.ev (Ak tl)=.int .i64 1:=by kernel_rfl) (hgd:gdB gd (Ak tl)=true:=by kernel_rfl):XW P G g k (⟨some d,gd,.i (.bin .add c e)⟩ :: xs) tl ol Kf:=by
 obtain ⟨hg,hK⟩:=Ax h;exact rs0 _ (E9 hgd (Afa hx hy hg)) (h3 hK)
variable {t:Bool} {A B:Option β}
theorem kQ {y z:AC} {R:AE->St->Prop} {S:St} (h:cond t A B=some r) (h1:t=true->A=some r->awp P G y R S) (h2:t=false->B=some r->awp P G z R S) (hc:c.ev S.tm=.bool t:=by kernel_rfl):awp P G (.cond c y z) R S:=by
 rcases Co h with ⟨q,h⟩|⟨q,h⟩
 ·exact V9 q (h1 q h) hc
 ·exact Wd q (h2 q h) hc
theorem kR (h:cond t A B=some r) (s:Nat) (h1:t=true->A=some r->XW P G g k xs ((s,.bool true) :: tl) ol Kf) (h2:t=false->B=some r->XW P G g k xs ((s,.bool false) :: tl) ol Kf) (hd:Ak tl s=.bool t:=by kernel_rfl):XW P G g k xs tl ol Kf:=by
 rcases Co h with ⟨q,h⟩|⟨q,h⟩
 ·exact rq s q (h1 q h) hd
 ·exact rq s q (h2 q h) hd
end
section
variable {G:World->Prop} {α β:Type} {a r:α}
theorem jO {k:α->Option β} {x v:β} {c:Ctl α β} (h:some (Ctl.out x)=some c) (hn:Ctl.then k c=some v):some x=some v:=by
 cases h;exact hn
variable {tl0 tl:List (Nat×AV)} {ol0:List (Oid×Option Ob)} {ol:List (Oid×Ob)} {g0 g:Nat} {l:List (Oid×Oid)} {T:Prop}
def Lr (_l:List (Oid×Oid)) (T:Prop):Prop:=T
theorem jE0 (h1:(tl.map fun p=>Ak tl0 p.1)=tl.map fun p=>p.2.ren (Be l):=by kernel_rfl) (h2:N6 ol0 (Be l) ol:=by exact Lt (by kernel_rfl)) (h3:Aby l tl ol g=true:=by kernel_rfl):Lr l (WeakG G ⟨Ak tl0,Ag ol0,g0⟩ ⟨Ak tl,Ag (Br ol),g⟩):=Av l h1 h2 h3
theorem jE (l:List (Oid×Oid)) (k:Lr l T:=by cases h;exact jE0):T:=k
theorem jC0 {F:α->St} (j:⟨Ak tl,Ag (Br ol),g⟩=F a:=by exact rfl) (h1:(tl.map fun p=>Ak tl0 p.1)=tl.map fun p=>p.2.ren (Be l):=by kernel_rfl) (h2:N6 ol0 (Be l) ol:=by exact Lt (by kernel_rfl)) (h3:Aby l tl ol g=true:=by kernel_rfl):Lr l (∃ t,(Ctl.next a:Ctl α β)=.next t/\WeakG G ⟨Ak tl0,Ag ol0,g0⟩ (F t)):=⟨_,rfl,j▸Av l h1 h2 h3⟩
theorem jC (l:List (Oid×Oid)) (k:Lr l T:=by cases h;exact jC0):T:=k
theorem jL0 {F:α->St} {k:α->Option β} {v:β} (hn:Ctl.then k (Ctl.next a)=some v) (j:⟨Ak tl,Ag (Br ol),g⟩=F a:=by exact rfl) (h1:(tl.map fun p=>Ak tl0 p.1)=tl.map fun p=>p.2.ren (Be l):=by kernel_rfl) (h2:N6 ol0 (Be l) ol:=by exact Lt (by kernel_rfl)) (h3:Aby l tl ol g=true:=by kernel_rfl):Lr l (∃ t,WeakG G ⟨Ak tl0,Ag ol0,g0⟩ (F t)/\k t=some v):=⟨_,j▸Av l h1 h2 h3,hn⟩
theorem jL (l:List (Oid×Oid)) (k:Lr l T:=by cases h;exact jL0 (by assumption)):T:=k
theorem jLw {S:St} {F:α->St} {k:α->Option β} {v:β} (hn:Ctl.then k (Ctl.next a)=some v) (w:WeakG G S (F a)):∃ t,WeakG G S (F t)/\k t=some v:=⟨_,w,hn⟩
def scL:List RL->List AV
 | []=>[]
 | .sc c :: r=>c :: scL r
 | _ :: r=>.any :: scL r
def scP:List (Bool×List RL)->List AV
 | []=>[]
 | (b,ls) :: r=>(if b then .agg (scL ls) else (scL ls).headD .any) :: scP r
def AV.sc1:AV->Bool
 | .int .. | .bool .. | .str .. | .nils | .err ..=>true
 | _=>false
def Ab5:List RL->Bool
 | []=>true
 | .sc c :: r=>c.sc1&&Ab5 r
 | _ :: _=>false
def scB:List (Bool×List RL)->Bool
 | []=>true
 | (b,ls) :: r=>(Ab5 ls&&(b||ls.length==1))&&scB r
theorem Rm {ob:Oid->Option Ob} {c:AV} (h:c.sc1=true):Jd ob c=some (.sc c):=by
 cases c <;> first|rfl|cases h
theorem Qs {vs:List Value} {ob:Oid->Option Ob}:∀ {ls:List RL},Ab5 ls=true->LeavesR vs ob (scL ls) ls
 | [],_=>rfl
 | .sc c :: r,h=>by
  simp only [Ab5,Bool.and_eq_true] at h;exact ⟨_,_,rfl,Af2 (Rm h.1),Qs h.2⟩
 | .new .. :: _,h=>by cases h
 | .newM .. :: _,h=>by cases h
 | .arg .. :: _,h=>by cases h
 | .argS .. :: _,h=>by cases h
 | .frz _ :: _,h=>by cases h
 | .imm _ :: _,h=>by cases h
theorem M4 {vs:List Value} {ob:Oid->Option Ob}:∀ {ps:List (Bool×List RL)},scB ps=true->PartsR vs ob (scP ps) ps
 | [],_=>rfl
 | (b,ls) :: r,h=>by
  simp only [scB,Bool.and_eq_true,Bool.or_eq_true,beq_iff_eq] at h;obtain ⟨⟨h1,h2⟩,h3⟩:=h;cases b with
  | true=>exact Agj (Qs h1) (M4 h3)
  | false =>
   have h2:=h2.resolve_left (by decide)
   match ls,h1,h2 with
   | [.sc c],h1,_ =>
    simp only [Ab5,Bool.and_eq_true] at h1;have h1:c.sc1=true:=h1.1;refine Rh ?_ (Af2 (Rm h1)) (M4 h3);show c.one=true;cases c <;> first|rfl|cases h1
   | [.new ..],h1,_=>cases h1
   | [.newM ..],h1,_=>cases h1
   | [.arg ..],h1,_=>cases h1
   | [.argS ..],h1,_=>cases h1
   | [.frz _],h1,_=>cases h1
   | [.imm _],h1,_=>cases h1
theorem jR {rs:List Res} {f:Nat->AV} {ob:Oid->Option Ob} {g:Nat} {rv:α->RV} {vs:List Value} {e:AE} (h:some a=some r) (avs:List AV) (h2:PartsR vs ob avs (rv a).ps) (he:e=.normal∨e=.ret:=by simp) (h1:Res.evL f ob rs=some avs:=by kernel_rfl) (h3:ndB (N0 ob (Ja avs))=true:=by kernel_rfl) (h4:(rv a).tup=decide (rs.length≠1):=by kernel_rfl):∃ S',WeakG G ⟨f,ob,g⟩ S'/\(e=.normal∨e=.ret)/\RetOK vs rs S' (rv r):=by
 cases h;exact Agb avs h2 he h1 h3 h4
theorem jZ {R:Nat->Prop} {z:Bool} {rs:List Res} {f:Nat->AV} {ob:Oid->Option Ob} {g:Nat} {rv:α->RV} {e:AE} (h:some a=some r) (gs:List (Bool×List AV)) (h2:Hw R z ob gs (rv a).ps) (he:e=.normal∨e=.ret:=by simp) (h1:Res.evL f ob rs=some (Abo gs):=by kernel_rfl) (h4:(rv a).tup=decide (rs.length≠1):=by kernel_rfl):∃ S',WeakG G ⟨f,ob,g⟩ S'/\(e=.normal∨e=.ret)/\Abm R z rs S' (rv r):=by
 cases h;exact Age gs h2 he h1 h4
theorem jS {rs:List Res} {f:Nat->AV} {ob:Oid->Option Ob} {g:Nat} {rv:α->RV} {vs:List Value} {e:AE} (h:some a=some r) (he:e=.normal∨e=.ret:=by simp) (h1:Res.evL f ob rs=some (scP (rv a).ps):=by kernel_rfl) (h2:scB (rv a).ps=true:=by kernel_rfl) (h3:ndB (N0 ob (Ja (scP (rv a).ps)))=true:=by kernel_rfl) (h4:(rv a).tup=decide (rs.length≠1):=by kernel_rfl):∃ S',WeakG G ⟨f,ob,g⟩ S'/\(e=.normal∨e=.ret)/\RetOK vs rs S' (rv r):=by
 cases h;exact Agb _ (M4 h2) he h1 h3 h4
end
abbrev sT (tl:List (Nat×AV)) (ol:List (Oid×Ob)):St:=⟨Ak tl,Ag (Br ol),2⟩
section
variable {P:Program} {G:World->Prop} {σ τ β ρ:Type} {x y:AC} {R:AE->St->Prop} {S:St}
theorem sqF {A:Option τ} {k:τ->Option β} {r:β} (h:A.bind k=some r) (F:τ->St) (h1:∀ t,A=some t->awp P G x (Ed (fun S'=>WeakG G S' (F t)) R) S) (h2:∀ t,k t=some r->awp P G y R (F t)):awp P G (.seq x y) R S:=by
 refine Ab4 h (fun t S''=>S''=F t) (fun t ht=>B4 (fun e S' hq=>?_) (h1 t ht)) fun t S'' e hk=>e▸h2 t hk
 cases e with
 | normal=>exact ⟨_,hq,rfl⟩
 | exit id=>exact hq
 | ret=>exact hq
theorem sqC {A:Option (Ctl τ β)} {k:τ->Option β} {r:β} (h:Mm A k=some r) (F:τ->St) (h1:∀ v,A=some v->Ctl.then k v=some r->awp P G x (Ed (fun S'=>∃ t,v=.next t/\WeakG G S' (F t)) R) S) (h2:∀ t,k t=some r->awp P G y R (F t)):awp P G (.seq x y) R S:=by
 refine Acg h (fun t S''=>S''=F t) (fun v hv hk=>B4 (fun e S' hq=>?_) (h1 v hv hk)) fun t S'' e hk=>e▸h2 t hk
 cases e with
 | normal=>obtain ⟨t,ht,hw⟩:=hq;exact ⟨t,_,ht,hw,rfl⟩
 | exit id=>exact hq
 | ret=>exact hq
theorem lpF {body:σ->Option (Ctl σ ρ)} {fuel:Nat} {s0:σ} {v:ρ} (h:Az body fuel s0=some v) (F:σ->St) (w:WeakG G S (F s0))
  (h1:∀ n s c,body s=some c->Ctl.then (Az body n) c=some v->awp P G x (Ed (fun S2=>∃ s',WeakG G S2 (F s')/\Az body n s'=some v) R) (F s)):awp P G (.loop x) R S:=by
 refine Za h (fun s S=>S=F s) ⟨_,w,rfl⟩ fun n s S1 c e hc hn=>e▸B4 (fun e S2 hq=>?_) (h1 n s c hc hn)
 cases e with
 | normal=>obtain ⟨s',hw,hl⟩:=hq;exact ⟨s',_,hw,rfl,hl⟩
 | exit id=>exact hq
 | ret=>exact hq
end
theorem skW {P:Program} {G:World->Prop} {R:AE->St->Prop} {S:St} {K:St->Prop} (h:K S):awp P G .skip (Ed (fun S'=>∃ S'',WeakG G S' S''/\K S'') R) S:=Ba (tn_ (wr_ h))
theorem rnW {P:Program} {G:World->Prop} {R:AE->St->Prop} {g k g':Nat} {tl:List (Nat×AV)} {ol:List (Oid×Option Ob)} {K:St->Prop} (h:K ⟨Ak tl,Ag ol,g'⟩):XW P G g k [] tl ol (fun tl' ol'=>Ed (fun S'=>∃ S'',WeakG G S' S''/\K S'') R .normal ⟨Ak tl',Ag ol',g'⟩):=A0 (tn_ (wr_ h))
theorem lxT {P:Program} {G:World->Prop} {R:AE->St->Prop} {S:St} {i:Nat} {K K1 K2:St->Prop} (h:K S):awp P G (.exit i) (Ed K1 (Ed K2 (Fn i (Ed K R)))) S:=H6 (te_ (te_ (be_ (tn_ h))))
def AV.setL (m:Nat):AV->AV
 | .own i t o _=>.own i t o m
 | v=>v
theorem wL {G:World->Prop} {tl:List (Nat×AV)} {ol:List (Oid×Option Ob)} {g:Nat} (s:Nat) {n m:Nat} (h:n=m) (hs:Ak tl s=(Ak tl s).setL n:=by kernel_rfl):WeakG G ⟨Ak tl,Ag ol,g⟩ ⟨Ak ((s,(Ak tl s).setL m) :: tl),Ag ol,g⟩ :=
 Abu s (Ak tl s) _ rfl (by rw [← h];exact hs)
section
variable {P:Program} {G:World->Prop} {g k d:Nat} {gd:Option (Nat×Bool)} {xs:List X} {tl:List (Nat×AV)} {ol:List (Oid×Option Ob)} {bad:List (Nat×Nat)} {ra:List Rec} {da:List (List Oid)} {Kf:List (Nat×AV)->List (Oid×Option Ob)->Prop}
variable {α β:Type} {x:Option α} {K:α->Option β} {r:β} {args:List AV} {fo:Opd} {ys:List Opd} {tys:List (List (Option Ty))} {F:FuncId}
theorem rcG {rv:α->RV} (h:x.bind K=some r) (zs:List AV) (hc:∀ {y},x=some y->Bs P G F args (rv y)) (h1:Hy (gnd (Ag ol) 8) zs=some args)
  (h3:∀ y,K y=some r->XW P G g (k+1) xs ((d,((rv y).out (Ev ((d,0),g+k)) zs).1) :: tl) (((rv y).out (Ev ((d,0),g+k)) zs).2.reverseAux ol) Kf)
  (hz:ys.map (Opd.ev (Ak tl))=zs:=by kernel_rfl) (hn:Ig tys args=args:=by kernel_rfl) (hb:Cs P F=true:=by kernel_rfl) (hfo:fo.ev (Ak tl)=.fn F []:=by kernel_rfl)
  (hx:∀ y,Dq ((rv y).out (Ev ((d,0),g+k)) zs).2=true:=by intro _;rfl) (hni:∀ y,(rv y).noI=true:=by intro _;rfl) (hgd:gdB gd (Ak tl)=true:=by kernel_rfl) (hF:Nat.blt F mtd=true:=by kernel_rfl):XW P G g k (⟨some d,gd,.call fo ys tys⟩ :: xs) tl ol Kf:=by
 obtain ⟨y,hy,hK⟩:=Au h;have hF':F<mtd:=Nat.le_of_ble_eq_true hF;subst hz;exact Abx (caps:=[]) _ _ _ _ (Py hgd) h1 (hc hy) hb (h3 y hK) (hfo:=hfo) (hz:=by simp only [Ct,List.map_nil,List.append_nil,List.nil_append,ite_self]) (hn:=hn) (hr:=rfl) (hF:=if_pos hF') (hx:=hx y) (hni:=hni y)
variable {ol0:List (Oid×Ob)} {v0:α->AV} {us:α->List (Oid×Ob)}
theorem rcM (h:x.bind K=some r) (l:List (Oid×Oid)) (zs:List AV) (hc:∀ {y},x=some y->I3 P G F args ol0 (v0 y) (us y)) (hR:N6 ol (Be l) ol0) (h1:Jy (Be l) (Zc ((nmL ol0).map (Be l)) (Ag ol)) zs args) (h4:∀ j∈nmL ol0,Reached zs (Ag ol) (Be l j))
  (h3:∀ y,K y=some r->XW P G g (k+1) xs ((d,(v0 y).ren (Bk (Be l) ((d,0),g+k))) :: tl) ((Br (Jw (Bk (Be l) ((d,0),g+k)) (us y))++G8 (Be l) ol0)++ol) Kf)
  (hz:ys.map (Opd.ev (Ak tl))=zs:=by kernel_rfl) (hB:∀ y,Yw l ol0 (us y) (g+k) ol=true:=by intro _;kernel_rfl) (hb:Cs P F=true:=by kernel_rfl) (hfo:fo.ev (Ak tl)=.fn F []:=by kernel_rfl) (hgd:gdB gd (Ak tl)=true:=by kernel_rfl) (hF:Nat.blt F mtd=true:=by kernel_rfl):XW P G g k (⟨some d,gd,.call fo ys tys⟩ :: xs) tl ol Kf:=by
 obtain ⟨y,hy,hK⟩:=Au h;exact Pf (caps:=[]) _ _ l zs (Py hgd) (hc hy) hb hR h1 h4 (h3 y hK) (hfo:=hfo) (hz:=by rw [List.map_nil,List.append_nil];exact hz) (hB:=hB y) (hF:=Nat.le_of_ble_eq_true hF) (hv:=rfl) (hu:=rfl)
theorem aR {θ:Oid->Oid} {ob:Oid->Option Ob}:∀ {zs args:List AV},zs=args.map (AV.ren θ)->Jy θ ob zs args
 | _,[],h=>by subst h;exact .nil
 | _,_ :: _,h=>by subst h;exact .cons (.ren rfl) (aR rfl)
end
end
section
open Go.RowKit Go.Deep
abbrev sI:Ty:=.slice .int
abbrev Y1:Ty:=.pair sI sI
abbrev Y2:Ty:=.pair .int Y1
abbrev Y4:Ty:=.pair .int Y2
section
variable {P:Program} {G:World->Prop} {g k d:Nat} {gd:Option (Nat×Bool)} {q:Q} {xs:List X} {tl:List (Nat×AV)} {ol:List (Oid×Option Ob)} {bad:List (Nat×Nat)} {ra:List Rec} {da:List (List Oid)} {Kf:List (Nat×AV)->List (Oid×Option Ob)->Prop}
theorem dz0 (v:AV) (h3:XD P G bad g (k+1) xs ((d,v) :: tl) ol ((0,v,[]) :: ra) ((rdX (Ak tl) (Ag ol) ⟨some d,gd,q⟩) :: da) Kf) (h:Bi (g+k) ⟨some d,gd,q⟩ (Ak tl) (only (rdX (Ak tl) (Ag ol) ⟨some d,gd,q⟩) (Ag ol))=some (0,v,[]):=by kernel_rfl):XD P G bad g k (⟨some d,gd,q⟩ :: xs) tl ol ra da Kf:=ds0 v h h3
theorem dzl (v:AV) (h3:XD P G bad g (k+1) xs ((d,v) :: tl) ol ((1,v,[]) :: ra) ((rdX (Ak tl) (Ag ol) ⟨some d,gd,q⟩) :: da) Kf) (h:Bi (g+k) ⟨some d,gd,q⟩ (Ak tl) (only (rdX (Ak tl) (Ag ol) ⟨some d,gd,q⟩) (Ag ol))=some (1,v,[]):=by kernel_rfl):XD P G bad g k (⟨some d,gd,q⟩ :: xs) tl ol ra da Kf:=dsl v h h3
theorem zc {fo:Opd} {ys:List Opd} {tys:List (List (Option Ty))} {F:FuncId} {rv:RV} {args:List AV} (v:AV) (us:List (Oid×Option Ob)) (zs:List AV) (hc:Bs P G F args rv) (h3:XW P G g (k+1) xs ((d,v) :: tl) (us.reverseAux ol) Kf) (h1:Hy (gnd (Ag ol) 8) zs=some zs:=by kernel_rfl) (hb:Cs P F=true:=by kernel_rfl) (hfo:fo.ev (Ak tl)=.fn F []:=by kernel_rfl) (hz:ys.map (Opd.ev (Ak tl))=zs:=by kernel_rfl) (hn:Ig tys zs=args:=by kernel_rfl) (hr:rv.out (Ev ((d,0),g+k)) zs=(v,us):=by kernel_rfl) (hx:Dq us=true:=by rfl) (hni:rv.noI=true:=by kernel_rfl) (hF:Nat.blt F mtd=true:=by kernel_rfl):XW P G g k (⟨some d,none,.call fo ys tys⟩ :: xs) tl ol Kf:=Abx (caps:=[]) (args0:=zs) v us zs args trivial h1 hc hb h3 (hfo:=hfo) (hz:=by simpa only [Ct,List.map_nil,List.append_nil,List.nil_append,ite_self] using hz) (hn:=hn) (hr:=hr) (hF:=if_pos (Nat.le_of_ble_eq_true hF)) (hx:=hx) (hni:=hni)
end
theorem kr {p:Prop} (h:p:=by kernel_rfl):p:=h
abbrev an (n:Nat):AV:=.int .i64 n
abbrev tI (x:List Int):AV:=.tree .int x
abbrev oI (a b n:Nat):AV:=.own (oi a b) .int 0 n
abbrev xm (d s:Nat):X:=⟨some d,none,.i (.mov (.tmp s))⟩
abbrev xl (d s:Nat):X:=⟨some d,none,.i (.ld true 1 (.tmp s))⟩
abbrev xf (d k s:Nat):X:=⟨some d,none,.i (.fld k (.tmp s))⟩
abbrev xn1 (d s:Nat):X:=⟨some d,none,.i (.len (.tmp s))⟩
abbrev xa (d s:Nat):X:=⟨some d,none,.i (.bin .add (.tmp s) (.cst (.int .i64 1)))⟩
section
variable {P:Program} {G:World->Prop} {g k d:Nat} {gd:Option (Nat×Bool)} {q:Q} {xs:List X} {tl:List (Nat×AV)} {ol:List (Oid×Option Ob)} {bad:List (Nat×Nat)} {ra:List Rec} {da:List (List Oid)} {Kf:List (Nat×AV)->List (Oid×Option Ob)->Prop}
theorem dzc {fo:Opd} {ys:List Opd} {tys:List (List (Option Ty))} {F:FuncId} {rv:RV} {args:List AV} (v:AV) (us:List (Oid×Option Ob)) (zs:List AV) (hc:Bs P G F args rv) (h3:XD P G bad g (k+1) xs ((d,v) :: tl) (us.reverseAux ol) ((1,v,us) :: ra) ((rdX (Ak tl) (Ag ol) ⟨some d,none,.call fo ys tys⟩) :: da) Kf) (h1:Hy (gnd (only (rdX (Ak tl) (Ag ol) ⟨some d,none,.call fo ys tys⟩) (Ag ol)) 8) zs=some zs:=by kernel_rfl) (hb:Cs P F=true:=by kernel_rfl) (hfo:fo.ev (Ak tl)=.fn F []:=by kernel_rfl) (hz:ys.map (Opd.ev (Ak tl))=zs:=by kernel_rfl) (hn:Ig tys zs=args:=by kernel_rfl) (hr:rv.out (Ev ((d,0),g+k)) zs=(v,us):=by kernel_rfl) (hx:Dq us=true:=by rfl) (hni:rv.noI=true:=by kernel_rfl) (hF:Nat.blt F mtd=true:=by kernel_rfl):XD P G bad g k (⟨some d,none,.call fo ys tys⟩ :: xs) tl ol ra da Kf:=Ae1 (caps:=[]) (args0:=zs) v us zs args trivial h1 hc hb h3 (hfo:=hfo) (hz:=by simpa only [Ct,List.map_nil,List.append_nil,List.nil_append,ite_self] using hz) (hn:=hn) (hr:=hr) (hF:=if_pos (Nat.le_of_ble_eq_true hF)) (hx:=hx) (hni:=hni)
theorem zO {sz:Nat} {x i:Opd} (o:Oid) (t:Ty) (len:Nat) {j:Nat} (hl:j<len) (h3:XW P G g (k+1) xs ((d,.elt o j 0) :: tl) ol Kf) (hx:x.ev (Ak tl)=.own o t 0 len:=by kernel_rfl) (hi:i.ev (Ak tl)=.int .i64 (j:Int):=by kernel_rfl) (hs:sz=t.size:=by rfl) (hgd:gdB gd (Ak tl)=true:=by kernel_rfl):XW P G g k (⟨some d,gd,.i (.idx sz x i)⟩ :: xs) tl ol Kf:=rs0 _ (E9 hgd (G5 hx hi hs (Int.natCast_nonneg _) rfl hl)) h3
theorem dzO {sz:Nat} {x i:Opd} (o:Oid) (t:Ty) (len:Nat) {j:Nat} (hl:j<len) (h3:XD P G bad g (k+1) xs ((d,.elt o j 0) :: tl) ol ((0,.elt o j 0,[]) :: ra) ((rdX (Ak tl) (Ag ol) ⟨some d,gd,.i (.idx sz x i)⟩) :: da) Kf) (hx:x.ev (Ak tl)=.own o t 0 len:=by kernel_rfl) (hi:i.ev (Ak tl)=.int .i64 (j:Int):=by kernel_rfl) (hs:sz=t.size:=by rfl) (hgd:gdB gd (Ak tl)=true:=by kernel_rfl):XD P G bad g k (⟨some d,gd,.i (.idx sz x i)⟩ :: xs) tl ol ra da Kf:=ds0 _ (E9 hgd (G5 hx hi hs (Int.natCast_nonneg _) rfl hl)) h3
theorem zE {x:Opd} (i:Oid) {ws:List Int} {j:Nat} {z:Int} (hz:ws[j]? =some z) (h3:XW P G g (k+1) xs ((d,.int .i64 z) :: tl) ol Kf) (hx:x.ev (Ak tl)=.elt i j 0:=by kernel_rfl) (hob:Ag ol i=some (.arr 3 .int ws):=by kernel_rfl) (hgd:gdB gd (Ak tl)=true:=by kernel_rfl):XW P G g k (⟨some d,gd,.i (.ld true 1 x)⟩ :: xs) tl ol Kf:=rsl _ (E9 hgd (Gn (k:=0) (t:=.int) hx hob hz rfl)) h3
theorem dzE {x:Opd} (i:Oid) {ws:List Int} {j:Nat} {z:Int} (hz:ws[j]? =some z) (h3:XD P G bad g (k+1) xs ((d,.int .i64 z) :: tl) ol ((1,.int .i64 z,[]) :: ra) ((rdX (Ak tl) (Ag ol) ⟨some d,gd,.i (.ld true 1 x)⟩) :: da) Kf) (hx:x.ev (Ak tl)=.elt i j 0:=by kernel_rfl) (hob:only (rdX (Ak tl) (Ag ol) ⟨some d,gd,.i (.ld true 1 x)⟩) (Ag ol) i=some (.arr 3 .int ws):=by kernel_rfl) (hgd:gdB gd (Ak tl)=true:=by kernel_rfl):XD P G bad g k (⟨some d,gd,.i (.ld true 1 x)⟩ :: xs) tl ol ra da Kf:=dsl _ (E9 hgd (Gn (k:=0) (t:=.int) hx hob hz rfl)) h3
theorem zS {x y:Opd} (i:Oid) {ws:List Int} {j:Nat} {z:Int} (z1:Int) (hz:ws[j]? =some z) (h3:XW P G g (k+1) xs tl ((i,some (.arr 3 .int (ws.set j z1))) :: (i,none) :: ol) Kf) (hx:x.ev (Ak tl)=.elt i j 0:=by kernel_rfl) (hob:Ag ol i=some (.arr 3 .int ws):=by kernel_rfl) (hy:y.ev (Ak tl)=.int .i64 z1:=by kernel_rfl) (hgd:gdB gd (Ak tl)=true:=by kernel_rfl):XW P G g k (⟨none,gd,.st true 1 x y⟩ :: xs) tl ol Kf:=Agd _ _ _ (E9 hgd (Ae3 (k:=0) (t:=.int) (cs:=[.int .i64 z1]) (x1:=z1) hx hob hz (by rw [hy];rfl) rfl)) h3
theorem zB {x y:Opd} {by_:Nat} (j q:Oid) (ws:List Int) (z:Int) (h:ws.length+1<=1073741824/\(ws.length+1)*by_<=140737488355328) (h3:XW P G g (k+1) xs ((d,.own (j.1,g+k) .int 0 (ws++[z]).length) :: tl) (((j.1,g+k),some (.arr 3 .int (ws++[z]))) :: (j,none) :: ol) Kf) (hx:x.ev (Ak tl)=.own j .int 0 ws.length:=by kernel_rfl) (hob:Ag ol j=some (.arr 3 .int ws):=by kernel_rfl) (hy:y.ev (Ak tl)=.own q .int 0 1:=by kernel_rfl) (hq:Ag ol q=some (.arr 3 .int [z]):=by kernel_rfl) (hgd:gdB gd (Ak tl)=true:=by kernel_rfl):XW P G g k (⟨some d,gd,.append 3 .int by_ x y⟩ :: xs) tl ol Kf:=rs2 _ _ _ _ (E9 hgd (Qg (t:=.int) (ys:=[z]) hx hob rfl hy (Ow hq rfl) rfl h)) h3
end
section
variable {n:Nat} {d:Option Nat} {f:Nat->AV} {ob:Oid->Option Ob}
theorem zo {sz:Nat} {x i:Opd} {t:Ty} {o:Oid} {len:Nat} {k:IntKind} {m:Int} {j:Nat} (h0:0<=m) (hl:j<len) (hx:x.ev f=.own o t 0 len:=by kernel_rfl) (hi:i.ev f=.int k m:=by kernel_rfl) (hs:sz=t.size:=by rfl) (hj:m.toNat=j:=by rfl):Bi n ⟨d,none,.i (.idx sz x i)⟩ f ob=some (0,.elt o j 0,[]):=G5 hx hi hs h0 hj hl
theorem zl {vs:List Value} {c:AV} {l:RL} (h:Jd ob c=some l:=by kernel_rfl):LeafR vs ob c l:=Af2 h
end
theorem zj {α:Type} {a b:α} (h:some a=some b):a=b:=osj h
end
section
open Go.RowKit Go.Deep
set_option maxRecDepth 4000
set_option maxHeartbeats 4800000
variable {aA aB:List Int} {bA:Bool} {cA cB cC:Int} {dA:ByteArray} {eA:List ByteArray} {fA:Int×Bool}
def El (a0 a1:List Int) (u0:Nat):Option (Ctl Nat (Ctl Unit Bool)) :=
 cond (decide ((u0:Int)<(a0.length:Int)))
 ((a0[u0]?).bind fun x14 =>
 (a1[u0]?).bind fun x15 =>
 cond (x14 !=x15)
  (some (Ctl.out (Ctl.out false)))
  (og (u0+1<4611686018427387904) <|
  some (Ctl.next (u0+1))))
 (some (Ctl.out (Ctl.next ())))
def C1 (a0 a1:List Int):Option Bool :=
 cond ((a0.length:Int) !=(a1.length:Int))
 (some false)
 (Mm (Az (fun s_:Nat=>El a0 a1 s_) 4611686018427387904 0) fun _ =>
 some true)
def At (r:Bool):RV:=⟨false,[(false,[.sc (.bool r)])]⟩
theorem Fd (h:C1 aA aB=some bA):cK 20 [tI aA,tI aB] (At bA):=by
 exact cO Tryz.func20 (Am (Ab (Am (kQ h (fun _ h=>Am (Af (tr_ (jS h)))) fun _ h=>skW (sqC h (fun _=>sT [] []) (fun _ h hk6=>Am (Ai (lpF h (fun u0=>sT [(0,tI aA),(1,tI aB),(5,an u0)] []) (Av []) (fun n_ u0 c_ h hn8=>Ab (Am (kQ h (fun _ h=>skW (Ab (Ai (Ab (Bq 15 (ds0 (tI aA) kr (ds0 (an u0) kr (diH .int h fun x14 _ h=>dsT 3 (diH .int h fun x15 _ h=>ds0 (ai x15) kr (ds0 (.bool (x14 !=x15)) kr (N3 (Cp kr) (tn_ (wr_ (kQ h (fun _ h=>Am (Af (br_ (tr_ (tr_ (br_ (tr_ (have h:=jO h hn8;(have h:=jO h hk6;jS h))))))))) fun _ h=>Ba (bn_ (tn_ (wr_ (Aa 18 (rsT 1 (raH h fun h=>rsT 1 (A0 (tn_ (jL []))))))))))))))))))))))) fun _ h=>lxT (have h:=jO h hn8;jC []))))))) fun _ h=>Am (Af (jS h)))))))
def Cn (a0 a1 a2:Int):Option Bool :=
 (cond (decide (a1<=a0))
  (some (decide (a0<=a2)))
  (some false)).bind fun u0 =>
some u0
theorem C0 (h:Cn cA cB cC=some bA):cK 10 [ai cA,ai cB,ai cC] (At bA):=by
 exact cO Tryz.func10 (Am (sqF h (fun u0=>sT [(6,.bool u0)] []) (fun _ h=>Aa 11 (rsT 4 (kR h 10 (fun _ h=>rsT 5 (A0 (tn_ (jE [])))) fun _ h=>rsT 5 (A0 (tn_ (jE [])))))) fun u0 h=>Af (jS h)))
def Gj (a0:List Int) (a1 a2:Int) (u0:Nat):Option (Ctl Nat (Ctl Unit Bool)) :=
 cond (decide ((u0:Int)<(a0.length:Int)))
 ((a0[u0]?).bind fun x10 =>
 (Cn x10 a1 a2).bind fun y12 =>
 cond (!y12)
  (some (Ctl.out (Ctl.out false)))
  (og (u0+1<4611686018427387904) <|
  some (Ctl.next (u0+1))))
 (some (Ctl.out (Ctl.next ())))
def Dm (a0:List Int) (a1 a2:Int):Option Bool :=
 Mm (Az (fun s_:Nat=>Gj a0 a1 a2 s_) 4611686018427387904 0) fun _ =>
some true
theorem F1 (h:Dm aA cA cB=some bA):cK 26 [tI aA,ai cA,ai cB] (At bA):=by
 exact cO Tryz.func26 (Am (sqC h (fun _=>sT [] []) (fun _ h hk2=>Am (Ai (lpF h (fun u0=>sT [(1,ai cA),(2,ai cB),(9,tI aA),(10,an aA.length),(11,an u0)] []) (Av []) (fun n_ u0 c_ h hn4=>Am (Ab (kQ h (fun _ h=>skW (Ab (Ai (Ab (Aa 6 (riH .int h fun x10 _ h=>rsT 2 (rnW (Ab (Aa 11 (rsT 3 (rcH h C0 fun y12 h=>rsT 1 (rnW (kQ h (fun _ h=>Am (Af (br_ (tr_ (tr_ (br_ (tr_ (have h:=jO h hn4;(have h:=jO h hk2;jS h))))))))) fun _ h=>Ba (bn_ (tn_ (wr_ (Aa 13 (raH h fun h=>rsT 1 (A0 (tn_ (jL []))))))))))))))))))))) fun _ h=>lxT (have h:=jO h hn4;jC []))))))) fun _ h=>Am (Af (jS h))))
def C4 (a0 a1 a2:Int):Option Bool :=
 (cond (decide (a1<=a0))
  (some (decide (a0<=a2)))
  (some false)).bind fun u0 =>
some u0
theorem Fm (h:C4 cA cB cC=some bA):cK 36 [ai cA,ai cB,ai cC] (At bA):=by
 exact cO Tryz.func36 (Am (sqF h (fun u0=>sT [(6,.bool u0)] []) (fun _ h=>Aa 11 (rsT 4 (kR h 10 (fun _ h=>rsT 5 (A0 (tn_ (jE [])))) fun _ h=>rsT 5 (A0 (tn_ (jE [])))))) fun u0 h=>Af (jS h)))
def Fc (rec_:Int->Option ByteArray) (a0:Int):Option ByteArray :=
 cond (decide (a0<10))
 (some (strOfNums [IntKind.u8.wrap (wI (48+a0))]))
 ((rec_ (wI (Int.tdiv a0 10))).bind fun y7 =>
 og (y7.size+(strOfNums [IntKind.u8.wrap (wI (48+Int.tmod a0 10))]).size<=9223372036854775807) <|
 some (y7++(strOfNums [IntKind.u8.wrap (wI (48+Int.tmod a0 10))])))
def B8:Nat->Int->Option ByteArray
 | 0=>fun _=>none
 | n_+1=>Fc (B8 n_)
def Cm (r:ByteArray):RV:=⟨false,[(false,[.sc (.str r)])]⟩
theorem Oq {rec_:Int->Option ByteArray} (ih_:∀ {a0:Int} {r:ByteArray} (h:rec_ a0=some r),cK 29 [ai a0] (Cm r)) {a0:Int} {r:ByteArray} (h:Fc rec_ a0=some r):cK 29 [ai a0] (Cm r):=by
 refine cO Tryz.func29 (Am (Ab (Am (kQ h (fun _ h=>Ab (Aa 10 (rsT 3 (Agw (oI 8 7 1) (oi 8 7) (.vec 5 1 1 [.int .u8 (IntKind.u8.wrap (wI (48+a0)))]) trivial (Ae4 kr) (rsT 2 (rnW (Af (tr_ (jS h))))))))) fun _ h=>skW (Ab (Bq 15 (dz0 (ai a0) (ds0 (ai (wI (Int.tdiv a0 10))) (Agm (k:=.i64) (a:=a0) (b:=10) kr kr (by decide)) (dcH h ih_ fun y7 h=>dz0 (ai a0) (ds0 (ai (Int.tmod a0 10)) (Agk (k:=.i64) (a:=a0) (b:=10) kr kr (by decide)) (dz0 (ai (wI (48+Int.tmod a0 10))) (dz0 (.int .u8 (IntKind.u8.wrap (wI (48+Int.tmod a0 10)))) (Ag4 (oI 17 11 1) (oi 17 11) (.vec 5 1 1 [.int .u8 (IntKind.u8.wrap (wI (48+Int.tmod a0 10)))]) trivial (Ae4 kr) (dzl (.str (strOfNums [IntKind.u8.wrap (wI (48+Int.tmod a0 10))])) ?_))))))))))))));obtain ⟨g8,h⟩:=Ax h;exact ds0 (.str (y7++(strOfNums [IntKind.u8.wrap (wI (48+Int.tmod a0 10))]))) (Cr (a:=y7) (b:=strOfNums [IntKind.u8.wrap (wI (48+Int.tmod a0 10))]) kr kr g8) (dz0 (.str (y7++(strOfNums [IntKind.u8.wrap (wI (48+Int.tmod a0 10))]))) (N3 (Cp kr) (tn_ (wr_ (Af (jS h))))))
theorem H0:∀ (n_:Nat) {a0:Int} {r:ByteArray} (h:B8 n_ a0=some r),cK 29 [ai a0] (Cm r):=by
 intro n_
 induction n_ with
 | zero=>intros;rename_i h;cases h
 | succ n_ ih_=>intros;exact Oq ih_ (by assumption)
def D1 (a0:ByteArray) (a1:Int) (u1 u0:Nat) (u2:List ByteArray):Option (Ctl (Nat×Nat×List ByteArray) (Nat×List ByteArray)) :=
 cond (decide ((u0:Int)<(a0.size:Int)))
 (((a0[u0]?).bind fun x12 =>
  cond ((x12.toNat:Int)==a1)
   (og ((0:Int)<=(u1:Int)/\(u1:Int)<=(u0:Int)/\(u0:Int)<=(a0.size:Int)) <|
   og (u2.length+1<=1073741824/\(u2.length+1)*16<=140737488355328) <|
   og (u0+1<4611686018427387904) <|
   some (u0+1,u2++([a0.extract u1 u0])))
   (some (u1,u2))).bind fun (u3,u4) =>
 og (u0+1<4611686018427387904) <|
 some (Ctl.next (u3,u0+1,u4)))
 (some (Ctl.out (u1,u2)))
def Cf (a0:ByteArray) (a1:Int):Option (List ByteArray) :=
 (Az (fun s_:Nat×Nat×List ByteArray=>D1 a0 a1 s_.1 s_.2.1 s_.2.2) 4611686018427387904 (0,0,[])).bind fun (u0,u1) =>
og ((0:Int)<=(u0:Int)/\(u0:Int)<=(a0.size:Int)/\(a0.size:Int)<=(a0.size:Int)) <|
og (u1.length+1<=1073741824/\(u1.length+1)*16<=140737488355328) <|
some (u1++([a0.extract u0 a0.size]))
def Gl (r:List ByteArray):RV:=⟨false,[(false,[.new 9 .str r])]⟩
theorem Dt (h:Cf dA cA=some eA):cK 9 [.str dA,.int .u8 cA] (Gl eA):=by
 refine cO Tryz.func9 (Am (Am (Am (sqF h (fun (u1,u2)=>sT [(0,.str dA),(5,.own (oi 0 1) .str 0 u2.length),(6,an u1)] [(oi 0 1,.arr 9 .str u2)]) ?_ ?_))))
 ·intro _ h;refine Am (Ai (lpF h (fun (u3,u0,u4)=>sT [(0,.str dA),(1,.int .u8 cA),(5,.own (oi 0 1) .str 0 u4.length),(6,an u3),(7,an u0)] [(oi 0 1,.arr 9 .str u4)]) ((Sf 5 9 .str rfl kr).trans (Av [(oi 0 1,oi 5 5)])) ?_));rintro n_ ⟨u3,u0,u4⟩ c_ h hn6;refine Ab (Am (kQ h (fun _ h=>skW (sqF h (fun (u6,u5)=>sT [(0,.str dA),(1,.int .u8 cA),(5,.own (oi 0 1) .str 0 u5.length),(6,an u6),(7,an u0)] [(oi 0 1,.arr 9 .str u5)]) ?_ ?_)) fun _ h=>lxT (have h:=jO h hn6;jE [])))
  ·intro _ h;refine Ai (Ab (Aa 11 (rsT 2 ?_)));obtain ⟨x12,e12,h⟩:=Au h;refine rs0 (.int .u8 (x12.toNat:Int)) (Pj (s:=dA) (k:=.i64) (m:=(u0:Int)) kr kr (Ts _) rfl e12) (rsT 2 (rnW (kQ h (fun _ h=>Ab (Aa 19 (rsT 4 ?_))) fun _ h=>Ba (bn_ (tn_ (jE []))))));obtain ⟨g15,h⟩:=Ax h;obtain ⟨g16,h⟩:=Ax h;exact rs0 (.str (dA.extract u3 u0)) (Z9 (s:=dA) (l:=(u3:Int)) (h:=(u0:Int)) kr kr kr g15) (rsB 1 (rs2 (.own (oi 0 17) .str 0 ((u4++([dA.extract u3 u0])).length)) (oi 0 1) (oi 0 17) (.arr 9 .str (u4++([dA.extract u3 u0]))) (Qg (t:=.str) (t':=.str) (xs:=u4) (ys:=[dA.extract u3 u0]) (zs:=u4++([dA.extract u3 u0])) (j:=oi 0 1) (len:=u4.length) (c:=.own (oi 24 16) .str 0 1) kr kr rfl kr (Ow (e:=9) kr rfl) rfl g16) (rsT 1 (rnW (Aa 22 (rsT 1 (raH h fun h=>rsT 1 (A0 (bn_ (tn_ (jE [(oi 0 1,oi 0 17)])))))))))))
  rintro ⟨u6,u5⟩ h;exact Aa 5 (rsT 1 (raH h fun h=>rsT 1 (A0 (tn_ (jL [])))))
 rintro ⟨u1,u2⟩ h;refine Ab (Aa 9 (rsT 3 ?_));obtain ⟨g20,h⟩:=Ax h;obtain ⟨g21,h⟩:=Ax h;exact rs0 (.str (dA.extract u1 dA.size)) (Z9 (s:=dA) (l:=(u1:Int)) (h:=(dA.size:Int)) kr kr kr g20) (rsB 1 (rs2 (.own (oi 0 7) .str 0 ((u2++([dA.extract u1 dA.size])).length)) (oi 0 1) (oi 0 7) (.arr 9 .str (u2++([dA.extract u1 dA.size]))) (Qg (t:=.str) (t':=.str) (xs:=u2) (ys:=[dA.extract u1 dA.size]) (zs:=u2++([dA.extract u1 dA.size])) (j:=oi 0 1) (len:=u2.length) (c:=.own (oi 32 6) .str 0 1) kr kr rfl kr (Ow (e:=9) kr rfl) rfl g21) (rsT 1 (rnW (Af (jR h [.own (oi 0 7) .str 0 ((u2++([dA.extract u1 dA.size])).length)] (Rh rfl (Ue kr rfl) Y3)))))))
def En (a0:ByteArray) (u1:Int) (u0:Nat):Option (Ctl (Int×Nat) (Ctl Int Int)) :=
 cond (decide ((u0:Int)<(a0.size:Int)))
 (((a0[u0]?).bind fun x20 =>
  cond (decide ((x20.toNat:Int)<48))
   (some true)
   ((a0[u0]?).bind fun x22 =>
   some (decide (57<(x22.toNat:Int))))).bind fun u2 =>
 cond u2
  (some (Ctl.out (Ctl.out (-1))))
  ((a0[u0]?).bind fun x25 =>
  og (u0+1<4611686018427387904) <|
  some (Ctl.next (wI (wI (10*u1)+wI (IntKind.u8.wrap ((x25.toNat:Int) - 48))),u0+1))))
 (some (Ctl.out (Ctl.next u1)))
def Bo (a0:ByteArray):Option Int :=
 ((Cn (a0.size:Int) 1 6).bind fun y4 =>
 cond (!y4)
  (some true)
  ((a0[0]?).bind fun x6 =>
  cond ((x6.toNat:Int)==48)
   (some (decide (1<(a0.size:Int))))
   (some false))).bind fun u0 =>
cond u0
 (some (-1))
 (Mm (Az (fun s_:Int×Nat=>En a0 s_.1 s_.2) 4611686018427387904 (0,0)) fun u1 =>
 some u1)
def Jj (r:Int):RV:=⟨false,[(false,[.sc (.int .i64 r)])]⟩
theorem G6 (h:Bo dA=some cA):cK 11 [.str dA] (Jj cA):=by
 refine cO Tryz.func11 (Am (Ab (sqF h (fun u2=>sT [(0,.str dA),(18,.bool u2)] []) ?_ ?_)))
 ·intro _ h;refine Aa 16 (rsT 2 (rcH h C0 fun y4 h=>rsT 2 ?_));rcases Co h with ⟨q5,h⟩|⟨q5,h⟩
  ·exact rq 9 q5 (rsT 4 (rs0 (.tup []) (T7 kr) (rs0 (.tup []) (T7 kr) (rs0 (.tup []) (T7 kr) (rsT 2 (A0 (tn_ (jE []))))))))
  refine rq 9 q5 (rsT 1 ?_);obtain ⟨x6,e6,h⟩:=Au h;exact rs0 (.int .u8 (x6.toNat:Int)) (Pj (s:=dA) (k:=.i64) (m:=0) kr kr (by decide) rfl e6) (rsT 2 (kR h 13 (fun _ h=>rsT 5 (A0 (tn_ (jE [])))) fun _ h=>rsT 5 (A0 (tn_ (jE [])))))
 intro u2 h;refine kQ h (fun _ h=>Am (Af (tr_ (jS h)))) fun _ h=>skW (Am (sqC h (fun u3=>sT [(3,ai u3)] []) ?_ fun u3 h=>Am (Af (jS h))))
 intro _ h hk11;refine Am (Ai (lpF h (fun (u1,u0)=>sT [(0,.str dA),(3,ai u1),(4,an u0)] []) (Av []) ?_));rintro n_ ⟨u1,u0⟩ c_ h hn13;refine Ab (Am (kQ h (fun _ h=>skW (Ab (Ai (Ab (sqF h (fun u4=>sT [(0,.str dA),(3,ai u1),(4,an u0),(34,.bool u4)] []) ?_ ?_))))) fun _ h=>lxT (have h:=jO h hn13;jC [])))
 ·intro _ h;refine Aa 16 (rsT 2 ?_);obtain ⟨x20,e20,h⟩:=Au h;refine rs0 (.int .u8 (x20.toNat:Int)) (Pj (s:=dA) (k:=.i64) (m:=(u0:Int)) kr kr (Ts _) rfl e20) (rsT 2 ?_);rcases Co h with ⟨q21,h⟩|⟨q21,h⟩
  ·exact rq 29 q21 (rsT 5 (A0 (tn_ (jE []))))
  refine rq 29 q21 (rsT 2 ?_);obtain ⟨x22,e22,h⟩:=Au h;exact rs0 (.int .u8 (x22.toNat:Int)) (Pj (s:=dA) (k:=.i64) (m:=(u0:Int)) kr kr (Ts _) rfl e22) (rsT 2 (A0 (tn_ (jE []))))
 intro u4 h;refine kQ h (fun _ h=>Am (Af (tr_ (br_ (tr_ (tr_ (br_ (tr_ (have h:=jO h hn13;(have h:=jO h hk11;jS h)))))))))) fun _ h=>skW (Aa 11 (rsT 4 ?_))
 obtain ⟨x25,e25,h⟩:=Au h;exact rs0 (.int .u8 (x25.toNat:Int)) (Pj (s:=dA) (k:=.i64) (m:=(u0:Int)) kr kr (Ts _) rfl e25) (rsT 4 (A0 (bn_ (tn_ (wr_ (Aa 14 (rsT 1 (raH h fun h=>rsT 1 (A0 (tn_ (jL [])))))))))))
def C7 (a0:ByteArray):Option (Int×Bool) :=
 (Fl a0).bind fun y3 =>
(cond (!y3.2)
  (cond (decide ((a0.size:Int)<=4))
   ((Bj y3.1).bind fun y7 =>
   some (y7.toList==a0.toList))
   (some false))
  (some false)).bind fun u0 =>
some (y3.1,u0)
def Oy (r:Int×Bool):RV:=⟨true,[(false,[.sc (.int .i64 r.1)]),(false,[.sc (.bool r.2)])]⟩
theorem P4 (h:C7 dA=some fA):cK 33 [.str dA] (Oy fA):=by
 refine cO Tryz.func33 (Am (Ab (Aa 10 (rsT 1 (rcH h N5 fun y3 h=>rsT 5 (rnW (sqF h (fun u0=>sT [(2,ai y3.1),(3,.bool u0)] []) ?_ fun u0 h=>Af (jS h))))))));intro _ h;refine Aa 26 (rsT 4 (kR h 14 (fun _ h=>rsT 5 ?_) fun _ h=>rsT 12 (A0 (tn_ (jE [])))));rcases Co h with ⟨q6,h⟩|⟨q6,h⟩
 ·exact rq 19 q6 (rsT 1 (rcH h E3 fun y7 h=>rsT 5 (A0 (tn_ (jE [])))))
 exact rq 19 q6 (rsT 7 (A0 (tn_ (jE []))))
def Dd (a0:List Int) (u0:Nat) (u1:List ByteArray):Option (Ctl (Nat×List ByteArray) (List ByteArray)) :=
 cond (decide ((u0:Int)<(a0.length:Int)))
 ((a0[u0]?).bind fun x11 =>
 (Bj x11).bind fun y12 =>
 og (u1.length+1<=1073741824/\(u1.length+1)*16<=140737488355328) <|
 og (u0+1<4611686018427387904) <|
 some (Ctl.next (u0+1,u1++([y12]))))
 (some (Ctl.out u1))
def Ca (a0:List Int):Option ByteArray :=
 (Az (fun s_:Nat×List ByteArray=>Dd a0 s_.1 s_.2) 4611686018427387904 (0,[])).bind fun u0 =>
(De u0 (⟨#[44]⟩:ByteArray)).bind fun y16 =>
some y16
theorem Fb (h:Ca aA=some dA):cK 41 [tI aA] (Cm dA):=by
 refine cO Tryz.func41 (Am (Am (sqF h (fun u1=>sT [(3,.own (oi 0 1) .str 0 u1.length)] [(oi 0 1,.arr 9 .str u1)]) ?_ fun u1 h=>Ab (Aa 5 (rsT 1 (rcG h [.own (oi 0 1) .str 0 u1.length,.str (⟨#[44]⟩:ByteArray)] I4 (Oh (Wk (e:=9) kr rfl) (Oh kr Abn)) fun y16 h=>rsT 1 (rnW (Af (jS h)))))))));intro _ h;refine Am (Ai (lpF h (fun (u2,u0)=>sT [(3,.own (oi 0 1) .str 0 u0.length),(7,tI aA),(8,an aA.length),(9,an u2)] [(oi 0 1,.arr 9 .str u0)]) (Av [(oi 0 1,oi 6 2)]) ?_));rintro n_ ⟨u2,u0⟩ c_ h hn5;refine Am (Ab (kQ h (fun _ h=>skW (Ab (Ai (Ab (Aa 6 (riH .int h fun x11 _ h=>rsT 2 (rnW (Aa 12 (rsT 2 (rcH h E3 fun y12 h=>rsB 1 ?_)))))))))) fun _ h=>lxT (have h:=jO h hn5;jE [])));obtain ⟨g13,h⟩:=Ax h;exact rs2 (.own (oi 0 10) .str 0 ((u0++([y12])).length)) (oi 0 1) (oi 0 10) (.arr 9 .str (u0++([y12]))) (Qg (t:=.str) (t':=.str) (xs:=u0) (ys:=[y12]) (zs:=u0++([y12])) (j:=oi 0 1) (len:=u0.length) (c:=.own (oi 16 9) .str 0 1) kr kr rfl kr (Ow (e:=9) kr rfl) rfl g13) (rsT 1 (A0 (bn_ (tn_ (wr_ (Aa 14 (raH h fun h=>rsT 1 (A0 (tn_ (jL [(oi 0 1,oi 0 10)]))))))))))
end


section
open Go.RowKit Go.Deep
section
variable {σ:Oid->Option Loc} {im:Nat->Prop} {w:World}
end
section
variable {n:Nat} {d:Option Nat} {f:Nat->AV} {ob:Oid->Option Ob}
end
end
section
open Go.RowKit Go.Deep
end
section
open Go.RowKit Go.Deep
section
variable {n:Nat} {d:Option Nat} {f:Nat->AV} {ob:Oid->Option Ob}
end
end
section
open Go.RowKit Go.Deep
set_option maxRecDepth 4000
set_option maxHeartbeats 4800000
variable {cA cB cC cD:Int} {aA aB aC aD:List Int} {bA:Bool} {gA gB:List (Int×Int×(List Int)×List Int)}
def Fz (u0 u1:Int) (u2 u3:List Int) (u4 u5:Int) (u6 u7:List Int):Option Bool :=
 cond (u0 !=u4)
 (some false)
 (cond (u1 !=u5)
  (some false)
  ((C1 u2 u6).bind fun y12 =>
  cond (!y12)
   (some false)
   ((C1 u3 u7).bind fun y17 =>
   cond (!y17)
    (some false)
    (some true))))
theorem Pc (h:Fz cA cB aA aB cC cD aC aD=some bA):cK 44 [.agg [ai cA,ai cB,tI aA,tI aB],.agg [ai cC,ai cD,tI aC,tI aD]] (At bA):=by
 exact cO Tryz.func44 (Am (Ab (Am (kQ h (fun _ h=>Am (Af (tr_ (jS h)))) fun _ h=>skW (Ab (Am (kQ h (fun _ h=>Am (Af (tr_ (jS h)))) fun _ h=>skW (Ab (Ab (Aa 20 (rsT 4 (rcH h Fd fun y12 h=>rsT 1 (rnW (kQ h (fun _ h=>Am (Af (tr_ (jS h)))) fun _ h=>skW (Ab (Ab (Aa 26 (rsT 4 (rcH h Fd fun y17 h=>rsT 1 (rnW (kQ h (fun _ h=>Am (Af (tr_ (jS h)))) fun _ h=>skW (Am (Af (jS h))))))))))))))))))))))))
def D5 (a0:List (Int×Int×(List Int)×List Int)) (a1:List (Int×Int×(List Int)×List Int)) (u0:Nat):Option (Ctl Nat (Ctl Unit Bool)) :=
 cond (decide ((u0:Int)<(a0.length:Int)))
 ((a0[u0]?).bind fun x14 =>
 (a1[u0]?).bind fun x15 =>
 (Fz x14.1 x14.2.1 x14.2.2.1 x14.2.2.2 x15.1 x15.2.1 x15.2.2.1 x15.2.2.2).bind fun y16 =>
 cond (!y16)
  (some (Ctl.out (Ctl.out false)))
  (og (u0+1<4611686018427387904) <|
  some (Ctl.next (u0+1))))
 (some (Ctl.out (Ctl.next ())))
def Fi (a0:List (Int×Int×(List Int)×List Int)) (a1:List (Int×Int×(List Int)×List Int)):Option Bool :=
 cond ((a0.length:Int) !=(a1.length:Int))
 (some false)
 (Mm (Az (fun s_:Nat=>D5 a0 a1 s_) 4611686018427387904 0) fun _ =>
 some true)
theorem Nz (h:Fi gA gB=some bA):cK 19 [.tree Y4 gA,.tree Y4 gB] (At bA):=by
 exact cO Tryz.func19 (Am (Ab (Am (kQ h (fun _ h=>Am (Af (tr_ (jS h)))) fun _ h=>skW (sqC h (fun _=>sT [] []) (fun _ h hk6=>Am (Ai (lpF h (fun u0=>sT [(0,.tree Y4 gA),(1,.tree Y4 gB),(5,an u0)] []) (Av []) (fun n_ u0 c_ h hn8=>Ab (Am (kQ h (fun _ h=>skW (Ab (Ai (Ab (Bq 16 (ds0 (.tree Y4 gA) kr (ds0 (an u0) kr (diH Y4 h fun x14 _ h=>dsT 3 (diH Y4 h fun x15 _ h=>ds0 (.agg [ai x15.1,ai x15.2.1,tI x15.2.2.1,tI x15.2.2.2]) kr (dcH h Pc fun y16 h=>ds0 (.bool (!y16)) kr (N3 (Cp kr) (tn_ (wr_ (kQ h (fun _ h=>Am (Af (br_ (tr_ (tr_ (br_ (tr_ (have h:=jO h hn8;(have h:=jO h hk6;jS h))))))))) fun _ h=>Ba (bn_ (tn_ (wr_ (Aa 19 (rsT 1 (raH h fun h=>rsT 1 (A0 (tn_ (jL []))))))))))))))))))))))) fun _ h=>lxT (have h:=jO h hn8;jC []))))))) fun _ h=>Am (Af (jS h)))))))
def Hi (u0:Int) (u1:List (Int×Int×(List Int)×List Int)) (u2 u3:List Int) (u4:Int) (u5:List (Int×Int×(List Int)×List Int)) (u6 u7:List Int):Option Bool :=
 cond (u0 !=u4)
 (some false)
 ((Fi u1 u5).bind fun y8 =>
 cond (!y8)
  (some false)
  ((C1 u2 u6).bind fun y13 =>
  cond (!y13)
   (some false)
   ((C1 u3 u7).bind fun y18 =>
   cond (!y18)
    (some false)
    (some true))))
theorem Nx (h:Hi cA gA aA aB cB gB aC aD=some bA):cK 6 [.agg [ai cA,.tree Y4 gA,tI aA,tI aB],.agg [ai cB,.tree Y4 gB,tI aC,tI aD]] (At bA):=by
 exact cO Tryz.func6 (Am (Ab (Am (kQ h (fun _ h=>Am (Af (tr_ (jS h)))) fun _ h=>skW (Ab (Ab (Aa 15 (rsT 4 (rcH h Nz fun y8 h=>rsT 1 (rnW (kQ h (fun _ h=>Am (Af (tr_ (jS h)))) fun _ h=>skW (Ab (Ab (Aa 21 (rsT 4 (rcH h Fd fun y13 h=>rsT 1 (rnW (kQ h (fun _ h=>Am (Af (tr_ (jS h)))) fun _ h=>skW (Ab (Ab (Aa 27 (rsT 4 (rcH h Fd fun y18 h=>rsT 1 (rnW (kQ h (fun _ h=>Am (Af (tr_ (jS h)))) fun _ h=>skW (Am (Af (jS h))))))))))))))))))))))))))))
end


section
section
variable {α β σ ρ:Type}
theorem Si {body:σ->Option (Ctl σ ρ)} {Post:ρ->Prop} (n:Nat) (I:Nat->σ->Prop)
  (hs:∀ i s,i<n->I i s->(∃ s',body s=some (.next s')/\I (i+1) s')∨∃ r,body s=some (.out r)/\Post r) (he:∀ s,I n s->∃ r,body s=some (.out r)/\Post r) :
  ∀ (F k:Nat) (s:σ),k<=n->n - k<F->I k s->∃ r,Az body F s=some r/\Post r
 | 0,_,_,_,h,_=>by omega
 | F+1,k,s,hk,h,hi=>by
  have key:(∃ r,body s=some (.out r)/\Post r)->∃ r,Az body (F+1) s=some r/\Post r:=by
   rintro ⟨r,h1,h2⟩;exact ⟨r,by simp only [Az,h1,obs,Ctl.then],h2⟩
  rcases Nat.lt_or_ge k n with hlt|hge
  ·rcases hs k s hlt hi with ⟨s',h1,h2⟩|h
   ·obtain ⟨r,h3,h4⟩:=Si n I hs he F (k+1) s' hlt oM h2;exact ⟨r,by simp only [Az,h1,obs,Ctl.then];exact h3,h4⟩
   ·exact key h
  ·obtain rfl:k=n:=by omega
   exact key (he s hi)
theorem G0 {body:σ->Option (Ctl σ ρ)} {Post:ρ->Prop} (n:Nat) (I:Nat->σ->Prop) {F:Nat} (hn:n<F) {s0:σ} (h0:I 0 s0)
  (hs:∀ i s,i<n->I i s->(∃ s',body s=some (.next s')/\I (i+1) s')∨∃ r,body s=some (.out r)/\Post r) (he:∀ s,I n s->∃ r,body s=some (.out r)/\Post r):∃ r,Az body F s0=some r/\Post r :=
 Si n I hs he F 0 s0 (Nat.zero_le _) oM h0
theorem Vw {body:σ->Option (Ctl σ ρ)} (n:Nat) (I:Nat->σ->Prop) {F:Nat} (hn:n<F) {s0:σ} (r:ρ) (h0:I 0 s0)
  (hs:∀ i s,i<n->I i s->(∃ s',body s=some (.next s')/\I (i+1) s')∨body s=some (.out r)) (he:∀ s,I n s->body s=some (.out r)):Az body F s0=some r:=by
 obtain ⟨r',h1,rfl⟩:=G0 (Post:=fun r'=>r'=r) n I hn h0 (fun i s hi hI=>(hs i s hi hI).imp id fun h=>⟨r,h,rfl⟩) (fun s h=>⟨r,he s h,rfl⟩);exact h1
theorem Dz {body:σ->Option (Ctl σ ρ)} (n:Nat) (S:Nat->σ) {F:Nat} (hn:n<F) {s0:σ} (r:ρ) (h0:s0=S 0) (hs:∀ i,i<n->body (S i)=some (.next (S (i+1)))) (he:body (S n)=some (.out r)):Az body F s0=some r:=by
 subst h0;refine Vw n (fun i s=>s=S i) hn r rfl (fun i s hi e=>.inl ?_) (fun s e=>by subst e;exact he);subst e;exact ⟨_,hs i hi,rfl⟩
theorem Kd {body:Nat->Option (Ctl Nat ρ)} (xs:List α) (q:α->Bool) (good bad:ρ) {F:Nat} (hn:xs.length<F) (hs:∀ i x,xs[i]? =some x->body i=some (if q x then .next (i+1) else .out bad)) (he:body xs.length=some (.out good)):Az body F 0=some (if xs.all q then good else bad):=by
 refine Vw xs.length (fun i s=>s=i/\(xs.take i).all q=true) hn _ ⟨rfl,by simp⟩ ?_ ?_
 ·rintro i s hi ⟨hsi,hq⟩;subst s;have hx:=gEg hi;rw [hs i _ hx];cases hc:q xs[i]
  ·refine .inr ?_
   have:xs.all q=false:=by
    rw [Bool.eq_false_iff];intro ha;rw [List.all_eq_true] at ha;rw [ha _ (List.getElem_mem hi)] at hc;cases hc
   rw [this];rfl
  ·refine .inl ⟨i+1,rfl,rfl,?_⟩;rw [List.take_add_one,List.all_append,hq,hx];simp [hc]
 ·rintro s ⟨rfl,hq⟩;rw [List.take_length] at hq;rw [he,hq];rfl
theorem Y9 {body:Nat->Option (Ctl Nat ρ)} (xs:List α) (q:α->Bool) (none_:ρ) (g:Nat->ρ) {F:Nat} (hn:xs.length<F) (hs:∀ i x,xs[i]? =some x->body i=some (if q x then .out (g i) else .next (i+1))) (he:body xs.length=some (.out none_)) :
  (xs.any q=true/\∃ i,i<xs.length/\Az body F 0=some (g i))∨(xs.any q=false/\Az body F 0=some none_):=by
 have key:∃ r,Az body F 0=some r/\((xs.any q=true/\∃ i,i<xs.length/\r=g i)∨(xs.any q=false/\r=none_)):=by
  refine G0 xs.length (fun i s=>s=i/\(xs.take i).any q=false) hn ⟨rfl,by simp⟩ ?_ ?_
  ·rintro i s hi ⟨hsi,hq⟩;subst s;have hx:=gEg hi;rw [hs i _ hx];cases hc:q xs[i]
   ·refine .inl ⟨i+1,rfl,rfl,?_⟩;rw [List.take_add_one,List.any_append,hq,hx];simp [hc]
   ·exact .inr ⟨_,rfl,.inl ⟨List.any_eq_true.2 ⟨_,List.getElem_mem hi,hc⟩,i,hi,rfl⟩⟩
  ·rintro s ⟨hsi,hq⟩;subst hsi;rw [List.take_length] at hq;exact ⟨_,he,.inr ⟨hq,rfl⟩⟩
 obtain ⟨r,h,⟨h1,i,hi,rfl⟩|⟨h1,rfl⟩⟩:=key
 ·exact .inl ⟨h1,i,hi,h⟩
 ·exact .inr ⟨h1,h⟩
theorem Mv {body:Nat×List β->Option (Ctl (Nat×List β) ρ)} (xs:List α) (f:α->β) (ys:List β) {F:Nat} (hn:xs.length<F) (r:ρ) (hs:∀ i x,xs[i]? =some x->body (i,ys++(xs.take i).map f)=some (.next (i+1,(ys++(xs.take i).map f)++[f x]))) (he:body (xs.length,ys++xs.map f)=some (.out r)):Az body F (0,ys)=some r:=by
 refine Dz xs.length (fun i=>(i,ys++(xs.take i).map f)) hn r (by simp) (fun i hi=>?_) (by rw [List.take_length];exact he);have hx:=gEg hi;rw [hs i _ hx,List.take_add_one,hx];simp only [List.map_append,Option.toList,List.map_cons,List.map_nil,List.append_assoc]
end
theorem Gk {n:Int} (h1: -9223372036854775808<=n) (h2:n<9223372036854775808):wI n=n:=Go.IntWalk.i64_in _ oM
theorem B5 {p:Prop} [Decidable p] (h:p):decide p=true:=decide_eq_true h
theorem B0 {p:Prop} [Decidable p] (h:¬ p):decide p=false:=decide_eq_false h
end
section
theorem Ls (xs:List Int) (hx:xs.length<=1073741824):C1 xs xs=some true:=by
 unfold C1
 have h:Az (fun s_:Nat=>El xs xs s_) 4611686018427387904 0=some (.next ()):=by
  refine Dz xs.length (fun i=>i) oM _ rfl (fun i hi=>?_) ?_
  ·have hx:=gEg hi
   try dsimp only
   unfold El;rw [B5 oM,cond_true,hx,obs,obs,bne_self_eq_false,cond_false,Aj oM]
  ·try dsimp only
   unfold El;rw [B0 oM,cond_false]
 rw [h,bne_self_eq_false,cond_false];rfl
end
section
theorem X2 (b:Bool):Mm (some (if b then Ctl.next () else Ctl.out false)) (fun _:Unit=>some true)=some b:=by cases b <;> rfl
theorem Il (x lo hi:Int):Cn x lo hi=some (inR x lo hi):=by
 unfold Cn inR;by_cases h:lo<=x <;> simp [h]
theorem Qu (x lo hi:Int):C4 x lo hi=some (inR x lo hi):=by
 unfold C4 inR;by_cases h:lo<=x <;> simp [h]
theorem Of (xs:List Int) (lo hi:Int) (hx:xs.length<=1099511627776):Dm xs lo hi=some (xs.all fun x=>inR x lo hi):=by
 unfold Dm;rw [Kd xs (fun x=>inR x lo hi) (.next ()) (.out false) oM (fun i x h=>?_) ?_,X2]
 ·unfold Gj;rw [B0 oM,cond_false]
 ·have:=Ay h;unfold Gj;rw [B5 oM,cond_true,h,obs,Il,obs,Aj oM];cases inR x lo hi <;> rfl
end
end Go.Proofs.YtjlcpiemabfpiaaGreatDoor
