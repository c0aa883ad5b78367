/- Lemmas on the program and on partial functions that stand in place of its code (part 4); no condition beyond those that each one states. -/
import Derived.Test.YtdjehfcigdkgjaaZ3
import Derived.KernelRfl
import Derived.IntWalk
import Derived.Lib.AppendIntMem
import Derived.Lib.ItoaNum
import Derived.WalkSpells
import Derived.WalkLawsBesides
namespace Go.Proofs.Ytdjehfcigdkgjaa
section
open Go.RowKit Go.Deep
def Dn (ol:List (Oid×Ob)):Bool:=ol.all fun q=>q.1.1.2==0&&(match q.2 with | .mat _ p _ _=>p.1.2==0|_=>true)
theorem Rp {ol:List (Oid×Ob)} (h:Dn ol=true):(ol.all fun q=>match q.2 with | .pool ..=>q.1.1.2==0 | .mat _ p _ _=>p.1.2==0|_=>true)=true:=by
 unfold Dn at h;rw [List.all_eq_true] at h ⊢;rintro ⟨i,o⟩ hq;have:=h _ hq;simp only [Bool.and_eq_true] at this;cases o <;> first|exact this.1|exact this.2|rfl
def Zf (θ:Oid->Oid) (ol:List (Oid×Ob)):Bool:=ndB ((Ay ol).map θ)&&(ndB ((A7 ol).map θ)&&(((A7 ol).all fun i=>(θ i).1.2==0)&&(Ay ol).all fun i=>(θ i).1.2==0|| !((A7 ol).map θ).contains (Gq (θ i))))
theorem Ml {ol:List (Oid×Ob)} {q:Oid×Ob} (hq:q∈ol) (hp:q.2.isPool=false):q.1∈Ay ol:=List.mem_map.2 ⟨_,List.mem_filter.2 ⟨hq,by simp [hp]⟩,rfl⟩
theorem Gg {ol:List (Oid×Ob)} {q:Oid×Ob} (hq:q∈ol) (hp:q.2.isPool=true):q.1∈A7 ol:=List.mem_map.2 ⟨_,List.mem_filter.2 ⟨hq,by simp [hp]⟩,rfl⟩
theorem X6 {θ:Oid->Oid} {ol:List (Oid×Ob)} (hk:∀ p e u xss,(p,Ob.pool e u xss)∈ol->∀ k,θ (kid p k)=kid (θ p) k) (h:Zf θ ol=true) (h0:Dn ol=true):∀ q∈exL ol,∀ q'∈exL ol,θ q.1=θ q'.1->q.1=q'.1:=by
 simp only [Zf,Bool.and_eq_true] at h;obtain ⟨c3,c4,c7,c8⟩:=h;rw [List.all_eq_true] at c7 c8;have ndN:=Ca c3;have ndP:=Ca c4;unfold Dn at h0;rw [List.all_eq_true] at h0
 have hb:∀ q∈ol,q.1.1.2=0:=fun q hq=>by
  have:=h0 q hq;simp only [Bool.and_eq_true,beq_iff_eq] at this;exact this.1
 intro q hq q' hq' e;rcases Dq hq with ⟨p,e1,u,xss,k,row,m1,m2,rfl⟩|⟨o,m1,m2,m3⟩ <;> rcases Dq hq' with ⟨p',e1',u',xss',k',row',m1',m2',rfl⟩|⟨o',m1',m2',m3'⟩
 ·simp only [hk _ _ _ _ m1,hk _ _ _ _ m1'] at e;have z1:=c7 _ (Gg m1 rfl);have z2:=c7 _ (Gg m1' rfl);rw [beq_iff_eq] at z1 z2;have e1:θ p=θ p':=by rw [← Bu z1 k,e,Bu z2]
  have e2:=El ndP (Gg m1 rfl) (Gg m1' rfl) e1;have e2:p=p':=e2;subst e2;rw [L3 e]
 ·exfalso;simp only [hk _ _ _ _ m1] at e;have hz:=c7 _ (Gg m1 rfl);rw [beq_iff_eq] at hz;have:=c8 _ (Ml (q:=(q'.1,o')) m1' m2');simp only [← e,Bool.or_eq_true,beq_iff_eq,Bool.not_eq_true',Bu hz] at this;rcases this with h|h
  ·simp [kid] at h
  ·rw [List.contains_iff_mem.2 (List.mem_map.2 ⟨_,Gg m1 rfl,rfl⟩)] at h;cases h
 ·exfalso;simp only [hk _ _ _ _ m1'] at e;have hz:=c7 _ (Gg m1' rfl);rw [beq_iff_eq] at hz;have:=c8 _ (Ml (q:=(q.1,o)) m1 m2);simp only [e,Bool.or_eq_true,beq_iff_eq,Bool.not_eq_true',Bu hz] at this;rcases this with h|h
  ·simp [kid] at h
  ·rw [List.contains_iff_mem.2 (List.mem_map.2 ⟨_,Gg m1' rfl,rfl⟩)] at h;cases h
 ·exact El ndN (Ml (q:=(q.1,o)) m1 m2) (Ml (q:=(q'.1,o')) m1' m2') e
def Hv (ν:Oid->Oid) (us:List (Oid×Ob)):List (Oid×Ob):=us.map fun q=>(ν q.1,q.2.ren ν)
theorem Ud {ν:Oid->Oid}:∀ {us:List (Oid×Ob)},(∀ p e u xss,(p,Ob.pool e u xss)∈us->∀ k,ν (kid p k)=kid (ν p) k)->(∀ j e p u xss,(j,Ob.mat e p u xss)∈us->∀ k,ν (kid p k)=kid (ν p) k)->exL (Hv ν us)=(exL us).map fun q=>(ν q.1,q.2.ren ν)
 | [],_,_=>rfl
 | (p,o) :: r,h1,h2=>by
  have ih:=Ud (us:=r) (fun p e u xss h=>h1 p e u xss (List.mem_cons_of_mem _ h)) (fun j e p u xss h=>h2 j e p u xss (List.mem_cons_of_mem _ h));cases o with
  | pool e u xss =>
   show (xss.zipIdx.map fun x=>(kid (ν p) x.2,Ob.arr e u x.1))++exL (Hv ν r)=((xss.zipIdx.map fun x=>(kid p x.2,Ob.arr e u x.1))++exL r).map fun q=>(ν q.1,q.2.ren ν)
   rw [List.map_append,ih,List.map_map];congr 1;apply List.map_congr_left;intro x _;simp only [Function.comp,h1 p e u xss (by simp)];rfl
  | mat e q u xss =>
   have:=Tp ν (.mat e q u xss) (fun e' p' u' xss' he k=>by
    obtain ⟨rfl,rfl,rfl,he⟩:=Ob.mat.inj he;obtain rfl:=eq_of_heq he;exact h2 p e q u xss (by simp) k)
   simp only [Ob.ren,Ob.exp] at this;show (ν p,Ob.vec e 1 xss.length (hdL (ν q) u xss)) :: exL (Hv ν r)=((p,Ob.vec e 1 xss.length (hdL q u xss)) :: exL r).map fun q=>(ν q.1,q.2.ren ν)
   rw [List.map_cons,ih,this];rfl
  | tv e m t xs =>
   show (ν p,Ob.vec e t.size xs.length (tvC m t xs)) :: exL (Hv ν r)=((p,Ob.vec e t.size xs.length (tvC m t xs)) :: exL r).map fun q=>(ν q.1,q.2.ren ν)
   rw [List.map_cons,ih];simp only [Ob.ren,P6]
  | _=>exact congrArg (List.cons _) ih
theorem G6 {rest:List (Oid×Option Ob)}:∀ {us:List (Oid×Ob)},(Ay us).Nodup->(A7 us).Nodup->(∀ p∈A7 us,p.1.2=0)->(∀ i∈Ay us,∀ p∈A7 us,∀ k,i≠kid p k)->∀ q∈exL us,Ag (Bf us++rest) q.1=some q.2
 | [],_,_,_,_,q,hq=>by cases hq
 | (p,o) :: r,nN,nP,h0,h1,q,hq=>by
  cases o with
  | pool e u xss =>
   have nP':(p :: A7 r).Nodup:=nP;have nN':(Ay r).Nodup:=nN;have h0':∀ i∈p :: A7 r,i.1.2=0:=h0;have h1':∀ i∈Ay r,∀ j∈p :: A7 r,∀ k,i≠kid j k:=h1;obtain ⟨n1,n2⟩:=List.nodup_cons.1 nP';simp only [exL,List.mem_append] at hq;show Ag ((p,some (.pool e u xss)) :: (Bf r++rest)) q.1=some q.2;rcases hq with hq|hq
   ·obtain ⟨⟨row,k⟩,hx,rfl⟩:=List.mem_map.1 hq;rw [List.mem_zipIdx_iff_getElem?] at hx;rw [Ip];have hx:xss[k]? =some row:=hx;rw [hx];rfl
   ·rw [G9]
    ·exact G6 nN' n2 (fun i hi=>h0' i (List.mem_cons_of_mem _ hi)) (fun i hi j hj=>h1' i hi j (List.mem_cons_of_mem _ hj)) q hq
    ·intro k e';rcases Dq hq with ⟨p',e1,u',xss',k',row,m1,m2,rfl⟩|⟨o,m1,m2,m3⟩
     ·have e':kid p' k'=kid p k:=e';have hb:p'=p:=by rw [← Bu (h0' p' (List.mem_cons_of_mem _ (Gg m1 rfl))) k',e',Bu (h0' p List.mem_cons_self)]
      subst hb;exact n1 (Gg m1 rfl)
     ·exact h1' _ (Ml (q:=(q.1,o)) m1 m2) p List.mem_cons_self k e'
  | _ =>
   have nN':(p :: Ay r).Nodup:=nN;have nP':(A7 r).Nodup:=nP;have h1':∀ i∈p :: Ay r,∀ j∈A7 r,∀ k,i≠kid j k:=h1;obtain ⟨n1,n2⟩:=List.nodup_cons.1 nN';simp only [exL] at hq;rcases List.mem_cons.1 hq with rfl|hq
   ·simp [Bf,Ag]
   ·have hne:q.1≠p:=by
     intro e';rcases Dq hq with ⟨p',e1,u',xss',k',row,m1,m2,rfl⟩|⟨o,m1,m2,m3⟩
     ·exact h1' p List.mem_cons_self p' (Gg m1 rfl) k' e'.symm
     ·exact n1 (by rw [← e'];exact Ml (q:=(q.1,o)) m1 m2)
    have:=G6 (rest:=rest) n2 nP' h0 (fun i hi=>h1' i (List.mem_cons_of_mem _ hi)) q hq;simp only [Bf,List.map_cons,List.cons_append,Ag];rw [if_neg hne];exact this
theorem Oy {rest:List (Oid×Option Ob)}:∀ {us:List (Oid×Ob)} {k:Oid},(∀ q∈exL us,q.1≠k)->Ag (Bf us++rest) k=Ag rest k∨(Ag (Bf us++rest) k=none/\∃ p e u xss,(p,Ob.pool e u xss)∈us/\k.2=p.2)
 | [],_,_=>.inl rfl
 | (p,o) :: r,k,h=>by
  have ih:(∀ q∈exL r,q.1≠k)->Ag (Bf r++rest) k=Ag rest k∨(Ag (Bf r++rest) k=none/\∃ p' e u xss,(p',Ob.pool e u xss)∈(p,o) :: r/\k.2=p'.2):=fun h=>by
   rcases Oy (us:=r) (rest:=rest) h with h|⟨h,p',e,u,xss,hm,hk⟩
   ·exact .inl h
   ·exact .inr ⟨h,p',e,u,xss,List.mem_cons_of_mem _ hm,hk⟩
  cases o with
  | pool e u xss =>
   show Ag ((p,some (.pool e u xss)) :: (Bf r++rest)) k=_∨_;rcases Wy k p with ⟨j,rfl⟩|h2
   ·refine .inr ⟨?_,p,e,u,xss,List.mem_cons_self,rfl⟩;show Ag ((p,some (.pool e u xss)) :: (Bf r++rest)) (kid p j)=none;rw [Ip];cases hj:xss[j]? with
    | none=>rfl
    | some row =>
     refine absurd rfl (h (kid p j,.arr e u row) ?_);simp only [exL,List.mem_append];exact .inl (List.mem_map.2 ⟨(row,j),by rw [List.mem_zipIdx_iff_getElem?];exact hj,rfl⟩)
   ·have h3:=ih (fun q hq=>h q (by simp only [exL,List.mem_append];exact .inr hq));have:Ag (Bf ((p,Ob.pool e u xss) :: r)++rest) k=Ag (Bf r++rest) k:=G9 h2;rw [this,G9 h2];exact h3
  | _ =>
   have h3:=ih (fun q hq=>h q (by simp only [exL];exact List.mem_cons_of_mem _ hq));have hne:k≠p:=fun e=>h (p,_) (by simp only [exL];exact List.mem_cons_self) e.symm
   simp only [Bf,List.map_cons,List.cons_append,Ag] at h3 ⊢;rw [if_neg hne];exact h3
def Fs (θ:Oid->Oid) (ol:List (Oid×Ob)):List (Oid×Option Ob):=ol.map fun q=>(θ q.1,match q.2 with | .pool e u _=>some (.pool e u [])|_=>none)
theorem Ul {θ:Oid->Oid} {ol0:List (Oid×Option Ob)}:∀ {ol:List (Oid×Ob)},(∀ p e u xss,(p,Ob.pool e u xss)∈ol->(∀ k,θ (kid p k)=kid (θ p) k)/\Gc ol0 (θ p)=some (.pool e u xss))->∀ k,(k∈(nmL ol).map θ->Ag (Fs θ ol++ol0) k=none)/\(k∉(nmL ol).map θ->Ag (Fs θ ol++ol0) k=Ag ol0 k)
 | [],_,k=>⟨fun h=>by simp [nmL,exL] at h,fun _=>rfl⟩
 | (p,o) :: r,h,k=>by
  obtain ⟨i1,i2⟩:=Ul (ol:=r) (fun p e u xss hm=>h p e u xss (List.mem_cons_of_mem _ hm)) k;cases o with
  | pool e u xss =>
   obtain ⟨g1,g2⟩:=h p e u xss List.mem_cons_self
   have hnm:∀ x,x∈(nmL ((p,Ob.pool e u xss) :: r)).map θ↔(∃ j row,xss[j]? =some row/\x=kid (θ p) j)∨x∈(nmL r).map θ:=by
    intro x;simp only [nmL,exL,List.map_append,List.mem_append,List.map_map];constructor
    ·rintro (hx|hx)
     ·obtain ⟨⟨row,j⟩,hz,rfl⟩:=List.mem_map.1 hx;rw [List.mem_zipIdx_iff_getElem?] at hz;exact .inl ⟨j,row,hz,g1 j⟩
     ·exact .inr hx
    ·rintro (⟨j,row,hj,rfl⟩|hx)
     ·exact .inl (List.mem_map.2 ⟨(row,j),by rw [List.mem_zipIdx_iff_getElem?];exact hj,g1 j⟩)
     ·exact .inr hx
   have e1:Ag (Fs θ ((p,Ob.pool e u xss) :: r)++ol0) k=if k.1.1=(θ p).1.1/\k.2=(θ p).2/\k.1.2≠0 then none else Ag (Fs θ r++ol0) k:=U1 k
   rw [e1,hnm];rcases Wy k (θ p) with ⟨j,rfl⟩|h2
   ·rw [if_pos ⟨rfl,rfl,by simp [kid]⟩];refine ⟨fun _=>rfl,fun hn=>?_⟩;rw [Og g2];cases hj:xss[j]? with
    | none=>rfl
    | some row=>exact absurd (.inl ⟨j,row,hj,rfl⟩) hn
   ·rw [if_neg (Tl h2)];exact ⟨fun hx=>i1 (hx.resolve_left fun ⟨j,row,_,e⟩=>h2 j e),fun hn=>i2 fun hx=>hn (.inr hx)⟩
  | _ =>
   have e1:∀ o:Ob,o.isPool=false->Ag ((θ p,none) :: (Fs θ r++ol0)) k=if k=θ p then none else Ag (Fs θ r++ol0) k:=fun _ _=>Od k
   simp only [Fs,List.map_cons,List.cons_append] at i1 i2 ⊢;rw [Od];simp only [nmL,exL,List.map_cons,List.mem_cons] at i1 i2 ⊢;by_cases hk:k=θ p
   ·rw [if_pos hk];exact ⟨fun _=>rfl,fun hn=>absurd (.inl hk) hn⟩
   ·rw [if_neg hk];exact ⟨fun hx=>i1 (hx.resolve_left hk),fun hn=>i2 fun hx=>hn (.inr hx)⟩
theorem Xn {θ:Oid->Oid} {i p:Oid} (h:p.2=0->∀ k,θ (kid p k)=kid (θ p) k) (k:Nat):Bc θ i (kid p k)=kid (Bc θ i p) k:=by
 unfold Bc;have e:(kid p k).2=p.2:=rfl;rw [e];by_cases h0:p.2=0
 ·rw [if_pos h0,if_pos h0,h h0]
 ·rw [if_neg h0,if_neg h0];rfl
theorem Ly:∀ {l:List (Oid×Ob)} {a:Oid×Ob},a∈l->a.2.isPool=false->(a.1,a.2.exp)∈exL l
 | x :: r,a,h,hp=>by
  obtain ⟨x1,x2⟩:=x;rcases List.mem_cons.1 h with rfl|h
  ·cases x2 <;> first|(simp only [exL,Ob.exp];exact List.mem_cons_self)|cases hp
  ·have:=Ly h hp;cases x2 <;> simp only [exL] <;> first|exact List.mem_cons_of_mem _ this|exact List.mem_append_right _ this
theorem I1 (ν:Oid->Oid):∀ l:List (Oid×Ob),Ay (Hv ν l)=(Ay l).map ν
 | []=>rfl
 | (x1,x2) :: r=>by
  have ih:=I1 ν r;cases x2 <;> simp_all [Ay,Hv,Ob.ren,Ob.isPool]
theorem Fr (ν:Oid->Oid):∀ l:List (Oid×Ob),A7 (Hv ν l)=(A7 l).map ν
 | []=>rfl
 | (x1,x2) :: r=>by
  have ih:=Fr ν r;cases x2 <;> simp_all [A7,Hv,Ob.ren,Ob.isPool]
theorem Ya {l:List (Oid×Ob)} {i:Oid} (hi:i∈Ay l):∃ o,(i,o)∈l/\o.isPool=false:=by
 obtain ⟨q,hq,rfl⟩:=List.mem_map.1 hi;obtain ⟨h1,h2⟩:=List.mem_filter.1 hq;exact ⟨q.2,h1,by simpa using h2⟩
theorem Aab {l:List (Oid×Ob)} {i:Oid} (hi:i∈A7 l):∃ e u xss,(i,Ob.pool e u xss)∈l:=by
 obtain ⟨⟨j,o⟩,hq,e0⟩:=List.mem_map.1 hi;obtain rfl:j=i:=e0;obtain ⟨h1,h2⟩:=List.mem_filter.1 hq;cases o <;> first|exact ⟨_,_,_,h1⟩|cases h2
theorem Yj {θ:Oid->Oid} {i:Oid} {ol us:List (Oid×Ob)} {ob:Oid->Option Ob} (hnd:(nmL us).Nodup) (hinj:∀ j∈nmL us,∀ k∈nmL us,Bc θ i j=Bc θ i k->j=k) :
  (∀ j q,(j,q)∈exL us->Af (Eg θ i ol us) ob (Bc θ i j)=some (q.ren (Bc θ i)))/\∀ k,(∀ j∈nmL us,Bc θ i j≠k)->Af (Eg θ i ol us) ob k=if k∈(nmL ol).map θ then none else ob k:=by
 have hnm:∀ {l:List (Oid×Ob)} {q},q∈exL l->q.1∈nmL l:=fun hq=>List.mem_map.2 ⟨_,hq,rfl⟩
 refine ⟨fun j q hq=>?_,fun k hk=>?_⟩
 ·have hkeys:(((exL us).map fun q=>(Bc θ i q.1,some (q.2.ren (Bc θ i)))).map (·.1)).Nodup:=by
   rw [List.map_map]
   have:((exL us).map ((·.1)∘fun q:Oid×Ob=>(Bc θ i q.1,some (q.2.ren (Bc θ i)))))=(nmL us).map (Bc θ i):=by
    unfold nmL;rw [List.map_map];rfl
   rw [this];exact Ms hnd hinj
  have:=Fp (fun u:Oid×Option Ob=>u.2) (fun u=>u.1) ((exL us).map fun q=>(Bc θ i q.1,some (q.2.ren (Bc θ i)))) (Af ((exL ol).map fun q=>(θ q.1,none)) ob) (Bc θ i j,some (q.ren (Bc θ i))) hkeys (List.mem_map.2 ⟨(j,q),hq,rfl⟩);unfold Af Eg;rw [List.foldl_append];exact this
 ·have e1:Af (Eg θ i ol us) ob k=Af ((exL ol).map fun q=>(θ q.1,none)) ob k:=by
   have:=Bp (us:=(exL us).map fun q=>(Bc θ i q.1,some (q.2.ren (Bc θ i)))) (ob:=Af ((exL ol).map fun q=>(θ q.1,none)) ob) (j:=k) fun u hu=>by
    obtain ⟨q,hq,rfl⟩:=List.mem_map.1 hu;exact hk q.1 (hnm hq)
   rw [← this];unfold Af Eg;rw [List.foldl_append]
  rw [e1];split
  ·rename_i hk';obtain ⟨j,hj,rfl⟩:=List.mem_map.1 hk';obtain ⟨q,hq,rfl⟩:=List.mem_map.1 hj;exact (F6 ((exL ol).map fun q=>(θ q.1,none)) ob (fun u hu=>by obtain ⟨_,_,rfl⟩:=List.mem_map.1 hu;rfl)).2 (θ q.1,none) (List.mem_map.2 ⟨q,hq,rfl⟩)
  ·rename_i hk';exact Bp fun u hu e=>hk' (by obtain ⟨q,hq,rfl⟩:=List.mem_map.1 hu;exact List.mem_map.2 ⟨q.1,hnm hq,e⟩)
theorem V4 {us:List (Oid×Ob)} (nN:(Ay us).Nodup) (nP:(A7 us).Nodup) (h0:∀ q∈us,q.1.1.2=0):(nmL us).Nodup:=by
 induction us with
 | nil=>exact List.nodup_nil
 | cons x r ih =>
  obtain ⟨p,o⟩:=x;have h0':∀ q∈r,q.1.1.2=0:=fun q hq=>h0 q (List.mem_cons_of_mem _ hq)
  have hp0:p.1.2=0:=h0 (p,o) List.mem_cons_self;cases o with
  | pool e u xss =>
   have nP':(p :: A7 r).Nodup:=nP;obtain ⟨n1,n2⟩:=List.nodup_cons.1 nP';have ihr:=ih nN n2 h0';unfold nmL at ihr ⊢;simp only [exL,List.map_append,List.map_map];refine List.nodup_append.2 ⟨?_,ihr,fun a ha b hb e'=>?_⟩
   ·have:(xss.zipIdx.map ((fun x=>x.1)∘fun x:List u.D×Nat=>(kid p x.2,Ob.arr e u x.1)))=(xss.zipIdx.map (·.2)).map (kid p):=by
     rw [List.map_map];rfl
    rw [this,List.zipIdx_map_snd];exact List.pairwise_map.2 ((List.pairwise_lt_range' (s:=0) (n:=xss.length)).imp fun h e=>by have:=L3 e;omega)
   ·subst e';obtain ⟨x,_,rfl⟩:=List.mem_map.1 ha;obtain ⟨q,hq,e'⟩:=List.mem_map.1 hb;have e':q.1=kid p x.2:=e';rcases Dq hq with ⟨p',e1,u',xss',k',row,m1,m2,rfl⟩|⟨o,m1,m2,m3⟩
    ·have e':kid p' k'=kid p x.2:=e';have hp1:p'.1.2=0:=h0' _ m1;have hb:p'=p:=by rw [← Bu hp1 k',e',Bu hp0]
     subst hb;exact n1 (Gg m1 rfl)
    ·have:=h0' _ m1;simp only [e'] at this;simp [kid] at this
  | _ =>
   have nN':(p :: Ay r).Nodup:=nN;obtain ⟨n1,n2⟩:=List.nodup_cons.1 nN';have ihr:=ih n2 nP h0';unfold nmL at ihr ⊢;simp only [exL,List.map_cons];refine List.nodup_cons.2 ⟨fun hm=>?_,ihr⟩;obtain ⟨q,hq,e'⟩:=List.mem_map.1 hm;rcases Dq hq with ⟨p',e1,u',xss',k',row,m1,m2,rfl⟩|⟨o,m1,m2,m3⟩
   ·rw [← e'] at hp0;simp [kid] at hp0
   ·exact n1 (by rw [← e'];exact Ml (q:=(q.1,o)) m1 m2)
def Xz (ol us:List (Oid×Ob)):Bool:=(ndB (Ay us)&&ndB (A7 us))&&((us.all fun q=>q.1.2==1||(q.1.2==0&&((Ay ol).contains q.1&& !q.2.isPool)))&&Dn us)
theorem Tx {ol us:List (Oid×Ob)} (h:Xz ol us=true):∀ q∈exL us,q.1.2=1∨(q.1.2=0/\q.1∈nmL ol):=by
 simp only [Xz,Bool.and_eq_true] at h;obtain ⟨_,hug,_⟩:=h;rw [List.all_eq_true] at hug;intro q hq;rcases Dq hq with ⟨p,e,u,xss,k,row,m1,m2,rfl⟩|⟨o,m1,m2,m3⟩
 ·have:=hug _ m1;simp only [Ob.isPool,Bool.not_true,Bool.and_false,Bool.or_false,beq_iff_eq] at this;exact .inl this
 ·have:=hug _ m1;simp only [Bool.or_eq_true,Bool.and_eq_true,beq_iff_eq] at this;rcases this with h|⟨h,h',_⟩
  ·exact .inl h
  ·refine .inr ⟨h,?_⟩;obtain ⟨o',ho,hp⟩:=Ya (List.contains_iff_mem.1 h');exact List.mem_map.2 ⟨_,Ly ho hp,rfl⟩
theorem Xl {l:List (Oid×Oid)} {i:Oid} {ol us:List (Oid×Ob)} {ol0:List (Oid×Option Ob)} (hl:Mv l=true) (h0:Dn ol=true) (hR:Lo ol0 (A8 l) ol) (hB:Xz ol us=true) (hfr:T0 i.2 ol0=true) (hij:Zf (A8 l) ol=true) :
  Af (Eg (A8 l) i ol us) (Ag ol0)=Ag (Bf (Hv (Bc (A8 l) i) us)++(Fs (A8 l) ol++ol0)):=by
 have hpool:∀ {l':List (Oid×Ob)},Dn l'=true->(∀ q∈l',q.1.1.2=0)/\∀ j e p u xss,(j,Ob.mat e p u xss)∈l'->p.1.2=0:=fun h=>by
  unfold Dn at h;rw [List.all_eq_true] at h;refine ⟨fun q hq=>?_,fun j e p u xss hq=>?_⟩
  ·have:=h q hq;simp only [Bool.and_eq_true,beq_iff_eq] at this;exact this.1
  ·have:=h _ hq;simp only [Bool.and_eq_true,beq_iff_eq] at this;exact this.2
 have husn:=Tx hB;simp only [Xz,Bool.and_eq_true] at hB;obtain ⟨hnd,hug,hu0⟩:=hB;obtain ⟨b1,b2⟩:=hpool h0;obtain ⟨d1,d2⟩:=hpool hu0;have nN:=Ca hnd.1;have nP:=Ca hnd.2;rw [List.all_eq_true] at hug
 let θ:=A8 l
 let ν:=Bc θ i
 have hθk:∀ p e u xss,(p,Ob.pool e u xss)∈ol->∀ k,θ (kid p k)=kid (θ p) k:=fun p e u xss hm k=>Eu hl (b1 _ hm) k
 have hνk:∀ p,p.1.2=0->∀ k,ν (kid p k)=kid (ν p) k:=fun p hp k=>Xn (fun _ k=>Eu hl hp k) k
 have hget:=P3 hl hR (Rp h0)
 have hold:∀ j∈nmL ol,∃ o,Ag ol0 (θ j)=some o:=fun j hj=>by
  obtain ⟨q,hq,rfl⟩:=List.mem_map.1 hj;exact ⟨_,hget q hq⟩
 have hgenθ:∀ j∈nmL ol,(θ j).2≠i.2:=fun j hj e=>by
  obtain ⟨o,ho⟩:=hold j hj;rw [I8 hfr _ e] at ho;cases ho
 have hex:=Ud (ν:=ν) (us:=us) (fun p e u xss hm=>hνk p (d1 _ hm)) (fun j e p u xss hm=>hνk p (d2 j e p u xss hm));have hθinj:=X6 hθk hij h0
 have hνcase:∀ j∈nmL us,(j.2=0/\j∈nmL ol/\ν j=θ j)∨(j.2=1/\ν j=((i.1.1*16+j.1.1,j.1.2),i.2)):=by
  intro j hj;obtain ⟨q,hq,rfl⟩:=List.mem_map.1 hj;rcases husn q hq with h|⟨h,h'⟩
  ·exact .inr ⟨h,by simp [ν,Bc,h]⟩
  ·exact .inl ⟨h,h',by simp [ν,Bc,h]⟩
 have hνinj:∀ j∈nmL us,∀ k∈nmL us,ν j=ν k->j=k:=by
  intro j hj k hk e;rcases hνcase j hj with ⟨a1,a2,a3⟩|⟨a1,a3⟩ <;> rcases hνcase k hk with ⟨b1,b2,b3⟩|⟨b1,b3⟩
  ·rw [a3,b3] at e;obtain ⟨r,hr,er⟩:=List.mem_map.1 a2;obtain ⟨r',hr',er'⟩:=List.mem_map.1 b2;have:=hθinj r hr r' hr' (by rw [er,er'];exact e);rw [← er,← er',this]
  ·have:=hgenθ _ a2;rw [← a3,e,b3] at this;exact absurd rfl this
  ·have:=hgenθ _ b2;rw [← b3,← e,a3] at this;exact absurd rfl this
  ·rw [a3,b3] at e;obtain ⟨⟨x1,x2⟩,x3⟩:=j;obtain ⟨⟨y1,y2⟩,y3⟩:=k;simp only [Prod.mk.injEq] at *;omega
 have hNm:∀ z∈Ay us,z∈nmL us:=fun z hz=>by
  obtain ⟨o,ho,hp⟩:=Ya hz;exact List.mem_map.2 ⟨_,Ly ho hp,rfl⟩
 have hpg:∀ p∈A7 us,p.2=1/\ν p=((i.1.1*16+p.1.1,p.1.2),i.2):=by
  intro p hp;obtain ⟨e,u,xss,hm⟩:=Aab hp;have:=hug _ hm;simp only [Ob.isPool,Bool.not_true,Bool.and_false,Bool.or_false,beq_iff_eq] at this;exact ⟨this,by simp [ν,Bc,this]⟩
 have hP0:∀ p∈A7 us,p.1.2=0:=fun p hp=>by
  obtain ⟨e,u,xss,hm⟩:=Aab hp;exact d1 _ hm
 have hndN:(Ay (Hv ν us)).Nodup:=by
  rw [I1];exact Ms nN fun x hx y hy e=>hνinj x (hNm x hx) y (hNm y hy) e
 have hndP:(A7 (Hv ν us)).Nodup:=by
  rw [Fr];refine Ms nP fun x hx y hy e=>?_
  obtain ⟨g1,e1⟩:=hpg _ hx;obtain ⟨g2,e2⟩:=hpg _ hy;rw [e1,e2] at e;obtain ⟨⟨x1,x2⟩,x3⟩:=x;obtain ⟨⟨y1,y2⟩,y3⟩:=y;simp only [Prod.mk.injEq] at *;omega
 have hfound:=G6 (rest:=Fs θ ol++ol0) hndN hndP (fun p hp=>by
  rw [Fr] at hp;obtain ⟨p0,hp0,rfl⟩:=List.mem_map.1 hp;rw [(hpg p0 hp0).2];exact hP0 p0 hp0) (fun z hz p hp k e=>by
  rw [I1] at hz;rw [Fr] at hp;obtain ⟨z0,hz0,rfl⟩:=List.mem_map.1 hz;obtain ⟨p0,hp0,rfl⟩:=List.mem_map.1 hp;rw [(hpg p0 hp0).2] at e;rcases hνcase z0 (hNm z0 hz0) with ⟨a1,a2,a3⟩|⟨a1,a3⟩
  ·have:=hgenθ _ a2;rw [← a3,e] at this;exact this rfl
  ·rw [a3] at e
   have:z0.1.2=0:=by
    obtain ⟨o,ho,_⟩:=Ya hz0;exact d1 _ ho
   have h9:=congrArg (fun i:Oid=>i.1.2) e;simp only [kid] at h9;omega)
 have hkill:=Ul (θ:=θ) (ol0:=ol0) (ol:=ol) (fun p e u xss hm=>⟨hθk p e u xss hm,by
  have:=Jt hR _ hm
  simpa only [Vm,Ob.isPool,if_true,Ob.ren] using this⟩)
 obtain ⟨u1,u2⟩:=Yj (ob:=Ag ol0) (ol:=ol) (V4 nN nP d1) hνinj;funext k;by_cases hex':∃ j∈nmL us,ν j=k
 ·obtain ⟨j,hj,rfl⟩:=hex';obtain ⟨q,hq,rfl⟩:=List.mem_map.1 hj;rw [u1 q.1 q.2 hq];exact (hfound (ν q.1,q.2.ren ν) (by rw [hex];exact List.mem_map.2 ⟨q,hq,rfl⟩)).symm
 ·have hno:∀ j∈nmL us,ν j≠k:=fun j hj e=>hex' ⟨j,hj,e⟩
  rw [u2 k hno]
  have hno':∀ q∈exL (Hv ν us),q.1≠k:=fun q hq e=>by
   rw [hex] at hq;obtain ⟨q0,hq0,rfl⟩:=List.mem_map.1 hq;exact hno q0.1 (List.mem_map.2 ⟨q0,hq0,rfl⟩) e
  have hrest:Ag (Fs θ ol++ol0) k=if k∈(nmL ol).map θ then none else Ag ol0 k:=by
   split
   ·rename_i h;exact (hkill k).1 h
   ·rename_i h;exact (hkill k).2 h
  rcases Oy (rest:=Fs θ ol++ol0) hno' with h|⟨h,p,e,u,xss,hm,hk⟩
  ·rw [← hrest];exact h.symm
  ·have hp:p∈A7 (Hv ν us):=Gg hm rfl;rw [Fr] at hp;obtain ⟨p0,hp0,rfl⟩:=List.mem_map.1 hp;have hk2:k.2=i.2:=by rw [hk,(hpg p0 hp0).2]
   have h1:Ag (Bf (Hv (Bc (A8 l) i) us)++(Fs (A8 l) ol++ol0)) k=none:=h;rw [h1];split
   ·rfl
   ·exact I8 hfr k hk2
end
section
open Go.RowKit Go.Deep
section
variable {P:Program} {G:World->Prop}
theorem Ad {x y:AC} {R:AE->St->Prop} {S:St} (h:awp P G x (Da (fun S'=>∃ S'',WeakG G S' S''/\awp P G y R S'') R) S):awp P G (.seq x y) R S:=h
theorem On {x y:AC} {R:AE->St->Prop} {S:St} (K:St->Prop) (h:awp P G x (Da (fun S'=>∃ S'',WeakG G S' S''/\K S'') R) S) (k:∀ S'',K S''->awp P G y R S''):awp P G (.seq x y) R S:=by
 unfold awp
 exact Bl (fun e S hq=>by
  cases e with
  | normal=>obtain ⟨S'',hw,hk⟩:=hq;exact ⟨S'',hw,k S'' hk⟩
  | exit id=>exact hq
  | ret=>exact hq) h
def Z9 (rs:List Rec) (ds:List (List Oid)):List (Nat×Nat)->Bool
 | []=>true
 | p :: ps=>(let ri:=rs.getD p.2 (0,.any,[]);let rj:=rs.getD p.1 (0,.any,[]);let di:=ds.getD p.2 [];let dj:=ds.getD p.1 []
   ((!(ri.1==2)||rj.1==0)&&(!(rj.1==2)||ri.1==0))||((!(ri.1==2)||ri.2.2.all fun u=> !dj.contains u.1)&&((!(rj.1==2)||rj.2.2.all fun u=> !di.contains u.1)&&ri.2.2.all fun u=>rj.2.2.all fun v=> !(u.1==v.1))))&&Z9 rs ds ps
theorem Gp {rs:List Rec} {ds:List (List Oid)}:∀ {bad:List (Nat×Nat)},Z9 rs ds bad=true->Rx rs ds bad
 | [],_=>trivial
 | p :: ps,h=>by
  simp only [Z9,Bool.and_eq_true] at h;refine ⟨?_,Gp h.2⟩;have h1:=h.1;simp only [Bool.or_eq_true,Bool.and_eq_true,Bool.not_eq_true',beq_eq_false_iff_ne,beq_iff_eq,List.all_eq_true,List.contains_eq_mem,decide_eq_false_iff_not] at h1;unfold I3;rcases h1 with ⟨a,b⟩|⟨a,b,c⟩
  ·refine .inl ⟨fun e=>?_,fun e=>?_⟩
   ·rcases a with a|a
    ·exact absurd e a
    ·exact a
   ·rcases b with b|b
    ·exact absurd e b
    ·exact b
  ·refine .inr ⟨fun e=>?_,fun e=>?_,c⟩
   ·rcases a with a|a
    ·exact absurd e a
    ·exact a
   ·rcases b with b|b
    ·exact absurd e b
    ·exact b
def XW (P:Program) (G:World->Prop) (g k:Nat) (xs:List X) (tl:List (Nat×AV)) (ol:List (Oid×Option Ob)) (Kf:List (Nat×AV)->List (Oid×Option Ob)->Prop):Prop :=
 ∃ rs tl' ol',Yg P G g k xs (Ah tl) (Ag ol) rs (Ah tl') (Ag ol')/\Kf tl' ol'
def XD (P:Program) (G:World->Prop) (bad:List (Nat×Nat)) (g k:Nat) (xs:List X) (tl:List (Nat×AV)) (ol:List (Oid×Option Ob)) (ra:List Rec) (da:List (List Oid)) (Kf:List (Nat×AV)->List (Oid×Option Ob)->Prop):Prop :=
 ∃ rs ds tl' ol',Us P G g k xs (Ah tl) (Ag ol) rs ds (Ah tl') (Ag ol')/\Rx (ra.reverse++rs) (da.reverse++ds) bad/\Kf tl' ol'
theorem Ac {xs:List X} {bad:List (Nat×Nat)} {R:AE->St->Prop} {tl:List (Nat×AV)} {ol:List (Oid×Option Ob)} {g:Nat} (g':Nat) (h:XW P G g 0 xs tl ol fun tl' ol'=>R .normal ⟨Ah tl',Ag ol',g'⟩) (hn:g+xs.length=g':=by kernel_rfl):awp P G (.region xs false bad) R ⟨Ah tl,Ag ol,g⟩:=by
 obtain ⟨rs,tl',ol',h,hr⟩:=h;exact ⟨rs,_,_,h,by subst hn;exact hr⟩
theorem Ur {tl:List (Nat×AV)} {d:Nat} {v:AV} (h:Ah tl d=v):Ah ((d,v) :: tl)=Ah tl:=by
 funext i;show (if i=d then v else Ah tl i)=Ah tl i;split
 ·rename_i e;rw [e,h]
 ·rfl
theorem rq {xs:List X} {tl:List (Nat×AV)} {ol:List (Oid×Option Ob)} {g k:Nat} {Kf:List (Nat×AV)->List (Oid×Option Ob)->Prop} (d:Nat) {b c:Bool} (q:b=c) (h:XW P G g k xs ((d,.bool c) :: tl) ol Kf) (hd:Ah tl d=.bool b:=by kernel_rfl):XW P G g k xs tl ol Kf:=by
 subst q;unfold XW at *
 rwa [Ur hd] at h
theorem Fb {xs:List X} {bad:List (Nat×Nat)} {R:AE->St->Prop} {tl:List (Nat×AV)} {ol:List (Oid×Option Ob)} {g:Nat} (g':Nat) (h:XD P G bad g 0 xs tl ol [] [] fun tl' ol'=>R .normal ⟨Ah tl',Ag ol',g'⟩) (hn:g+xs.length=g':=by kernel_rfl):awp P G (.region xs true bad) R ⟨Ah tl,Ag ol,g⟩:=by
 obtain ⟨rs,ds,tl',ol',h,hb,hr⟩:=h;exact ⟨rs,ds,_,_,h,hb,by subst hn;exact hr⟩
theorem M5 (tl:List (Nat×AV)) (d:Nat) (v:AV):upd (Ah tl) d v=Ah ((d,v) :: tl):=by
 funext i;rfl
def Kj:Option Ob->Bool
 | some (.pool ..)=>false
 | some (.mat ..)=>false
 | some (.tv ..)=>false
 | _=>true
def D4 (us:List (Oid×Option Ob)):Bool:=us.all fun u=>Kj u.2
theorem Qv {ol:List (Oid×Option Ob)} {j:Oid} {o:Option Ob} (h:Kj o=true):upd (Ag ol) j o=Ag ((j,o) :: ol):=by
 cases o with
 | none=>funext i;rfl
 | some o=>cases o <;> first|(funext i;rfl)|cases h
theorem Et:∀ (us ol:List (Oid×Option Ob)),D4 us=true->Af us (Ag ol)=Ag (us.reverseAux ol)
 | [],_,_=>rfl
 | (j,o) :: us,ol,h=>by
  simp only [D4,List.all_cons,Bool.and_eq_true] at h;show Af us (upd (Ag ol) j o)=_;rw [Qv h.1];exact Et us _ h.2
theorem Em {p:Bool} {n:Nat} {x:X} {f:Nat->AV} {ob:Oid->Option Ob} {r:Rec} (h:Bq n x f ob=some r):Du P G p n x f ob r:=by
 unfold Bq at h;unfold Du;split at h
 ·exact .inl (.inl (.inl h))
 ·split at h
  ·rename_i hc;exact ⟨true,hc,by rw [if_pos rfl];exact .inl (.inl (.inl h))⟩
  ·rename_i hc;exact ⟨false,hc,by rw [if_neg (by simp)];exact (osj h).symm⟩
  ·cases h
def Rs (gd:Option (Nat×Bool)) (f:Nat->AV):Prop :=
 match gd with
 | none=>True
 | some (s,c)=>f s=.bool c
theorem Xu {s:Nat} {b:Bool} {f:Nat->AV} (h:Rs (some (s,b)) f):gdv (f s) b=some true:=by
 rw [show f s=.bool b from h];simp [gdv]
theorem Aai {s:Nat} {b:Bool} {f:Nat->AV} (h:f s=.bool b):Rs (some (s,b)) f:=h
theorem Tm {p:Bool} {n:Nat} {d:Option Nat} {gd:Option (Nat×Bool)} {fo:Opd} {xs:List Opd} {tys:List (List (Option Ty))} {f:Nat->AV} {ob:Oid->Option Ob} {F:FuncId} {caps args0 args:List AV} {rv:RV} {r:AV×List (Oid×Option Ob)}
  (hgd:Rs gd f) {F0:FuncId} (hfo:fo.ev f=.fn F0 caps) (hF:Jd F0=F) (h1:Ju (gnd ob 8) ((Cg F0 xs (caps.map Opd.cst)).map (Opd.ev f))=some args0) (hn:Hq tys args0=args) (hb:Ci P F=true) (hc:Dt P G F args rv) (hni:rv.noI=true) (hr:rv.out (Dz ((d.getD 0,0),n)) ((Cg F0 xs (caps.map Opd.cst)).map (Opd.ev f))=r) :
  Du P G p n ⟨d,gd,.call fo xs tys⟩ f ob (1,r.1,r.2):=by
 subst hn hF;have key:EvR P G p f ob ((d.getD 0,0),n) (.call fo xs tys) (1,r.1,r.2):=.inr ⟨fo,xs,tys,F0,caps,rfl,hfo,.inl ⟨rfl,hb,args0,rv,.inl ⟨h1,hni⟩,hc,hr⟩⟩;unfold Du;cases gd with
 | none=>exact key
 | some sb=>exact ⟨true,Xu hgd,by rw [if_pos rfl];exact key⟩
theorem Ye {n:Nat} {d:Option Nat} {gd:Option (Nat×Bool)} {fo:Opd} {xs:List Opd} {tys:List (List (Option Ty))} {f:Nat->AV} {ob:Oid->Option Ob} {F:FuncId} {caps zs args:List AV} {v:AV} {ol us:List (Oid×Ob)} (θ:Oid->Oid)
  (hgd:Rs gd f) (hfo:fo.ev f=.fn F caps) (hF:F<mtd) (hz:(xs++caps.map Opd.cst).map (Opd.ev f)=zs) (h1:H0 θ (Uv ((nmL ol).map θ) ob) zs args) (h2:∀ q∈exL ol,ob (θ q.1)=some (q.2.ren θ)) (h3:∀ q∈exL ol,∀ q'∈exL ol,θ q.1=θ q'.1->q.1=q'.1) (h4:∀ j∈nmL ol,Reached zs ob (θ j))
  (h5:∀ q∈exL us,q.1.2=1∨(q.1.2=0/\q.1∈nmL ol)) (hb:Ci P F=true) (hc:He P G F args ol v us) :
  Du P G false n ⟨d,gd,.call fo xs tys⟩ f ob (2,v.ren (Bc θ ((d.getD 0,0),n)),Eg θ ((d.getD 0,0),n) ol us):=by
 have hN:Wk P G f ob ((d.getD 0,0),n) (Jd F) (Cg F xs (caps.map Opd.cst)) (v.ren (Bc θ ((d.getD 0,0),n)),Eg θ ((d.getD 0,0),n) ol us):=by
  rw [← hz] at h1 h4;unfold Jd Cg;rw [if_pos hF,if_pos hF];refine .inl ⟨hb,θ,args,ol,us,v,h1,h2,fun j k hj hk e=>?_,h4,hc,fun j hj=>?_,rfl⟩
  ·obtain ⟨q,hq,rfl⟩:=List.mem_map.1 hj;obtain ⟨q',hq',rfl⟩:=List.mem_map.1 hk;exact h3 q hq q' hq' e
  ·obtain ⟨q,hq,rfl⟩:=List.mem_map.1 hj;rcases h5 q hq with h|⟨_,h⟩
   ·exact .inl (by rw [h];decide)
   ·exact .inr h
 have key:EvR P G false f ob ((d.getD 0,0),n) (.call fo xs tys) (2,v.ren (Bc θ ((d.getD 0,0),n)),Eg θ ((d.getD 0,0),n) ol us):=.inr ⟨fo,xs,tys,F,caps,rfl,hfo,.inr ⟨rfl,rfl,hN⟩⟩;unfold Du;cases gd with
 | none=>exact key
 | some sb=>exact ⟨true,Xu hgd,by rw [if_pos rfl];exact key⟩
theorem Bi {g k:Nat} {tl:List (Nat×AV)} {ol:List (Oid×Option Ob)} {Kf:List (Nat×AV)->List (Oid×Option Ob)->Prop} (h:Kf tl ol):XW P G g k [] tl ol Kf:=⟨[],tl,ol,⟨rfl,rfl,rfl⟩,h⟩
theorem Yz {bad:List (Nat×Nat)} {g k:Nat} {tl:List (Nat×AV)} {ol:List (Oid×Option Ob)} {ra:List Rec} {da:List (List Oid)} {Kf:List (Nat×AV)->List (Oid×Option Ob)->Prop} (hb:Rx (ra.reverse++[]) (da.reverse++[]) bad) (h:Kf tl ol):XD P G bad g k [] tl ol ra da Kf:=⟨[],[],tl,ol,⟨rfl,rfl,rfl,rfl⟩,hb,h⟩
section
variable {g k d:Nat} {gd:Option (Nat×Bool)} {q:Q} {xs:List X} {tl:List (Nat×AV)} {ol:List (Oid×Option Ob)} {bad:List (Nat×Nat)} {ra:List Rec} {da:List (List Oid)} {Kf:List (Nat×AV)->List (Oid×Option Ob)->Prop}
theorem Vx (c:Nat) (v:AV) (us ol':List (Oid×Option Ob)) (h:Du P G false (g+k) ⟨some d,gd,q⟩ (Ah tl) (Ag ol) (c,v,us)) (he:Af us (Ag ol)=Ag ol') (h3:XW P G g (k+1) xs ((d,v) :: tl) ol' Kf):XW P G g k (⟨some d,gd,q⟩ :: xs) tl ol Kf :=
 by
 obtain ⟨rs,tl',ol',h3,hk⟩:=h3;exact ⟨_,tl',ol',⟨_,_,rfl,h,by simp only [F1,M5,he];exact h3⟩,hk⟩
theorem Ym (c:Nat) (v:AV) (us ol':List (Oid×Option Ob)) (h:Du P G false (g+k) ⟨none,gd,q⟩ (Ah tl) (Ag ol) (c,v,us)) (he:Af us (Ag ol)=Ag ol') (h3:XW P G g (k+1) xs tl ol' Kf):XW P G g k (⟨none,gd,q⟩ :: xs) tl ol Kf :=
 by
 obtain ⟨rs,tl',ol',h3,hk⟩:=h3;exact ⟨_,tl',ol',⟨_,_,rfl,h,by simp only [F1,he];exact h3⟩,hk⟩
theorem Zu (c:Nat) (v:AV) (us ol':List (Oid×Option Ob)) (h:Du P G false (g+k) ⟨some d,gd,q⟩ (Ah tl) (only (rdX (Ah tl) (Ag ol) ⟨some d,gd,q⟩) (Ag ol)) (c,v,us)) (he:Af us (Ag ol)=Ag ol') (h3:XD P G bad g (k+1) xs ((d,v) :: tl) ol' ((c,v,us) :: ra) ((rdX (Ah tl) (Ag ol) ⟨some d,gd,q⟩) :: da) Kf):XD P G bad g k (⟨some d,gd,q⟩ :: xs) tl ol ra da Kf :=
 by
 obtain ⟨rs,ds,tl',ol',h3,hb,hk⟩:=h3;refine ⟨_,_,tl',ol',⟨_,rs,ds,rfl,rfl,h,by simp only [F1,M5,he];exact h3⟩,?_,hk⟩
 simpa using hb
theorem Q7 (c:Nat) (v:AV) (us:List (Oid×Option Ob)) (h:Du P G false (g+k) ⟨some d,gd,q⟩ (Ah tl) (Ag ol) (c,v,us)) (h3:XW P G g (k+1) xs ((d,v) :: tl) (us.reverseAux ol) Kf) (hx:D4 us=true):XW P G g k (⟨some d,gd,q⟩ :: xs) tl ol Kf:=Vx c v us _ h (Et us ol hx) h3
theorem Z6 (c:Nat) (v:AV) (us:List (Oid×Option Ob)) (h:Du P G false (g+k) ⟨none,gd,q⟩ (Ah tl) (Ag ol) (c,v,us)) (h3:XW P G g (k+1) xs tl (us.reverseAux ol) Kf) (hx:D4 us=true):XW P G g k (⟨none,gd,q⟩ :: xs) tl ol Kf:=Ym c v us _ h (Et us ol hx) h3
theorem Xv (c:Nat) (v:AV) (us:List (Oid×Option Ob)) (h:Du P G false (g+k) ⟨some d,gd,q⟩ (Ah tl) (only (rdX (Ah tl) (Ag ol) ⟨some d,gd,q⟩) (Ag ol)) (c,v,us)) (h3:XD P G bad g (k+1) xs ((d,v) :: tl) (us.reverseAux ol) ((c,v,us) :: ra) ((rdX (Ah tl) (Ag ol) ⟨some d,gd,q⟩) :: da) Kf) (hx:D4 us=true):XD P G bad g k (⟨some d,gd,q⟩ :: xs) tl ol ra da Kf:=Zu c v us _ h (Et us ol hx) h3
-- the shape of most steps: what the machine says is found by reckoning
theorem rs0 (v:AV) (h:Bq (g+k) ⟨some d,gd,q⟩ (Ah tl) (Ag ol)=some (0,v,[])) (h3:XW P G g (k+1) xs ((d,v) :: tl) ol Kf):XW P G g k (⟨some d,gd,q⟩ :: xs) tl ol Kf:=Q7 0 v [] (Em h) h3 rfl
theorem rsl (v:AV) (h:Bq (g+k) ⟨some d,gd,q⟩ (Ah tl) (Ag ol)=some (1,v,[])) (h3:XW P G g (k+1) xs ((d,v) :: tl) ol Kf):XW P G g k (⟨some d,gd,q⟩ :: xs) tl ol Kf:=Q7 1 v [] (Em h) h3 rfl
theorem rs1 (v:AV) (i:Oid) (o:Ob) (h:Bq (g+k) ⟨some d,gd,q⟩ (Ah tl) (Ag ol)=some (1,v,[(i,some o)])) (h3:XW P G g (k+1) xs ((d,v) :: tl) ((i,some o) :: ol) Kf) (hx:Kj (some o)=true:=by rfl):XW P G g k (⟨some d,gd,q⟩ :: xs) tl ol Kf:=Q7 1 v _ (Em h) h3 (by simp only [D4,List.all_cons,List.all_nil,hx];rfl)
theorem rs2 (v:AV) (j i:Oid) (o:Ob) (h:Bq (g+k) ⟨some d,gd,q⟩ (Ah tl) (Ag ol)=some (2,v,[(j,none),(i,some o)])) (h3:XW P G g (k+1) xs ((d,v) :: tl) ((i,some o) :: (j,none) :: ol) Kf) (hx:Kj (some o)=true:=by rfl):XW P G g k (⟨some d,gd,q⟩ :: xs) tl ol Kf:=Q7 2 v _ (Em h) h3 (by simp only [D4,List.all_cons,List.all_nil,hx];rfl)
theorem Aaq (j i:Oid) (o:Ob) (h:Bq (g+k) ⟨none,gd,q⟩ (Ah tl) (Ag ol)=some (2,.any,[(j,none),(i,some o)])) (h3:XW P G g (k+1) xs tl ((i,some o) :: (j,none) :: ol) Kf) (hx:Kj (some o)=true:=by rfl):XW P G g k (⟨none,gd,q⟩ :: xs) tl ol Kf:=Z6 2 _ _ (Em h) h3 (by simp only [D4,List.all_cons,List.all_nil,hx];rfl)
theorem ds0 (v:AV) (h:Bq (g+k) ⟨some d,gd,q⟩ (Ah tl) (only (rdX (Ah tl) (Ag ol) ⟨some d,gd,q⟩) (Ag ol))=some (0,v,[])) (h3:XD P G bad g (k+1) xs ((d,v) :: tl) ol ((0,v,[]) :: ra) ((rdX (Ah tl) (Ag ol) ⟨some d,gd,q⟩) :: da) Kf):XD P G bad g k (⟨some d,gd,q⟩ :: xs) tl ol ra da Kf:=Xv 0 v [] (Em h) h3 rfl
theorem dsl (v:AV) (h:Bq (g+k) ⟨some d,gd,q⟩ (Ah tl) (only (rdX (Ah tl) (Ag ol) ⟨some d,gd,q⟩) (Ag ol))=some (1,v,[])) (h3:XD P G bad g (k+1) xs ((d,v) :: tl) ol ((1,v,[]) :: ra) ((rdX (Ah tl) (Ag ol) ⟨some d,gd,q⟩) :: da) Kf):XD P G bad g k (⟨some d,gd,q⟩ :: xs) tl ol ra da Kf:=Xv 1 v [] (Em h) h3 rfl
section
variable {fo:Opd} {ys:List Opd} {tys:List (List (Option Ty))} {F:FuncId} {caps:List AV} {rv:RV} {args0:List AV}
theorem Zs (v:AV) (us:List (Oid×Option Ob)) (zs args:List AV) (hgd:Rs gd (Ah tl)) (h1:Ju (gnd (Ag ol) 8) zs=some args0) (hc:Dt P G F args rv) (hb:Ci P F=true) (h3:XW P G g (k+1) xs ((d,v) :: tl) (us.reverseAux ol) Kf) (m:Nat:=0) (hfo:fo.ev (Ah tl)=.fn (F+m) caps:=by kernel_rfl) (hz:(Cg (F+m) ys (caps.map Opd.cst)).map (Opd.ev (Ah tl))=zs:=by kernel_rfl) (hn:Hq tys args0=args:=by kernel_rfl) (hr:rv.out (Dz ((d,0),g+k)) zs=(v,us):=by kernel_rfl) (hF:Jd (F+m)=F:=by kernel_rfl) (hx:D4 us=true:=by rfl) (hni:rv.noI=true:=by kernel_rfl):XW P G g k (⟨some d,gd,.call fo ys tys⟩ :: xs) tl ol Kf:=by
 subst hz;exact Q7 1 v us (Tm (P:=P) (G:=G) (p:=false) (n:=g+k) (d:=some d) hgd hfo hF h1 hn hb hc hni hr) h3 hx
theorem Aat (v:AV) (us:List (Oid×Option Ob)) (zs args:List AV) (hgd:Rs gd (Ah tl)) (h1:Ju (gnd (only (rdX (Ah tl) (Ag ol) ⟨some d,gd,.call fo ys tys⟩) (Ag ol)) 8) zs=some args0) (hc:Dt P G F args rv) (hb:Ci P F=true) (h3:XD P G bad g (k+1) xs ((d,v) :: tl) (us.reverseAux ol) ((1,v,us) :: ra) ((rdX (Ah tl) (Ag ol) ⟨some d,gd,.call fo ys tys⟩) :: da) Kf) (m:Nat:=0) (hfo:fo.ev (Ah tl)=.fn (F+m) caps:=by kernel_rfl) (hz:(Cg (F+m) ys (caps.map Opd.cst)).map (Opd.ev (Ah tl))=zs:=by kernel_rfl) (hn:Hq tys args0=args:=by kernel_rfl) (hr:rv.out (Dz ((d,0),g+k)) zs=(v,us):=by kernel_rfl) (hF:Jd (F+m)=F:=by kernel_rfl) (hx:D4 us=true:=by rfl) (hni:rv.noI=true:=by kernel_rfl):XD P G bad g k (⟨some d,gd,.call fo ys tys⟩ :: xs) tl ol ra da Kf:=by
 subst hz;exact Xv 1 v us (Tm (P:=P) (G:=G) (p:=false) (n:=g+k) (d:=some d) hgd hfo hF h1 hn hb hc hni hr) h3 hx
def Tn (l:List (Oid×Oid)) (ol us:List (Oid×Ob)) (n:Nat) (ol0:List (Oid×Option Ob)):Bool:=Mv l&&(Dn ol&&(Zf (A8 l) ol&&(Xz ol us&&T0 n ol0)))
theorem Xt {l:List (Oid×Oid)} {ol us:List (Oid×Ob)} {n:Nat} {ol0:List (Oid×Option Ob)} (h:Tn l ol us n ol0=true) (hR:Lo ol0 (A8 l) ol) :
  (∀ q∈exL ol,Ag ol0 (A8 l q.1)=some (q.2.ren (A8 l)))/\(∀ q∈exL ol,∀ q'∈exL ol,A8 l q.1=A8 l q'.1->q.1=q'.1)/\(∀ q∈exL us,q.1.2=1∨(q.1.2=0/\q.1∈nmL ol))/\∀ i:Oid,i.2=n->Af (Eg (A8 l) i ol us) (Ag ol0)=Ag (Bf (Hv (Bc (A8 l) i) us)++(Fs (A8 l) ol++ol0)):=by
 simp only [Tn,Bool.and_eq_true] at h;obtain ⟨c1,c2,c3,c4,c5⟩:=h;refine ⟨P3 c1 hR (Rp c2),X6 (fun p e u xss hm k=>Eu c1 ?_ k) c3 c2,Tx c4,fun i hi=>Xl c1 c2 hR c4 (by rw [hi];exact c5) c3⟩;unfold Dn at c2;rw [List.all_eq_true] at c2;have:=c2 _ hm;simp only [Bool.and_eq_true,beq_iff_eq] at this;exact this.1
theorem Nd (v:AV) (ul:List (Oid×Option Ob)) (l:List (Oid×Oid)) (zs:List AV) {args:List AV} {ol0 us:List (Oid×Ob)} {v0:AV} (hgd:Rs gd (Ah tl)) (hc:He P G F args ol0 v0 us) (hb:Ci P F=true) (hR:Lo ol (A8 l) ol0) (h1:H0 (A8 l) (Uv ((nmL ol0).map (A8 l)) (Ag ol)) zs args) (h4:∀ j∈nmL ol0,Reached zs (Ag ol) (A8 l j)) (h3:XW P G g (k+1) xs ((d,v) :: tl) (ul++ol) Kf) (hfo:fo.ev (Ah tl)=.fn F caps:=by kernel_rfl) (hz:(ys++caps.map Opd.cst).map (Opd.ev (Ah tl))=zs:=by kernel_rfl) (hB:Tn l ol0 us (g+k) ol=true:=by kernel_rfl) (hF:F<mtd:=by decide) (hv:v0.ren (Bc (A8 l) ((d,0),g+k))=v:=by kernel_rfl) (hu:Bf (Hv (Bc (A8 l) ((d,0),g+k)) us)++Fs (A8 l) ol0=ul:=by kernel_rfl):XW P G g k (⟨some d,gd,.call fo ys tys⟩ :: xs) tl ol Kf:=by
 subst hv hu;obtain ⟨q1,q2,q3,q4⟩:=Xt hB hR;exact Vx 2 _ _ _ (Ye (n:=g+k) (d:=some d) (A8 l) hgd hfo hF hz h1 q1 q2 h4 q3 hb hc) (q4 ((d,0),g+k) rfl) (by rw [List.append_assoc] at h3;exact h3)
end
end
-- what arguments read as
section
variable {ob:Oid->Option Ob} {n:Nat}
end
-- steps that hang on something
section
variable {n:Nat} {d:Option Nat} {f:Nat->AV} {ob:Oid->Option Ob}
theorem Aa6 {s:Nat} {b c:Bool} {q:Q} {r:Option Rec} (hs:f s=.bool c) (hc:c=b) (h:Bq n ⟨d,none,q⟩ f ob=r):Bq n ⟨d,some (s,b),q⟩ f ob=r:=by
 subst hc;simp only [Bq,hs,gdv,beq_self_eq_true];exact h
theorem Sa {sz:Nat} {x i:Opd} {t:Ty} {xs:List t.D} {y:t.D} {k:IntKind} {m:Int} {j:Nat} (hx:(x.ev f).un=.tree t xs) (hi:i.ev f=.int k m) (hs:sz=t.size) (h0:0<=m) (hj:m.toNat=j) (hy:xs[j]? =some y) {g:Option (Nat->Prop)} (hg:(x.ev f).tag=g:=by kernel_rfl):Bq n ⟨d,none,.i (.idx sz x i)⟩ f ob=some (0,.telt g t y 0,[]):=by
 subst hs hj hg;simp [Bq,ev,evN,hx,hi,h0,hy]
theorem R8 {sz:Nat} {x i:Opd} {t:Ty} {o:Oid} {len:Nat} {k:IntKind} {m:Int} {j:Nat} (hx:x.ev f=.own o t 0 len) (hi:i.ev f=.int k m) (hs:sz=t.size) (h0:0<=m) (hj:m.toNat=j) (hl:j<len):Bq n ⟨d,none,.i (.idx sz x i)⟩ f ob=some (0,.elt o j 0,[]):=by
 subst hs hj;have:m<(len:Int):=by omega
 simp [Bq,ev,evN,hx,hi,h0,AV.un,this]
theorem Wo {one:Bool} {m:Nat} {x:Opd} {i:Oid} {j k:Nat} {e:TypeId} {t:Ty} {xs:List t.D} {y:t.D} {c:AV} (hx:x.ev f=.elt i j k) (hob:ob i=some (.arr e t xs)) (hy:xs[j]? =some y) (hc:Cc one m k (t.av y)=some c):Bq n ⟨d,none,.i (.ld one m x)⟩ f ob=some (1,c,[]):=by
 simp [Bq,ev,evN,evR,hx,hob,hy,hc]
theorem Zh {one:Bool} {m:Nat} {x y:Opd} {i:Oid} {j k:Nat} {e:TypeId} {t:Ty} {xs:List t.D} {x0 x1:t.D} {cs:List AV} (hx:x.ev f=.elt i j k) (hob:ob i=some (.arr e t xs)) (hy:xs[j]? =some x0) (hc:Ha one m k (t.av x0) (y.ev f)=some cs) (hd:t.ofAV cs=some x1):Bq n ⟨d,none,.st one m x y⟩ f ob=some (2,.any,[(i,none),(i,some (.arr e t (xs.set j x1)))]):=by
 simp [Bq,ev,Qf,hx,hob,hy,hc,hd]
theorem Kn {e:TypeId} {t:Ty} {by_:Nat} {l c:Opd} {k k':IntKind} {m m':Int} {j:Nat} (hl:l.ev f=.int k m) (hc:c.ev f=.int k' m') (h:0<=m/\m<=m'/\m'<=1073741824/\(by_:Int)*m'<=140737488355328) (hj:m.toNat=j):Bq n ⟨d,none,.make e t by_ l c⟩ f ob=some (1,.own ((d.getD 0,0),n) t 0 j,[(((d.getD 0,0),n),some (.arr e t (List.replicate j t.dflt)))]):=by
 subst hj;simp only [Bq,ev,Mq,hl,hc,if_pos h]
theorem Aad {t t':Ty} {i:Oid} {e:TypeId} {xs:List t.D} {len:Nat} (h:ob i=some (.arr e t xs)) (hl:len=xs.length):C4 ob t (.own i t' 0 len)=some xs:=by
 subst hl;simp only [C4,h,Nat.zero_add,Nat.le_refl,if_true,Ty.eq?_self,Cr,List.drop_zero,List.take_length]
theorem Y8 {t:Ty} {xs:List t.D}:C4 ob t (.tree t xs)=some xs:=by simp only [C4,Ty.eq?_self,Cr]
theorem Wf {e:TypeId} {t t':Ty} {by_:Nat} {x y:Opd} {c:AV} {ys xs zs:List t.D} {j:Oid} {len:Nat} (hx:x.ev f=.own j t' 0 len) (hob:ob j=some (.arr e t xs)) (hl:len=xs.length) (hy:y.ev f=c) (hs:C4 ob t c=some ys) (hz:zs=xs++ys) (h:xs.length+ys.length<=1073741824/\(xs.length+ys.length)*by_<=140737488355328) :
  Bq n ⟨d,none,.append e t by_ x y⟩ f ob=some (2,.own (j.1,n) t 0 zs.length,[(j,none),((j.1,n),some (.arr e t zs))]):=by
 subst hl hz;simp only [Bq,ev,Ey,hx,hy,hs,hob,Ty.eq?_self,Nat.le_refl,true_and,h.1,h.2,and_self,if_true,Cr,List.take_length,List.length_append]
theorem Aaj {x y:Opd} {j:Nat} (hx:x.ev f=.int .i64 j) (hy:y.ev f=.int .i64 1) (h:j+1<4611686018427387904):Bq n ⟨d,none,.i (.bin .add x y)⟩ f ob=some (0,.int .i64 ((j+1:Nat):Int),[]):=by
 have:IntKind.i64.wrap ((j:Int)+1)=((j+1:Nat):Int):=by rw [Go.IntWalk.i64_in _ oM];rfl
 simp [Bq,ev,evN,Q6,hx,hy,this]
end
theorem R7 {c:Opd} {x y:AC} {R:AE->St->Prop} {S:St} {t:Bool} (ht:t=true) (h1:awp P G x R S) (h:c.ev S.tm=.bool t:=by kernel_rfl):awp P G (.cond c x y) R S:=by
 subst ht;exact .inl ⟨true,h,fun _=>h1,fun h=>nomatch h⟩
theorem Rw {c:Opd} {x y:AC} {R:AE->St->Prop} {S:St} {t:Bool} (ht:t=false) (h2:awp P G y R S) (h:c.ev S.tm=.bool t:=by kernel_rfl):awp P G (.cond c x y) R S:=by
 subst ht;exact .inl ⟨false,h,fun h=>(nomatch h),fun _=>h2⟩
theorem Aj {i:Nat} {a:AC} {R:AE->St->Prop} {S:St} (h:awp P G a (D2 i R) S):awp P G (.block i a) R S:=h
theorem U5 {a:AC} {R:AE->St->Prop} {S:St} {α:Type} (I:α->St->Prop) (μ:α->Nat) (h0:∃ s S0,WeakG G S S0/\I s S0) (h1:∀ s S1,I s S1->awp P G a (Da (fun S2=>∃ s' S3,WeakG G S2 S3/\I s' S3/\μ s'<μ s) R) S1):awp P G (.loop a) R S:=⟨α,I,μ,h0,h1⟩
theorem Gh {i:Nat} {R:AE->St->Prop} {S:St} (h:R (.exit i) S):awp P G (.exit i) R S:=h
theorem Bd {R:AE->St->Prop} {S:St} (h:R .normal S):awp P G .skip R S:=h
theorem Ae {R:AE->St->Prop} {S:St} (h:R .ret S):awp P G .ret R S:=h
end
section
variable {K:St->Prop} {R:AE->St->Prop} {S:St} {i j:Nat}
theorem tn_ (h:K S):Da K R .normal S:=h
theorem te_ (h:R (.exit i) S):Da K R (.exit i) S:=h
theorem tr_ (h:R .ret S):Da K R .ret S:=h
theorem bn_ (h:R .normal S):D2 i R .normal S:=h
theorem be_ (h:R .normal S):D2 i R (.exit i) S:=by simpa [D2] using h
theorem br_ (h:R .ret S):D2 i R .ret S:=h
end
def tmL:Nat->List AV->List (Nat×AV)
 | _,[]=>[]
 | k,v :: r=>(k,v) :: tmL (k+1) r
theorem Qd:∀ (l:List AV) (k i:Nat),Ah (tmL k l) (k+i)=l.getD i .any
 | [],k,i=>by simp [tmL,Ah]
 | v :: r,k,i=>by
  cases i with
  | zero=>simp [tmL,Ah]
  | succ i =>
   have:=Qd r (k+1) i;simp only [tmL,Ah];rw [if_neg oM,show k+(i+1)=k+1+i by omega,this];simp
theorem Ts (args:List AV):(fun i=>args.getD i .any)=Ah (tmL 0 args):=by
 funext i;have:=Qd args 0 i;rw [Nat.zero_add] at this;exact this.symm
theorem St.init_eq (args:List AV):St.init args=⟨Ah (tmL 0 args),Ag [],1⟩:=by
 unfold St.init;rw [Ts];rfl
theorem Xj {G:World->Prop} {tl:List (Nat×AV)} {ol:List (Oid×Option Ob)} {g:Nat} (s:Nat) (v v':AV) (h:Ah tl s=v) (e:v=v'):WeakG G ⟨Ah tl,Ag ol,g⟩ ⟨Ah ((s,v') :: tl),Ag ol,g⟩:=by
 subst e
 have:Ah ((s,v) :: tl)=Ah tl:=by
  funext i;simp only [Ah];split
  ·rename_i e;rw [e];exact h.symm
  ·rfl
 rw [this];exact WeakG.refl _
theorem X1 {G:World->Prop} {tl:List (Nat×AV)} {ol:List (Oid×Option Ob)} {g:Nat} (j:Oid) (o o':Ob) (h:Ag ol j=some o) (e:o=o') (hx:Kj (some o)=true:=by rfl):WeakG G ⟨Ah tl,Ag ol,g⟩ ⟨Ah tl,Ag ((j,some o') :: ol),g⟩:=by
 subst e
 have:Ag ((j,some o) :: ol)=Ag ol:=by
  rw [← Qv hx,X3 _ _ _ h]
 rw [this];exact WeakG.refl _
def O3 (ol:List (Oid×Ob)):List (Oid×Ob)->Prop
 | []=>True
 | q :: r=>(match q.2 with
  | .mat _ p u xss=>∃ e,(p,Ob.pool e u xss)∈ol
  | _=>True)/\O3 ol r
theorem Jc {ol:List (Oid×Ob)}:∀ {l:List (Oid×Ob)},O3 ol l->∀ i e p u xss,(i,Ob.mat e p u xss)∈l->∃ e,(p,Ob.pool e u xss)∈ol
 | _ :: _,h,i,e,p,u,xss,hm=>by
  rcases List.mem_cons.1 hm with rfl|hm
  ·exact h.1
  ·exact Jc h.2 i e p u xss hm
theorem Tk {ol:List (Oid×Ob)} {p:Oid} {e:TypeId} {u:Ty} {xss:List (List u.D)}:(p,Ob.pool e u xss)∈ol->∀ k,k<xss.length->kid p k∈nmL ol:=by
 induction ol with
 | nil=>intro h;cases h
 | cons x r ih =>
  obtain ⟨x1,x2⟩:=x;intro h k hk;rcases List.mem_cons.1 h with h|h
  ·cases h;simp only [nmL,exL,List.map_append,List.mem_append];refine .inl (List.mem_map.2 ⟨(kid p k,.arr e u xss[k]),List.mem_map.2 ⟨(xss[k],k),?_,rfl⟩,rfl⟩);rw [List.mem_zipIdx_iff_getElem?];exact gEg hk
  ·have:=ih h k hk;cases x2 <;> simp only [nmL,exL,List.map_cons,List.map_append] at this⊢ <;> first|exact List.mem_cons_of_mem _ this|exact List.mem_append_right _ this
theorem Ft {ol:List (Oid×Ob)} {i:Oid} (h:i∈Ay ol):i∈nmL ol:=by
 obtain ⟨o,ho,hp⟩:=Ya h;exact List.mem_map.2 ⟨_,Ly ho hp,rfl⟩
theorem Zy {D:Oid->Prop} {p:Oid} {u:Ty} (xss:List (List u.D)) (h:∀ k,k<xss.length->D (kid p k)):AV.hpL D (hdL p u xss):=by
 have key:∀ l:List (List u.D×Nat),(∀ x∈l,D (kid p x.2))->AV.hpL D (l.map fun x=>.own (kid p x.2) u 0 x.1.length):=by
  intro l
  induction l with
  | nil=>intro _;trivial
  | cons x l ih=>intro h;exact ⟨h x (by simp),ih fun y hy=>h y (by simp [hy])⟩
 refine key _ fun x hx=>h _ ?_
 obtain ⟨row,k⟩:=x;rw [List.mem_zipIdx_iff_getElem?] at hx;exact (gSi.1 hx).1
theorem Z0 {D:List Oid} (o:Ob) (h:o.clo1 D=true) (hp:o.isPool=false) (hm:∀ e p u xss,o≠.mat e p u xss):o.exp.cloP (·∈D):=by
 cases o with
 | cells _ cs=>exact AV.cloPL_of cs h
 | vec _ _ _ cs=>exact AV.cloPL_of cs h
 | mat e p u xss=>exact absurd rfl (hm _ _ _ _)
 | arr _ _ _=>trivial
 | map _ _ _=>trivial
 | pool _ _ _=>cases hp
 | tv e m t xs=>exact Tf xs
theorem Zo {D:List Oid} (o:Ob) (h:o.hp1 D=true) (hp:o.isPool=false) (hm:∀ e p u xss,o≠.mat e p u xss):o.exp.hp (·∈D):=by
 cases o with
 | cells _ cs=>exact AV.hpB_PL cs h
 | vec _ _ _ cs=>exact AV.hpB_PL cs h
 | mat e p u xss=>exact absurd rfl (hm _ _ _ _)
 | arr _ _ _=>trivial
 | map _ _ _=>trivial
 | pool _ _ _=>cases hp
 | tv e m t xs=>cases h
theorem cloP_mono {D E:Oid->Prop} (hd:∀ i,D i->E i) (o:Ob) (h:o.cloP D):o.cloP E:=by
 cases o <;> first|exact AV.cloPL_mono hd _ h|exact h
theorem hp_mono {D E:Oid->Prop} (hd:∀ i,D i->E i) (o:Ob) (h:o.hp D):o.hp E:=by
 cases o <;> first|exact AV.hpL_mono hd _ h|exact h
section
variable {P:Program} {G:World->Prop} (hfol:P.follows .mixedOrders=true) {g:FuncId} {fn:Func} (hf:P.funcs[g]? =some fn) {ac:AC} {rs:List Res} (hc:Do P fn=some (ac,rs)) {args:List AV} {r:RV} {n:Nat} (hN:fn.ntmps=n) (hn:args.length<=n)
include hfol hf hc hN hn
theorem Q8 [IsP P] {tl:List (Nat×AV)} (htl:tmL 0 args=tl) (h:awp P G ac (fun e S=>∃ S',WeakG G S S'/\(e=.normal∨e=.ret)/\RetOK [] rs S' r) ⟨Ah tl,Ag [],1⟩):Dt P G g args r:=by
 refine Ze hfol hf hc hN hn ?_;rw [St.init_eq,htl];exact h
omit hN hn in
end
theorem Aav {G:World->Prop} {rs:List Res} {f:Nat->AV} {ob:Oid->Option Ob} {g:Nat} {r:RV} (avs:List AV) {vs:List Value} {e:AE} (h2:PartsR vs ob avs r.ps) (he:e=.normal∨e=.ret:=by simp) (h1:Res.evL f ob rs=some avs:=by kernel_rfl) (h3:ndB (Lk ob (Hj avs))=true:=by kernel_rfl) (h4:r.tup=decide (rs.length≠1):=by kernel_rfl):∃ S',WeakG G ⟨f,ob,g⟩ S'/\(e=.normal∨e=.ret)/\RetOK vs rs S' r :=
 ⟨_,WeakG.refl _,he,avs,r.ps,h1,h2,Ca h3,by cases r;cases h4;rfl⟩
theorem Zl {G:World->Prop} {rs:List Res} {S:St} {tl:List (Nat×AV)} {g:Nat} {v:AV} {us:List (Oid×Ob)} {e:AE} (rvs:List AV) (hw:WeakG G S ⟨Ah tl,Ag (Bf us),g⟩) (he:e=.normal∨e=.ret:=by simp) (h1:Res.evL (Ah tl) (Ag (Bf us)) rs=some rvs:=by kernel_rfl) (hv:v=Pw rvs:=by kernel_rfl) (h2:(Dn us&&(ndB (Ay us)&&ndB (A7 us)))=true:=by kernel_rfl) :
  ∃ S',WeakG G S S'/\(e=.normal∨e=.ret)/\(∃ rvs,Res.evL S'.tm S'.ob rs=some rvs/\v=Pw rvs)/\∀ q∈exL us,S'.ob q.1=some q.2:=by
 refine ⟨_,hw,he,⟨rvs,h1,hv⟩,fun q hq=>?_⟩;simp only [Bool.and_eq_true] at h2;obtain ⟨a1,a2,a3⟩:=h2
 have h0:∀ q∈us,q.1.1.2=0:=fun q hq=>by
  unfold Dn at a1;rw [List.all_eq_true] at a1;have:=a1 q hq;simp only [Bool.and_eq_true,beq_iff_eq] at this;exact this.1
 have:=G6 (rest:=[]) (Ca a2) (Ca a3) (fun p hp=>by obtain ⟨e,u,xss,hm⟩:=Aab hp;exact h0 _ hm) (fun i hi p hp k e=>by
  obtain ⟨o,ho,_⟩:=Ya hi;have:=h0 _ ho;rw [e] at this;simp [kid] at this) q hq
 rwa [List.append_nil] at this
section
variable {vs:List Value} {ob:Oid->Option Ob}
theorem Zg {cs r:List AV} {ls:List RL} {ps:List (Bool×List RL)} (h1:LeavesR vs ob cs ls) (h2:PartsR vs ob r ps):PartsR vs ob (.agg cs :: r) ((true,ls) :: ps):=⟨ls,ps,rfl,h1,h2⟩
theorem J0 {c:AV} {r:List AV} {l:RL} {ps:List (Bool×List RL)} (hc:c.one=true) (h1:LeafR vs ob c l) (h2:PartsR vs ob r ps):PartsR vs ob (c :: r) ((false,[l]) :: ps):=by
 rw [G7 (by rintro ⟨_,rfl⟩;cases hc)];exact ⟨l,ps,rfl,h1,h2⟩
theorem K0:PartsR vs ob [] []:=rfl
theorem Pc {c:AV} {cs:List AV} {l:RL} {ls:List RL} (h1:LeafR vs ob c l) (h2:LeavesR vs ob cs ls):LeavesR vs ob (c :: cs) (l :: ls):=⟨l,ls,rfl,h1,h2⟩
theorem Aaz:LeavesR vs ob [] []:=rfl
theorem Aaa {c:AV} {l:RL} (h:Hs ob c=some l):LeafR vs ob c l:=.inl (.inl h)
theorem Io {i:Oid} {t u:Ty} {e:TypeId} {xs:List u.D} {len:Nat} (h:ob i=some (.arr e u xs)) (hl:len=xs.length):LeafR vs ob (.own i t 0 len) (.new e u xs):=by
 subst hl;exact .inl (.inl (by simp only [Hs,h,Nat.le_refl,and_self,if_true,List.take_length]))
end
end
section
open Go.RowKit Go.Deep
abbrev tm (n:Nat):Opd:=.tmp n
abbrev cb (b:Bool):Opd:=.cst (.bool b)
abbrev xo (d:Nat) (q:Q):X:=⟨some d,none,q⟩
abbrev qm (x:Opd):Q:=.i (.mov x)
abbrev ql (x:Opd):Q:=.i (.ld true 1 x)
abbrev qf (k:Nat) (x:Opd):Q:=.i (.fld k x)
abbrev qc (f:FuncId) (xs:List Opd) (tys:List (List (Option Ty))):Q:=.call (.cst (.fn f [])) xs tys
abbrev rg (xs:List X):AC:=.region xs false []
abbrev ai (n:Int):AV:=.int .i64 n
abbrev oi (a b:Nat):Oid:=((a,0),b)
def Wi (d:Option Nat) (v:AV) (tl:List (Nat×AV)):List (Nat×AV) :=
 match d with
 | some d=>(d,v) :: tl
 | none=>tl
theorem Tb (d:Option Nat) (v:AV) (tl:List (Nat×AV)):F1 d v (Ah tl)=Ah (Wi d v tl):=by
 cases d with
 | none=>rfl
 | some d=>simp only [F1,Wi,M5]
noncomputable def P7 (g:Nat):Nat->Nat->List X->List (Nat×AV)->List (Oid×Option Ob)->Option (List (Nat×AV)×List (Oid×Option Ob))
 | 0,_,_,tl,ol=>some (tl,ol)
 | _+1,_,[],_,_=>none
 | n+1,k,x :: xs,tl,ol=>match Bq (g+k) x (Ah tl) (Ag ol) with
  | some (_,v,us)=>if D4 us then P7 g n (k+1) xs (Wi x.dst v tl) (us.reverseAux ol) else none
  | none=>none
theorem Aa2 {P:Program} {G:World->Prop} {g:Nat} {Kf:List (Nat×AV)->List (Oid×Option Ob)->Prop}:∀ (n k:Nat) (xs:List X) (tl:List (Nat×AV)) (ol:List (Oid×Option Ob)) (r:List (Nat×AV)×List (Oid×Option Ob)),P7 g n k xs tl ol=some r->XW P G g (k+n) (xs.drop n) r.1 r.2 Kf->XW P G g k xs tl ol Kf
 | 0,k,xs,tl,ol,r,h,hk=>by
  obtain rfl:=osj h;exact hk
 | n+1,k,[],tl,ol,r,h,hk=>by cases h
 | n+1,k,x :: xs,tl,ol,r,h,hk=>by
  simp only [P7] at h;split at h
  ·rename_i c v us hst;split at h
   ·rename_i hx;obtain ⟨rs,tl',ol',h1,h2⟩:=Aa2 (P:=P) (G:=G) n (k+1) xs _ _ r h (by rw [show k+1+n=k+(n+1) by omega];exact hk);exact ⟨(c,v,us) :: rs,tl',ol',⟨_,_,rfl,Em hst,by rw [Tb,Et _ _ hx];exact h1⟩,h2⟩
   ·cases h
  ·cases h
theorem rsB {P:Program} {G:World->Prop} {g k:Nat} {xs:List X} {tl:List (Nat×AV)} {ol:List (Oid×Option Ob)} {Kf:List (Nat×AV)->List (Oid×Option Ob)->Prop} (n:Nat) (hk:XW P G g (k+n) (xs.drop n) ((P7 g n k xs tl ol).getD ([],[])).1 ((P7 g n k xs tl ol).getD ([],[])).2 Kf) (h:(P7 g n k xs tl ol).isSome=true:=by kernel_rfl):XW P G g k xs tl ol Kf:=by
 obtain ⟨r,hr⟩:=Option.isSome_iff_exists.1 h;rw [hr] at hk;exact Aa2 n k xs tl ol r hr hk
noncomputable def W5 (g:Nat):Nat->Nat->List X->List (Nat×AV)->List (Oid×Option Ob)->Option (List (Nat×AV))
 | 0,_,_,tl,_=>some tl
 | _+1,_,[],_,_=>none
 | n+1,k,x :: xs,tl,ol=>match Bq (g+k) x (Ah tl) (Ag ol) with
  | some (_,v,[])=>W5 g n (k+1) xs (Wi x.dst v tl) ol
  | _=>none
theorem Aau {P:Program} {G:World->Prop} {g:Nat} {ol:List (Oid×Option Ob)} {Kf:List (Nat×AV)->List (Oid×Option Ob)->Prop}:∀ (n k:Nat) (xs:List X) (tl:List (Nat×AV)) (r:List (Nat×AV)),W5 g n k xs tl ol=some r->XW P G g (k+n) (xs.drop n) r ol Kf->XW P G g k xs tl ol Kf
 | 0,k,xs,tl,r,h,hk=>by
  obtain rfl:=osj h;exact hk
 | n+1,k,[],tl,r,h,hk=>by cases h
 | n+1,k,x :: xs,tl,r,h,hk=>by
  simp only [W5] at h;split at h
  ·rename_i c v hst;obtain ⟨rs,tl',ol',h1,h2⟩:=Aau (P:=P) (G:=G) n (k+1) xs _ r h (by rw [show k+1+n=k+(n+1) by omega];exact hk);exact ⟨(c,v,[]) :: rs,tl',ol',⟨_,_,rfl,Em hst,by rw [Tb];exact h1⟩,h2⟩
  ·cases h
theorem rsT {P:Program} {G:World->Prop} {g k:Nat} {xs:List X} {tl:List (Nat×AV)} {ol:List (Oid×Option Ob)} {Kf:List (Nat×AV)->List (Oid×Option Ob)->Prop} (n:Nat) (hk:XW P G g (k+n) (xs.drop n) ((W5 g n k xs tl ol).getD []) ol Kf) (h:(W5 g n k xs tl ol).isSome=true:=by kernel_rfl):XW P G g k xs tl ol Kf:=by
 obtain ⟨r,hr⟩:=Option.isSome_iff_exists.1 h;rw [hr] at hk;exact Aau n k xs tl r hr hk
noncomputable def Sg (g:Nat):Nat->Nat->List X->List (Nat×AV)->List (Oid×Option Ob)->List Rec->List (List Oid)->Option (List (Nat×AV)×List Rec×List (List Oid))
 | 0,_,_,tl,_,ra,da=>some (tl,ra,da)
 | _+1,_,[],_,_,_,_=>none
 | n+1,k,x :: xs,tl,ol,ra,da=>match Bq (g+k) x (Ah tl) (only (rdX (Ah tl) (Ag ol) x) (Ag ol)) with
  | some (c,v,[])=>Sg g n (k+1) xs (Wi x.dst v tl) ol ((c,v,[]) :: ra) (rdX (Ah tl) (Ag ol) x :: da)
  | _=>none
theorem Aax {P:Program} {G:World->Prop} {g:Nat} {ol:List (Oid×Option Ob)} {bad:List (Nat×Nat)} {Kf:List (Nat×AV)->List (Oid×Option Ob)->Prop}:∀ (n k:Nat) (xs:List X) (tl:List (Nat×AV)) (ra:List Rec) (da:List (List Oid)) (r:List (Nat×AV)×List Rec×List (List Oid)),Sg g n k xs tl ol ra da=some r->XD P G bad g (k+n) (xs.drop n) r.1 ol r.2.1 r.2.2 Kf->XD P G bad g k xs tl ol ra da Kf
 | 0,k,xs,tl,ra,da,r,h,hk=>by
  obtain rfl:=osj h;exact hk
 | n+1,k,[],tl,ra,da,r,h,hk=>by cases h
 | n+1,k,x :: xs,tl,ra,da,r,h,hk=>by
  simp only [Sg] at h;split at h
  ·rename_i c v hst;obtain ⟨rs,ds,tl',ol',h1,hb,h2⟩:=Aax (P:=P) (G:=G) n (k+1) xs _ _ _ r h (by rw [show k+1+n=k+(n+1) by omega];exact hk);refine ⟨(c,v,[]) :: rs,rdX (Ah tl) (Ag ol) x :: ds,tl',ol',⟨_,_,_,rfl,rfl,Em hst,by rw [Tb];exact h1⟩,?_,h2⟩
   simpa using hb
  ·cases h
theorem dsT {P:Program} {G:World->Prop} {g k:Nat} {xs:List X} {tl:List (Nat×AV)} {ol:List (Oid×Option Ob)} {bad:List (Nat×Nat)} {ra:List Rec} {da:List (List Oid)} {Kf:List (Nat×AV)->List (Oid×Option Ob)->Prop} (n:Nat) (hk:XD P G bad g (k+n) (xs.drop n) ((Sg g n k xs tl ol ra da).getD ([],[],[])).1 ol ((Sg g n k xs tl ol ra da).getD ([],[],[])).2.1 ((Sg g n k xs tl ol ra da).getD ([],[],[])).2.2 Kf) (h:(Sg g n k xs tl ol ra da).isSome=true:=by kernel_rfl):XD P G bad g k xs tl ol ra da Kf:=by
 obtain ⟨r,hr⟩:=Option.isSome_iff_exists.1 h;rw [hr] at hk;exact Aax n k xs tl ra da r hr hk
theorem Ak {P:Program} {G:World->Prop} {g:Nat} {xs:List X} {bad:List (Nat×Nat)} {y:AC} {R:AE->St->Prop} {tl:List (Nat×AV)} {ol:List (Oid×Option Ob)} (h:awp P G y R ⟨Ah ((P7 g xs.length 0 xs tl ol).getD ([],[])).1,Ag ((P7 g xs.length 0 xs tl ol).getD ([],[])).2,g+xs.length⟩) (hs:(P7 g xs.length 0 xs tl ol).isSome=true:=by kernel_rfl):awp P G (.seq (.region xs false bad) y) R ⟨Ah tl,Ag ol,g⟩:=by
 refine Ad (Ac (g+xs.length) (rsB xs.length (by rw [List.drop_length];exact Bi (tn_ ⟨_,WeakG.refl _,h⟩)) hs) rfl)
section
variable {n:Nat} {d:Option Nat} {f:Nat->AV} {ob:Oid->Option Ob} {ol:List (Oid×Option Ob)}
end
section
variable {P:Program} {G:World->Prop} {g k d:Nat} {gd:Option (Nat×Bool)} {q:Q} {xs:List X} {tl:List (Nat×AV)} {ol:List (Oid×Option Ob)} {bad:List (Nat×Nat)} {ra:List Rec} {da:List (List Oid)} {Kf:List (Nat×AV)->List (Oid×Option Ob)->Prop}
end
-- what arguments read as
section
variable {ol:List (Oid×Option Ob)} {n:Nat}
def Wj (zs:List AV) (ob:Oid->Option Ob) (θ:Oid->Oid):List (Oid×Ob)->Prop
 | []=>True
 | q :: r=>(match q.2 with
  | .pool _ _ xss=>∀ k,k<xss.length->Reached zs ob (kid (θ q.1) k)
  | _=>Reached zs ob (θ q.1))/\Wj zs ob θ r
theorem Eh {zs:List AV} {ob:Oid->Option Ob} {l:List (Oid×Oid)} (hl:Mv l=true):∀ {ol:List (Oid×Ob)},Dn ol=true->Wj zs ob (A8 l) ol->∀ j∈nmL ol,Reached zs ob (A8 l j)
 | [],_,_,j,hj=>by cases hj
 | (p,o) :: r,h0,h,j,hj=>by
  simp only [Dn,List.all_cons,Bool.and_eq_true,beq_iff_eq] at h0;obtain ⟨⟨h1,_⟩,h2⟩:=h0;have ih:j∈nmL r->Reached zs ob (A8 l j):=fun hm=>Eh hl (ol:=r) (by simpa [Dn] using h2) h.2 j hm
  cases o with
  | pool e u xss =>
   simp only [nmL,exL,List.map_append,List.mem_append] at hj;rcases hj with hj|hj
   ·obtain ⟨q,hq,rfl⟩:=List.mem_map.1 hj;obtain ⟨⟨row,k⟩,hx,rfl⟩:=List.mem_map.1 hq;rw [List.mem_zipIdx_iff_getElem?] at hx;show Reached zs ob (A8 l (kid p k));rw [Eu hl h1];exact h.1 k (gSi.1 hx).1
   ·exact ih hj
  | _ =>
   simp only [nmL,exL,List.map_cons,List.mem_cons] at hj;rcases hj with rfl|hj
   ·exact h.1
   ·exact ih hj
theorem Bv {zs:List AV} {ob:Oid->Option Ob} {i:Oid} (h:(AV.nmsL zs).contains i=true):Reached zs ob i:=.arg (List.contains_iff_mem.1 h)
theorem Hp {zs:List AV} {ob:Oid->Option Ob} {k i:Oid} {ty:TypeId} {cs:List AV} (h1:Reached zs ob k) (h2:ob k=some (.cells ty cs)) (h:(AV.nmsL cs).contains i=true):Reached zs ob i:=.cells h1 h2 (List.contains_iff_mem.1 h)
end
end
section
open Go.RowKit Go.Deep
section
variable {P:Program} {G:World->Prop} {w0 w:World} {ob:Oid->Option Ob} {σ:Oid->Option Loc} {K:Nat->Prop} {im:Nat->Prop}
end
end
section
open Go.RowKit
def Tab (_:World):Prop:=True
theorem Tab.below {w w':World} (_:Tab w) (_:Below w.heap.size w w'):Tab w':=trivial
def inR (n lo hi:Int):Bool:=decide (lo<=n)&&decide (n<=hi)
theorem Bw {n lo hi:Int}:inR n lo hi=true↔lo<=n/\n<=hi:=by simp [inR]
theorem Vu {n lo hi:Int}:inR n lo hi=false↔n<lo∨hi<n:=by
 cases h:inR n lo hi
 ·simp only [true_iff];have h1:¬ (lo<=n/\n<=hi):=fun h'=>by rw [Bw.2 h'] at h;cases h
  omega
 ·simp only [Bool.true_eq_false,false_iff];have:=Bw.1 h;omega
abbrev cK (f:FuncId) (a:List AV) (r:RV):Prop:=Dt Try.prog Tab f a r
end

section
open Go.RowKit Go.Deep
section
variable {f:Nat->AV} {ob:Oid->Option Ob} {n:Nat} {d:Option Nat}
end
end
section
open Go.RowKit Go.Deep
inductive Ctl (σ ρ:Type) where
 | next (s:σ)
 | out (r:ρ)
def Ctl.then {σ β:Type} (k:σ->Option β):Ctl σ β->Option β
 | .next t=>k t
 | .out r=>some r
section
variable {α β σ τ ρ:Type}
def og (c:Prop) [Decidable c] (k:Option α):Option α:=if c then k else none
theorem En {c:Prop} [Decidable c] {k:Option α} {r:α} (h:og c k=some r):c/\k=some r:=by
 unfold og at h;split at h
 ·rename_i hc;exact ⟨hc,h⟩
 ·cases h
theorem Be {c:Prop} [Decidable c] (h:c) (k:Option α):og c k=k:=if_pos h
theorem Bk {o:Option α} {f:α->Option β} {b:β} (h:o.bind f=some b):∃ a,o=some a/\f a=some b:=Option.bind_eq_some_iff.1 h
theorem Df {c:Bool} {a b:Option α} {r:α} (h:cond c a b=some r):(c=true/\a=some r)∨(c=false/\b=some r):=by
 cases c
 ·exact .inr ⟨rfl,h⟩
 ·exact .inl ⟨rfl,h⟩
def Ln (a:Option (Ctl τ β)) (k:τ->Option β):Option β :=
 a.bind (Ctl.then k)
theorem Vf {a:Option (Ctl τ β)} {k:τ->Option β} {r:β} (h:Ln a k=some r):∃ v,a=some v/\Ctl.then k v=some r:=Bk h
def Ba (body:σ->Option (Ctl σ ρ)):Nat->σ->Option ρ
 | 0,_=>none
 | n+1,s=>(body s).bind (Ctl.then (Ba body n))
theorem Sr {body:σ->Option (Ctl σ ρ)} {n:Nat} {s:σ} {v:ρ} (h:Ba body (n+1) s=some v):∃ c,body s=some c/\Ctl.then (Ba body n) c=some v:=Bk h
theorem Rv {body:σ->Option (Ctl σ ρ)} {s:σ} {v:ρ} (h:Ba body 0 s=some v):False:=by cases h
def J5 (xs:List α) (n:Int):Option α:=if 0<=n then xs[n.toNat]? else none
theorem Bt {xs:List α} {k:Nat} {x:α} (h:xs[k]? =some x):k<xs.length:=(gSi.1 h).1
theorem Fi {xs:List α} {n:Int} {x:α} (h:J5 xs n=some x):0<=n/\n<xs.length/\xs[n.toNat]? =some x:=by
 unfold J5 at h;split at h
 ·rename_i h0;have:=Bt h;exact ⟨h0,by omega,h⟩
 ·cases h
theorem Nn {xs:List α} {n:Int} (h:0<=n):J5 xs n=xs[n.toNat]?:=if_pos h
end
section
variable {P:Program} {G:World->Prop} {σ τ β ρ:Type}
theorem Wc {x y:AC} {R:AE->St->Prop} {S:St} {A:Option τ} {k:τ->Option β} {r:β} (h:A.bind k=some r) (J:τ->St->Prop) (h1:∀ t,A=some t->awp P G x (Da (fun S'=>∃ S'',WeakG G S' S''/\J t S'') R) S) (h2:∀ t S'',J t S''->k t=some r->awp P G y R S''):awp P G (.seq x y) R S:=by
 obtain ⟨t,ha,hk⟩:=Bk h;exact On (J t) (h1 t ha) fun S'' hj=>h2 t S'' hj hk
theorem Wp {x y:AC} {R:AE->St->Prop} {S:St} {A:Option (Ctl τ β)} {k:τ->Option β} {r:β} (h:Ln A k=some r) (J:τ->St->Prop)
  (h1:∀ v,A=some v->Ctl.then k v=some r->awp P G x (Da (fun S'=>∃ t S'',v=.next t/\WeakG G S' S''/\J t S'') R) S) (h2:∀ t S'',J t S''->k t=some r->awp P G y R S''):awp P G (.seq x y) R S:=by
 obtain ⟨v,ha,hk⟩:=Vf h;refine On (fun S''=>∃ t,v=.next t/\J t S'') (Bl (fun e S' hq=>?_) (h1 v ha hk)) fun S'' ⟨t,hv,hj⟩=>?_
 ·cases e with
  | normal=>obtain ⟨t,S'',hv,hw,hj⟩:=hq;exact ⟨S'',hw,t,hv,hj⟩
  | exit id=>exact hq
  | ret=>exact hq
 ·subst hv;exact h2 t S'' hj hk
theorem Uy {a:AC} {R:AE->St->Prop} {S:St} {body:σ->Option (Ctl σ ρ)} {fuel:Nat} {s0:σ} {v:ρ} (h:Ba body fuel s0=some v) (J:σ->St->Prop) (h0:∃ S0,WeakG G S S0/\J s0 S0)
  (h1:∀ n s S1 c,J s S1->body s=some c->Ctl.then (Ba body n) c=some v->awp P G a (Da (fun S2=>∃ s' S3,WeakG G S2 S3/\J s' S3/\Ba body n s'=some v) R) S1):awp P G (.loop a) R S:=by
 obtain ⟨S0,hw,hj⟩:=h0;refine U5 (fun (p:Nat×σ) S=>Ba body p.1 p.2=some v/\J p.2 S) (·.1) ⟨(fuel,s0),S0,hw,h,hj⟩ ?_;rintro ⟨n,s⟩ S1 ⟨hl,hj⟩;cases n with
 | zero=>exact (Rv hl).elim
 | succ n =>
  obtain ⟨c,hc,hn⟩:=Sr hl;refine Bl (fun e S2 hq=>?_) (h1 n s S1 c hj hc hn);cases e with
  | normal=>obtain ⟨s',S3,hw,hj,hl⟩:=hq;exact ⟨(n,s'),S3,hw,⟨hl,hj⟩,Nat.lt_succ_self n⟩
  | exit id=>exact hq
  | ret=>exact hq
end
end
section
open Go.RowKit Go.Deep
end
section
open Go.RowKit Go.Deep
theorem gw3 (w:World):Calls Try.prog 45 #[.int .i64 3] w fun e w'=>e=.returned (.agg #[.int .i64 1,.int .i64 2])/\Below w.heap.size w w':=by
 go_enter Try.func45,Try.ntmps45
 go_wp2
 refine bodyPost_ret (v:=.agg #[.int .i64 1,.int .i64 2]) (by simp [results,Try.results45,go_sem]) rfl ⟨rfl,?_⟩;exact (by repeat (first|with_reducible exact Below.refl _ _|((with_reducible refine Below.setCell ?_ ?_ _);rotate_left;focus (first|(simp;done)|omega|(simp;omega)))|((with_reducible refine Below.alloc ?_ ?_ _);rotate_left;focus (first|(simp;done)|omega|(simp;omega)))|(with_reducible refine Below.drew ?_)|(with_reducible refine below_draws_ ?_ _)))
theorem gw4 (w:World):Calls Try.prog 45 #[.int .i64 4] w fun e w'=>e=.returned (.agg #[.int .i64 1,.int .i64 0])/\Below w.heap.size w w':=by
 go_enter Try.func45,Try.ntmps45
 go_wp2
 refine bodyPost_ret (v:=.agg #[.int .i64 1,.int .i64 0]) (by simp [results,Try.results45,go_sem]) rfl ⟨rfl,?_⟩;exact (by repeat (first|with_reducible exact Below.refl _ _|((with_reducible refine Below.setCell ?_ ?_ _);rotate_left;focus (first|(simp;done)|omega|(simp;omega)))|((with_reducible refine Below.alloc ?_ ?_ _);rotate_left;focus (first|(simp;done)|omega|(simp;omega)))|(with_reducible refine Below.drew ?_)|(with_reducible refine below_draws_ ?_ _)))
theorem gw5 (w:World):Calls Try.prog 45 #[.int .i64 5] w fun e w'=>e=.returned (.agg #[.int .i64 2,.int .i64 1])/\Below w.heap.size w w':=by
 go_enter Try.func45,Try.ntmps45
 go_wp2
 refine bodyPost_ret (v:=.agg #[.int .i64 2,.int .i64 1]) (by simp [results,Try.results45,go_sem]) rfl ⟨rfl,?_⟩;exact (by repeat (first|with_reducible exact Below.refl _ _|((with_reducible refine Below.setCell ?_ ?_ _);rotate_left;focus (first|(simp;done)|omega|(simp;omega)))|((with_reducible refine Below.alloc ?_ ?_ _);rotate_left;focus (first|(simp;done)|omega|(simp;omega)))|(with_reducible refine Below.drew ?_)|(with_reducible refine below_draws_ ?_ _)))
theorem gw6 (w:World):Calls Try.prog 45 #[.int .i64 6] w fun e w'=>e=.returned (.agg #[.int .i64 0,.int .i64 1])/\Below w.heap.size w w':=by
 go_enter Try.func45,Try.ntmps45
 go_wp2
 refine bodyPost_ret (v:=.agg #[.int .i64 0,.int .i64 1]) (by simp [results,Try.results45,go_sem]) rfl ⟨rfl,?_⟩;exact (by repeat (first|with_reducible exact Below.refl _ _|((with_reducible refine Below.setCell ?_ ?_ _);rotate_left;focus (first|(simp;done)|omega|(simp;omega)))|((with_reducible refine Below.alloc ?_ ?_ _);rotate_left;focus (first|(simp;done)|omega|(simp;omega)))|(with_reducible refine Below.drew ?_)|(with_reducible refine below_draws_ ?_ _)))
theorem gw7 (w:World):Calls Try.prog 45 #[.int .i64 7] w fun e w'=>e=.returned (.agg #[.int .i64 1,.int .i64 1])/\Below w.heap.size w w':=by
 go_enter Try.func45,Try.ntmps45
 go_wp2
 refine bodyPost_ret (v:=.agg #[.int .i64 1,.int .i64 1]) (by simp [results,Try.results45,go_sem]) rfl ⟨rfl,?_⟩;exact (by repeat (first|with_reducible exact Below.refl _ _|((with_reducible refine Below.setCell ?_ ?_ _);rotate_left;focus (first|(simp;done)|omega|(simp;omega)))|((with_reducible refine Below.alloc ?_ ?_ _);rotate_left;focus (first|(simp;done)|omega|(simp;omega)))|(with_reducible refine Below.drew ?_)|(with_reducible refine below_draws_ ?_ _)))
theorem gw8 (w:World):Calls Try.prog 45 #[.int .i64 8] w fun e w'=>e=.returned (.agg #[.int .i64 1,.int .i64 1])/\Below w.heap.size w w':=by
 go_enter Try.func45,Try.ntmps45
 go_wp2
 refine bodyPost_ret (v:=.agg #[.int .i64 1,.int .i64 1]) (by simp [results,Try.results45,go_sem]) rfl ⟨rfl,?_⟩;exact (by repeat (first|with_reducible exact Below.refl _ _|((with_reducible refine Below.setCell ?_ ?_ _);rotate_left;focus (first|(simp;done)|omega|(simp;omega)))|((with_reducible refine Below.alloc ?_ ?_ _);rotate_left;focus (first|(simp;done)|omega|(simp;omega)))|(with_reducible refine Below.drew ?_)|(with_reducible refine below_draws_ ?_ _)))
theorem gw9 (w:World):Calls Try.prog 45 #[.int .i64 9] w fun e w'=>e=.returned (.agg #[.int .i64 2,.int .i64 1])/\Below w.heap.size w w':=by
 go_enter Try.func45,Try.ntmps45
 go_wp2
 refine bodyPost_ret (v:=.agg #[.int .i64 2,.int .i64 1]) (by simp [results,Try.results45,go_sem]) rfl ⟨rfl,?_⟩;exact (by repeat (first|with_reducible exact Below.refl _ _|((with_reducible refine Below.setCell ?_ ?_ _);rotate_left;focus (first|(simp;done)|omega|(simp;omega)))|((with_reducible refine Below.alloc ?_ ?_ _);rotate_left;focus (first|(simp;done)|omega|(simp;omega)))|(with_reducible refine Below.drew ?_)|(with_reducible refine below_draws_ ?_ _)))
theorem Aa7 (w:World):Calls Try.prog 45 #[.int .i64 10] w fun e w'=>e=.returned (.agg #[.int .i64 0,.int .i64 1])/\Below w.heap.size w w':=by
 go_enter Try.func45,Try.ntmps45
 go_wp2
 refine bodyPost_ret (v:=.agg #[.int .i64 0,.int .i64 1]) (by simp [results,Try.results45,go_sem]) rfl ⟨rfl,?_⟩;exact (by repeat (first|with_reducible exact Below.refl _ _|((with_reducible refine Below.setCell ?_ ?_ _);rotate_left;focus (first|(simp;done)|omega|(simp;omega)))|((with_reducible refine Below.alloc ?_ ?_ _);rotate_left;focus (first|(simp;done)|omega|(simp;omega)))|(with_reducible refine Below.drew ?_)|(with_reducible refine below_draws_ ?_ _)))
theorem Aa4 (w:World):Calls Try.prog 45 #[.int .i64 11] w fun e w'=>e=.returned (.agg #[.int .i64 1,.int .i64 2])/\Below w.heap.size w w':=by
 go_enter Try.func45,Try.ntmps45
 go_wp2
 refine bodyPost_ret (v:=.agg #[.int .i64 1,.int .i64 2]) (by simp [results,Try.results45,go_sem]) rfl ⟨rfl,?_⟩;exact (by repeat (first|with_reducible exact Below.refl _ _|((with_reducible refine Below.setCell ?_ ?_ _);rotate_left;focus (first|(simp;done)|omega|(simp;omega)))|((with_reducible refine Below.alloc ?_ ?_ _);rotate_left;focus (first|(simp;done)|omega|(simp;omega)))|(with_reducible refine Below.drew ?_)|(with_reducible refine below_draws_ ?_ _)))
theorem Aa5 (w:World):Calls Try.prog 45 #[.int .i64 12] w fun e w'=>e=.returned (.agg #[.int .i64 1,.int .i64 0])/\Below w.heap.size w w':=by
 go_enter Try.func45,Try.ntmps45
 go_wp2
 refine bodyPost_ret (v:=.agg #[.int .i64 1,.int .i64 0]) (by simp [results,Try.results45,go_sem]) rfl ⟨rfl,?_⟩;exact (by repeat (first|with_reducible exact Below.refl _ _|((with_reducible refine Below.setCell ?_ ?_ _);rotate_left;focus (first|(simp;done)|omega|(simp;omega)))|((with_reducible refine Below.alloc ?_ ?_ _);rotate_left;focus (first|(simp;done)|omega|(simp;omega)))|(with_reducible refine Below.drew ?_)|(with_reducible refine below_draws_ ?_ _)))
theorem Aa8 (w:World):Calls Try.prog 45 #[.int .i64 13] w fun e w'=>e=.returned (.agg #[.int .i64 1,.int .i64 1])/\Below w.heap.size w w':=by
 go_enter Try.func45,Try.ntmps45
 go_wp2
 refine bodyPost_ret (v:=.agg #[.int .i64 1,.int .i64 1]) (by simp [results,Try.results45,go_sem]) rfl ⟨rfl,?_⟩;exact (by repeat (first|with_reducible exact Below.refl _ _|((with_reducible refine Below.setCell ?_ ?_ _);rotate_left;focus (first|(simp;done)|omega|(simp;omega)))|((with_reducible refine Below.alloc ?_ ?_ _);rotate_left;focus (first|(simp;done)|omega|(simp;omega)))|(with_reducible refine Below.drew ?_)|(with_reducible refine below_draws_ ?_ _)))
theorem Aa3 (w:World):Calls Try.prog 45 #[.int .i64 14] w fun e w'=>e=.returned (.agg #[.int .i64 1,.int .i64 1])/\Below w.heap.size w w':=by
 go_enter Try.func45,Try.ntmps45
 go_wp2
 refine bodyPost_ret (v:=.agg #[.int .i64 1,.int .i64 1]) (by simp [results,Try.results45,go_sem]) rfl ⟨rfl,?_⟩;exact (by repeat (first|with_reducible exact Below.refl _ _|((with_reducible refine Below.setCell ?_ ?_ _);rotate_left;focus (first|(simp;done)|omega|(simp;omega)))|((with_reducible refine Below.alloc ?_ ?_ _);rotate_left;focus (first|(simp;done)|omega|(simp;omega)))|(with_reducible refine Below.drew ?_)|(with_reducible refine below_draws_ ?_ _)))
def gwV (k:Int):Int×Int:=if k=3 then (1,2) else if k=4 then (1,0) else if k=5 then (2,1) else if k=6 then (0,1) else if k=9 then (2,1) else if k=10 then (0,1) else if k=11 then (1,2) else if k=12 then (1,0) else (1,1)
def Cz (a0:Int):Option (Int×Int):=og (3<=a0/\a0<=14) (some (gwV a0))
def Gt (r:Int×Int):RV:=⟨false,[(true,[.sc (.int .i64 r.1),.sc (.int .i64 r.2)])]⟩
theorem Z5 (k:Int) (h:3<=k/\k<=14) (w:World):Calls Try.prog 45 #[.int .i64 k] w fun e w'=>e=.returned (.agg #[.int .i64 (gwV k).1,.int .i64 (gwV k).2])/\Below w.heap.size w w':=by
 have hk:k=3∨k=4∨k=5∨k=6∨k=7∨k=8∨k=9∨k=10∨k=11∨k=12∨k=13∨k=14:=by omega
 rcases hk with rfl|rfl|rfl|rfl|rfl|rfl|rfl|rfl|rfl|rfl|rfl|rfl
 ·exact gw3 w
 ·exact gw4 w
 ·exact gw5 w
 ·exact gw6 w
 ·exact gw7 w
 ·exact gw8 w
 ·exact gw9 w
 ·exact Aa7 w
 ·exact Aa4 w
 ·exact Aa5 w
 ·exact Aa8 w
 ·exact Aa3 w
theorem Gy {a0:Int} {r:Int×Int} (h:Cz a0=some r):Dt Try.prog Tab 45 [.int .i64 a0] (Gt r):=by
 obtain ⟨hb,h⟩:=En h;obtain rfl:=osj h;intro w im vs hG hr;obtain ⟨u1,_,rfl,h1,h2⟩:=hr;obtain rfl:_=[]:=h2;obtain rfl:u1=.int .i64 a0:=h1;refine (Z5 a0 hb w).mono ?_;rintro e w' ⟨rfl,hw⟩;exact ⟨_,rfl,hw,[_,_],[],⟨_,_,rfl,rfl,rfl,_,_,rfl,rfl,rfl,rfl,rfl⟩,⟨trivial,fun _=>rfl⟩,rfl⟩
end
section
open Go.RowKit Go.Deep
end
section
open Go.RowKit Go.Deep
section
variable {n:Nat} {d:Option Nat} {f:Nat->AV} {ob:Oid->Option Ob}
end
end
section
open Go.RowKit Go.Deep
end
section
open Go.RowKit Go.Deep
section
variable {P:Program} {G:World->Prop} {f:FuncId} {args:List AV} {r:RV} {n:Nat} {R:Nat->Prop}
mutual
def AV.unR (R:Nat->Prop):AV->AV->Prop
 | .tree t xs,d=>d=.ftr R t xs
 | .agg cs,d=>∃ ds,d=.agg ds/\AV.unRL R cs ds
 | c,d=>c.scal=true/\d=c
def AV.unRL (R:Nat->Prop):List AV->List AV->Prop
 | [],ds=>ds=[]
 | c :: cs,ds=>∃ d ds',ds=d :: ds'/\AV.unR R c d/\AV.unRL R cs ds'
end
mutual
theorem Y0 {im:Nat->Prop} {w:World}:∀ (c d:AV) (u:Value),AV.unR R c d->AV.Rep (fun _=>none) im w d u->AV.Rep (fun _=>none) (fun b=>im b/\R b) w c u
 | .tree t xs,d,u,h,hr=>by
  have h:d=.ftr R t xs:=h;subst h;exact hr
 | .agg cs,d,u,⟨ds,e,h⟩,hr=>by
  subst e;obtain ⟨us,e,hr⟩:=hr;exact ⟨us,e,Rg cs ds us h hr⟩
 | .int ..,d,u,⟨_,e⟩,hr=>by subst e;exact hr
 | .bool ..,d,u,⟨_,e⟩,hr=>by subst e;exact hr
 | .str ..,d,u,⟨_,e⟩,hr=>by subst e;exact hr
 | .err ..,d,u,⟨h,e⟩,hr=>by first|(cases h;done)|(subst e;exact hr)
 | .nils,d,u,⟨_,e⟩,hr=>by subst e;exact hr
 | .any,d,u,⟨h,_⟩,_=>by cases h
 | .mtree ..,d,u,⟨h,_⟩,_=>by cases h
 | .ftr ..,d,u,⟨h,_⟩,_=>by cases h
 | .mp _,d,u,⟨h,_⟩,_=>by cases h
 | .tup _,d,u,⟨h,_⟩,_=>by cases h
 | .fn ..,d,u,⟨h,_⟩,_=>by cases h
 | .ref _,d,u,⟨h,_⟩,_=>by cases h
 | .own ..,d,u,⟨h,_⟩,_=>by cases h
 | .box ..,d,u,⟨h,_⟩,_=>by cases h
 | .elt ..,d,u,⟨h,_⟩,_=>by cases h
 | .sla ..,d,u,⟨h,_⟩,_=>by cases h
 | .telt ..,d,u,⟨h,_⟩,_=>by cases h
 | .giv ..,d,u,⟨h,_⟩,_=>by cases h
 | .abool ..,d,u,⟨h,_⟩,_=>by cases h
theorem Rg {im:Nat->Prop} {w:World}:∀ (cs ds:List AV) (us:List Value),AV.unRL R cs ds->AV.RepL (fun _=>none) im w ds us->AV.RepL (fun _=>none) (fun b=>im b/\R b) w cs us
 | [],ds,us,h,hr=>by obtain rfl:ds=[]:=h;exact hr
 | c :: cs,ds,us,⟨d,ds',e,h1,h2⟩,hr=>by
  subst e;obtain ⟨u,us',e,r1,r2⟩:=hr;exact ⟨u,us',e,Y0 c d u h1 r1,Rg cs ds' us' h2 r2⟩
end
end
-- rows of things that nobody writes
section
variable {ob:Oid->Option Ob}
end
section
variable {n:Nat} {d:Option Nat} {f:Nat->AV} {ob:Oid->Option Ob}
end
-- results
section
variable {G:World->Prop} {w0 w:World} {ob:Oid->Option Ob} {σ:Oid->Option Loc} {K:Nat->Prop}
end
mutual
theorem Xq {R im:Nat->Prop} {w:World} (hR:∀ b,im b->R b):∀ (c d:AV) (u:Value),AV.unR R c d->AV.Rep (fun _=>none) im w c u->AV.Rep (fun _=>none) im w d u
 | .tree t xs,d,u,h,⟨A,c,l,e,hs⟩=>by
  have h:d=.ftr R t xs:=h;subst h;exact ⟨A,c,l,e,Am (fun b _ hb=>⟨hb,hR b hb⟩) hs⟩
 | .agg cs,d,u,⟨ds,e,h⟩,hr=>by
  subst e;obtain ⟨us,e,hr⟩:=hr;exact ⟨us,e,Oj hR cs ds us h hr⟩
 | .int ..,d,u,⟨_,e⟩,hr=>by subst e;exact hr
 | .bool ..,d,u,⟨_,e⟩,hr=>by subst e;exact hr
 | .str ..,d,u,⟨_,e⟩,hr=>by subst e;exact hr
 | .err ..,d,u,⟨h,e⟩,hr=>by first|(cases h;done)|(subst e;exact hr)
 | .nils,d,u,⟨_,e⟩,hr=>by subst e;exact hr
 | .any,d,u,⟨h,_⟩,_=>by cases h
 | .mtree ..,d,u,⟨h,_⟩,_=>by cases h
 | .ftr ..,d,u,⟨h,_⟩,_=>by cases h
 | .mp _,d,u,⟨h,_⟩,_=>by cases h
 | .tup _,d,u,⟨h,_⟩,_=>by cases h
 | .fn ..,d,u,⟨h,_⟩,_=>by cases h
 | .ref _,d,u,⟨h,_⟩,_=>by cases h
 | .own ..,d,u,⟨h,_⟩,_=>by cases h
 | .box ..,d,u,⟨h,_⟩,_=>by cases h
 | .elt ..,d,u,⟨h,_⟩,_=>by cases h
 | .sla ..,d,u,⟨h,_⟩,_=>by cases h
 | .telt ..,d,u,⟨h,_⟩,_=>by cases h
 | .giv ..,d,u,⟨h,_⟩,_=>by cases h
 | .abool ..,d,u,⟨h,_⟩,_=>by cases h
theorem Oj {R im:Nat->Prop} {w:World} (hR:∀ b,im b->R b):∀ (cs ds:List AV) (us:List Value),AV.unRL R cs ds->AV.RepL (fun _=>none) im w cs us->AV.RepL (fun _=>none) im w ds us
 | [],ds,us,h,hr=>by obtain rfl:ds=[]:=h;exact hr
 | c :: cs,ds,us,⟨d,ds',e,h1,h2⟩,hr=>by
  subst e;obtain ⟨u,us',e,r1,r2⟩:=hr;exact ⟨u,us',e,Xq hR c d u h1 r1,Oj hR cs ds' us' h2 r2⟩
end
section
variable {R:Nat->Prop} {z:Bool} {ob:Oid->Option Ob}
end
section
variable {P:Program} {G:World->Prop} {g k d:Nat} {gd:Option (Nat×Bool)} {xs:List X} {tl:List (Nat×AV)} {ol:List (Oid×Option Ob)} {bad:List (Nat×Nat)} {ra:List Rec} {da:List (List Oid)} {Kf:List (Nat×AV)->List (Oid×Option Ob)->Prop}
variable {fo:Opd} {ys:List Opd} {tys:List (List (Option Ty))} {F:FuncId} {caps:List AV} {rv:RV}
end
end
section
open Go.RowKit Go.Deep
theorem wr_ {G:World->Prop} {S:St} {K:St->Prop} (h:K S):∃ S',WeakG G S S'/\K S':=⟨S,WeakG.refl _,h⟩
def rC (x:Option (AC×List Res)):List Res:=x.elim [] (·.2)
theorem Px {x:Option (AC×List Res)} (h:x.isSome=true):x=some (mC x,rC x):=by
 cases x with
 | none=>cases h
 | some p=>rfl
section
variable {P:Program} [IsP P] {G:World->Prop} {g:FuncId} {fn:Func} {args:List AV} {r:RV}
theorem cO (hf:P.funcs[g]? =some fn) (h:awp P G (mC (Do P fn)) (fun e S=>∃ S',WeakG G S S'/\(e=.normal∨e=.ret)/\RetOK [] (rC (Do P fn)) S' r) ⟨Ah (tmL 0 args),Ag [],1⟩) (hfol:P.follows .mixedOrders=true:=by kernel_rfl) (hc:(Do P fn).isSome=true:=by kernel_rfl) (hn:Nat.ble args.length fn.ntmps=true:=by kernel_rfl):Dt P G g args r :=
 Q8 hfol hf (Px hc) rfl (Nat.le_of_ble_eq_true hn) rfl h
end
def gdB (gd:Option (Nat×Bool)) (f:Nat->AV):Bool :=
 match gd with
 | none=>true
 | some (s,b)=>match f s with
  | .bool c=>c==b
  | _=>false
theorem O7 {gd:Option (Nat×Bool)} {f:Nat->AV} (h:gdB gd f=true):Rs gd f:=by
 cases gd with
 | none=>trivial
 | some p =>
  obtain ⟨s,b⟩:=p;simp only [gdB] at h;split at h
  ·rename_i c hc;rw [beq_iff_eq] at h;subst h;exact Aai hc
  ·cases h
theorem D3 {gd:Option (Nat×Bool)} {f:Nat->AV} {n:Nat} {d:Option Nat} {q:Q} {ob:Oid->Option Ob} {r:Option Rec} (hg:gdB gd f=true) (h:Bq n ⟨d,none,q⟩ f ob=r):Bq n ⟨d,gd,q⟩ f ob=r:=by
 have h1:=O7 hg;cases gd with
 | none=>exact h
 | some p=>exact Aa6 h1 rfl h
section
variable {P:Program} {G:World->Prop} {g k d:Nat} {gd:Option (Nat×Bool)} {xs:List X} {tl:List (Nat×AV)} {ol:List (Oid×Option Ob)} {bad:List (Nat×Nat)} {ra:List Rec} {da:List (List Oid)} {Kf:List (Nat×AV)->List (Oid×Option Ob)->Prop}
variable {α β:Type} {x:Option α} {K:α->Option β} {r:β} {rv:α->RV} {args:List AV} {fo:Opd} {ys:List Opd} {tys:List (List (Option Ty))} {F:FuncId}
theorem map_some {γ δ:Type} {o:Option γ} {f:γ->δ} {b:δ} (h:o.map f=some b):∃ a,o=some a/\f a=b:=oms.1 h
theorem rcH (h:x.bind K=some r) (hc:∀ {y},x=some y->Dt P G F args (rv y))
  (h3:∀ y,K y=some r->XW P G g (k+1) xs ((d,((rv y).out (Dz ((d,0),g+k)) (ys.map (Opd.ev (Ah tl)))).1) :: tl) (((rv y).out (Dz ((d,0),g+k)) (ys.map (Opd.ev (Ah tl)))).2.reverseAux ol) Kf)
  (hA:(Ju (gnd (Ag ol) 8) (ys.map (Opd.ev (Ah tl)))).map (Hq tys)=some args:=by kernel_rfl) (hb:Ci P F=true:=by kernel_rfl) (hfo:fo.ev (Ah tl)=.fn F []:=by kernel_rfl)
  (hx:∀ y,D4 ((rv y).out (Dz ((d,0),g+k)) (ys.map (Opd.ev (Ah tl)))).2=true:=by intro _;rfl) (hni:∀ y,(rv y).noI=true:=by intro _;rfl) (hgd:gdB gd (Ah tl)=true:=by kernel_rfl) (hF:Nat.blt F mtd=true:=by kernel_rfl):XW P G g k (⟨some d,gd,.call fo ys tys⟩ :: xs) tl ol Kf:=by
 obtain ⟨y,hy,hK⟩:=Bk h;obtain ⟨args0,h1,hn⟩:=map_some hA;have hF':F<mtd:=Nat.le_of_ble_eq_true hF;exact Zs (caps:=[]) _ _ _ _ (O7 hgd) h1 (hc hy) hb (h3 y hK) (hfo:=hfo) (hz:=by simp only [Cg,List.map_nil,List.append_nil,List.nil_append,ite_self]) (hn:=hn) (hr:=rfl) (hF:=if_pos hF') (hx:=hx y) (hni:=hni y)
theorem dcH (h:x.bind K=some r) (hc:∀ {y},x=some y->Dt P G F args (rv y))
  (h3:∀ y,K y=some r->XD P G bad g (k+1) xs ((d,((rv y).out (Dz ((d,0),g+k)) (ys.map (Opd.ev (Ah tl)))).1) :: tl) (((rv y).out (Dz ((d,0),g+k)) (ys.map (Opd.ev (Ah tl)))).2.reverseAux ol) ((1,((rv y).out (Dz ((d,0),g+k)) (ys.map (Opd.ev (Ah tl)))).1,((rv y).out (Dz ((d,0),g+k)) (ys.map (Opd.ev (Ah tl)))).2) :: ra) ((rdX (Ah tl) (Ag ol) ⟨some d,gd,.call fo ys tys⟩) :: da) Kf)
  (hA:(Ju (gnd (only (rdX (Ah tl) (Ag ol) ⟨some d,gd,.call fo ys tys⟩) (Ag ol)) 8) (ys.map (Opd.ev (Ah tl)))).map (Hq tys)=some args:=by kernel_rfl) (hb:Ci P F=true:=by kernel_rfl) (hfo:fo.ev (Ah tl)=.fn F []:=by kernel_rfl)
  (hx:∀ y,D4 ((rv y).out (Dz ((d,0),g+k)) (ys.map (Opd.ev (Ah tl)))).2=true:=by intro _;rfl) (hni:∀ y,(rv y).noI=true:=by intro _;rfl) (hgd:gdB gd (Ah tl)=true:=by kernel_rfl) (hF:Nat.blt F mtd=true:=by kernel_rfl):XD P G bad g k (⟨some d,gd,.call fo ys tys⟩ :: xs) tl ol ra da Kf:=by
 obtain ⟨y,hy,hK⟩:=Bk h;obtain ⟨args0,h1,hn⟩:=map_some hA;have hF':F<mtd:=Nat.le_of_ble_eq_true hF;exact Aat (caps:=[]) _ _ _ _ (O7 hgd) h1 (hc hy) hb (h3 y hK) (hfo:=hfo) (hz:=by simp only [Cg,List.map_nil,List.append_nil,List.nil_append,ite_self]) (hn:=hn) (hr:=rfl) (hF:=if_pos hF') (hx:=hx y) (hni:=hni y)
variable {sz j:Nat} {c e:Opd}
theorem riH (t:Ty) {zs:List t.D} {K:t.D->Option β} (h:(zs[j]?).bind K=some r) (h3:∀ y,zs[j]? =some y->K y=some r->XW P G g (k+1) xs ((d,.telt (c.ev (Ah tl)).tag t y 0) :: tl) ol Kf) (hx:(c.ev (Ah tl)).un=.tree t zs:=by kernel_rfl) (hi:e.ev (Ah tl)=.int .i64 (j:Int):=by kernel_rfl) (hs:sz=t.size:=by rfl) (hgd:gdB gd (Ah tl)=true:=by kernel_rfl):XW P G g k (⟨some d,gd,.i (.idx sz c e)⟩ :: xs) tl ol Kf:=by
 obtain ⟨y,hy,hK⟩:=Bk h;exact rs0 _ (D3 hgd (Sa hx hi hs (Int.natCast_nonneg _) rfl hy rfl)) (h3 y hy hK)
theorem diH (t:Ty) {zs:List t.D} {K:t.D->Option β} (h:(zs[j]?).bind K=some r) (h3:∀ y,zs[j]? =some y->K y=some r->XD P G bad g (k+1) xs ((d,.telt (c.ev (Ah tl)).tag t y 0) :: tl) ol ((0,.telt (c.ev (Ah tl)).tag t y 0,[]) :: ra) ((rdX (Ah tl) (Ag ol) ⟨some d,gd,.i (.idx sz c e)⟩) :: da) Kf) (hx:(c.ev (Ah tl)).un=.tree t zs:=by kernel_rfl) (hi:e.ev (Ah tl)=.int .i64 (j:Int):=by kernel_rfl) (hs:sz=t.size:=by rfl) (hgd:gdB gd (Ah tl)=true:=by kernel_rfl):XD P G bad g k (⟨some d,gd,.i (.idx sz c e)⟩ :: xs) tl ol ra da Kf:=by
 obtain ⟨y,hy,hK⟩:=Bk h;exact ds0 _ (D3 hgd (Sa hx hi hs (Int.natCast_nonneg _) rfl hy rfl)) (h3 y hy hK)
theorem raH {M:Option β} (h:og (j+1<4611686018427387904) M=some r) (h3:M=some r->XW P G g (k+1) xs ((d,.int .i64 ((j+1:Nat):Int)) :: tl) ol Kf) (hx:c.ev (Ah tl)=.int .i64 (j:Int):=by kernel_rfl) (hy:e.ev (Ah tl)=.int .i64 1:=by kernel_rfl) (hgd:gdB gd (Ah tl)=true:=by kernel_rfl):XW P G g k (⟨some d,gd,.i (.bin .add c e)⟩ :: xs) tl ol Kf:=by
 obtain ⟨hg,hK⟩:=En h;exact rs0 _ (D3 hgd (Aaj hx hy hg)) (h3 hK)
variable {t:Bool} {A B:Option β}
theorem kQ {y z:AC} {R:AE->St->Prop} {S:St} (h:cond t A B=some r) (h1:t=true->A=some r->awp P G y R S) (h2:t=false->B=some r->awp P G z R S) (hc:c.ev S.tm=.bool t:=by kernel_rfl):awp P G (.cond c y z) R S:=by
 rcases Df h with ⟨q,h⟩|⟨q,h⟩
 ·exact R7 q (h1 q h) hc
 ·exact Rw q (h2 q h) hc
theorem kR (h:cond t A B=some r) (s:Nat) (h1:t=true->A=some r->XW P G g k xs ((s,.bool true) :: tl) ol Kf) (h2:t=false->B=some r->XW P G g k xs ((s,.bool false) :: tl) ol Kf) (hd:Ah tl s=.bool t:=by kernel_rfl):XW P G g k xs tl ol Kf:=by
 rcases Df h with ⟨q,h⟩|⟨q,h⟩
 ·exact rq s q (h1 q h) hd
 ·exact rq s q (h2 q h) hd
end
section
variable {G:World->Prop} {α β:Type} {a r:α}
theorem jO {k:α->Option β} {x v:β} {c:Ctl α β} (h:some (Ctl.out x)=some c) (hn:Ctl.then k c=some v):some x=some v:=by
 cases h;exact hn
variable {tl0 tl:List (Nat×AV)} {ol0:List (Oid×Option Ob)} {ol:List (Oid×Ob)} {g0 g:Nat} {l:List (Oid×Oid)} {T:Prop}
def Lr (_l:List (Oid×Oid)) (T:Prop):Prop:=T
theorem jE0 (h1:(tl.map fun p=>Ah tl0 p.1)=tl.map fun p=>p.2.ren (A8 l):=by kernel_rfl) (h2:Lo ol0 (A8 l) ol:=by exact J1 (by kernel_rfl)) (h3:Wb l tl ol g=true:=by kernel_rfl):Lr l (WeakG G ⟨Ah tl0,Ag ol0,g0⟩ ⟨Ah tl,Ag (Bf ol),g⟩):=Av l h1 h2 h3
theorem jE (l:List (Oid×Oid)) (k:Lr l T:=by cases h;exact jE0):T:=k
theorem jC0 {F:α->St} (j:⟨Ah tl,Ag (Bf ol),g⟩=F a:=by exact rfl) (h1:(tl.map fun p=>Ah tl0 p.1)=tl.map fun p=>p.2.ren (A8 l):=by kernel_rfl) (h2:Lo ol0 (A8 l) ol:=by exact J1 (by kernel_rfl)) (h3:Wb l tl ol g=true:=by kernel_rfl):Lr l (∃ t,(Ctl.next a:Ctl α β)=.next t/\WeakG G ⟨Ah tl0,Ag ol0,g0⟩ (F t)):=⟨_,rfl,j▸Av l h1 h2 h3⟩
theorem jC (l:List (Oid×Oid)) (k:Lr l T:=by cases h;exact jC0):T:=k
theorem jL0 {F:α->St} {k:α->Option β} {v:β} (hn:Ctl.then k (Ctl.next a)=some v) (j:⟨Ah tl,Ag (Bf ol),g⟩=F a:=by exact rfl) (h1:(tl.map fun p=>Ah tl0 p.1)=tl.map fun p=>p.2.ren (A8 l):=by kernel_rfl) (h2:Lo ol0 (A8 l) ol:=by exact J1 (by kernel_rfl)) (h3:Wb l tl ol g=true:=by kernel_rfl):Lr l (∃ t,WeakG G ⟨Ah tl0,Ag ol0,g0⟩ (F t)/\k t=some v):=⟨_,j▸Av l h1 h2 h3,hn⟩
theorem jL (l:List (Oid×Oid)) (k:Lr l T:=by cases h;exact jL0 (by assumption)):T:=k
theorem jLw {S:St} {F:α->St} {k:α->Option β} {v:β} (hn:Ctl.then k (Ctl.next a)=some v) (w:WeakG G S (F a)):∃ t,WeakG G S (F t)/\k t=some v:=⟨_,w,hn⟩
def scL:List RL->List AV
 | []=>[]
 | .sc c :: r=>c :: scL r
 | _ :: r=>.any :: scL r
def scP:List (Bool×List RL)->List AV
 | []=>[]
 | (b,ls) :: r=>(if b then .agg (scL ls) else (scL ls).headD .any) :: scP r
def AV.sc1:AV->Bool
 | .int .. | .bool .. | .str .. | .nils | .err ..=>true
 | _=>false
def W8:List RL->Bool
 | []=>true
 | .sc c :: r=>c.sc1&&W8 r
 | _ :: _=>false
def scB:List (Bool×List RL)->Bool
 | []=>true
 | (b,ls) :: r=>(W8 ls&&(b||ls.length==1))&&scB r
theorem N9 {ob:Oid->Option Ob} {c:AV} (h:c.sc1=true):Hs ob c=some (.sc c):=by
 cases c <;> first|rfl|cases h
theorem Md {vs:List Value} {ob:Oid->Option Ob}:∀ {ls:List RL},W8 ls=true->LeavesR vs ob (scL ls) ls
 | [],_=>rfl
 | .sc c :: r,h=>by
  simp only [W8,Bool.and_eq_true] at h;exact ⟨_,_,rfl,Aaa (N9 h.1),Md h.2⟩
 | .new .. :: _,h=>by cases h
 | .newM .. :: _,h=>by cases h
 | .arg .. :: _,h=>by cases h
 | .argS .. :: _,h=>by cases h
 | .frz _ :: _,h=>by cases h
 | .imm _ :: _,h=>by cases h
theorem Kr {vs:List Value} {ob:Oid->Option Ob}:∀ {ps:List (Bool×List RL)},scB ps=true->PartsR vs ob (scP ps) ps
 | [],_=>rfl
 | (b,ls) :: r,h=>by
  simp only [scB,Bool.and_eq_true,Bool.or_eq_true,beq_iff_eq] at h;obtain ⟨⟨h1,h2⟩,h3⟩:=h;cases b with
  | true=>exact Zg (Md h1) (Kr h3)
  | false =>
   have h2:=h2.resolve_left (by decide)
   match ls,h1,h2 with
   | [.sc c],h1,_ =>
    simp only [W8,Bool.and_eq_true] at h1;have h1:c.sc1=true:=h1.1;refine J0 ?_ (Aaa (N9 h1)) (Kr h3);show c.one=true;cases c <;> first|rfl|cases h1
   | [.new ..],h1,_=>cases h1
   | [.newM ..],h1,_=>cases h1
   | [.arg ..],h1,_=>cases h1
   | [.argS ..],h1,_=>cases h1
   | [.frz _],h1,_=>cases h1
   | [.imm _],h1,_=>cases h1
theorem jR {rs:List Res} {f:Nat->AV} {ob:Oid->Option Ob} {g:Nat} {rv:α->RV} {vs:List Value} {e:AE} (h:some a=some r) (avs:List AV) (h2:PartsR vs ob avs (rv a).ps) (he:e=.normal∨e=.ret:=by simp) (h1:Res.evL f ob rs=some avs:=by kernel_rfl) (h3:ndB (Lk ob (Hj avs))=true:=by kernel_rfl) (h4:(rv a).tup=decide (rs.length≠1):=by kernel_rfl):∃ S',WeakG G ⟨f,ob,g⟩ S'/\(e=.normal∨e=.ret)/\RetOK vs rs S' (rv r):=by
 cases h;exact Aav avs h2 he h1 h3 h4
theorem jS {rs:List Res} {f:Nat->AV} {ob:Oid->Option Ob} {g:Nat} {rv:α->RV} {vs:List Value} {e:AE} (h:some a=some r) (he:e=.normal∨e=.ret:=by simp) (h1:Res.evL f ob rs=some (scP (rv a).ps):=by kernel_rfl) (h2:scB (rv a).ps=true:=by kernel_rfl) (h3:ndB (Lk ob (Hj (scP (rv a).ps)))=true:=by kernel_rfl) (h4:(rv a).tup=decide (rs.length≠1):=by kernel_rfl):∃ S',WeakG G ⟨f,ob,g⟩ S'/\(e=.normal∨e=.ret)/\RetOK vs rs S' (rv r):=by
 cases h;exact Aav _ (Kr h2) he h1 h3 h4
end
abbrev sT (tl:List (Nat×AV)) (ol:List (Oid×Ob)):St:=⟨Ah tl,Ag (Bf ol),2⟩
section
variable {P:Program} {G:World->Prop} {σ τ β ρ:Type} {x y:AC} {R:AE->St->Prop} {S:St}
theorem sqF {A:Option τ} {k:τ->Option β} {r:β} (h:A.bind k=some r) (F:τ->St) (h1:∀ t,A=some t->awp P G x (Da (fun S'=>WeakG G S' (F t)) R) S) (h2:∀ t,k t=some r->awp P G y R (F t)):awp P G (.seq x y) R S:=by
 refine Wc h (fun t S''=>S''=F t) (fun t ht=>Bl (fun e S' hq=>?_) (h1 t ht)) fun t S'' e hk=>e▸h2 t hk
 cases e with
 | normal=>exact ⟨_,hq,rfl⟩
 | exit id=>exact hq
 | ret=>exact hq
theorem sqC {A:Option (Ctl τ β)} {k:τ->Option β} {r:β} (h:Ln A k=some r) (F:τ->St) (h1:∀ v,A=some v->Ctl.then k v=some r->awp P G x (Da (fun S'=>∃ t,v=.next t/\WeakG G S' (F t)) R) S) (h2:∀ t,k t=some r->awp P G y R (F t)):awp P G (.seq x y) R S:=by
 refine Wp h (fun t S''=>S''=F t) (fun v hv hk=>Bl (fun e S' hq=>?_) (h1 v hv hk)) fun t S'' e hk=>e▸h2 t hk
 cases e with
 | normal=>obtain ⟨t,ht,hw⟩:=hq;exact ⟨t,_,ht,hw,rfl⟩
 | exit id=>exact hq
 | ret=>exact hq
theorem lpF {body:σ->Option (Ctl σ ρ)} {fuel:Nat} {s0:σ} {v:ρ} (h:Ba body fuel s0=some v) (F:σ->St) (w:WeakG G S (F s0))
  (h1:∀ n s c,body s=some c->Ctl.then (Ba body n) c=some v->awp P G x (Da (fun S2=>∃ s',WeakG G S2 (F s')/\Ba body n s'=some v) R) (F s)):awp P G (.loop x) R S:=by
 refine Uy h (fun s S=>S=F s) ⟨_,w,rfl⟩ fun n s S1 c e hc hn=>e▸Bl (fun e S2 hq=>?_) (h1 n s c hc hn)
 cases e with
 | normal=>obtain ⟨s',hw,hl⟩:=hq;exact ⟨s',_,hw,rfl,hl⟩
 | exit id=>exact hq
 | ret=>exact hq
end
theorem skW {P:Program} {G:World->Prop} {R:AE->St->Prop} {S:St} {K:St->Prop} (h:K S):awp P G .skip (Da (fun S'=>∃ S'',WeakG G S' S''/\K S'') R) S:=Bd (tn_ (wr_ h))
theorem rnW {P:Program} {G:World->Prop} {R:AE->St->Prop} {g k g':Nat} {tl:List (Nat×AV)} {ol:List (Oid×Option Ob)} {K:St->Prop} (h:K ⟨Ah tl,Ag ol,g'⟩):XW P G g k [] tl ol (fun tl' ol'=>Da (fun S'=>∃ S'',WeakG G S' S''/\K S'') R .normal ⟨Ah tl',Ag ol',g'⟩):=Bi (tn_ (wr_ h))
theorem lxT {P:Program} {G:World->Prop} {R:AE->St->Prop} {S:St} {i:Nat} {K K1 K2:St->Prop} (h:K S):awp P G (.exit i) (Da K1 (Da K2 (D2 i (Da K R)))) S:=Gh (te_ (te_ (be_ (tn_ h))))
def AV.setL (m:Nat):AV->AV
 | .own i t o _=>.own i t o m
 | v=>v
theorem wL {G:World->Prop} {tl:List (Nat×AV)} {ol:List (Oid×Option Ob)} {g:Nat} (s:Nat) {n m:Nat} (h:n=m) (hs:Ah tl s=(Ah tl s).setL n:=by kernel_rfl):WeakG G ⟨Ah tl,Ag ol,g⟩ ⟨Ah ((s,(Ah tl s).setL m) :: tl),Ag ol,g⟩ :=
 Xj s (Ah tl s) _ rfl (by rw [← h];exact hs)
section
variable {P:Program} {G:World->Prop} {g k d:Nat} {gd:Option (Nat×Bool)} {xs:List X} {tl:List (Nat×AV)} {ol:List (Oid×Option Ob)} {bad:List (Nat×Nat)} {ra:List Rec} {da:List (List Oid)} {Kf:List (Nat×AV)->List (Oid×Option Ob)->Prop}
variable {α β:Type} {x:Option α} {K:α->Option β} {r:β} {args:List AV} {fo:Opd} {ys:List Opd} {tys:List (List (Option Ty))} {F:FuncId}
variable {ol0:List (Oid×Ob)} {v0:α->AV} {us:α->List (Oid×Ob)}
theorem rcM (h:x.bind K=some r) (l:List (Oid×Oid)) (zs:List AV) (hc:∀ {y},x=some y->He P G F args ol0 (v0 y) (us y)) (hR:Lo ol (A8 l) ol0) (h1:H0 (A8 l) (Uv ((nmL ol0).map (A8 l)) (Ag ol)) zs args) (h4:∀ j∈nmL ol0,Reached zs (Ag ol) (A8 l j))
  (h3:∀ y,K y=some r->XW P G g (k+1) xs ((d,(v0 y).ren (Bc (A8 l) ((d,0),g+k))) :: tl) ((Bf (Hv (Bc (A8 l) ((d,0),g+k)) (us y))++Fs (A8 l) ol0)++ol) Kf)
  (hz:ys.map (Opd.ev (Ah tl))=zs:=by kernel_rfl) (hB:∀ y,Tn l ol0 (us y) (g+k) ol=true:=by intro _;kernel_rfl) (hb:Ci P F=true:=by kernel_rfl) (hfo:fo.ev (Ah tl)=.fn F []:=by kernel_rfl) (hgd:gdB gd (Ah tl)=true:=by kernel_rfl) (hF:Nat.blt F mtd=true:=by kernel_rfl):XW P G g k (⟨some d,gd,.call fo ys tys⟩ :: xs) tl ol Kf:=by
 obtain ⟨y,hy,hK⟩:=Bk h;exact Nd (caps:=[]) _ _ l zs (O7 hgd) (hc hy) hb hR h1 h4 (h3 y hK) (hfo:=hfo) (hz:=by rw [List.map_nil,List.append_nil];exact hz) (hB:=hB y) (hF:=Nat.le_of_ble_eq_true hF) (hv:=rfl) (hu:=rfl)
theorem aR {θ:Oid->Oid} {ob:Oid->Option Ob}:∀ {zs args:List AV},zs=args.map (AV.ren θ)->H0 θ ob zs args
 | _,[],h=>by subst h;exact .nil
 | _,_ :: _,h=>by subst h;exact .cons (.ren rfl) (aR rfl)
end
end
section
open Go.RowKit Go.Deep
abbrev sI:Ty:=.slice .int
abbrev Y1:Ty:=.pair sI sI
abbrev Y2:Ty:=.pair .int Y1
abbrev Y3:Ty:=.pair .int (.pair .int .int)
abbrev Y4:Ty:=.pair .int Y2
abbrev T4:Ty:=.pair .int Y3
abbrev T5:Ty:=.pair .int (.pair .int Y3)
section
variable {P:Program} {G:World->Prop} {g k d:Nat} {gd:Option (Nat×Bool)} {q:Q} {xs:List X} {tl:List (Nat×AV)} {ol:List (Oid×Option Ob)} {bad:List (Nat×Nat)} {ra:List Rec} {da:List (List Oid)} {Kf:List (Nat×AV)->List (Oid×Option Ob)->Prop}
theorem dz0 (v:AV) (h3:XD P G bad g (k+1) xs ((d,v) :: tl) ol ((0,v,[]) :: ra) ((rdX (Ah tl) (Ag ol) ⟨some d,gd,q⟩) :: da) Kf) (h:Bq (g+k) ⟨some d,gd,q⟩ (Ah tl) (only (rdX (Ah tl) (Ag ol) ⟨some d,gd,q⟩) (Ag ol))=some (0,v,[]):=by kernel_rfl):XD P G bad g k (⟨some d,gd,q⟩ :: xs) tl ol ra da Kf:=ds0 v h h3
theorem zc {fo:Opd} {ys:List Opd} {tys:List (List (Option Ty))} {F:FuncId} {rv:RV} {args:List AV} (v:AV) (us:List (Oid×Option Ob)) (zs:List AV) (hc:Dt P G F args rv) (h3:XW P G g (k+1) xs ((d,v) :: tl) (us.reverseAux ol) Kf) (h1:Ju (gnd (Ag ol) 8) zs=some zs:=by kernel_rfl) (hb:Ci P F=true:=by kernel_rfl) (hfo:fo.ev (Ah tl)=.fn F []:=by kernel_rfl) (hz:ys.map (Opd.ev (Ah tl))=zs:=by kernel_rfl) (hn:Hq tys zs=args:=by kernel_rfl) (hr:rv.out (Dz ((d,0),g+k)) zs=(v,us):=by kernel_rfl) (hx:D4 us=true:=by rfl) (hni:rv.noI=true:=by kernel_rfl) (hF:Nat.blt F mtd=true:=by kernel_rfl):XW P G g k (⟨some d,none,.call fo ys tys⟩ :: xs) tl ol Kf:=Zs (caps:=[]) (args0:=zs) v us zs args trivial h1 hc hb h3 (hfo:=hfo) (hz:=by simpa only [Cg,List.map_nil,List.append_nil,List.nil_append,ite_self] using hz) (hn:=hn) (hr:=hr) (hF:=if_pos (Nat.le_of_ble_eq_true hF)) (hx:=hx) (hni:=hni)
end
theorem kr {p:Prop} (h:p:=by kernel_rfl):p:=h
abbrev an (n:Nat):AV:=.int .i64 n
abbrev tI (x:List Int):AV:=.tree .int x
abbrev oI (a b n:Nat):AV:=.own (oi a b) .int 0 n
abbrev xm (d s:Nat):X:=⟨some d,none,.i (.mov (.tmp s))⟩
abbrev xl (d s:Nat):X:=⟨some d,none,.i (.ld true 1 (.tmp s))⟩
abbrev xf (d k s:Nat):X:=⟨some d,none,.i (.fld k (.tmp s))⟩
abbrev xn1 (d s:Nat):X:=⟨some d,none,.i (.len (.tmp s))⟩
section
variable {P:Program} {G:World->Prop} {g k d:Nat} {gd:Option (Nat×Bool)} {q:Q} {xs:List X} {tl:List (Nat×AV)} {ol:List (Oid×Option Ob)} {bad:List (Nat×Nat)} {ra:List Rec} {da:List (List Oid)} {Kf:List (Nat×AV)->List (Oid×Option Ob)->Prop}
theorem zO {sz:Nat} {x i:Opd} (o:Oid) (t:Ty) (len:Nat) {j:Nat} (hl:j<len) (h3:XW P G g (k+1) xs ((d,.elt o j 0) :: tl) ol Kf) (hx:x.ev (Ah tl)=.own o t 0 len:=by kernel_rfl) (hi:i.ev (Ah tl)=.int .i64 (j:Int):=by kernel_rfl) (hs:sz=t.size:=by rfl) (hgd:gdB gd (Ah tl)=true:=by kernel_rfl):XW P G g k (⟨some d,gd,.i (.idx sz x i)⟩ :: xs) tl ol Kf:=rs0 _ (D3 hgd (R8 hx hi hs (Int.natCast_nonneg _) rfl hl)) h3
theorem dzO {sz:Nat} {x i:Opd} (o:Oid) (t:Ty) (len:Nat) {j:Nat} (hl:j<len) (h3:XD P G bad g (k+1) xs ((d,.elt o j 0) :: tl) ol ((0,.elt o j 0,[]) :: ra) ((rdX (Ah tl) (Ag ol) ⟨some d,gd,.i (.idx sz x i)⟩) :: da) Kf) (hx:x.ev (Ah tl)=.own o t 0 len:=by kernel_rfl) (hi:i.ev (Ah tl)=.int .i64 (j:Int):=by kernel_rfl) (hs:sz=t.size:=by rfl) (hgd:gdB gd (Ah tl)=true:=by kernel_rfl):XD P G bad g k (⟨some d,gd,.i (.idx sz x i)⟩ :: xs) tl ol ra da Kf:=ds0 _ (D3 hgd (R8 hx hi hs (Int.natCast_nonneg _) rfl hl)) h3
theorem zE {x:Opd} (i:Oid) {ws:List Int} {j:Nat} {z:Int} (hz:ws[j]? =some z) (h3:XW P G g (k+1) xs ((d,.int .i64 z) :: tl) ol Kf) (hx:x.ev (Ah tl)=.elt i j 0:=by kernel_rfl) (hob:Ag ol i=some (.arr 3 .int ws):=by kernel_rfl) (hgd:gdB gd (Ah tl)=true:=by kernel_rfl):XW P G g k (⟨some d,gd,.i (.ld true 1 x)⟩ :: xs) tl ol Kf:=rsl _ (D3 hgd (Wo (k:=0) (t:=.int) hx hob hz rfl)) h3
theorem dzE {x:Opd} (i:Oid) {ws:List Int} {j:Nat} {z:Int} (hz:ws[j]? =some z) (h3:XD P G bad g (k+1) xs ((d,.int .i64 z) :: tl) ol ((1,.int .i64 z,[]) :: ra) ((rdX (Ah tl) (Ag ol) ⟨some d,gd,.i (.ld true 1 x)⟩) :: da) Kf) (hx:x.ev (Ah tl)=.elt i j 0:=by kernel_rfl) (hob:only (rdX (Ah tl) (Ag ol) ⟨some d,gd,.i (.ld true 1 x)⟩) (Ag ol) i=some (.arr 3 .int ws):=by kernel_rfl) (hgd:gdB gd (Ah tl)=true:=by kernel_rfl):XD P G bad g k (⟨some d,gd,.i (.ld true 1 x)⟩ :: xs) tl ol ra da Kf:=dsl _ (D3 hgd (Wo (k:=0) (t:=.int) hx hob hz rfl)) h3
theorem zS {x y:Opd} (i:Oid) {ws:List Int} {j:Nat} {z:Int} (z1:Int) (hz:ws[j]? =some z) (h3:XW P G g (k+1) xs tl ((i,some (.arr 3 .int (ws.set j z1))) :: (i,none) :: ol) Kf) (hx:x.ev (Ah tl)=.elt i j 0:=by kernel_rfl) (hob:Ag ol i=some (.arr 3 .int ws):=by kernel_rfl) (hy:y.ev (Ah tl)=.int .i64 z1:=by kernel_rfl) (hgd:gdB gd (Ah tl)=true:=by kernel_rfl):XW P G g k (⟨none,gd,.st true 1 x y⟩ :: xs) tl ol Kf:=Aaq _ _ _ (D3 hgd (Zh (k:=0) (t:=.int) (cs:=[.int .i64 z1]) (x1:=z1) hx hob hz (by rw [hy];rfl) rfl)) h3
theorem zB {x y:Opd} {by_:Nat} (j q:Oid) (ws:List Int) (z:Int) (h:ws.length+1<=1073741824/\(ws.length+1)*by_<=140737488355328) (h3:XW P G g (k+1) xs ((d,.own (j.1,g+k) .int 0 (ws++[z]).length) :: tl) (((j.1,g+k),some (.arr 3 .int (ws++[z]))) :: (j,none) :: ol) Kf) (hx:x.ev (Ah tl)=.own j .int 0 ws.length:=by kernel_rfl) (hob:Ag ol j=some (.arr 3 .int ws):=by kernel_rfl) (hy:y.ev (Ah tl)=.own q .int 0 1:=by kernel_rfl) (hq:Ag ol q=some (.arr 3 .int [z]):=by kernel_rfl) (hgd:gdB gd (Ah tl)=true:=by kernel_rfl):XW P G g k (⟨some d,gd,.append 3 .int by_ x y⟩ :: xs) tl ol Kf:=rs2 _ _ _ _ (D3 hgd (Wf (t:=.int) (ys:=[z]) hx hob rfl hy (Aad hq rfl) rfl h)) h3
end
section
variable {n:Nat} {d:Option Nat} {f:Nat->AV} {ob:Oid->Option Ob}
theorem zi {sz:Nat} {x i:Opd} {t:Ty} {xs:List t.D} {y:t.D} {k:IntKind} {m:Int} {j:Nat} (h0:0<=m) (hy:xs[j]? =some y) (hx:(x.ev f).un=.tree t xs:=by kernel_rfl) (hi:i.ev f=.int k m:=by kernel_rfl) (hs:sz=t.size:=by rfl) (hj:m.toNat=j:=by rfl) {e:Option (Nat->Prop)} (he:(x.ev f).tag=e:=by kernel_rfl):Bq n ⟨d,none,.i (.idx sz x i)⟩ f ob=some (0,.telt e t y 0,[]):=Sa hx hi hs h0 hj hy he
theorem zo {sz:Nat} {x i:Opd} {t:Ty} {o:Oid} {len:Nat} {k:IntKind} {m:Int} {j:Nat} (h0:0<=m) (hl:j<len) (hx:x.ev f=.own o t 0 len:=by kernel_rfl) (hi:i.ev f=.int k m:=by kernel_rfl) (hs:sz=t.size:=by rfl) (hj:m.toNat=j:=by rfl):Bq n ⟨d,none,.i (.idx sz x i)⟩ f ob=some (0,.elt o j 0,[]):=R8 hx hi hs h0 hj hl
theorem zl {vs:List Value} {c:AV} {l:RL} (h:Hs ob c=some l:=by kernel_rfl):LeafR vs ob c l:=Aaa h
end
theorem zj {α:Type} {a b:α} (h:some a=some b):a=b:=osj h
end
section
open Go.RowKit Go.Deep
set_option maxRecDepth 4000
set_option maxHeartbeats 4800000
variable {aA aB:List Int} {bA bB bC:Int} {cA:Bool}
def Ce (a0:List Int) (a1:Int):Option Int :=
 cond (decide (wI (a1 - (a0.length:Int))<0))
 (some (-1))
 (some (wI (a1 - (a0.length:Int))))
def Cp (r:Int):RV:=⟨false,[(false,[.sc (.int .i64 r)])]⟩
theorem Ea (h:Ce aA bA=some bB):cK 12 [tI aA,ai bA] (Cp bB):=by
 exact cO Try.func12 (Ak (Ak (Ad (Ak (kQ h (fun _ h=>Ak (Ae (tr_ (jS h)))) fun _ h=>skW (Ak (Ae (jS h))))))))
def Dg (a0:List Int) (u0:Nat) (u1:List Int):Option (Ctl (Nat×List Int) (List Int)) :=
 cond (decide ((u0:Int)<(a0.length:Int)))
 ((a0[u0]?).bind fun x11 =>
 (u1[u0]?).bind fun x12 =>
 og (u0+1<4611686018427387904) <|
 some (Ctl.next (u0+1,u1.set u0 x11)))
 (some (Ctl.out u1))
def Dp (a0:List Int):Option (List Int) :=
 og (0<=(a0.length:Int)/\(a0.length:Int)<=(a0.length:Int)/\(a0.length:Int)<=1073741824/\(8:Int)*(a0.length:Int)<=140737488355328) <|
(Ba (fun s_:Nat×List Int=>Dg a0 s_.1 s_.2) 4611686018427387904 (0,List.replicate a0.length (0:Int))).bind fun u0 =>
some u0
def Cm (r:List Int):RV:=⟨false,[(false,[.new 3 .int r])]⟩
theorem Hx (h:Dp aA=some aB):cK 16 [tI aA] (Cm aB):=by
 refine cO Try.func16 (Ak (Ad (Ac 6 (rsT 2 ?_))));obtain ⟨g3,h⟩:=En h;refine rs1 (oI 7 4 aA.length) (oi 7 4) (.arr 3 .int (List.replicate aA.length (0:Int))) (Kn (t:=.int) (k:=.i64) (k':=.i64) (m:=(aA.length:Int)) (m':=(aA.length:Int)) kr kr g3 rfl) (rsT 1 (rnW (sqF h (fun u1=>sT [(3,oI 0 1 u1.length)] [(oi 0 1,.arr 3 .int u1)]) ?_ fun u1 h=>Ak (Ae (jR h [oI 0 1 u1.length] (J0 rfl (Io kr rfl) K0))))));intro _ h;refine Ak (Aj (lpF h (fun (u2,u0)=>sT [(0,tI aA),(3,oI 0 1 u0.length),(4,an u2)] [(oi 0 1,.arr 3 .int u0)]) ((wL 3 (List.length_replicate.symm:aA.length=(List.replicate aA.length (0:Int)).length)).trans (Av [(oi 0 1,oi 7 4)])) ?_));rintro n_ ⟨u2,u0⟩ c_ h hn6;refine Ad (Ak (kQ h (fun _ h=>skW (Ad (Aj (Ac 14 (rsT 4 (riH .int h fun x11 _ h=>rsT 1 ?_)))))) fun _ h=>lxT (have h:=jO h hn6;jE [])));obtain ⟨x12,e12,h⟩:=Bk h;refine zO (oi 0 1) .int u0.length (Bt e12) (zS (oi 0 1) (x11) e12 (Bi (bn_ (tn_ (wr_ (Ac 17 (rsT 1 (raH h fun h=>rsT 1 (Bi (tn_ ?_))))))))));obtain rfl:=zj h;exact jLw hn6 ((wL 3 (((rfl:u0.length=u0.length).trans List.length_set.symm):u0.length=(u0.set u2 x11).length)).trans (Av []))
def De (a0 a1:List Int) (u0:Nat):Option (Ctl Nat (Ctl Unit Bool)) :=
 cond (decide ((u0:Int)<(a0.length:Int)))
 ((a0[u0]?).bind fun x14 =>
 (a1[u0]?).bind fun x15 =>
 cond (x14 !=x15)
  (some (Ctl.out (Ctl.out false)))
  (og (u0+1<4611686018427387904) <|
  some (Ctl.next (u0+1))))
 (some (Ctl.out (Ctl.next ())))
def Cf (a0 a1:List Int):Option Bool :=
 cond ((a0.length:Int) !=(a1.length:Int))
 (some false)
 (Ln (Ba (fun s_:Nat=>De a0 a1 s_) 4611686018427387904 0) fun _ =>
 some true)
def Au (r:Bool):RV:=⟨false,[(false,[.sc (.bool r)])]⟩
theorem D0 (h:Cf aA aB=some cA):cK 21 [tI aA,tI aB] (Au cA):=by
 exact cO Try.func21 (Ak (Ad (Ak (kQ h (fun _ h=>Ak (Ae (tr_ (jS h)))) fun _ h=>skW (sqC h (fun _=>sT [] []) (fun _ h hk6=>Ak (Aj (lpF h (fun u0=>sT [(0,tI aA),(1,tI aB),(5,an u0)] []) (Av []) (fun n_ u0 c_ h hn8=>Ad (Ak (kQ h (fun _ h=>skW (Ad (Aj (Ad (Fb 15 (ds0 (tI aA) kr (ds0 (an u0) kr (diH .int h fun x14 _ h=>dsT 3 (diH .int h fun x15 _ h=>ds0 (ai x15) kr (ds0 (.bool (x14 !=x15)) kr (Yz (Gp kr) (tn_ (wr_ (kQ h (fun _ h=>Ak (Ae (br_ (tr_ (tr_ (br_ (tr_ (have h:=jO h hn8;(have h:=jO h hk6;jS h))))))))) fun _ h=>Bd (bn_ (tn_ (wr_ (Ac 18 (rsT 1 (raH h fun h=>rsT 1 (Bi (tn_ (jL []))))))))))))))))))))))) fun _ h=>lxT (have h:=jO h hn8;jC []))))))) fun _ h=>Ak (Ae (jS h)))))))
def Br (a0 a1 a2:Int):Option Bool :=
 (cond (decide (a1<=a0))
  (some (decide (a0<=a2)))
  (some false)).bind fun u0 =>
some u0
theorem Cb (h:Br bA bB bC=some cA):cK 27 [ai bA,ai bB,ai bC] (Au cA):=by
 exact cO Try.func27 (Ak (sqF h (fun u0=>sT [(6,.bool u0)] []) (fun _ h=>Ac 11 (rsT 4 (kR h 10 (fun _ h=>rsT 5 (Bi (tn_ (jE [])))) fun _ h=>rsT 5 (Bi (tn_ (jE [])))))) fun u0 h=>Ae (jS h)))
def E4 (a0:List Int) (a1 a2:Int) (u0:Nat):Option (Ctl Nat (Ctl Unit Bool)) :=
 cond (decide ((u0:Int)<(a0.length:Int)))
 ((a0[u0]?).bind fun x10 =>
 (Br x10 a1 a2).bind fun y12 =>
 cond (!y12)
  (some (Ctl.out (Ctl.out false)))
  (og (u0+1<4611686018427387904) <|
  some (Ctl.next (u0+1))))
 (some (Ctl.out (Ctl.next ())))
def Cs (a0:List Int) (a1 a2:Int):Option Bool :=
 Ln (Ba (fun s_:Nat=>E4 a0 a1 a2 s_) 4611686018427387904 0) fun _ =>
some true
theorem Er (h:Cs aA bA bB=some cA):cK 28 [tI aA,ai bA,ai bB] (Au cA):=by
 exact cO Try.func28 (Ak (sqC h (fun _=>sT [] []) (fun _ h hk2=>Ak (Aj (lpF h (fun u0=>sT [(1,ai bA),(2,ai bB),(9,tI aA),(10,an aA.length),(11,an u0)] []) (Av []) (fun n_ u0 c_ h hn4=>Ak (Ad (kQ h (fun _ h=>skW (Ad (Aj (Ad (Ac 6 (riH .int h fun x10 _ h=>rsT 2 (rnW (Ad (Ac 11 (rsT 3 (rcH h Cb fun y12 h=>rsT 1 (rnW (kQ h (fun _ h=>Ak (Ae (br_ (tr_ (tr_ (br_ (tr_ (have h:=jO h hn4;(have h:=jO h hk2;jS h))))))))) fun _ h=>Bd (bn_ (tn_ (wr_ (Ac 13 (raH h fun h=>rsT 1 (Bi (tn_ (jL []))))))))))))))))))))) fun _ h=>lxT (have h:=jO h hn4;jC []))))))) fun _ h=>Ak (Ae (jS h))))
def Bn (a0 a1 a2:Int):Option Bool :=
 (cond (decide (a1<=a0))
  (some (decide (a0<=a2)))
  (some false)).bind fun u0 =>
some u0
theorem Co (h:Bn bA bB bC=some cA):cK 34 [ai bA,ai bB,ai bC] (Au cA):=by
 exact cO Try.func34 (Ak (sqF h (fun u0=>sT [(6,.bool u0)] []) (fun _ h=>Ac 11 (rsT 4 (kR h 10 (fun _ h=>rsT 5 (Bi (tn_ (jE [])))) fun _ h=>rsT 5 (Bi (tn_ (jE [])))))) fun u0 h=>Ae (jS h)))
end


section
open Go.RowKit Go.Deep
section
variable {σ:Oid->Option Loc} {im:Nat->Prop} {w:World}
end
section
variable {n:Nat} {d:Option Nat} {f:Nat->AV} {ob:Oid->Option Ob}
end
end
section
open Go.RowKit Go.Deep
end
section
open Go.RowKit Go.Deep
section
variable {n:Nat} {d:Option Nat} {f:Nat->AV} {ob:Oid->Option Ob}
end
end
section
open Go.RowKit Go.Deep
set_option maxRecDepth 4000
set_option maxHeartbeats 4800000
variable {bA bB bC bD:Int} {aA aB aC aD:List Int} {dA dB:List (Int×Int×(List Int)×List Int)} {eA:Int×Int×List Int×List Int} {cA:Bool}
def Eq (u2 u3:Int) (u0 u1:List Int) (a1:Int):Option Int :=
 (Ce u0 a1).bind fun y3 =>
cond (decide (y3<0))
 (some (-1))
 ((Ce u1 y3).bind fun y9 =>
 cond (decide (y9<0))
  (some (-1))
  (some y9))
theorem Mu (h:Eq bA bB aA aB bC=some bD):cK 26 [.agg [ai bA,ai bB,tI aA,tI aB],ai bC] (Cp bD):=by
 exact cO Try.func26 (Ak (Ad (Ac 8 (rsT 3 (rcH h Ea fun y3 h=>rsT 1 (rnW (Ad (Ak (kQ h (fun _ h=>Ak (Ae (tr_ (jS h)))) fun _ h=>skW (Ad (Ac 15 (rsT 3 (rcH h Ea fun y9 h=>rsT 1 (rnW (Ad (Ak (kQ h (fun _ h=>Ak (Ae (tr_ (jS h)))) fun _ h=>skW (Ak (Ae (jS h))))))))))))))))))))
def C1 (a0:List (Int×Int×(List Int)×List Int)) (u1:Int) (u0:Nat):Option (Ctl (Int×Nat) (Ctl Int Int)) :=
 cond (decide ((u0:Int)<(a0.length:Int)))
 ((a0[u0]?).bind fun x15 =>
 (Eq x15.1 x15.2.1 x15.2.2.1 x15.2.2.2 u1).bind fun y16 =>
 cond (decide (y16<0))
  (some (Ctl.out (Ctl.out (-1))))
  (og (u0+1<4611686018427387904) <|
  some (Ctl.next (y16,u0+1))))
 (some (Ctl.out (Ctl.next u1)))
def D7 (a0:List (Int×Int×(List Int)×List Int)) (a1:Int):Option Int :=
 cond (decide (wI (a1 - (a0.length:Int))<0))
 (some (-1))
 (Ln (Ba (fun s_:Int×Nat=>C1 a0 s_.1 s_.2) 4611686018427387904 (wI (a1 - (a0.length:Int)),0)) fun u0 =>
 some u0)
theorem Ls (h:D7 dA bA=some bB):cK 11 [.tree Y4 dA,ai bA] (Cp bB):=by
 refine cO Try.func11 (Ak (Ak (Ad (Ak (kQ h (fun _ h=>Ak (Ae (tr_ (jS h)))) fun _ h=>skW (sqC h (fun u0=>sT [(1,ai u0)] []) ?_ fun u0 h=>Ak (Ae (jS h))))))));intro _ h hk7;refine Ak (Aj (lpF h (fun (u1,u2)=>sT [(0,.tree Y4 dA),(1,ai u1),(5,an u2)] []) (Av []) ?_));rintro n_ ⟨u1,u2⟩ c_ h hn9;exact Ad (Ak (kQ h (fun _ h=>skW (Ad (Aj (Ad (Ac 13 (rsT 2 (riH Y4 h fun x15 _ h=>rsT 2 (rcH h Mu fun y16 h=>rsT 1 (rnW (Ak (kQ h (fun _ h=>Ak (Ae (br_ (tr_ (tr_ (br_ (tr_ (have h:=jO h hn9;(have h:=jO h hk7;jS h))))))))) fun _ h=>Bd (bn_ (tn_ (wr_ (Ac 18 (rsT 1 (raH h fun h=>rsT 1 (Bi (tn_ (jL [])))))))))))))))))))) fun _ h=>lxT (have h:=jO h hn9;jC [])))
def D1 (u3:Int) (u0:List (Int×Int×(List Int)×List Int)) (u1 u2:List Int) (a1:Int):Option Int :=
 (D7 u0 a1).bind fun y3 =>
cond (decide (y3<0))
 (some (-1))
 ((Ce u1 y3).bind fun y9 =>
 cond (decide (y9<0))
  (some (-1))
  ((Ce u2 y9).bind fun y15 =>
  cond (decide (y15<0))
   (some (-1))
   (some y15)))
theorem Lp (h:D1 bA dA aA aB bB=some bC):cK 4 [.agg [ai bA,.tree Y4 dA,tI aA,tI aB],ai bB] (Cp bC):=by
 exact cO Try.func4 (Ak (Ad (Ac 8 (rsT 3 (rcH h Ls fun y3 h=>rsT 1 (rnW (Ad (Ak (kQ h (fun _ h=>Ak (Ae (tr_ (jS h)))) fun _ h=>skW (Ad (Ac 15 (rsT 3 (rcH h Ea fun y9 h=>rsT 1 (rnW (Ad (Ak (kQ h (fun _ h=>Ak (Ae (tr_ (jS h)))) fun _ h=>skW (Ad (Ac 22 (rsT 3 (rcH h Ea fun y15 h=>rsT 1 (rnW (Ad (Ak (kQ h (fun _ h=>Ak (Ae (tr_ (jS h)))) fun _ h=>skW (Ak (Ae (jS h))))))))))))))))))))))))))))
def Ge (u0 u1:Int) (u2 u3:List Int):Option (Int×Int×List Int×List Int) :=
 (Dp u2).bind fun y6 =>
(Dp u3).bind fun y8 =>
some (u0,u1,y6,y8)
def L7 (r:Int×Int×List Int×List Int):RV:=⟨false,[(true,[.sc (.int .i64 r.1),.sc (.int .i64 r.2.1),.new 3 .int r.2.2.1,.new 3 .int r.2.2.2])]⟩
theorem Mf (h:Ge bA bB aA aB=some eA):cK 33 [.agg [ai bA,ai bB,tI aA,tI aB]] (L7 eA):=by
 exact cO Try.func33 (Ak (Ak (Ak (Ak (Ad (Ac 17 (rsT 2 (rcH h Hx fun y6 h=>rsB 2 (rnW (Ad (Ac 22 (rsT 2 (rcH h Hx fun y8 h=>rsB 2 (rnW (Ak (Ae (jR h [.agg [ai bA,ai bB,oI 192 14 y6.length,oI 256 19 y8.length]] (Zg (Pc zl (Pc zl (Pc (Io kr rfl) (Pc (Io kr rfl) Aaz)))) K0))))))))))))))))))
def Eo (u0 u1:Int) (u2 u3:List Int) (u4 u5:Int) (u6 u7:List Int):Option Bool :=
 cond (u0 !=u4)
 (some false)
 (cond (u1 !=u5)
  (some false)
  ((Cf u2 u6).bind fun y12 =>
  cond (!y12)
   (some false)
   ((Cf u3 u7).bind fun y17 =>
   cond (!y17)
    (some false)
    (some true))))
theorem Mi (h:Eo bA bB aA aB bC bD aC aD=some cA):cK 40 [.agg [ai bA,ai bB,tI aA,tI aB],.agg [ai bC,ai bD,tI aC,tI aD]] (Au cA):=by
 exact cO Try.func40 (Ak (Ad (Ak (kQ h (fun _ h=>Ak (Ae (tr_ (jS h)))) fun _ h=>skW (Ad (Ak (kQ h (fun _ h=>Ak (Ae (tr_ (jS h)))) fun _ h=>skW (Ad (Ad (Ac 20 (rsT 4 (rcH h D0 fun y12 h=>rsT 1 (rnW (kQ h (fun _ h=>Ak (Ae (tr_ (jS h)))) fun _ h=>skW (Ad (Ad (Ac 26 (rsT 4 (rcH h D0 fun y17 h=>rsT 1 (rnW (kQ h (fun _ h=>Ak (Ae (tr_ (jS h)))) fun _ h=>skW (Ak (Ae (jS h))))))))))))))))))))))))
def C0 (a0:List (Int×Int×(List Int)×List Int)) (a1:List (Int×Int×(List Int)×List Int)) (u0:Nat):Option (Ctl Nat (Ctl Unit Bool)) :=
 cond (decide ((u0:Int)<(a0.length:Int)))
 ((a0[u0]?).bind fun x14 =>
 (a1[u0]?).bind fun x15 =>
 (Eo x14.1 x14.2.1 x14.2.2.1 x14.2.2.2 x15.1 x15.2.1 x15.2.2.1 x15.2.2.2).bind fun y16 =>
 cond (!y16)
  (some (Ctl.out (Ctl.out false)))
  (og (u0+1<4611686018427387904) <|
  some (Ctl.next (u0+1))))
 (some (Ctl.out (Ctl.next ())))
def Ed (a0:List (Int×Int×(List Int)×List Int)) (a1:List (Int×Int×(List Int)×List Int)):Option Bool :=
 cond ((a0.length:Int) !=(a1.length:Int))
 (some false)
 (Ln (Ba (fun s_:Nat=>C0 a0 a1 s_) 4611686018427387904 0) fun _ =>
 some true)
theorem Lq (h:Ed dA dB=some cA):cK 20 [.tree Y4 dA,.tree Y4 dB] (Au cA):=by
 exact cO Try.func20 (Ak (Ad (Ak (kQ h (fun _ h=>Ak (Ae (tr_ (jS h)))) fun _ h=>skW (sqC h (fun _=>sT [] []) (fun _ h hk6=>Ak (Aj (lpF h (fun u0=>sT [(0,.tree Y4 dA),(1,.tree Y4 dB),(5,an u0)] []) (Av []) (fun n_ u0 c_ h hn8=>Ad (Ak (kQ h (fun _ h=>skW (Ad (Aj (Ad (Fb 16 (ds0 (.tree Y4 dA) kr (ds0 (an u0) kr (diH Y4 h fun x14 _ h=>dsT 3 (diH Y4 h fun x15 _ h=>ds0 (.agg [ai x15.1,ai x15.2.1,tI x15.2.2.1,tI x15.2.2.2]) kr (dcH h Mi fun y16 h=>ds0 (.bool (!y16)) kr (Yz (Gp kr) (tn_ (wr_ (kQ h (fun _ h=>Ak (Ae (br_ (tr_ (tr_ (br_ (tr_ (have h:=jO h hn8;(have h:=jO h hk6;jS h))))))))) fun _ h=>Bd (bn_ (tn_ (wr_ (Ac 19 (rsT 1 (raH h fun h=>rsT 1 (Bi (tn_ (jL []))))))))))))))))))))))) fun _ h=>lxT (have h:=jO h hn8;jC []))))))) fun _ h=>Ak (Ae (jS h)))))))
def Fm (u0:Int) (u1:List (Int×Int×(List Int)×List Int)) (u2 u3:List Int) (u4:Int) (u5:List (Int×Int×(List Int)×List Int)) (u6 u7:List Int):Option Bool :=
 cond (u0 !=u4)
 (some false)
 ((Ed u1 u5).bind fun y8 =>
 cond (!y8)
  (some false)
  ((Cf u2 u6).bind fun y13 =>
  cond (!y13)
   (some false)
   ((Cf u3 u7).bind fun y18 =>
   cond (!y18)
    (some false)
    (some true))))
theorem Ll (h:Fm bA dA aA aB bB dB aC aD=some cA):cK 8 [.agg [ai bA,.tree Y4 dA,tI aA,tI aB],.agg [ai bB,.tree Y4 dB,tI aC,tI aD]] (Au cA):=by
 exact cO Try.func8 (Ak (Ad (Ak (kQ h (fun _ h=>Ak (Ae (tr_ (jS h)))) fun _ h=>skW (Ad (Ad (Ac 15 (rsT 4 (rcH h Lq fun y8 h=>rsT 1 (rnW (kQ h (fun _ h=>Ak (Ae (tr_ (jS h)))) fun _ h=>skW (Ad (Ad (Ac 21 (rsT 4 (rcH h D0 fun y13 h=>rsT 1 (rnW (kQ h (fun _ h=>Ak (Ae (tr_ (jS h)))) fun _ h=>skW (Ad (Ad (Ac 27 (rsT 4 (rcH h D0 fun y18 h=>rsT 1 (rnW (kQ h (fun _ h=>Ak (Ae (tr_ (jS h)))) fun _ h=>skW (Ak (Ae (jS h))))))))))))))))))))))))))))
end


section
section
variable {α β σ ρ:Type}
theorem O1 {body:σ->Option (Ctl σ ρ)} {Post:ρ->Prop} (n:Nat) (I:Nat->σ->Prop)
  (hs:∀ i s,i<n->I i s->(∃ s',body s=some (.next s')/\I (i+1) s')∨∃ r,body s=some (.out r)/\Post r) (he:∀ s,I n s->∃ r,body s=some (.out r)/\Post r) :
  ∀ (F k:Nat) (s:σ),k<=n->n - k<F->I k s->∃ r,Ba body F s=some r/\Post r
 | 0,_,_,_,h,_=>by omega
 | F+1,k,s,hk,h,hi=>by
  have key:(∃ r,body s=some (.out r)/\Post r)->∃ r,Ba body (F+1) s=some r/\Post r:=by
   rintro ⟨r,h1,h2⟩;exact ⟨r,by simp only [Ba,h1,obs,Ctl.then],h2⟩
  rcases Nat.lt_or_ge k n with hlt|hge
  ·rcases hs k s hlt hi with ⟨s',h1,h2⟩|h
   ·obtain ⟨r,h3,h4⟩:=O1 n I hs he F (k+1) s' hlt oM h2;exact ⟨r,by simp only [Ba,h1,obs,Ctl.then];exact h3,h4⟩
   ·exact key h
  ·obtain rfl:k=n:=by omega
   exact key (he s hi)
theorem Ng {body:σ->Option (Ctl σ ρ)} {Post:ρ->Prop} (n:Nat) (I:Nat->σ->Prop) {F:Nat} (hn:n<F) {s0:σ} (h0:I 0 s0)
  (hs:∀ i s,i<n->I i s->(∃ s',body s=some (.next s')/\I (i+1) s')∨∃ r,body s=some (.out r)/\Post r) (he:∀ s,I n s->∃ r,body s=some (.out r)/\Post r):∃ r,Ba body F s0=some r/\Post r :=
 O1 n I hs he F 0 s0 (Nat.zero_le _) oM h0
theorem Q9 {body:σ->Option (Ctl σ ρ)} (n:Nat) (I:Nat->σ->Prop) {F:Nat} (hn:n<F) {s0:σ} (r:ρ) (h0:I 0 s0)
  (hs:∀ i s,i<n->I i s->(∃ s',body s=some (.next s')/\I (i+1) s')∨body s=some (.out r)) (he:∀ s,I n s->body s=some (.out r)):Ba body F s0=some r:=by
 obtain ⟨r',h1,rfl⟩:=Ng (Post:=fun r'=>r'=r) n I hn h0 (fun i s hi hI=>(hs i s hi hI).imp id fun h=>⟨r,h,rfl⟩) (fun s h=>⟨r,he s h,rfl⟩);exact h1
theorem Dd {body:σ->Option (Ctl σ ρ)} (n:Nat) (S:Nat->σ) {F:Nat} (hn:n<F) {s0:σ} (r:ρ) (h0:s0=S 0) (hs:∀ i,i<n->body (S i)=some (.next (S (i+1)))) (he:body (S n)=some (.out r)):Ba body F s0=some r:=by
 subst h0;refine Q9 n (fun i s=>s=S i) hn r rfl (fun i s hi e=>.inl ?_) (fun s e=>by subst e;exact he);subst e;exact ⟨_,hs i hi,rfl⟩
theorem H6 {body:Nat->Option (Ctl Nat ρ)} (xs:List α) (q:α->Bool) (good bad:ρ) {F:Nat} (hn:xs.length<F) (hs:∀ i x,xs[i]? =some x->body i=some (if q x then .next (i+1) else .out bad)) (he:body xs.length=some (.out good)):Ba body F 0=some (if xs.all q then good else bad):=by
 refine Q9 xs.length (fun i s=>s=i/\(xs.take i).all q=true) hn _ ⟨rfl,by simp⟩ ?_ ?_
 ·rintro i s hi ⟨hsi,hq⟩;subst s;have hx:=gEg hi;rw [hs i _ hx];cases hc:q xs[i]
  ·refine .inr ?_
   have:xs.all q=false:=by
    rw [Bool.eq_false_iff];intro ha;rw [List.all_eq_true] at ha;rw [ha _ (List.getElem_mem hi)] at hc;cases hc
   rw [this];rfl
  ·refine .inl ⟨i+1,rfl,rfl,?_⟩;rw [List.take_add_one,List.all_append,hq,hx];simp [hc]
 ·rintro s ⟨rfl,hq⟩;rw [List.take_length] at hq;rw [he,hq];rfl
theorem U0 {body:Nat×List β->Option (Ctl (Nat×List β) ρ)} (xs:List α) (f:α->β) (ys:List β) {F:Nat} (hn:xs.length<F) (r:ρ) (hs:∀ i x,xs[i]? =some x->body (i,ys++(xs.take i).map f)=some (.next (i+1,(ys++(xs.take i).map f)++[f x]))) (he:body (xs.length,ys++xs.map f)=some (.out r)):Ba body F (0,ys)=some r:=by
 refine Dd xs.length (fun i=>(i,ys++(xs.take i).map f)) hn r (by simp) (fun i hi=>?_) (by rw [List.take_length];exact he);have hx:=gEg hi;rw [hs i _ hx,List.take_add_one,hx];simp only [List.map_append,Option.toList,List.map_cons,List.map_nil,List.append_assoc]
theorem Vd {xs:List α} {d:α} {i:Nat} (h:i<xs.length):(xs.take i++List.replicate (xs.length - i) d)[i]? =some d:=by
 have h1:(xs.take i).length=i:=by rw [List.length_take];omega
 rw [List.getElem?_append_right oM,h1,Nat.sub_self,List.getElem?_replicate,if_pos oM]
theorem Vo {xs:List α} {d x:α} {i:Nat} (h:xs[i]? =some x):(xs.take i++List.replicate (xs.length - i) d).set i x=xs.take (i+1)++List.replicate (xs.length - (i+1)) d:=by
 have hi:=(gSi.1 h).1;have e:xs.length - i=(xs.length - (i+1))+1:=by omega
 rw [List.take_add_one,h,e,List.replicate_succ,List.set_append,if_neg (by simp;omega)];simp [Nat.min_eq_left (Nat.le_of_lt hi)]
theorem Vq {xs ys:List α} {i:Nat} (h:i<xs.length) (hl:ys.length=i):(ys++xs.drop i)[i]? =some xs[i]:=by
 rw [List.getElem?_append_right oM,hl];simp [List.getElem?_drop,h]
theorem Vp {xs ys:List α} {y:α} {i:Nat} (h:i<xs.length) (hl:ys.length=i):(ys++xs.drop i).set i y=(ys++[y])++xs.drop (i+1):=by
 rw [List.set_append,if_neg oM,hl,Nat.sub_self,List.drop_eq_getElem_cons h,List.append_assoc];rfl
end
theorem D8 {n:Int} (h1: -9223372036854775808<=n) (h2:n<9223372036854775808):wI n=n:=Go.IntWalk.i64_in _ oM
theorem B7 {p:Prop} [Decidable p] (h:p):decide p=true:=decide_eq_true h
theorem Bs {p:Prop} [Decidable p] (h:¬ p):decide p=false:=decide_eq_false h
end
section
def szV (v:Int) (n:Nat):Int:=if v<n then -1 else v - n
theorem J4 (xs:List Int) {v:Int} (hv:0<=v/\v<=1048576) (hx:xs.length<=9223372036854775807):Ce xs v=some (szV v xs.length):=by
 unfold Ce szV;rw [D8 oM oM];by_cases h:v<xs.length
 ·rw [B7 oM,if_pos h];rfl
 ·rw [Bs oM,if_neg h];rfl
theorem Ql (xs:List Int) (hx:xs.length<=1073741824):Dp xs=some xs:=by
 unfold Dp;rw [Be oM]
 have h:Ba (fun s_:Nat×List Int=>Dg xs s_.1 s_.2) 4611686018427387904 (0,List.replicate xs.length (0:Int))=some xs:=by
  refine Dd xs.length (fun i=>(i,xs.take i++List.replicate (xs.length - i) 0)) oM xs (by simp) (fun i hi=>?_) ?_
  ·have hx:=gEg hi
   try dsimp only
   unfold Dg;rw [B7 oM,cond_true,hx,obs,Vd hi,obs,Be oM,Vo hx]
  ·try dsimp only
   unfold Dg;rw [Bs oM,cond_false];simp
 rw [h];rfl
theorem J7 (xs:List Int) (hx:xs.length<=1073741824):Cf xs xs=some true:=by
 unfold Cf
 have h:Ba (fun s_:Nat=>De xs xs s_) 4611686018427387904 0=some (.next ()):=by
  refine Dd xs.length (fun i=>i) oM _ rfl (fun i hi=>?_) ?_
  ·have hx:=gEg hi
   try dsimp only
   unfold De;rw [B7 oM,cond_true,hx,obs,obs,bne_self_eq_false,cond_false,Be oM]
  ·try dsimp only
   unfold De;rw [Bs oM,cond_false]
 rw [h,bne_self_eq_false,cond_false];rfl
end
section
open Go.RowKit Go.Deep
set_option maxRecDepth 4000
set_option maxHeartbeats 4800000
variable {bA bB bC:Int} {fA:ByteArray} {cA:Bool} {gA:Int×Int} {aA aB:List Int} {dA:List (Int×Int×(List Int)×List Int)} {hA:List Int×List Int}
def Ep (u0 u1:Int) (u2:ByteArray):Option Bool :=
 (cond (!(u2.toList==(⟨#[]⟩:ByteArray).toList))
  (some true)
  ((Br u0 1 14).bind fun y5 =>
  some (!y5))).bind fun u3 =>
cond u3
 (some false)
 (cond (u0==1)
  ((Br u1 0 12).bind fun y13 =>
  some y13)
  ((cond (u0==7)
    (some (u0==7))
    (some (u0==13))).bind fun u4 =>
  cond u4
   ((Br u1 0 96).bind fun y19 =>
   some y19)
   (some (u1==0))))
theorem M7 (h:Ep bA bB fA=some cA):cK 41 [.agg [ai bA,ai bB,.str fA]] (Au cA):=by
 refine cO Try.func41 (Ak (Ad (sqF h (fun u3=>sT [(1,.box (oi 0 1) 0),(11,.bool u3)] [(oi 0 1,.cells 66 [ai bA,ai bB,.str fA])]) ?_ fun u3 h=>kQ h (fun _ h=>Ak (Ae (tr_ (jS h)))) fun _ h=>skW (Ad (Ak (Aj (Ak (kQ h (fun _ h=>Ad (Ac 10 (rsT 2 (rcH h Cb fun y13 h=>rsT 1 (rnW (Ae (br_ (tr_ (jS h))))))))) fun _ h=>sqF h (fun u4=>sT [(1,.box (oi 0 1) 0),(19,.bool u4)] [(oi 0 1,.cells 66 [ai bA,ai bB,.str fA])]) (fun _ h=>Ak (kQ h (fun _ h=>Bd (tn_ (jE []))) fun _ h=>Ac 10 (rsT 2 (Bi (tn_ (jE [])))))) fun u4 h=>kQ h (fun _ h=>Ad (Ac 6 (rsT 2 (rcH h Cb fun y19 h=>rsT 1 (rnW (Ae (br_ (tr_ (jS h))))))))) fun _ h=>Bd (bn_ (tn_ (wr_ (Ak (Ae (jS h))))))))))))));intro _ h;refine Ac 12 (rsT 4 ?_);rcases Df h with ⟨q4,h⟩|⟨q4,h⟩
 ·exact rq 6 q4 (rsT 5 (Bi (tn_ (jE [(oi 0 1,oi 1 1)]))))
 exact rq 6 q4 (rsT 2 (rcH h Cb fun y5 h=>rsT 2 (Bi (tn_ (jE [(oi 0 1,oi 1 1)])))))
def F8 (a0:Int):Option (Int×Int) :=
 cond (a0==2)
 (some (2,2))
 ((cond (a0==3)
   (some (a0==3))
   (some (a0==11))).bind fun u0 =>
 cond u0
  (some (1,2))
  ((cond (a0==4)
    (some (a0==4))
    (some (a0==12))).bind fun u1 =>
  cond u1
   (some (1,0))
   ((cond (a0==5)
     (some (a0==5))
     (some (a0==9))).bind fun u2 =>
   cond u2
    (some (2,1))
    ((cond (a0==6)
      (some (a0==6))
      (some (a0==10))).bind fun u3 =>
    cond u3
     (some (0,1))
     (some (1,1))))))
def Mp (r:Int×Int):RV:=⟨true,[(false,[.sc (.int .i64 r.1)]),(false,[.sc (.int .i64 r.2)])]⟩
theorem Mh (h:F8 bA=some gA):cK 42 [ai bA] (Mp gA):=by
 exact cO Try.func42 (Ak (Ad (Ak (Aj (Ak (kQ h (fun _ h=>Ak (Ae (br_ (tr_ (jS h))))) fun _ h=>sqF h (fun u0=>sT [(4,ai bA),(7,.bool u0)] []) (fun _ h=>Ak (kQ h (fun _ h=>Bd (tn_ (jE []))) fun _ h=>Ac 10 (rsT 2 (Bi (tn_ (jE [])))))) fun u0 h=>kQ h (fun _ h=>Ak (Ae (br_ (tr_ (jS h))))) fun _ h=>sqF h (fun u1=>sT [(4,ai bA),(10,.bool u1)] []) (fun _ h=>Ak (kQ h (fun _ h=>Bd (tn_ (jE []))) fun _ h=>Ac 6 (rsT 2 (Bi (tn_ (jE [])))))) fun u1 h=>kQ h (fun _ h=>Ak (Ae (br_ (tr_ (jS h))))) fun _ h=>sqF h (fun u2=>sT [(4,ai bA),(13,.bool u2)] []) (fun _ h=>Ak (kQ h (fun _ h=>Bd (tn_ (jE []))) fun _ h=>Ac 6 (rsT 2 (Bi (tn_ (jE [])))))) fun u2 h=>kQ h (fun _ h=>Ak (Ae (br_ (tr_ (jS h))))) fun _ h=>sqF h (fun u3=>sT [(16,.bool u3)] []) (fun _ h=>Ak (kQ h (fun _ h=>Bd (tn_ (jE []))) fun _ h=>Ac 6 (rsT 2 (Bi (tn_ (jE [])))))) fun u3 h=>kQ h (fun _ h=>Ak (Ae (br_ (tr_ (jS h))))) fun _ h=>Bd (bn_ (tn_ (wr_ (Ak (Ae (jS h))))))))))))
def Dm (u0 u3:Int) (u1 u2:List Int) (a1:Int):Option Bool :=
 ((Br u0 3 14).bind fun y4 =>
 cond (!y4)
  (some true)
  ((Ep u0 u3 (⟨#[]⟩:ByteArray)).bind fun y6 =>
  some (!y6))).bind fun u4 =>
cond u4
 (some false)
 ((F8 u0).bind fun y10 =>
 (cond ((u1.length:Int)==y10.1)
   (cond ((u2.length:Int)==y10.2)
    ((Cs u1 0 (wI (a1 - 1))).bind fun y14 =>
    cond y14
     ((Cs u2 0 (wI (a1 - 1))).bind fun y16 =>
     some y16)
     (some false))
    (some false))
   (some false)).bind fun u5 =>
 some u5)
theorem Ma (h:Dm bA bB aA aB bC=some cA):cK 29 [.agg [ai bA,ai bB,tI aA,tI aB],ai bC] (Au cA):=by
 refine cO Try.func29 (Ak (Ad (sqF h (fun u4=>sT [(1,ai bC),(2,.box (oi 0 1) 0),(19,.bool u4)] [(oi 0 1,.cells 45 [ai bA,ai bB,tI aA,tI aB])]) ?_ ?_)))
 ·intro _ h;refine Ac 16 (rsT 2 (rcH h Cb fun y4 h=>rsT 2 ?_));rcases Df h with ⟨q5,h⟩|⟨q5,h⟩
  ·exact rq 11 q5 (rsT 8 (Bi (tn_ (jE [(oi 0 1,oi 2 1)]))))
  exact rq 11 q5 (rsT 5 (rcH h M7 fun y6 h=>rsT 2 (Bi (tn_ (jE [(oi 0 1,oi 2 1)])))))
 intro u4 h;refine kQ h (fun _ h=>Ak (Ae (tr_ (jS h)))) fun _ h=>skW (Ad (Ac 10 (rsT 2 (rcH h Mh fun y10 h=>rsT 5 (rnW (sqF h (fun u5=>sT [(4,.bool u5)] []) ?_ fun u5 h=>Ae (jS h)))))))
 intro _ h;refine Ac 37 (rsT 6 (kR h 31 (fun _ h=>rsT 7 ?_) fun _ h=>rsT 21 (Bi (tn_ (jE [])))));rcases Df h with ⟨q13,h⟩|⟨q13,h⟩
 ·refine rq 38 q13 (rsT 4 (rcH h Er fun y14 h=>rsT 2 ?_));rcases Df h with ⟨q15,h⟩|⟨q15,h⟩
  ·exact rq 45 q15 (rsT 4 (rcH h Er fun y16 h=>rsT 2 (Bi (tn_ (jE [])))))
  exact rq 45 q15 (rsT 7 (Bi (tn_ (jE []))))
 exact rq 38 q13 (rsT 14 (Bi (tn_ (jE []))))
def Fz (u2:List Int) (u0:Nat) (u1:List Int):Option (Ctl (Nat×List Int) (List Int)) :=
 cond (decide ((u0:Int)<(u2.length:Int)))
 ((u2[u0]?).bind fun x14 =>
 (J5 u1 x14).bind fun x15 =>
 og (u0+1<4611686018427387904) <|
 some (Ctl.next (u0+1,u1.set x14.toNat (wI (x15+1)))))
 (some (Ctl.out u1))
def Fk (u2:List Int) (u0:Nat) (u1:List Int):Option (Ctl (Nat×List Int) (List Int)) :=
 cond (decide ((u0:Int)<(u2.length:Int)))
 ((u2[u0]?).bind fun x25 =>
 (J5 u1 x25).bind fun x26 =>
 og (u0+1<4611686018427387904) <|
 some (Ctl.next (u0+1,u1.set x25.toNat (wI (x26+1)))))
 (some (Ctl.out u1))
def Fj (x36:Int×Int×(List Int)×List Int) (u0:Nat) (u1:List Int):Option (Ctl (Nat×List Int) (List Int)) :=
 cond (decide ((u0:Int)<(x36.2.2.2.length:Int)))
 ((x36.2.2.2[u0]?).bind fun x45 =>
 (J5 u1 x45).bind fun x46 =>
 og (u0+1<4611686018427387904) <|
 some (Ctl.next (u0+1,u1.set x45.toNat (wI (x46+1)))))
 (some (Ctl.out u1))
def Fn (x36:Int×Int×(List Int)×List Int) (u2:List Int) (u0:Nat) (u1:List Int):Option (Ctl (Nat×List Int) (List Int×List Int)) :=
 cond (decide ((u0:Int)<(x36.2.2.1.length:Int)))
 ((x36.2.2.1[u0]?).bind fun x55 =>
 (J5 u1 x55).bind fun x56 =>
 og (u0+1<4611686018427387904) <|
 some (Ctl.next (u0+1,u1.set x55.toNat (wI (x56+1)))))
 (some (Ctl.out (u2,u1)))
def Ct (u1:List (Int×Int×(List Int)×List Int)) (u0:Nat) (u2 u3:List Int):Option (Ctl (Nat×List Int×List Int) (List Int×List Int)) :=
 cond (decide ((u0:Int)<(u1.length:Int)))
 (((u1[u0]?).bind fun x36 =>
  (Ba (fun s_:Nat×List Int=>Fj x36 s_.1 s_.2) 4611686018427387904 (0,u2)).bind fun u4 =>
  Ba (fun s_:Nat×List Int=>Fn x36 u4 s_.1 s_.2) 4611686018427387904 (0,u3)).bind fun (u5,u6) =>
 og (u0+1<4611686018427387904) <|
 some (Ctl.next (u0+1,u5,u6)))
 (some (Ctl.out (u2,u3)))
def Cw (u0:Int) (u1:List (Int×Int×(List Int)×List Int)) (u2 u3:List Int):Option (List Int×List Int) :=
 og (0<=u0/\u0<=u0/\u0<=1073741824/\(8:Int)*u0<=140737488355328) <|
og (0<=u0/\u0<=u0/\u0<=1073741824/\(8:Int)*u0<=140737488355328) <|
(Ba (fun s_:Nat×List Int=>Fz u2 s_.1 s_.2) 4611686018427387904 (0,List.replicate u0.toNat (0:Int))).bind fun u4 =>
(Ba (fun s_:Nat×List Int=>Fk u3 s_.1 s_.2) 4611686018427387904 (0,List.replicate u0.toNat (0:Int))).bind fun u5 =>
(Ba (fun s_:Nat×List Int×List Int=>Ct u1 s_.1 s_.2.1 s_.2.2) 4611686018427387904 (0,u4,u5)).bind fun (u6,u7) =>
some (u6,u7)
def Ks (r:List Int×List Int):RV:=⟨true,[(false,[.new 3 .int r.1]),(false,[.new 3 .int r.2])]⟩
theorem Km (h:Cw bA dA aA aB=some hA):cK 30 [.agg [ai bA,.tree Y4 dA,tI aA,tI aB]] (Ks hA):=by
 refine cO Try.func30 (Ak (Ad (Ac 8 (rsT 2 ?_))));obtain ⟨g3,h⟩:=En h;refine rs1 (oI 18 6 bA.toNat) (oi 18 6) (.arr 3 .int (List.replicate bA.toNat (0:Int))) (Kn (t:=.int) (k:=.i64) (k':=.i64) (m:=bA) (m':=bA) kr kr g3 rfl) (rsT 1 (rnW (Ad (Ac 12 (rsT 2 ?_)))));obtain ⟨g5,h⟩:=En h;refine rs1 (oI 21 10 bA.toNat) (oi 21 10) (.arr 3 .int (List.replicate bA.toNat (0:Int))) (Kn (t:=.int) (k:=.i64) (k':=.i64) (m:=bA) (m':=bA) kr kr g5 rfl) (rsT 1 (rnW (sqF h (fun u8=>sT [(1,.box (oi 0 1) 0),(4,oI 1 1 u8.length),(5,oI 2 1 ((List.replicate bA.toNat (0:Int)).length))] [(oi 0 1,.cells 29 [ai bA,.tree Y4 dA,tI aA,tI aB]),(oi 1 1,.arr 3 .int u8),(oi 2 1,.arr 3 .int (List.replicate bA.toNat (0:Int)))]) ?_ ?_)))
 ·intro _ h;refine Ak (Aj (lpF h (fun (ui,u2)=>sT [(1,.box (oi 0 1) 0),(4,oI 1 1 u2.length),(5,oI 2 1 ((List.replicate bA.toNat (0:Int)).length)),(23,tI aA),(24,an aA.length),(25,an ui)] [(oi 0 1,.cells 29 [ai bA,.tree Y4 dA,tI aA,tI aB]),(oi 1 1,.arr 3 .int u2),(oi 2 1,.arr 3 .int (List.replicate bA.toNat (0:Int)))]) ((wL 4 (List.length_replicate.symm:bA.toNat=(List.replicate bA.toNat (0:Int)).length)).trans ((wL 5 (List.length_replicate.symm:bA.toNat=(List.replicate bA.toNat (0:Int)).length)).trans (Av [(oi 0 1,oi 1 1),(oi 1 1,oi 18 6),(oi 2 1,oi 21 10)]))) ?_));rintro n_ ⟨ui,u2⟩ c_ h hn8;refine Ak (Ad (kQ h (fun _ h=>skW (Ad (Aj (Ad (Ac 6 (riH .int h fun x14 _ h=>rsT 2 (rnW (Ac 13 (rsT 2 ?_))))))))) fun _ h=>lxT (have h:=jO h hn8;jE [])));obtain ⟨x15,f15,h⟩:=Bk h;obtain ⟨p15,b15,e15⟩:=Fi f15;refine rs0 (.elt (oi 1 1) x14.toNat 0) (zo (t:=.int) (o:=oi 1 1) (len:=u2.length) (k:=.i64) (m:=x14) p15 (Bt e15)) (zE (oi 1 1) e15 (rsT 1 (rs0 (.elt (oi 1 1) x14.toNat 0) (zo (t:=.int) (o:=oi 1 1) (len:=u2.length) (k:=.i64) (m:=x14) p15 (Bt e15)) (zS (oi 1 1) (wI (x15+1)) e15 (Bi (bn_ (tn_ (wr_ (Ac 15 (raH h fun h=>rsT 1 (Bi (tn_ ?_))))))))))));obtain rfl:=zj h;exact jLw hn8 ((wL 4 (((rfl:u2.length=u2.length).trans List.length_set.symm):u2.length=(u2.set x14.toNat (wI (x15+1))).length)).trans (Av []))
 intro u8 h;refine sqF h (fun ue=>sT [(1,.box (oi 0 1) 0),(4,oI 1 1 u8.length),(5,oI 2 1 ue.length)] [(oi 0 1,.cells 29 [ai bA,.tree Y4 dA,tI aA,tI aB]),(oi 1 1,.arr 3 .int u8),(oi 2 1,.arr 3 .int ue)]) ?_ ?_
 ·intro _ h;refine Ak (Aj (lpF h (fun (uj,u3)=>sT [(1,.box (oi 0 1) 0),(4,oI 1 1 u8.length),(5,oI 2 1 u3.length),(37,tI aB),(38,an aB.length),(39,an uj)] [(oi 0 1,.cells 29 [ai bA,.tree Y4 dA,tI aA,tI aB]),(oi 1 1,.arr 3 .int u8),(oi 2 1,.arr 3 .int u3)]) (Av []) ?_));rintro n_ ⟨uj,u3⟩ c_ h hn19;refine Ak (Ad (kQ h (fun _ h=>skW (Ad (Aj (Ad (Ac 6 (riH .int h fun x25 _ h=>rsT 2 (rnW (Ac 13 (rsT 2 ?_))))))))) fun _ h=>lxT (have h:=jO h hn19;jE [])));obtain ⟨x26,f26,h⟩:=Bk h;obtain ⟨p26,b26,e26⟩:=Fi f26;refine rs0 (.elt (oi 2 1) x25.toNat 0) (zo (t:=.int) (o:=oi 2 1) (len:=u3.length) (k:=.i64) (m:=x25) p26 (Bt e26)) (zE (oi 2 1) e26 (rsT 1 (rs0 (.elt (oi 2 1) x25.toNat 0) (zo (t:=.int) (o:=oi 2 1) (len:=u3.length) (k:=.i64) (m:=x25) p26 (Bt e26)) (zS (oi 2 1) (wI (x26+1)) e26 (Bi (bn_ (tn_ (wr_ (Ac 15 (raH h fun h=>rsT 1 (Bi (tn_ ?_))))))))))));obtain rfl:=zj h;exact jLw hn19 ((wL 5 (((rfl:u3.length=u3.length).trans List.length_set.symm):u3.length=(u3.set x25.toNat (wI (x26+1))).length)).trans (Av []))
 intro ue h;refine sqF h (fun (uc,ud)=>sT [(4,oI 0 1 uc.length),(5,oI 1 1 ud.length)] [(oi 0 1,.arr 3 .int uc),(oi 1 1,.arr 3 .int ud)]) ?_ ?_
 ·intro _ h;refine Ak (Aj (lpF h (fun (ua,uf,u9)=>sT [(4,oI 0 1 uf.length),(5,oI 1 1 u9.length),(51,.tree Y4 dA),(52,an dA.length),(53,an ua)] [(oi 0 1,.arr 3 .int uf),(oi 1 1,.arr 3 .int u9)]) (Av [(oi 0 1,oi 1 1),(oi 1 1,oi 2 1)]) ?_));rintro n_ ⟨ua,uf,u9⟩ c_ h hn30;refine Ak (Ad (kQ h (fun _ h=>skW (sqF h (fun (ug,uh)=>sT [(4,oI 0 1 ug.length),(5,oI 1 1 uh.length),(51,.tree Y4 dA),(52,an dA.length),(53,an ua)] [(oi 0 1,.arr 3 .int ug),(oi 1 1,.arr 3 .int uh)]) ?_ ?_)) fun _ h=>lxT (have h:=jO h hn30;jE [])))
  ·intro _ h;refine Aj (Ad (Ac 7 (riH Y4 h fun x36 _ h=>rsB 3 (rnW (sqF h (fun ub=>sT [(4,oI 0 1 ub.length),(5,oI 1 1 u9.length),(11,.box (oi 2 1) 0),(51,.tree Y4 dA),(52,an dA.length),(53,an ua)] [(oi 0 1,.arr 3 .int ub),(oi 1 1,.arr 3 .int u9),(oi 2 1,.cells 45 [ai x36.1,ai x36.2.1,tI x36.2.2.1,tI x36.2.2.2])]) ?_ ?_)))))
   ·intro _ h;refine Ak (Aj (lpF h (fun (uk,u4)=>sT [(4,oI 0 1 u4.length),(5,oI 1 1 u9.length),(11,.box (oi 2 1) 0),(51,.tree Y4 dA),(52,an dA.length),(53,an ua),(58,tI x36.2.2.2),(59,an x36.2.2.2.length),(60,an uk)] [(oi 0 1,.arr 3 .int u4),(oi 1 1,.arr 3 .int u9),(oi 2 1,.cells 45 [ai x36.1,ai x36.2.1,tI x36.2.2.1,tI x36.2.2.2])]) (Av [(oi 2 1,oi 11 5)]) ?_));rintro n_ ⟨uk,u4⟩ c_ h hn39;refine Ak (Ad (kQ h (fun _ h=>skW (Ad (Aj (Ad (Ac 6 (riH .int h fun x45 _ h=>rsT 2 (rnW (Ac 13 (rsT 2 ?_))))))))) fun _ h=>lxT (have h:=jO h hn39;jE [])));obtain ⟨x46,f46,h⟩:=Bk h;obtain ⟨p46,b46,e46⟩:=Fi f46;refine rs0 (.elt (oi 0 1) x45.toNat 0) (zo (t:=.int) (o:=oi 0 1) (len:=u4.length) (k:=.i64) (m:=x45) p46 (Bt e46)) (zE (oi 0 1) e46 (rsT 1 (rs0 (.elt (oi 0 1) x45.toNat 0) (zo (t:=.int) (o:=oi 0 1) (len:=u4.length) (k:=.i64) (m:=x45) p46 (Bt e46)) (zS (oi 0 1) (wI (x46+1)) e46 (Bi (bn_ (tn_ (wr_ (Ac 15 (raH h fun h=>rsT 1 (Bi (tn_ ?_))))))))))));obtain rfl:=zj h;exact jLw hn39 ((wL 4 (((rfl:u4.length=u4.length).trans List.length_set.symm):u4.length=(u4.set x45.toNat (wI (x46+1))).length)).trans (Av []))
   intro ub h;refine Ak (Aj (lpF h (fun (ul,u5)=>sT [(4,oI 0 1 ub.length),(5,oI 1 1 u5.length),(51,.tree Y4 dA),(52,an dA.length),(53,an ua),(72,tI x36.2.2.1),(73,an x36.2.2.1.length),(74,an ul)] [(oi 0 1,.arr 3 .int ub),(oi 1 1,.arr 3 .int u5)]) (Av []) ?_));rintro n_ ⟨ul,u5⟩ c_ h hn49;refine Ak (Ad (kQ h (fun _ h=>skW (Ad (Aj (Ad (Ac 6 (riH .int h fun x55 _ h=>rsT 2 (rnW (Ac 13 (rsT 2 ?_))))))))) fun _ h=>Gh (te_ (te_ (be_ (bn_ (tn_ (have h:=jO h hn49;jE []))))))));obtain ⟨x56,f56,h⟩:=Bk h;obtain ⟨p56,b56,e56⟩:=Fi f56;refine rs0 (.elt (oi 1 1) x55.toNat 0) (zo (t:=.int) (o:=oi 1 1) (len:=u5.length) (k:=.i64) (m:=x55) p56 (Bt e56)) (zE (oi 1 1) e56 (rsT 1 (rs0 (.elt (oi 1 1) x55.toNat 0) (zo (t:=.int) (o:=oi 1 1) (len:=u5.length) (k:=.i64) (m:=x55) p56 (Bt e56)) (zS (oi 1 1) (wI (x56+1)) e56 (Bi (bn_ (tn_ (wr_ (Ac 15 (raH h fun h=>rsT 1 (Bi (tn_ ?_))))))))))));obtain rfl:=zj h;exact jLw hn49 ((wL 5 (((rfl:u5.length=u5.length).trans List.length_set.symm):u5.length=(u5.set x55.toNat (wI (x56+1))).length)).trans (Av []))
  rintro ⟨ug,uh⟩ h;exact Ac 4 (raH h fun h=>rsT 1 (Bi (tn_ (jL []))))
 rintro ⟨uc,ud⟩ h;exact Ak (Ae (jR h [oI 0 1 uc.length,oI 1 1 ud.length] (J0 rfl (Io kr rfl) (J0 rfl (Io kr rfl) K0))))
def Ec (u1:List (Int×Int×(List Int)×List Int)) (u2:Int) (u0:Nat):Option (Ctl Nat (Ctl Unit Bool)) :=
 cond (decide ((u0:Int)<(u1.length:Int)))
 ((u1[u0]?).bind fun x22 =>
 (Dm x22.1 x22.2.1 x22.2.2.1 x22.2.2.2 u2).bind fun y24 =>
 cond (!y24)
  (some (Ctl.out (Ctl.out false)))
  (og (u0+1<4611686018427387904) <|
  some (Ctl.next (u0+1))))
 (some (Ctl.out (Ctl.next ())))
def C2 (y29:List Int×List Int) (u0:Nat):Option (Ctl Nat (Ctl Unit Bool)) :=
 cond (decide ((u0:Int)<(y29.1.length:Int)))
 ((y29.1[u0]?).bind fun x39 =>
 (y29.2[u0]?).bind fun x40 =>
 cond ((wI (x39+x40))==0)
  (some (Ctl.out (Ctl.out false)))
  (og (u0+1<4611686018427387904) <|
  some (Ctl.next (u0+1))))
 (some (Ctl.out (Ctl.next ())))
def Fv (u0:Int) (u1:List (Int×Int×(List Int)×List Int)) (u2 u3:List Int):Option Bool :=
 ((Br u0 0 100).bind fun y4 =>
 cond (!y4)
  (some true)
  (cond (decide (60<(u1.length:Int)))
   (some true)
   (cond (decide (12<(u2.length:Int)))
    (some true)
    (cond (decide (12<(u3.length:Int)))
     (some true)
     ((Cs u2 0 (wI (u0 - 1))).bind fun y9 =>
     cond (!y9)
      (some true)
      ((Cs u3 0 (wI (u0 - 1))).bind fun y11 =>
      some (!y11))))))).bind fun u4 =>
cond u4
 (some false)
 (Ln (Ba (fun s_:Nat=>Ec u1 u0 s_) 4611686018427387904 0) fun _ =>
 (Cw u0 u1 u2 u3).bind fun y29 =>
 Ln (Ba (fun s_:Nat=>C2 y29 s_) 4611686018427387904 0) fun _ =>
 some true)
theorem Lm (h:Fv bA dA aA aB=some cA):cK 13 [.agg [ai bA,.tree Y4 dA,tI aA,tI aB]] (Au cA):=by
 refine cO Try.func13 (Ak (Ad (sqF h (fun u5=>sT [(1,.box (oi 0 1) 0),(47,.bool u5)] [(oi 0 1,.cells 29 [ai bA,.tree Y4 dA,tI aA,tI aB])]) ?_ ?_)))
 ·intro _ h;refine Ac 43 (rsT 2 (rcH h Cb fun y4 h=>rsT 2 (kR h 12 (fun _ h=>rsT 35 (Bi (tn_ (jE [(oi 0 1,oi 1 1)])))) fun _ h=>rsT 6 (kR h 18 (fun _ h=>rsT 29 (Bi (tn_ (jE [(oi 0 1,oi 1 1)])))) fun _ h=>rsT 6 (kR h 24 (fun _ h=>rsT 23 (Bi (tn_ (jE [(oi 0 1,oi 1 1)])))) fun _ h=>rsT 6 ?_)))));rcases Df h with ⟨q8,h⟩|⟨q8,h⟩
  ·exact rq 30 q8 (rsT 17 (Bi (tn_ (jE [(oi 0 1,oi 1 1)]))))
  refine rq 30 q8 (rsT 5 (rcH h Er fun y9 h=>rsT 3 ?_));rcases Df h with ⟨q10,h⟩|⟨q10,h⟩
  ·exact rq 39 q10 (rsT 8 (Bi (tn_ (jE [(oi 0 1,oi 1 1)]))))
  exact rq 39 q10 (rsT 5 (rcH h Er fun y11 h=>rsT 2 (Bi (tn_ (jE [(oi 0 1,oi 1 1)])))))
 intro u5 h;refine kQ h (fun _ h=>Ak (Ae (tr_ (jS h)))) fun _ h=>skW (sqC h (fun _=>sT [(1,.box (oi 0 1) 0)] [(oi 0 1,.cells 29 [ai bA,.tree Y4 dA,tI aA,tI aB])]) (fun _ h hk14=>Ak (Aj (lpF h (fun u6=>sT [(1,.box (oi 0 1) 0),(49,.tree Y4 dA),(50,an dA.length),(51,an u6)] [(oi 0 1,.cells 29 [ai bA,.tree Y4 dA,tI aA,tI aB])]) (Av []) (fun n_ u6 c_ h hn16=>Ak (Ad (kQ h (fun _ h=>skW (Ad (Aj (Ad (Ac 7 (riH Y4 h fun x22 _ h=>rsB 3 (rnW (Ad (Ac 12 (rsT 3 (rcH h Ma fun y24 h=>rsT 1 (rnW (kQ h (fun _ h=>Ak (Ae (br_ (tr_ (tr_ (br_ (tr_ (have h:=jO h hn16;(have h:=jO h hk14;jS h))))))))) fun _ h=>Bd (bn_ (tn_ (wr_ (Ac 14 (raH h fun h=>rsT 1 (Bi (tn_ (jL []))))))))))))))))))))) fun _ h=>lxT (have h:=jO h hn16;jC []))))))) ?_)
 intro _ h;refine Ad (Ac 9 (rsT 1 (rcH h Km fun y29 h=>rsT 5 (rnW (sqC h (fun _=>sT [] []) ?_ fun _ h=>Ak (Ae (jS h)))))));intro _ h hk30;refine Ak (Aj (lpF h (fun u4=>sT [(5,oI 0 1 y29.1.length),(6,oI 1 1 y29.2.length),(67,an y29.1.length),(68,an u4)] [(oi 0 1,.arr 3 .int y29.1),(oi 1 1,.arr 3 .int y29.2)]) (Av [(oi 0 1,oi 1008 3),(oi 1 1,oi 1009 3)]) ?_));intro n_ u4 c_ h hn32;refine Ak (Ad (kQ h (fun _ h=>skW (Ad (Aj (Ak (Ad (Fb 15 (dz0 (oI 0 1 y29.1.length) (dz0 (an u4) ?_)))))))) fun _ h=>lxT (have h:=jO h hn32;jC [])));obtain ⟨x39,e39,h⟩:=Bk h;refine dzO (oi 0 1) .int y29.1.length (Bt e39) (dzE (oi 0 1) e39 (dz0 (oI 1 1 y29.2.length) (dz0 (an u4) ?_)));obtain ⟨x40,e40,h⟩:=Bk h;exact dzO (oi 1 1) .int y29.2.length (Bt e40) (dzE (oi 1 1) e40 (dz0 (ai (wI (x39+x40))) (dz0 (.bool ((wI (x39+x40))==0)) (Yz (Gp kr) (tn_ (wr_ (kQ h (fun _ h=>Ak (Ae (br_ (tr_ (tr_ (br_ (tr_ (have h:=jO h hn32;(have h:=jO h hk30;jS h))))))))) fun _ h=>Bd (bn_ (tn_ (wr_ (Ac 17 (raH h fun h=>rsT 1 (Bi (tn_ (jL [])))))))))))))))
end


section
open Go.RowKit Go.Deep
end
section
open Go.RowKit Go.Deep
section
variable {n:Nat} {d:Option Nat} {f:Nat->AV} {ob:Oid->Option Ob}
end
end
section
open Go.RowKit Go.Deep
def AV.isGiv:AV->Bool
 | .giv _ _ _=>true
 | _=>false
def Ob.hpGB (D:List Oid):Ob->Bool
 | .cells _ cs=>cs.all fun c=>c.hpB D||c.isGiv
 | _=>false
theorem Aam {D:List Oid} {E:Oid->Prop} (hd:∀ i,i∈D->E i) (o:Ob) (h:o.hpGB D=true):o.hpG E:=by
 cases o with
 | cells ty cs =>
  simp only [Ob.hpGB,List.all_eq_true,Bool.or_eq_true] at h;intro c hc;rcases h c hc with h1|h1
  ·exact .inl (AV.hp_mono hd _ (AV.hpB_P c h1))
  ·cases c with
   | giv u t xs=>exact .inr ⟨u,t,xs,rfl⟩
   | _=>cases h1
 | _=>cases h
def Zk (ol us:List (Oid×Ob)) (args:List AV) (v:AV):Bool :=
 (Dn ol&&(Dn us&&((ol.all fun q=>q.1.2==0)&&((us.all fun q=>q.1.2==1||(!q.2.isPool&&(Ay ol).contains q.1))&&(ndB (Ay us)&&ndB (A7 us))))))&&((ol.all fun q=>q.2.clo1 (Ay ol))&&((us.all fun q=>q.2.hp1 (Ay us)||q.2.hpGB (Ay us))&&(AV.cloL (Ay ol) args&&AV.hpB (Ay us) v)))
def Xc (D:List Oid) (ol:List (Oid×Ob)):List (Oid×Ob)->Prop
 | []=>True
 | q :: r=>(q.2.hp1 D=true∨q∈ol)/\Xc D ol r
theorem N1 {D:List Oid} {ol:List (Oid×Ob)}:∀ {l:List (Oid×Ob)},Xc D ol l->∀ q∈l,q.2.hp1 D=true∨q∈ol
 | _ :: _,h,q,hq=>by
  rcases List.mem_cons.1 hq with rfl|hq
  ·exact h.1
  ·exact N1 h.2 q hq
theorem Fg {p:Oid} {ty:TypeId} {cs:List AV}:∀ {l:List (Oid×Ob)},(p,Ob.cells ty cs)∈l->(p,Ob.cells ty cs)∈exL l
 | (q,o) :: r,h=>by
  rcases List.mem_cons.1 h with e|h
  ·obtain ⟨rfl,rfl⟩:=Prod.mk.inj e;exact List.mem_cons_self
  ·have:=Fg h;cases o <;> simp only [exL,List.mem_append,List.mem_cons] <;> first|exact .inr this
section
variable {P:Program} {G:World->Prop} (hfol:P.follows .mixedOrders=true) {g:FuncId} {fn:Func} (hf:P.funcs[g]? =some fn) {ac:AC} {rs:List Res} (hc:Do P fn=some (ac,rs)) {args:List AV} {r:RV} {n:Nat}
include hfol hf hc
theorem My [IsP P] (hN:fn.ntmps=n) (hn:args.length<=n) {tl:List (Nat×AV)} (htl:tmL 0 args=tl) {ol us:List (Oid×Ob)} {v:AV} (hB:Zk ol us args v=true) (hm1:O3 ol ol) (hm2:O3 us us) (hgv:Xc (Ay us) ol us)
  (h:awp P G ac (fun e S=>∃ S',WeakG G S S'/\(e=.normal∨e=.ret)/\(∃ rvs,Res.evL S'.tm S'.ob rs=some rvs/\v=Pw rvs)/\∀ q∈exL us,S'.ob q.1=some q.2) ⟨Ah tl,Ag (Bf ol),1⟩):He P G g args ol v us:=by
 simp only [Zk,Bool.and_eq_true] at hB;obtain ⟨⟨a1,a2,a3,a4,a5,a6⟩,b1,b2,b3,b4⟩:=hB;rw [List.all_eq_true] at a3 a4 b1 b2
 have h0:∀ {l:List (Oid×Ob)},Dn l=true->∀ q∈l,q.1.1.2=0:=fun h q hq=>by
  unfold Dn at h;rw [List.all_eq_true] at h;have:=h q hq;simp only [Bool.and_eq_true,beq_iff_eq] at this;exact this.1
 refine V9 hfol hf hc hN hn (fun q hq=>?_) (V4 (Ca a5) (Ca a6) (h0 a2)) (fun q hq=>?_) (AV.cloPL_mono (fun i hi=>Ft hi) _ (AV.cloPL_of args b3)) (AV.hp_mono (fun i hi=>Ft hi) _ (AV.hpB_P v b4)) ?_
 ·rcases Dq hq with ⟨p,e,u,xss,k,row,m1,m2,rfl⟩|⟨o,m1,m2,m3⟩
  ·have:=a3 _ m1;rw [beq_iff_eq] at this;exact ⟨this,trivial⟩
  ·have:=a3 _ m1;refine ⟨by simpa using this,?_⟩;rw [m3];by_cases hmt:∃ e p u xss,o=.mat e p u xss
   ·obtain ⟨e,p,u,xss,rfl⟩:=hmt;obtain ⟨e',hp⟩:=Jc hm1 _ _ _ _ _ m1;exact Wq xss fun k hk=>Tk hp k hk
   ·exact cloP_mono (fun i hi=>Ft hi) _ (Z0 o (b1 _ m1) m2 fun e p u xss h=>hmt ⟨e,p,u,xss,h⟩)
 ·rcases Dq hq with ⟨p,e,u,xss,k,row,m1,m2,rfl⟩|⟨o,m1,m2,m3⟩
  ·have:=a4 _ m1;simp only [Ob.isPool,Bool.not_true,Bool.false_and,Bool.or_false,beq_iff_eq] at this;exact ⟨.inl this,.inl trivial⟩
  ·have:=a4 _ m1;simp only [Bool.or_eq_true,Bool.and_eq_true,beq_iff_eq] at this;refine ⟨this.imp id fun h=>Ft (List.contains_iff_mem.1 h.2),?_⟩;by_cases hmt:∃ e p u xss,o=.mat e p u xss
   ·obtain ⟨e,p,u,xss,rfl⟩:=hmt;obtain ⟨e',hp⟩:=Jc hm2 _ _ _ _ _ m1;rw [m3];exact .inl (Zy xss fun k hk=>Tk hp k hk)
   ·rcases N1 hgv _ m1 with hp1|hin
    ·rw [m3];exact .inl (hp_mono (fun i hi=>Ft hi) _ (Zo o hp1 m2 fun e p u xss h=>hmt ⟨e,p,u,xss,h⟩))
    ·have hb:=b2 _ m1;simp only [Bool.or_eq_true] at hb;rcases hb with hp1|hg
     ·rw [m3];exact .inl (hp_mono (fun i hi=>Ft hi) _ (Zo o hp1 m2 fun e p u xss h=>hmt ⟨e,p,u,xss,h⟩))
     ·have hG:=Aam (E:=(·∈nmL us)) (fun i hi=>Ft hi) o hg;cases o with
      | cells ty cs =>
       obtain ⟨q1,q2⟩:=q;dsimp only [Ob.exp] at m3;subst m3;exact .inr ⟨Fg hin,hG⟩
      | _=>exact hG.elim
 ·rw [Ts,htl];exact h
end
def Db (j:Oid) (k:Nat) (t:Ty) (xs:List t.D) (q:Oid×Ob):Oid×Ob :=
 (q.1,if q.1=j then (match q.2 with | .cells ty cs=>.cells ty (cs.set k (.tree t xs))|o=>o) else q.2)
def Yx (l:List (Oid×Ob)):Bool:=Dn l&&(ndB (Ay l)&&ndB (A7 l))
theorem Un {l:List (Oid×Ob)} (h:Yx l=true):(nmL l).Nodup:=by
 simp only [Yx,Bool.and_eq_true] at h;refine V4 (Ca h.2.1) (Ca h.2.2) fun q hq=>?_
 have h1:=h.1;unfold Dn at h1;rw [List.all_eq_true] at h1;have:=h1 q hq;simp only [Bool.and_eq_true,beq_iff_eq] at this;exact this.1
theorem H1 {j:Oid} {k:Nat} {t:Ty} {xs:List t.D}:∀ (l:List (Oid×Ob)),exL (l.map (Db j k t xs))=(exL l).map (Db j k t xs)
 | []=>rfl
 | (p,o) :: r=>by
  have ih:=H1 (j:=j) (k:=k) (t:=t) (xs:=xs) r
  have hs:∀ (p:Oid) (o:Ob),(∀ ty cs,o≠.cells ty cs)->Db j k t xs (p,o)=(p,o):=fun p o ho=>by
   simp only [Db];split
   ·cases o with
    | cells ty cs=>exact absurd rfl (ho ty cs)
    | _=>rfl
   ·rfl
  cases o with
  | pool e u xss =>
   rw [List.map_cons,hs p _ (fun _ _ h=>by cases h)];simp only [exL,List.map_append,ih];congr 1;rw [List.map_map];exact (List.map_congr_left fun x _=>(hs _ _ (fun _ _ h=>by cases h)).symm)
  | mat e q u xss =>
   rw [List.map_cons,hs p _ (fun _ _ h=>by cases h)];simp only [exL,List.map_cons,ih];rw [hs p _ (fun _ _ h=>by cases h)]
  | tv e m t' ys =>
   rw [List.map_cons,hs p _ (fun _ _ h=>by cases h)];simp only [exL,List.map_cons,ih];rw [hs p _ (fun _ _ h=>by cases h)]
  | cells ty cs =>
   by_cases hp:p=j
   ·subst hp;simp only [List.map_cons,Db,if_true,exL];rw [← ih]
   ·simp only [List.map_cons,Db,if_neg hp,exL];rw [← ih]
  | arr e u ys =>
   rw [List.map_cons,hs p _ (fun _ _ h=>by cases h)];simp only [exL,List.map_cons,ih];rw [hs p _ (fun _ _ h=>by cases h)]
  | map e u ys =>
   rw [List.map_cons,hs p _ (fun _ _ h=>by cases h)];simp only [exL,List.map_cons,ih];rw [hs p _ (fun _ _ h=>by cases h)]
  | vec e sz n cs =>
   rw [List.map_cons,hs p _ (fun _ _ h=>by cases h)];simp only [exL,List.map_cons,ih];rw [hs p _ (fun _ _ h=>by cases h)]
theorem Xy {j:Oid} {k:Nat} {t:Ty} {xs:List t.D} (l:List (Oid×Ob)):nmL (l.map (Db j k t xs))=nmL l:=by
 unfold nmL;rw [H1,List.map_map];exact List.map_congr_left fun q _=>rfl
section
variable {σ:Oid->Option Loc} {im:Nat->Prop} {w:World} {θ:Oid->Oid} {t:Ty} {xs:List t.D}
theorem Rh {u:Value}:∀ {cs:List AV} {k:Nat} {vs:List Value},cs[k]? =some (.giv u t xs)->AV.RepL σ im w (AV.renL θ (cs.set k (.tree t xs))) vs->vs[k]? =some u->AV.RepL σ im w (AV.renL θ cs) vs
 | c :: cs,0,_,hk,⟨v,us,e,h1,h2⟩,hu=>by
  obtain rfl:=osj hk;subst e;obtain rfl:=osj hu;exact ⟨v,us,rfl,⟨rfl,h1⟩,h2⟩
 | c :: cs,k+1,_,hk,⟨v,us,e,h1,h2⟩,hu=>by
  subst e;exact ⟨v,us,rfl,h1,Rh (cs:=cs) (k:=k) (by simpa using hk) h2 (by simpa using hu)⟩
theorem K4 {u:Value}:∀ {cs:List AV} {k:Nat} {vs:List Value},cs[k]? =some (.giv u t xs)->AV.RepL σ im w cs vs->AV.RepL σ im w (cs.set k (.tree t xs)) vs
 | c :: cs,0,_,hk,⟨v,us,e,h1,h2⟩=>by
  obtain rfl:=osj hk;exact ⟨v,us,e,h1.2,h2⟩
 | c :: cs,k+1,_,hk,⟨v,us,e,h1,h2⟩=>⟨v,us,e,h1,K4 (cs:=cs) (k:=k) (by simpa using hk) h2⟩
theorem Ri:∀ {cs:List AV} {k:Nat},AV.renL θ (cs.set k (.tree t xs))=(AV.renL θ cs).set k (.tree t xs)
 | [],_=>rfl
 | _ :: _,0=>rfl
 | c :: cs,k+1=>by simp only [List.set_cons_succ,AV.renL,Ri (cs:=cs) (k:=k)]
theorem Nl {c:AV}:∀ {cs:List AV} {k:Nat},cs[k]? =some c->(AV.renL θ cs)[k]? =some (c.ren θ)
 | _ :: _,0,h=>by obtain rfl:=osj h;rfl
 | _ :: cs,k+1,h=>by simp only [AV.renL,List.getElem?_cons_succ];exact Nl (cs:=cs) (k:=k) (by simpa using h)
end
theorem N8:∀ {L:List (Oid×Option Ob)} {a b:Oid->Option Ob} {x:Oid},((∃ u∈L,u.1=x)∨a x=b x)->Af L a x=Af L b x
 | [],_,_,_,h=>by
  rcases h with ⟨u,hu,_⟩|h
  ·cases hu
  ·exact h
 | y :: L,a,b,x,h=>by
  show Af L (upd a y.1 y.2) x=Af L (upd b y.1 y.2) x;refine N8 ?_;by_cases e:x=y.1
  ·exact .inr (by subst e;simp [upd])
  ·rcases h with ⟨u,hu,hx⟩|h
   ·rcases List.mem_cons.1 hu with rfl|hu
    ·exact absurd hx.symm e
    ·exact .inl ⟨u,hu,hx⟩
   ·exact .inr (by simp [upd,e,h])
theorem Tz {a b:Oid->Option Ob} {σ:Oid->Option Loc} (h:∀ x,(∃ o,a x=some o)↔∃ o,b x=some o):imm a σ=imm b σ:=by
 funext c;refine propext ⟨fun H i o cp s hi=>?_,fun H i o cp s hi=>?_⟩
 ·obtain ⟨o',h'⟩:=(h i).2 ⟨o,hi⟩;exact H i o' cp s h'
 ·obtain ⟨o',h'⟩:=(h i).1 ⟨o,hi⟩;exact H i o' cp s h'
theorem I6 {P:Program} {G:World->Prop} {F:FuncId} {args:List AV} {v:AV} (ol us:Value->List (Oid×Ob)) {ol' us':List (Oid×Ob)} (j:Oid) (k:Nat) {ty:TypeId} {t:Ty} {xs:List t.D} {cs:Value->List AV} (h:∀ u,He P G F args (ol u) v (us u))
  (hj:∀ u,(j,Ob.cells ty (cs u))∈ol u) (hj2:∀ u,(j,Ob.cells ty (cs u))∈us u) (hk:∀ u,(cs u)[k]? =some (.giv u t xs):=by intro _;rfl)
  (h1:∀ u,(ol u).map (Db j k t xs)=ol':=by intro _;kernel_rfl) (h2:∀ u,(us u).map (Db j k t xs)=us':=by intro _;kernel_rfl) (hn1:∀ u,Yx (ol u)=true:=by intro _;kernel_rfl) (hn2:∀ u,Yx (us u)=true:=by intro _;kernel_rfl):He P G F args ol' v us':=by
 intro θ i w0 ob σ K w vs hM hi hob hinj hloc hargs;have hT:∀ u,Db j k t xs (j,Ob.cells ty (cs u))=(j,.cells ty ((cs u).set k (.tree t xs))):=fun u=>by simp [Db]
 have hmem:∀ u,(j,Ob.cells ty ((cs u).set k (.tree t xs)))∈exL ol':=fun u=>by
  refine Fg ?_;rw [← h1 u,← hT u];exact List.mem_map.2 ⟨_,hj u,rfl⟩
 have hnm:∀ u,nmL ol'=nmL (ol u):=fun u=>by rw [← h1 u,Xy]
 have hjn:j∈nmL ol':=List.mem_map.2 ⟨_,hmem (.bool true),rfl⟩;have hobj:∀ u,ob (θ j)=some (.cells ty (AV.renL θ ((cs u).set k (.tree t xs)))):=fun u=>hob _ (hmem u)
 cases hs:σ (θ j) with
 | none=>exact absurd hs (hloc j hjn)
 | some l =>
 have hR:=hM.obs _ _ l (hobj (.bool true)) hs;cases l with
 | nil=>exact hR.elim
 | at_ b cp sz =>
 obtain ⟨vs0,g1,g2,g3⟩:=hR
 obtain ⟨u,hu,_⟩:∃ u,vs0[k]? =some u/\True:=by
  have hlt:k<(cs (.bool true)).length:=(gSi.1 (hk (.bool true))).1;have hg:((cs (.bool true)).set k (.tree t xs))[k]? =some (.tree t xs):=by rw [List.getElem?_set_self hlt]
  obtain ⟨u,hu,_⟩:=g2.get (Nl (θ:=θ) hg);exact ⟨u,hu,trivial⟩
 have hcs:AV.renL θ ((cs (.bool true)).set k (.tree t xs))=AV.renL θ ((cs u).set k (.tree t xs)):=by
  have:=(hobj (.bool true)).symm.trans (hobj u);exact (Ob.cells.inj (osj this)).2
 rw [hcs] at g2;have hRG:=Rh (hk u) g2 hu
 let ob1:Oid->Option Ob:=fun x=>if x=θ j then some (.cells ty (AV.renL θ (cs u))) else ob x
 have hob1j:ob1 (θ j)=some (.cells ty (AV.renL θ (cs u))):=if_pos rfl;have hob1n:∀ x,x≠θ j->ob1 x=ob x:=fun x hx=>if_neg hx
 have hdom:∀ x,(∃ o,ob1 x=some o)↔∃ o,ob x=some o:=fun x=>by
  by_cases e:x=θ j
  ·subst e;exact ⟨fun _=>⟨_,hobj u⟩,fun _=>⟨_,hob1j⟩⟩
  ·rw [hob1n x e]
 have him:imm ob1 σ=imm ob σ:=Tz hdom
 have hM1:Mem0 G w0 ob1 σ K w:=by
  refine ⟨hM.below,hM.inv,hM.gen,hM.lt,hM.cap,fun i1 i2 b c s c' s' o o' e1 e2=>?_,fun x o l ho hl=>?_⟩
  ·obtain ⟨p1,q1⟩:=(hdom i1).1 ⟨o,e1⟩;obtain ⟨p2,q2⟩:=(hdom i2).1 ⟨o',e2⟩;exact hM.inj i1 i2 b c s c' s' _ _ q1 q2
  ·rw [him];by_cases e:x=θ j
   ·subst e;rw [hob1j] at ho;obtain rfl:=osj ho;rw [hs] at hl;obtain rfl:=osj hl;exact ⟨vs0,g1,hRG,g3⟩
   ·rw [hob1n x e] at ho;exact hM.obs x o l ho hl
 have hq:∀ q∈exL (ol u),ob1 (θ q.1)=some (q.2.ren θ):=fun q hq=>by
  have hqn:q.1∈nmL (ol u):=List.mem_map.2 ⟨q,hq,rfl⟩;by_cases e:q.1=j
  ·have hin:=Fg (hj u);have:q=(j,Ob.cells ty (cs u)):=El (Un (hn1 u)) hq hin e;subst this;exact hob1j
  ·have hne:θ q.1≠θ j:=fun e'=>e (hinj _ _ (hnm u▸hqn) hjn e')
   rw [hob1n _ hne];refine hob q ?_;have:Db j k t xs q=q:=by simp [Db,e]
   rw [← h1 u,H1,← this];exact List.mem_map.2 ⟨q,hq,rfl⟩
 have himO:Ns θ (ol u) σ=Ns θ ol' σ:=by
  funext c;refine propext ⟨fun H q hq' cp s=>?_,fun H q hq' cp s=>?_⟩
  ·have:q.1∈nmL (ol u):=hnm u▸List.mem_map.2 ⟨q,hq',rfl⟩;obtain ⟨q2,hq2,e⟩:=List.mem_map.1 this;rw [← e];exact H q2 hq2 cp s
  ·have:q.1∈nmL ol':=(hnm u).symm▸List.mem_map.2 ⟨q,hq',rfl⟩;obtain ⟨q2,hq2,e⟩:=List.mem_map.1 this;rw [← e];exact H q2 hq2 cp s
 refine (h u θ i w0 ob1 σ K w vs hM1 hi hq (fun a b ha hb=>hinj a b ((hnm u).symm▸ha) ((hnm u).symm▸hb)) (fun a ha=>hloc a ((hnm u).symm▸ha)) (himO▸hargs)).mono ?_;rintro e w' ⟨uu,he,σ',hL,hM2,hv⟩
 -- the objects behind
 have hkill:∀ x,Af ((exL (ol u)).map fun q=>(θ q.1,none)) ob1 x=Af ((exL (ol u)).map fun q=>(θ q.1,none)) ob x:=fun x=>by
  refine N8 ?_;by_cases e:x=θ j
  ·exact .inl ⟨(θ j,none),List.mem_map.2 ⟨_,Fg (hj u),rfl⟩,e.symm⟩
  ·exact .inr (hob1n x e)
 have hnames:((exL ol').map fun q=>(θ q.1,(none:Option Ob)))=(exL (ol u)).map fun q=>(θ q.1,none):=by
  rw [← h1 u,H1,List.map_map];exact List.map_congr_left fun q _=>rfl
 have hrel:∀ (L:List (Oid×Ob)) (a c:Oid->Option Ob),(∀ q∈L,q∈exL (us u))->(∀ x,c x=a x∨∃ c2,a x=some (.cells ty c2)/\c2[k]? =some (.giv u t xs)/\c x=some (.cells ty (c2.set k (.tree t xs)))) ->
   ∀ x,Af ((L.map (Db j k t xs)).map fun q=>(Bc θ i q.1,some (q.2.ren (Bc θ i)))) c x=Af (L.map fun q=>(Bc θ i q.1,some (q.2.ren (Bc θ i)))) a x ∨
    ∃ c2,Af (L.map fun q=>(Bc θ i q.1,some (q.2.ren (Bc θ i)))) a x=some (.cells ty c2)/\c2[k]? =some (.giv u t xs)/\Af ((L.map (Db j k t xs)).map fun q=>(Bc θ i q.1,some (q.2.ren (Bc θ i)))) c x=some (.cells ty (c2.set k (.tree t xs))):=by
  intro L
  induction L with
  | nil=>exact fun a c _ H=>H
  | cons q L ih =>
   intro a c hL' H;refine ih _ _ (fun q' hq'=>hL' q' (List.mem_cons_of_mem _ hq')) fun x=>?_
   by_cases e:x=Bc θ i q.1
   ·subst e;simp only [upd,Db,if_true];by_cases ej:q.1=j
    ·have:q=(j,Ob.cells ty (cs u)):=El (Un (hn2 u)) (hL' q List.mem_cons_self) (Fg (hj2 u)) ej;subst this;refine .inr ⟨AV.renL (Bc θ i) (cs u),rfl,Nl (hk u),?_⟩;simp only [if_true,Ob.ren,Ri]
    ·rw [if_neg ej];exact .inl rfl
   ·have:Bc θ i (Db j k t xs q).1=Bc θ i q.1:=rfl;simp only [upd];rw [if_neg (by rw [this];exact e),if_neg e];exact H x
 have hfin:∀ x,Af (Eg θ i ol' us') ob x=Af (Eg θ i (ol u) (us u)) ob1 x∨∃ c2,Af (Eg θ i (ol u) (us u)) ob1 x=some (.cells ty c2)/\c2[k]? =some (.giv u t xs)/\Af (Eg θ i ol' us') ob x=some (.cells ty (c2.set k (.tree t xs))):=by
  have:=hrel (exL (us u)) (Af ((exL (ol u)).map fun q=>(θ q.1,none)) ob1) (Af ((exL ol').map fun q=>(θ q.1,none)) ob) (fun _ hq=>hq) (fun x=>.inl (by rw [hnames,hkill x]));rw [← H1,h2 u] at this;intro x;have hx:=this x;simp only [Eg,Af,List.foldl_append] at hx ⊢;exact hx
 generalize hf1:Af (Eg θ i (ol u) (us u)) ob1=f1 at hL hM2 hv hfin;generalize Af (Eg θ i ol' us') ob=f2 at hfin ⊢
 have hdom2:∀ x,(∃ o,f2 x=some o)↔∃ o,f1 x=some o:=fun x=>by
  rcases hfin x with e|⟨c2,e1,_,e2⟩
  ·rw [e]
  ·exact ⟨fun _=>⟨_,e1⟩,fun _=>⟨_,e2⟩⟩
 have him2:imm f2 σ'=imm f1 σ':=Tz hdom2;refine ⟨uu,he,σ',?_,?_,?_⟩
 ·rw [him2,← him];exact hL
 ·refine ⟨hM2.below,hM2.inv,hM2.gen,hM2.lt,hM2.cap,fun i1 i2 b c s c' s' o o' e1 e2=>?_,fun x o l ho hl=>?_⟩
  ·obtain ⟨p1,q1⟩:=(hdom2 i1).1 ⟨o,e1⟩;obtain ⟨p2,q2⟩:=(hdom2 i2).1 ⟨o',e2⟩;exact hM2.inj i1 i2 b c s c' s' _ _ q1 q2
  ·rw [him2];rcases hfin x with e|⟨c2,e1,e3,e2⟩
   ·rw [e] at ho;exact hM2.obs x o l ho hl
   ·rw [e2] at ho;obtain rfl:=osj ho;have hr:=hM2.obs x _ l e1 hl;cases l with
    | nil=>exact hr.elim
    | at_ b c s =>
     obtain ⟨vs2,k1,k2,k3⟩:=hr;exact ⟨vs2,k1,K4 e3 k2,k3⟩
 ·rw [him2];exact hv
section
variable {ob:Oid->Option Ob} {n:Nat} {k:Oid} {c:AV} {cs:List AV}
end
theorem Yw {f:Nat->AV} {ob:Oid->Option Ob} {n:Nat} {d:Option Nat} {e:TypeId} {t:Ty} {by_:Nat} {l c:Opd} {k k':IntKind} {m m':Int} {j:Nat} (hl:l.ev f=.int k m) (hc:c.ev f=.int k' m') (h:0<=m/\m<=m'/\m'<=1073741824/\(by_:Int)*m'<=140737488355328) (hj:m.toNat=j) :
  Bq n ⟨d,none,.make e t by_ l c⟩ f ob=some (1,.own ((d.getD 0,0),n) t 0 (List.replicate j t.dflt).length,[(((d.getD 0,0),n),some (.arr e t (List.replicate j t.dflt)))]):=by
 rw [List.length_replicate];exact Kn hl hc h hj
end
section
open Go.RowKit Go.Deep
set_option maxRecDepth 4000
set_option maxHeartbeats 4800000
variable {bA bB bC:Int} {cA:Bool} {aA aB aC aD:List Int} {dA dB:List (Int×Int×(List Int)×List Int)} {iA:List Bool} {jA:Bool×List Bool×Int}
def Dr (a0:Int):Option Bool :=
 (Bn a0 3 14).bind fun y3 =>
some y3
theorem Ij (h:Dr bA=some cA):cK 43 [ai bA] (Au cA):=by
 exact cO Try.func43 (Ak (Ad (Ac 5 (rsT 1 (rcH h Co fun y3 h=>rsT 1 (rnW (Ae (jS h))))))))
def E3 (a0:Int):Option Bool :=
 (cond (a0==7)
  (some true)
  (some (a0==13))).bind fun u0 =>
some u0
theorem Ko (h:E3 bA=some cA):cK 48 [ai bA] (Au cA):=by
 exact cO Try.func48 (Ak (sqF h (fun u0=>sT [(2,.bool u0)] []) (fun _ h=>Ac 9 (rsT 3 (kR h 5 (fun _ h=>rsT 4 (Bi (tn_ (jE [])))) fun _ h=>rsT 4 (Bi (tn_ (jE [])))))) fun u0 h=>Ae (jS h)))
def Cn (a0 a1:Int):Option Bool :=
 (E3 a0).bind fun y4 =>
cond y4
 ((Bn a1 0 96).bind fun y7 =>
 some y7)
 (some (a1==0))
theorem Gb (h:Cn bA bB=some cA):cK 44 [ai bA,ai bB] (Au cA):=by
 exact cO Try.func44 (Ak (Ad (Ad (Ac 4 (rsT 1 (rcH h Ko fun y4 h=>rnW (kQ h (fun _ h=>Ad (Ac 7 (rsT 1 (rcH h Co fun y7 h=>rsT 1 (rnW (Ae (tr_ (jS h)))))))) fun _ h=>skW (Ak (Ae (jS h))))))))))
def Fy:AC :=
 (.seq (rg [xo 1 (.i (.box 45 (tm 0))),xo 2 (qm (cb false))])
 (.seq (.seq (rg [xf 3 0 1,xl 4 3,xo 5 (qc 43 [tm 4] [[]]),xo 6 (.i (.not (tm 5))),xm 7 6,⟨some 8,some (7,false),qf 0 (tm 1)⟩,⟨some 9,some (7,false),ql (tm 8)⟩,⟨some 10,some (7,false),qf 1 (tm 1)⟩,⟨some 11,some (7,false),ql (tm 10)⟩,⟨some 12,some (7,false),qc 44 [tm 9,tm 11] [[],[]]⟩,⟨some 13,some (7,false),.i (.not (tm 12))⟩,xo 14 (.i (.pick (tm 7) (cb true) (tm 13)))])
 (.cond (tm 14)
  (.seq (rg [xo 2 (qm (cb false))])
  .ret)
  .skip))
 (.seq (.region [xf 15 0 1,xl 16 15,xo 17 (qc 45 [tm 16] [[]]),xf 18 2 1,xl 19 18,xn1 20 19,xf 21 3 1,xl 22 21,xn1 23 22,xo 24 (.build [.int .i64 0,.int .i64 0] [(0,1,tm 20),(1,1,tm 23)]),xo 25 (.i (.cmp false 5 (tm 17) (tm 24))),xm 2 25] true [(2,4),(2,7)])
 .ret)))
def I9:List Res:=[.tmp 2]
theorem Ix:Do Try.prog Try.f35=some (Fy,I9):=by kernel_rfl
def Cu (u0 u1:Int) (u2 u3:List Int):Option Bool :=
 ((Dr u0).bind fun y4 =>
 cond (!y4)
  (some true)
  ((Cn u0 u1).bind fun y6 =>
  some (!y6))).bind fun u4 =>
cond u4
 (some false)
 ((Cz u0).bind fun y10 =>
 some ([y10.1,y10.2]==[(u2.length:Int),(u3.length:Int)]))
theorem Ii (h:Cu bA bB aA aB=some cA):cK 35 [.agg [ai bA,ai bB,tI aA,tI aB]] (Au cA):=by
 refine Q8 kr Try.func35 Ix (n:=26) kr (by simp) rfl ?_;unfold Fy;refine Ak (Ad (sqF h (fun u4=>sT [(1,.box (oi 0 1) 0),(14,.bool u4)] [(oi 0 1,.cells 45 [ai bA,ai bB,tI aA,tI aB])]) ?_ fun u4 h=>kQ h (fun _ h=>Ak (Ae (tr_ (jS h)))) fun _ h=>skW (Ad (Fb 14 (ds0 (.box (oi 0 1) 0) kr (dsl (ai bA) kr (dcH h Gy fun y10 h=>dsT 9 (Yz (Gp kr) (tn_ (wr_ (Ae (jS h))))))))))));intro _ h;refine Ac 15 (rsT 2 (rcH h Ij fun y4 h=>rsT 2 ?_));rcases Df h with ⟨q5,h⟩|⟨q5,h⟩
 ·exact rq 7 q5 (rsT 7 (Bi (tn_ (jE [(oi 0 1,oi 1 1)]))))
 exact rq 7 q5 (rsT 4 (rcH h Gb fun y6 h=>rsT 2 (Bi (tn_ (jE [(oi 0 1,oi 1 1)])))))
def B9 (a0:List Int) (u3:Int) (u0:Nat) (u2:Bool) (u1:Int) (l3_p3:List Bool):Option (Ctl (Nat×Bool×Int×List Bool) (Bool×List Bool×Int)) :=
 cond (decide ((u0:Int)<(a0.length:Int)))
 (((a0[u0]?).bind fun x9 =>
  (Bn x9 0 (wI (u3 - 1))).bind fun y12 =>
  cond (!y12)
   (some (false,u1,l3_p3))
   ((J5 l3_p3 x9).bind fun x16 =>
   cond (!x16)
    (some (u2,wI (u1+1),l3_p3.set x9.toNat true))
    (some (u2,u1,l3_p3)))).bind fun (u4,u5,l7_p3) =>
 og (u0+1<4611686018427387904) <|
 some (Ctl.next (u0+1,u4,u5,l7_p3)))
 (some (Ctl.out (u2,l3_p3,u1)))
def Az (a0:List Int) (u0:Int) (u4:List (Int×Int×(List Int)×List Int)) (u5 u6:List Int) (u1:Bool) (u2:List Bool) (u3:Int):Option (Bool×List Bool×Int) :=
 Ba (fun s_:Nat×Bool×Int×List Bool=>B9 a0 u0 s_.1 s_.2.1 s_.2.2.1 s_.2.2.2) 4611686018427387904 (0,u1,u3,u2)
theorem Bm {u_c0_1:Value} {u_c0_2:Value} {u_c0_3:Value} {a0:List Int} {u0:Int} {u1:List (Int×Int×(List Int)×List Int)} {u2 u3:List Int} {u6:Bool} {u4:List Bool} {u7:Int} {r:Bool×List Bool×Int} (h:Az a0 u0 u1 u2 u3 u6 u4 u7=some r):He Try.prog Tab 37 [tI a0,.box (oi 0 0) 0,.box (oi 1 0) 0,.box (oi 2 0) 0,.box (oi 4 0) 0] [(oi 0 0,.cells 29 [ai u0,.giv u_c0_1 Y4 u1,.giv u_c0_2 .int u2,.giv u_c0_3 .int u3]),(oi 1 0,.cells 4 [.bool u6]),(oi 2 0,.cells 58 [.own (oi 3 0) .bool 0 u4.length]),(oi 3 0,.arr 4 .bool u4),(oi 4 0,.cells 3 [ai u7])] (.tup []) [(oi 0 0,.cells 29 [ai u0,.giv u_c0_1 Y4 u1,.giv u_c0_2 .int u2,.giv u_c0_3 .int u3]),(oi 1 0,.cells 4 [.bool r.1]),(oi 2 0,.cells 58 [.own (oi 3 0) .bool 0 r.2.1.length]),(oi 3 0,.arr 4 .bool r.2.1),(oi 4 0,.cells 3 [ai r.2.2])]:=by
 refine My kr Try.func37 (Px kr) (n:=31) kr (by simp) (tl:=[(0,tI a0),(1,.box (oi 0 0) 0),(2,.box (oi 1 0) 0),(3,.box (oi 2 0) 0),(4,.box (oi 4 0) 0)]) rfl kr ⟨trivial,⟨trivial,⟨trivial,⟨trivial,⟨trivial,trivial⟩⟩⟩⟩⟩ ⟨trivial,⟨trivial,⟨trivial,⟨trivial,⟨trivial,trivial⟩⟩⟩⟩⟩ ⟨.inr (.head _),⟨.inl kr,⟨.inl kr,⟨.inl kr,⟨.inl kr,trivial⟩⟩⟩⟩⟩ (Ak (Aj (lpF h (fun (u5,u8,u9,l3_p3)=>sT [(1,.box (oi 0 0) 0),(2,.box (oi 1 0) 0),(3,.box (oi 2 0) 0),(4,.box (oi 4 0) 0),(8,tI a0),(9,an a0.length),(10,an u5)] [(oi 0 0,.cells 29 [ai u0,.giv u_c0_1 Y4 u1,.giv u_c0_2 .int u2,.giv u_c0_3 .int u3]),(oi 1 0,.cells 4 [.bool u8]),(oi 2 0,.cells 58 [.own (oi 3 0) .bool 0 l3_p3.length]),(oi 4 0,.cells 3 [ai u9]),(oi 3 0,.arr 4 .bool l3_p3)]) (Av []) ?_)));rintro n_ ⟨u5,u8,u9,l3_p3⟩ c_ h hn3;refine Ak (Ad (kQ h (fun _ h=>skW (sqF h (fun (ua,ub,l7_p3)=>sT [(1,.box (oi 0 0) 0),(2,.box (oi 1 0) 0),(3,.box (oi 2 0) 0),(4,.box (oi 4 0) 0),(8,tI a0),(9,an a0.length),(10,an u5)] [(oi 0 0,.cells 29 [ai u0,.giv u_c0_1 Y4 u1,.giv u_c0_2 .int u2,.giv u_c0_3 .int u3]),(oi 1 0,.cells 4 [.bool ua]),(oi 2 0,.cells 58 [.own (oi 3 0) .bool 0 l7_p3.length]),(oi 4 0,.cells 3 [ai ub]),(oi 3 0,.arr 4 .bool l7_p3)]) ?_ ?_)) fun _ h=>Gh (te_ (te_ (be_ (have h:=jO h hn3;(by obtain rfl:=osj h;exact Zl [] (Av (tl:=[]) (g:=2) []))))))))
 ·intro _ h;refine Aj (Ad (Ac 6 (riH .int h fun x9 _ h=>rsT 2 (rnW (Ad (Ad (Ac 12 (rsT 4 (rcH h Co fun y12 h=>rsT 1 (rnW (kQ h (fun _ h=>Ak (Gh (te_ (be_ (tn_ (jE [])))))) fun _ h=>skW (Ad (Ac 17 (rsT 2 ?_))))))))))))));obtain ⟨x16,f16,h⟩:=Bk h;obtain ⟨p16,b16,e16⟩:=Fi f16;exact rs0 (.elt (oi 3 0) x9.toNat 0) (zo (t:=.bool) (o:=oi 3 0) (len:=l3_p3.length) (k:=.i64) (m:=x9) p16 (Bt e16)) (rsl (.bool x16) (Wo (i:=oi 3 0) (j:=x9.toNat) (k:=0) (e:=4) (t:=.bool) (xs:=l3_p3) kr kr e16 kr) (rsT 1 (rnW (kQ h (fun _ h=>Ad (Ac 21 (rsT 2 (rs0 (.elt (oi 3 0) x9.toNat 0) (zo (t:=.bool) (o:=oi 3 0) (len:=l3_p3.length) (k:=.i64) (m:=x9) p16 (Bt e16)) (Aaq (oi 3 0) (oi 3 0) (.arr 4 .bool (l3_p3.set x9.toNat true)) (Zh (i:=oi 3 0) (j:=x9.toNat) (k:=0) (e:=4) (t:=.bool) (xs:=l3_p3) (cs:=[.bool true]) (x1:=true) kr kr e16 kr kr) (rnW (Ac 24 (rsB 3 (Bi (bn_ (tn_ (by obtain rfl:=osj h;exact (X1 (oi 2 0) (.cells 58 [.own (oi 3 0) .bool 0 l3_p3.length]) (.cells 58 [.own (oi 3 0) .bool 0 ((l3_p3.set x9.toNat true).length)]) kr (congrArg (fun z_=>(.cells 58 [.own (oi 3 0) .bool 0 z_]:Ob)) (((rfl:l3_p3.length=l3_p3.length).trans List.length_set.symm):l3_p3.length=(l3_p3.set x9.toNat true).length))).trans (Av []))))))))))))) fun _ h=>Bd (bn_ (tn_ (jE [])))))))
 rintro ⟨ua,ub,l7_p3⟩ h;exact Ac 4 (raH h fun h=>rsT 1 (Bi (tn_ (jL []))))
def Aw (u1:List (Int×Int×(List Int)×List Int)) (u2:Int) (u3:List (Int×Int×(List Int)×List Int)) (u4 u5:List Int) (u0:Nat) (u6:Bool) (u7:Int) (l8_p3:List Bool):Option (Ctl (Nat×Bool×Int×List Bool) (Bool×List Bool×Int)) :=
 cond (decide ((u0:Int)<(u1.length:Int)))
 ((u1[u0]?).bind fun x14 =>
 (Az x14.2.2.1 u2 u3 u4 u5 u6 l8_p3 u7).bind fun y16 =>
 (Az x14.2.2.2 u2 u3 u4 u5 y16.1 y16.2.1 y16.2.2).bind fun y17 =>
 og (u0+1<4611686018427387904) <|
 some (Ctl.next (u0+1,y17.1,y17.2.2,y17.2.1)))
 (some (Ctl.out (u6,l8_p3,u7)))
def Ao (ua:Int) (u4:List (Int×Int×(List Int)×List Int)) (u5 u6:List Int) (u0:Int) (u1:List (Int×Int×(List Int)×List Int)) (u2 u3:List Int) (u7:Bool) (u8:List Bool) (u9:Int):Option (Bool×List Bool×Int) :=
 (Az u5 u0 u1 u2 u3 u7 u8 u9).bind fun y4 =>
(Az u6 u0 u1 u2 u3 y4.1 y4.2.1 y4.2.2).bind fun y6 =>
Ba (fun s_:Nat×Bool×Int×List Bool=>Aw u4 u0 u1 u2 u3 s_.1 s_.2.1 s_.2.2.1 s_.2.2.2) 4611686018427387904 (0,y6.1,y6.2.2,y6.2.1)
theorem Ch {u_a1_0_1:Value} {u_a1_0_2:Value} {u_a1_0_3:Value} {u8:Int} {u4:List (Int×Int×(List Int)×List Int)} {u5 u6:List Int} {u0:Int} {u1:List (Int×Int×(List Int)×List Int)} {u2 u3:List Int} {u9:Bool} {u7:List Bool} {ua:Int} {r:Bool×List Bool×Int} (h:Ao u8 u4 u5 u6 u0 u1 u2 u3 u9 u7 ua=some r):He Try.prog Tab 36 [.agg [ai u8,.tree Y4 u4,tI u5,tI u6],.fn 37 [.box (oi 0 0) 0,.box (oi 1 0) 0,.box (oi 2 0) 0,.box (oi 4 0) 0]] [(oi 0 0,.cells 29 [ai u0,.giv u_a1_0_1 Y4 u1,.giv u_a1_0_2 .int u2,.giv u_a1_0_3 .int u3]),(oi 1 0,.cells 4 [.bool u9]),(oi 2 0,.cells 58 [.own (oi 3 0) .bool 0 u7.length]),(oi 3 0,.arr 4 .bool u7),(oi 4 0,.cells 3 [ai ua])] (.tup []) [(oi 0 0,.cells 29 [ai u0,.giv u_a1_0_1 Y4 u1,.giv u_a1_0_2 .int u2,.giv u_a1_0_3 .int u3]),(oi 1 0,.cells 4 [.bool r.1]),(oi 2 0,.cells 58 [.own (oi 3 0) .bool 0 r.2.1.length]),(oi 3 0,.arr 4 .bool r.2.1),(oi 4 0,.cells 3 [ai r.2.2])]:=by
 refine My kr Try.func36 (Px kr) (n:=30) kr (by simp) (tl:=[(0,.agg [ai u8,.tree Y4 u4,tI u5,tI u6]),(1,.fn 37 [.box (oi 0 0) 0,.box (oi 1 0) 0,.box (oi 2 0) 0,.box (oi 4 0) 0])]) rfl kr ⟨trivial,⟨trivial,⟨trivial,⟨trivial,⟨trivial,trivial⟩⟩⟩⟩⟩ ⟨trivial,⟨trivial,⟨trivial,⟨trivial,⟨trivial,trivial⟩⟩⟩⟩⟩ ⟨.inr (.head _),⟨.inl kr,⟨.inl kr,⟨.inl kr,⟨.inl kr,trivial⟩⟩⟩⟩⟩ (Ak (Ad (Ac 6 (rsT 3 ?_))));obtain ⟨y4,h4,h⟩:=Bk h;refine Nd (.tup []) [(oi 0 0,some (.cells 29 [ai u0,.giv u_a1_0_1 Y4 u1,.giv u_a1_0_2 .int u2,.giv u_a1_0_3 .int u3])),(oi 1 0,some (.cells 4 [.bool y4.1])),(oi 2 0,some (.cells 58 [.own (oi 3 0) .bool 0 y4.2.1.length])),(oi 3 0,some (.arr 4 .bool y4.2.1)),(oi 4 0,some (.cells 3 [ai y4.2.2])),(oi 0 0,none),(oi 1 0,none),(oi 2 0,none),(oi 3 0,none),(oi 4 0,none)] [] [tI u5,.box (oi 0 0) 0,.box (oi 1 0) 0,.box (oi 2 0) 0,.box (oi 4 0) 0] (caps:=[.box (oi 0 0) 0,.box (oi 1 0) 0,.box (oi 2 0) 0,.box (oi 4 0) 0]) trivial (Bm (u_c0_1:=u_a1_0_1) (u_c0_2:=u_a1_0_2) (u_c0_3:=u_a1_0_3) h4) kr ⟨kr,⟨kr,⟨kr,⟨kr,⟨kr,trivial⟩⟩⟩⟩⟩ (.cons (.ren kr) (.cons (.ren kr) (.cons (.ren kr) (.cons (.ren kr) (.cons (.ren kr) .nil))))) (Eh kr kr ⟨Bv kr,⟨Bv kr,⟨Bv kr,⟨Hp (k:=oi 2 0) (ty:=58) (cs:=[.own (oi 3 0) .bool 0 u7.length]) (Bv kr) kr kr,⟨Bv kr,trivial⟩⟩⟩⟩⟩) (rnW (Ad (Ac 10 (rsT 3 ?_))));obtain ⟨y6,h6,h⟩:=Bk h;refine Nd (.tup []) [(oi 0 0,some (.cells 29 [ai u0,.giv u_a1_0_1 Y4 u1,.giv u_a1_0_2 .int u2,.giv u_a1_0_3 .int u3])),(oi 1 0,some (.cells 4 [.bool y6.1])),(oi 2 0,some (.cells 58 [.own (oi 3 0) .bool 0 y6.2.1.length])),(oi 3 0,some (.arr 4 .bool y6.2.1)),(oi 4 0,some (.cells 3 [ai y6.2.2])),(oi 0 0,none),(oi 1 0,none),(oi 2 0,none),(oi 3 0,none),(oi 4 0,none)] [] [tI u6,.box (oi 0 0) 0,.box (oi 1 0) 0,.box (oi 2 0) 0,.box (oi 4 0) 0] (caps:=[.box (oi 0 0) 0,.box (oi 1 0) 0,.box (oi 2 0) 0,.box (oi 4 0) 0]) trivial (Bm (u_c0_1:=u_a1_0_1) (u_c0_2:=u_a1_0_2) (u_c0_3:=u_a1_0_3) h6) kr ⟨kr,⟨kr,⟨kr,⟨kr,⟨kr,trivial⟩⟩⟩⟩⟩ (.cons (.ren kr) (.cons (.ren kr) (.cons (.ren kr) (.cons (.ren kr) (.cons (.ren kr) .nil))))) (Eh kr kr ⟨Bv kr,⟨Bv kr,⟨Bv kr,⟨Hp (k:=oi 2 0) (ty:=58) (cs:=[.own (oi 3 0) .bool 0 y4.2.1.length]) (Bv kr) kr kr,⟨Bv kr,trivial⟩⟩⟩⟩⟩) (rnW (Ak (Aj (lpF h (fun (ub,uc,ud,l8_p3)=>sT [(1,.fn 37 [.box (oi 0 0) 0,.box (oi 1 0) 0,.box (oi 2 0) 0,.box (oi 4 0) 0]),(15,.tree Y4 u4),(16,an u4.length),(17,an ub)] [(oi 0 0,.cells 29 [ai u0,.giv u_a1_0_1 Y4 u1,.giv u_a1_0_2 .int u2,.giv u_a1_0_3 .int u3]),(oi 1 0,.cells 4 [.bool uc]),(oi 2 0,.cells 58 [.own (oi 3 0) .bool 0 l8_p3.length]),(oi 4 0,.cells 3 [ai ud]),(oi 3 0,.arr 4 .bool l8_p3)]) (Av []) ?_))));rintro n_ ⟨ub,uc,ud,l8_p3⟩ c_ h hn8;refine Ak (Ad (kQ h (fun _ h=>skW (Ad (Aj (Ad (Ac 7 (riH Y4 h fun x14 _ h=>rsB 3 (rnW (Ad (Ac 11 (rsT 3 ?_)))))))))) fun _ h=>Gh (te_ (te_ (be_ (have h:=jO h hn8;(by obtain rfl:=osj h;exact Zl [] (Av (tl:=[]) (g:=2) []))))))));obtain ⟨y16,h16,h⟩:=Bk h;refine Nd (.tup []) [(oi 0 0,some (.cells 29 [ai u0,.giv u_a1_0_1 Y4 u1,.giv u_a1_0_2 .int u2,.giv u_a1_0_3 .int u3])),(oi 1 0,some (.cells 4 [.bool y16.1])),(oi 2 0,some (.cells 58 [.own (oi 3 0) .bool 0 y16.2.1.length])),(oi 3 0,some (.arr 4 .bool y16.2.1)),(oi 4 0,some (.cells 3 [ai y16.2.2])),(oi 0 0,none),(oi 1 0,none),(oi 2 0,none),(oi 3 0,none),(oi 4 0,none)] [] [tI x14.2.2.1,.box (oi 0 0) 0,.box (oi 1 0) 0,.box (oi 2 0) 0,.box (oi 4 0) 0] (caps:=[.box (oi 0 0) 0,.box (oi 1 0) 0,.box (oi 2 0) 0,.box (oi 4 0) 0]) trivial (Bm (u_c0_1:=u_a1_0_1) (u_c0_2:=u_a1_0_2) (u_c0_3:=u_a1_0_3) h16) kr ⟨kr,⟨kr,⟨kr,⟨kr,⟨kr,trivial⟩⟩⟩⟩⟩ (.cons (.ren kr) (.cons (.ren kr) (.cons (.ren kr) (.cons (.ren kr) (.cons (.ren kr) .nil))))) (Eh kr kr ⟨Bv kr,⟨Bv kr,⟨Bv kr,⟨Hp (k:=oi 2 0) (ty:=58) (cs:=[.own (oi 3 0) .bool 0 l8_p3.length]) (Bv kr) kr kr,⟨Bv kr,trivial⟩⟩⟩⟩⟩) (rnW (Ac 15 (rsT 3 ?_)));obtain ⟨y17,h17,h⟩:=Bk h;exact Nd (.tup []) [(oi 0 0,some (.cells 29 [ai u0,.giv u_a1_0_1 Y4 u1,.giv u_a1_0_2 .int u2,.giv u_a1_0_3 .int u3])),(oi 1 0,some (.cells 4 [.bool y17.1])),(oi 2 0,some (.cells 58 [.own (oi 3 0) .bool 0 y17.2.1.length])),(oi 3 0,some (.arr 4 .bool y17.2.1)),(oi 4 0,some (.cells 3 [ai y17.2.2])),(oi 0 0,none),(oi 1 0,none),(oi 2 0,none),(oi 3 0,none),(oi 4 0,none)] [] [tI x14.2.2.2,.box (oi 0 0) 0,.box (oi 1 0) 0,.box (oi 2 0) 0,.box (oi 4 0) 0] (caps:=[.box (oi 0 0) 0,.box (oi 1 0) 0,.box (oi 2 0) 0,.box (oi 4 0) 0]) trivial (Bm (u_c0_1:=u_a1_0_1) (u_c0_2:=u_a1_0_2) (u_c0_3:=u_a1_0_3) h17) kr ⟨kr,⟨kr,⟨kr,⟨kr,⟨kr,trivial⟩⟩⟩⟩⟩ (.cons (.ren kr) (.cons (.ren kr) (.cons (.ren kr) (.cons (.ren kr) (.cons (.ren kr) .nil))))) (Eh kr kr ⟨Bv kr,⟨Bv kr,⟨Bv kr,⟨Hp (k:=oi 2 0) (ty:=58) (cs:=[.own (oi 3 0) .bool 0 y16.2.1.length]) (Bv kr) kr kr,⟨Bv kr,trivial⟩⟩⟩⟩⟩) (Bi (bn_ (tn_ (wr_ (Ac 17 (raH h fun h=>rsT 1 (Bi (tn_ (jL [])))))))))
theorem Ck (h:Ao bA dA aA aB bB dB aC aD cA iA bC=some jA):He Try.prog Tab 36 [.agg [ai bA,.tree Y4 dA,tI aA,tI aB],.fn 37 [.box (oi 0 0) 0,.box (oi 1 0) 0,.box (oi 2 0) 0,.box (oi 4 0) 0]] [(oi 0 0,.cells 29 [ai bB,.tree Y4 dB,tI aC,tI aD]),(oi 1 0,.cells 4 [.bool cA]),(oi 2 0,.cells 58 [.own (oi 3 0) .bool 0 iA.length]),(oi 3 0,.arr 4 .bool iA),(oi 4 0,.cells 3 [ai bC])] (.tup []) [(oi 0 0,.cells 29 [ai bB,.tree Y4 dB,tI aC,tI aD]),(oi 1 0,.cells 4 [.bool jA.1]),(oi 2 0,.cells 58 [.own (oi 3 0) .bool 0 jA.2.1.length]),(oi 3 0,.arr 4 .bool jA.2.1),(oi 4 0,.cells 3 [ai jA.2.2])] :=
 I6 (fun u_a1_0_1=>[(oi 0 0,.cells 29 [ai bB,.giv u_a1_0_1 Y4 dB,tI aC,tI aD]),(oi 1 0,.cells 4 [.bool cA]),(oi 2 0,.cells 58 [.own (oi 3 0) .bool 0 iA.length]),(oi 3 0,.arr 4 .bool iA),(oi 4 0,.cells 3 [ai bC])]) (fun u_a1_0_1=>[(oi 0 0,.cells 29 [ai bB,.giv u_a1_0_1 Y4 dB,tI aC,tI aD]),(oi 1 0,.cells 4 [.bool jA.1]),(oi 2 0,.cells 58 [.own (oi 3 0) .bool 0 jA.2.1.length]),(oi 3 0,.arr 4 .bool jA.2.1),(oi 4 0,.cells 3 [ai jA.2.2])]) (oi 0 0) 1 (t:=Y4) (xs:=dB) (fun u_a1_0_1=>I6 (fun u_a1_0_2=>[(oi 0 0,.cells 29 [ai bB,.giv u_a1_0_1 Y4 dB,.giv u_a1_0_2 .int aC,tI aD]),(oi 1 0,.cells 4 [.bool cA]),(oi 2 0,.cells 58 [.own (oi 3 0) .bool 0 iA.length]),(oi 3 0,.arr 4 .bool iA),(oi 4 0,.cells 3 [ai bC])]) (fun u_a1_0_2=>[(oi 0 0,.cells 29 [ai bB,.giv u_a1_0_1 Y4 dB,.giv u_a1_0_2 .int aC,tI aD]),(oi 1 0,.cells 4 [.bool jA.1]),(oi 2 0,.cells 58 [.own (oi 3 0) .bool 0 jA.2.1.length]),(oi 3 0,.arr 4 .bool jA.2.1),(oi 4 0,.cells 3 [ai jA.2.2])]) (oi 0 0) 2 (t:=.int) (xs:=aC) (fun u_a1_0_2=>I6 (fun u_a1_0_3=>[(oi 0 0,.cells 29 [ai bB,.giv u_a1_0_1 Y4 dB,.giv u_a1_0_2 .int aC,.giv u_a1_0_3 .int aD]),(oi 1 0,.cells 4 [.bool cA]),(oi 2 0,.cells 58 [.own (oi 3 0) .bool 0 iA.length]),(oi 3 0,.arr 4 .bool iA),(oi 4 0,.cells 3 [ai bC])]) (fun u_a1_0_3=>[(oi 0 0,.cells 29 [ai bB,.giv u_a1_0_1 Y4 dB,.giv u_a1_0_2 .int aC,.giv u_a1_0_3 .int aD]),(oi 1 0,.cells 4 [.bool jA.1]),(oi 2 0,.cells 58 [.own (oi 3 0) .bool 0 jA.2.1.length]),(oi 3 0,.arr 4 .bool jA.2.1),(oi 4 0,.cells 3 [ai jA.2.2])]) (oi 0 0) 3 (t:=.int) (xs:=aD) (fun u_a1_0_3=>Ch (u_a1_0_1:=u_a1_0_1) (u_a1_0_2:=u_a1_0_2) (u_a1_0_3:=u_a1_0_3) h) (fun _=>.head _) (fun _=>.head _)) (fun _=>.head _) (fun _=>.head _)) (fun _=>.head _) (fun _=>.head _)
def Cj (u1:List (Int×Int×(List Int)×List Int)) (u0:Nat):Option (Ctl Nat (Ctl Unit Bool)) :=
 cond (decide ((u0:Int)<(u1.length:Int)))
 ((u1[u0]?).bind fun x18 =>
 (Cu x18.1 x18.2.1 x18.2.2.1 x18.2.2.2).bind fun y20 =>
 cond (!y20)
  (some (Ctl.out (Ctl.out false)))
  (og (u0+1<4611686018427387904) <|
  some (Ctl.next (u0+1))))
 (some (Ctl.out (Ctl.next ())))
def C9 (u0:Int) (u1:List (Int×Int×(List Int)×List Int)) (u2 u3:List Int):Option Bool :=
 ((Bn u0 0 100).bind fun y4 =>
 cond (!y4)
  (some true)
  (cond (decide (60<(u1.length:Int)))
   (some true)
   (cond (decide (12<(u2.length:Int)))
    (some true)
    (some (decide (12<(u3.length:Int))))))).bind fun u4 =>
cond u4
 (some false)
 (Ln (Ba (fun s_:Nat=>Cj u1 s_) 4611686018427387904 0) fun _ =>
 og (0<=u0/\u0<=u0/\u0<=1073741824/\(1:Int)*u0<=140737488355328) <|
 (Ao u0 u1 u2 u3 u0 u1 u2 u3 true (List.replicate u0.toNat (false:Bool)) 0).bind fun y27 =>
 (cond y27.1
   (some (y27.2.2==u0))
   (some false)).bind fun u5 =>
 some u5)
theorem Hg (h:C9 bA dA aA aB=some cA):cK 17 [.agg [ai bA,.tree Y4 dA,tI aA,tI aB]] (Au cA):=by
 refine cO Try.func17 (Ak (Ad (sqF h (fun u4=>sT [(1,.box (oi 0 1) 0),(29,.bool u4)] [(oi 0 1,.cells 29 [ai bA,.tree Y4 dA,tI aA,tI aB])]) (fun _ h=>Ac 25 (rsT 2 (rcH h Co fun y4 h=>rsT 2 (kR h 12 (fun _ h=>rsT 17 (Bi (tn_ (jE [(oi 0 1,oi 1 1)])))) fun _ h=>rsT 6 (kR h 18 (fun _ h=>rsT 11 (Bi (tn_ (jE [(oi 0 1,oi 1 1)])))) fun _ h=>rsT 6 (kR h 24 (fun _ h=>rsT 5 (Bi (tn_ (jE [(oi 0 1,oi 1 1)])))) fun _ h=>rsT 5 (Bi (tn_ (jE [(oi 0 1,oi 1 1)]))))))))) ?_)));intro u4 h;refine kQ h (fun _ h=>Ak (Ae (tr_ (jS h)))) fun _ h=>skW (sqC h (fun _=>sT [(1,.box (oi 0 1) 0)] [(oi 0 1,.cells 29 [ai bA,.tree Y4 dA,tI aA,tI aB])]) (fun _ h hk10=>Ak (Aj (lpF h (fun u5=>sT [(1,.box (oi 0 1) 0),(31,.tree Y4 dA),(32,an dA.length),(33,an u5)] [(oi 0 1,.cells 29 [ai bA,.tree Y4 dA,tI aA,tI aB])]) (Av []) (fun n_ u5 c_ h hn12=>Ak (Ad (kQ h (fun _ h=>skW (Ad (Aj (Ad (Ac 7 (riH Y4 h fun x18 _ h=>rsB 3 (rnW (Ad (Ac 10 (rsT 1 (rcH h Ii fun y20 h=>rsT 1 (rnW (kQ h (fun _ h=>Ak (Ae (br_ (tr_ (tr_ (br_ (tr_ (have h:=jO h hn12;(have h:=jO h hk10;jS h))))))))) fun _ h=>Bd (bn_ (tn_ (wr_ (Ac 12 (raH h fun h=>rsT 1 (Bi (tn_ (jL []))))))))))))))))))))) fun _ h=>lxT (have h:=jO h hn12;jC []))))))) ?_)
 intro _ h;refine Ad (Ac 11 (rsT 2 ?_));obtain ⟨g25,h⟩:=En h;exact rs1 (.own (oi 43 4) .bool 0 ((List.replicate bA.toNat (false:Bool)).length)) (oi 43 4) (.arr 4 .bool (List.replicate bA.toNat (false:Bool))) (Yw (t:=.bool) (k:=.i64) (k':=.i64) (m:=bA) (m':=bA) kr kr g25 rfl) (rsB 6 (rnW (Ad (Ac 14 (rsT 2 (rcM h [(oi 0 0,oi 0 1),(oi 1 0,oi 6 6),(oi 2 0,oi 5 5),(oi 3 0,oi 43 4),(oi 4 0,oi 7 7)] [.agg [ai bA,.tree Y4 dA,tI aA,tI aB],.fn 37 [.box (oi 0 1) 0,.box (oi 6 6) 0,.box (oi 5 5) 0,.box (oi 7 7) 0]] Ck ⟨kr,⟨kr,⟨kr,⟨kr,⟨kr,trivial⟩⟩⟩⟩⟩ (aR kr) (Eh kr kr ⟨Bv kr,⟨Bv kr,⟨Bv kr,⟨Hp (k:=oi 5 5) (ty:=58) (cs:=[.own (oi 43 4) .bool 0 ((List.replicate bA.toNat (false:Bool)).length)]) (Bv kr) kr kr,⟨Bv kr,trivial⟩⟩⟩⟩⟩) fun y27 h=>rnW (sqF h (fun u6=>sT [(2,.bool u6)] []) (fun _ h=>Ac 22 (rsT 2 (kR h 48 (fun _ h=>rsT 6 (Bi (tn_ (jE [])))) fun _ h=>rsT 6 (Bi (tn_ (jE [])))))) fun u6 h=>Ae (jS h))))))))
end


section
open Go.RowKit Go.Deep
set_option maxRecDepth 4000
set_option maxHeartbeats 4800000
variable {bA bB:Int} {aA aB aC:List Int}
def Dk (a0:Int):Option Int :=
 (Br a0 3 8).bind fun y4 =>
cond y4
 (some (wI (a0+6)))
 ((Br a0 9 14).bind fun y8 =>
 cond y8
  (some (wI (a0 - 6)))
  (some a0))
theorem Hn (h:Dk bA=some bB):cK 32 [ai bA] (Cp bB):=by
 exact cO Try.func32 (Ak (Ad (Aj (Ad (Ac 5 (rsT 1 (rcH h Cb fun y4 h=>rsT 1 (rnW (kQ h (fun _ h=>Ak (Ae (br_ (tr_ (jS h))))) fun _ h=>Ad (Ac 8 (rsT 1 (rcH h Cb fun y8 h=>rsT 1 (rnW (kQ h (fun _ h=>Ak (Ae (br_ (tr_ (jS h))))) fun _ h=>Bd (bn_ (tn_ (wr_ (Ak (Ae (jS h))))))))))))))))))))
def Gv (a0:List Int):Option (List Int) :=
 og (0+a0.length<=1073741824/\(0+a0.length)*8<=140737488355328) <|
some a0
theorem N0 (h:Gv aA=some aB):cK 31 [tI aA] (Cm aB):=by
 refine cO Try.func31 (Ak (Ad (Ac 6 (rsB 2 ?_))));obtain ⟨g3,h⟩:=En h;exact rs2 (oI 3 4 aA.length) (oi 3 2) (oi 3 4) (.arr 3 .int aA) (Wf (t:=.int) (t':=.int) (xs:=[]) (ys:=aA) (zs:=aA) (j:=oi 3 2) (len:=0) (c:=tI aA) kr kr rfl kr Y8 rfl g3) (rsT 1 (rnW (Ae (jR h [oI 3 4 aA.length] (J0 rfl (Io kr rfl) K0)))))
def Eb (a0:Int):Option Int :=
 (Bn a0 3 8).bind fun y4 =>
cond y4
 (some (wI ((wI (a0+9)) - 3)))
 ((Bn a0 9 14).bind fun y8 =>
 cond y8
  (some (wI (wI (a0 - 9)+3)))
  (some a0))
theorem Jb (h:Eb bA=some bB):cK 19 [ai bA] (Cp bB):=by
 exact cO Try.func19 (Ak (Ad (Aj (Ad (Ac 5 (rsT 1 (rcH h Co fun y4 h=>rsT 1 (rnW (kQ h (fun _ h=>Ak (Ae (br_ (tr_ (jS h))))) fun _ h=>Ad (Ac 8 (rsT 1 (rcH h Co fun y8 h=>rsT 1 (rnW (kQ h (fun _ h=>Ak (Ae (br_ (tr_ (jS h))))) fun _ h=>Bd (bn_ (tn_ (wr_ (Ak (Ae (jS h))))))))))))))))))))
def Dc (a1 a0:List Int) (u0:Nat) (u1:List Int):Option (Ctl (Nat×List Int) (List Int)) :=
 cond (decide ((u0:Int)<(a1.length:Int)))
 ((a1[u0]?).bind fun x12 =>
 (J5 a0 x12).bind fun x13 =>
 og (u1.length+1<=1073741824/\(u1.length+1)*8<=140737488355328) <|
 og (u0+1<4611686018427387904) <|
 some (Ctl.next (u0+1,u1++([x13]))))
 (some (Ctl.out u1))
def Ga (a0 a1:List Int):Option (List Int) :=
 og (0<=(0:Int)/\(0:Int)<=(a1.length:Int)/\(a1.length:Int)<=1073741824/\(8:Int)*(a1.length:Int)<=140737488355328) <|
(Ba (fun s_:Nat×List Int=>Dc a1 a0 s_.1 s_.2) 4611686018427387904 (0,[])).bind fun u0 =>
some u0
theorem M8 (h:Ga aA aB=some aC):cK 49 [tI aA,tI aB] (Cm aC):=by
 refine cO Try.func49 (Ak (Ad (Ac 6 (rsT 2 ?_))));obtain ⟨g3,h⟩:=En h;refine rs1 (oI 10 4 0) (oi 10 4) (.arr 3 .int []) (Kn (t:=.int) (k:=.i64) (k':=.i64) (m:=0) (m':=(aB.length:Int)) kr kr g3 rfl) (rsT 1 (rnW (sqF h (fun u0=>sT [(5,oI 0 1 u0.length)] [(oi 0 1,.arr 3 .int u0)]) ?_ fun u0 h=>Ak (Ae (jR h [oI 0 1 u0.length] (J0 rfl (Io kr rfl) K0))))));intro _ h;refine Ak (Aj (lpF h (fun (u2,u1)=>sT [(0,tI aA),(5,oI 0 1 u1.length),(11,tI aB),(12,an aB.length),(13,an u2)] [(oi 0 1,.arr 3 .int u1)]) (Av [(oi 0 1,oi 10 4)]) ?_));rintro n_ ⟨u2,u1⟩ c_ h hn6;refine Ak (Ad (kQ h (fun _ h=>skW (Ad (Aj (Ad (Ac 6 (riH .int h fun x12 _ h=>rsT 2 (rnW (Ac 14 (rsT 3 ?_))))))))) fun _ h=>lxT (have h:=jO h hn6;jE [])));obtain ⟨x13,f13,h⟩:=Bk h;obtain ⟨p13,b13,e13⟩:=Fi f13;refine rs0 (.telt none .int x13 0) (zi (t:=.int) (xs:=aA) (k:=.i64) (m:=x12) p13 e13) (rsB 2 ?_);obtain ⟨g14,h⟩:=En h;exact zB (oi 0 1) (oi 22 11) u1 (x13) g14 (rsT 1 (Bi (bn_ (tn_ (wr_ (Ac 16 (raH h fun h=>rsT 1 (Bi (tn_ (jL [(oi 0 1,oi 0 12)]))))))))))
def At (a0 a1:List Int):Option (List Int) :=
 (Ga a1 a0).bind fun y3 =>
some y3
theorem Nb (h:At aA aB=some aC):cK 46 [tI aA,tI aB] (Cm aC):=by
 exact cO Try.func46 (Ak (Ad (Ac 6 (rsT 2 (rcH h M8 fun y3 h=>rsT 1 (rnW (Ae (jR h [oI 112 4 y3.length] (J0 rfl (Io kr rfl) K0)))))))))
def E7 (a0:Int):Option (List Int) :=
 og (0<=a0/\a0<=a0/\a0<=1073741824/\(8:Int)*a0<=140737488355328) <|
some (List.replicate a0.toNat (0:Int))
theorem Nt (h:E7 bA=some aA):cK 47 [ai bA] (Cm aA):=by
 refine cO Try.func47 (Ak (Ad (Ac 5 (rsT 1 ?_))));obtain ⟨g3,h⟩:=En h;exact rs1 (oI 4 3 bA.toNat) (oi 4 3) (.arr 3 .int (List.replicate bA.toNat (0:Int))) (Kn (t:=.int) (k:=.i64) (k':=.i64) (m:=bA) (m':=bA) kr kr g3 rfl) (rsT 1 (rnW (Ae (jR h [oI 4 3 bA.toNat] (J0 rfl (Io kr List.length_replicate.symm) K0)))))
def D9 (y3:List Int) (u0:Nat) (u1:List Int):Option (Ctl (Nat×List Int) (List Int)) :=
 cond (decide ((u0:Int)<(y3.length:Int)))
 ((u1[u0]?).bind fun x12 =>
 og (u0+1<4611686018427387904) <|
 some (Ctl.next (u0+1,u1.set u0 (u0:Int))))
 (some (Ctl.out u1))
def Dv (a0:Int):Option (List Int) :=
 (E7 a0).bind fun y3 =>
(Ba (fun s_:Nat×List Int=>D9 y3 s_.1 s_.2) 4611686018427387904 (0,y3)).bind fun u0 =>
some u0
theorem Pq (h:Dv bA=some aA):cK 39 [ai bA] (Cm aA):=by
 refine cO Try.func39 (Ak (Ad (Ac 5 (rsT 1 (rcH h Nt fun y3 h=>rsT 1 (rnW (sqF h (fun u2=>sT [(3,oI 0 1 u2.length)] [(oi 0 1,.arr 3 .int u2)]) ?_ fun u2 h=>Ak (Ae (jR h [oI 0 1 u2.length] (J0 rfl (Io kr rfl) K0))))))))));intro _ h;refine Ak (Aj (lpF h (fun (u1,u0)=>sT [(3,oI 0 1 u0.length),(8,an y3.length),(9,an u1)] [(oi 0 1,.arr 3 .int u0)]) (Av [(oi 0 1,oi 96 3)]) ?_));rintro n_ ⟨u1,u0⟩ c_ h hn6;refine Ak (Ad (kQ h (fun _ h=>skW (Ad (Aj (Ak (Ac 10 (rsT 3 ?_)))))) fun _ h=>lxT (have h:=jO h hn6;jE [])));obtain ⟨x12,e12,h⟩:=Bk h;refine zO (oi 0 1) .int u0.length (Bt e12) (zS (oi 0 1) ((u1:Int)) e12 (Bi (bn_ (tn_ (wr_ (Ac 12 (raH h fun h=>rsT 1 (Bi (tn_ ?_)))))))));obtain rfl:=zj h;exact jLw hn6 ((wL 3 (((rfl:u0.length=u0.length).trans List.length_set.symm):u0.length=(u0.set u1 (u1:Int)).length)).trans (Av []))
end


section
theorem Tj (b:Bool):Ln (some (if b then Ctl.next () else Ctl.out false)) (fun _:Unit=>some true)=some b:=by cases b <;> rfl
theorem G8 (x lo hi:Int):Br x lo hi=some (inR x lo hi):=by
 unfold Br inR;by_cases h:lo<=x <;> simp [h]
theorem Hw (x lo hi:Int):Bn x lo hi=some (inR x lo hi):=by
 unfold Bn inR;by_cases h:lo<=x <;> simp [h]
theorem Lx (xs:List Int) (lo hi:Int) (hx:xs.length<=1099511627776):Cs xs lo hi=some (xs.all fun x=>inR x lo hi):=by
 unfold Cs;rw [H6 xs (fun x=>inR x lo hi) (.next ()) (.out false) oM (fun i x h=>?_) ?_,Tj]
 ·unfold E4;rw [Bs oM,cond_false]
 ·have:=Bt h;unfold E4;rw [B7 oM,cond_true,h,obs,G8,obs,Be oM];cases inR x lo hi <;> rfl
theorem Yu {n:Int} (h:0<=n/\n<=1000000):E7 n=some (List.replicate n.toNat 0):=by
 unfold E7;rw [Be oM]
end
section
abbrev Edg:=Int×Int×List Int×List Int
def Zv (e:Edg):Prop:=e.2.2.1.length<=9223372036854775807/\e.2.2.2.length<=9223372036854775807
def Ff (e:Edg):Prop:=e.2.2.1.length<=1048576/\e.2.2.2.length<=1048576
theorem Ia (v:Int) (n:Nat) (hv:0<=v/\v<=1048576):(szV v n= -1)∨(szV v n=v - n/\0<=v - n/\n<=1048576):=by
 unfold szV;by_cases h:v<n
 ·rw [if_pos h];exact .inl rfl
 ·rw [if_neg h];exact .inr ⟨rfl,by omega,by omega⟩
theorem Wn (e1 e2:Int) (xs ys:List Int) (h1:xs.length<=9223372036854775807) (h2:ys.length<=9223372036854775807) {v:Int} (hv:0<=v/\v<=1048576) :
  ∃ y,Eq e1 e2 xs ys v=some y/\(y<0∨(0<=y/\y<=v/\xs.length<=1048576/\ys.length<=1048576)):=by
 unfold Eq;rw [J4 xs hv h1,obs];rcases Ia v xs.length hv with h|⟨h,h3,h4⟩
 ·rw [h];exact ⟨_,rfl,.inl oM⟩
 rw [h,Bs oM,cond_false,J4 ys oM h2,obs];rcases Ia (v - xs.length) ys.length oM with h|⟨h,h5,h6⟩
 ·rw [h];exact ⟨_,rfl,.inl oM⟩
 rw [h,Bs oM,cond_false];exact ⟨_,rfl,.inr ⟨by omega,by omega,h4,h6⟩⟩
theorem U7 (l:List Edg) {v:Int} (hv:0<=v/\v<=1048576) (hl:l.length<=9223372036854775807) (hi:∀ x∈l,Zv x):∃ y,D7 l v=some y/\(y<0∨(0<=y/\y<=v/\l.length<=1048576/\∀ x∈l,Ff x)):=by
 unfold D7;rw [D8 (n:=v - ((l.length:Nat):Int)) oM oM];by_cases h:v - ((l.length:Nat):Int)<0
 ·rw [B7 h];exact ⟨_,rfl,.inl oM⟩
 rw [Bs h,cond_false]
 have key:∃ c,Ba (fun s_:Int×Nat=>C1 l s_.1 s_.2) 4611686018427387904 (v - ((l.length:Nat):Int),0)=some c/\((∃ y,c=Ctl.next y/\0<=y/\y<=v/\∀ x∈l,Ff x)∨∃ y,c=Ctl.out y/\y<0):=by
  refine Ng (Post:=fun c=>(∃ y,c=Ctl.next y/\0<=y/\y<=v/\∀ x∈l,Ff x)∨∃ y,c=Ctl.out y/\y<0) l.length (fun k s=>s.2=k/\0<=s.1/\s.1<=v/\∀ x∈l.take k,Ff x) oM ⟨rfl,by dsimp only;omega,by dsimp only;omega,by simp⟩ ?_ ?_
  ·rintro k ⟨y,k'⟩ hk ⟨h1,h2,h3,h4⟩;dsimp only at h1 h2 h3;subst h1;have hn:=gEg hk;obtain ⟨z1,z2⟩:=hi _ (List.getElem_mem hk);obtain ⟨y',hy,hq⟩:=Wn l[k'].1 l[k'].2.1 l[k'].2.2.1 l[k'].2.2.2 z1 z2 (v:=y) oM
   try dsimp only
   unfold C1;rw [B7 oM,cond_true,hn,obs,hy,obs];rcases hq with hq|⟨q1,q2,q3,q4⟩
   ·rw [B7 hq];exact .inr ⟨_,rfl,.inr ⟨_,rfl,by omega⟩⟩
   ·rw [Bs oM,cond_false,Be oM];refine .inl ⟨_,rfl,rfl,by dsimp only;omega,by dsimp only;omega,fun x hx=>?_⟩;rw [List.take_add_one,hn] at hx;rcases List.mem_append.1 hx with hx|hx
    ·exact h4 x hx
    ·obtain rfl:=List.mem_singleton.1 hx;exact ⟨q3,q4⟩
  ·rintro ⟨y,k'⟩ ⟨h1,h2,h3,h4⟩;dsimp only at h1 h2 h3;subst h1;rw [List.take_length] at h4
   try dsimp only
   unfold C1;rw [Bs oM,cond_false];exact ⟨_,rfl,.inl ⟨_,rfl,h2,h3,h4⟩⟩
 obtain ⟨c,hc,⟨y,rfl,h1,h2,h3⟩|⟨y,rfl,h1⟩⟩:=key
 ·rw [hc];exact ⟨_,rfl,.inr ⟨h1,h2,by omega,h3⟩⟩
 ·rw [hc];exact ⟨_,rfl,.inl h1⟩
theorem U6 (w:Int) (es:List Edg) (xs ys:List Int) (hl:es.length<=9223372036854775807) (hi:∀ x∈es,Zv x) (h1:xs.length<=9223372036854775807) (h2:ys.length<=9223372036854775807) :
  ∃ y,D1 w es xs ys 1048576=some y/\(y<0∨(0<=y/\es.length<=1048576/\(∀ x∈es,Ff x)/\xs.length<=1048576/\ys.length<=1048576)):=by
 unfold D1;obtain ⟨y,hy,hq⟩:=U7 es (v:=1048576) oM hl hi;rw [hy,obs];rcases hq with hq|⟨q1,q2,q3,q4⟩
 ·rw [B7 hq];exact ⟨_,rfl,.inl oM⟩
 rw [Bs oM,cond_false,J4 xs oM h1,obs];rcases Ia y xs.length oM with h|⟨h,h3,h4⟩
 ·rw [h];exact ⟨_,rfl,.inl oM⟩
 rw [h,Bs oM,cond_false,J4 ys oM h2,obs];rcases Ia (y - xs.length) ys.length oM with h|⟨h,h5,h6⟩
 ·rw [h];exact ⟨_,rfl,.inl oM⟩
 rw [h,Bs oM,cond_false];exact ⟨_,rfl,.inr ⟨by omega,q3,q4,h4,h6⟩⟩
theorem Xr (e:Edg) (h:Ff e):Ge e.1 e.2.1 e.2.2.1 e.2.2.2=some e:=by
 unfold Ge;rw [Ql _ (by have:=h.1;omega),obs,Ql _ (by have:=h.2;omega),obs]
theorem Xb (e:Edg) (h:Ff e):Eo e.1 e.2.1 e.2.2.1 e.2.2.2 e.1 e.2.1 e.2.2.1 e.2.2.2=some true:=by
 unfold Eo;rw [bne_self_eq_false,cond_false,bne_self_eq_false,cond_false,J7 _ (by have:=h.1;omega),obs,J7 _ (by have:=h.2;omega)];rfl
theorem Vi (l:List Edg) (hl:l.length<=1048576) (hc:∀ x∈l,Ff x):Ed l l=some true:=by
 unfold Ed;rw [bne_self_eq_false,cond_false]
 have h:Ba (fun s_:Nat=>C0 l l s_) 4611686018427387904 0=some (Ctl.next ()):=by
  refine Dd l.length (fun i=>i) oM _ rfl (fun i hi=>?_) ?_
  ·have hx:=gEg hi;have hk:=hc _ (List.getElem_mem hi)
   try dsimp only
   unfold C0;rw [B7 oM,cond_true,hx,obs,obs,Xb _ hk,obs,Bool.not_true,cond_false,Be oM]
  ·try dsimp only
   unfold C0;rw [Bs oM,cond_false]
 rw [h];rfl
theorem Vh (w:Int) (es:List Edg) (xs ys:List Int) (h1:es.length<=1048576) (h2:∀ x∈es,Ff x) (h3:xs.length<=1048576) (h4:ys.length<=1048576):Fm w es xs ys w es xs ys=some true:=by
 unfold Fm;rw [bne_self_eq_false,cond_false,Vi es h1 h2,obs,J7 xs oM,obs,J7 ys oM];rfl
def edK (e:Edg):Bool:=inR e.1 3 14&&((if e.1=7∨e.1=13 then inR e.2.1 0 96 else e.2.1==0)&&(((e.2.2.1.length:Nat):Int)==(gwV e.1).1&&((e.2.2.2.length:Nat):Int)==(gwV e.1).2))
def B8 (W:Int) (xs:List Int):Bool:=xs.all fun x=>inR x 0 (W - 1)
theorem Jv {e:Edg} (h:edK e=true):e.2.2.1.length<=2/\e.2.2.2.length<=2:=by
 unfold edK at h;simp only [Bool.and_eq_true,beq_iff_eq] at h
 have:(gwV e.1).1<=2/\(gwV e.1).2<=2:=by
  unfold gwV;repeat' split
  all_goals decide
 omega
theorem V7 (e:Edg):Cu e.1 e.2.1 e.2.2.1 e.2.2.2=some (edK e):=by
 unfold Cu Dr Cn E3 Cz edK;simp only [Hw,obs];cases hr:inR e.1 3 14
 ·rfl
 have hb:=Bw.1 hr;rw [Be hb]
 have hl:∀ a b c d:Int,([a,b]==[c,d])=(c==a&&d==b):=by
  intro a b c d;show ((a==c)&&((b==d)&&true))=_;rw [Bool.and_true,BEq.comm (a:=a),BEq.comm (a:=b)]
 by_cases h7:e.1=7
 ·rw [h7];simp only [Int.reduceBEq,cond_true,obs,true_or,if_true,Bool.not_true,cond_false,Bool.true_and,hl];cases inR e.2.1 0 96 <;> rfl
 by_cases h13:e.1=13
 ·rw [h13];simp only [Int.reduceBEq,cond_true,cond_false,obs,or_true,if_true,Bool.not_true,Bool.true_and,hl];cases inR e.2.1 0 96 <;> rfl
 rw [if_neg oM,beq_eq_false_iff_ne.2 h7,beq_eq_false_iff_ne.2 h13];simp only [cond_false,obs,Bool.not_true,Bool.true_and,hl];cases e.2.1==0 <;> rfl
theorem O2 (k:Int) (h:3<=k/\k<=14):F8 k=some (gwV k):=by
 have hk:k=3∨k=4∨k=5∨k=6∨k=7∨k=8∨k=9∨k=10∨k=11∨k=12∨k=13∨k=14:=by omega
 rcases hk with rfl|rfl|rfl|rfl|rfl|rfl|rfl|rfl|rfl|rfl|rfl|rfl <;> rfl
theorem X8 (e:Edg) {W:Int} (hW:0<=W/\W<=100):Dm e.1 e.2.1 e.2.2.1 e.2.2.2 W=some (edK e&&(B8 W e.2.2.1&&B8 W e.2.2.2)):=by
 have hv:inR e.1 3 14=true->Ep e.1 e.2.1 (⟨#[]⟩:ByteArray)=some (if e.1=7∨e.1=13 then inR e.2.1 0 96 else e.2.1==0):=by
  intro hr;have hb:=Bw.1 hr;unfold Ep;rw [show (!((⟨#[]⟩:ByteArray).toList==(⟨#[]⟩:ByteArray).toList))=false by simp,cond_false,G8,Bw.2 (show (1:Int)<=e.1/\e.1<=14 by omega),obs,obs,Bool.not_true,cond_false,beq_eq_false_iff_ne.2 (show e.1≠1 by omega),cond_false];by_cases h7:e.1=7
  ·rw [h7];simp [G8]
  by_cases h13:e.1=13
  ·rw [h13];simp [G8]
  rw [if_neg oM,beq_eq_false_iff_ne.2 h7,beq_eq_false_iff_ne.2 h13];rfl
 cases hk:edK e
 ·unfold Dm;unfold edK at hk;rw [G8,obs];cases hr:inR e.1 3 14
  ·rfl
  rw [hr,Bool.true_and] at hk;rw [hv hr,Bool.not_true,cond_false,obs];cases hq:(if e.1=7∨e.1=13 then inR e.2.1 0 96 else e.2.1==0)
  ·rfl
  rw [hq,Bool.true_and] at hk;rw [obs,Bool.not_true,cond_false,O2 _ (Bw.1 hr),obs];cases h1:((e.2.2.1.length:Nat):Int)==(gwV e.1).1
  ·rfl
  rw [h1,Bool.true_and] at hk;rw [hk];rfl
 ·have hle:=Jv hk;unfold Dm;unfold edK at hk;simp only [Bool.and_eq_true] at hk;obtain ⟨hr,hq,h1,h2⟩:=hk;rw [G8,obs,hr,Bool.not_true,cond_false,hv hr,hq,obs,obs,Bool.not_true,cond_false,O2 _ (Bw.1 hr),obs,h1,h2,cond_true,cond_true,D8 oM oM,Lx _ _ _ oM,obs,Lx _ _ _ oM];unfold B8;cases (e.2.2.1.all fun x=>inR x 0 (W - 1)) <;> cases (e.2.2.2.all fun x=>inR x 0 (W - 1)) <;> rfl
end
section
open Go.RowKit Go.Deep
abbrev As:Ty:=.pair .int (.pair .int (.pair (.slice .int) (.slice .int)))
theorem Te {R R':Nat->Prop} (x0 x1:Int) (x2:List Int) (A2:Option Addr) (c2:Nat) (l2:List Addr) (x3:List Int) (A3:Option Addr) (c3:Nat) (l3:List Addr) (w:World) (s2:Sl R w .int A2 c2 x2 l2) (s3:Sl R' w .int A3 c3 x3 l3) (hc:Ff (x0,x1,x2,x3)) (tab:Tab w) :
  Calls Try.prog 33 #[.agg #[.int .i64 x0,.int .i64 x1,.slice A2 x2.length c2,.slice A3 x3.length c3]] w fun e w'=>∃ B2 d2 m2 B3 d3 m3,e=.returned (.agg #[.int .i64 x0,.int .i64 x1,.slice B2 x2.length d2,.slice B3 x3.length d3])/\Sl (A9 w.heap.size) w' .int B2 d2 x2 m2/\Sl (A9 w.heap.size) w' .int B3 d3 x3 m3/\Fresh w' w.heap.size (m2++m3)/\Below w.heap.size w w':=by
 refine (Mf (Xr (x0,x1,x2,x3) hc) w (fun _=>True) [.agg #[.int .i64 x0,.int .i64 x1,.slice A2 x2.length c2,.slice A3 x3.length c3]] (fun _ hb=>tab.below hb) ⟨_,_,rfl,⟨_,rfl,⟨_,_,rfl,rfl,⟨_,_,rfl,rfl,⟨_,_,rfl,⟨A2,c2,l2,rfl,Dy s2⟩,⟨_,_,rfl,⟨A3,c3,l3,rfl,Dy s3⟩,rfl⟩⟩⟩⟩⟩,rfl⟩).mono ?_;rintro e w' ⟨u,rfl,hb,hv⟩;obtain ⟨us,ls,ho,hf,rfl⟩:=RV.out_of hv rfl;obtain ⟨_,_,rfl,rfl,_,_,rfl,rfl,B2,d2,m2,_,_,rfl,rfl,t2,B3,d3,m3,_,_,rfl,rfl,t3,rfl,rfl⟩:=ho;exact ⟨B2,d2,m2,B3,d3,m3,rfl,t2,t3,by simpa using hf,hb⟩
theorem Kq {R:Nat->Prop} {w:World} {A:Option Addr} {c:Nat} {xs:List (Int×Int×List Int×List Int)} {l:List Addr} (h:Sl R w As A c xs l) (h0:0<xs.length) :
  ∃ (b o:Nat) (f:Nat->List Addr),A=some ⟨b,o,none⟩/\l=(List.range xs.length).flatMap f/\∀ (k:Nat) (hk:k<xs.length),∃ A2 c2 l2 A3 c3 l3,
   w.cell? ⟨b,o+k*4,none⟩=some (.int .i64 xs[k].1)/\w.cell? ⟨b,o+k*4+1,none⟩=some (.int .i64 xs[k].2.1)/\w.cell? ⟨b,o+k*4+2,none⟩=some (.slice A2 xs[k].2.2.1.length c2)/\w.cell? ⟨b,o+k*4+3,none⟩=some (.slice A3 xs[k].2.2.2.length c3) /\
   Sl R w .int A2 c2 xs[k].2.2.1 l2/\Sl R w .int A3 c3 xs[k].2.2.2 l3/\f k=⟨b,o+k*4,none⟩ :: ⟨b,o+k*4+1,none⟩ :: (l2++l3):=by
 obtain ⟨b,o,f,rfl,hr,_,e,hf⟩:=V6 h h0;refine ⟨b,o,f,rfl,e,fun k hk=>?_⟩;obtain ⟨_,_,⟨h0,rfl⟩,⟨_,_,⟨h1,rfl⟩,⟨l2,l3,⟨A2,c2,h2,s2⟩,⟨A3,c3,h3,s3⟩,rfl⟩,rfl⟩,e⟩:=hf k hk;simp only [Ax,Ty.size,Nat.reduceAdd] at h0 h1 h2 h3 e;exact ⟨A2,c2,l2,A3,c3,l3,h0,h1,by simpa [Nat.add_assoc] using h2,by simpa [Nat.add_assoc] using h3,s2,s3,by simpa [Nat.add_assoc] using e⟩
set_option maxHeartbeats 1000000 in
theorem Rk {R:Nat->Prop} (xs:List (Int×Int×List Int×List Int)) (A:Option Addr) (c:Nat) (l:List Addr) (w:World) (h:Sl R w As A c xs l) (hn:xs.length<=1048576) (hc:∀ x∈xs,Ff x) (tab:Tab w) :
  Calls Try.prog 15 #[.slice A xs.length c] w fun e w'=>∃ g c' l',e=.returned (.slice (some ⟨g,0,none⟩) xs.length c')/\Sl (A9 w.heap.size) w' As (some ⟨g,0,none⟩) c' xs l'/\Fresh w' w.heap.size l'/\Below w.heap.size w w':=by
 have hmk:=fun W=>Nu (P:=Try.prog) 27 45 #[.int .i64 0,.int .i64 0,.slice none 0 0,.slice none 0 0] 4 64 Try.underlying27 (by kernel_rfl) .i64 .i64 xs.length oM oM W
 go_enter Try.func15,Try.ntmps15
 go_wp2
 go_loopw [4] (fun i wr=>∃ k:Nat,k<=xs.length/\i=.int .i64 k/\LaidV w.heap.size 45 As xs.length k xs wr/\Below w.heap.size w wr) (fun i _=>xs.length - (intOf i).toNat)
 case atStart=>exact ⟨0,by omega,rfl,LaidV.start (Qk w #[.int .i64 0,.int .i64 0,.slice none 0 0,.slice none 0 0] (xs.length*4) 45),by repeat (first|with_reducible exact Below.refl _ _|((with_reducible refine Below.setCell ?_ ?_ _);rotate_left;focus (first|(simp;done)|omega|(simp;omega)))|((with_reducible refine Below.alloc ?_ ?_ _);rotate_left;focus (first|(simp;done)|omega|(simp;omega)))|(with_reducible refine Below.drew ?_)|(with_reducible refine below_draws_ ?_ _))⟩
 case round =>
  obtain ⟨k,hk,rfl,hL,hbl⟩:=hrel;by_cases hlt:k<xs.length
  ·obtain ⟨b,o,f,rfl,_,hs⟩:=Kq h oM;obtain ⟨A2,c2,l2,A3,c3,l3,e0,e1,e2,e3,s2,s3,_⟩:=hs k hlt;have hok:=hc xs[k] (List.getElem_mem hlt);obtain ⟨⟨x0,x1,x2,x3⟩,hx⟩:∃ x,x=xs[k]:=⟨_,rfl⟩
   rw [← hx] at e0 e1 e2 e3 s2 s3 hok;have d0:=Aa hbl e0;have d1:=Aa hbl e1;have d2:=Aa hbl e2;have d3:=Aa hbl e3;have hg:=hL.lt;have hX:=Lib.hid hx;have hH:=Lib.hid hL
   clear hs e0 e1 e2 e3 hx hL
   dsimp only at s2 s3 d0 d1 d2 d3
   go_wp2_with fail
   refine (Te x0 x1 x2 A2 c2 l2 x3 A3 c3 l3 _ (by exact Ab s2 hbl) (by exact Ab s3 hbl) hok (by exact tab.below hbl)).mono ?_;rintro e w1 ⟨B2,q2,m2,B3,q3,m3,rfl,t2,t3,f1,hb1⟩;have hL1:=hH.out.below hb1;obtain ⟨F,hrow⟩:=hL1.row;simp only [Ty.size,Nat.reduceAdd] at hrow;obtain ⟨v0,c0⟩:∃ v,w1.cell? ⟨w.heap.size,k*4,none⟩=some v:=⟨_,hrow.cell oM⟩
   have f0:=hrow.frozen (k*4);obtain ⟨v1,c1'⟩:∃ v,w1.cell? ⟨w.heap.size,k*4+1,none⟩=some v:=⟨_,hrow.cell oM⟩
   have f1':=hrow.frozen (k*4+1);obtain ⟨v2,c2'⟩:∃ v,w1.cell? ⟨w.heap.size,k*4+2,none⟩=some v:=⟨_,hrow.cell oM⟩
   have f2':=hrow.frozen (k*4+2);obtain ⟨v3,c3'⟩:∃ v,w1.cell? ⟨w.heap.size,k*4+3,none⟩=some v:=⟨_,hrow.cell oM⟩
   have f3':=hrow.frozen (k*4+3)
   have hS:=Lib.hid (hH.out.step (cs:=[.int .i64 x0,.int .i64 x1,.slice B2 x2.length q2,.slice B3 x3.length q3]) (l:=m2++m3) hb1 hlt (by
    rw [← hX.out];exact ⟨[_],_,[],_,rfl,⟨rfl,rfl⟩,⟨[_],_,[],_,rfl,⟨rfl,rfl⟩,⟨[_],_,m2,m3,rfl,⟨B2,q2,rfl,t2⟩,⟨B3,q3,rfl,t3⟩,rfl⟩,rfl⟩,rfl⟩) f1)
   clear hrow hL1 t2 t3 f1
   go_wp2
   go_roundw
   case rel =>
    refine ⟨k+1,by omega,by go_num,hS.out,?_⟩;exact Hc (Nat.le_refl _) (vs:=[.int .i64 x0,.int .i64 x1,.slice B2 x2.length q2,.slice B3 x3.length q3]) (o:=k*4) (hbl.trans (hb1.mono hbl.size))
   case measure=>simp [intOf];omega
  ·obtain rfl:k=xs.length:=by omega
   go_wp2
   go_ret
   obtain ⟨l',hs,hf⟩:=hL.done rfl (by simp only [maxLen];omega) (lo:=w.heap.size) (Nat.le_refl _);exact ⟨_,_,l',rfl,hs,hf,hbl⟩
end
end Go.Proofs.Ytdjehfcigdkgjaa
