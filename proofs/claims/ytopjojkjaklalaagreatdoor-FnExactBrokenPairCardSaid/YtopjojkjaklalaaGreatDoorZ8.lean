/- Lemmas on the program and on partial functions that stand in place of its code (part 8); no condition beyond those that each one states. -/
import Derived.Test.YtopjojkjaklalaaGreatDoorZ7
import Derived.Deep.RegionHeld3
namespace Go.Proofs.YtopjojkjaklalaaGreatDoor
section
def Cg (p a b:Int):Prop:=∃ q,a=b+p*q
section
variable {p a b c d:Int}
theorem Cg.rf:Cg p a a:=⟨0,by simp⟩
theorem Cg.of (h:a=b):Cg p a b:=h▸Cg.rf
theorem Cg.symm (h:Cg p a b):Cg p b a:=by obtain ⟨q,rfl⟩:=h;exact ⟨-q,by grind⟩
theorem Cg.trans (h1:Cg p a b) (h2:Cg p b c):Cg p a c:=by obtain ⟨q,rfl⟩:=h1;obtain ⟨r,rfl⟩:=h2;exact ⟨q+r,by grind⟩
theorem Cg.add (h1:Cg p a b) (h2:Cg p c d):Cg p (a+c) (b+d):=by obtain ⟨q,rfl⟩:=h1;obtain ⟨r,rfl⟩:=h2;exact ⟨q+r,by grind⟩
theorem Cg.sub (h1:Cg p a b) (h2:Cg p c d):Cg p (a - c) (b - d):=by obtain ⟨q,rfl⟩:=h1;obtain ⟨r,rfl⟩:=h2;exact ⟨q - r,by grind⟩
theorem Cg.mul (h1:Cg p a b) (h2:Cg p c d):Cg p (a*c) (b*d):=by obtain ⟨q,rfl⟩:=h1;obtain ⟨r,rfl⟩:=h2;exact ⟨q*d+b*r+p*q*r,by grind⟩
theorem Cg.md:Cg p (a % p) a:=⟨-(a / p),by have:=Int.emod_add_mul_ediv a p;grind⟩
theorem Cg.to (h:Cg p a b):a % p=b % p:=by obtain ⟨q,rfl⟩:=h;rw [Int.add_mul_emod_self_left]
theorem Cg.fr (h:a % p=b % p):Cg p a b:=(Cg.md.symm.trans (Cg.of h)).trans Cg.md
theorem Cg.eq (h:Cg p a b) (h1:0<=a/\a<p) (h2:0<=b/\b<p):a=b:=by
 have:=h.to
 rwa [Int.emod_eq_of_lt h1.1 h1.2,Int.emod_eq_of_lt h2.1 h2.2] at this
end
def sm:Nat->(Nat->Int)->Int
 | 0,_=>0
 | k+1,f=>sm k f+f k
section
variable {p:Int} {f g:Nat->Int}
theorem M2:∀ {k:Nat},(∀ i,i<k->Cg p (f i) (g i))->Cg p (sm k f) (sm k g)
 | 0,_=>Cg.rf
 | k+1,h=>(M2 fun i hi=>h i oM).add (h k oM)
theorem Vt:∀ {k:Nat},(∀ i,i<k->f i=g i)->sm k f=sm k g
 | 0,_=>rfl
 | k+1,h=>by unfold sm;rw [Vt fun i hi=>h i oM,h k oM]
theorem R0:∀ {k:Nat},sm k (fun i=>f i+g i)=sm k f+sm k g
 | 0=>rfl
 | k+1=>by unfold sm;rw [R0];dsimp only;omega
theorem Uk {a:Int}:∀ {k:Nat},sm k (fun i=>a*f i)=a*sm k f
 | 0=>by simp [sm]
 | k+1=>by unfold sm;rw [Uk];grind
theorem Lf:∀ {k:Nat},(∀ i,i<k->f i=0)->sm k f=0
 | 0,_=>rfl
 | k+1,h=>by unfold sm;rw [Lf fun i hi=>h i oM,h k oM];rfl
theorem Pn {t:Nat}:∀ {k:Nat},t<k->(∀ i,i<k->i≠t->f i=0)->sm k f=f t
 | 0,h,_=>by omega
 | k+1,h,h0=>by
  unfold sm;by_cases e:t=k
  ·subst e;rw [Lf fun i hi=>h0 i oM oM];omega
  ·rw [Pn (t:=t) oM fun i hi=>h0 i oM,h0 k oM oM];omega
end
def en (m:List (List Int)) (i j:Nat):Int:=(m.getD i []).getD j 0
inductive Dh (p:Int) (n:Nat) (m:List (List Int)):(Nat->Int)->Prop
 | zero {f:Nat->Int}:(∀ j,j<n->Cg p (f j) 0)->Dh p n m f
 | add {f g:Nat->Int} (i:Nat) (k:Int):i<m.length->Dh p n m g->(∀ j,j<n->Cg p (f j) (g j+k*en m i j))->Dh p n m f
section
variable {p:Int} {n:Nat} {m m':List (List Int)} {f g:Nat->Int}
theorem Cs {i:Nat} (h:i<m.length):Dh p n m (en m i):=.add i 1 h (.zero (f:=fun _=>0) fun _ _=>Cg.rf) fun _ _=>Cg.of oM
theorem Ez (h:Dh p n m f) (hf:∀ j,j<n->Cg p (g j) (f j)):Dh p n m g:=by
 cases h with
 | zero h=>exact .zero fun j hj=>(hf j hj).trans (h j hj)
 | add i k hi h hs=>exact .add i k hi h fun j hj=>(hf j hj).trans (hs j hj)
theorem Sf (h:Dh p n m f) (hg:Dh p n m g):Dh p n m (fun j=>f j+g j):=by
 induction hg with
 | zero h0=>exact Ez h fun j hj=>(Cg.rf.add (h0 j hj)).trans (Cg.of oM)
 | add i k hi _ hs ih=>exact .add i k hi ih fun j hj=>(Cg.rf.add (hs j hj)).trans (Cg.of oM)
theorem M5 (a:Int) (h:Dh p n m f):Dh p n m (fun j=>a*f j):=by
 induction h with
 | zero h0=>exact .zero fun j hj=>(Cg.rf.mul (h0 j hj)).trans (Cg.of oM)
 | add i k hi _ hs ih=>exact .add i (a*k) hi ih fun j hj=>(Cg.rf.mul (hs j hj)).trans (Cg.of (by grind))
theorem S9 (h:∀ i,i<m.length->Dh p n m' (en m i)) (hf:Dh p n m f):Dh p n m' f:=by
 induction hf with
 | zero h0=>exact .zero h0
 | add i k hi _ hs ih=>exact Ez (Sf ih (M5 k (h i hi))) hs
theorem Agq {F:Nat->Nat->Int}:∀ {k:Nat},(∀ i,i<k->Dh p n m (F i))->Dh p n m (fun j=>sm k fun i=>F i j)
 | 0,_=>.zero fun _ _=>Cg.rf
 | k+1,h=>Sf (Agq fun i hi=>h i oM) (h k oM)
structure Kt (c r:Nat) (m:List (List Int)) (pv:Nat->Nat):Prop where
 rl:r<=m.length
 lt:∀ i,i<r->pv i<c
 mono:∀ i k,i<k->k<r->pv i<pv k
 low:∀ i,i<r->∀ j,j<pv i->en m i j=0
 one:∀ i,i<r->en m i (pv i)=1
 zero:∀ i,i<r->∀ k,k≠i->en m k (pv i)=0
 tail:∀ i,r<=i->∀ j,j<c->en m i j=0
theorem Qo {i j:Nat} (h:m.length<=i):en m i j=0:=by
 unfold en;rw [gDg (l:=m),List.getElem?_eq_none h];rfl
theorem Aqr {pv:Nat->Nat} (h:Kt n m.length m pv) (hs:Dh p n m f):∀ j,j<n->Cg p (f j) (sm m.length fun i=>f (pv i)*en m i j):=by
 induction hs with
 | zero h0 =>
  intro j hj;refine (h0 j hj).trans ?_;refine Cg.symm ((M2 (g:=fun _=>0) fun i hi=>?_).trans (Cg.of (Lf fun _ _=>rfl)));exact ((h0 _ (h.lt i hi)).mul Cg.rf).trans (Cg.of oM)
 | @add f g t k ht _ hs ih =>
  intro j hj;refine (hs j hj).trans (((ih j hj).add Cg.rf).trans ?_)
  have e:sm m.length (fun i=>(g (pv i)+k*en m t (pv i))*en m i j)=sm m.length (fun i=>g (pv i)*en m i j)+k*en m t j:=by
   rw [Vt (g:=fun i=>g (pv i)*en m i j+k*(en m t (pv i)*en m i j)) fun i _=>by grind,R0 (f:=fun i=>g (pv i)*en m i j),Uk (f:=fun i=>en m t (pv i)*en m i j),Pn (f:=fun i=>en m t (pv i)*en m i j) ht fun i hi hne=>by rw [h.zero i hi t (Ne.symm hne)];omega,h.one t ht,Int.one_mul]
  rw [← e];exact (M2 fun i hi=>(hs _ (h.lt i hi)).mul Cg.rf).symm
theorem Am0 {pv:Nat->Nat} (h:Kt n m.length m pv) (hs:Dh p n m f) {q:Nat} (hq:q<n) (h0:∀ j,j<q->Cg p (f j) 0) (h1:¬ Cg p (f q) 0):∃ i,i<m.length/\pv i=q:=by
 refine Classical.byContradiction fun hn=>h1 ?_
 refine (Aqr h hs q hq).trans ((M2 (g:=fun _=>0) fun i hi=>?_).trans (Cg.of (Lf fun _ _=>rfl)));rcases Nat.lt_trichotomy (pv i) q with hlt|he|hgt
 ·exact ((h0 _ hlt).mul Cg.rf).trans (Cg.of oM)
 ·exact (hn ⟨i,hi,he⟩).elim
 ·exact Cg.of (by rw [h.low i hi q hgt];omega)
theorem Amc {u v:Nat->Nat} {k l:Nat} (hu:∀ i j,i<j->j<k->u i<u j) (hv:∀ i j,i<j->j<l->v i<v j) (h1:∀ i,i<k->∃ t,t<l/\v t=u i) (h2:∀ i,i<l->∃ t,t<k/\u t=v i) :
  ∀ i,i<k->i<l->u i=v i:=by
 intro i
 induction i using Nat.strongRecOn with
 | _ i ih =>
  intro hk hl;obtain ⟨t,ht,e⟩:=h1 i hk;obtain ⟨s,hs,e'⟩:=h2 i hl
  have a1:v i<=u i:=by
   rcases Nat.lt_trichotomy t i with hlt|he|hgt
   ·have:=ih t hlt oM ht;have:=hu t i hlt hk;omega
   ·subst he;omega
   ·have:=hv i t hgt ht;omega
  have a2:u i<=v i:=by
   rcases Nat.lt_trichotomy s i with hlt|he|hgt
   ·have:=ih s hlt hs oM;have:=hv s i hlt hl;omega
   ·subst he;omega
   ·have:=hu i s hgt hs;omega
  omega
theorem Abg {u v:Nat->Nat} {k l:Nat} (hu:∀ i j,i<j->j<k->u i<u j) (hv:∀ i j,i<j->j<l->v i<v j) (h1:∀ i,i<k->∃ t,t<l/\v t=u i) (h2:∀ i,i<l->∃ t,t<k/\u t=v i):l<=k:=by
 refine Nat.le_of_not_lt fun hlt=>?_
 obtain ⟨t,ht,e⟩:=h2 k hlt;have:=Amc hu hv h1 h2 t ht oM;have:=hv t k ht hlt;omega
theorem Arg (hp:2<=p):¬ Cg p 1 0:=fun h=>by
 have:=h.eq ⟨by omega,by omega⟩ ⟨by omega,by omega⟩;omega
theorem Anj {i j:Nat} (hp:2<=p) (hm:MatW p n m):0<=en m i j/\en m i j<p:=by
 unfold en;by_cases h:i<m.length
 ·have hx:=hm _ (Id h);generalize m.getD i []=x at hx;by_cases hj:j<x.length
  ·rw [Be (gEg hj)];exact hx.2 _ (List.getElem_mem hj)
  ·rw [gDg,List.getElem?_eq_none oM];exact ⟨by simp,by simp;omega⟩
 ·rw [gDg (l:=m),List.getElem?_eq_none oM];simp;omega
theorem Atm (hm:MatW p n m) (hm':MatW p n m') (hl:m.length=m'.length) (h:∀ i,i<m.length->∀ j,j<n->en m i j=en m' i j):m=m':=by
 refine List.ext_getElem hl fun i h1 h2=>?_
 have e1:=hm _ (List.getElem_mem h1);have e2:=hm' _ (List.getElem_mem h2);refine List.ext_getElem (e1.1.trans e2.1.symm) fun j k1 k2=>?_
 have:=h i h1 j (by have:=e1.1;omega);unfold en at this;rw [Be (gEg h1),Be (gEg h2),Be (gEg k1),Be (gEg k2)] at this;exact this
theorem An9 {pv pv':Nat->Nat} (hp:2<=p) (h:Kt n m.length m pv) (h':Kt n m'.length m' pv') (hm:MatW p n m) (hm':MatW p n m') (h1:∀ f,Dh p n m f->Dh p n m' f) (h2:∀ f,Dh p n m' f->Dh p n m f):m=m':=by
 have k1:∀ i,i<m.length->∃ t,t<m'.length/\pv' t=pv i:=fun i hi =>
  Am0 h' (h1 _ (Cs hi)) (h.lt i hi) (fun j hj=>Cg.of (h.low i hi j hj)) (by rw [h.one i hi];exact Arg hp)
 have k2:∀ i,i<m'.length->∃ t,t<m.length/\pv t=pv' i:=fun i hi =>
  Am0 h (h2 _ (Cs hi)) (h'.lt i hi) (fun j hj=>Cg.of (h'.low i hi j hj)) (by rw [h'.one i hi];exact Arg hp)
 have hl:m.length=m'.length:=Nat.le_antisymm (Abg h'.mono h.mono k2 k1) (Abg h.mono h'.mono k1 k2);have hpv:=Amc h.mono h'.mono k1 k2;refine Atm hm hm' hl fun i hi j hj=>?_
 refine Cg.eq (Cg.symm ((Aqr h (h2 _ (Cs (i:=i) oM)) j hj).trans (Cg.of ?_))) (Anj hp hm) (Anj hp hm');rw [Pn hi fun t ht hne=>?_,hpv i hi oM,h'.one i oM]
 ·omega
 ·rw [hpv t ht oM,h'.zero t oM i (Ne.symm hne)];omega
theorem Awj {r k i j:Nat} (hr:r<m.length) (hk:k<m.length):en (Lo m r k) i j=if i=k then en m r j else if i=r then en m k j else en m i j:=by
 unfold en Lo;by_cases h1:i=k
 ·subst h1;rw [if_pos rfl,gDg (l:=List.set _ _ _),List.getElem?_set_self (by rw [List.length_set];exact hk)];rfl
 ·rw [if_neg h1,gDg (l:=List.set _ _ _),List.getElem?_set_ne (Ne.symm h1)];by_cases h2:i=r
  ·subst h2;rw [if_pos rfl,List.getElem?_set_self hr];rfl
  ·rw [if_neg h2,List.getElem?_set_ne (Ne.symm h2),← gDg]
theorem Ao5 {k:Int} {x:List Int} {j:Nat}:(Eh p k x).getD j 0=x.getD j 0*k % p:=by
 unfold Eh;rw [gDg,List.getElem?_map,gDg];cases x[j]? with
 | none=>simp
 | some a=>rfl
theorem Aem {k:Int} {x v:List Int} {j:Nat} (h:x.length=v.length):(De p k x v).getD j 0=(x.getD j 0 - k*v.getD j 0) % p:=by
 unfold De;rw [gDg,List.getElem?_zipWith,gDg,gDg];by_cases hj:j<x.length
 ·rw [gEg hj,gEg (show j<v.length by omega)];rfl
 ·rw [List.getElem?_eq_none (show x.length<=j by omega),List.getElem?_eq_none (show v.length<=j by omega)];simp
theorem Awc {c r i j:Nat} {pr:List Int} (hm:MatW p n m) (hpr:pr.length=n) (hi:i<m.length):en (Hf p c r pr m) i j=if i=r then pr.getD j 0 else (en m i j - en m i c*pr.getD j 0) % p:=by
 have hx:=hm _ (List.getElem_mem hi);unfold en Hf;rw [gDg (l:=List.mapIdx _ _),List.getElem?_mapIdx,gEg hi,Be (gEg hi)];show (if i=r then pr else De p (m[i].getD c 0) m[i] pr).getD j 0=_;split
 ·rfl
 ·rw [Aem (by rw [hx.1,hpr])]
def Yh (p:Int):Prop:=∀ a,1<=a->a<p->a*Oj p a % p=1
theorem Au9 {c:Nat} {s:Nat×List (List Int)} {pv:Nat->Nat} (hp:2<=p) (hI:Yh p) (hm:MatW p n s.2) (h:Kt c s.1 s.2 pv) :
  (∃ pv',Kt (c+1) (gjS p c s).1 (gjS p c s).2 pv')/\(∀ f,Dh p n (gjS p c s).2 f↔Dh p n s.2 f):=by
 obtain ⟨r,m⟩:=s;dsimp only at hm h;unfold gjS;dsimp only;by_cases h1:r<m.length
 ·rw [if_pos h1];by_cases h2:Dq m c r=m.length
  ·rw [if_pos h2];refine ⟨⟨pv,h.rl,fun i hi=>Nat.lt_succ_of_lt (h.lt i hi),h.mono,h.low,h.one,h.zero,fun i hi j hj=>?_⟩,fun f=>Iff.rfl⟩;dsimp only at hi ⊢;by_cases hjc:j<c
   ·exact h.tail i hi j hjc
   ·obtain rfl:j=c:=by omega
    by_cases hil:i<m.length
    ·exact Aa1 hi oM h.rl
    ·exact Qo oM
  ·rw [if_neg h2];have hk1:=Sn (c:=c) h.rl;have hk2:=Awv m c r;have hnz:=Aaj h2 h.rl;have hkl:Dq m c r<m.length:=by omega
   have hx:=hm _ (Id hkl);have ha:en m (Dq m c r) c≠0:=hnz;generalize hk:Dq m c r=k at *;have hab:=Anj (i:=k) (j:=c) hp hm;have hinv:=hI (en m k c) oM hab.2;generalize hv:Oj p (en m k c)=v at hinv
   have hpr:∀ j,(prV p c (m.getD k [])).getD j 0=en m k j*v % p:=fun j=>by
    unfold prV;rw [Ao5];show _*Oj p (en m k c) % p=_;rw [hv];rfl
   have hprl:(prV p c (m.getD k [])).length=n:=(R6 hp hx.1).1;generalize prV p c (m.getD k [])=pr at *;have hW:=Z2 hm h1 hkl;have hWl:=Q6 m r k;have hWe:∀ i j,en (Lo m r k) i j=if i=k then en m r j else if i=r then en m k j else en m i j:=fun i j=>Awj h1 hkl
   generalize Lo m r k=W at *
   have hE:∀ i j,i<m.length->en (Hf p c r pr W) i j=if i=r then en m k j*v % p else (en W i j - en W i c*(en m k j*v % p)) % p:=fun i j hi=>by
    rw [Awc hW hprl oM,hpr]
   have hEl:=O8 p c r pr W
   have h0:∀ i j,i<m.length->i≠r->en m k j=0->en (Hf p c r pr W) i j=en W i j:=fun i j hi hne h0=>by
    have hb:=Anj (i:=i) (j:=j) hp hW;rw [hE i j hi,if_neg hne,h0,Int.zero_mul,Int.zero_emod,Int.mul_zero,Int.sub_zero,Int.emod_eq_of_lt hb.1 hb.2]
   have hkj:∀ j,j<c->en m k j=0:=fun j hj=>h.tail k oM j hj
   have hkp:∀ i,i<r->en m k (pv i)=0:=fun i hi=>h.zero i hi k oM
   have hcc:en m k c*v % p=1:=hinv
   have hsp:∀ i j,i<m.length->i≠r->Cg p (en (Hf p c r pr W) i j) (en W i j+ -en W i c*en (Hf p c r pr W) r j):=fun i j hi hne=>by
    rw [hE i j hi,if_neg hne,hE r j h1,if_pos rfl];exact Cg.md.trans (Cg.of (by grind))
   have hWr:∀ j,Cg p (en W r j) (en m k c*en (Hf p c r pr W) r j):=fun j=>by
    have e:en W r j=en m k j:=by
     rw [hWe];by_cases e:r=k
     ·rw [if_pos e,e]
     ·rw [if_neg e,if_pos rfl]
    rw [e,hE r j h1,if_pos rfl];obtain ⟨q,hq⟩:=Cg.fr (p:=p) (a:=en m k c*v) (b:=1) (by rw [hcc];exact (Int.emod_eq_of_lt oM oM).symm);refine Cg.trans ⟨-q*en m k j,?_⟩ (Cg.rf.mul Cg.md.symm)
    grind
   refine ⟨⟨fun i=>if i=r then c else pv i,?_,?_,?_,?_,?_,?_,?_⟩,fun f=>⟨S9 fun i hi=>?_,S9 fun i hi=>?_⟩⟩
   ·show r+1<=(Hf p c r pr W).length;omega
   ·intro i hi
    try dsimp only
    split
    ·omega
    ·have:=h.lt i oM;omega
   ·intro i l hil hl
    try dsimp only
    rw [if_neg (by omega:i≠r)];split
    ·exact h.lt i oM
    ·exact h.mono i l hil oM
   ·intro i hi j hj;dsimp only at hj ⊢;by_cases e:i=r
    ·subst e;rw [if_pos rfl] at hj;rw [hE i j h1,if_pos rfl,hkj j hj,Int.zero_mul,Int.zero_emod]
    ·rw [if_neg e] at hj;have:=h.lt i oM;rw [h0 i j oM e (hkj j oM),hWe,if_neg oM,if_neg e];exact h.low i oM j hj
   ·intro i hi;dsimp only;by_cases e:i=r
    ·subst e;rw [if_pos rfl,hE i c h1,if_pos rfl,hcc]
    ·rw [if_neg e,h0 i (pv i) oM e (hkp i oM),hWe,if_neg oM,if_neg e];exact h.one i oM
   ·intro i hi l hl;dsimp only;by_cases hll:l<m.length
    ·by_cases e:i=r
     ·subst e;rw [if_pos rfl,hE l c hll,if_neg hl,hcc,Int.mul_one,Int.sub_self,Int.zero_emod]
     ·rw [if_neg e];by_cases e2:l=r
      ·subst e2;rw [hE l (pv i) hll,if_pos rfl,hkp i oM,Int.zero_mul,Int.zero_emod]
      ·rw [h0 l (pv i) hll e2 (hkp i oM),hWe];by_cases e3:l=k
       ·rw [if_pos e3];exact h.zero i oM r oM
       ·rw [if_neg e3,if_neg e2];exact h.zero i oM l hl
    ·exact Qo oM
   ·intro i hi j hj;dsimp only at hi ⊢;by_cases hil:i<m.length
    ·by_cases e:j=c
     ·subst e;rw [hE i j hil,if_neg oM,hcc,Int.mul_one,Int.sub_self,Int.zero_emod]
     ·rw [h0 i j hil oM (hkj j oM),hWe];by_cases e3:i=k
      ·rw [if_pos e3];exact h.tail r (Nat.le_refl r) j oM
      ·rw [if_neg e3,if_neg oM];exact h.tail i oM j oM
    ·exact Qo oM
   ·have hi:i<m.length:=by dsimp only at hi;omega
    have hrow:∀ t,t<m.length->Dh p n m (en W t):=fun t ht=>by
     by_cases e1:t=k
     ·exact Ez (Cs h1) fun j hj=>Cg.of (by rw [hWe,if_pos e1])
     ·by_cases e2:t=r
      ·exact Ez (Cs hkl) fun j hj=>Cg.of (by rw [hWe,if_neg e1,if_pos e2])
      ·exact Ez (Cs ht) fun j hj=>Cg.of (by rw [hWe,if_neg e1,if_neg e2])
    have hr':Dh p n m (en (Hf p c r pr W) r):=Ez (M5 v (Cs hkl)) fun j hj=>by
     rw [hE r j h1,if_pos rfl];exact Cg.md.trans (Cg.of (by grind))
    by_cases e:i=r
    ·subst e;exact hr'
    ·exact Ez (Sf (hrow i hi) (M5 (-en W i c) hr')) fun j hj=>hsp i j hi e
   ·have hE':∀ t,t<m.length->Dh p n (Hf p c r pr W) (en W t):=fun t ht=>by
     by_cases e:t=r
     ·subst e;exact Ez (M5 (en m k c) (Cs (i:=t) oM)) fun j hj=>hWr j
     ·refine Ez (Sf (Cs (i:=t) oM) (M5 (en W t c) (Cs (i:=r) oM))) fun j hj=>?_
      exact Cg.symm (((hsp t j ht e).add Cg.rf).trans (Cg.of (by grind)))
    by_cases e1:i=r
    ·subst e1;exact Ez (hE' k hkl) fun j hj=>Cg.of (by rw [hWe,if_pos rfl])
    ·by_cases e2:i=k
     ·subst e2;exact Ez (hE' r h1) fun j hj=>Cg.of (by rw [hWe,if_neg oM,if_pos rfl])
     ·exact Ez (hE' i hi) fun j hj=>Cg.of (by rw [hWe,if_neg e2,if_neg e1])
 ·rw [if_neg h1];have:=h.rl;refine ⟨⟨pv,h.rl,fun i hi=>Nat.lt_succ_of_lt (h.lt i hi),h.mono,h.low,h.one,h.zero,fun i hi j hj=>Qo (m:=m) (by dsimp only at hi;omega)⟩,fun f=>Iff.rfl⟩
theorem Afq {m:List (List Int)} (hp:2<=p) (hI:Yh p) (hm:MatW p n m):∀ c,(∃ pv,Kt c (gjT p m c).1 (gjT p m c).2 pv)/\∀ f,Dh p n (gjT p m c).2 f↔Dh p n m f
 | 0=>⟨⟨fun _=>0,Nat.zero_le _,by intro i hi;simp [gjT] at hi,by intro i k _ hk;simp [gjT] at hk,by intro i hi;simp [gjT] at hi,by intro i hi;simp [gjT] at hi,by intro i hi;simp [gjT] at hi,fun _ _ j hj=>by omega⟩,fun _=>Iff.rfl⟩
 | c+1=>by
  obtain ⟨⟨pv,h1⟩,h2⟩:=Afq hp hI hm c;obtain ⟨h3,h4⟩:=Au9 hp hI (L5 hp hm c).1 h1;exact ⟨h3,fun f=>(h4 f).trans (h2 f)⟩
theorem Wg {r i j:Nat} (h:i<r):en (m.take r) i j=en m i j:=by
 unfold en;rw [gDg (l:=m.take r),List.getElem?_take,if_pos h,← gDg]
theorem Aid {k:Nat} (hk:k<=n) (h:Dh p n m f):Dh p k m f:=by
 induction h with
 | zero h0=>exact .zero fun j hj=>h0 j oM
 | add i k hi _ hs ih=>exact .add i k hi ih fun j hj=>hs j oM
theorem Ass {c:Nat} (hp:2<=p) (hI:Yh p) (hm:MatW p n m) (hc:c<=n):(∃ pv,Kt c (gj p c m).length (gj p c m) pv)/\∀ f,Dh p c (gj p c m) f↔Dh p c m f:=by
 obtain ⟨⟨pv,h⟩,h2⟩:=Afq hp hI hm c;have hl:=Afp (n:=c) hp hm;have hrl:=h.rl;refine ⟨⟨pv,Nat.le_refl _,?_,?_,?_,?_,?_,?_⟩,fun f=>Iff.trans (b:=Dh p c (gjT p m c).2 f) ⟨S9 fun i hi=>?_,S9 fun i hi=>?_⟩ ⟨S9 fun i hi=>Aid hc ((h2 _).1 (Cs hi)),S9 fun i hi=>Aid hc ((h2 _).2 (Cs hi))⟩⟩
 ·rw [hl];exact h.lt
 ·rw [hl];exact h.mono
 ·rw [hl];intro i hi j hj;unfold gj;rw [Wg hi];exact h.low i hi j hj
 ·rw [hl];intro i hi;unfold gj;rw [Wg hi];exact h.one i hi
 ·rw [hl];intro i hi k hk;by_cases hkl:k<(gjT p m c).1
  ·unfold gj;rw [Wg hkl];exact h.zero i hi k hk
  ·exact Qo oM
 ·intro i hi j _;exact Qo hi
 ·rw [hl] at hi;exact Ez (Cs (i:=i) oM) fun j hj=>Cg.of (by unfold gj;rw [Wg hi])
 ·by_cases hir:i<(gjT p m c).1
  ·exact Ez (Cs (i:=i) oM) fun j hj=>Cg.of (by unfold gj;rw [Wg hir])
  ·exact .zero fun j hj=>Cg.of (h.tail i oM j hj)
theorem S8 (hp:2<=p) (hI:Yh p) (hm:MatW p n m):(∃ pv,Kt n (gj p n m).length (gj p n m) pv)/\∀ f,Dh p n (gj p n m) f↔Dh p n m f:=Ass hp hI hm (Nat.le_refl n)
theorem Af3 {pv:Nat->Nat} (hp:2<=p) (hI:Yh p) (hm:MatW p n m) (hm':MatW p n m') (h:Kt n m'.length m' pv) (hs:∀ f,Dh p n m f↔Dh p n m' f):gj p n m=m':=by
 obtain ⟨⟨pv',h1⟩,h2⟩:=S8 hp hI hm;exact An9 hp h1 h (R7 hp hm) hm' (fun f hf=>(hs f).1 ((h2 f).1 hf)) fun f hf=>(h2 f).2 ((hs f).2 hf)
theorem Auy (hp:2<=p) (hI:Yh p) (hm:MatW p n m) (hm':MatW p n m') (hs:∀ f,Dh p n m f↔Dh p n m' f):gj p n m=gj p n m':=by
 obtain ⟨⟨pv',h1⟩,h2⟩:=S8 hp hI hm';exact Af3 hp hI hm (R7 hp hm') h1 fun f=>(hs f).trans (h2 f).symm
end
end
section
def Fh (x:List Int):Nat:=x.findIdx fun a=>a !=0
section
variable {p:Int} {n:Nat} {m m' B:List (List Int)} {o:List Int}
theorem Aru {c r i:Nat} {pv:Nat->Nat} (h:Kt c r m pv) (hm:MatW p n m) (hc:c<=n) (hi:i<r):Fh (m.getD i [])=pv i:=by
 have hl:=h.rl;have hx:=(hm _ (Id (show i<m.length by omega))).1;have hlt:=h.lt i hi;have e:∀ (j:Nat) (hj:j<(m.getD i []).length),(m.getD i [])[j]=en m i j:=fun j hj=>(Be (gEg hj)).symm
 unfold Fh;refine (List.findIdx_eq (show pv i<(m.getD i []).length by omega)).2 ⟨?_,fun j hj=>?_⟩
 ·rw [e,h.one i hi];rfl
 ·rw [e,h.low i hi j hj];rfl
theorem Anw {n':Nat} {f:Nat->Int} {σ:Nat->Nat} (hl:m'.length=m.length) (hσ:∀ j,j<n'->σ j<n) (he:∀ i,i<m.length->∀ j,j<n'->en m' i j=en m i (σ j)) (h:Dh p n m f):Dh p n' m' (fun j=>f (σ j)):=by
 induction h with
 | zero h0=>exact .zero fun j hj=>h0 _ (hσ j hj)
 | add i k hi _ hs ih=>exact .add i k oM ih fun j hj=>(hs _ (hσ j hj)).trans (Cg.of (by rw [he i hi j hj]))
end
end
section
def Ok (p:Int) (n:Nat) (m:List (List Int)) (f:Nat->Int):Prop:=∀ i,i<m.length->Cg p (sm n fun j=>en m i j*f j) 0
section
variable {p:Int} {n:Nat} {m m':List (List Int)} {f g:Nat->Int}
theorem Ao1 (hf:Ok p n m f) (hs:Dh p n m g):Cg p (sm n fun j=>g j*f j) 0:=by
 induction hs with
 | zero h0=>exact (M2 (g:=fun _=>0) fun j hj=>((h0 j hj).mul Cg.rf).trans (Cg.of oM)).trans (Cg.of (Lf fun _ _=>rfl))
 | @add f' g' i k hi _ hs ih =>
  have e:sm n (fun j=>(g' j+k*en m i j)*f j)=sm n (fun j=>g' j*f j)+k*sm n (fun j=>en m i j*f j):=by
   rw [Vt (g:=fun j=>g' j*f j+k*(en m i j*f j)) fun j _=>by grind,R0 (f:=fun j=>g' j*f j),Uk (f:=fun j=>en m i j*f j)]
  refine (M2 fun j hj=>(hs j hj).mul Cg.rf).trans ((Cg.of e).trans ?_);exact (ih.add (Cg.rf.mul (hf i hi))).trans (Cg.of oM)
theorem Aly (h:∀ i,i<m'.length->Dh p n m (en m' i)) (hf:Ok p n m f):Ok p n m' f:=fun i hi=>Ao1 hf (h i hi)
theorem Ar7 (hf:Ok p n m f) (hg:Ok p n m g):Ok p n m (fun j=>f j+g j):=fun i hi=>by
 refine (Cg.of ?_).trans (((hf i hi).add (hg i hi)).trans (Cg.of oM));rw [Vt (g:=fun j=>en m i j*f j+en m i j*g j) fun j _=>by grind,R0]
theorem Asm (a:Int) (hf:Ok p n m f):Ok p n m (fun j=>a*f j):=fun i hi=>by
 refine (Cg.of ?_).trans ((Cg.rf.mul (hf i hi)).trans (Cg.of (show a*0=0 by omega)));rw [Vt (g:=fun j=>a*(en m i j*f j)) fun j _=>by grind,Uk]
theorem Atz (hf:Ok p n m f) (h:∀ j,j<n->Cg p (g j) (f j)):Ok p n m g:=fun i hi=>(M2 fun j hj=>Cg.rf.mul (h j hj)).trans (hf i hi)
theorem Aea (h:∀ i,i<m'.length->Ok p n m (en m' i)) (hs:Dh p n m' f):Ok p n m f:=by
 induction hs with
 | zero h0=>exact fun i hi=>(M2 (g:=fun _=>0) fun j hj=>(Cg.rf.mul (h0 j hj)).trans (Cg.of oM)).trans (Cg.of (Lf fun _ _=>rfl))
 | add i k hi _ hs ih=>exact Atz (Ar7 ih (Asm k (h i hi))) hs
def pvs (r:Nat) (pv:Nat->Nat) (j:Nat):Bool:=(List.range r).any fun i=>pv i==j
theorem Aql {r j:Nat} {pv:Nat->Nat} (h:pvs r pv j=true):∃ i,i<r/\pv i=j:=by
 obtain ⟨i,hi,he⟩:=List.any_eq_true.1 h;exact ⟨i,List.mem_range.1 hi,beq_iff_eq.1 he⟩
theorem Am4 {r j i:Nat} {pv:Nat->Nat} (h:pvs r pv j=false) (hi:i<r):pv i≠j:=fun e=>by
 have:=List.any_eq_false.1 h i (List.mem_range.2 hi);exact this (beq_iff_eq.2 e)
structure Ayc (p:Int) (n:Nat) (R:List (List Int)) (pv:Nat->Nat) (N:List (List Int)):Prop where
 ex:∀ j,j<n->pvs R.length pv j=false->∃ t,t<N.length/\Cg p (en N t j) 1/\(∀ i,i<R.length->Cg p (en N t (pv i)) (-en R i j))/\∀ q,q<n->q≠j->pvs R.length pv q=false->Cg p (en N t q) 0
 all:∀ t,t<N.length->∃ j,j<n/\pvs R.length pv j=false/\Cg p (en N t j) 1/\(∀ i,i<R.length->Cg p (en N t (pv i)) (-en R i j))/\∀ q,q<n->q≠j->pvs R.length pv q=false->Cg p (en N t q) 0
theorem Aoc {R N:List (List Int)} {pv:Nat->Nat} (h:Kt n R.length R pv) (hN:Ayc p n R pv N):Dh p n N f↔Ok p n R f:=by
 have hd:∀ i k,i<R.length->k<R.length->en R i (pv k)=if k=i then 1 else 0:=fun i k hi hk=>by
  by_cases e:k=i
  ·subst e;rw [if_pos rfl,h.one k hk]
  ·rw [if_neg e,h.zero k hk i (Ne.symm e)]
 have hpi:∀ i k,i<R.length->k<R.length->pv i=pv k->i=k:=fun i k hi hk e=>by
  rcases Nat.lt_trichotomy i k with h1|h1|h1
  ·have:=h.mono i k h1 hk;omega
  ·exact h1
  ·have:=h.mono k i h1 hi;omega
 constructor
 ·refine Aea fun t ht i hi=>?_
  obtain ⟨j,hj,hfr,h1,h2,h3⟩:=hN.all t ht;have hne:pv i≠j:=Am4 hfr hi
  have e:Cg p (sm n fun q=>en R i q*en N t q) (sm n fun q=>(if q=j then en R i j else 0)+(if q=pv i then -en R i j else 0)):=by
   refine M2 fun q hq=>?_
   by_cases e1:q=j
   ·subst e1;rw [if_pos rfl,if_neg (Ne.symm hne)];exact (Cg.rf.mul h1).trans (Cg.of oM)
   ·rw [if_neg e1];by_cases e2:q=pv i
    ·subst e2;rw [if_pos rfl,h.one i hi];exact (Cg.rf.mul (h2 i hi)).trans (Cg.of oM)
    ·rw [if_neg e2];cases hf:pvs R.length pv q
     ·exact (Cg.rf.mul (h3 q hq e1 hf)).trans (Cg.of oM)
     ·obtain ⟨k,hk,rfl⟩:=Aql hf;rw [hd i k hi hk,if_neg fun e=>e2 (by rw [e])];exact Cg.of oM
  refine e.trans (Cg.of ?_);rw [R0,Pn hj fun q _ hq=>if_neg hq,Pn (h.lt i hi) fun q _ hq=>if_neg hq,if_pos rfl,if_pos rfl];omega
 ·intro hf
  have hrow:∀ j,∃ b:Nat->Int,Dh p n N b/\(j<n->pvs R.length pv j=false->Cg p (b j) 1/\(∀ i,i<R.length->Cg p (b (pv i)) (-en R i j))/\∀ q,q<n->q≠j->pvs R.length pv q=false->Cg p (b q) 0):=fun j=>by
   by_cases hj:j<n/\pvs R.length pv j=false
   ·obtain ⟨t,ht,h1⟩:=hN.ex j hj.1 hj.2;exact ⟨en N t,Cs ht,fun _ _=>h1⟩
   ·exact ⟨fun _=>0,.zero fun _ _=>Cg.rf,fun h1 h2=>(hj ⟨h1,h2⟩).elim⟩
  obtain ⟨b,hb⟩:∃ b:Nat->Nat->Int,∀ j,Dh p n N (b j)/\(j<n->pvs R.length pv j=false->Cg p (b j j) 1/\(∀ i,i<R.length->Cg p (b j (pv i)) (-en R i j))/\∀ q,q<n->q≠j->pvs R.length pv q=false->Cg p (b j q) 0) :=
   ⟨fun j=>Classical.choose (hrow j),fun j=>Classical.choose_spec (hrow j)⟩
  have hS:Dh p n N (fun q=>sm n fun j=>(if pvs R.length pv j then 0 else f j)*b j q):=Agq (F:=fun j q=>(if pvs R.length pv j then 0 else f j)*b j q) fun j _=>M5 _ (hb j).1
  refine Ez hS fun q hq=>Cg.symm ?_
  cases hf':pvs R.length pv q
  ·refine (M2 (g:=fun j=>if j=q then f q else 0) fun j hj=>?_).trans (Cg.of ?_)
   ·by_cases e:j=q
    ·subst e;rw [if_pos rfl,hf',if_neg (by decide)];exact (Cg.rf.mul ((hb j).2 hj hf').1).trans (Cg.of oM)
    ·rw [if_neg e];cases hfj:pvs R.length pv j
     ·exact (Cg.rf.mul (((hb j).2 hj hfj).2.2 q hq (Ne.symm e) hf')).trans (Cg.of oM)
     ·rw [if_pos rfl];exact Cg.of oM
   ·rw [Pn hq fun j _ hj=>if_neg hj,if_pos rfl]
  ·obtain ⟨i,hi,rfl⟩:=Aql hf';refine (M2 (g:=fun j=> -1*(en R i j*f j)+(if j=pv i then f j else 0)) fun j hj=>?_).trans ?_
   ·cases hfj:pvs R.length pv j
    ·have hne:j≠pv i:=fun e=>Am4 hfj hi e.symm
     rw [if_neg (by decide),if_neg hne];exact (Cg.rf.mul (((hb j).2 hj hfj).2.1 i hi)).trans (Cg.of (by grind))
    ·obtain ⟨k,hk,rfl⟩:=Aql hfj;rw [if_pos rfl,hd i k hi hk];by_cases e:k=i
     ·subst e;rw [if_pos rfl,if_pos rfl];exact Cg.of oM
     ·rw [if_neg e,if_neg fun e'=>e (hpi k i hk hi e')];exact Cg.of oM
   ·rw [R0 (f:=fun j=> -1*(en R i j*f j)),Uk (f:=fun j=>en R i j*f j),Pn (f:=fun j=>if j=pv i then f j else 0) hq fun j _ hj=>if_neg hj,if_pos rfl];exact ((Cg.rf.mul (hf i hi)).add Cg.rf).trans (Cg.of oM)
theorem Akg {c r w:Nat} {pv:Nat->Nat} (h:Kt c r m pv) (hc:c<=w) (hs:Dh p w m f):∃ g,Dh p w (m.drop r) g/\∀ j,j<w->Cg p (f j) ((sm r fun i=>f (pv i)*en m i j)+g j):=by
 have hd:∀ t j,en (m.drop r) t j=en m (r+t) j:=fun t j=>by
  unfold en;rw [gDg (l:=m.drop r),List.getElem?_drop,← gDg]
 induction hs with
 | zero h0 =>
  refine ⟨fun _=>0,.zero fun _ _=>Cg.rf,fun j hj=>(h0 j hj).trans (Cg.symm ?_)⟩;refine (((M2 (g:=fun _=>0) fun i hi=>?_).trans (Cg.of (Lf fun _ _=>rfl))).add Cg.rf).trans (Cg.of (by dsimp only;omega));exact ((h0 _ (by have:=h.lt i hi;omega)).mul Cg.rf).trans (Cg.of oM)
 | @add f' g' t k ht _ hs ih =>
  obtain ⟨q,hq,he⟩:=ih;have hpw:∀ i,i<r->pv i<w:=fun i hi=>by have:=h.lt i hi;omega
  have e1:∀ j,Cg p (sm r fun i=>f' (pv i)*en m i j) ((sm r fun i=>g' (pv i)*en m i j)+k*sm r fun i=>en m t (pv i)*en m i j):=fun j=>by
   refine (M2 fun i hi=>(hs _ (hpw i hi)).mul Cg.rf).trans (Cg.of ?_);rw [Vt (g:=fun i=>g' (pv i)*en m i j+k*(en m t (pv i)*en m i j)) fun i _=>by grind,R0 (f:=fun i=>g' (pv i)*en m i j),Uk (f:=fun i=>en m t (pv i)*en m i j)]
  by_cases htr:t<r
  ·refine ⟨q,hq,fun j hj=>(hs j hj).trans (((he j hj).add Cg.rf).trans (Cg.symm (((e1 j).add Cg.rf).trans (Cg.of ?_))))⟩;rw [Pn (f:=fun i=>en m t (pv i)*en m i j) htr fun i hi hne=>by rw [h.zero i hi t (Ne.symm hne)];omega,h.one t htr,Int.one_mul];omega
  ·refine ⟨fun j=>q j+k*en m t j,?_,fun j hj=>(hs j hj).trans (((he j hj).add Cg.rf).trans (Cg.symm (((e1 j).add Cg.rf).trans (Cg.of ?_))))⟩
   ·refine Ez (Sf hq (M5 k (Cs (i:=t - r) (by rw [List.length_drop];omega)))) fun j _=>Cg.of ?_
    rw [hd,show r+(t - r)=t by omega]
   ·rw [Lf (f:=fun i=>en m t (pv i)*en m i j) fun i hi=>by rw [h.zero i hi t oM];omega];dsimp only;omega
theorem Aop {R:Nat} {A W:List (List Int)} (hp:2<=p) (hI:Yh p) (hW:MatW p (R+n) W) (hl:W.length=n) (hA:A.length=R) (h1:∀ t,t<n->∀ i,i<R->en W t i=en A i t) (h2:∀ t,t<n->∀ j,j<n->en W t (R+j)=if j=t then 1 else 0) :
  Dh p n (((gjT p W R).2.drop (gjT p W R).1).map (·.drop R)) f↔Ok p n A f:=by
 obtain ⟨⟨pv,hv⟩,hs⟩:=Afq hp hI hW R
 have hlin:∀ g,Dh p (R+n) W g->∀ i,i<R->Cg p (g i) (sm n fun t=>en A i t*g (R+t)):=fun g hg=>by
  induction hg with
  | zero h0 =>
   intro i hi;refine (h0 i oM).trans (Cg.symm ((M2 (g:=fun _=>0) fun t ht=>?_).trans (Cg.of (Lf fun _ _=>rfl))));exact (Cg.rf.mul (h0 _ oM)).trans (Cg.of oM)
  | @add f' g' t k ht _ hs ih =>
   intro i hi;refine (hs i oM).trans (((ih i hi).add Cg.rf).trans (Cg.symm ?_));refine (M2 fun u hu=>Cg.rf.mul (hs (R+u) oM)).trans (Cg.of ?_)
   rw [Vt (g:=fun u=>en A i u*g' (R+u)+k*(en A i u*en W t (R+u))) fun u _=>by grind,R0 (f:=fun u=>en A i u*g' (R+u)),Uk (f:=fun u=>en A i u*en W t (R+u)),
    Pn (f:=fun u=>en A i u*en W t (R+u)) (t:=t) oM fun u hu hne=>by rw [h2 t oM u hu,if_neg hne];omega,h2 t oM t oM,if_pos rfl,h1 t oM i hi,Int.mul_one]
 have hen:∀ t j,t<((gjT p W R).2.drop (gjT p W R).1).length->en (((gjT p W R).2.drop (gjT p W R).1).map (·.drop R)) t j=en (gjT p W R).2 ((gjT p W R).1+t) (R+j):=fun t j ht=>by
  unfold en
  have e1:(((gjT p W R).2.drop (gjT p W R).1).map (·.drop R)).getD t []=((gjT p W R).2.getD ((gjT p W R).1+t) []).drop R:=by
   rw [gDg,List.getElem?_map,List.getElem?_drop,gDg];cases (gjT p W R).2[(gjT p W R).1+t]? with
   | none=>exact (List.drop_nil).symm
   | some x=>rfl
  rw [e1,gDg,List.getElem?_drop,← gDg]
 generalize gjT p W R=G at *;obtain ⟨r,M⟩:=G;dsimp only at *;constructor
 ·refine Aea fun t ht i hi=>?_
  have ht':t<(M.drop r).length:=by simpa using ht
  have h3:=hlin _ ((hs _).1 (Cs (i:=r+t) (by rw [List.length_drop] at ht';omega))) i oM;rw [hv.tail (r+t) oM i oM] at h3;refine Cg.trans (Cg.of (Vt fun j hj=>?_)) h3.symm;rw [hen t j ht']
 ·intro hf;have hg:Dh p (R+n) W (fun q=>sm n fun t=>f t*en W t q):=Agq (F:=fun t q=>f t*en W t q) fun t ht=>M5 _ (Cs oM)
  have hq1:∀ i,i<R->Cg p (sm n fun t=>f t*en W t i) 0:=fun i hi=>by
   refine Cg.trans (Cg.of (Vt fun t ht=>?_)) (hf i oM);rw [h1 t ht i hi];exact Int.mul_comm _ _
  have hq2:∀ j,j<n->(sm n fun t=>f t*en W t (R+j))=f j:=fun j hj=>by
   rw [Pn (f:=fun t=>f t*en W t (R+j)) hj fun t ht hne=>by rw [h2 t ht j hj,if_neg (Ne.symm hne)];omega,h2 j hj j hj,if_pos rfl,Int.mul_one]
  obtain ⟨g,hgs,hge⟩:=Akg hv (Nat.le_add_right R n) ((hs _).2 hg)
  have hG:Dh p (R+n) (M.drop r) (fun q=>sm n fun t=>f t*en W t q):=by
   refine Ez hgs fun q hq=>(hge q hq).trans ?_
   refine ((M2 (g:=fun _=>0) fun i hi=>?_).add Cg.rf).trans (Cg.of ?_)
   ·exact ((hq1 _ (hv.lt i hi)).mul Cg.rf).trans (Cg.of oM)
   ·rw [Lf fun _ _=>rfl];omega
  have hC:=Anw (m':=(M.drop r).map (·.drop R)) (n':=n) (σ:=fun j=>R+j) (List.length_map ..) (fun j hj=>by omega) (fun t ht j hj=>by
   rw [hen t j ht];unfold en;rw [gDg (l:=M.drop r),List.getElem?_drop,← gDg]) hG
  exact Ez hC fun j hj=>Cg.of (hq2 j hj).symm
end
def lv (R:List (List Int)) (i:Nat):Nat:=Fh (R.getD i [])
section
variable {p:Int} {n:Nat} {R:List (List Int)}
theorem Ww {pv:Nat->Nat} (h:Kt n R.length R pv) {w:Nat} (hm:MatW p w R) (hw:n<=w):Kt n R.length R (lv R):=by
 have e:∀ i,i<R.length->lv R i=pv i:=fun i hi=>Aru h hm hw hi
 refine ⟨Nat.le_refl _,fun i hi=>?_,fun i k hik hk=>?_,fun i hi j hj=>?_,fun i hi=>?_,fun i hi k hk=>?_,fun i hi j _=>Qo hi⟩
 ·rw [e i hi];exact h.lt i hi
 ·rw [e i oM,e k hk];exact h.mono i k hik hk
 ·rw [e i hi] at hj;exact h.low i hi j hj
 ·rw [e i hi];exact h.one i hi
 ·rw [e i hi];exact h.zero i hi k hk
end
end
section
section
variable {p:Int} {n:Nat} {m E R F:List (List Int)} {f g u v:Nat->Int}
def Uf (p:Int) (R:List (List Int)) (x:List Int):Nat->List Int
 | 0=>x
 | i+1=>De p ((Uf p R x i).getD (lv R i) 0) (Uf p R x i) (R.getD i [])
theorem Ti {x:List Int} (hp:2<=p) (hR:MatW p n R) (hx:VecW p n x):∀ i,i<=R.length->VecW p n (Uf p R x i)
 | 0,_=>hx
 | i+1,hi=>Ai3 hp (Ti hp hR hx i oM).1 (hR _ (Id oM)).1
theorem Aq5 {x:List Int} (hp:2<=p) (hR:MatW p n R) (hx:VecW p n x) (h:Kt n R.length R (lv R)):∀ i,i<=R.length->∀ j,j<n->Cg p ((Uf p R x i).getD j 0) (x.getD j 0 - sm i fun t=>x.getD (lv R t) 0*en R t j)
 | 0,_,j,_=>Cg.of (by show _=_ - 0;rw [Int.sub_zero];rfl)
 | i+1,hi,j,hj=>by
  have ih:=Aq5 hp hR hx h i oM
  have hk:Cg p ((Uf p R x i).getD (lv R i) 0) (x.getD (lv R i) 0):=by
   refine (ih _ (h.lt i oM)).trans (Cg.of ?_);rw [Lf fun t ht=>by rw [h.zero i oM t oM];omega];omega
  show Cg p ((De p _ _ _).getD j 0) _;rw [Aem (by rw [(Ti hp hR hx i oM).1,(hR _ (Id (show i<R.length by omega))).1])];refine Cg.md.trans (((ih j hj).sub (hk.mul Cg.rf)).trans (Cg.of ?_));show _=x.getD j 0 - (sm i _+x.getD (lv R i) 0*en R i j);unfold en;omega
-- the equations from behind
end
end
section
section
variable {p:Int} {n:Nat} {m:List (List Int)}
theorem Aa6 (x:List Int) (hx:x.length<=1000):Hb x=some ((Fh x:Nat):Int):=by
 unfold Hb;have hle:Fh x<=x.length:=List.findIdx_le_length
 have h:Aq (fun s_:Nat=>Ix x s_) 4611686018427387904 0=some (Fh x):=by
  refine A2 (Fh x) (fun i=>i) oM _ rfl (fun i hi=>?_) ?_
  ·have h0:=List.not_of_lt_findIdx hi;have h1:x[i]'oM=0:=by simpa using h0
   try dsimp only
   unfold Ix;rw [Au oM,cond_true,gEg (show i<x.length by omega),obs,obs,h1,show ((0:Int)==0)=true from rfl,cond_true,Af oM]
  ·unfold Ix;by_cases h:Fh x=x.length
   ·rw [At oM,cond_false,obs,cond_false]
   ·have h0:=List.findIdx_getElem (w:=show Fh x<x.length by omega);rw [Au oM,cond_true,gEg (show Fh x<x.length by omega),obs,obs,show ((x[Fh x]'oM)==0)=false from Bool.eq_false_iff.2 (fun e=>bne_iff_ne.1 h0 (beq_iff_eq.1 e)),cond_false]
 rw [h,obs]
theorem Apm (x:List Int) (hx:x.length<=100000):Mv x=some ((Fh x:Nat):Int):=by
 unfold Mv;have hle:Fh x<=x.length:=List.findIdx_le_length
 have h:Aq (fun s_:Nat=>Lk x s_) 4611686018427387904 0=some (if Fh x=x.length then .next () else .out ((Fh x:Nat):Int)):=by
  refine A2 (Fh x) (fun i=>i) oM _ rfl (fun i hi=>?_) ?_
  ·have h0:=List.not_of_lt_findIdx hi;have h1:x[i]'oM=0:=by simpa using h0
   try dsimp only
   unfold Lk;rw [Au oM,cond_true,gEg (show i<x.length by omega),obs,h1,show ((0:Int) !=0)=false from rfl,cond_false,Af oM]
  ·unfold Lk;by_cases h:Fh x=x.length
   ·rw [At oM,cond_false,if_pos h]
   ·have h0:(x[Fh x]'oM !=0)=true:=List.findIdx_getElem (w:=show Fh x<x.length by omega);rw [Au oM,cond_true,gEg (show Fh x<x.length by omega),obs,h0,cond_true,if_neg h]
 rw [h];by_cases h2:Fh x=x.length
 ·rw [if_pos h2];show some _=some _;rw [h2]
 ·rw [if_neg h2];rfl
def spV (p:Int) (n:Nat) (m:List (List Int)) (c:List Int):Nat->List Int
 | 0=>List.replicate n 0
 | i+1=>List.zipWith (fun a x=>(a+c.getD i 0*x) % p) (spV p n m c i) (m.getD i [])
theorem Kc {c:List Int} (hp:2<=p) (hm:MatW p n m):∀ i,i<=m.length->VecW p n (spV p n m c i)
 | 0,_=>⟨by simp [spV],fun a ha=>by obtain rfl:=(List.mem_replicate.1 ha).2;omega⟩
 | i+1,hi=>by
  have h1:=Kc (c:=c) hp hm i oM;have h2:=hm _ (Id (show i<m.length by omega));refine ⟨by unfold spV;rw [List.length_zipWith,h1.1,h2.1];omega,fun a ha=>?_⟩;obtain ⟨b,d,rfl⟩:=Aky ha;exact Sm hp
theorem Avd {c:List Int} (hp:2<=p) (hm:MatW p n m):∀ i,i<=m.length->∀ j,j<n->Cg p ((spV p n m c i).getD j 0) (sm i fun t=>c.getD t 0*en m t j)
 | 0,_,j,_=>Cg.of (by show (List.replicate n (0:Int)).getD j 0=0;rw [gDg,List.getElem?_replicate];split <;> rfl)
 | i+1,hi,j,hj=>by
  have h1:=Kc (c:=c) hp hm i oM;have h2:=hm _ (Id (show i<m.length by omega))
  have e:(spV p n m c (i+1)).getD j 0=((spV p n m c i).getD j 0+c.getD i 0*en m i j) % p:=by
   have k1:=(Ct h1 hj).2.2;have k2:=(Ct h2 hj).2.2;show (List.zipWith (fun a x=>(a+c.getD i 0*x) % p) (spV p n m c i) (m.getD i [])).getD j 0=_;unfold en;generalize spV p n m c i=X at *;rw [gDg,List.getElem?_zipWith,k1,k2];rfl
  rw [e];exact Cg.md.trans ((Avd hp hm i oM j hj).add Cg.rf)
theorem Af9 {c:List Int} (hp:2<=p/\p<=97) (hm:MatW p n m) (hc:VecW p m.length c) (hn:n<=1000) (hl:m.length<=1000):I4 p (n:Int) m c=some (spV p n m c m.length):=by
 unfold I4;rw [Af oM,Int.toNat_natCast]
 have key:Aq (fun s_:Nat×List Int=>J3 m c p s_.1 s_.2) 4611686018427387904 (0,List.replicate n 0)=some (spV p n m c m.length):=by
  refine A2 m.length (fun i=>(i,spV p n m c i)) oM _ rfl (fun i hi=>?_) ?_
  ·have h1:=Kc (c:=c) hp.1 hm i oM;have h2:=hm _ (List.getElem_mem hi);have hl1:=h1.1;have hl2:=h2.1;have hcc:=hc.1;have hci:=N3 hc (j:=i) oM
   have hin:Aq (fun s_:Nat×List Int=>J6 m[i] c i p s_.1 s_.2) 4611686018427387904 (0,spV p n m c i)=some (spV p n m c (i+1)):=by
    have hv:=Kc (c:=c) hp.1 hm (i+1) oM;have hvl:=hv.1;refine V1 (y:=spV p n m c (i+1)) oM oM (fun j hj z hz=>?_) ?_
    ·have a1:=N3 h1 hj;have a2:=N3 h2 (j:=j) oM;have a3:=Aak hp hci a2
     try dsimp only
     unfold J6;rw [Au oM,cond_true,gEg (show j<m[i].length by omega),obs,hz,obs,gEg (show i<c.length by omega),obs,Af oM,Af oM,A6 (n:=c[i]'oM*m[i][j]'oM) oM oM,A6 oM oM,Int.tmod_eq_emod_of_nonneg oM];congr 4;simp only [spV,List.getElem_zipWith,Be (gEg (show i<c.length by omega)),Be (m:=m) (gEg hi)]
    ·try dsimp only
     unfold J6;rw [At oM,cond_false]
   try dsimp only
   unfold J3;rw [Au oM,cond_true,gEg hi,obs,hin,obs,Af oM]
  ·try dsimp only
   unfold J3;rw [At oM,cond_false]
 rw [key,obs]
def cvV (m:List (List Int)) (x:List Int) (i:Nat):List Int:=(List.range i).map fun t=>x.getD (lv m t) 0
theorem Asf {x:List Int} {i:Nat}:(cvV m x i).length=i:=by simp [cvV]
theorem Au3 {x:List Int} {i:Nat}:cvV m x (i+1)=cvV m x i++[x.getD (lv m i) 0]:=by simp [cvV,List.range_succ]
theorem Avi {i:Nat} (hi:i<m.length):Fh m[i]=lv m i:=by unfold lv;rw [Be (gEg hi)]
theorem Axa {x:List Int} (h:Kt n m.length m (lv m)) (hx:VecW p n x):VecW p m.length (cvV m x m.length):=by
 refine ⟨Asf,fun a ha=>?_⟩;obtain ⟨t,ht,rfl⟩:=List.mem_map.1 ha;have:=Ct hx (h.lt t (List.mem_range.1 ht));exact ⟨this.1,this.2.1⟩
theorem Aue {x:List Int} {t:Nat} (ht:t<m.length):(cvV m x m.length).getD t 0=x.getD (lv m t) 0:=by
 unfold cvV;rw [gDg,List.getElem?_map,List.getElem?_range ht];rfl
theorem Akm {x:List Int} (hm:MatW p n m) (h:Kt n m.length m (lv m)) (hx:VecW p n x) (hn:n<=1000) (hl:m.length<=1000):J1 m x=some (cvV m x m.length):=by
 unfold J1
 have key:Aq (fun s_:Nat×List Int=>Gn m x s_.1 s_.2) 4611686018427387904 (0,[])=some (cvV m x m.length):=by
  refine A2 m.length (fun i=>(i,cvV m x i)) oM _ rfl (fun i hi=>?_) ?_
  ·have h1:=hm _ (List.getElem_mem hi);have h2:=Ct hx (h.lt i hi);have h3:=Asf (m:=m) (x:=x) (i:=i)
   try dsimp only
   unfold Gn;rw [Au oM,cond_true,gEg hi,obs,Aa6 _ (by rw [h1.1];exact hn),obs,Bt oM,Int.toNat_natCast,Avi hi,h2.2.2,obs,Af oM,Af oM,Au3]
  ·try dsimp only
   unfold Gn;rw [At oM,cond_false]
 rw [key];rfl
def Na (p:Int) (n:Nat) (m:List (List Int)) (x:List Int):Bool:=spV p n m (cvV m x m.length) m.length==x
theorem Atj {x:List Int} (hp:2<=p/\p<=97) (hm:MatW p n m) (h:Kt n m.length m (lv m)) (hx:VecW p n x) (hn:n<=1000) (hl:m.length<=1000):Nv p m x=some (Na p n m x):=by
 unfold Nv;have hv:=Axa h hx;have hs:=Kc (c:=cvV m x m.length) hp.1 hm m.length (Nat.le_refl _);rw [Akm hm h hx hn hl,obs,hx.1,Af9 hp hm hv hn hl,obs,Aie _ _ (by rw [hs.1];omega)];rfl
theorem An2 {x:List Int} (hx:VecW p n x):(((Fh x:Nat):Int)==((x.length:Nat):Int))=true↔∀ j,j<n->Cg p (x.getD j 0) 0:=by
 rw [beq_iff_eq];constructor
 ·intro e j hj;have e2:Fh x=x.length:=by omega
  have g:=Ct hx hj;have h0:=List.not_of_lt_findIdx (xs:=x) (p:=fun a=>a !=0) (i:=j) (by show j<Fh x;rw [e2,hx.1];exact hj);have h1:x[j]'(by rw [hx.1];exact hj)=0:=by simpa using h0
  rw [Be (gEg (show j<x.length by rw [hx.1];exact hj)),h1];exact Cg.rf
 ·intro H
  have e2:Fh x=x.length:=by
   refine List.findIdx_eq_length.2 fun a ha=>?_
   obtain ⟨j,hj,rfl⟩:=List.mem_iff_getElem.1 ha;have hj':j<n:=by rw [← hx.1];exact hj
   have g:=Ct hx hj';have:=(H j hj').eq ⟨g.1,g.2.1⟩ ⟨by omega,by omega⟩;rw [Be (gEg hj)] at this;simp [this]
  omega
theorem Amh {a s:Int}:Cg p (a - s) 0↔Cg p s a:=by
 constructor
 ·intro h;exact (Cg.of oM).trans (((Cg.rf (a:=a)).sub h).trans (Cg.of oM))
 ·intro h;exact ((Cg.rf (a:=a)).sub h).trans (Cg.of oM)
theorem Aw6 {x y:List Int} (hx:VecW p n x) (hy:VecW p n y):(x==y)=true↔∀ j,j<n->Cg p (x.getD j 0) (y.getD j 0):=by
 rw [beq_iff_eq];constructor
 ·rintro rfl j _;exact Cg.rf
 ·intro H;refine List.ext_getElem (by rw [hx.1,hy.1]) fun j h1 h2=>?_
  have hj:j<n:=by rw [← hx.1];exact h1
  have g:=Ct hx hj;have g':=Ct hy hj;have:=(H j hj).eq ⟨g.1,g.2.1⟩ ⟨g'.1,g'.2.1⟩
  rwa [Be (gEg h1),Be (gEg h2)] at this
theorem Aug {x:List Int} (hp:2<=p) (hm:MatW p n m) (h:Kt n m.length m (lv m)) (hx:VecW p n x) :
  (((Fh (Uf p m x m.length):Nat):Int)==(((Uf p m x m.length).length:Nat):Int))=Na p n m x:=by
 rw [Bool.eq_iff_iff,An2 (Ti hp hm hx _ (Nat.le_refl _))];unfold Na;rw [Aw6 (Kc hp hm _ (Nat.le_refl _)) hx]
 have key:∀ j,j<n->(Cg p ((Uf p m x m.length).getD j 0) 0↔Cg p ((spV p n m (cvV m x m.length) m.length).getD j 0) (x.getD j 0)):=fun j hj=>by
  have h1:=Aq5 hp hm hx h m.length (Nat.le_refl _) j hj;have h2:=(Avd (c:=cvV m x m.length) hp hm m.length (Nat.le_refl _) j hj).trans (M2 (g:=fun t=>x.getD (lv m t) 0*en m t j) fun t ht=>by rw [Aue ht];exact Cg.rf);exact ⟨fun h0=>h2.trans ((Amh).1 (h1.symm.trans h0)),fun h0=>h1.trans ((Amh).2 (h2.symm.trans h0))⟩
 exact ⟨fun H j hj=>(key j hj).1 (H j hj),fun H j hj=>(key j hj).2 (H j hj)⟩
theorem An3 {l r:Int} {x:List Int} (hp:2<=p/\p<=97) (hm:MatW p n m) (h:Kt n m.length m (lv m)) (hx:VecW p n x) (hn:n<=1000) (hl:m.length<=1000):K4 p l r m x=some (Na p n m x):=by
 unfold K4 Kg;have hxl:=hx.1;rw [Am5 x oM,obs]
 have key:Aq (fun s_:Nat×List Int×List Int=>E3 m p s_.1 s_.2.1 s_.2.2) 4611686018427387904 (0,x,[])=some (Uf p m x m.length,(List.range m.length).map fun t=>(Uf p m x t).getD (lv m t) 0):=by
  refine A2 m.length (fun i=>(i,Uf p m x i,(List.range i).map fun t=>(Uf p m x t).getD (lv m t) 0)) oM _ rfl (fun i hi=>?_) ?_
  ·have h1:=hm _ (List.getElem_mem hi);have hc:=Ti hp.1 hm hx i oM;have hc':=Ti hp.1 hm hx (i+1) oM;have h2:=Ct hc (h.lt i hi)
   have e:De p ((Uf p m x i).getD (lv m i) 0) (Uf p m x i) m[i]=Uf p m x (i+1):=by
    show _=De p _ _ (m.getD i []);rw [Be (m:=m) (gEg hi)]
   try dsimp only
   unfold E3;rw [Au oM,cond_true,gEg hi,obs,Apm _ (by rw [h1.1];omega),obs,Bt oM,Int.toNat_natCast,Avi hi,h2.2.2,obs,Af (by simp;omega),Aa2 hp hc h1 oM ⟨h2.1,h2.2.1⟩,obs,e,Af (by rw [hc.1,hc'.1]),Af oM,List.range_succ,List.map_append];rfl
  ·try dsimp only
   unfold E3;rw [At oM,cond_false]
 have hc:=Ti hp.1 hm hx m.length (Nat.le_refl _);rw [key,obs];dsimp only;unfold Pt;rw [Apm _ (by rw [hc.1];omega),obs,Aug hp.1 hm h hx];rfl
theorem Att {x:List Int} (hm:MatW p 0 m) (hp:2<=p) (hx:VecW p 0 x):Na p 0 m x=true:=by
 unfold Na;rw [beq_iff_eq,List.length_eq_zero_iff.1 (Kc (c:=cvV m x m.length) hp hm m.length (Nat.le_refl _)).1,List.length_eq_zero_iff.1 hx.1]
theorem Avb {l r l' r':Int} {b:List (List Int)} (hp:2<=p/\p<=97) (hm:MatW p n m) (h:Kt n m.length m (lv m)) (hb:MatW p n b) (hn:n<=1000) (hl:m.length<=1000) (hl':b.length<=1000) :
  ∃ z,Kw p l r m l' r' b=some z/\((z=.inl ()/\b.find? (fun x=> !Na p n m x)=none)∨∃ x:List Int,z=.inr x/\b.find? (fun x=> !Na p n m x)=some x):=by
 unfold Kw
 have key:∃ c,Aq (fun s_:Nat=>Hn b p l r m s_) 4611686018427387904 0=some c/\((c=Ctl.next ()/\b.find? (fun x=> !Na p n m x)=none)∨∃ x:List Int,c=Ctl.out (Sum.inr x)/\b.find? (fun x=> !Na p n m x)=some x):=by
  refine Gg (Post:=fun c=>(c=Ctl.next ()/\b.find? (fun x=> !Na p n m x)=none)∨∃ x:List Int,c=Ctl.out (Sum.inr x)/\b.find? (fun x=> !Na p n m x)=some x) b.length (fun i s=>s=i/\(b.take i).find? (fun x=> !Na p n m x)=none) oM ⟨rfl,by simp⟩ ?_ ?_
  ·rintro i s hi ⟨rfl,hI⟩;have hg:=gEg hi;have hx:=hb _ (List.getElem_mem hi);have e:b.take (s+1)=b.take s++[b[s]]:=by rw [List.take_add_one,hg];rfl
   unfold Hn;rw [Au oM,cond_true,hg,obs,An3 hp hm h hx hn hl,obs,Af oM];cases hh:Na p n m b[s]
   ·refine .inr ⟨_,rfl,.inr ⟨_,rfl,?_⟩⟩;have e2:b=b.take (s+1)++b.drop (s+1):=(List.take_append_drop _ _).symm
    conv=>lhs;rw [e2,e]
    rw [List.find?_append,List.find?_append,hI];simp [hh]
   ·exact .inl ⟨_,rfl,rfl,by rw [e,List.find?_append,hI];simp [hh]⟩
  ·rintro s ⟨rfl,hI⟩;unfold Hn;rw [At oM,cond_false];rw [List.take_length] at hI;exact ⟨_,rfl,.inl ⟨rfl,hI⟩⟩
 obtain ⟨c,hc,h1⟩:=key;rw [hc];rcases h1 with ⟨rfl,h1⟩|⟨x,rfl,h1⟩
 ·exact ⟨_,rfl,.inl ⟨rfl,h1⟩⟩
 ·exact ⟨_,rfl,.inr ⟨x,rfl,h1⟩⟩
theorem Aqs {b:List (List Int)} {x:List Int} (hp:2<=p/\p<=97) (hm:MatW p n m) (hb:MatW p n b) (h:b.find? (fun x=> !Na p n m x)=some x):VecW p n x/\x.length≠0/\b.all (Na p n m)=false:=by
 have hx:=hb x (List.mem_of_find?_eq_some h);have hh:=List.find?_some h;have hh:Na p n m x=false:=by simpa using hh
 refine ⟨hx,fun h0=>?_,?_⟩
 ·have hn0:n=0:=by rw [← hx.1];exact h0
  subst hn0;rw [Att hm hp.1 hx] at hh;exact absurd hh (by decide)
 ·rw [List.all_eq_false];exact ⟨x,List.mem_of_find?_eq_some h,by rw [hh];decide⟩
theorem Aqx {s:ByteArray} {xs:List Nd} {l r:Int} {b:List (List Int)} (hx:xs.length<=1073741824) (hb:b.length<=1048576) (hr:Gc 1048576 b) (h:Ej p s xs l r b=some true):Ms p l r b=true:=by
 unfold Ej at h;obtain ⟨nm,n1,n2⟩:=Akt s;rw [Ab2,obs,n2,obs,Vn xs p hx,T8 xs hx,Aap p l r b hb hr] at h;cases ht:tyV xs with
 | none=>rw [ht] at h;exact absurd h (by simp)
 | some w =>
  rw [ht,Option.isSome_some,Bool.true_and] at h;dsimp only at h;generalize isF p=a1 at h;generalize Pc p xs=a2 at h;generalize Zc xs=a3 at h;cases hg:Ms p l r b
  ·rw [hg] at h;cases nm <;> cases a1 <;> cases a2 <;> cases a3 <;> exact absurd h (by simp)
  ·rfl
theorem Aoi {s:ByteArray} {xs:List Nd} {l r:Int} {b:List (List Int)} (hx:xs.length<=1073741824) (hb:b.length<=1048576) (hr:Gc 1048576 b) (h:Ej p s xs l r b=some true):isF p=true/\Pc p xs=true/\Zc xs=true/\Ms p l r b=true/\tyV xs=some (l,r):=by
 have hg:=Aqx hx hb hr h;unfold Ej at h;obtain ⟨nm,n1,n2⟩:=Akt s;rw [Ab2,obs,n2,obs,Vn xs p hx,T8 xs hx,Aap p l r b hb hr,hg] at h;cases ht:tyV xs with
 | none=>rw [ht] at h;exact absurd h (by simp)
 | some w =>
  rw [ht,Option.isSome_some,Bool.true_and] at h;dsimp only at h;cases h1:l==w.1
  ·rw [h1] at h;generalize isF p=a1 at h;generalize Pc p xs=a2 at h;generalize Zc xs=a3 at h;cases nm <;> cases a1 <;> cases a2 <;> cases a3 <;> exact absurd h (by simp)
  cases h2:r==w.2
  ·rw [h1,h2] at h;generalize isF p=a1 at h;generalize Pc p xs=a2 at h;generalize Zc xs=a3 at h;cases nm <;> cases a1 <;> cases a2 <;> cases a3 <;> exact absurd h (by simp)
  obtain rfl:=beq_iff_eq.1 h1;obtain rfl:=beq_iff_eq.1 h2;rw [h1,h2] at h;generalize isF p=a1 at *;generalize Pc p xs=a2 at *;generalize Zc xs=a3 at *;cases nm <;> cases a1 <;> cases a2 <;> cases a3 <;> first|exact ⟨rfl,rfl,rfl,hg,rfl⟩|exact absurd h (by simp)
theorem Aow {l r:Int} {b:List (List Int)} (G:Avn p l r b):Kt (l+r).toNat b.length b (lv b):=by
 have hp:=Cd G.fp;obtain ⟨⟨pv,h⟩,_⟩:=S8 hp.1 (fun _ h1 h2=>(Ae5 G.fp ⟨h1,h2⟩).2.2.2.2) G.mb;rw [G.rb] at h;exact Ww h G.mb (Nat.le_refl _)
end
end
section
theorem Aal {p:Int} (hp:isF p=true):Yh p:=fun _ h1 h2=>(Ae5 hp ⟨h1,h2⟩).2.2.2.2
theorem Q4 {n:Int} (h:0<=n/\n<=1000000):Dn n=some (List.replicate n.toNat 0):=by
 unfold Dn;rw [Af oM]
def bvT (p:Int) (n:Nat) (R:List (List Int)) (j:Nat):Nat->List Int
 | 0=>(List.replicate n 0).set j 1
 | i+1=>(bvT p n R j i).set (lv R i) ((p - en R i j) % p)
def ldT (n:Nat) (R:List (List Int)):Nat->List Int
 | 0=>List.replicate n (-1)
 | i+1=>(ldT n R i).set (lv R i) (i:Int)
def X4 (n:Nat) (R:List (List Int)):List Nat:=(List.range n).filter fun j=> !pvs R.length (lv R) j
def Rg (p:Int) (n:Nat) (R:List (List Int)):List (List Int):=(X4 n R).map fun j=>bvT p n R j R.length
def Nb (p:Int) (n:Nat) (m:List (List Int)):List (List Int):=gj p n (Rg p n (gj p n m))
section
variable {p:Int} {n:Nat} {R m:List (List Int)}
theorem Ah8 {pv:Nat->Nat} {i j:Nat}:pvs (i+1) pv j=(pvs i pv j||(pv i==j)):=by simp [pvs,List.range_succ]
theorem Aff:∀ i,(ldT n R i).length=n
 | 0=>by simp [ldT]
 | i+1=>by unfold ldT;rw [List.length_set,Aff i]
theorem Ap0 (hlt:∀ i,i<R.length->lv R i<n) {j:Nat} (hj:j<n):∀ i,i<=R.length->∃ v,(ldT n R i)[j]? =some v/\(decide (0<=v)=pvs i (lv R) j)
 | 0,_=>⟨-1,by simp [ldT,hj],rfl⟩
 | i+1,hi=>by
  obtain ⟨v,h1,h2⟩:=Ap0 hlt hj i oM;have hl:=Aff (n:=n) (R:=R) i;by_cases e:lv R i=j
  ·refine ⟨(i:Int),?_,?_⟩
   ·unfold ldT;rw [e,List.getElem?_set_self oM]
   ·rw [Ah8,beq_iff_eq.2 e,Bool.or_true,Au oM]
  ·refine ⟨v,?_,?_⟩
   ·unfold ldT;rw [List.getElem?_set_ne e];exact h1
   ·rw [Ah8,beq_eq_false_iff_ne.2 e,Bool.or_false];exact h2
theorem Vy {j:Nat}:∀ i,(bvT p n R j i).length=n
 | 0=>by simp [bvT]
 | i+1=>by unfold bvT;rw [List.length_set,Vy i]
theorem Aqq {j:Nat} (hp:2<=p):∀ i,inV p (bvT p n R j i)
 | 0=>fun a ha=>by
  rcases List.mem_or_eq_of_mem_set ha with ha|rfl
  ·obtain rfl:=(List.mem_replicate.1 ha).2;omega
  ·omega
 | i+1=>fun a ha=>by
  rcases List.mem_or_eq_of_mem_set ha with ha|rfl
  ·exact Aqq hp i a ha
  ·exact Sm hp
theorem Tf {x:List Int} {i j:Nat} {a:Int} (hi:i<x.length):(x.set i a).getD j 0=if i=j then a else x.getD j 0:=by
 rw [gDg];by_cases e:i=j
 ·subst e;rw [if_pos rfl,List.getElem?_set_self hi];rfl
 ·rw [if_neg e,List.getElem?_set_ne e,← gDg]
theorem Al5 {j:Nat} (h:Kt n R.length R (lv R)):∀ i,i<=R.length->∀ t,t<i->(bvT p n R j i).getD (lv R t) 0=(p - en R t j) % p
 | 0,_,t,ht=>by omega
 | i+1,hi,t,ht=>by
  unfold bvT;rw [Tf (by rw [Vy];exact h.lt i oM)];by_cases e:i=t
  ·subst e;rw [if_pos rfl]
  ·have:=h.mono t i oM oM;rw [if_neg oM];exact Al5 h i oM t oM
theorem Abx {j q:Nat} (h:Kt n R.length R (lv R)) (hj:j<n):∀ i,i<=R.length->(∀ t,t<i->lv R t≠q)->(bvT p n R j i).getD q 0=if j=q then 1 else 0
 | 0,_,_=>by
  unfold bvT;rw [Tf (by simpa using hj)];by_cases e:j=q
  ·rw [if_pos e,if_pos e]
  ·rw [if_neg e,if_neg e,gDg,List.getElem?_replicate];split <;> rfl
 | i+1,hi,hq=>by
  unfold bvT;rw [Tf (by rw [Vy];exact h.lt i oM),if_neg (hq i oM)];exact Abx h hj i oM fun t ht=>hq t oM
theorem Sg (hp:2<=p):MatW p n (Rg p n R):=fun x hx=>by
 obtain ⟨j,_,rfl⟩:=List.mem_map.1 hx;exact ⟨Vy _,Aqq hp _⟩
theorem Ain:(Rg p n R).length<=n:=by
 unfold Rg X4;rw [List.length_map];exact Nat.le_trans (List.length_filter_le ..) (by simp)
theorem Atd (hp:2<=p) (h:Kt n R.length R (lv R)):Ayc p n R (lv R) (Rg p n R):=by
 have hb:∀ j,j<n->pvs R.length (lv R) j=false->Cg p ((bvT p n R j R.length).getD j 0) 1/\(∀ i,i<R.length->Cg p ((bvT p n R j R.length).getD (lv R i) 0) (-en R i j))/\∀ q,q<n->q≠j->pvs R.length (lv R) q=false->Cg p ((bvT p n R j R.length).getD q 0) 0:=fun j hj hf=>by
  refine ⟨?_,fun i hi=>?_,fun q _ hne hfq=>?_⟩
  ·rw [Abx h hj _ (Nat.le_refl _) fun t ht=>Am4 hf ht,if_pos rfl];exact Cg.rf
  ·rw [Al5 h _ (Nat.le_refl _) i hi];exact Cg.md.trans ⟨1,by omega⟩
  ·rw [Abx h hj _ (Nat.le_refl _) fun t ht=>Am4 hfq ht,if_neg (Ne.symm hne)];exact Cg.rf
 have he:∀ t j,(X4 n R)[t]? =some j->∀ q,en (Rg p n R) t q=(bvT p n R j R.length).getD q 0:=fun t j ht q=>by
  unfold en Rg;rw [Be (x:=bvT p n R j R.length) (by rw [List.getElem?_map,ht];rfl)]
 have hl:(Rg p n R).length=(X4 n R).length:=List.length_map ..;refine ⟨fun j hj hf=>?_,fun t ht=>?_⟩
 ·have hm:j∈X4 n R:=List.mem_filter.2 ⟨List.mem_range.2 hj,by rw [hf];rfl⟩;obtain ⟨t,ht,e⟩:=List.getElem_of_mem hm;have h1:(X4 n R)[t]? =some j:=by rw [gEg ht,e]
  refine ⟨t,by omega,?_⟩;simp only [he t j h1];exact hb j hj hf
 ·obtain ⟨j,hj⟩:=J9 (show t<(X4 n R).length by omega);have hm:=List.mem_filter.1 (List.mem_of_getElem? hj);have hjn:=List.mem_range.1 hm.1;have hf:pvs R.length (lv R) j=false:=by simpa using hm.2
  refine ⟨j,hjn,hf,?_⟩;simp only [he t j hj];exact hb j hjn hf
theorem Aqv {f:Nat->Int} (hp:isF p=true) (hm:MatW p n m):Dh p n (Rg p n (gj p n m)) f↔Ok p n m f:=by
 have hb:=Cd hp;obtain ⟨⟨pv,h1⟩,h2⟩:=S8 hb.1 (Aal hp) hm;have h3:=Ww h1 (R7 hb.1 hm) (Nat.le_refl n);refine (Aoc h3 (Atd hb.1 h3)).trans ⟨Aly fun i hi=>(h2 _).2 (Cs hi),Aly fun i hi=>(h2 _).1 (Cs hi)⟩
theorem Zp {x:Int} (hp:2<=p/\p<=97) (hx:0<=x/\x<p):Fb p x=some ((p - x) % p):=by
 unfold Fb;rw [Af oM,A6 oM oM,Int.tmod_eq_emod_of_nonneg oM]
theorem Aai (hp:isF p=true) (hm:MatW p n m) (hn:n<=1000) (hl:m.length<=100000):Ju p (n:Int) m=some (Nb p n m):=by
 have hb:=Cd hp;obtain ⟨⟨pv,h1⟩,_⟩:=S8 hb.1 (Aal hp) hm;have hRm:=R7 (n:=n) hb.1 hm;have h:=Ww h1 hRm (Nat.le_refl n)
 have hRl:(gj p n m).length<=n:=by
  have:=Abg (k:=n) (u:=id) (fun i j h _=>h) h.mono;refine Nat.le_of_not_lt fun hlt=>?_
  have hge:∀ i,i<(gj p n m).length->i<=lv (gj p n m) i:=by
   intro i
   induction i with
   | zero=>intro _;omega
   | succ i ih=>intro hi;have:=ih oM;have:=h.mono i (i+1) oM hi;omega
  have:=hge n hlt;have:=h.lt n hlt;omega
 unfold Ju Nb;rw [Qs hp hm (Nat.le_refl n) oM hl,obs,Af oM,Int.toNat_natCast];generalize gj p n m=R at *
 have l1:Aq (fun s_:Nat×List Int=>Iu (n:Int) s_.1 s_.2) 4611686018427387904 (0,List.replicate n 0)=some (ldT n R 0):=by
  refine V1 (y:=ldT n R 0) (by simp [ldT]) (by simp;omega) (fun j hj z hz=>?_) ?_
  ·simp at hj
   try dsimp only
   unfold Iu;rw [Int.toNat_natCast,Au oM,cond_true,hz,obs,Af oM];simp [ldT]
  ·try dsimp only
   unfold Iu;rw [Int.toNat_natCast,At (by simp),cond_false]
 have hrow:∀ i,i<R.length->R[i]? =some (R.getD i [])/\VecW p n (R.getD i []):=fun i hi=>⟨by rw [gEg hi,Be (gEg hi)],hRm _ (Id hi)⟩
 have l2:Aq (fun s_:Nat×List Int=>Iy R s_.1 s_.2) 4611686018427387904 (0,ldT n R 0)=some (ldT n R R.length):=by
  refine A2 R.length (fun i=>(i,ldT n R i)) oM _ rfl (fun i hi=>?_) ?_
  ·obtain ⟨g1,g2⟩:=hrow i hi;have hlt:=h.lt i hi;obtain ⟨x,hx⟩:=J9 (m:=ldT n R i) (i:=lv R i) (by rw [Aff];exact hlt)
   try dsimp only
   unfold Iy;rw [Au oM,cond_true,g1,obs,Aa6 _ (by rw [g2.1];exact hn),obs,Bt oM,Int.toNat_natCast,show (ldT n R i)[Fh (R.getD i [])]? =some x from hx,obs,Af oM];rfl
  ·try dsimp only
   unfold Iy;rw [At oM,cond_false]
 have l4:∀ j,j<n->Aq (fun s_:Nat×List Int=>I0 R j p s_.1 s_.2) 4611686018427387904 (0,(List.replicate n 0).set j 1)=some (bvT p n R j R.length):=fun j hj=>by
  refine A2 R.length (fun i=>(i,bvT p n R j i)) oM _ rfl (fun i hi=>?_) ?_
  ·obtain ⟨g1,g2⟩:=hrow i hi;have hlt:=h.lt i hi;obtain ⟨q1,q2,q3⟩:=Ct g2 hj;obtain ⟨x,hx⟩:=J9 (m:=bvT p n R j i) (i:=lv R i) (by rw [Vy];exact hlt)
   try dsimp only
   unfold I0;rw [Au oM,cond_true,g1,obs,Aa6 _ (by rw [g2.1];exact hn),obs,q3,obs,Zp hb ⟨q1,q2⟩,obs,Bt oM,Int.toNat_natCast,show (bvT p n R j i)[Fh (R.getD i [])]? =some x from hx,obs,Af oM];rfl
  ·try dsimp only
   unfold I0;rw [At oM,cond_false]
 have l3:Aq (fun s_:Nat×List (List Int)=>I9 (n:Int) (ldT n R R.length) R p s_.1 s_.2) 4611686018427387904 (0,[])=some (Rg p n R):=by
  refine A2 n (fun k=>(k,((List.range k).filter fun j=> !pvs R.length (lv R) j).map fun j=>bvT p n R j R.length)) oM _ rfl (fun k hk=>?_) ?_
  ·obtain ⟨v,v1,v2⟩:=Ap0 h.lt hk R.length (Nat.le_refl _)
   have hle:(((List.range k).filter fun j=> !pvs R.length (lv R) j).map fun j=>bvT p n R j R.length).length<=k:=by
    rw [List.length_map];exact Nat.le_trans (List.length_filter_le ..) (by simp)
   try dsimp only
   unfold I9;rw [Au oM,cond_true,v1,obs,v2,List.range_succ,List.filter_append];cases hc:pvs R.length (lv R) k
   ·rw [cond_false,Af oM,Int.toNat_natCast,List.getElem?_replicate,if_pos hk,obs,l4 k hk,obs,Af oM,obs,Af oM];simp [hc]
   ·rw [cond_true,obs,Af oM];simp [hc]
  ·try dsimp only
   unfold I9;rw [At oM,cond_false];rfl
 rw [l1,obs,l2,obs,l3,obs,Qs hp (Sg hb.1) (Nat.le_refl n) oM (Nat.le_trans Ain oM),obs]
def trV (m:List (List Int)) (n:Nat):List (List Int):=(List.range n).map fun j=>m.map fun x=>x.getD j 0
def unV (n k:Nat):List Int:=(List.replicate n 0).set k 1
def idV (n:Nat):List (List Int):=(List.range n).map (unV n)
theorem Ane {k:Nat} (hk:k<n) (hn:n<=1000):Kr (n:Int) (k:Int)=some (unV n k):=by
 unfold Kr;rw [Q4 oM,obs,Bt oM,Int.toNat_natCast,Int.toNat_natCast,List.getElem?_replicate,if_pos hk,obs];rfl
theorem Aa4 (hn:n<=1000):Fo (n:Int)=some (idV n):=by
 unfold Fo
 have key:Aq (fun s_:Nat×List (List Int)=>Eg (n:Int) s_.1 s_.2) 4611686018427387904 (0,[])=some (idV n):=by
  refine A2 n (fun k=>(k,(List.range k).map (unV n))) oM _ rfl (fun k hk=>?_) ?_
  ·try dsimp only
   unfold Eg;rw [Au oM,cond_true,Ane hk hn,obs,Af (by simp;omega),Af oM,List.range_succ,List.map_append];rfl
  ·try dsimp only
   unfold Eg;rw [At oM,cond_false];rfl
 rw [key,obs]
theorem Zx {k:Nat} (hp:2<=p):VecW p n (unV n k):=⟨by simp [unV],fun a ha=>by
 rcases List.mem_or_eq_of_mem_set ha with ha|rfl
 ·obtain rfl:=(List.mem_replicate.1 ha).2;omega
 ·omega⟩
theorem Ajv {k j:Nat} (hk:k<n):(unV n k).getD j 0=if j=k then 1 else 0:=by
 unfold unV;rw [Tf (by simpa using hk)];by_cases e:k=j
 ·rw [if_pos e,if_pos e.symm]
 ·rw [if_neg e,if_neg (Ne.symm e),gDg,List.getElem?_replicate];split <;> rfl
def wiV (m:List (List Int)) (n:Nat):List (List Int):=(List.range n).map fun j=>(m.map fun x=>x.getD j 0)++unV n j
theorem Any (hp:isF p=true) (hm:MatW p n m) (hn:n<=1000) (hl:m.length<=1000):Jt p (trV m n) (m.length:Int)=some (Nb p n m):=by
 have hb:=Cd hp;have hwl:(wiV m n).length=n:=by simp [wiV]
 have hcol:∀ j,VecW p m.length (m.map fun x=>x.getD j 0):=fun j=>⟨by simp,fun a ha=>by
  obtain ⟨x,hx,rfl⟩:=List.mem_map.1 ha;by_cases hj:j<n
  ·obtain ⟨q1,q2,_⟩:=Ct (hm x hx) hj;exact ⟨q1,q2⟩
  ·have:=(hm x hx).1;rw [gDg,List.getElem?_eq_none oM];simp;omega⟩
 have hW:MatW p (m.length+n) (wiV m n):=fun x hx=>by
  obtain ⟨j,_,rfl⟩:=List.mem_map.1 hx;refine ⟨by rw [List.length_append,(hcol j).1,(Zx (k:=j) (n:=n) hb.1).1],fun a ha=>?_⟩;rcases List.mem_append.1 ha with ha|ha
  ·exact (hcol j).2 a ha
  ·exact (Zx hb.1).2 a ha
 have e1:rdW m.length (wiV m n)=trV m n:=by
  unfold rdW wiV trV;rw [List.map_map];exact List.map_congr_left fun j _=>List.take_left' (by simp)
 have e2:alW m.length (wiV m n)=idV n:=by
  unfold alW wiV idV;rw [List.map_map];exact List.map_congr_left fun j _=>List.drop_left' (by simp)
 obtain ⟨g1,g2,g3⟩:=L5 hb.1 hW m.length;have hred:=X1 hp hW (Nat.le_refl m.length) (show m.length<=m.length+n by omega) oM oM;rw [e1,e2] at hred
 have hmat:MatW p n (((gjT p (wiV m n) m.length).2.drop (gjT p (wiV m n) m.length).1).map (·.drop m.length)):=fun x hx=>by
  obtain ⟨y,hy,rfl⟩:=List.mem_map.1 hx;have:=(g1 y (List.mem_of_mem_drop hy)).dr (u:=m.length)
  rwa [Nat.add_sub_cancel_left] at this
 have hdr:(alW m.length (gjT p (wiV m n) m.length).2).drop (gjT p (wiV m n) m.length).1=((gjT p (wiV m n) m.length).2.drop (gjT p (wiV m n) m.length).1).map (·.drop m.length):=by
  unfold alW;rw [List.map_drop]
 have htm:MatW p m.length (trV m n):=fun x hx=>by
  obtain ⟨j,_,rfl⟩:=List.mem_map.1 hx;exact hcol j
 have htl:(trV m n).length=n:=by simp [trV]
 have hil:(idV n).length=n:=by simp [idV]
 have key:gj p n (((gjT p (wiV m n) m.length).2.drop (gjT p (wiV m n) m.length).1).map (·.drop m.length))=Nb p n m:=by
  refine Auy hb.1 (Aal hp) hmat (Sg hb.1) fun f=>?_
  refine (Aop (A:=m) hb.1 (Aal hp) hW hwl rfl (fun t ht i hi=>?_) fun t ht j hj=>?_).trans (Aqv hp hm).symm
  ·unfold en;have h1:(wiV m n)[t]? =some ((m.map fun x=>x.getD t 0)++unV n t):=by simp [wiV,ht]
   rw [Be h1,gDg,List.getElem?_append_left (by simpa using hi),List.getElem?_map,gEg hi,Be (m:=m) (gEg hi)];rfl
  ·unfold en;have h1:(wiV m n)[t]? =some ((m.map fun x=>x.getD t 0)++unV n t):=by simp [wiV,ht]
   rw [Be h1,gDg,List.getElem?_append_right (by simp),List.length_map,Nat.add_sub_cancel_left,← gDg,Ajv ht]
 unfold Jt;rw [Ahn htm oM oM,obs,htl,Aa4 hn,obs,hred,obs];have a1:(rdW m.length (gjT p (wiV m n) m.length).2).length=n:=by simp only [rdW,List.length_map];omega
 have a2:(alW m.length (gjT p (wiV m n) m.length).2).length=(idV n).length:=by simp only [alW,List.length_map];omega
 dsimp only;rw [Af a1,Af a2,Af oM,hdr,W9 hp hmat oM (by simp;omega),obs,key]
theorem Axt (hm:MatW p n m):trV (trV m n) m.length=m:=by
 refine List.ext_getElem (by simp [trV]) fun i h1 h2=>?_
 have hx:=hm _ (List.getElem_mem h2);simp only [trV,List.getElem_map,List.getElem_range,List.map_map];refine List.ext_getElem (by simp [hx.1]) fun j h3 h4=>?_
 simp only [List.length_map,List.length_range] at h3;simp only [List.getElem_map,List.getElem_range,Function.comp_apply,gDg,List.getElem?_map,gEg h2,gEg h4,Option.map_some,Option.getD_some]
theorem Axm (hm:MatW p n m):MatW p m.length (trV m n):=fun x hx=>by
 obtain ⟨j,hj,rfl⟩:=List.mem_map.1 hx;refine ⟨by simp,fun a ha=>?_⟩;obtain ⟨y,hy,rfl⟩:=List.mem_map.1 ha;have:=Ct (hm y hy) (List.mem_range.1 hj);exact ⟨this.1,this.2.1⟩
theorem Apx:(trV m n).length=n:=by simp [trV]
theorem Arp (hp:isF p=true) (hm:MatW p n m) (hn:n<=1000) (hl:m.length<=1000):Jt p m (n:Int)=some (Nb p m.length (trV m n)):=by
 have:=Any (m:=trV m n) (n:=m.length) hp (Axm hm) hl (by rw [Apx];exact hn)
 rwa [Axt hm,Apx] at this
end
end
section
section
variable {p:Int} {la mi rb:Nat} {A B:List (List Int)}
theorem Am1 {l r l' r':Int} {m m':List (List Int)} {n la:Nat} (hm:MatW p n m) (hl:m.length<=1000) (hla:(la:Int)=l') (hn:la<=n):A8 l r m l' r' m'=some (m.map (·.drop la)):=by
 subst hla;unfold A8;rw [Du m (·.drop la) [] oM (m.map (·.drop la)) (fun i x hx=>?_) ?_,obs]
 rotate_left
 ·have hi:=Ai hx;have hxl:=(hm x (List.mem_of_getElem? hx)).1
  try dsimp only
  unfold Bi Bd;rw [Au oM,cond_true,hx,obs,Af oM,obs];simp only [Int.toNat_natCast];rw [Af (by simp;omega),Af oM]
 ·try dsimp only
  unfold Bi;rw [At oM,cond_false,List.nil_append]
theorem Am6 {l r l' r':Int} {m m':List (List Int)} {n la:Nat} (hm:MatW p n m) (hl:m.length<=1000) (hla:(la:Int)=l') (hn:la<=n):A9 l r m l' r' m'=some (m.map (·.take la)):=by
 subst hla;unfold A9;rw [Du m (·.take la) [] oM (m.map (·.take la)) (fun i x hx=>?_) ?_,obs]
 rotate_left
 ·have hi:=Ai hx;have hxl:=(hm x (List.mem_of_getElem? hx)).1
  try dsimp only
  unfold Bk Bf;rw [Au oM,cond_true,hx,obs,Af oM,obs];simp only [Int.toNat_natCast];rw [Af (by simp;omega),Af oM]
 ·try dsimp only
  unfold Bk;rw [At oM,cond_false,List.nil_append]
def Rs (p:Int) (x:List Int):List Int:=x.map fun a=>(p - a) % p
theorem Am2 {x:List Int} {n:Nat} (hp:2<=p) (h:x.length=n):VecW p n (Rs p x):=⟨by simp [Rs,h],fun a ha=>by obtain ⟨b,_,rfl⟩:=List.mem_map.1 ha;exact Sm hp⟩
theorem Ar9 {x:List Int} {n:Nat} (hp:2<=p/\p<=97) (hx:VecW p n x) (hn:n<=1000):Bv p (List.replicate n 0) (-1) x=some (Rs p x):=by
 have hl:=hx.1;unfold Bv;refine V1 (x:=List.replicate n 0) (y:=Rs p x) (by simp [Rs];omega) (by simp;omega) (fun j hj z hz=>?_) ?_
 ·rw [List.length_replicate] at hj;have h1:=N3 hx (j:=j) oM
  try dsimp only
  unfold Cp;rw [Au oM,cond_true,gEg (show j<x.length by omega),obs,hz,obs];simp only [List.getElem_replicate];rw [A6 (n:= -1*x[j]) oM oM,A6 oM oM,Ap3 hp,obs,Af oM]
  have e:(0+ -1*x[j]) % p=(Rs p x)[j]'(by simp [Rs];omega):=by
   simp only [Rs,List.getElem_map];rw [show (0+ -1*x[j])= -x[j] by omega,show p - x[j]= -x[j]+p by omega,Int.add_emod_right]
  rw [e]
 ·try dsimp only
  unfold Cp;rw [List.length_replicate] at *;rw [At oM,cond_false]
theorem Aqn {x v:List Int} {f:Int} {n:Nat} (hp:2<=p/\p<=97) (hx:VecW p n x) (hv:VecW p n v) (hn:n<=1000) (hf:0<=f/\f<p):Bv p x f v=some (List.zipWith (fun a b=>(a+f*b) % p) x v):=by
 have hl:=hx.1;have hl':=hv.1;unfold Bv;refine V1 (y:=List.zipWith (fun a b=>(a+f*b) % p) x v) (by simp;omega) oM (fun j hj z hz=>?_) ?_
 ·have h1:=N3 hx hj;have h2:=N3 hv (j:=j) oM;have h3:=Aak hp hf h2
  try dsimp only
  unfold Cp;rw [Au oM,cond_true,gEg (show j<v.length by omega),obs,hz,obs,A6 (n:=f*v[j]) oM oM,A6 oM oM,Ap3 hp,obs,Af oM,List.getElem_zipWith]
 ·try dsimp only
  unfold Cp;rw [At oM,cond_false]
theorem Aeq {m:List (List Int)} {c:List Int} {n:Nat} (hp:2<=p/\p<=97) (hm:MatW p n m) (hc:VecW p m.length c) (hn:n<=1000) (hl:m.length<=1000):H2 p c m (n:Int)=some (spV p n m c m.length):=by
 unfold H2;rw [Q4 oM,obs,Int.toNat_natCast];rw [A2 (s0:=(0,List.replicate n 0)) m.length (fun i=>(i,spV p n m c i)) oM (spV p n m c m.length) rfl (fun i hi=>?_) ?_,obs]
 rotate_left
 ·have h1:=Kc (c:=c) hp.1 hm i oM;have h3:=Kc (c:=c) hp.1 hm (i+1) oM;have h2:=hm _ (List.getElem_mem hi);have hcc:=hc.1;have hci:=N3 hc (j:=i) oM
  try dsimp only
  unfold K6;rw [Au oM,cond_true,gEg hi,obs,gEg (show i<c.length by omega),obs,Aqn hp h1 h2 hn hci,obs]
  have e:List.zipWith (fun a b=>(a+c[i]'oM*b) % p) (spV p n m c i) m[i]=spV p n m c (i+1):=by
   simp only [spV,Be (gEg (show i<c.length by omega)),Be (m:=m) (gEg hi)]
  rw [e,Af (by rw [h1.1,h3.1]),Af oM]
 ·try dsimp only
  unfold K6;rw [At oM,cond_false]
theorem Ama {m:List (List Int)} {c:List Int} {n k:Nat} (hk:k<=n):∀ i,(spV p n m c i).take k=spV p k (m.map (·.take k)) c i
 | 0=>by simp [spV,List.take_replicate,Nat.min_eq_left hk]
 | i+1=>by simp only [spV,List.take_zipWith,Ama hk i,Sp (f:=fun x:List Int=>x.take k) (by simp)]
theorem Amg {m:List (List Int)} {c:List Int} {n k:Nat}:∀ i,(spV p n m c i).drop k=spV p (n - k) (m.map (·.drop k)) c i
 | 0=>by simp [spV]
 | i+1=>by simp only [spV,List.drop_zipWith,Amg i,Sp (f:=fun x:List Int=>x.drop k) (by simp)]
theorem Aht (xs:List (List Int)) (h:xs.length<=100) (hl:∀ k,((xs.take k).flatten).length<=100000):Cw xs=some xs.flatten:=by
 unfold Cw;rw [A2 (s0:=(0,[])) xs.length (fun i=>(i,(xs.take i).flatten)) oM xs.flatten rfl (fun i hi=>?_) ?_,obs]
 rotate_left
 ·have hx:=gEg hi;have h2:=hl (i+1);rw [List.take_add_one,hx,List.flatten_append,List.length_append] at h2;simp only [Option.toList,List.flatten_cons,List.flatten_nil,List.append_nil] at h2
  try dsimp only
  unfold L4;rw [Au oM,cond_true,hx,obs,Af oM,Af oM,List.take_add_one,hx,List.flatten_append];simp
 ·try dsimp only
  unfold L4;rw [At oM,cond_false,List.take_length]
theorem Ad3 (x y:List Int) (h:x.length+y.length<=100000):Cw [x,y]=some (x++y):=by
 rw [Aht _ (by simp) (fun k=>?_)]
 ·simp
 ·have h1:((([x,y].take k).flatten).length)<=(([x,y]:List (List Int)).flatten).length:=by
   conv=>rhs;rw [← List.take_append_drop k [x,y],List.flatten_append,List.length_append]
   omega
  simp only [List.flatten_cons,List.flatten_nil,List.length_append,List.length_nil] at h1;omega
def Xl (p:Int) (la mi:Nat) (A B:List (List Int)):List (List Int):=trV (A.map (·.drop la)++B.map fun x=>Rs p (x.take mi)) mi
def Ag6 (p:Int) (la mi rb:Nat) (A B:List (List Int)) (c:List Int):List Int:=spV p la (A.map (·.take la)) (c.take A.length) A.length++spV p rb (B.map (·.drop mi)) (c.drop A.length) B.length
def Awa (p:Int) (la mi rb:Nat) (A B:List (List Int)):List (List Int):=gj p (la+rb) ((Nb p (A.length+B.length) (Xl p la mi A B)).map (Ag6 p la mi rb A B))
theorem At1 (hp:2<=p) (hA:MatW p (la+mi) A) (hB:MatW p (mi+rb) B):MatW p mi (A.map (·.drop la)++B.map fun x=>Rs p (x.take mi)):=by
 intro x hx;rcases List.mem_append.1 hx with h|h
 ·have:=(MatW.dr (u:=la) hA) x h
  rwa [Nat.add_sub_cancel_left] at this
 ·obtain ⟨y,hy,rfl⟩:=List.mem_map.1 h;exact Am2 hp (by rw [List.length_take,(hB y hy).1];omega)
theorem Agj {n:Nat} {m:List (List Int)} (hp:2<=p):MatW p n (Nb p n m):=R7 hp (Sg hp)
theorem Agl {n:Nat} {m:List (List Int)} (hp:2<=p):(Nb p n m).length<=n:=by
 unfold Nb;have h:=L5 (p:=p) hp (Sg (n:=n) (R:=gj p n m) hp) n;rw [Afp hp (Sg hp)];exact Nat.le_trans h.2.1 (by rw [h.2.2];exact Ain)
theorem Oe {l r:Nat} {m:List (List Int)} (hp:isF p=true) (hm:MatW p (l+r) m) (hw:l+r<=1000) (hl:m.length<=100000):Bq p (l:Int) (r:Int) m=some ((l:Int),(r:Int),gj p (l+r) m):=by
 unfold Bq;rw [A6 oM oM,show ((l:Int)+(r:Int))=((l+r:Nat):Int) by omega,W9 hp hm oM hl,obs]
theorem Ag3 {l r:Nat} {m:List (List Int)} (hp:isF p=true) (hm:MatW p (l+r) m) (hw:l+r<=1000) (hl:m.length<=100000):Ko p (l:Int) (r:Int) m=some ((l:Int),(r:Int),gj p (l+r) m):=by
 unfold Ko;rw [A6 oM oM,show ((l:Int)+(r:Int))=((l+r:Nat):Int) by omega,Qs hp hm (Nat.le_refl _) oM hl,obs]
theorem Ajs {c:List Int} (hp:2<=p) (hA:MatW p (la+mi) A) (hB:MatW p (mi+rb) B):VecW p (la+rb) (Ag6 p la mi rb A B c):=by
 have h1:=Kc (c:=c.take A.length) hp (MatW.tk hA (Nat.le_add_right la mi)) (A.map (·.take la)).length (Nat.le_refl _);have h2:=Kc (c:=c.drop A.length) hp (MatW.dr (u:=mi) hB) (B.map (·.drop mi)).length (Nat.le_refl _);rw [Nat.add_sub_cancel_left] at h2;rw [List.length_map] at h1 h2;refine ⟨by unfold Ag6;rw [List.length_append,h1.1,h2.1],fun a ha=>?_⟩;rcases List.mem_append.1 ha with h|h
 ·exact h1.2 a h
 ·exact h2.2 a h
theorem Ake (hp:isF p=true) (hA:MatW p (la+mi) A) (hB:MatW p (mi+rb) B) (hla:la+mi<=100) (hrb:mi+rb<=100) (lA:A.length<=100) (lB:B.length<=100) :
  Gz p (la:Int) (mi:Int) A (mi:Int) (rb:Int) B=some ((la:Int),(rb:Int),Awa p la mi rb A B):=by
 have hb:=Cd hp;have hM:=At1 hb.1 hA hB;unfold Gz;rw [Am1 hA oM rfl oM,obs,Am6 hB oM rfl oM,obs];rw [Du (B.map (·.take mi)) (Rs p) (A.map (·.drop la)) (by rw [List.length_map];omega) (A.map (·.drop la)++B.map fun x=>Rs p (x.take mi)) (fun i x hx=>?_) ?_,obs]
 ·rw [Am6 hA oM rfl oM,obs,Am1 hB oM rfl oM,obs,Arp hp hM oM (by simp;omega),obs];have hN:=Agj (p:=p) (n:=A.length+B.length) (m:=Xl p la mi A B) hb.1;have hNl:=Agl (p:=p) (n:=A.length+B.length) (m:=Xl p la mi A B) hb.1
  have e0:Nb p (A.map (·.drop la)++B.map fun x=>Rs p (x.take mi)).length (trV (A.map (·.drop la)++B.map fun x=>Rs p (x.take mi)) mi)=Nb p (A.length+B.length) (Xl p la mi A B):=by
   rw [List.length_append,List.length_map,List.length_map];rfl
  rw [e0];rw [Du (Nb p (A.length+B.length) (Xl p la mi A B)) (Ag6 p la mi rb A B) [] oM ((Nb p (A.length+B.length) (Xl p la mi A B)).map (Ag6 p la mi rb A B)) (fun i x hx=>?_) ?_,obs,Oe hp (fun y hy=>by obtain ⟨c,_,rfl⟩:=List.mem_map.1 hy;exact Ajs hb.1 hA hB) oM (by rw [List.length_map];omega),obs]
  ·rfl
  rotate_left
  ·have hi:=Ai hx;have hxv:=hN x (List.mem_of_getElem? hx);have hxl:=hxv.1;have hF:=MatW.tk hA (Nat.le_add_right la mi);have hS:=MatW.dr (u:=mi) hB;rw [Nat.add_sub_cancel_left] at hS;have h1:=Kc (c:=x.take A.length) hb.1 hF (A.map (·.take la)).length (Nat.le_refl _);have h2:=Kc (c:=x.drop A.length) hb.1 hS (B.map (·.drop mi)).length (Nat.le_refl _)
   try dsimp only
   unfold Kd;rw [Au oM,cond_true,hx,obs,List.length_map,Af oM];rw [Aeq hb hF (by rw [List.length_map];exact hxv.tk oM) oM (by rw [List.length_map];omega),obs,Af oM];rw [Aeq hb hS (by rw [List.length_map];have:=hxv.dr (u:=A.length);rwa [Nat.add_sub_cancel_left] at this) oM (by rw [List.length_map];omega),obs];rw [Ad3 _ _ (by rw [h1.1,h2.1];omega),obs,Af (by simp;omega),Af oM];simp only [List.length_map,Ag6]
  ·try dsimp only
   unfold Kd;rw [At oM,cond_false,List.nil_append]
 rotate_left
 ·have hi:=Ai hx;rw [List.length_map] at hi;have hxv:=(MatW.tk hB (Nat.le_add_right mi rb)) x (List.mem_of_getElem? hx);have hn:=(Am2 (p:=p) hb.1 hxv.1).1
  try dsimp only
  unfold J8;rw [List.length_map,Au oM,cond_true,hx,obs,hxv.1,Q4 oM,obs,Int.toNat_natCast,Ar9 hb hxv oM,obs,Af (by rw [List.length_replicate,hn]),Af (by simp;omega),Af oM]
 ·try dsimp only
  unfold J8;rw [List.length_map,At oM,cond_false,List.map_map];rfl
end
end
section
section
variable {p:Int} {la mi rb:Nat} {A B:List (List Int)}
def Ada (p:Int) (la:Nat) (A B:List (List Int)) (j:Nat):List Int:=(A.map fun x=>x.getD (la+j) 0)++B.map fun x=>(p - x.getD j 0) % p
theorem Asr {x:List Int} {j:Nat} (h:j<x.length):(Rs p x).getD j 0=(p - x.getD j 0) % p:=by
 unfold Rs;rw [gDg,List.getElem?_map,gDg,gEg h];rfl
theorem Ap8 (hA:MatW p (la+mi) A) (hB:MatW p (mi+rb) B):Xl p la mi A B=(List.range mi).map (Ada p la A B):=by
 unfold Xl trV;refine List.map_congr_left fun j hj=>?_
 have hj:=List.mem_range.1 hj;unfold Ada;rw [List.map_append,List.map_map,List.map_map];congr 1
 ·refine List.map_congr_left fun x _=>?_
  show (x.drop la).getD j 0=_;rw [gDg,gDg,List.getElem?_drop]
 ·refine List.map_congr_left fun x hx=>?_
  have hxl:=(hB x hx).1;show (Rs p (x.take mi)).getD j 0=_;rw [Asr (by rw [List.length_take];omega),gDg,List.getElem?_take,if_pos hj,← gDg]
theorem Xa {α:Type} {R:List α} {j:Nat} {x y:α}:(R.set j x).set j y=R.set j y:=List.set_set ..
theorem Av6 {R:List (List Int)} {j:Nat} (hA:MatW p (la+mi) A) (hj:j<mi) (hR:R[j]? =some []) (hla:la+mi<=100) (lA:A.length<=100) :
  Aq (fun s_:Nat×List (List Int)=>Ft A j (la:Int) s_.1 s_.2) 4611686018427387904 (0,R)=some (R.set j (A.map fun x=>x.getD (la+j) 0)):=by
 have hjl:j<R.length:=Ai hR;refine A2 A.length (fun i=>(i,R.set j ((A.take i).map fun x=>x.getD (la+j) 0))) oM _ ?_ (fun i hi=>?_) ?_
 ·have:R.set j []=R:=by
   have e:=(gSi.1 hR)
   obtain ⟨h1,h2⟩:=e
   conv=>lhs;rw [← h2]
   exact List.set_getElem_self h1
  simp [this]
 ·have hx:=gEg hi;have hxv:=hA _ (List.getElem_mem hi);have hg:=Ct hxv (j:=la+j) oM
  try dsimp only
  unfold Ft;rw [Au oM,cond_true,hx,obs,List.getElem?_set_self hjl,obs,A6 oM oM,Bt oM,show ((la:Int)+(j:Int)).toNat=la+j by omega,hg.2.2,obs,Af (by simp;omega),Af oM,Xa,List.take_add_one,hx,List.map_append];rfl
 ·try dsimp only
  unfold Ft;rw [At oM,cond_false,List.take_length]
theorem Axc {R:List (List Int)} {j:Nat} {x0:List Int} (hp:2<=p/\p<=97) (hB:MatW p (mi+rb) B) (hj:j<mi) (hR:R[j]? =some x0) (h0:x0.length<=1000) (lB:B.length<=100) :
  Aq (fun s_:Nat×List (List Int)=>Fn B j p s_.1 s_.2) 4611686018427387904 (0,R)=some (R.set j (x0++B.map fun x=>(p - x.getD j 0) % p)):=by
 have hjl:j<R.length:=Ai hR;refine A2 B.length (fun i=>(i,R.set j (x0++(B.take i).map fun x=>(p - x.getD j 0) % p))) oM _ ?_ (fun i hi=>?_) ?_
 ·have:R.set j x0=R:=by
   obtain ⟨h1,h2⟩:=(gSi.1 hR)
   conv=>lhs;rw [← h2]
   exact List.set_getElem_self h1
  simp [this]
 ·have hx:=gEg hi;have hxv:=hB _ (List.getElem_mem hi);have hg:=Ct hxv (j:=j) oM
  try dsimp only
  unfold Fn;rw [Au oM,cond_true,hx,obs,List.getElem?_set_self hjl,obs,hg.2.2,obs,Zp hp ⟨hg.1,hg.2.1⟩,obs,Af (by simp;omega),Af oM,Xa,List.take_add_one,hx,List.map_append,← List.append_assoc];rfl
 ·try dsimp only
  unfold Fn;rw [At oM,cond_false,List.take_length]
theorem Ahw (hp:isF p=true) (hA:MatW p (la+mi) A) (hB:MatW p (mi+rb) B) (hla:la+mi<=100) (hrb:mi+rb<=100) (lA:A.length<=100) (lB:B.length<=100) {x:Int} :
  Fv p (la:Int) (mi:Int) A x (rb:Int) B=some ((la:Int),(rb:Int),Awa p la mi rb A B):=by
 have hb:=Cd hp;unfold Fv;rw [Af oM,Int.toNat_natCast];rw [A2 (s0:=(0,List.replicate mi [])) mi (fun j=>(j,((List.range mi).map (Ada p la A B)).take j++List.replicate (mi - j) [])) oM ((List.range mi).map (Ada p la A B)) (by simp) (fun j hj=>?_) ?_,obs]
 ·rw [A6 oM oM,show ((A.length:Nat):Int)+((B.length:Nat):Int)=((A.length+B.length:Nat):Int) by omega]
  have hmm:MatW p (A.length+B.length) ((List.range mi).map (Ada p la A B)):=fun y hy=>by
   obtain ⟨j,hj,rfl⟩:=List.mem_map.1 hy;have hj:=List.mem_range.1 hj;refine ⟨by simp [Ada],fun a ha=>?_⟩;rcases List.mem_append.1 ha with h|h
   ·obtain ⟨x,hx,rfl⟩:=List.mem_map.1 h;have:=Ct (hA x hx) (j:=la+j) oM;exact ⟨this.1,this.2.1⟩
   ·obtain ⟨x,hx,rfl⟩:=List.mem_map.1 h;exact Sm hb.1
  rw [Aai hp hmm oM (by simp;omega),obs,← Ap8 hA hB];have hN:=Agj (p:=p) (n:=A.length+B.length) (m:=Xl p la mi A B) hb.1;have hNl:=Agl (p:=p) (n:=A.length+B.length) (m:=Xl p la mi A B) hb.1;rw [Du (Nb p (A.length+B.length) (Xl p la mi A B)) (Ag6 p la mi rb A B) [] oM ((Nb p (A.length+B.length) (Xl p la mi A B)).map (Ag6 p la mi rb A B)) (fun i x hx=>?_) ?_,obs,Ag3 hp (fun y hy=>by obtain ⟨c,_,rfl⟩:=List.mem_map.1 hy;exact Ajs hb.1 hA hB) oM (by rw [List.length_map];omega),obs]
  ·rfl
  rotate_left
  ·have hi:=Ai hx;have hxv:=hN x (List.mem_of_getElem? hx);have hxl:=hxv.1;have h1:=Kc (c:=x.take A.length) hb.1 hA A.length (Nat.le_refl _);have h2:=Kc (c:=x.drop A.length) hb.1 hB B.length (Nat.le_refl _)
   try dsimp only
   unfold Je;rw [Au oM,cond_true,hx,obs,Af oM,A6 (n:=(la:Int)+(mi:Int)) oM oM,show ((la:Int)+(mi:Int))=((la+mi:Nat):Int) by omega];rw [Af9 hb hA (hxv.tk oM) oM oM,obs,Af oM,A6 (n:=(mi:Int)+(rb:Int)) oM oM,show ((mi:Int)+(rb:Int))=((mi+rb:Nat):Int) by omega];rw [Af9 hb hB (by have:=hxv.dr (u:=A.length);rwa [Nat.add_sub_cancel_left] at this) oM oM,obs,h1.1,h2.1,Af oM,Int.toNat_natCast,Int.toNat_natCast,Td _ (by rw [List.length_take,h1.1];omega),obs,Af oM];have e1:(spV p (la+mi) A (x.take A.length) A.length).take la=spV p la (A.map (·.take la)) (x.take A.length) A.length:=Ama oM _
   have e2:((spV p (mi+rb) B (x.drop A.length) B.length).drop mi).take ((((mi+rb:Nat):Int) - (mi:Int)).toNat)=spV p rb (B.map (·.drop mi)) (x.drop A.length) B.length:=by
    rw [List.take_of_length_le (by rw [List.length_drop,h2.1];omega),Amg,Nat.add_sub_cancel_left]
   have l1:(spV p la (A.map (·.take la)) (x.take A.length) A.length).length=la:=by rw [← e1,List.length_take,h1.1];omega
   have l2:(spV p rb (B.map (·.drop mi)) (x.drop A.length) B.length).length=rb:=by rw [← e2,List.length_take,List.length_drop,h2.1];omega
   rw [e1,e2,l1,l2,Af oM,Af (by simp;omega),Af oM];rfl
  ·try dsimp only
   unfold Je;rw [At oM,cond_false,List.nil_append]
 rotate_left
 ·have hr:((List.range mi).map (Ada p la A B)).length=mi:=by simp
  have hg:(((List.range mi).map (Ada p la A B)).take j++List.replicate (mi - j) [])[j]? =some []:=by
   rw [List.getElem?_append_right (by rw [List.length_take,hr];omega),List.length_take,hr,Nat.min_eq_left oM,Nat.sub_self,List.getElem?_replicate,if_pos oM]
  have hjl:=Ai hg
  try dsimp only
  unfold Jd;rw [Int.toNat_natCast,Au oM,cond_true,Av6 hA hj hg hla lA,obs,Axc (x0:=A.map fun x=>x.getD (la+j) 0) hb hB hj (List.getElem?_set_self hjl) (by rw [List.length_map];omega) lB,obs,Af oM,Xa]
  have e:(((List.range mi).map (Ada p la A B)).take j++List.replicate (mi - j) []).set j (Ada p la A B j)=((List.range mi).map (Ada p la A B)).take (j+1)++List.replicate (mi - (j+1)) []:=by
   rw [List.set_append_right _ _ (by rw [List.length_take,hr];omega),List.length_take,hr,Nat.min_eq_left oM,Nat.sub_self,show mi - j=(mi - (j+1))+1 by omega,List.replicate_succ,List.set_cons_zero,List.take_add_one,List.getElem?_map,List.getElem?_range hj];simp
  rw [← e];rfl
 ·try dsimp only
  unfold Jd;rw [Int.toNat_natCast,At oM,cond_false,Nat.sub_self,List.replicate_zero,List.append_nil,List.take_of_length_le (by simp)]
end
end
section
theorem Ae2 (a b c d:List Int) (h:a.length+b.length+c.length+d.length<=100000):Cw [a,b,c,d]=some (a++(b++(c++d))):=by
 rw [Aht _ (by simp) (fun k=>?_)]
 ·simp
 ·have h1:((([a,b,c,d].take k).flatten).length)<=(([a,b,c,d]:List (List Int)).flatten).length:=by
   conv=>rhs;rw [← List.take_append_drop k [a,b,c,d],List.flatten_append,List.length_append]
   omega
  simp only [List.flatten_cons,List.flatten_nil,List.length_append,List.length_nil] at h1;omega
section
variable {p:Int} {la ra lb rb:Nat} {A B:List (List Int)}
def R3 (la lb rb:Nat) (x:List Int):List Int:=x.take la++(List.replicate lb 0++(x.drop la++List.replicate rb 0))
def Ur (la ra lb:Nat) (x:List Int):List Int:=List.replicate la 0++(x.take lb++(List.replicate ra 0++x.drop lb))
def Aw1 (p:Int) (la ra lb rb:Nat) (A B:List (List Int)):List (List Int):=gj p ((la+lb)+(ra+rb)) (A.map (R3 la lb rb)++B.map (Ur la ra lb))
theorem Zu {n:Nat} (hp:2<=p):inV p (List.replicate n 0):=fun a ha=>by obtain rfl:=(List.mem_replicate.1 ha).2;omega
theorem Ap5 {x:List Int} (hp:2<=p) (hx:VecW p (la+ra) x):VecW p ((la+lb)+(ra+rb)) (R3 la lb rb x):=by
 refine ⟨by simp [R3,hx.1];omega,fun a ha=>?_⟩;simp only [R3,List.mem_append] at ha;rcases ha with h|h|h|h
 ·exact hx.2 a (List.mem_of_mem_take h)
 ·exact Zu hp a h
 ·exact hx.2 a (List.mem_of_mem_drop h)
 ·exact Zu hp a h
theorem Arh {x:List Int} (hp:2<=p) (hx:VecW p (lb+rb) x):VecW p ((la+lb)+(ra+rb)) (Ur la ra lb x):=by
 refine ⟨by simp [Ur,hx.1];omega,fun a ha=>?_⟩;simp only [Ur,List.mem_append] at ha;rcases ha with h|h|h|h
 ·exact Zu hp a h
 ·exact hx.2 a (List.mem_of_mem_take h)
 ·exact Zu hp a h
 ·exact hx.2 a (List.mem_of_mem_drop h)
theorem Afl (hp:2<=p) (hA:MatW p (la+ra) A) (hB:MatW p (lb+rb) B):MatW p ((la+lb)+(ra+rb)) (A.map (R3 la lb rb)++B.map (Ur la ra lb)):=by
 intro x hx;rcases List.mem_append.1 hx with h|h
 ·obtain ⟨y,hy,rfl⟩:=List.mem_map.1 h;exact Ap5 hp (hA y hy)
 ·obtain ⟨y,hy,rfl⟩:=List.mem_map.1 h;exact Arh hp (hB y hy)
theorem Api (hp:isF p=true) (hA:MatW p (la+ra) A) (hB:MatW p (lb+rb) B) (hla:la+ra<=100) (hlb:lb+rb<=100) (lA:A.length<=100) (lB:B.length<=100) :
  Jn p (la:Int) (ra:Int) A (lb:Int) (rb:Int) B=some (((la+lb:Nat):Int),((ra+rb:Nat):Int),Aw1 p la ra lb rb A B):=by
 have hb:=Cd hp
 have e1:Bm (la:Int) (ra:Int) A (la:Int) (ra:Int) A (lb:Int) (rb:Int) B=some (A.map (R3 la lb rb)):=by
  unfold Bm;rw [Du A (R3 la lb rb) [] oM (A.map (R3 la lb rb)) (fun i x hx=>?_) ?_,obs]
  rotate_left
  ·have hi:=Ai hx;have hxv:=hA x (List.mem_of_getElem? hx);have hxl:=hxv.1
   try dsimp only
   unfold Bx M9 Bf Bd;rw [Au oM,cond_true,hx,obs,Af oM,obs,Q4 oM,obs,Af oM,obs,Q4 oM,obs];simp only [Int.toNat_natCast];rw [Ae2 _ _ _ _ (by simp;omega),obs,obs,Af (by simp;omega),Af oM];rfl
  ·try dsimp only
   unfold Bx;rw [At oM,cond_false,List.nil_append]
 have e2:Bj (lb:Int) (rb:Int) B (la:Int) (ra:Int) A (lb:Int) (rb:Int) B=some (B.map (Ur la ra lb)):=by
  unfold Bj;rw [Du B (Ur la ra lb) [] oM (B.map (Ur la ra lb)) (fun i x hx=>?_) ?_,obs]
  rotate_left
  ·have hi:=Ai hx;have hxv:=hB x (List.mem_of_getElem? hx);have hxl:=hxv.1
   try dsimp only
   unfold Bw Nf Bf Bd;rw [Au oM,cond_true,hx,obs,Q4 oM,obs,Af oM,obs,Q4 oM,obs,Af oM,obs];simp only [Int.toNat_natCast];rw [Ae2 _ _ _ _ (by simp;omega),obs,obs,Af (by simp;omega),Af oM];rfl
  ·try dsimp only
   unfold Bw;rw [At oM,cond_false,List.nil_append]
 unfold Jn;rw [e1,obs,e2,obs,Af (by simp;omega),A6 oM oM,A6 oM oM,show ((la:Int)+(lb:Int))=((la+lb:Nat):Int) by omega,show ((ra:Int)+(rb:Int))=((ra+rb:Nat):Int) by omega];rw [Oe hp (Afl hb.1 hA hB) oM (by simp;omega),obs];rfl
def plc (pos:Nat->Nat) (x:List Int) (n:Nat):Nat->List Int
 | 0=>List.replicate n 0
 | i+1=>(plc pos x n i).set (pos i) (x.getD i 0)
theorem Vh {pos:Nat->Nat} {x:List Int} {n:Nat}:∀ i,(plc pos x n i).length=n
 | 0=>by simp [plc]
 | i+1=>by rw [plc,List.length_set];exact Vh i
theorem Al8 {pos:Nat->Nat} {x:List Int} {n k:Nat} (hn:∀ j,j<k->pos j<n) (hi:∀ i j,i<k->j<k->pos i=pos j->i=j):∀ i,i<=k->∀ j,j<i->(plc pos x n i)[pos j]? =some (x.getD j 0)
 | 0,_,j,h=>absurd h oM
 | i+1,hk,j,h=>by
  rw [plc];by_cases e:j=i
  ·subst e;exact List.getElem?_set_self (by rw [Vh];exact hn j oM)
  ·rw [List.getElem?_set_ne (fun h2=>e (hi j i oM oM h2.symm))];exact Al8 hn hi i oM j oM
theorem Ai8 {pos:Nat->Nat} {x:List Int} {n q:Nat} (hq:q<n):∀ i,(∀ j,j<i->pos j≠q)->(plc pos x n i)[q]? =some 0
 | 0,_=>by rw [plc,List.getElem?_replicate,if_pos hq]
 | i+1,h=>by
  rw [plc,List.getElem?_set_ne (h i oM)];exact Ai8 hq i fun j hj=>h j oM
theorem Amq {pos:Nat->Nat} {x T:List Int} {n k:Nat} (hn:∀ j,j<k->pos j<n) (hi:∀ i j,i<k->j<k->pos i=pos j->i=j) (hT:T.length=n) (h1:∀ j,j<k->T[pos j]? =some (x.getD j 0)) (h0:∀ q,q<n->(∀ j,j<k->pos j≠q)->T[q]? =some 0):plc pos x n k=T:=by
 refine List.ext_getElem? fun q=>?_
 by_cases hq:q<n
 ·by_cases he:∃ j,j<k/\pos j=q
  ·obtain ⟨j,hj,rfl⟩:=he;rw [Al8 hn hi k (Nat.le_refl _) j hj,h1 j hj]
  ·have hm:∀ j,j<k->pos j≠q:=fun j hj e=>he ⟨j,hj,e⟩
   rw [Ai8 hq k hm,h0 q hq hm]
 ·rw [List.getElem?_eq_none (by rw [Vh];omega),List.getElem?_eq_none oM]
theorem Zv {x:List Int} {j:Nat} (h:j<x.length):x[j]? =some (x.getD j 0):=by rw [gDg,gEg h];rfl
theorem Ayg {x:List Int} (hx:x.length=la+ra):plc (fun j=>if j<la then j else lb+j) x ((la+lb)+(ra+rb)) (la+ra)=R3 la lb rb x:=by
 refine Amq (fun j hj=>?_) (fun i j hi hj h=>?_) (by simp [R3,hx];omega) (fun j hj=>?_) (fun q hq hm=>?_)
 ·split <;> omega
 ·try dsimp only at h
  split at h <;> split at h <;> omega
 ·try dsimp only
  rw [← Zv oM];unfold R3;split
  ·rw [List.getElem?_append_left (by rw [List.length_take];omega),List.getElem?_take,if_pos oM]
  ·rw [List.getElem?_append_right (by rw [List.length_take];omega),List.length_take,List.getElem?_append_right (by rw [List.length_replicate];omega),List.length_replicate,List.getElem?_append_left (by rw [List.length_drop];omega),List.getElem?_drop];congr 1;omega
 ·unfold R3;by_cases h1:q<la
  ·exact absurd (if_pos h1) (hm q oM)
  by_cases h2:q<la+lb
  ·rw [List.getElem?_append_right (by rw [List.length_take];omega),List.length_take,List.getElem?_append_left (by rw [List.length_replicate];omega),List.getElem?_replicate,if_pos oM]
  by_cases h3:q<la+lb+ra
  ·refine absurd ?_ (hm (q - lb) oM)
   try dsimp only
   rw [if_neg oM];omega
  ·rw [List.getElem?_append_right (by rw [List.length_take];omega),List.length_take,List.getElem?_append_right (by rw [List.length_replicate];omega),List.length_replicate,List.getElem?_append_right (by rw [List.length_drop];omega),List.length_drop,List.getElem?_replicate,if_pos oM]
theorem Ayf {x:List Int} (hx:x.length=lb+rb):plc (fun j=>if j<lb then la+j else la+ra+j) x ((la+lb)+(ra+rb)) (lb+rb)=Ur la ra lb x:=by
 refine Amq (fun j hj=>?_) (fun i j hi hj h=>?_) (by simp [Ur,hx];omega) (fun j hj=>?_) (fun q hq hm=>?_)
 ·split <;> omega
 ·try dsimp only at h
  split at h <;> split at h <;> omega
 ·try dsimp only
  rw [← Zv oM];unfold Ur;split
  ·rw [List.getElem?_append_right (by rw [List.length_replicate];omega),List.length_replicate,List.getElem?_append_left (by rw [List.length_take];omega),List.getElem?_take,if_pos oM];congr 1;omega
  ·rw [List.getElem?_append_right (by rw [List.length_replicate];omega),List.length_replicate,List.getElem?_append_right (by rw [List.length_take];omega),List.length_take,List.getElem?_append_right (by rw [List.length_replicate];omega),List.length_replicate,List.getElem?_drop];congr 1;omega
 ·unfold Ur;by_cases h1:q<la
  ·rw [List.getElem?_append_left (by rw [List.length_replicate];omega),List.getElem?_replicate,if_pos h1]
  by_cases h2:q<la+lb
  ·refine absurd ?_ (hm (q - la) oM)
   try dsimp only
   rw [if_pos oM];omega
  by_cases h3:q<la+lb+ra
  ·rw [List.getElem?_append_right (by rw [List.length_replicate];omega),List.length_replicate,List.getElem?_append_right (by rw [List.length_take];omega),List.length_take,List.getElem?_append_left (by rw [List.length_replicate];omega),List.getElem?_replicate,if_pos oM]
  ·refine absurd ?_ (hm (q - la - ra) oM)
   try dsimp only
   rw [if_neg oM];omega
theorem Aj3 (hp:isF p=true) (hA:MatW p (la+ra) A) (hB:MatW p (lb+rb) B) (hla:la+ra<=100) (hlb:lb+rb<=100) (lA:A.length<=100) (lB:B.length<=100) :
  Gy p (la:Int) (ra:Int) A (lb:Int) (rb:Int) B=some (((la+lb:Nat):Int),((ra+rb:Nat):Int),Aw1 p la ra lb rb A B):=by
 have hb:=Cd hp;have w1:wI ((la:Int)+(lb:Int))=((la+lb:Nat):Int):=by rw [A6 oM oM];omega
 have w2:wI ((ra:Int)+(rb:Int))=((ra+rb:Nat):Int):=by rw [A6 oM oM];omega
 have w3:wI (((la+lb:Nat):Int)+((ra+rb:Nat):Int))=(((la+lb)+(ra+rb):Nat):Int):=by rw [A6 oM oM];omega
 unfold Gy;rw [Du A (R3 la lb rb) [] oM (A.map (R3 la lb rb)) (fun i x hx=>?_) ?_,obs]
 ·rw [Du B (Ur la ra lb) (A.map (R3 la lb rb)) oM (A.map (R3 la lb rb)++B.map (Ur la ra lb)) (fun i x hx=>?_) ?_,obs,w1,w2,Ag3 hp (Afl hb.1 hA hB) oM (by simp;omega),obs]
  ·rfl
  rotate_left
  ·have hi:=Ai hx;have hxl:=(hB x (List.mem_of_getElem? hx)).1
   try dsimp only
   unfold Ka;rw [Au oM,cond_true,hx,obs,w1,w2,w3,Af oM,Int.toNat_natCast];rw [A2 (s0:=(0,List.replicate ((la+lb)+(ra+rb)) 0)) x.length (fun j=>(j,plc (fun j=>if j<lb then la+j else la+ra+j) x ((la+lb)+(ra+rb)) j)) oM (Ur la ra lb x) rfl (fun j hj=>?_) ?_,obs,Af (by simp;omega),obs,Af oM]
   rotate_left
   ·have hlen:=Vh (pos:=fun j=>if j<lb then la+j else la+ra+j) (x:=x) (n:=(la+lb)+(ra+rb)) j
    try dsimp only
    unfold Kj;rw [Au oM,cond_true,Zv hj,obs,w1];by_cases h1:j<lb
    ·rw [Au oM,cond_true,A6 (n:=(la:Int)+(j:Int)) oM oM,Bt oM,show ((la:Int)+(j:Int)).toNat=la+j by omega,gEg oM,obs,obs,obs,Af oM,plc,if_pos h1]
    ·rw [At oM,cond_false,A6 (n:=((la+lb:Nat):Int)+(ra:Int)) oM oM,A6 (n:=((la+lb:Nat):Int)+(ra:Int)+(j:Int)) oM oM,A6 oM oM,Bt oM,show (((la+lb:Nat):Int)+(ra:Int)+(j:Int) - (lb:Int)).toNat=la+ra+j by omega,gEg oM,obs,obs,obs,Af oM,plc,if_neg h1]
   ·try dsimp only
    unfold Kj;rw [At oM,cond_false,hxl,Ayf hxl]
  ·try dsimp only
   unfold Ka;rw [At oM,cond_false]
 rotate_left
 ·have hi:=Ai hx;have hxl:=(hA x (List.mem_of_getElem? hx)).1
  try dsimp only
  unfold Kl;rw [Au oM,cond_true,hx,obs,w1,w2,w3,Af oM,Int.toNat_natCast];rw [A2 (s0:=(0,List.replicate ((la+lb)+(ra+rb)) 0)) x.length (fun j=>(j,plc (fun j=>if j<la then j else lb+j) x ((la+lb)+(ra+rb)) j)) oM (R3 la lb rb x) rfl (fun j hj=>?_) ?_,obs,Af (by simp;omega),obs,Af oM]
  rotate_left
  ·have hlen:=Vh (pos:=fun j=>if j<la then j else lb+j) (x:=x) (n:=(la+lb)+(ra+rb)) j
   try dsimp only
   unfold Kh;rw [Au oM,cond_true,Zv hj,obs,w1];by_cases h1:j<la
   ·rw [Au oM,cond_true,gEg oM,obs,obs,Af oM,plc,if_pos h1]
   ·rw [At oM,cond_false,A6 (n:=((la+lb:Nat):Int)+(j:Int)) oM oM,A6 oM oM,Bt oM,show (((la+lb:Nat):Int)+(j:Int) - (la:Int)).toNat=lb+j by omega,gEg oM,obs,obs,obs,Af oM,plc,if_neg h1]
  ·try dsimp only
   unfold Kh;rw [At oM,cond_false,hxl,Ayg hxl]
 ·try dsimp only
  unfold Kl;rw [At oM,cond_false,List.nil_append]
end
end
section
-- the other leaves, one by one
def Ati:List Int:=[2,3,5,7,11,13,17,19,23,29,31,37,41,43,47,53,59,61,67,71,73,79,83,89,97]
theorem Amb {p:Int} (h:isF p=true):p∈Ati:=by
 have hb:=Cd h;obtain ⟨k,rfl⟩:∃ k:Nat,p=(k:Int):=⟨p.toNat,by omega⟩
 have hk:k<98:=by omega
 have key:(List.range 98).all (fun k=> !isF (k:Int)||Ati.contains (k:Int))=true:=by kernel_rfl
 have:=List.all_eq_true.1 key k (List.mem_range.2 hk);rw [h,Bool.not_true,Bool.false_or] at this;exact List.contains_iff_mem.1 this
def Ag5 (p k v:Int):Bool:=match Bo p k v ⟨#[]⟩,A5 p k v ⟨#[]⟩ with
 | some a,some b=>a==b&&(Ms p a.1 a.2.1 a.2.2&&lfW (k,v,⟨#[]⟩)==some (a.1,a.2.1))
 | _,_=>false
theorem Aso:(Ati.all fun p=>[2,3,4,5,6,9,10,11,12].all fun k=>Ag5 p k 0)=true:=by kernel_rfl
def scV (p v:Int):Int:=(p - v) % p
theorem Ana:((List.range 97).all fun v=>(Cz 2 [(7,(v:Int),[0],[1])] [0] [1]==some true)&&(Cz 2 [(13,(v:Int),[0],[1])] [0] [1]==some true))=true:=by kernel_rfl
theorem Ax8:(Ati.all fun p=>(List.range p.toNat).all fun v=>(gj p 2 (Nb p 2 [[scV p (v:Int),1]])==[[1,(v:Int)]])&&((gj p 2 [[1,(v:Int)]]==[[1,(v:Int)]])&&(gj p 2 (Nb p 2 [[1,scV p (v:Int)]])==gj p 2 [[(v:Int),1]])))=true:=by kernel_rfl
theorem As9 {p k v:Int} (h:Ag5 p k v=true) (s:ByteArray):∃ a,Bo p k v s=some a/\A5 p k v s=some a/\Ms p a.1 a.2.1 a.2.2=true/\lfW (k,v,⟨#[]⟩)=some (a.1,a.2.1):=by
 have e1:Bo p k v s=Bo p k v ⟨#[]⟩:=by unfold Bo Md;rfl
 have e2:A5 p k v s=A5 p k v ⟨#[]⟩:=by unfold A5;rfl
 rw [e1,e2];unfold Ag5 at h;split at h
 ·rename_i a b h1 h2;simp only [Bool.and_eq_true,beq_iff_eq] at h;obtain ⟨rfl,h3,h4⟩:=h;exact ⟨a,h1,h2,h3,h4⟩
 ·cases h
end
section
section
variable {p:Int} {n:Nat} {m:List (List Int)}
theorem Aut {u:Nat->Nat} {k:Nat} (h:∀ i j,i<j->j<k->u i<u j):∀ i,i<k->i<=u i:=by
 intro i
 induction i with
 | zero=>intro _;omega
 | succ i ih=>intro hi;have:=ih oM;have:=h i (i+1) oM hi;omega
theorem Aqy {pv:Nat->Nat} (h:Kt n m.length m pv):m.length<=n:=by
 refine Nat.le_of_not_lt fun hlt=>?_
 have h1:=Aut (fun i j a b=>h.mono i j a b) n hlt;have h2:=h.lt n hlt;omega
theorem Aj1 (hp:isF p=true) (hm:MatW p n m):MatW p n (gj p n m)/\(gj p n m).length<=n/\gj p n (gj p n m)=gj p n m:=by
 have hb:=Cd hp;obtain ⟨⟨pv,h1⟩,_⟩:=S8 hb.1 (Aal hp) hm;have h2:=R7 (n:=n) hb.1 hm;exact ⟨h2,Aqy h1,Af3 hb.1 (Aal hp) h2 h2 h1 fun _=>Iff.rfl⟩
theorem Ahj {pv:Nat->Nat} (hp:isF p=true) (hm:MatW p n m) (h:Kt n m.length m pv):gj p n m=m :=
 Af3 (Cd hp).1 (Aal hp) hm hm h fun _=>Iff.rfl
-- the identity
def idB (n:Nat):List (List Int):=(List.range n).map fun k=>unV n k++unV n k
theorem Aun {i:Nat} (hi:i<n):(idB n)[i]? =some (unV n i++unV n i):=by
 unfold idB;rw [List.getElem?_map,List.getElem?_range hi];rfl
theorem Af0 (hp:2<=p):MatW p (n+n) (idB n):=fun x hx=>by
 obtain ⟨k,_,rfl⟩:=List.mem_map.1 hx;have h:=Zx (n:=n) (k:=k) hp;exact ⟨by rw [List.length_append,h.1],fun a ha=>(List.mem_append.1 ha).elim (h.2 a) (h.2 a)⟩
theorem Axi {i j:Nat} (hi:i<n) (hj:j<n):en (idB n) i j=if j=i then 1 else 0:=by
 unfold en;rw [Be (Aun hi),gDg,List.getElem?_append_left (by simp [unV];omega),← gDg,Ajv hi]
theorem Aux {i:Nat} (hi:i<n):(idV n)[i]? =some (unV n i):=by
 unfold idV;rw [List.getElem?_map,List.getElem?_range hi];rfl
theorem Axp {i j:Nat} (hi:i<n):en (idV n) i j=if j=i then 1 else 0:=by
 unfold en;rw [Be (Aux hi),Ajv hi]
theorem Asz (hp:2<=p):MatW p n (idV n):=fun x hx=>by
 obtain ⟨k,_,rfl⟩:=List.mem_map.1 hx;exact Zx hp
theorem Alw {R:List (List Int)} {c:Nat} (hl:R.length=n) (hc:n<=c) (he:∀ i j,i<n->j<n->en R i j=if j=i then 1 else 0):Kt c R.length R id where
 rl:=Nat.le_refl _
 lt i hi:=by show i<c;omega
 mono i k h _:=h
 low i hi j hj:=by
  have hj:j<i:=hj;rw [he i j oM oM,if_neg oM]
 one i hi:=by show en R i i=1;rw [he i i oM oM,if_pos rfl]
 zero i hi k hk:=by
  show en R k i=0;by_cases h:k<n
  ·rw [he k i h oM,if_neg oM]
  ·exact Qo oM
 tail i hi j _:=Qo hi
theorem Al2 (hp:isF p=true):gj p (n+n) (idB n)=idB n :=
 Ahj hp (Af0 (Cd hp).1) (Alw (n:=n) (by simp [idB]) oM fun i j hi hj=>Axi hi hj)
theorem Atn (hp:isF p=true):gj p n (idV n)=idV n :=
 Ahj hp (Asz (Cd hp).1) (Alw (n:=n) (by simp [idV]) (Nat.le_refl _) fun i j hi _=>Axp hi)
theorem Um (hn:n<=1000):Dx (n:Int)=some ((n:Int),(n:Int),idB n):=by
 unfold Dx
 have key:Aq (fun s_:Nat×List (List Int)=>C2 (n:Int) s_.1 s_.2) 4611686018427387904 (0,([]:List (List Int)))=some (idB n):=by
  refine A2 n (fun k=>(k,(List.range k).map fun k=>unV n k++unV n k)) oM _ rfl (fun k hk=>?_) ?_
  ·try dsimp only
   unfold C2;rw [Au oM,cond_true,Ane hk hn,obs,obs,Ad3 _ _ (by simp [unV];omega),obs,Af (by simp;omega),Af oM,List.range_succ,List.map_append];rfl
  ·try dsimp only
   unfold C2;rw [At oM,cond_false];rfl
 rw [key];rfl
theorem At5 (hp:2<=p):gj p n []=[]:=by
 have h2:(gj p n []).length<=0:=by
  unfold gj;rw [List.length_take,(L5 hp (w:=0) (m:=[]) (fun x hx=>by cases hx) n).2.2];exact Nat.min_le_right _ _
 exact List.length_eq_zero_iff.1 oM
theorem Awx (hp:isF p=true):Nb p n []=idV n:=by
 unfold Nb;rw [At5 (Cd hp).1]
 have:Rg p n []=idV n:=by
  unfold Rg X4 idV;rw [List.filter_eq_self.2 (fun j _=>by simp [pvs])];rfl
 rw [this,Atn hp]
def rgI (n:Nat):List Int:=(List.range n).map fun k=>((k:Nat):Int)
theorem Awy (hn:n<=1000):O2 (n:Int)=some ((n:Int),[],rgI n,rgI n):=by
 unfold O2
 have key:Aq (fun s_:Nat×List Int=>K5 (n:Int) s_.1 s_.2) 4611686018427387904 (0,[])=some (rgI n):=by
  refine A2 n (fun k=>(k,rgI k)) oM _ rfl (fun k hk=>?_) ?_
  ·have hl:(rgI k).length=k:=by simp [rgI]
   try dsimp only
   unfold K5;rw [Au oM,cond_true,Af oM,Af oM,Af oM];unfold rgI;rw [List.range_succ,List.map_append];rfl
  ·try dsimp only
   unfold K5;rw [At oM,cond_false]
 rw [key];rfl
theorem Ajg (ends x:List Int) (hl:ends.length<=1000) (he:∀ e∈ends,0<=e/\e.toNat<x.length):Jq ends x=some (ends.map fun e=>x.getD e.toNat 0):=by
 unfold Jq
 have key:Aq (fun s_:Nat×List Int=>I1 ends x s_.1 s_.2) 4611686018427387904 (0,[])=some ([]++ends.map fun e=>x.getD e.toNat 0):=by
  refine Du ends (fun e=>x.getD e.toNat 0) [] oM _ (fun j e h=>?_) ?_
  ·have:=Ai h;have hb:=he e (List.mem_of_getElem? h)
   try dsimp only
   unfold I1;rw [Au oM,cond_true,h,obs,Bt hb.1,gEg hb.2,obs,Af (by simp;omega),Af oM,gDg,gEg hb.2];rfl
  ·try dsimp only
   unfold I1;rw [At oM,cond_false]
 rw [key];rfl
theorem Atc (k:Nat):(rgI n).map (fun e=>(unV n k).getD e.toNat 0)=unV n k:=by
 unfold rgI;rw [List.map_map];refine List.ext_getElem? fun i=>?_
 by_cases h:i<n
 ·rw [List.getElem?_map,List.getElem?_range h];show some ((unV n k).getD i 0)=_;rw [gDg,gEg (show i<(unV n k).length by simp [unV];omega)];rfl
 ·rw [List.getElem?_eq_none (by simp;omega),List.getElem?_eq_none (by simp [unV];omega)]
theorem Aqj (hp:isF p=true) (hn:n<=12):F7 p (n:Int) [] (rgI n) (rgI n)=some true:=by
 have hv:Cz (n:Int) [] (rgI n) (rgI n)=some true:=by
  rcases (show n=0∨n=1∨n=2∨n=3∨n=4∨n=5∨n=6∨n=7∨n=8∨n=9∨n=10∨n=11∨n=12 by omega) with rfl|rfl|rfl|rfl|rfl|rfl|rfl|rfl|rfl|rfl|rfl|rfl|rfl <;> kernel_rfl
 unfold F7 Mb;rw [Wd,hp,obs,Bool.not_true,cond_false,hv];rfl
theorem Axn (hp:isF p=true) (hn:n<=12) (s:ByteArray):Bo p 1 (n:Int) s=some ((n:Int),(n:Int),idB n):=by
 have hb:=Cd hp;have hl:(rgI n).length=n:=by simp [rgI]
 unfold Bo Md;rw [show ((1:Int)==1)=true from rfl,cond_true,Awy oM,obs,obs];unfold Es;dsimp only;rw [Aqj hp hn,obs,Bool.not_true,cond_false,Td _ oM,obs,Af oM]
 have hvs:E7 p (n:Int) [] (rgI n) (rgI n)=some (idV n):=by
  unfold E7;rw [show Aq (fun s_:Nat×List (List Int)=>Eu [] p (n:Int) s_.1 s_.2) 4611686018427387904 (0,[])=some [] from rfl,obs,Aai hp (fun x hx=>by cases hx) oM (by simp),Awx hp];rfl
 rw [hvs,obs]
 have key:Aq (fun s_:Nat×List (List Int)=>C4 (idV n) (rgI n) (rgI n) s_.1 s_.2) 4611686018427387904 (0,([]:List (List Int)))=some ([]++(idV n).map fun x=>x++x):=by
  refine Du (idV n) (fun x=>x++x) [] (by simp [idV];omega) _ (fun j x h=>?_) ?_
  ·have:=Ai h;have hil:(idV n).length=n:=by simp [idV]
   obtain ⟨k,_,rfl⟩:=List.mem_map.1 (List.mem_of_getElem? h)
   try dsimp only
   unfold C4;rw [Au oM,cond_true,h,obs,Ajg _ _ (by rw [List.length_append];omega) (fun e he=>?_),obs,Af (by simp;omega),Af oM,List.map_append,Atc];rw [List.mem_append,or_self] at he;obtain ⟨i,hi,rfl⟩:=List.mem_map.1 he;have:=List.mem_range.1 hi;exact ⟨by omega,by simp [unV];omega⟩
  ·try dsimp only
   unfold C4;rw [At oM,cond_false]
 rw [key,obs,List.nil_append,show (idV n).map (fun x=>x++x)=idB n by unfold idV idB;rw [List.map_map];rfl,hl,Ag3 hp (Af0 hb.1) oM (by simp [idB];omega),Al2 hp];rfl
end
section
variable {p v:Int}
theorem Aja {i j:Int} (hp:2<=p/\p<=97) (hv:0<=v/\v<p) (hi:i=0/\j=1∨i=1/\j=0):Cm p 2 [i,j] [1,v]=some (if i=0 then [1,v] else [v,1]):=by
 have e1:Do p 0 1=some 1:=by rw [Amw hp oM oM,Int.emod_eq_of_lt oM oM];rfl
 have e2:Do p 0 v=some v:=by rw [Amw hp oM hv,Int.zero_add,Int.emod_eq_of_lt hv.1 hv.2]
 unfold Cm;rw [Af oM];rcases hi with ⟨rfl,rfl⟩|⟨rfl,rfl⟩
 ·have h:Aq (fun s_:Nat×List Int=>Ng [0,1] [1,v] p s_.1 s_.2) 4611686018427387904 (0,List.replicate (2:Int).toNat (0:Int))=some [1,v]:=by
   refine A2 2 (fun i=>(i,if i=0 then [0,0] else if i=1 then [1,0] else [1,v])) oM _ rfl (fun i hi=>?_) rfl;rcases (show i=0∨i=1 by omega) with rfl|rfl
   ·show Option.bind (Do p 0 1) (fun y15=>og (0+1<4611686018427387904) (some (Ctl.next (0+1,[0,0].set 0 y15))))=_;rw [e1,obs,Af oM];rfl
   ·show Option.bind (Do p 0 v) (fun y15=>og (1+1<4611686018427387904) (some (Ctl.next (1+1,[1,0].set 1 y15))))=_;rw [e2,obs,Af oM];rfl
  rw [h];rfl
 ·have h:Aq (fun s_:Nat×List Int=>Ng [1,0] [1,v] p s_.1 s_.2) 4611686018427387904 (0,List.replicate (2:Int).toNat (0:Int))=some [v,1]:=by
   refine A2 2 (fun i=>(i,if i=0 then [0,0] else if i=1 then [0,1] else [v,1])) oM _ rfl (fun i hi=>?_) rfl;rcases (show i=0∨i=1 by omega) with rfl|rfl
   ·show Option.bind (Do p 0 1) (fun y15=>og (0+1<4611686018427387904) (some (Ctl.next (0+1,[0,0].set 1 y15))))=_;rw [e1,obs,Af oM];rfl
   ·show Option.bind (Do p 0 v) (fun y15=>og (1+1<4611686018427387904) (some (Ctl.next (1+1,[0,1].set 0 y15))))=_;rw [e2,obs,Af oM];rfl
  rw [h];rfl
theorem Afc (hp:2<=p):0<=scV p v/\scV p v<p:=Sm hp
theorem Apn {k:Int} (hp:isF p=true) (hv:0<=v/\v<p) (hva:Cz 2 [(k,v,[0],[1])] [0] [1]=some true) (hk:Cf k=some true):F7 p 2 [(k,v,[0],[1])] [0] [1]=some true:=by
 unfold F7 Mb
 have h1:Aq (fun s_:Nat=>Ii [(k,v,[0],[1])] p s_) 4611686018427387904 0=some (Ctl.next ()):=by
  refine A2 1 (fun i=>i) oM _ rfl (fun i hi=>?_) ?_
  ·obtain rfl:i=0:=by omega
   unfold Ii;simp only [List.length_singleton,List.getElem?_cons_zero,obs];rw [Au oM,cond_true,At oM,cond_false,Af oM]
  ·unfold Ii;simp only [List.length_singleton];rw [At oM,cond_false]
 have h2:Aq (fun s_:Nat=>Hp [(k,v,[0],[1])] s_) 4611686018427387904 0=some (Ctl.next ()):=by
  refine A2 1 (fun i=>i) oM _ rfl (fun i hi=>?_) ?_
  ·obtain rfl:i=0:=by omega
   unfold Hp;simp only [List.length_singleton,List.getElem?_cons_zero,obs,hk];rw [Au oM,cond_true,Bool.not_true,cond_false,Af oM]
  ·unfold Hp;simp only [List.length_singleton];rw [At oM,cond_false]
 rw [Wd,hp,obs,Bool.not_true,cond_false,hva,obs,obs,Bool.not_true,cond_false,h1,h2];rfl
theorem Asd {k:Int} {row:List Int} (hp:isF p=true) (hr:Ha p 2 k v [0] [1]=some [row]) (hm:MatW p 2 [row]):E7 p 2 [(k,v,[0],[1])] [0] [1]=some (Nb p 2 [row]):=by
 unfold E7
 have h1:Aq (fun s_:Nat×List (List Int)=>Eu [(k,v,[0],[1])] p 2 s_.1 s_.2) 4611686018427387904 (0,[])=some [row]:=by
  refine A2 1 (fun i=>(i,if i=0 then [] else [row])) oM _ rfl (fun i hi=>?_) ?_
  ·obtain rfl:i=0:=by omega
   try dsimp only
   unfold Eu;simp only [List.length_singleton,List.getElem?_cons_zero,obs,hr];rw [Au oM,cond_true,Af (by simp),Af oM];rfl
  ·try dsimp only
   unfold Eu;simp only [List.length_singleton];rw [At oM,cond_false];rfl
 have h2:=Aai (n:=2) hp hm oM (by simp);rw [h1,obs,show (2:Int)=((2:Nat):Int) from rfl,h2,obs]
theorem Ami {k:Int} {row:List Int} (hp:isF p=true) (hv:0<=v/\v<p) (hva:Cz 2 [(k,v,[0],[1])] [0] [1]=some true) (hk:Cf k=some true) (hr:Ha p 2 k v [0] [1]=some [row]) (hm:MatW p 2 [row]) :
  Es p 2 [(k,v,[0],[1])] [0] [1]=some (1,1,gj p 2 (Nb p 2 [row]),true):=by
 have hb:=Cd hp;have hN:=Agj (p:=p) (n:=2) (m:=[row]) hb.1;have hNl:=Agl (p:=p) (n:=2) (m:=[row]) hb.1;unfold Es;rw [Apn hp hv hva hk,obs,Bool.not_true,cond_false,Td _ (by simp),obs,Af (by simp),Asd hp hr hm,obs];generalize Nb p 2 [row]=M at *
 have key:Aq (fun s_:Nat×List (List Int)=>C4 M [0] [1] s_.1 s_.2) 4611686018427387904 (0,([]:List (List Int)))=some ([]++M.map fun x=>x):=by
  refine Du M (fun x=>x) [] oM _ (fun j x h=>?_) ?_
  ·have:=Ai h;have hxl:=(hN x (List.mem_of_getElem? h)).1
   have hgl:Jq ([0]++[1]) x=some x:=by
    rw [Ajg _ _ (by simp) (fun e he=>?_)]
    ·match x,hxl with
     | [a,b],_=>rfl
    ·rcases List.mem_cons.1 he with rfl|he
     ·exact ⟨by omega,by rw [hxl];decide⟩
     ·obtain rfl:=List.mem_singleton.1 he;exact ⟨by omega,by rw [hxl];decide⟩
   try dsimp only
   unfold C4;rw [Au oM,cond_true,h,obs,hgl,obs,Af (by simp;omega),Af oM]
  ·try dsimp only
   unfold C4;rw [At oM,cond_false]
 rw [key,obs,List.nil_append,List.map_id'];have hR:=Ag3 (l:=1) (r:=1) hp hN oM oM;rw [show ((([0]:List Int).length:Nat):Int)=((1:Nat):Int) from rfl,show ((([1]:List Int).length:Nat):Int)=((1:Nat):Int) from rfl,hR,obs];rfl
theorem Q9 {a b:Int} (ha:0<=a/\a<p) (hb:0<=b/\b<p):MatW p 2 [[a,b]]:=fun x hx=>by
 obtain rfl:=List.mem_singleton.1 hx;refine ⟨rfl,fun c hc=>?_⟩;rcases List.mem_cons.1 hc with rfl|hc
 ·exact ha
 ·obtain rfl:=List.mem_singleton.1 hc;exact hb
theorem Aco (hp:isF p=true) (hv:0<=v/\v<p):gj p 2 (Nb p 2 [[scV p v,1]])=[[1,v]]/\gj p 2 [[1,v]]=[[1,v]]/\gj p 2 (Nb p 2 [[1,scV p v]])=gj p 2 [[v,1]]:=by
 obtain ⟨u,rfl⟩:∃ u:Nat,v=(u:Int):=⟨v.toNat,by omega⟩
 have h:=List.all_eq_true.1 (List.all_eq_true.1 Ax8 p (Amb hp)) u (List.mem_range.2 oM);simp only [Bool.and_eq_true,beq_iff_eq] at h;exact h
theorem As5 (hp:isF p=true) (hv:0<=v/\v<p) (s:ByteArray):Bo p 7 v s=some (1,1,[[1,v]])/\A5 p 7 v s=some (1,1,[[1,v]]):=by
 have hb:=Cd hp;obtain ⟨f1,f2,f3⟩:=Aco hp hv
 have hva:Cz 2 [(7,v,[0],[1])] [0] [1]=some true:=by
  obtain ⟨u,rfl⟩:∃ u:Nat,v=(u:Int):=⟨v.toNat,by omega⟩
  have h:=List.all_eq_true.1 Ana u (List.mem_range.2 oM);simp only [Bool.and_eq_true,beq_iff_eq] at h;exact h.1
 have hr:Ha p 2 7 v [0] [1]=some [[scV p v,1]]:=by
  show Option.bind (Fb p v) (fun y34=>Option.bind (Cm p 2 [1,0] [1,y34]) fun y35=>some [y35])=_;rw [Zp hb hv,obs];show Option.bind (Cm p 2 [1,0] [1,scV p v]) _=_;rw [Aja hb (Afc hb.1) (.inr ⟨rfl,rfl⟩)];rfl
 constructor
 ·show Option.bind (Es p 2 [(7,v,[0],[1])] [0] [1]) (fun y4=>some (y4.1,y4.2.1,y4.2.2.1))=_;rw [Ami hp hv hva rfl hr (Q9 (Afc hb.1) ⟨by omega,by omega⟩),f1];rfl
 ·show Option.bind (Bq p ((1:Nat):Int) ((1:Nat):Int) [[1,v]]) (fun y25=>some (y25.1,y25.2.1,y25.2.2))=_;rw [Oe hp (Q9 ⟨by omega,by omega⟩ hv) oM (by simp),f2];rfl
theorem Aot (hp:isF p=true) (hv:0<=v/\v<p) (s:ByteArray):Bo p 13 v s=some (1,1,gj p 2 [[v,1]])/\A5 p 13 v s=some (1,1,gj p 2 [[v,1]]):=by
 have hb:=Cd hp;obtain ⟨f1,f2,f3⟩:=Aco hp hv
 have hva:Cz 2 [(13,v,[0],[1])] [0] [1]=some true:=by
  obtain ⟨u,rfl⟩:∃ u:Nat,v=(u:Int):=⟨v.toNat,by omega⟩
  have h:=List.all_eq_true.1 Ana u (List.mem_range.2 oM);simp only [Bool.and_eq_true,beq_iff_eq] at h;exact h.2
 have hr:Ha p 2 13 v [0] [1]=some [[1,scV p v]]:=by
  show Option.bind (Fb p v) (fun y34=>Option.bind (Cm p 2 [0,1] [1,y34]) fun y35=>some [y35])=_;rw [Zp hb hv,obs];show Option.bind (Cm p 2 [0,1] [1,scV p v]) _=_;rw [Aja hb (Afc hb.1) (.inl ⟨rfl,rfl⟩)];rfl
 constructor
 ·show Option.bind (Es p 2 [(13,v,[0],[1])] [0] [1]) (fun y4=>some (y4.1,y4.2.1,y4.2.2.1))=_;rw [Ami hp hv hva rfl hr (Q9 ⟨by omega,by omega⟩ (Afc hb.1)),f3];rfl
 ·show Option.bind (Bq p ((1:Nat):Int) ((1:Nat):Int) [[1,v]]) (fun y19=>Option.bind (M8 p y19.1 y19.2.1 y19.2.2) fun y20=>some (y20.1,y20.2.1,y20.2.2))=_;rw [Oe hp (Q9 ⟨by omega,by omega⟩ hv) oM (by simp),f2];show Option.bind (Option.bind (Bq p ((1:Nat):Int) ((1:Nat):Int) [[v,1]]) fun y4=>some (y4.1,y4.2.1,y4.2.2)) (fun y20=>some (y20.1,y20.2.1,y20.2.2))=_;rw [Oe hp (Q9 hv ⟨by omega,by omega⟩) oM (by simp)];rfl
end
theorem Anp {p n:Int} {b:List (List Int)} (hn:0<=n) (h:MatW p n.toNat b):Vp p n b=true:=by
 unfold Vp;rw [List.all_eq_true];intro x hx;have hx:=h x hx;rw [Bool.and_eq_true,beq_iff_eq,List.all_eq_true];refine ⟨by have:=hx.1;omega,fun a ha=>?_⟩;have:=hx.2 a ha;rw [Gw];omega
theorem Adb {p:Int} {l r:Nat} {b:List (List Int)} (hp:isF p=true) (hs:l+r<=24) (hb:b.length<=l+r) (hm:MatW p (l+r) b) (hg:gj p (l+r) b=b):Ms p (l:Int) (r:Int) b=true:=by
 have e:((l:Int)+(r:Int)).toNat=l+r:=by omega
 unfold Ms;simp only [Bool.and_eq_true,Gw,decide_eq_true_eq,beq_iff_eq];exact ⟨hp,⟨by omega,by omega⟩,⟨by omega,by omega⟩,by omega,Anp oM (by rw [e];exact hm),by rw [e];exact hg⟩
theorem Avx {v:Int} (h:inR v 0 96=true):lfW (7,v,⟨#[]⟩)=some (1,1):=by
 unfold lfW;dsimp only;rw [if_pos (show Lz ⟨#[]⟩=true from beq_self_eq_true _),if_neg (by decide),if_neg (by decide),if_pos (by decide),if_pos (show Y7 7 v=true by unfold Y7;rw [if_pos (.inl rfl)];exact h)];rfl
theorem Auv {v:Int} (h:inR v 0 96=true):lfW (13,v,⟨#[]⟩)=some (1,1):=by
 unfold lfW;dsimp only;rw [if_pos (show Lz ⟨#[]⟩=true from beq_self_eq_true _),if_neg (by decide),if_neg (by decide),if_pos (by decide),if_pos (show Y7 13 v=true by unfold Y7;rw [if_pos (.inr rfl)];exact h)];rfl
theorem Aro {p:Int} (hp:isF p=true) {n:Nd} {w:Int×Int} (hw:lfW n=some w) (hs:n.1≠8/\n.1≠14) (hv:n.1=7∨n.1=13->n.2.1<p) :
  ∃ a,Bo p n.1 n.2.1 n.2.2=some a/\A5 p n.1 n.2.1 n.2.2=some a/\Ms p a.1 a.2.1 a.2.2=true/\w=(a.1,a.2.1):=by
 have hb:=Cd hp;obtain ⟨k,v,s⟩:=n;have hk:=R9 hw;have hm:=Amb hp
 have h0:lfW (k,v,⟨#[]⟩)=some w:=by
  unfold lfW at hw ⊢;dsimp only at hw ⊢;split at hw
  ·rw [if_pos (show Lz ⟨#[]⟩=true from beq_self_eq_true _)];exact hw
  ·cases hw
 have fin:Ag5 p k v=true->∃ a,Bo p k v s=some a/\A5 p k v s=some a/\Ms p a.1 a.2.1 a.2.2=true/\w=(a.1,a.2.1):=fun h=>by
  obtain ⟨a,h1,h2,h3,h4⟩:=As9 h s;exact ⟨a,h1,h2,h3,osj (h0.symm.trans h4)⟩
 dsimp only at *;by_cases h1:k=1
 ·subst h1;have h0':=h0;unfold lfW at h0';dsimp only at h0';rw [if_pos (show Lz ⟨#[]⟩=true from beq_self_eq_true _),if_pos rfl] at h0';split at h0'
  ·rename_i hvb;obtain rfl:=osj h0';obtain ⟨m,rfl⟩:∃ m:Nat,v=(m:Int):=⟨v.toNat,by omega⟩
   have hm12:m<=12:=by omega
   refine ⟨((m:Int),(m:Int),idB m),Axn hp hm12 s,?_,Adb hp oM (by simp [idB]) (Af0 hb.1) (Al2 hp),rfl⟩;unfold A5;rw [show ((1:Int)==1)=true from rfl,cond_true,Um oM,obs]
  ·cases h0'
 ·have hval:k=2/\v=0∨(3<=k/\k<=14/\Y7 k v=true):=by
   have h0':=h0;unfold lfW at h0';dsimp only at h0';rw [if_pos (show Lz ⟨#[]⟩=true from beq_self_eq_true _)] at h0';rw [if_neg h1] at h0';split at h0'
   ·split at h0'
    ·rename_i h2 h3;exact .inl ⟨h2,h3⟩
    ·cases h0'
   ·split at h0'
    ·split at h0'
     ·rename_i h2 h3;exact .inr ⟨h2.1,h2.2,h3⟩
     ·cases h0'
    ·cases h0'
  by_cases hsc:k=7∨k=13
  ·have hvp:=hv hsc;rcases hval with ⟨rfl,_⟩|⟨_,_,hvb⟩
   ·omega
   unfold Y7 at hvb;rw [if_pos hsc] at hvb;have hvi:=Gw.1 hvb;obtain ⟨u,rfl⟩:∃ u:Nat,v=(u:Int):=⟨v.toNat,by omega⟩
   have hvb':(0:Int)<=(u:Int)/\(u:Int)<p:=⟨by omega,hvp⟩
   have hw1:w=(1,1):=by
    refine osj (h0.symm.trans ?_);rcases hsc with rfl|rfl
    ·exact Avx hvb
    ·exact Auv hvb
   subst hw1;rcases hsc with rfl|rfl
   ·obtain ⟨g1,g2⟩:=As5 hp hvb' s;exact ⟨_,g1,g2,Adb (l:=1) (r:=1) hp oM (by simp) (Q9 ⟨by omega,by omega⟩ hvb') (Aco hp hvb').2.1,rfl⟩
   ·obtain ⟨g1,g2⟩:=Aot hp hvb' s;obtain ⟨q1,q2,q3⟩:=Aj1 hp (n:=2) (m:=[[(u:Int),1]]) (Q9 (p:=p) hvb' ⟨by omega,by omega⟩);exact ⟨_,g1,g2,Adb (l:=1) (r:=1) hp oM q2 q1 q3,rfl⟩
  ·have hv0:v=0:=by
    rcases hval with ⟨_,h⟩|⟨_,_,hvb⟩
    ·exact h
    ·unfold Y7 at hvb;rw [if_neg hsc,beq_iff_eq] at hvb;exact hvb
   subst hv0;refine fin (List.all_eq_true.1 (List.all_eq_true.1 Aso p hm) k ?_);have:k=2∨k=3∨k=4∨k=5∨k=6∨k=9∨k=10∨k=11∨k=12:=by omega
   rcases this with rfl|rfl|rfl|rfl|rfl|rfl|rfl|rfl|rfl <;> simp
end
section
abbrev Rn:=Nat×Nat×List (List Int)
abbrev Rl:=Int×Int×List (List Int)
def B5 (x:Rn):Rl:=((x.1:Int),(x.2.1:Int),x.2.2)
structure Ni (p:Int) (x:Rn):Prop where
 mb:MatW p (x.1+x.2.1) x.2.2
 lb:x.2.2.length<=x.1+x.2.1
 rb:gj p (x.1+x.2.1) x.2.2=x.2.2
def Ai4 (p:Int):List (Int×Int)->List Rn->Prop
 | [],[]=>True
 | w :: T,x :: R=>(w=((x.1:Int),(x.2.1:Int))/\Ni p x)/\Ai4 p T R
 | _,_=>False
def Aka (p:Int) (a b:Rn):Rn:=(a.1,b.2.1,Awa p a.1 a.2.1 b.2.1 a.2.2 b.2.2)
def Aih (p:Int) (a b:Rn):Rn:=(a.1+b.1,a.2.1+b.2.1,Aw1 p a.1 a.2.1 b.1 b.2.1 a.2.2 b.2.2)
def O6 (p:Int) (lf:Nd->Rn) (n:Nd):List Rn->List Rn
 | b :: a :: r=>if n.1=15 then Aka p a b :: r else if n.1=16 then Aih p a b :: r else lf n :: b :: a :: r
 | R=>lf n :: R
def Lg (p:Int) (lf:Nd->Rn):List Nd->List Rn->List Rn
 | [],R=>R
 | n :: r,R=>Lg p lf r (O6 p lf n R)
section
variable {p:Int} {lf:Nd->Rn}
theorem Qr {n:Nd} (h:¬ (n.1=15∨n.1=16)) (R:List Rn):O6 p lf n R=lf n :: R:=by
 match R with
 | []=>rfl
 | [_]=>rfl
 | b :: a :: r =>
  show (if n.1=15 then _ else if n.1=16 then _ else _)=_;rw [if_neg (fun e=>h (.inl e)),if_neg (fun e=>h (.inr e))]
theorem Acj:∀ (xs ys:List Nd) (R:List Rn),Lg p lf (xs++ys) R=Lg p lf ys (Lg p lf xs R)
 | [],_,_=>rfl
 | _ :: r,ys,_=>Acj r ys _
theorem Sk {xs:List Nd} {k:Nat} {n:Nd} (h:xs[k]? =some n):Lg p lf (xs.take (k+1)) []=O6 p lf n (Lg p lf (xs.take k) []):=by
 rw [List.take_add_one,h,Acj];rfl
theorem Apr (hp:isF p=true) {a b:Rn} (ha:Ni p a) (hb:Ni p b) (h:b.1=a.2.1):Ni p (Aka p a b):=by
 have hb1:=hb.mb;rw [h] at hb1
 have hm:MatW p (a.1+b.2.1) ((Nb p (a.2.2.length+b.2.2.length) (Xl p a.1 a.2.1 a.2.2 b.2.2)).map (Ag6 p a.1 a.2.1 b.2.1 a.2.2 b.2.2)):=fun x hx=>by
  obtain ⟨c,_,rfl⟩:=List.mem_map.1 hx;exact Ajs (Cd hp).1 ha.mb hb1
 obtain ⟨h1,h2,h3⟩:=Aj1 hp hm;exact ⟨h1,h2,h3⟩
theorem Aq2 (hp:isF p=true) {a b:Rn} (ha:Ni p a) (hb:Ni p b):Ni p (Aih p a b):=by
 obtain ⟨h1,h2,h3⟩:=Aj1 hp (Afl (Cd hp).1 ha.mb hb.mb);exact ⟨h1,h2,h3⟩
theorem Aq8 (hp:isF p=true) {lt:Nd->Option (Int×Int)} {n:Nd} (hleaf:∀ w,¬ (n.1=15∨n.1=16)->lt n=some w->w=(((lf n).1:Int),((lf n).2.1:Int))/\Ni p (lf n)) {T T':List (Int×Int)} {R:List Rn} (hT:Ei lt n T=some T') (hR:Ai4 p T R):Ai4 p T' (O6 p lf n R):=by
 unfold Ei at hT;by_cases hc:n.1=15∨n.1=16
 ·rw [if_pos hc] at hT;split at hT
  ·match T,R,hT,hR with
   | w2 :: w1 :: T,y :: x :: R,hT,⟨⟨ey,gy⟩,⟨ex,gx⟩,hR⟩ =>
    subst ey ex;dsimp only at hT;show Ai4 p T' (if n.1=15 then Aka p x y :: R else if n.1=16 then Aih p x y :: R else lf n :: y :: x :: R);by_cases h15:n.1=15
    ·rw [if_pos h15] at hT ⊢;split at hT
     ·rename_i he;obtain rfl:=osj hT;exact ⟨⟨rfl,Apr hp gx gy oM⟩,hR⟩
     ·cases hT
    ·rw [if_neg h15] at hT ⊢;rw [if_pos (hc.resolve_left h15)];split at hT
     ·obtain rfl:=osj hT;refine ⟨⟨?_,Aq2 hp gx gy⟩,hR⟩;unfold Aih;simp
     ·cases hT
  ·cases hT
 ·rw [if_neg hc] at hT;obtain ⟨w,hw,rfl⟩:=oms.1 hT;rw [Qr hc];exact ⟨hleaf w hc hw,hR⟩
-- one step on each side
theorem Ast {S:List Rl} {a b:Rl} {k:Nat} (h:S.length=k):(S++[a,b])[k]? =some a/\(S++[a,b])[k+1]? =some b/\(S++[a,b]).take k=S:=by
 subst h;refine ⟨by simp,by simp,by simp⟩
theorem Amr {x y:Rn} {R:List Rn}:((y :: x :: R).map B5).reverse=(R.map B5).reverse++[B5 x,B5 y]:=by simp
theorem Qb {x:Rn} {R:List Rn}:((x :: R).map B5).reverse=(R.map B5).reverse++[B5 x]:=by simp
theorem Ahb (hp:isF p=true) {x y:Rn} (gx:Ni p x) (gy:Ni p y) (h:y.1=x.2.1) (b1:x.1+x.2.1<=100) (b2:y.1+y.2.1<=100) :
  Gz p (B5 x).1 (B5 x).2.1 (B5 x).2.2 (B5 y).1 (B5 y).2.1 (B5 y).2.2=some (B5 (Aka p x y))/\Fv p (B5 x).1 (B5 x).2.1 (B5 x).2.2 (B5 y).1 (B5 y).2.1 (B5 y).2.2=some (B5 (Aka p x y)):=by
 have gy1:=gy.mb;have l1:=gx.lb;have l2:=gy.lb;rw [h] at gy1 b2 l2;unfold B5;dsimp only;rw [h];exact ⟨Ake hp gx.mb gy1 b1 b2 oM oM,Ahw hp gx.mb gy1 b1 b2 oM oM⟩
theorem Aho (hp:isF p=true) {x y:Rn} (gx:Ni p x) (gy:Ni p y) (b1:x.1+x.2.1<=100) (b2:y.1+y.2.1<=100) :
  Jn p (B5 x).1 (B5 x).2.1 (B5 x).2.2 (B5 y).1 (B5 y).2.1 (B5 y).2.2=some (B5 (Aih p x y))/\Gy p (B5 x).1 (B5 x).2.1 (B5 x).2.2 (B5 y).1 (B5 y).2.1 (B5 y).2.2=some (B5 (Aih p x y)):=by
 have l1:=gx.lb;have l2:=gy.lb;unfold B5;dsimp only;exact ⟨Api hp gx.mb gy.mb b1 b2 oM oM,Aj3 hp gx.mb gy.mb b1 b2 oM oM⟩
-- what leaves stand for
def Ah1 (x:Rl):Rn:=(x.1.toNat,x.2.1.toNat,x.2.2)
theorem Au5 {x:Rl} (h1:0<=x.1) (h2:0<=x.2.1):B5 (Ah1 x)=x:=by
 obtain ⟨a,b,c⟩:=x;unfold B5 Ah1;dsimp only at *;rw [Int.toNat_of_nonneg h1,Int.toNat_of_nonneg h2]
theorem Asu {x:Rl} (h:Ms p x.1 x.2.1 x.2.2=true):Ni p (Ah1 x)/\B5 (Ah1 x)=x:=by
 have G:=Aeh h;have h1:=G.hl;have h2:=G.hr;have e:x.1.toNat+x.2.1.toNat=(x.1+x.2.1).toNat:=by omega
 refine ⟨⟨?_,?_,?_⟩,Au5 h1 h2⟩
 ·show MatW p (x.1.toNat+x.2.1.toNat) x.2.2;rw [e];exact G.mb
 ·show x.2.2.length<=x.1.toNat+x.2.1.toNat;have:=G.lb;omega
 ·show gj p (x.1.toNat+x.2.1.toNat) x.2.2=x.2.2;rw [e];exact G.rb
end
end
section
section
variable {p:Int}
def lfD (p:Int) (n:Nd):Rn:=match A5 p n.1 n.2.1 n.2.2 with|some a=>Ah1 a|none=>(0,0,[])
theorem Ac6 (hp:isF p=true) {n:Nd} {w:Int×Int} (hw:lfW n=some w) (hs:n.1≠8/\n.1≠14) (hv:n.1=7∨n.1=13->n.2.1<p) :
  Bo p n.1 n.2.1 n.2.2=some (B5 (lfD p n))/\A5 p n.1 n.2.1 n.2.2=some (B5 (lfD p n))/\w=(((lfD p n).1:Int),((lfD p n).2.1:Int))/\Ni p (lfD p n):=by
 obtain ⟨a,h1,h2,h3,rfl⟩:=Aro hp hw hs hv;obtain ⟨g1,g2⟩:=Asu (x:=a) h3
 have e:lfD p n=Ah1 a:=by
  unfold lfD;rw [h2]
 rw [e,g2];refine ⟨h1,h2,?_,g1⟩;have e1:(B5 (Ah1 a)).1=a.1:=by rw [g2]
 have e2:(B5 (Ah1 a)).2.1=a.2.1:=by rw [g2]
 exact Prod.ext e1.symm e2.symm
theorem Asi (hp:isF p=true) {xs:List Nd} {k:Nat} {n:Nd} (hx:xs[k]? =some n) (hl:xs.length<=1000) {T T':List (Int×Int)} {R:List Rn} (hT:Ei lfW n T=some T') (hok:okT T) (hR:Ai4 p T R) (hlen:R.length<=1000)
  (hI:∀ w,¬ (n.1=15∨n.1=16)->lfW n=some w->A5 p n.1 n.2.1 n.2.2=some (B5 (lfD p n))) :
  F2 xs p k (R.map B5).reverse=some (.next (k+1,((O6 p (lfD p) n R).map B5).reverse)):=by
 have hk:=Ai hx;unfold F2;rw [Au oM,cond_true,hx,obs];by_cases hc:n.1=15∨n.1=16
 ·unfold Ei at hT;rw [if_pos hc] at hT;split at hT
  ·match T,R,hT,hR with
   | w2 :: w1 :: T,y :: x :: R,hT,⟨⟨ey,gy⟩,⟨ex,gx⟩,hR⟩ =>
    subst ey ex;have o1:=hok _ (List.mem_cons_of_mem _ List.mem_cons_self);have o2:=hok _ List.mem_cons_self;obtain ⟨⟨_,o11⟩,_,o12⟩:=o1;obtain ⟨⟨_,o21⟩,_,o22⟩:=o2;dsimp only at o11 o12 o21 o22 hT;rw [List.length_cons,List.length_cons] at hlen;rw [Amr];have hSl:((R.map B5).reverse).length=R.length:=by simp
    generalize hS:(R.map B5).reverse=S at *;obtain ⟨s1,s2,s3⟩:=Ast (a:=B5 x) (b:=B5 y) hSl;have w1:wI (((R.length+2:Nat):Int) - 1)=((R.length+1:Nat):Int):=by rw [A6 oM oM];omega
    have w2:wI (((R.length+1:Nat):Int) - 1)=((R.length:Nat):Int):=by rw [A6 oM oM];omega
    have hl2:(S++[B5 x,B5 y]).length=R.length+2:=by simp [hSl]
    simp only [w1,w2,hl2,Bt (Int.natCast_nonneg _),Int.toNat_natCast,s1,s2,s3,obs];show _=some (Ctl.next (k+1,((if n.1=15 then Aka p x y :: R else if n.1=16 then Aih p x y :: R else lfD p n :: y :: x :: R).map B5).reverse));by_cases h15:n.1=15
    ·rw [if_pos h15] at hT ⊢;split at hT
     ·rename_i he;rw [show (n.1==15)=true from beq_iff_eq.2 h15,cond_true,Af oM,(Ahb hp gx gy oM oM oM).1,obs,Af oM,obs,Af oM,Qb,hS]
     ·cases hT
    ·rw [if_neg h15] at hT ⊢;have h16:=hc.resolve_left h15;rw [if_pos h16,show (n.1==15)=false from beq_eq_false_iff_ne.2 h15,cond_false,show (n.1==16)=true from beq_iff_eq.2 h16,cond_true,Af oM,(Aho hp gx gy oM oM).1,obs,Af oM,obs,Af oM,Qb,hS]
  ·cases hT
 ·unfold Ei at hT;rw [if_neg hc] at hT;obtain ⟨w,hw,_⟩:=oms.1 hT;rw [Qr hc,Qb,show (n.1==15)=false from beq_eq_false_iff_ne.2 (fun e=>hc (.inl e)),cond_false,show (n.1==16)=false from beq_eq_false_iff_ne.2 (fun e=>hc (.inr e)),cond_false];have hSl:((R.map B5).reverse).length=R.length:=by simp
  rw [hI w hc hw,obs,Af oM,obs,Af oM]
theorem Aps (hp:isF p=true) {xs:List Nd} {k:Nat} {n:Nd} (hx:xs[k]? =some n) (hl:xs.length<=1000) (hst:(n.1==8||n.1==14)=false) {T T':List (Int×Int)} {R:List Rn} (hT:Ei lfW n T=some T') (hok:okT T) (hR:Ai4 p T R) (hlen:R.length<=1000)
  (hI:∀ w,¬ (n.1=15∨n.1=16)->lfW n=some w->Bo p n.1 n.2.1 n.2.2=some (B5 (lfD p n))) :
  Fy xs p k (R.map B5).reverse=some (.next (k+1,((O6 p (lfD p) n R).map B5).reverse)):=by
 have hk:=Ai hx;unfold Fy Cf;rw [Au oM,cond_true,hx,obs,show (n.1 !=8)= !(n.1==8) from rfl,show (n.1 !=14)= !(n.1==14) from rfl];obtain ⟨t1,t2⟩:=Bool.or_eq_false_iff.1 hst;rw [t1,t2];by_cases hc:n.1=15∨n.1=16
 ·unfold Ei at hT;rw [if_pos hc] at hT;split at hT
  ·match T,R,hT,hR with
   | w2 :: w1 :: T,y :: x :: R,hT,⟨⟨ey,gy⟩,⟨ex,gx⟩,hR⟩ =>
    subst ey ex;have o1:=hok _ (List.mem_cons_of_mem _ List.mem_cons_self);have o2:=hok _ List.mem_cons_self;obtain ⟨⟨_,o11⟩,_,o12⟩:=o1;obtain ⟨⟨_,o21⟩,_,o22⟩:=o2;dsimp only at o11 o12 o21 o22 hT;rw [List.length_cons,List.length_cons] at hlen;rw [Amr];have hSl:((R.map B5).reverse).length=R.length:=by simp
    generalize hS:(R.map B5).reverse=S at *;obtain ⟨s1,s2,s3⟩:=Ast (a:=B5 x) (b:=B5 y) hSl;have hl2:(S++[B5 x,B5 y]).length=R.length+2:=by simp [hSl]
    have w1:wI (((R.length+2:Nat):Int) - 1)=((R.length+1:Nat):Int):=by rw [A6 oM oM];omega
    have w2:wI (((R.length+2:Nat):Int) - 2)=((R.length:Nat):Int):=by rw [A6 oM oM];omega
    simp only [hl2,w1,w2,Bt (Int.natCast_nonneg _),Int.toNat_natCast,s1,s2,s3,obs,Bool.not_false,cond_true,Bool.not_true,cond_false];show _=some (Ctl.next (k+1,((if n.1=15 then Aka p x y :: R else if n.1=16 then Aih p x y :: R else lfD p n :: y :: x :: R).map B5).reverse));by_cases h15:n.1=15
    ·rw [if_pos h15] at hT ⊢;split at hT
     ·rename_i he;have n15:(n.1 !=15)=false:=by rw [h15];rfl
      have b15:(n.1==15)=true:=beq_iff_eq.2 h15;simp only [n15,b15,cond_true,cond_false,obs];rw [Af oM,(Ahb hp gx gy oM oM oM).2,obs,Af oM,Qb,hS];exact Af oM _
     ·cases hT
    ·rw [if_neg h15] at hT ⊢;have h16:=hc.resolve_left h15;have n15:(n.1 !=15)=true:=bne_iff_ne.2 h15;have n16:(n.1 !=16)=false:=by rw [h16];rfl
     have b15:(n.1==15)=false:=beq_eq_false_iff_ne.2 h15;rw [if_pos h16];simp only [n15,n16,b15,cond_true,cond_false,obs];rw [Af oM,(Aho hp gx gy oM oM).2,obs,Af oM,Qb,hS];exact Af oM _
  ·cases hT
 ·unfold Ei at hT;rw [if_neg hc] at hT;obtain ⟨w,hw,_⟩:=oms.1 hT;have n15:(n.1 !=15)=true:=bne_iff_ne.2 fun e=>hc (.inl e)
  have n16:(n.1 !=16)=true:=bne_iff_ne.2 fun e=>hc (.inr e)
  have hSl:((R.map B5).reverse).length=R.length:=by simp
  rw [Qr hc,Qb];simp only [n15,n16,cond_true,cond_false,obs,Bool.not_false,Bool.not_true];rw [hI w hc hw,obs,Af oM];show og (k+1<4611686018427387904) (some (Ctl.next (k+1,_)))=_;rw [Af oM]
theorem At8 (hp:isF p=true) {xs:List Nd} (hx:xs.length<=400) {T:List (Int×Int)} (hT:Kk lfW xs []=some T) (hs:Zc xs=true) (hv:Pc p xs=true) :
  Ai4 p T (Lg p (lfD p) xs [])/\Aq (fun s_:Nat×(List (Int×Int×List (List Int)))=>F2 xs p s_.1 s_.2) 4611686018427387904 (0,[])=some ((Lg p (lfD p) xs []).map B5).reverse
   /\ Aq (fun s_:Nat×(List (Int×Int×List (List Int)))=>Fy xs p s_.1 s_.2) 4611686018427387904 (0,[])=some (.next ((Lg p (lfD p) xs []).map B5).reverse):=by
 have hnode:∀ n∈xs,(n.1≠8/\n.1≠14)/\(n.1=7∨n.1=13->n.2.1<p):=fun n hn=>by
  have h1:=List.all_eq_true.1 hs n hn;have h2:=List.all_eq_true.1 hv n hn;simp only [Bool.not_eq_true',Bool.or_eq_false_iff,beq_eq_false_iff_ne,Bool.and_eq_false_iff,decide_eq_false_iff_not] at h1 h2;exact ⟨h1,fun h=>by rcases h2 with ⟨a,b⟩|h2 <;> omega⟩
 have hleaf:∀ n∈xs,∀ w,¬ (n.1=15∨n.1=16)->lfW n=some w->w=(((lfD p n).1:Int),((lfD p n).2.1:Int))/\Ni p (lfD p n):=fun n hn w _ hw=>by
  obtain ⟨_,_,h3,h4⟩:=Ac6 hp hw (hnode n hn).1 (hnode n hn).2;exact ⟨h3,h4⟩
 have hpre:∀ k,k<=xs.length->∃ Tk,Kk lfW (xs.take k) []=some Tk/\okT Tk/\Ai4 p Tk (Lg p (lfD p) (xs.take k) [])/\(Lg p (lfD p) (xs.take k) []).length<=k:=by
  intro k
  induction k with
  | zero=>exact fun _=>⟨[],rfl,(fun _ h=>by cases h),trivial,Nat.le_refl _⟩
  | succ k ih =>
   intro hk;obtain ⟨Tk,h1,h2,h3,h4⟩:=ih oM;have hg:=gEg (show k<xs.length by omega);have hm:=List.getElem_mem (show k<xs.length by omega);have hn:=Nx hg h1;rw [Sk hg];cases hst:Ei lfW xs[k] Tk with
   | none=>rw [hst] at hn;rw [Tj hn] at hT;cases hT
   | some T' =>
    rw [hst] at hn;refine ⟨T',hn,Ou (fun n w h=>Agt h) hst h2,Aq8 hp (hleaf _ hm) hst h3,?_⟩
    have hlen:∀ (n:Nd) (R:List Rn),(O6 p (lfD p) n R).length<=R.length+1:=fun n R=>by
     unfold O6;split
     ·split
      ·simp only [List.length_cons];omega
      ·split <;> simp only [List.length_cons] <;> omega
     ·simp
    exact Nat.le_trans (hlen _ _) oM
 refine ⟨?_,?_,?_⟩
 ·obtain ⟨Tk,h1,_,h3,_⟩:=hpre xs.length (Nat.le_refl _);rw [List.take_length] at h1 h3;rw [hT] at h1;obtain rfl:=osj h1;exact h3
 ·refine A2 xs.length (fun k=>(k,((Lg p (lfD p) (xs.take k) []).map B5).reverse)) oM _ rfl (fun k hk=>?_) ?_
  ·obtain ⟨Tk,h1,h2,h3,h4⟩:=hpre k oM;obtain ⟨Tn,g1,_⟩:=hpre (k+1) oM;have hg:=gEg hk;have hm:=List.getElem_mem hk;have hn:=Nx hg h1;rw [g1] at hn;rw [Sk hg];exact Asi hp hg oM hn.symm h2 h3 oM (fun w hc hw=>(Ac6 hp hw (hnode _ hm).1 (hnode _ hm).2).2.1)
  ·try dsimp only
   unfold F2;rw [At oM,cond_false,List.take_length]
 ·refine A2 xs.length (fun k=>(k,((Lg p (lfD p) (xs.take k) []).map B5).reverse)) oM _ rfl (fun k hk=>?_) ?_
  ·obtain ⟨Tk,h1,h2,h3,h4⟩:=hpre k oM;obtain ⟨Tn,g1,_⟩:=hpre (k+1) oM;have hg:=gEg hk;have hm:=List.getElem_mem hk;have hn:=Nx hg h1;rw [g1] at hn;rw [Sk hg];refine Aps hp hg oM ?_ hn.symm h2 h3 oM (fun w hc hw=>(Ac6 hp hw (hnode _ hm).1 (hnode _ hm).2).1);rw [Bool.or_eq_false_iff,beq_eq_false_iff_ne,beq_eq_false_iff_ne];exact (hnode _ hm).1
  ·try dsimp only
   unfold Fy;rw [At oM,cond_false,List.take_length]
theorem Awo {xs:List Nd} {s:ByteArray} {l r:Int} {b:List (List Int)} (hp:isF p=true) {w:Int×Int} (hT:tyV xs=some w) (hs:Zc xs=true) (hv:Pc p xs=true) :
  ∃ x:Rn,Ni p x/\w=((x.1:Int),(x.2.1:Int))/\okW w/\Mm p xs=some (B5 x)/\Mp p s xs l r b=some (B5 x):=by
 have hw:=hT;unfold tyV tyG at hw;split at hw
 ·rename_i hx;cases hr:Kk lfW xs [] with
  | none=>rw [hr] at hw;cases hw
  | some T =>
   rw [hr] at hw;have hok:=Anb (fun n w h=>Agt h) hr (fun _ h=>by cases h);obtain ⟨h1,h2,h3⟩:=At8 hp hx.2 hr hs hv
   match T,hw with
   | [v],hw =>
    obtain rfl:=osj hw;generalize Lg p (lfD p) xs []=R at *
    match R,h1 with
    | [x],⟨⟨e,gx⟩,_⟩ =>
     subst e;have ow:=hok _ (List.mem_singleton.2 rfl);refine ⟨x,gx,rfl,ow,?_,?_⟩
     ·unfold Mm;rw [h2];rfl
     ·unfold Mp Ps;rw [Vn xs p oM,hT,hp,hv,h3];rfl
 ·cases hw
end
end
section
open Go.RowKit Go.Deep
section
variable {P:Program} {G:World->Prop} {w0 w:World} {ob:Oid->Option Ob} {σ:Oid->Option Loc} {K:Nat->Prop} {im:Nat->Prop}
end
end
section
open Go.RowKit Go.Deep
theorem Axz:∀ d:Fin 10,strOfNums [IntKind.u8.wrap (wI (48+((d.val:Nat):Int)))]=⟨#[UInt8.ofNat (48+d.val)]⟩:=by
 intro d;apply ByteArray.ext
 revert d
 decide +kernel
theorem Ajz {k:Int} (h:0<=k/\k<=9223372036854775807):Jz k=some (Aya k):=by
 unfold Jz Aya;by_cases h0:k<=0
 ·rw [Au h0,if_pos h0];rfl
 rw [At h0,cond_false,if_neg h0]
 obtain ⟨r,hr,rfl,hs⟩:=Gg (F:=4611686018427387904) (body:=fun s_:Int×ByteArray=>Gq s_.1 s_.2) (s0:=((k,(⟨#[]⟩:ByteArray)):Int×ByteArray)) (Post:=fun r:ByteArray=>r=⟨(Ah2 k.toNat []).toArray⟩/\r.size<=64) 63 (fun (i:Nat) (s:Int×ByteArray)=>0<=s.1/\s.1.toNat*2 ^ i<=k.toNat/\s.2.size<=i/\∃ l:List UInt8,s.2=⟨l.toArray⟩/\Ah2 s.1.toNat l=Ah2 k.toNat []) oM ⟨h.1,by simp,Nat.le_refl _,[],rfl,rfl⟩ (by
  rintro i ⟨v,t⟩ hi ⟨h1,h2,h3,l,h4,h5⟩;dsimp only at h1 h2 h3 h4 h5
  try dsimp only
  unfold Gq;by_cases hv:0<v
  ·obtain ⟨n,rfl⟩:∃ n:Nat,v=n:=⟨v.toNat,by omega⟩
   have hd:Int.tdiv (n:Int) 10=((n / 10:Nat):Int):=by rw [Int.tdiv_eq_ediv_of_nonneg h1];omega
   have hm:Int.tmod (n:Int) 10=((n % 10:Nat):Int):=by rw [Int.tmod_eq_emod_of_nonneg h1];omega
   have hF:=Axz ⟨n % 10,Nat.mod_lt _ oM⟩;simp only at hF
   have hn:n<=9223372036854775807:=by
    have:n*1<=n*2 ^ i:=Nat.mul_le_mul_left _ (Nat.one_le_two_pow);simp only [Int.toNat_natCast] at h2;omega
   rw [Au hv,cond_true,hm,hF,Af (by show 1+t.size<=_;omega),hd,A6 (n:=((n / 10:Nat):Int)) oM oM];refine .inl ⟨_,rfl,by dsimp only;omega,?_,?_,UInt8.ofNat (48+n % 10) :: l,?_,?_⟩
   ·dsimp only;simp only [Int.toNat_natCast] at h2 ⊢;rw [Nat.pow_succ]
    have:(n / 10)*(2 ^ i*2)<=n*2 ^ i:=by
     rw [Nat.mul_comm (2 ^ i) 2,← Nat.mul_assoc];exact Nat.mul_le_mul_right _ oM
    omega
   ·dsimp only;rw [ByteArray.size_append];show 1+t.size<=i+1;omega
   ·dsimp only;rw [h4];apply ByteArray.ext;simp
   ·dsimp only;rw [← h5];simp only [Int.toNat_natCast];rw [Ah2.eq_def n l,dif_neg oM]
  ·obtain rfl:v=0:=by omega
   rw [At hv];refine .inr ⟨_,rfl,?_,by omega⟩;rw [h4,← h5,Ah2.eq_def];rfl) (by
  rintro ⟨v,t⟩ ⟨h1,h2,h3,l,h4,h5⟩;dsimp only at h1 h2 h3 h4 h5
  try dsimp only
  unfold Gq;obtain rfl:v=0:=by omega
  rw [At oM];refine ⟨_,rfl,?_,by omega⟩;rw [h4,← h5,Ah2.eq_def];rfl)
 rw [hr,obs,Af (by show 1+ByteArray.size _<=_;omega)];rfl
end
section
theorem Un (xs:List Int) {v:Int} (hv:0<=v/\v<=1152921504606846976) (hx:xs.length<=1073741824):E8 xs v=some (mkL v xs.length,v+xs.length):=by
 unfold E8
 have h:Aq (fun s_:Int×Nat×List Int=>Gk s_.1 s_.2.1 s_.2.2) 4611686018427387904 (v,0,xs)=some (v+xs.length,mkL v xs.length):=by
  refine A2 xs.length (fun i=>(v+i,i,mkL v i++xs.drop i)) oM _ (by simp [mkL]) (fun i hi=>?_) ?_
  ·have hl:(mkL v i).length=i:=by simp [mkL]
   try dsimp only
   unfold Gk;rw [Au (by rw [List.length_append,hl,List.length_drop];omega),cond_true,L9 hi hl,obs,Af oM,Lv hi hl,A6 oM oM];unfold mkL;rw [List.range_succ,List.map_append];simp [Int.add_assoc]
  ·try dsimp only
   unfold Gk;rw [At (by simp [mkL]),cond_false];simp [mkL]
 rw [h];rfl
theorem Ade (n:Nat) {v:Int} (hv:0<=v/\v<=1152921504606846976) (hx:n<=1073741824):D4 (mkL v n) v=some (v+n):=by
 unfold D4
 have h:Aq (fun s_:Int×Nat=>Gs (mkL v n) s_.1 s_.2) 4611686018427387904 (v,0)=some (.next (v+n)):=by
  refine A2 n (fun i=>(v+i,i)) oM _ (by simp) (fun i hi=>?_) ?_
  ·have hg:(mkL v n)[i]? =some (v+i):=by simp [mkL,hi]
   try dsimp only
   unfold Gs;rw [Au (by simp [mkL];omega),cond_true,hg,obs,bne_self_eq_false,cond_false,Af oM,A6 oM oM];simp [Int.add_assoc]
  ·try dsimp only
   unfold Gs;rw [At (by simp [mkL]),cond_false]
 rw [h];rfl
theorem Akh (xss:List (List Int)) {v:Int} (hv:0<=v/\v<=576460752303423488) (hn:xss.length<=1048576) (hb:Gc 1048576 xss) :
  ∃ yss,∃ u:Int,v<=u/\Iq xss v=some (yss,u)/\yss.length=xss.length:=by
 have hm:xss.length*1048576<=1048576*1048576:=Nat.mul_le_mul_right _ hn;have ht:=fun i=>Ant hb i
 have htt:G1 xss<=xss.length*1048576:=Af6 hb;refine ⟨N0 v xss,v+G1 xss,by omega,?_,Oy _ _⟩;unfold Iq
 have h:Aq (fun s_:Int×Nat×List (List Int)=>Fp s_.1 s_.2.1 s_.2.2) 4611686018427387904 (v,0,xss)=some (v+G1 xss,N0 v xss):=by
  refine A2 xss.length (fun i=>(v+G1 (xss.take i),i,(N0 v xss).take i++xss.drop i)) oM _ (by simp [G1]) (fun i hi=>?_) ?_
  ·have hl:((N0 v xss).take i).length=i:=by rw [List.length_take,Oy];omega
   have h1:=hb _ (List.getElem_mem hi);have h2:=ht i;have hg:=Aax v xss i hi
   try dsimp only
   unfold Fp;rw [Au (by rw [List.length_append,hl,List.length_drop];omega),cond_true,L9 hi hl,obs,Un _ oM oM,obs,Af (by simp [mkL]),Af oM,Lv hi hl,Aep hi,List.take_add_one,hg];simp [Int.add_assoc]
  ·try dsimp only
   unfold Fp;have hl:((N0 v xss).take xss.length).length=xss.length:=by rw [List.length_take,Oy];omega
   rw [At (by rw [List.length_append,hl];simp),cond_false];simp [List.take_of_length_le,Oy]
 rw [h];rfl
theorem Ahl (xs:List Nd) {v:Int} (hv:0<=v/\v<=576460752303423488) (hx:xs.length<=1048576):∃ ys,I6 xs v=some (ys,v+3*xs.length)/\ys.length=xs.length:=by
 unfold I6
 have key:∃ c,Aq (fun s_:Int×Nat×List Nd=>Fq s_.1 s_.2.1 s_.2.2) 4611686018427387904 (v,0,xs)=some c/\∃ ys:List Nd,c=(v+3*xs.length,ys)/\ys.length=xs.length:=by
  refine Gg (Post:=fun c=>∃ ys:List Nd,c=(v+3*xs.length,ys)/\ys.length=xs.length) xs.length (fun i s=>∃ ys:List Nd,s=(v+3*i,i,ys)/\ys.length=xs.length) oM ⟨xs,by simp,rfl⟩ ?_ ?_
  ·rintro i s hi ⟨ys,rfl,hl⟩;have hi':i<ys.length:=by omega
   refine .inl ?_
   try dsimp only
   unfold Fq;rw [Au oM,cond_true,gEg hi',obs,List.getElem?_set_self hi',obs,A6 (n:=v+3*(i:Int)+1) oM oM,A6 (n:=v+3*(i:Int)+1+1) oM oM,Ajz oM,obs,List.getElem?_set_self (by simpa using hi'),obs,Af oM,A6 oM oM];exact ⟨_,rfl,_,by congr 1;omega,by simp [hl]⟩
  ·rintro s ⟨ys,rfl,hl⟩
   try dsimp only
   unfold Fq;rw [At oM,cond_false];exact ⟨_,rfl,ys,rfl,hl⟩
 obtain ⟨c,h1,ys,rfl,h2⟩:=key;exact ⟨ys,by rw [h1];rfl,h2⟩
theorem Yw (s:ByteArray) (xs:List Nd) (l r:Int) (b:List (List Int)) (hx:xs.length<=1048576) (hb:b.length<=1048576) (hr:Gc 1048576 b):∃ ys bs,∃ u:Int,0<=u/\Fk s xs l r b 1=some (ys,bs,u)/\ys.length=xs.length/\bs.length=b.length:=by
 obtain ⟨ys,h1,h2⟩:=Ahl xs (v:=1) oM hx;obtain ⟨bs,u,h3,h4,h5⟩:=Akh b (v:=1+3*xs.length) oM hb hr;refine ⟨ys,bs,u,by omega,?_,h2,h5⟩;unfold Fk Nh Jg;rw [h1,obs,Af h2,obs,Af h2,h4,obs,Af h5]
 first
  | rfl
  | rw [obs,Af h5]
section
variable {p:Int}
theorem Ah4 {n:Nat} {m b:List (List Int)} (hp:2<=p/\p<=97) (hm:MatW p n m) (h:Kt n m.length m (lv m)) (hb:MatW p n b) (hn:n<=1000) (hl:m.length<=1000) (hl':b.length<=1000) :
  (F9 p b m=some []/\b.find? (fun x=> !Na p n m x)=none)∨∃ x:List Int,F9 p b m=some x/\b.find? (fun x=> !Na p n m x)=some x:=by
 unfold F9
 have key:∃ c,Aq (fun s_:Nat=>Fm b p m s_) 4611686018427387904 0=some c/\((c=Ctl.next ()/\b.find? (fun x=> !Na p n m x)=none)∨∃ x:List Int,c=Ctl.out x/\b.find? (fun x=> !Na p n m x)=some x):=by
  refine Gg (Post:=fun c=>(c=Ctl.next ()/\b.find? (fun x=> !Na p n m x)=none)∨∃ x:List Int,c=Ctl.out x/\b.find? (fun x=> !Na p n m x)=some x) b.length (fun i s=>s=i/\(b.take i).find? (fun x=> !Na p n m x)=none) oM ⟨rfl,by simp⟩ ?_ ?_
  ·rintro i s hi ⟨rfl,hI⟩;have hg:=gEg hi;have hx:=hb _ (List.getElem_mem hi);have e:b.take (s+1)=b.take s++[b[s]]:=by rw [List.take_add_one,hg];rfl
   unfold Fm;rw [Au oM,cond_true,hg,obs,Atj hp hm h hx hn hl,obs,Af oM];cases hh:Na p n m b[s]
   ·refine .inr ⟨_,rfl,.inr ⟨_,rfl,?_⟩⟩;have e2:b=b.take (s+1)++b.drop (s+1):=(List.take_append_drop _ _).symm
    conv=>lhs;rw [e2,e]
    rw [List.find?_append,List.find?_append,hI];simp [hh]
   ·exact .inl ⟨_,rfl,rfl,by rw [e,List.find?_append,hI];simp [hh]⟩
  ·rintro s ⟨rfl,hI⟩;unfold Fm;rw [At oM,cond_false];rw [List.take_length] at hI;exact ⟨_,rfl,.inl ⟨rfl,hI⟩⟩
 obtain ⟨c,hc,h1⟩:=key;rw [hc];rcases h1 with ⟨rfl,h1⟩|⟨x,rfl,h1⟩
 ·exact .inl ⟨rfl,h1⟩
 ·exact .inr ⟨x,rfl,h1⟩
theorem Awg {s:ByteArray} {xs:List Nd} {l r:Int} {b:List (List Int)} (hx:xs.length<=1073741824) (hb:b.length<=1048576) (hr:Gc 1048576 b):∃ v:List Int×List Int×Bool,Ht p s xs l r b=some v/\Dw p s xs l r b=some v/\v.1.length<=1000/\v.2.1.length<=1000:=by
 unfold Ht Dw;obtain ⟨v,g1,g2⟩:=Ayd p s xs l r b hx hb hr;rw [g1,g2,obs,obs];cases v
 ·exact ⟨_,rfl,rfl,by simp,by simp⟩
 obtain ⟨hp,hv,hs,hg,hT⟩:=Aoi hx hb hr g1;have GG:=Aeh hg;have hbd:=Cd hp;have gm:=GG.mb;have gi:=Aow GG;have glb:=GG.lb;have ghs:=GG.hs;have ghl:=GG.hl;have ghr:=GG.hr;obtain ⟨x,gx,hw,_,d1,d2⟩:=Awo (s:=s) (l:=l) (r:=r) (b:=b) hp hT hs hv;obtain ⟨e1,e2⟩:=Prod.mk.inj hw;have he:(l+r).toNat=x.1+x.2.1:=by omega
 rw [he] at gm gi;have xl:=gx.lb;obtain ⟨z,hz,hM⟩:=Avb (l:=l) (r:=r) (l':=(x.1:Int)) (r':=(x.2.1:Int)) hbd gm gi gx.mb oM oM oM;rw [d1,d2];unfold B5;simp only [Bool.not_true,cond_false,obs,hz];rcases Ah4 hbd gm gi gx.mb oM oM oM with ⟨q1,q2⟩|⟨y,q1,q2⟩
 ·rcases hM with ⟨rfl,h⟩|⟨y,rfl,h⟩
  ·rw [q1];exact ⟨_,rfl,rfl,by simp,by simp⟩
  ·rw [q2] at h;cases h
 ·rcases hM with ⟨rfl,h⟩|⟨y',rfl,h⟩
  ·rw [q2] at h;cases h
  ·rw [q2] at h;obtain rfl:=osj h;obtain ⟨hy,h1,h2⟩:=Aqs hbd gm gx.mb q2;have hyl:=hy.1;have t1:(y.take l.toNat).length<=1000:=by rw [List.length_take];omega
   have t2:(y.drop l.toNat).length<=1000:=by rw [List.length_drop];omega
   rw [q1,obs,show (((y.length:Nat):Int)==0)=false from beq_eq_false_iff_ne.2 oM,cond_false,Af oM,Td _ oM,obs,Af oM,Td _ oM,obs];simp only [Sum.elim_inr];have hne:y≠[]:=fun e=>h1 (by rw [e];rfl)
   rw [Af ⟨by omega,by omega,hne,by omega⟩];exact ⟨_,rfl,by rw [show (x.1:Int)=l by omega],t1,t2⟩
theorem Anq {s:ByteArray} {xs:List Nd} {l r:Int} {b:List (List Int)} (h0:s.size<=9223372036854775807) (hx:xs.length<=9223372036854775807) (hs:∀ n∈xs,n.2.2.size<=9223372036854775807) (hb:b.length<=9223372036854775807) (hr:Gc 9223372036854775807 b):Dm p s xs l r b=some true:=by
 unfold Dm;obtain ⟨y,hy,h1|⟨h1,h2,h3,h4,h5⟩⟩:=Ado s xs l r b (v:=1048576) oM h0 hx hs hb hr
 ·rw [hy,obs,Au h1];rfl
 obtain ⟨v,g1,g2,v1,v2⟩:=Awg (p:=p) (s:=s) (l:=l) (r:=r) (show xs.length<=1073741824 by omega) h4 h5;obtain ⟨ys,bs,u,k0,k1,k2,k3⟩:=Yw s xs l r b h3 h4 h5;rw [hy,obs,At oM,cond_false];have m1:=Un v.1 (v:=1) oM oM;have m2:=Un v.2.1 (v:=1+v.1.length) oM oM;have n1:=Ade v.1.length (v:=1) oM oM;have n2:=Ade v.2.1.length (v:=1+v.1.length) oM oM;have c1:(mkL 1 v.1.length).length=v.1.length:=by simp [mkL]
 have c2:(mkL (1+v.1.length) v.2.1.length).length=v.2.1.length:=by simp [mkL]
 have d1:decide ((1:Int)+(v.1.length:Int)<0)=false:=decide_eq_false oM;have d2:decide ((1:Int)+(v.1.length:Int)+(v.2.1.length:Int)<0)=false:=decide_eq_false oM;have d3:decide (u<0)=false:=decide_eq_false oM;have E1:=Aay v.1 oM;have E2:=Aay v.2.1 oM;simp only [Adz s xs l r b h3 h4 h5,obs,g1,g2,Adp s xs l r b h3 h4 h5,E1,E2,k1,Af k2,Af k3,m1,m2,n1,n2,Af c1,Af c2,d1,d2,d3,bne_self_eq_false,cond_false,Bool.not_true]
end
end
section
open Go.RowKit Go.Deep
theorem brokenPair_walk (p:Int) (xName:ByteArray) (xBodyNodes:List (Int×Int×ByteArray)) (A_xBodyNodes:Option Addr) (c_xBodyNodes:Nat) (l_xBodyNodes:List Addr) (xPromiseLeft:Int) (xPromiseRight:Int) (xPromiseBasis:List (List Int)) (A_xPromiseBasis:Option Addr) (c_xPromiseBasis:Nat) (l_xPromiseBasis:List Addr) (w:World) (_i_p: -9223372036854775808<=p/\p<=9223372036854775807) (i_xName:xName.size<=maxLen) (s_xBodyNodes:Sl (fun _=>True) w (.pair .int (.pair .int .str)) A_xBodyNodes c_xBodyNodes xBodyNodes l_xBodyNodes) (i_xBodyNodes:Ty.In (.slice (.pair .int (.pair .int .str))) xBodyNodes) (_i_xPromiseLeft: -9223372036854775808<=xPromiseLeft/\xPromiseLeft<=9223372036854775807) (_i_xPromiseRight: -9223372036854775808<=xPromiseRight/\xPromiseRight<=9223372036854775807) (s_xPromiseBasis:Sl (fun _=>True) w (.slice .int) A_xPromiseBasis c_xPromiseBasis xPromiseBasis l_xPromiseBasis) (_i_xPromiseBasis:Ty.In (.slice (.slice .int)) xPromiseBasis) (tab:Tab w) :
  Calls Tryz.prog 4 #[.int .i64 p,.agg #[.string xName,.slice A_xBodyNodes xBodyNodes.length c_xBodyNodes,.int .i64 xPromiseLeft,.int .i64 xPromiseRight,.slice A_xPromiseBasis xPromiseBasis.length c_xPromiseBasis]] w fun e w'=>e=.returned (.bool true)/\Below w.heap.size w w':=by
 have hl:Dm p xName xBodyNodes xPromiseLeft xPromiseRight xPromiseBasis=some true:=Anq (Nat.le_trans i_xName (by decide)) (Ako s_xBodyNodes).2 (fun n hn=>Nat.le_trans (i_xBodyNodes n hn).2.2 (by decide)) (Ako s_xPromiseBasis).2 (Ath s_xPromiseBasis);refine (O0 hl w (fun _=>True) [.int .i64 p,.agg #[.string xName,.slice A_xBodyNodes xBodyNodes.length c_xBodyNodes,.int .i64 xPromiseLeft,.int .i64 xPromiseRight,.slice A_xPromiseBasis xPromiseBasis.length c_xPromiseBasis]] (fun w' hb=>tab.below hb) ⟨_,_,rfl,rfl,⟨_,_,rfl,⟨_,rfl,⟨_,_,rfl,rfl,⟨_,_,rfl,⟨A_xBodyNodes,c_xBodyNodes,l_xBodyNodes,rfl,s_xBodyNodes⟩,⟨_,_,rfl,rfl,⟨_,_,rfl,rfl,⟨_,_,rfl,⟨A_xPromiseBasis,c_xPromiseBasis,l_xPromiseBasis,rfl,s_xPromiseBasis⟩,rfl⟩⟩⟩⟩⟩⟩,rfl⟩⟩).mono ?_;rintro e w' ⟨u,rfl,hb,us,ls,h1,_,rfl⟩;obtain ⟨u1,us1,rfl,h2,_,rfl,rfl⟩:=h1;obtain rfl:u1=.bool true:=h2;exact ⟨rfl,hb⟩
end
end Go.Proofs.YtopjojkjaklalaaGreatDoor
