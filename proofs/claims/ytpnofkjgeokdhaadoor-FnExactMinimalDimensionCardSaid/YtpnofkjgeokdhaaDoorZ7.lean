/- Lemmas on the program and on partial functions that stand in place of its code (part 7); no condition beyond those that each one states. -/
import Derived.Test.YtpnofkjgeokdhaaDoorZ6
namespace Go.Proofs.YtpnofkjgeokdhaaDoor
section
def Cg (p a b:Int):Prop:=∃ q,a=b+p*q
section
variable {p a b c d:Int}
theorem Cg.rf:Cg p a a:=⟨0,by simp⟩
theorem Cg.of (h:a=b):Cg p a b:=h▸Cg.rf
theorem Cg.symm (h:Cg p a b):Cg p b a:=by obtain ⟨q,rfl⟩:=h; exact ⟨-q,by grind⟩
theorem Cg.trans (h1:Cg p a b) (h2:Cg p b c):Cg p a c:=by obtain ⟨q,rfl⟩:=h1; obtain ⟨r,rfl⟩:=h2; exact ⟨q+r,by grind⟩
theorem Cg.add (h1:Cg p a b) (h2:Cg p c d):Cg p (a+c) (b+d):=by obtain ⟨q,rfl⟩:=h1; obtain ⟨r,rfl⟩:=h2; exact ⟨q+r,by grind⟩
theorem Cg.sub (h1:Cg p a b) (h2:Cg p c d):Cg p (a - c) (b - d):=by obtain ⟨q,rfl⟩:=h1; obtain ⟨r,rfl⟩:=h2; exact ⟨q - r,by grind⟩
theorem Cg.mul (h1:Cg p a b) (h2:Cg p c d):Cg p (a*c) (b*d):=by obtain ⟨q,rfl⟩:=h1; obtain ⟨r,rfl⟩:=h2; exact ⟨q*d+b*r+p*q*r,by grind⟩
theorem Cg.md:Cg p (a % p) a:=⟨-(a / p),by have:=Int.emod_add_mul_ediv a p; grind⟩
theorem Cg.to (h:Cg p a b):a % p=b % p:=by obtain ⟨q,rfl⟩:=h; rw [Int.add_mul_emod_self_left]
theorem Cg.fr (h:a % p=b % p):Cg p a b:=(Cg.md.symm.trans (Cg.of h)).trans Cg.md
theorem Cg.eq (h:Cg p a b) (h1:0<=a∧a<p) (h2:0<=b∧b<p):a=b:=by
 have:=h.to
 rwa [Int.emod_eq_of_lt h1.1 h1.2,Int.emod_eq_of_lt h2.1 h2.2] at this
end
def sm:Nat->(Nat->Int)->Int
 | 0,_=>0
 | k+1,f=>sm k f+f k
section
variable {p:Int} {f g:Nat->Int}
theorem Mt:∀ {k:Nat},(∀ i,i<k->Cg p (f i) (g i))->Cg p (sm k f) (sm k g)
 | 0,_=>Cg.rf
 | k+1,h=>(Mt fun i hi=>h i (by omega)).add (h k (by omega))
theorem I6:∀ {k:Nat},(∀ i,i<k->f i=g i)->sm k f=sm k g
 | 0,_=>rfl
 | k+1,h=>by unfold sm; rw [I6 fun i hi=>h i (by omega),h k (by omega)]
theorem Uk:∀ {k:Nat},sm k (fun i=>f i+g i)=sm k f+sm k g
 | 0=>rfl
 | k+1=>by unfold sm; rw [Uk]; dsimp only; omega
theorem Pt {a:Int}:∀ {k:Nat},sm k (fun i=>a*f i)=a*sm k f
 | 0=>by simp [sm]
 | k+1=>by unfold sm; rw [Pt]; grind
theorem Jp:∀ {k:Nat},(∀ i,i<k->f i=0)->sm k f=0
 | 0,_=>rfl
 | k+1,h=>by unfold sm; rw [Jp fun i hi=>h i (by omega),h k (by omega)]; rfl
theorem Pk {t:Nat}:∀ {k:Nat},t<k->(∀ i,i<k->i≠t->f i=0)->sm k f=f t
 | 0,h,_=>by omega
 | k+1,h,h0=>by
  unfold sm;by_cases e:t=k
  ·subst e;rw [Jp fun i hi=>h0 i (by omega) (by omega)]; omega
  ·rw [Pk (t:=t) (by omega) fun i hi=>h0 i (by omega),h0 k (by omega) (by omega)]; omega
end
def en (m:List (List Int)) (i j:Nat):Int:=(m.getD i []).getD j 0
inductive Cu (p:Int) (n:Nat) (m:List (List Int)):(Nat->Int)->Prop
 | zero {f:Nat->Int}:(∀ j,j<n->Cg p (f j) 0)->Cu p n m f
 | add {f g:Nat->Int} (i:Nat) (k:Int):i<m.length->Cu p n m g->(∀ j,j<n->Cg p (f j) (g j+k*en m i j))->Cu p n m f
section
variable {p:Int} {n:Nat} {m m':List (List Int)} {f g:Nat->Int}
theorem Cb {i:Nat} (h:i<m.length):Cu p n m (en m i):=.add i 1 h (.zero (f:=fun _=>0) fun _ _=>Cg.rf) fun _ _=>Cg.of (by omega)
theorem E9 (h:Cu p n m f) (hf:∀ j,j<n->Cg p (g j) (f j)):Cu p n m g:=by
 cases h with
 | zero h=>exact .zero fun j hj=>(hf j hj).trans (h j hj)
 | add i k hi h hs=>exact .add i k hi h fun j hj=>(hf j hj).trans (hs j hj)
theorem W0 (h:Cu p n m f) (hg:Cu p n m g):Cu p n m (fun j=>f j+g j):=by
 induction hg with
 | zero h0=>exact E9 h fun j hj=>(Cg.rf.add (h0 j hj)).trans (Cg.of (by omega))
 | add i k hi _ hs ih=>exact .add i k hi ih fun j hj=>(Cg.rf.add (hs j hj)).trans (Cg.of (by omega))
theorem Nd (a:Int) (h:Cu p n m f):Cu p n m (fun j=>a*f j):=by
 induction h with
 | zero h0=>exact .zero fun j hj=>(Cg.rf.mul (h0 j hj)).trans (Cg.of (by omega))
 | add i k hi _ hs ih=>exact .add i (a*k) hi ih fun j hj=>(Cg.rf.mul (hs j hj)).trans (Cg.of (by grind))
theorem Uh (h:∀ i,i<m.length->Cu p n m' (en m i)) (hf:Cu p n m f):Cu p n m' f:=by
 induction hf with
 | zero h0=>exact .zero h0
 | add i k hi _ hs ih=>exact E9 (W0 ih (Nd k (h i hi))) hs
theorem Amn {F:Nat->Nat->Int}:∀ {k:Nat},(∀ i,i<k->Cu p n m (F i))->Cu p n m (fun j=>sm k fun i=>F i j)
 | 0,_=>.zero fun _ _=>Cg.rf
 | k+1,h=>W0 (Amn fun i hi=>h i (by omega)) (h k (by omega))
structure Jl (c r:Nat) (m:List (List Int)) (pv:Nat->Nat):Prop where
 rl:r<=m.length
 lt:∀ i,i<r->pv i<c
 mono:∀ i k,i<k->k<r->pv i<pv k
 low:∀ i,i<r->∀ j,j<pv i->en m i j=0
 one:∀ i,i<r->en m i (pv i)=1
 zero:∀ i,i<r->∀ k,k≠i->en m k (pv i)=0
 tail:∀ i,r<=i->∀ j,j<c->en m i j=0
theorem Yy {i j:Nat} (h:m.length<=i):en m i j=0:=by
 unfold en;rw [gDg (l:=m),List.getElem?_eq_none h]; rfl
theorem Aqj {pv:Nat->Nat} (h:Jl n m.length m pv) (hs:Cu p n m f):∀ j,j<n->Cg p (f j) (sm m.length fun i=>f (pv i)*en m i j):=by
 induction hs with
 | zero h0 =>
  intro j hj;refine (h0 j hj).trans ?_;refine Cg.symm ((Mt (g:=fun _=>0) fun i hi=>?_).trans (Cg.of (Jp fun _ _=>rfl)));exact ((h0 _ (h.lt i hi)).mul Cg.rf).trans (Cg.of (by omega))
 | @add f g t k ht _ hs ih =>
  intro j hj;refine (hs j hj).trans (((ih j hj).add Cg.rf).trans ?_)
  have e:sm m.length (fun i=>(g (pv i)+k*en m t (pv i))*en m i j)=sm m.length (fun i=>g (pv i)*en m i j)+k*en m t j:=by
   rw [I6 (g:=fun i=>g (pv i)*en m i j+k*(en m t (pv i)*en m i j)) fun i _=>by grind,Uk (f:=fun i=>g (pv i)*en m i j),Pt (f:=fun i=>en m t (pv i)*en m i j),Pk (f:=fun i=>en m t (pv i)*en m i j) ht fun i hi hne=>by rw [h.zero i hi t (Ne.symm hne)]; omega,h.one t ht,Int.one_mul]
  rw [← e];exact (Mt fun i hi=>(hs _ (h.lt i hi)).mul Cg.rf).symm
theorem Anu {pv:Nat->Nat} (h:Jl n m.length m pv) (hs:Cu p n m f) {q:Nat} (hq:q<n) (h0:∀ j,j<q->Cg p (f j) 0) (h1:¬ Cg p (f q) 0):∃ i,i<m.length∧pv i=q:=by
 refine Classical.byContradiction fun hn=>h1 ?_
 refine (Aqj h hs q hq).trans ((Mt (g:=fun _=>0) fun i hi=>?_).trans (Cg.of (Jp fun _ _=>rfl)));rcases Nat.lt_trichotomy (pv i) q with hlt | he | hgt
 ·exact ((h0 _ hlt).mul Cg.rf).trans (Cg.of (by omega))
 ·exact (hn ⟨i,hi,he⟩).elim
 ·exact Cg.of (by rw [h.low i hi q hgt]; omega)
theorem Ate {u v:Nat->Nat} {k l:Nat} (hu:∀ i j,i<j->j<k->u i<u j) (hv:∀ i j,i<j->j<l->v i<v j) (h1:∀ i,i<k->∃ t,t<l∧v t=u i) (h2:∀ i,i<l->∃ t,t<k∧u t=v i) :
  ∀ i,i<k->i<l->u i=v i:=by
 intro i
 induction i using Nat.strongRecOn with
 | _ i ih =>
  intro hk hl;obtain ⟨t,ht,e⟩:=h1 i hk;obtain ⟨s,hs,e'⟩:=h2 i hl
  have a1:v i<=u i:=by
   rcases Nat.lt_trichotomy t i with hlt | he | hgt
   ·have:=ih t hlt (by omega) ht;have:=hu t i hlt hk;omega
   ·subst he; omega
   ·have:=hv i t hgt ht; omega
  have a2:u i<=v i:=by
   rcases Nat.lt_trichotomy s i with hlt | he | hgt
   ·have:=ih s hlt hs (by omega);have:=hv s i hlt hl;omega
   ·subst he; omega
   ·have:=hu i s hgt hs; omega
  omega
theorem Aht {u v:Nat->Nat} {k l:Nat} (hu:∀ i j,i<j->j<k->u i<u j) (hv:∀ i j,i<j->j<l->v i<v j) (h1:∀ i,i<k->∃ t,t<l∧v t=u i) (h2:∀ i,i<l->∃ t,t<k∧u t=v i):l<=k:=by
 refine Nat.le_of_not_lt fun hlt=>?_
 obtain ⟨t,ht,e⟩:=h2 k hlt;have:=Ate hu hv h1 h2 t ht (by omega);have:=hv t k ht hlt;omega
theorem Arq (hp:2<=p):¬ Cg p 1 0:=fun h=>by
 have:=h.eq ⟨by omega,by omega⟩ ⟨by omega,by omega⟩;omega
theorem Alh {i j:Nat} (hp:2<=p) (hm:MatW p n m):0<=en m i j∧en m i j<p:=by
 unfold en;by_cases h:i<m.length
 ·have hx:=hm _ (Fu h);generalize m.getD i []=x at hx;by_cases hj:j<x.length
  ·rw [Bq (gEg hj)]; exact hx.2 _ (List.getElem_mem hj)
  ·rw [gDg,List.getElem?_eq_none (by omega)]; exact ⟨by simp,by simp; omega⟩
 ·rw [gDg (l:=m),List.getElem?_eq_none (by omega)]; simp; omega
theorem As0 (hm:MatW p n m) (hm':MatW p n m') (hl:m.length=m'.length) (h:∀ i,i<m.length->∀ j,j<n->en m i j=en m' i j):m=m':=by
 refine List.ext_getElem hl fun i h1 h2=>?_
 have e1:=hm _ (List.getElem_mem h1);have e2:=hm' _ (List.getElem_mem h2);refine List.ext_getElem (e1.1.trans e2.1.symm) fun j k1 k2=>?_
 have:=h i h1 j (by have:=e1.1; omega);unfold en at this;rw [Bq (gEg h1),Bq (gEg h2),Bq (gEg k1),Bq (gEg k2)] at this;exact this
theorem Auk {pv pv':Nat->Nat} (hp:2<=p) (h:Jl n m.length m pv) (h':Jl n m'.length m' pv') (hm:MatW p n m) (hm':MatW p n m') (h1:∀ f,Cu p n m f->Cu p n m' f) (h2:∀ f,Cu p n m' f->Cu p n m f):m=m':=by
 have k1:∀ i,i<m.length->∃ t,t<m'.length∧pv' t=pv i:=fun i hi =>
  Anu h' (h1 _ (Cb hi)) (h.lt i hi) (fun j hj=>Cg.of (h.low i hi j hj)) (by rw [h.one i hi]; exact Arq hp)
 have k2:∀ i,i<m'.length->∃ t,t<m.length∧pv t=pv' i:=fun i hi =>
  Anu h (h2 _ (Cb hi)) (h'.lt i hi) (fun j hj=>Cg.of (h'.low i hi j hj)) (by rw [h'.one i hi]; exact Arq hp)
 have hl:m.length=m'.length:=Nat.le_antisymm (Aht h'.mono h.mono k2 k1) (Aht h.mono h'.mono k1 k2);have hpv:=Ate h.mono h'.mono k1 k2;refine As0 hm hm' hl fun i hi j hj=>?_
 refine Cg.eq (Cg.symm ((Aqj h (h2 _ (Cb (i:=i) (by omega))) j hj).trans (Cg.of ?_))) (Alh hp hm) (Alh hp hm');rw [Pk hi fun t ht hne=>?_,hpv i hi (by omega),h'.one i (by omega)]
 ·omega
 ·rw [hpv t ht (by omega),h'.zero t (by omega) i (Ne.symm hne)]; omega
theorem A07 {r k i j:Nat} (hr:r<m.length) (hk:k<m.length):en (Mi m r k) i j=if i=k then en m r j else if i=r then en m k j else en m i j:=by
 unfold en Mi;by_cases h1:i=k
 ·subst h1;rw [if_pos rfl,gDg (l:=List.set _ _ _),List.getElem?_set_self (by rw [List.length_set]; exact hk)]; rfl
 ·rw [if_neg h1,gDg (l:=List.set _ _ _),List.getElem?_set_ne (Ne.symm h1)];by_cases h2:i=r
  ·subst h2;rw [if_pos rfl,List.getElem?_set_self hr]; rfl
  ·rw [if_neg h2,List.getElem?_set_ne (Ne.symm h2),← gDg]
theorem Atr {k:Int} {x:List Int} {j:Nat}:(Fg p k x).getD j 0=x.getD j 0*k % p:=by
 unfold Fg;rw [gDg,List.getElem?_map,gDg];cases x[j]? with
 | none=>simp
 | some a=>rfl
theorem Akl {k:Int} {x v:List Int} {j:Nat} (h:x.length=v.length):(Cw p k x v).getD j 0=(x.getD j 0 - k*v.getD j 0) % p:=by
 unfold Cw;rw [gDg,List.getElem?_zipWith,gDg,gDg];by_cases hj:j<x.length
 ·rw [gEg hj,gEg (show j<v.length by omega)]; rfl
 ·rw [List.getElem?_eq_none (show x.length<=j by omega),List.getElem?_eq_none (show v.length<=j by omega)]; simp
theorem A05 {c r i j:Nat} {pr:List Int} (hm:MatW p n m) (hpr:pr.length=n) (hi:i<m.length):en (Iu p c r pr m) i j=if i=r then pr.getD j 0 else (en m i j - en m i c*pr.getD j 0) % p:=by
 have hx:=hm _ (List.getElem_mem hi);unfold en Iu;rw [gDg (l:=List.mapIdx _ _),List.getElem?_mapIdx,gEg hi,Bq (gEg hi)];show (if i=r then pr else Cw p (m[i].getD c 0) m[i] pr).getD j 0=_;split
 ·rfl
 ·rw [Akl (by rw [hx.1,hpr])]
def X5 (p:Int):Prop:=∀ a,1<=a->a<p->a*Pd p a % p=1
theorem Ayw {c:Nat} {s:Nat×List (List Int)} {pv:Nat->Nat} (hp:2<=p) (hI:X5 p) (hm:MatW p n s.2) (h:Jl c s.1 s.2 pv) :
  (∃ pv',Jl (c+1) (gjS p c s).1 (gjS p c s).2 pv')∧(∀ f,Cu p n (gjS p c s).2 f↔Cu p n s.2 f):=by
 obtain ⟨r,m⟩:=s;dsimp only at hm h;unfold gjS;dsimp only;by_cases h1:r<m.length
 ·rw [if_pos h1];by_cases h2:Ef m c r=m.length
  ·rw [if_pos h2];refine ⟨⟨pv,h.rl,fun i hi=>Nat.lt_succ_of_lt (h.lt i hi),h.mono,h.low,h.one,h.zero,fun i hi j hj=>?_⟩,fun f=>Iff.rfl⟩;dsimp only at hi ⊢;by_cases hjc:j<c
   ·exact h.tail i hi j hjc
   ·obtain rfl:j=c:=by omega
    by_cases hil:i<m.length
    ·exact Ag7 hi (by omega) h.rl
    ·exact Yy (by omega)
  ·rw [if_neg h2];have hk1:=V3 (c:=c) h.rl;have hk2:=A0p m c r;have hnz:=Ago h2 h.rl;have hkl:Ef m c r<m.length:=by omega
   have hx:=hm _ (Fu hkl);have ha:en m (Ef m c r) c≠0:=hnz;generalize hk:Ef m c r=k at *;have hab:=Alh (i:=k) (j:=c) hp hm;have hinv:=hI (en m k c) (by omega) hab.2;generalize hv:Pd p (en m k c)=v at hinv
   have hpr:∀ j,(prV p c (m.getD k [])).getD j 0=en m k j*v % p:=fun j=>by
    unfold prV;rw [Atr];show _*Pd p (en m k c) % p=_;rw [hv]; rfl
   have hprl:(prV p c (m.getD k [])).length=n:=(Wa hp hx.1).1;generalize prV p c (m.getD k [])=pr at *;have hW:=Aes hm h1 hkl;have hWl:=T8 m r k;have hWe:∀ i j,en (Mi m r k) i j=if i=k then en m r j else if i=r then en m k j else en m i j:=fun i j=>A07 h1 hkl
   generalize Mi m r k=W at *
   have hE:∀ i j,i<m.length->en (Iu p c r pr W) i j=if i=r then en m k j*v % p else (en W i j - en W i c*(en m k j*v % p)) % p:=fun i j hi=>by
    rw [A05 hW hprl (by omega),hpr]
   have hEl:=Qu p c r pr W
   have h0:∀ i j,i<m.length->i≠r->en m k j=0->en (Iu p c r pr W) i j=en W i j:=fun i j hi hne h0=>by
    have hb:=Alh (i:=i) (j:=j) hp hW;rw [hE i j hi,if_neg hne,h0,Int.zero_mul,Int.zero_emod,Int.mul_zero,Int.sub_zero,Int.emod_eq_of_lt hb.1 hb.2]
   have hkj:∀ j,j<c->en m k j=0:=fun j hj=>h.tail k (by omega) j hj
   have hkp:∀ i,i<r->en m k (pv i)=0:=fun i hi=>h.zero i hi k (by omega)
   have hcc:en m k c*v % p=1:=hinv
   have hsp:∀ i j,i<m.length->i≠r->Cg p (en (Iu p c r pr W) i j) (en W i j+ -en W i c*en (Iu p c r pr W) r j):=fun i j hi hne=>by
    rw [hE i j hi,if_neg hne,hE r j h1,if_pos rfl];exact Cg.md.trans (Cg.of (by grind))
   have hWr:∀ j,Cg p (en W r j) (en m k c*en (Iu p c r pr W) r j):=fun j=>by
    have e:en W r j=en m k j:=by
     rw [hWe];by_cases e:r=k
     ·rw [if_pos e,e]
     ·rw [if_neg e,if_pos rfl]
    rw [e,hE r j h1,if_pos rfl];obtain ⟨q,hq⟩:=Cg.fr (p:=p) (a:=en m k c*v) (b:=1) (by rw [hcc]; exact (Int.emod_eq_of_lt (by omega) (by omega)).symm);refine Cg.trans ⟨-q*en m k j,?_⟩ (Cg.rf.mul Cg.md.symm)
    grind
   refine ⟨⟨fun i=>if i=r then c else pv i,?_,?_,?_,?_,?_,?_,?_⟩,fun f=>⟨Uh fun i hi=>?_,Uh fun i hi=>?_⟩⟩
   ·show r+1<=(Iu p c r pr W).length;omega
   ·intro i hi
    try dsimp only
    split
    ·omega
    ·have:=h.lt i (by omega); omega
   ·intro i l hil hl
    try dsimp only
    rw [if_neg (by omega:i≠r)];split
    ·exact h.lt i (by omega)
    ·exact h.mono i l hil (by omega)
   ·intro i hi j hj;dsimp only at hj ⊢;by_cases e:i=r
    ·subst e;rw [if_pos rfl] at hj;rw [hE i j h1,if_pos rfl,hkj j hj,Int.zero_mul,Int.zero_emod]
    ·rw [if_neg e] at hj;have:=h.lt i (by omega);rw [h0 i j (by omega) e (hkj j (by omega)),hWe,if_neg (by omega),if_neg e];exact h.low i (by omega) j hj
   ·intro i hi;dsimp only;by_cases e:i=r
    ·subst e;rw [if_pos rfl,hE i c h1,if_pos rfl,hcc]
    ·rw [if_neg e,h0 i (pv i) (by omega) e (hkp i (by omega)),hWe,if_neg (by omega),if_neg e];exact h.one i (by omega)
   ·intro i hi l hl;dsimp only;by_cases hll:l<m.length
    ·by_cases e:i=r
     ·subst e;rw [if_pos rfl,hE l c hll,if_neg hl,hcc,Int.mul_one,Int.sub_self,Int.zero_emod]
     ·rw [if_neg e];by_cases e2:l=r
      ·subst e2;rw [hE l (pv i) hll,if_pos rfl,hkp i (by omega),Int.zero_mul,Int.zero_emod]
      ·rw [h0 l (pv i) hll e2 (hkp i (by omega)),hWe];by_cases e3:l=k
       ·rw [if_pos e3]; exact h.zero i (by omega) r (by omega)
       ·rw [if_neg e3,if_neg e2]; exact h.zero i (by omega) l hl
    ·exact Yy (by omega)
   ·intro i hi j hj;dsimp only at hi ⊢;by_cases hil:i<m.length
    ·by_cases e:j=c
     ·subst e;rw [hE i j hil,if_neg (by omega),hcc,Int.mul_one,Int.sub_self,Int.zero_emod]
     ·rw [h0 i j hil (by omega) (hkj j (by omega)),hWe];by_cases e3:i=k
      ·rw [if_pos e3]; exact h.tail r (Nat.le_refl r) j (by omega)
      ·rw [if_neg e3,if_neg (by omega)]; exact h.tail i (by omega) j (by omega)
    ·exact Yy (by omega)
   ·have hi:i<m.length:=by dsimp only at hi; omega
    have hrow:∀ t,t<m.length->Cu p n m (en W t):=fun t ht=>by
     by_cases e1:t=k
     ·exact E9 (Cb h1) fun j hj=>Cg.of (by rw [hWe,if_pos e1])
     ·by_cases e2:t=r
      ·exact E9 (Cb hkl) fun j hj=>Cg.of (by rw [hWe,if_neg e1,if_pos e2])
      ·exact E9 (Cb ht) fun j hj=>Cg.of (by rw [hWe,if_neg e1,if_neg e2])
    have hr':Cu p n m (en (Iu p c r pr W) r):=E9 (Nd v (Cb hkl)) fun j hj=>by
     rw [hE r j h1,if_pos rfl];exact Cg.md.trans (Cg.of (by grind))
    by_cases e:i=r
    ·subst e; exact hr'
    ·exact E9 (W0 (hrow i hi) (Nd (-en W i c) hr')) fun j hj=>hsp i j hi e
   ·have hE':∀ t,t<m.length->Cu p n (Iu p c r pr W) (en W t):=fun t ht=>by
     by_cases e:t=r
     ·subst e;exact E9 (Nd (en m k c) (Cb (i:=t) (by omega))) fun j hj=>hWr j
     ·refine E9 (W0 (Cb (i:=t) (by omega)) (Nd (en W t c) (Cb (i:=r) (by omega)))) fun j hj=>?_
      exact Cg.symm (((hsp t j ht e).add Cg.rf).trans (Cg.of (by grind)))
    by_cases e1:i=r
    ·subst e1;exact E9 (hE' k hkl) fun j hj=>Cg.of (by rw [hWe,if_pos rfl])
    ·by_cases e2:i=k
     ·subst e2;exact E9 (hE' r h1) fun j hj=>Cg.of (by rw [hWe,if_neg (by omega),if_pos rfl])
     ·exact E9 (hE' i hi) fun j hj=>Cg.of (by rw [hWe,if_neg e2,if_neg e1])
 ·rw [if_neg h1];have:=h.rl;refine ⟨⟨pv,h.rl,fun i hi=>Nat.lt_succ_of_lt (h.lt i hi),h.mono,h.low,h.one,h.zero,fun i hi j hj=>Yy (m:=m) (by dsimp only at hi; omega)⟩,fun f=>Iff.rfl⟩
theorem Ann {m:List (List Int)} (hp:2<=p) (hI:X5 p) (hm:MatW p n m):∀ c,(∃ pv,Jl c (gjT p m c).1 (gjT p m c).2 pv)∧∀ f,Cu p n (gjT p m c).2 f↔Cu p n m f
 | 0=>⟨⟨fun _=>0,Nat.zero_le _,by intro i hi; simp [gjT] at hi,by intro i k _ hk; simp [gjT] at hk,by intro i hi; simp [gjT] at hi,by intro i hi; simp [gjT] at hi,by intro i hi; simp [gjT] at hi,fun _ _ j hj=>by omega⟩,fun _=>Iff.rfl⟩
 | c+1=>by
  obtain ⟨⟨pv,h1⟩,h2⟩:=Ann hp hI hm c;obtain ⟨h3,h4⟩:=Ayw hp hI (Rz hp hm c).1 h1;exact ⟨h3,fun f=>(h4 f).trans (h2 f)⟩
theorem Aaj {r i j:Nat} (h:i<r):en (m.take r) i j=en m i j:=by
 unfold en;rw [gDg (l:=m.take r),List.getElem?_take,if_pos h,← gDg]
theorem Ao3 {k:Nat} (hk:k<=n) (h:Cu p n m f):Cu p k m f:=by
 induction h with
 | zero h0=>exact .zero fun j hj=>h0 j (by omega)
 | add i k hi _ hs ih=>exact .add i k hi ih fun j hj=>hs j (by omega)
theorem Aw1 {c:Nat} (hp:2<=p) (hI:X5 p) (hm:MatW p n m) (hc:c<=n):(∃ pv,Jl c (gj p c m).length (gj p c m) pv)∧∀ f,Cu p c (gj p c m) f↔Cu p c m f:=by
 obtain ⟨⟨pv,h⟩,h2⟩:=Ann hp hI hm c;have hl:=Axy (n:=c) hp hm;have hrl:=h.rl;refine ⟨⟨pv,Nat.le_refl _,?_,?_,?_,?_,?_,?_⟩,fun f=>Iff.trans (b:=Cu p c (gjT p m c).2 f) ⟨Uh fun i hi=>?_,Uh fun i hi=>?_⟩ ⟨Uh fun i hi=>Ao3 hc ((h2 _).1 (Cb hi)),Uh fun i hi=>Ao3 hc ((h2 _).2 (Cb hi))⟩⟩
 ·rw [hl]; exact h.lt
 ·rw [hl]; exact h.mono
 ·rw [hl]; intro i hi j hj; unfold gj; rw [Aaj hi]; exact h.low i hi j hj
 ·rw [hl]; intro i hi; unfold gj; rw [Aaj hi]; exact h.one i hi
 ·rw [hl]; intro i hi k hk;by_cases hkl:k<(gjT p m c).1
  ·unfold gj; rw [Aaj hkl]; exact h.zero i hi k hk
  ·exact Yy (by omega)
 ·intro i hi j _; exact Yy hi
 ·rw [hl] at hi;exact E9 (Cb (i:=i) (by omega)) fun j hj=>Cg.of (by unfold gj; rw [Aaj hi])
 ·by_cases hir:i<(gjT p m c).1
  ·exact E9 (Cb (i:=i) (by omega)) fun j hj=>Cg.of (by unfold gj; rw [Aaj hir])
  ·exact .zero fun j hj=>Cg.of (h.tail i (by omega) j hj)
theorem Ua (hp:2<=p) (hI:X5 p) (hm:MatW p n m):(∃ pv,Jl n (gj p n m).length (gj p n m) pv)∧∀ f,Cu p n (gj p n m) f↔Cu p n m f:=Aw1 hp hI hm (Nat.le_refl n)
theorem Azk {pv:Nat->Nat} (hp:2<=p) (hI:X5 p) (hm:MatW p n m) (hm':MatW p n m') (h:Jl n m'.length m' pv) (hs:∀ f,Cu p n m f↔Cu p n m' f):gj p n m=m':=by
 obtain ⟨⟨pv',h1⟩,h2⟩:=Ua hp hI hm;exact Auk hp h1 h (Abm hp hm) hm' (fun f hf=>(hs f).1 ((h2 f).1 hf)) fun f hf=>(h2 f).2 ((hs f).2 hf)
theorem As8 (hp:2<=p) (hI:X5 p) (hm:MatW p n m) (hm':MatW p n m') (hs:∀ f,Cu p n m f↔Cu p n m' f):gj p n m=gj p n m':=by
 obtain ⟨⟨pv',h1⟩,h2⟩:=Ua hp hI hm';exact Azk hp hI hm (Abm hp hm') h1 fun f=>(hs f).trans (h2 f).symm
end
end
section
def Dm (x:List Int):Nat:=x.findIdx fun a=>a !=0
section
variable {p:Int} {n:Nat} {m m' B:List (List Int)} {o:List Int}
theorem Awm {c r i:Nat} {pv:Nat->Nat} (h:Jl c r m pv) (hm:MatW p n m) (hc:c<=n) (hi:i<r):Dm (m.getD i [])=pv i:=by
 have hl:=h.rl;have hx:=(hm _ (Fu (show i<m.length by omega))).1;have hlt:=h.lt i hi;have e:∀ (j:Nat) (hj:j<(m.getD i []).length),(m.getD i [])[j]=en m i j:=fun j hj=>(Bq (gEg hj)).symm
 unfold Dm;refine (List.findIdx_eq (show pv i<(m.getD i []).length by omega)).2 ⟨?_,fun j hj=>?_⟩
 ·rw [e,h.one i hi]; rfl
 ·rw [e,h.low i hi j hj]; rfl
theorem Azy {u:Nat->Nat} {k:Nat} (h:∀ i j,i<j->j<k->u i<u j) (hl:∀ i,i<k->u i<k):∀ i,i<k->u i=i:=by
 have h1:∀ i,i<k->i<=u i:=by
  intro i
  induction i with
  | zero=>intro _; omega
  | succ i ih=>intro hi; have:=ih (by omega); have:=h i (i+1) (by omega) hi; omega
 have h2:∀ d i,i+d<k->u i+d<=u (i+d):=by
  intro d
  induction d with
  | zero=>intro i _; exact Nat.le_refl _
  | succ d ih=>intro i hi; have:=ih i (by omega); have:=h (i+d) (i+(d+1)) (by omega) hi; omega
 intro i hi;have a:=h1 i hi;have b:=h2 (k - 1 - i) i (by omega);have c:=hl (i+(k - 1 - i)) (by omega);omega
def Q0 (o:List Int) (b:List Int):List Int:=o.map fun q=>b.getD q.toNat 0
theorem Aua {n':Nat} {f:Nat->Int} {σ:Nat->Nat} (hl:m'.length=m.length) (hσ:∀ j,j<n'->σ j<n) (he:∀ i,i<m.length->∀ j,j<n'->en m' i j=en m i (σ j)) (h:Cu p n m f):Cu p n' m' (fun j=>f (σ j)):=by
 induction h with
 | zero h0=>exact .zero fun j hj=>h0 _ (hσ j hj)
 | add i k hi _ hs ih=>exact .add i k (by omega) ih fun j hj=>(hs _ (hσ j hj)).trans (Cg.of (by rw [he i hi j hj]))
end
end
section
def G3 (p:Int) (n:Nat) (m:List (List Int)) (f:Nat->Int):Prop:=∀ i,i<m.length->Cg p (sm n fun j=>en m i j*f j) 0
section
variable {p:Int} {n:Nat} {m m':List (List Int)} {f g:Nat->Int}
theorem At9 (hf:G3 p n m f) (hs:Cu p n m g):Cg p (sm n fun j=>g j*f j) 0:=by
 induction hs with
 | zero h0=>exact (Mt (g:=fun _=>0) fun j hj=>((h0 j hj).mul Cg.rf).trans (Cg.of (by omega))).trans (Cg.of (Jp fun _ _=>rfl))
 | @add f' g' i k hi _ hs ih =>
  have e:sm n (fun j=>(g' j+k*en m i j)*f j)=sm n (fun j=>g' j*f j)+k*sm n (fun j=>en m i j*f j):=by
   rw [I6 (g:=fun j=>g' j*f j+k*(en m i j*f j)) fun j _=>by grind,Uk (f:=fun j=>g' j*f j),Pt (f:=fun j=>en m i j*f j)]
  refine (Mt fun j hj=>(hs j hj).mul Cg.rf).trans ((Cg.of e).trans ?_);exact (ih.add (Cg.rf.mul (hf i hi))).trans (Cg.of (by omega))
theorem Aen (h:∀ i,i<m'.length->Cu p n m (en m' i)) (hf:G3 p n m f):G3 p n m' f:=fun i hi=>At9 hf (h i hi)
theorem Av1 (hf:G3 p n m f) (hg:G3 p n m g):G3 p n m (fun j=>f j+g j):=fun i hi=>by
 refine (Cg.of ?_).trans (((hf i hi).add (hg i hi)).trans (Cg.of (by omega)));rw [I6 (g:=fun j=>en m i j*f j+en m i j*g j) fun j _=>by grind,Uk]
theorem Avk (a:Int) (hf:G3 p n m f):G3 p n m (fun j=>a*f j):=fun i hi=>by
 refine (Cg.of ?_).trans ((Cg.rf.mul (hf i hi)).trans (Cg.of (show a*0=0 by omega)));rw [I6 (g:=fun j=>a*(en m i j*f j)) fun j _=>by grind,Pt]
theorem Azz (hf:G3 p n m f) (h:∀ j,j<n->Cg p (g j) (f j)):G3 p n m g:=fun i hi=>(Mt fun j hj=>Cg.rf.mul (h j hj)).trans (hf i hi)
theorem Aku (h:∀ i,i<m'.length->G3 p n m (en m' i)) (hs:Cu p n m' f):G3 p n m f:=by
 induction hs with
 | zero h0=>exact fun i hi=>(Mt (g:=fun _=>0) fun j hj=>(Cg.rf.mul (h0 j hj)).trans (Cg.of (by omega))).trans (Cg.of (Jp fun _ _=>rfl))
 | add i k hi _ hs ih=>exact Azz (Av1 ih (Avk k (h i hi))) hs
def pvs (r:Nat) (pv:Nat->Nat) (j:Nat):Bool:=(List.range r).any fun i=>pv i==j
theorem Axs {r j:Nat} {pv:Nat->Nat} (h:pvs r pv j=true):∃ i,i<r∧pv i=j:=by
 obtain ⟨i,hi,he⟩:=List.any_eq_true.1 h;exact ⟨i,List.mem_range.1 hi,beq_iff_eq.1 he⟩
theorem Asa {r j i:Nat} {pv:Nat->Nat} (h:pvs r pv j=false) (hi:i<r):pv i≠j:=fun e=>by
 have:=List.any_eq_false.1 h i (List.mem_range.2 hi);exact this (beq_iff_eq.2 e)
structure A16 (p:Int) (n:Nat) (R:List (List Int)) (pv:Nat->Nat) (N:List (List Int)):Prop where
 ex:∀ j,j<n->pvs R.length pv j=false->∃ t,t<N.length∧Cg p (en N t j) 1∧(∀ i,i<R.length->Cg p (en N t (pv i)) (-en R i j))∧∀ q,q<n->q≠j->pvs R.length pv q=false->Cg p (en N t q) 0
 all:∀ t,t<N.length->∃ j,j<n∧pvs R.length pv j=false∧Cg p (en N t j) 1∧(∀ i,i<R.length->Cg p (en N t (pv i)) (-en R i j))∧∀ q,q<n->q≠j->pvs R.length pv q=false->Cg p (en N t q) 0
theorem Aup {R N:List (List Int)} {pv:Nat->Nat} (h:Jl n R.length R pv) (hN:A16 p n R pv N):Cu p n N f↔G3 p n R f:=by
 have hd:∀ i k,i<R.length->k<R.length->en R i (pv k)=if k=i then 1 else 0:=fun i k hi hk=>by
  by_cases e:k=i
  ·subst e; rw [if_pos rfl,h.one k hk]
  ·rw [if_neg e,h.zero k hk i (Ne.symm e)]
 have hpi:∀ i k,i<R.length->k<R.length->pv i=pv k->i=k:=fun i k hi hk e=>by
  rcases Nat.lt_trichotomy i k with h1 | h1 | h1
  ·have:=h.mono i k h1 hk; omega
  ·exact h1
  ·have:=h.mono k i h1 hi; omega
 constructor
 ·refine Aku fun t ht i hi=>?_
  obtain ⟨j,hj,hfr,h1,h2,h3⟩:=hN.all t ht;have hne:pv i≠j:=Asa hfr hi
  have e:Cg p (sm n fun q=>en R i q*en N t q) (sm n fun q=>(if q=j then en R i j else 0)+(if q=pv i then -en R i j else 0)):=by
   refine Mt fun q hq=>?_
   by_cases e1:q=j
   ·subst e1;rw [if_pos rfl,if_neg (Ne.symm hne)];exact (Cg.rf.mul h1).trans (Cg.of (by omega))
   ·rw [if_neg e1];by_cases e2:q=pv i
    ·subst e2;rw [if_pos rfl,h.one i hi];exact (Cg.rf.mul (h2 i hi)).trans (Cg.of (by omega))
    ·rw [if_neg e2];cases hf:pvs R.length pv q
     ·exact (Cg.rf.mul (h3 q hq e1 hf)).trans (Cg.of (by omega))
     ·obtain ⟨k,hk,rfl⟩:=Axs hf;rw [hd i k hi hk,if_neg fun e=>e2 (by rw [e])];exact Cg.of (by omega)
  refine e.trans (Cg.of ?_);rw [Uk,Pk hj fun q _ hq=>if_neg hq,Pk (h.lt i hi) fun q _ hq=>if_neg hq,if_pos rfl,if_pos rfl];omega
 ·intro hf
  have hrow:∀ j,∃ b:Nat->Int,Cu p n N b∧(j<n->pvs R.length pv j=false->Cg p (b j) 1∧(∀ i,i<R.length->Cg p (b (pv i)) (-en R i j))∧∀ q,q<n->q≠j->pvs R.length pv q=false->Cg p (b q) 0):=fun j=>by
   by_cases hj:j<n∧pvs R.length pv j=false
   ·obtain ⟨t,ht,h1⟩:=hN.ex j hj.1 hj.2;exact ⟨en N t,Cb ht,fun _ _=>h1⟩
   ·exact ⟨fun _=>0,.zero fun _ _=>Cg.rf,fun h1 h2=>(hj ⟨h1,h2⟩).elim⟩
  obtain ⟨b,hb⟩:∃ b:Nat->Nat->Int,∀ j,Cu p n N (b j)∧(j<n->pvs R.length pv j=false->Cg p (b j j) 1∧(∀ i,i<R.length->Cg p (b j (pv i)) (-en R i j))∧∀ q,q<n->q≠j->pvs R.length pv q=false->Cg p (b j q) 0) :=
   ⟨fun j=>Classical.choose (hrow j),fun j=>Classical.choose_spec (hrow j)⟩
  have hS:Cu p n N (fun q=>sm n fun j=>(if pvs R.length pv j then 0 else f j)*b j q):=Amn (F:=fun j q=>(if pvs R.length pv j then 0 else f j)*b j q) fun j _=>Nd _ (hb j).1
  refine E9 hS fun q hq=>Cg.symm ?_
  cases hf':pvs R.length pv q
  ·refine (Mt (g:=fun j=>if j=q then f q else 0) fun j hj=>?_).trans (Cg.of ?_)
   ·by_cases e:j=q
    ·subst e;rw [if_pos rfl,hf',if_neg (by decide)];exact (Cg.rf.mul ((hb j).2 hj hf').1).trans (Cg.of (by omega))
    ·rw [if_neg e];cases hfj:pvs R.length pv j
     ·exact (Cg.rf.mul (((hb j).2 hj hfj).2.2 q hq (Ne.symm e) hf')).trans (Cg.of (by omega))
     ·rw [if_pos rfl]; exact Cg.of (by omega)
   ·rw [Pk hq fun j _ hj=>if_neg hj,if_pos rfl]
  ·obtain ⟨i,hi,rfl⟩:=Axs hf';refine (Mt (g:=fun j=> -1*(en R i j*f j)+(if j=pv i then f j else 0)) fun j hj=>?_).trans ?_
   ·cases hfj:pvs R.length pv j
    ·have hne:j≠pv i:=fun e=>Asa hfj hi e.symm
     rw [if_neg (by decide),if_neg hne];exact (Cg.rf.mul (((hb j).2 hj hfj).2.1 i hi)).trans (Cg.of (by grind))
    ·obtain ⟨k,hk,rfl⟩:=Axs hfj;rw [if_pos rfl,hd i k hi hk];by_cases e:k=i
     ·subst e; rw [if_pos rfl,if_pos rfl]; exact Cg.of (by omega)
     ·rw [if_neg e,if_neg fun e'=>e (hpi k i hk hi e')]; exact Cg.of (by omega)
   ·rw [Uk (f:=fun j=> -1*(en R i j*f j)),Pt (f:=fun j=>en R i j*f j),Pk (f:=fun j=>if j=pv i then f j else 0) hq fun j _ hj=>if_neg hj,if_pos rfl];exact ((Cg.rf.mul (hf i hi)).add Cg.rf).trans (Cg.of (by omega))
theorem Arj {c r w:Nat} {pv:Nat->Nat} (h:Jl c r m pv) (hc:c<=w) (hs:Cu p w m f):∃ g,Cu p w (m.drop r) g∧∀ j,j<w->Cg p (f j) ((sm r fun i=>f (pv i)*en m i j)+g j):=by
 have hd:∀ t j,en (m.drop r) t j=en m (r+t) j:=fun t j=>by
  unfold en;rw [gDg (l:=m.drop r),List.getElem?_drop,← gDg]
 induction hs with
 | zero h0 =>
  refine ⟨fun _=>0,.zero fun _ _=>Cg.rf,fun j hj=>(h0 j hj).trans (Cg.symm ?_)⟩;refine (((Mt (g:=fun _=>0) fun i hi=>?_).trans (Cg.of (Jp fun _ _=>rfl))).add Cg.rf).trans (Cg.of (by dsimp only; omega));exact ((h0 _ (by have:=h.lt i hi; omega)).mul Cg.rf).trans (Cg.of (by omega))
 | @add f' g' t k ht _ hs ih =>
  obtain ⟨q,hq,he⟩:=ih;have hpw:∀ i,i<r->pv i<w:=fun i hi=>by have:=h.lt i hi; omega
  have e1:∀ j,Cg p (sm r fun i=>f' (pv i)*en m i j) ((sm r fun i=>g' (pv i)*en m i j)+k*sm r fun i=>en m t (pv i)*en m i j):=fun j=>by
   refine (Mt fun i hi=>(hs _ (hpw i hi)).mul Cg.rf).trans (Cg.of ?_);rw [I6 (g:=fun i=>g' (pv i)*en m i j+k*(en m t (pv i)*en m i j)) fun i _=>by grind,Uk (f:=fun i=>g' (pv i)*en m i j),Pt (f:=fun i=>en m t (pv i)*en m i j)]
  by_cases htr:t<r
  ·refine ⟨q,hq,fun j hj=>(hs j hj).trans (((he j hj).add Cg.rf).trans (Cg.symm (((e1 j).add Cg.rf).trans (Cg.of ?_))))⟩;rw [Pk (f:=fun i=>en m t (pv i)*en m i j) htr fun i hi hne=>by rw [h.zero i hi t (Ne.symm hne)]; omega,h.one t htr,Int.one_mul];omega
  ·refine ⟨fun j=>q j+k*en m t j,?_,fun j hj=>(hs j hj).trans (((he j hj).add Cg.rf).trans (Cg.symm (((e1 j).add Cg.rf).trans (Cg.of ?_))))⟩
   ·refine E9 (W0 hq (Nd k (Cb (i:=t - r) (by rw [List.length_drop]; omega)))) fun j _=>Cg.of ?_
    rw [hd,show r+(t - r)=t by omega]
   ·rw [Jp (f:=fun i=>en m t (pv i)*en m i j) fun i hi=>by rw [h.zero i hi t (by omega)]; omega];dsimp only;omega
theorem Auo {R:Nat} {A W:List (List Int)} (hp:2<=p) (hI:X5 p) (hW:MatW p (R+n) W) (hl:W.length=n) (hA:A.length=R) (h1:∀ t,t<n->∀ i,i<R->en W t i=en A i t) (h2:∀ t,t<n->∀ j,j<n->en W t (R+j)=if j=t then 1 else 0) :
  Cu p n (((gjT p W R).2.drop (gjT p W R).1).map (·.drop R)) f↔G3 p n A f:=by
 obtain ⟨⟨pv,hv⟩,hs⟩:=Ann hp hI hW R
 have hlin:∀ g,Cu p (R+n) W g->∀ i,i<R->Cg p (g i) (sm n fun t=>en A i t*g (R+t)):=fun g hg=>by
  induction hg with
  | zero h0 =>
   intro i hi;refine (h0 i (by omega)).trans (Cg.symm ((Mt (g:=fun _=>0) fun t ht=>?_).trans (Cg.of (Jp fun _ _=>rfl))));exact (Cg.rf.mul (h0 _ (by omega))).trans (Cg.of (by omega))
  | @add f' g' t k ht _ hs ih =>
   intro i hi;refine (hs i (by omega)).trans (((ih i hi).add Cg.rf).trans (Cg.symm ?_));refine (Mt fun u hu=>Cg.rf.mul (hs (R+u) (by omega))).trans (Cg.of ?_)
   rw [I6 (g:=fun u=>en A i u*g' (R+u)+k*(en A i u*en W t (R+u))) fun u _=>by grind,Uk (f:=fun u=>en A i u*g' (R+u)),Pt (f:=fun u=>en A i u*en W t (R+u)),
    Pk (f:=fun u=>en A i u*en W t (R+u)) (t:=t) (by omega) fun u hu hne=>by rw [h2 t (by omega) u hu,if_neg hne]; omega,h2 t (by omega) t (by omega),if_pos rfl,h1 t (by omega) i hi,Int.mul_one]
 have hen:∀ t j,t<((gjT p W R).2.drop (gjT p W R).1).length->en (((gjT p W R).2.drop (gjT p W R).1).map (·.drop R)) t j=en (gjT p W R).2 ((gjT p W R).1+t) (R+j):=fun t j ht=>by
  unfold en
  have e1:(((gjT p W R).2.drop (gjT p W R).1).map (·.drop R)).getD t []=((gjT p W R).2.getD ((gjT p W R).1+t) []).drop R:=by
   rw [gDg,List.getElem?_map,List.getElem?_drop,gDg];cases (gjT p W R).2[(gjT p W R).1+t]? with
   | none=>exact (List.drop_nil).symm
   | some x=>rfl
  rw [e1,gDg,List.getElem?_drop,← gDg]
 generalize gjT p W R=G at *;obtain ⟨r,M⟩:=G;dsimp only at *;constructor
 ·refine Aku fun t ht i hi=>?_
  have ht':t<(M.drop r).length:=by simpa using ht
  have h3:=hlin _ ((hs _).1 (Cb (i:=r+t) (by rw [List.length_drop] at ht'; omega))) i (by omega);rw [hv.tail (r+t) (by omega) i (by omega)] at h3;refine Cg.trans (Cg.of (I6 fun j hj=>?_)) h3.symm;rw [hen t j ht']
 ·intro hf;have hg:Cu p (R+n) W (fun q=>sm n fun t=>f t*en W t q):=Amn (F:=fun t q=>f t*en W t q) fun t ht=>Nd _ (Cb (by omega))
  have hq1:∀ i,i<R->Cg p (sm n fun t=>f t*en W t i) 0:=fun i hi=>by
   refine Cg.trans (Cg.of (I6 fun t ht=>?_)) (hf i (by omega));rw [h1 t ht i hi]; exact Int.mul_comm _ _
  have hq2:∀ j,j<n->(sm n fun t=>f t*en W t (R+j))=f j:=fun j hj=>by
   rw [Pk (f:=fun t=>f t*en W t (R+j)) hj fun t ht hne=>by rw [h2 t ht j hj,if_neg (Ne.symm hne)]; omega,h2 j hj j hj,if_pos rfl,Int.mul_one]
  obtain ⟨g,hgs,hge⟩:=Arj hv (Nat.le_add_right R n) ((hs _).2 hg)
  have hG:Cu p (R+n) (M.drop r) (fun q=>sm n fun t=>f t*en W t q):=by
   refine E9 hgs fun q hq=>(hge q hq).trans ?_
   refine ((Mt (g:=fun _=>0) fun i hi=>?_).add Cg.rf).trans (Cg.of ?_)
   ·exact ((hq1 _ (hv.lt i hi)).mul Cg.rf).trans (Cg.of (by omega))
   ·rw [Jp fun _ _=>rfl]; omega
  have hC:=Aua (m':=(M.drop r).map (·.drop R)) (n':=n) (σ:=fun j=>R+j) (List.length_map ..) (fun j hj=>by omega) (fun t ht j hj=>by
   rw [hen t j ht];unfold en;rw [gDg (l:=M.drop r),List.getElem?_drop,← gDg]) hG
  exact E9 hC fun j hj=>Cg.of (hq2 j hj).symm
end
def lv (R:List (List Int)) (i:Nat):Nat:=Dm (R.getD i [])
section
variable {p:Int} {n:Nat} {R:List (List Int)}
theorem Acc {pv:Nat->Nat} (h:Jl n R.length R pv) {w:Nat} (hm:MatW p w R) (hw:n<=w):Jl n R.length R (lv R):=by
 have e:∀ i,i<R.length->lv R i=pv i:=fun i hi=>Awm h hm hw hi
 refine ⟨Nat.le_refl _,fun i hi=>?_,fun i k hik hk=>?_,fun i hi j hj=>?_,fun i hi=>?_,fun i hi k hk=>?_,fun i hi j _=>Yy hi⟩
 ·rw [e i hi]; exact h.lt i hi
 ·rw [e i (by omega),e k hk]; exact h.mono i k hik hk
 ·rw [e i hi] at hj; exact h.low i hi j hj
 ·rw [e i hi]; exact h.one i hi
 ·rw [e i hi]; exact h.zero i hi k hk
end
end
section
section
variable {p:Int} {n:Nat} {m E R F:List (List Int)} {f g u v:Nat->Int}
theorem Alo {F:Nat->Nat->Int} {b:Nat}:∀ {a:Nat},sm a (fun i=>sm b fun j=>F i j)=sm b fun j=>sm a fun i=>F i j
 | 0=>(Jp fun _ _=>rfl).symm
 | a+1=>by
  show sm a _+sm b _=_;rw [Alo,← Uk]; rfl
def Gd (p:Int) (R:List (List Int)) (x:List Int):Nat->List Int
 | 0=>x
 | i+1=>Cw p ((Gd p R x i).getD (lv R i) 0) (Gd p R x i) (R.getD i [])
theorem L9 {x:List Int} (hp:2<=p) (hR:MatW p n R) (hx:VecW p n x):∀ i,i<=R.length->VecW p n (Gd p R x i)
 | 0,_=>hx
 | i+1,hi=>App hp (L9 hp hR hx i (by omega)).1 (hR _ (Fu (by omega))).1
theorem Awb {x:List Int} (hp:2<=p) (hR:MatW p n R) (hx:VecW p n x) (h:Jl n R.length R (lv R)):∀ i,i<=R.length->∀ j,j<n->Cg p ((Gd p R x i).getD j 0) (x.getD j 0 - sm i fun t=>x.getD (lv R t) 0*en R t j)
 | 0,_,j,_=>Cg.of (by show _=_ - 0; rw [Int.sub_zero]; rfl)
 | i+1,hi,j,hj=>by
  have ih:=Awb hp hR hx h i (by omega)
  have hk:Cg p ((Gd p R x i).getD (lv R i) 0) (x.getD (lv R i) 0):=by
   refine (ih _ (h.lt i (by omega))).trans (Cg.of ?_);rw [Jp fun t ht=>by rw [h.zero i (by omega) t (by omega)]; omega];omega
  show Cg p ((Cw p _ _ _).getD j 0) _;rw [Akl (by rw [(L9 hp hR hx i (by omega)).1,(hR _ (Fu (show i<R.length by omega))).1])];refine Cg.md.trans (((ih j hj).sub (hk.mul Cg.rf)).trans (Cg.of ?_));show _=x.getD j 0 - (sm i _+x.getD (lv R i) 0*en R i j);unfold en;omega
-- the equations from behind
end
end
section
open Go.RowKit
theorem Afo {p:Int} (hp:isF p=true):X5 p:=fun _ h1 h2=>(Aqx hp ⟨h1,h2⟩).2.2.2.2
theorem Abr {p:Int} {w:Nat} {m:List (List Int)} (hp:isF p=true) (hm:MatW p w m) (hw:w<=100000) (hl:m.length<=100000):Fm p m (w:Int)=some (gj p w m):=by
 have hb:=Ep hp;obtain ⟨k1,h2,h3⟩:=Rz hb.1 hm w
 have e1:∀ {m:List (List Int)},MatW p w m->rdW w m=m:=fun {m} hm=>by
  unfold rdW;exact (List.map_congr_left (g:=id) (fun x hx=>List.take_of_length_le (Nat.le_of_eq (hm x hx).1))).trans (List.map_id _)
 have e2:alW w m=List.replicate m.length []:=by
  unfold alW;rw [List.eq_replicate_iff];refine ⟨List.length_map ..,fun b hb=>?_⟩;obtain ⟨x,hx,rfl⟩:=List.mem_map.1 hb;exact List.drop_of_length_le (Nat.le_of_eq (hm x hx).1)
 have e3:(alW w (gjT p m w).2).length=m.length:=by rw [← h3]; exact List.length_map ..
 have hR:=Acx hp hm (Nat.le_refl w) (Nat.le_refl w) hw hl;rw [e1 hm,e2] at hR;unfold Fm;rw [Sg hm hw hl,obs,Ak (by omega),hR,obs];rw [e1 k1];rw [Ak h3,Ak e3];exact Ak (by dsimp only; omega) _
end
section
section
variable {p:Int} {n:Nat} {m m' A B:List (List Int)} {f g:Nat->Int}
theorem Ask {u:Nat->Nat} {k:Nat} (h:∀ i j,i<j->j<k->u i<u j):∀ i,i<k->i<=u i:=by
 intro i
 induction i with
 | zero=>intro _; omega
 | succ i ih=>intro hi; have:=ih (by omega); have:=h i (i+1) (by omega) hi; omega
theorem Aob {P:Nat->Prop}:∀ {n:Nat},(∃ i,i<=n∧P i)->∃ k,k<=n∧P k∧∀ i,i<k->¬ P i
 | 0,⟨i,hi,h⟩=>⟨0,Nat.le_refl _,(show i=0 by omega)▸h,fun i hi=>by omega⟩
 | n+1,⟨i,hi,h⟩=>by
  by_cases hq:∃ i,i<=n∧P i
  ·obtain ⟨k,h1,h2,h3⟩:=Aob hq;exact ⟨k,by omega,h2,h3⟩
  ·refine ⟨n+1,Nat.le_refl _,?_,fun j hj h'=>hq ⟨j,by omega,h'⟩⟩;by_cases e:i=n+1
   ·exact e▸h
   ·exact (hq ⟨i,by omega,h⟩).elim
theorem Amh {pv:Nat->Nat} (h:Jl n m.length m pv):m.length<=n:=by
 refine Nat.le_of_not_lt fun hlt=>?_
 have h1:=Ask (fun i j a b=>h.mono i j a b) n hlt;have h2:=h.lt n hlt;omega
theorem Aw3 {pv pv':Nat->Nat} (hp:2<=p) (h:Jl n m.length m pv) (h':Jl n m'.length m' pv') (hm:MatW p n m) (hm':MatW p n m') (h1:∀ f,Cu p n m f->Cu p n m' f) :
  m.length<=m'.length∧(m.length=m'.length->m=m'):=by
 have hx:∀ i,∃ t,i<m.length->t<m'.length∧pv' t=pv i:=fun i=>by
  by_cases hi:i<m.length
  ·obtain ⟨t,ht,e⟩:=Anu h' (h1 _ (Cb hi)) (h.lt i hi) (fun j hj=>Cg.of (h.low i hi j hj)) (fun hc=>Arq hp (by rwa [h.one i hi] at hc));exact ⟨t,fun _=>⟨ht,e⟩⟩
  ·exact ⟨0,fun hh=>(hi hh).elim⟩
 let τ:Nat->Nat:=fun i=>Classical.choose (hx i)
 have hτ:∀ i,i<m.length->τ i<m'.length∧pv' (τ i)=pv i:=fun i=>Classical.choose_spec (hx i)
 have hmono:∀ i j,i<j->j<m.length->τ i<τ j:=fun i j hij hj=>by
  obtain ⟨a1,a2⟩:=hτ i (by omega);obtain ⟨b1,b2⟩:=hτ j hj;have:=h.mono i j hij hj;refine Nat.lt_of_not_le fun hle=>?_
  rcases Nat.lt_or_eq_of_le hle with hlt | he
  ·have:=h'.mono _ _ hlt a1; omega
  ·rw [he] at b2; omega
 refine ⟨?_,fun e=>?_⟩
 ·refine Nat.le_of_not_lt fun hlt=>?_
  have h2:=Ask hmono m'.length hlt;have h3:=(hτ m'.length hlt).1;omega
 ·have hid:=Azy hmono (fun i hi=>by have:=(hτ i hi).1; omega);have hpv:∀ i,i<m.length->pv' i=pv i:=fun i hi=>by have:=(hτ i hi).2; rwa [hid i hi] at this
  refine As0 hm hm' e fun i hi j hj=>?_
  refine Cg.eq ((Aqj h' (h1 _ (Cb hi)) j hj).trans (Cg.of ?_)) (Alh hp hm) (Alh hp hm');rw [Pk (t:=i) (by omega) fun t ht hne=>by rw [hpv t (by omega),h.zero t (by omega) i (Ne.symm hne)]; omega,hpv i hi,h.one i hi,Int.one_mul]
theorem Aha {i j:Nat}:en (m++m') i j=if i<m.length then en m i j else en m' (i - m.length) j:=by
 unfold en;by_cases h:i<m.length
 ·rw [if_pos h,gDg (l:=m++m'),List.getElem?_append_left h,← gDg]
 ·rw [if_neg h,gDg (l:=m++m'),List.getElem?_append_right (by omega),← gDg]
theorem Auv (h:Cu p n m f):Cu p n (m++m') f:=Uh (fun i hi=>E9 (Cb (i:=i) (by simp; omega)) fun j _=>Cg.of (by rw [Aha,if_pos hi])) h
theorem Aed (h:MatW p n m) (h':MatW p n m'):MatW p n (m++m'):=fun x hx=>(List.mem_append.1 hx).elim (h x) (h' x)
def Aea (n:Nat) (A:List (List Int)) (f:Nat->Int) (j:Nat):Int:=sm n fun i=>f i*en A i j
structure Az7 (p:Int) (n:Nat) (A R P:List (List Int)):Prop where
 mat:MatW p n P
 len:P.length=R.length
 row:∀ i,i<R.length->∀ j,j<n->Cg p (en P i j) (Aea n A (en R i) j)
def chn (p:Int) (n:Nat) (G:List (List Int)->List (List Int)) (B:List (List Int)):Nat->List (List Int)
 | 0=>gj p n B
 | k+1=>gj p n (chn p n G B k++G (chn p n G B k))
theorem Apm {m:List (List Int)} (hp:2<=p) (hI:X5 p) (hm:MatW p n m):MatW p n (gj p n m)∧Jl n (gj p n m).length (gj p n m) (lv (gj p n m)):=by
 obtain ⟨⟨pv,hv⟩,_⟩:=Ua hp hI hm;exact ⟨Abm hp hm,Acc hv (Abm hp hm) (Nat.le_refl n)⟩
structure Ada (p:Int) (n:Nat) (A:List (List Int)) (G:List (List Int)->List (List Int)) (B:List (List Int)):Prop where
 hp:2<=p
 hI:X5 p
 hB:MatW p n B
 hG:∀ X,MatW p n X->X.length<=n->Az7 p n A X (G X)
variable {G:List (List Int)->List (List Int)}
theorem Jf (H:Ada p n A G B):∀ k,MatW p n (chn p n G B k)∧Jl n (chn p n G B k).length (chn p n G B k) (lv (chn p n G B k))∧(chn p n G B k).length<=n
 | 0=>⟨(Apm H.hp H.hI H.hB).1,(Apm H.hp H.hI H.hB).2,Amh (Apm H.hp H.hI H.hB).2⟩
 | k+1=>by
  obtain ⟨h1,h2,h3⟩:=Jf H k;have:=Apm H.hp H.hI (Aed h1 (H.hG _ h1 h3).mat);exact ⟨this.1,this.2,Amh this.2⟩
theorem Ar3 (H:Ada p n A G B) (k:Nat):Cu p n (chn p n G B (k+1)) f↔Cu p n (chn p n G B k++G (chn p n G B k)) f:=by
 obtain ⟨h1,h2,h3⟩:=Jf H k;exact (Ua H.hp H.hI (Aed h1 (H.hG _ h1 h3).mat)).2 f
theorem A04 (H:Ada p n A G B) {k:Nat} (h:Cu p n (chn p n G B k) f):Cu p n (chn p n G B (k+1)) f:=(Ar3 H k).2 (Auv h)
theorem Ar4 (H:Ada p n A G B) (k:Nat):(chn p n G B k).length<=(chn p n G B (k+1)).length∧((chn p n G B k).length=(chn p n G B (k+1)).length->chn p n G B k=chn p n G B (k+1)) :=
 Aw3 H.hp (Jf H k).2.1 (Jf H (k+1)).2.1 (Jf H k).1 (Jf H (k+1)).1 fun _=>A04 H
theorem As7 {k:Nat} (h:chn p n G B k=chn p n G B (k+1)):∀ d,chn p n G B (k+d)=chn p n G B k
 | 0=>rfl
 | d+1=>by
  have:=As7 h d;show gj p n (chn p n G B (k+d)++G (chn p n G B (k+d)))=_;rw [this]; exact h.symm
theorem Ae9 (H:Ada p n A G B):∀ k,(∀ i,i<k->(chn p n G B i).length≠(chn p n G B (i+1)).length)->k+(chn p n G B 0).length<=(chn p n G B k).length
 | 0,_=>by omega
 | k+1,h=>by
  have h1:=Ae9 H k fun i hi=>h i (by omega)
  have h2:=h k (by omega);have h3:=(Ar4 H k).1;omega
theorem Ao7 (H:Ada p n A G B):∃ k,k<=n∧(n≠0->k<n)∧(∀ i,i<k->(chn p n G B i).length≠(chn p n G B (i+1)).length)∧(chn p n G B k).length=(chn p n G B (k+1)).length∧∀ j,k<=j->chn p n G B j=chn p n G B k:=by
 have hex:∃ i,i<=n∧(chn p n G B i).length=(chn p n G B (i+1)).length:=by
  refine Classical.byContradiction fun hn=>?_
  have h1:=Ae9 H (n+1) fun i hi he=>hn ⟨i,by omega,he⟩
  have h2:=(Jf H (n+1)).2.2;omega
 obtain ⟨k,h1,h2,h3⟩:=Aob hex;refine ⟨k,h1,fun hn=>?_,h3,h2,fun j hj=>?_⟩
 ·by_cases h0:(chn p n G B 0).length=0
  ·refine Nat.lt_of_not_le fun hle=>h3 0 (by omega) ?_
   have e0:chn p n G B 0=[]:=List.eq_nil_of_length_eq_zero h0;have e1:chn p n G B 1=gj p n (chn p n G B 0++G (chn p n G B 0)):=rfl;have e2:G (chn p n G B 0)=[]:=List.eq_nil_of_length_eq_zero (by rw [(H.hG _ (Jf H 0).1 (by omega)).len,h0]);rw [show (0:Nat)+1=1 from rfl,e1,e2,e0]
   have h6:(gj p n ([]++[])).length<=0:=by
    have h4:MatW p n ([]:List (List Int)):=fun x hx=>(nomatch hx)
    have h5:=(Rz H.hp h4 n).2;rw [List.append_nil,Axy H.hp h4]; simp only [List.length_nil] at h5; omega
   show (0:Nat)=_;omega
  ·have:=Ae9 H k h3;have:=(Jf H k).2.2;omega
 ·have:=As7 ((Ar4 H k).2 h2) (j - k)
  rwa [show k+(j - k)=j by omega] at this
def pwF (n:Nat) (A:List (List Int)):Nat->(Nat->Int)->Nat->Int
 | 0,f=>f
 | k+1,f=>pwF n A k (Aea n A f)
theorem Awg:G3 p n (m++m') f↔G3 p n m f∧G3 p n m' f:=by
 constructor
 ·intro h;refine ⟨fun i hi=>?_,fun i hi=>?_⟩
  ·refine Cg.trans (Cg.of (I6 fun j _=>?_)) (h i (by simp; omega));rw [Aha,if_pos hi]
  ·refine Cg.trans (Cg.of (I6 fun j _=>?_)) (h (m.length+i) (by simp; omega));rw [Aha,if_neg (by omega),show m.length+i - m.length=i by omega]
 ·rintro ⟨h1,h2⟩ i hi;simp only [List.length_append] at hi;by_cases hl:i<m.length
  ·exact Cg.trans (Cg.of (I6 fun j _=>by rw [Aha,if_pos hl])) (h1 i hl)
  ·exact Cg.trans (Cg.of (I6 fun j _=>by rw [Aha,if_neg hl])) (h2 (i - m.length) (by omega))
theorem Aou (h:∀ f,Cu p n m f↔Cu p n m' f):G3 p n m f↔G3 p n m' f :=
 ⟨Aen fun i hi=>(h _).2 (Cb hi),Aen fun i hi=>(h _).1 (Cb hi)⟩
theorem At3 {R P A':List (List Int)} (h:Az7 p n A' R P) (ht:∀ i j,i<n->j<n->en A' i j=en A j i):G3 p n P f↔G3 p n R (Aea n A f):=by
 have key:∀ i,i<R.length->Cg p (sm n fun j=>en P i j*f j) (sm n fun j=>en R i j*Aea n A f j):=fun i hi=>by
  refine (Mt fun j hj=>(h.row i hi j hj).mul Cg.rf).trans (Cg.of ?_)
  have e1:(sm n fun j=>Aea n A' (en R i) j*f j)=sm n fun j=>sm n fun t=>en R i t*(f j*en A j t):=I6 fun j hj=>by
   unfold Aea;rw [Int.mul_comm,← Pt];exact I6 fun t ht'=>by rw [ht t j ht' hj]; grind
  have e2:(sm n fun t=>en R i t*Aea n A f t)=sm n fun t=>sm n fun j=>en R i t*(f j*en A j t):=I6 fun t _=>by
   unfold Aea;rw [← Pt]
  rw [e1,e2,Alo]
 exact ⟨fun hf i hi=>(key i hi).symm.trans (hf i (by rw [h.len]; exact hi)),fun hf i hi=>(key i (by rw [← h.len]; exact hi)).trans (hf i (by rw [← h.len]; exact hi))⟩
theorem Ail {A':List (List Int)} (H:Ada p n A' G B) (ht:∀ i j,i<n->j<n->en A' i j=en A j i):∀ k f,G3 p n (chn p n G B k) f↔∀ j,j<=k->G3 p n B (pwF n A j f)
 | 0,f=>(Aou fun f=>(Ua H.hp H.hI H.hB).2 f).trans ⟨fun h j hj=>(by rw [Nat.le_zero.1 hj]; exact h),fun h=>h 0 (Nat.le_refl _)⟩
 | k+1,f=>by
  have h1:=H.hG _ (Jf H k).1 (Jf H k).2.2;rw [Aou fun f=>Ar3 H k,Awg,At3 h1 ht,Ail H ht k f,Ail H ht k (Aea n A f)];constructor
  ·rintro ⟨a,b⟩ j hj;cases j with
   | zero=>exact a 0 (by omega)
   | succ j=>exact b j (by omega)
  ·exact fun h=>⟨fun j hj=>h j (by omega),fun j hj=>h (j+1) (by omega)⟩
theorem As5 {ou:Nat} {C:Nat->List (List Int)} (hC:∀ k i o,i<n->o<ou->Cg p (en (C (k+1)) i o) (sm n fun t=>en A i t*en (C k) t o)) :
  ∀ k f o,o<ou->Cg p (sm n fun i=>f i*en (C k) i o) (sm n fun i=>pwF n A k f i*en (C 0) i o)
 | 0,f,o,_=>Cg.rf
 | k+1,f,o,ho=>by
  refine Cg.trans ?_ (As5 hC k (Aea n A f) o ho);refine (Mt fun i hi=>Cg.rf.mul (hC k i o hi ho)).trans (Cg.of ?_)
  have e1:(sm n fun i=>f i*sm n fun t=>en A i t*en (C k) t o)=sm n fun i=>sm n fun t=>f i*en A i t*en (C k) t o:=I6 fun i _=>by
   rw [← Pt];exact I6 fun t _=>by grind
  have e2:(sm n fun t=>Aea n A f t*en (C k) t o)=sm n fun t=>sm n fun i=>f i*en A i t*en (C k) t o:=I6 fun t _=>by
   unfold Aea;rw [Int.mul_comm,← Pt];exact I6 fun i _=>by grind
  rw [e1,e2,Alo]
end
end
section
open Go.RowKit Go.Deep
def GN (G:World->Prop) (n:Nat) (w:World):Prop:=G w∧n<=w.heap.size
def AV.toR (R:Nat->Prop):AV->AV
 | .tree t xs=>.ftr R t xs
 | c=>c
def RL.toR (R:Nat->Prop):RL->RL
 | .frz c=>.frz (c.toR R)
 | .imm c=>.imm (c.toR R)
 | l=>l
def RV.toR (R:Nat->Prop) (r:RV):RV:=⟨r.tup,r.ps.map fun p=>(p.1,p.2.map (RL.toR R))⟩
section
variable {P:Program} {G:World->Prop} {f:FuncId} {args:List AV} {r:RV} {n:Nat} {R:Nat->Prop}
theorem E4 (h:A0 P G f args r):A0 P (GN G n) f args r:=fun w im vs hG hr=>h w im vs (fun w' hb=>(hG w' hb).1) hr
theorem L7 {ol us:List (Oid×Ob)} {v:AV} (h:Kd P G f args ol v us):Kd P (GN G n) f args ol v us:=by
 intro θ i w0 ob σ K w vs hM h1 h2 h3 h4 h5;refine (h θ i w0 ob σ K w vs ⟨hM.below,fun w' hb=>(hM.inv w' hb).1,hM.gen,hM.lt,hM.cap,hM.inj,hM.obs⟩ h1 h2 h3 h4 h5).mono ?_;rintro e w' ⟨u,rfl,σ',q1,q2,q3⟩;exact ⟨u,rfl,σ',q1,⟨q2.below,hM.inv,q2.gen,q2.lt,q2.cap,q2.inj,q2.obs⟩,q3⟩
theorem Ar9 {c:AV} (h:c.gndB=true):(c.toR R).gndB=true:=by
 cases c <;> first | exact h | rfl
theorem Asc {c:AV} {im im':Nat->Prop} {w:World} {u:Value} (hg:c.gndB=true) (h1:∀ b,im b->im' b) (h2:∀ b,im b->R b) (h:AV.Rep (fun _=>none) im w c u):AV.Rep (fun _=>none) im' w (c.toR R) u:=by
 cases c <;> first | exact P2 h1 _ hg _ h | skip
 obtain ⟨A,c,l,e,hs⟩:=h;exact ⟨A,c,l,e,Ct (fun b _ hb=>⟨h1 b hb,h2 b hb⟩) hs⟩
theorem Nn {lo:Nat} {im im':Nat->Prop} {vs:List Value} {w:World} (hR:∀ b,lo<=b->R b) (him:∀ b,im' b->im b):∀ {rs:List RL} {us:List Value} {ls:List Loc},(∀ l∈rs,l.isI=true->∀ b,im' b->R b)->RL.RepL lo im' vs w rs us ls->RL.RepL lo im vs w (rs.map (RL.toR R)) us ls
 | [],_,_,_,h=>h
 | .sc c :: _,_,_,hI,⟨u,us',e,q1,q2,q3⟩=>⟨u,us',e,(by cases c <;> first | exact q1 | cases q2),q2,Nn hR him (fun l hl=>hI l (List.mem_cons_of_mem _ hl)) q3⟩
 | .new _ _ _ :: _,_,_,hI,⟨l,ls',us',e1,e2,q1,q2,q3,q4⟩=>⟨l,ls',us',e1,e2,q1,q2,q3,Nn hR him (fun l hl=>hI l (List.mem_cons_of_mem _ hl)) q4⟩
 | .newM _ _ _ _ :: _,_,_,hI,⟨l,kl,ls',us',ks,e1,e2,q,q4⟩=>⟨l,kl,ls',us',ks,e1,e2,q,Nn hR him (fun l hl=>hI l (List.mem_cons_of_mem _ hl)) q4⟩
 | .arg _ _ :: _,_,_,hI,⟨u,us',e,q1,q3⟩=>⟨u,us',e,q1,Nn hR him (fun l hl=>hI l (List.mem_cons_of_mem _ hl)) q3⟩
 | .argS _ _ _ _ _ :: _,_,_,hI,⟨A,m,c,us',e,q1,q3⟩=>⟨A,m,c,us',e,q1,Nn hR him (fun l hl=>hI l (List.mem_cons_of_mem _ hl)) q3⟩
 | .frz c :: _,_,_,hI,⟨u,us',e,q1,q2,q3⟩=>⟨u,us',e,Asc q2 (fun _ h=>h) (fun b hb=>hR b hb) q1,Ar9 q2,Nn hR him (fun l hl=>hI l (List.mem_cons_of_mem _ hl)) q3⟩
 | .imm c :: _,_,_,hI,⟨u,us',e,q1,q2,q3⟩=>⟨u,us',e,Asc q2 (fun b hb=>hb.imp (him b) id) (fun b hb=>hb.elim (hI _ List.mem_cons_self rfl b) (hR b)) q1,Ar9 q2,Nn hR him (fun l hl=>hI l (List.mem_cons_of_mem _ hl)) q3⟩
theorem Ag0:∀ (ps:List (Bool×List RL)) (us:List Value),K5 (ps.map fun p=>(p.1,p.2.map (RL.toR R))) us=K5 ps us
 | [],_=>rfl
 | (b,rs) :: ps,us=>by simp only [List.map_cons,K5,List.length_map,Ag0 ps]
theorem Aio (r:RV):(r.toR R).leaves=r.leaves.map (RL.toR R):=by
 simp only [RV.leaves,RV.toR,List.flatMap_map,List.map_flatMap]
theorem A1o (l:RL):(l.toR R).fi=l.fi:=by cases l <;> rfl
theorem Ata {lo:Nat} {im im':Nat->Prop} {vs:List Value} {w:World} {u:Value} (hR:∀ b,lo<=b->R b) (him:∀ b,im' b->im b) (hI:(∃ l∈r.leaves,l.isI=true)->∀ b,im' b->R b) (h:r.Rep lo im' vs w u):(r.toR R).Rep lo im vs w u:=by
 obtain ⟨us,ls,q1,⟨q2,q3⟩,q4⟩:=h;refine ⟨us,ls,by rw [Aio]; exact Nn hR him (fun l hl hi=>hI ⟨l,hl,hi⟩) q1,⟨q2,fun ⟨c,hc,hd⟩=>q3 ?_⟩,?_⟩
 ·rw [Aio] at hc;obtain ⟨l,hl,e⟩:=List.mem_map.1 hc;subst e;rw [A1o] at hd;exact ⟨l,hl,hd⟩
 ·rw [q4]; simp only [RV.toR,Ag0]
theorem Ld (hR:∀ b,n<=b->R b) (h:A0 P G f args r) (hni:r.noI=true:=by kernel_rfl):A0 P (GN G n) f args (r.toR R):=by
 intro w im vs hG hr;have hn:n<=w.heap.size:=(hG w (Below.refl _ _)).2;refine (h w im vs (fun w' hb=>(hG w' hb).1) hr).mono ?_;rintro e w' ⟨u,rfl,hb,hrv⟩;refine ⟨u,rfl,hb,Ata (fun b hb=>hR b (Nat.le_trans hn hb)) (fun _ h=>h) (fun ⟨l,hl,hi⟩=>?_) hrv⟩;have:=List.all_eq_true.1 hni l hl;rw [hi] at this; cases this
mutual
def AV.unR (R:Nat->Prop):AV->AV->Prop
 | .tree t xs,d=>d=.ftr R t xs
 | .agg cs,d=>∃ ds,d=.agg ds∧AV.unRL R cs ds
 | c,d=>c.scal=true∧d=c
def AV.unRL (R:Nat->Prop):List AV->List AV->Prop
 | [],ds=>ds=[]
 | c :: cs,ds=>∃ d ds',ds=d :: ds'∧AV.unR R c d∧AV.unRL R cs ds'
end
mutual
theorem Ayv {im:Nat->Prop} {w:World}:∀ (c d:AV) (u:Value),AV.unR R c d->AV.Rep (fun _=>none) im w d u->AV.Rep (fun _=>none) (fun b=>im b∧R b) w c u
 | .tree t xs,d,u,h,hr=>by
  have h:d=.ftr R t xs:=h;subst h;exact hr
 | .agg cs,d,u,⟨ds,e,h⟩,hr=>by
  subst e;obtain ⟨us,e,hr⟩:=hr;exact ⟨us,e,Ag2 cs ds us h hr⟩
 | .int ..,d,u,⟨_,e⟩,hr=>by subst e; exact hr
 | .bool ..,d,u,⟨_,e⟩,hr=>by subst e; exact hr
 | .str ..,d,u,⟨_,e⟩,hr=>by subst e; exact hr
 | .nils,d,u,⟨_,e⟩,hr=>by subst e; exact hr
 | .any,d,u,⟨h,_⟩,_=>by cases h
 | .mtree ..,d,u,⟨h,_⟩,_=>by cases h
 | .ftr ..,d,u,⟨h,_⟩,_=>by cases h
 | .mp _,d,u,⟨h,_⟩,_=>by cases h
 | .tup _,d,u,⟨h,_⟩,_=>by cases h
 | .fn ..,d,u,⟨h,_⟩,_=>by cases h
 | .ref _,d,u,⟨h,_⟩,_=>by cases h
 | .own ..,d,u,⟨h,_⟩,_=>by cases h
 | .box ..,d,u,⟨h,_⟩,_=>by cases h
 | .elt ..,d,u,⟨h,_⟩,_=>by cases h
 | .sla ..,d,u,⟨h,_⟩,_=>by cases h
 | .telt ..,d,u,⟨h,_⟩,_=>by cases h
 | .giv ..,d,u,⟨h,_⟩,_=>by cases h
 | .abool ..,d,u,⟨h,_⟩,_=>by cases h
theorem Ag2 {im:Nat->Prop} {w:World}:∀ (cs ds:List AV) (us:List Value),AV.unRL R cs ds->AV.RepL (fun _=>none) im w ds us->AV.RepL (fun _=>none) (fun b=>im b∧R b) w cs us
 | [],ds,us,h,hr=>by obtain rfl:ds=[]:=h; exact hr
 | c :: cs,ds,us,⟨d,ds',e,h1,h2⟩,hr=>by
  subst e;obtain ⟨u,us',e,r1,r2⟩:=hr;exact ⟨u,us',e,Ayv c d u h1 r1,Ag2 cs ds' us' h2 r2⟩
end
theorem A12 {args':List AV} (hR:∀ b,n<=b->R b) (hu:AV.unRL R args args') (h:A0 P G f args r):A0 P (GN G n) f args' (r.toR R):=by
 intro w im vs hG hr;have hn:n<=w.heap.size:=(hG w (Below.refl _ _)).2;refine (h w (fun b=>im b∧R b) vs (fun w' hb=>(hG w' hb).1) (Ag2 _ _ _ hu hr)).mono ?_;rintro e w' ⟨u,rfl,hb,hrv⟩;exact ⟨u,rfl,hb,Ata (fun b hb=>hR b (Nat.le_trans hn hb)) (fun _ h=>h.1) (fun _ _ h=>h.2) hrv⟩
theorem Ay9 {p:Bool} {n:Nat} {d:Option Nat} {gd:Option (Nat×Bool)} {fo:Opd} {xs:List Opd} {tys:List (List (Option Ty))} {f:Nat->AV} {ob:Oid->Option Ob} {F:FuncId} {caps args:List AV} {rv:RV} {r:AV×List (Oid×Option Ob)}
  (hgd:Y7 gd f) (hfo:fo.ev f=.fn F caps) (hg:AV.gndBL ((xs++caps.map Opd.cst).map (Opd.ev f))=true) (hn:U2 tys ((xs++caps.map Opd.cst).map (Opd.ev f))=args) (hb:Be P F=true) (hc:A0 P G F args rv) (hr:rv.out (E1 ((d.getD 0,0),n)) ((xs++caps.map Opd.cst).map (Opd.ev f))=r) :
  G2 P G p n ⟨d,gd,.call fo xs tys⟩ f ob (1,r.1,r.2):=by
 subst hn;have key:EvR P G p f ob ((d.getD 0,0),n) (.call fo xs tys) (1,r.1,r.2):=.inr ⟨fo,xs,tys,F,caps,rfl,hfo,.inl ⟨rfl,hb,_,rv,.inr ⟨rfl,hg⟩,hc,hr⟩⟩;unfold G2;cases gd with
 | none=>exact key
 | some sb=>exact ⟨true,Ahn hgd,by rw [if_pos rfl]; exact key⟩
end
-- rows of things that nobody writes
theorem Amt {m:Option (Nat->Prop)} {t:Ty} (xs:List t.D):(tvC m t xs).length=xs.length*t.size:=by
 unfold tvC
 induction xs with
 | nil=>simp
 | cons x xs ih=>rw [List.flatMap_cons,List.length_append,ih,H6,List.length_cons,Nat.succ_mul]; omega
theorem Ayu {m:Option (Nat->Prop)} {t:Ty} (xs ys:List t.D):tvC m t (xs++ys)=tvC m t xs++tvC m t ys:=by simp [tvC]
theorem Aqo {ob:Oid->Option Ob} (m:Option (Nat->Prop)):∀ (t:Ty) (x:t.D),rdC ob t (t.avM m x)=some x
 | .int,_=>rfl
 | .bool,_=>rfl
 | .str,_=>rfl
 | .slice t,xs=>by
  have:F7 ob t (trM m t xs)=some xs:=by cases m <;> simp only [trM,F7,Ty.eq?_self,Cr]
  simp only [Ty.avM,rdC,this]
 | .pair a b,x=>by
  have h1:(a.avM m x.1++b.avM m x.2).take a.size=a.avM m x.1:=List.take_left' (H6 m a x.1);have h2:(a.avM m x.1++b.avM m x.2).drop a.size=b.avM m x.2:=List.drop_left' (H6 m a x.1);simp only [Ty.avM,rdC,h1,h2,Aqo m a,Aqo m b]
theorem Ab8 {ob:Oid->Option Ob} {m:Option (Nat->Prop)} {t:Ty}:∀ (xs:List t.D),Ka (rdC ob t) t.size xs.length (tvC m t xs)=some xs
 | []=>rfl
 | x :: xs=>by
  have h1:(tvC m t (x :: xs)).take t.size=t.avM m x:=List.take_left' (H6 m t x);have h2:(tvC m t (x :: xs)).drop t.size=tvC m t xs:=List.drop_left' (H6 m t x);simp only [List.length_cons,Ka,h1,h2,Aqo,Ab8 xs]
section
variable {ob:Oid->Option Ob}
theorem A0d {n len:Nat} {o:Oid} {e:TypeId} {m:Option (Nat->Prop)} {t:Ty} {xs:List t.D} (ho:ob o=some (.vec e t.size xs.length (tvC m t xs))) (hl:len=xs.length):gnd ob (n+1) (.own o t 0 len)=some (.tree t xs):=by
 subst hl
 have:Ad2 ob t.size (rdC ob t) (.own o t 0 xs.length)=some xs:=by
  simp only [Ad2,ho];rw [if_pos ⟨trivial,by omega⟩,Nat.zero_mul,List.drop_zero,List.take_of_length_le (by rw [Amt]; exact Nat.le_refl _)];exact Ab8 xs
 simp only [gnd,ho,this,Option.map_some]
end
theorem Afx {G:World->Prop} {tl:List (Nat×AV)} {ol:List (Oid×Option Ob)} {g:Nat} (o:Oid) (e:TypeId) (m:Option (Nat->Prop)) (t:Ty) (xs:List t.D) {N:Nat} (h:Aj ol o=some (.vec e t.size N (tvC m t xs))) (hN:N=xs.length):WeakG G ⟨Ao tl,Aj ol,g⟩ ⟨Ao tl,Aj ((o,some (.tv e m t xs)) :: ol),g⟩:=by
 subst hN
 have:Aj ((o,some (.tv e m t xs)) :: ol)=Aj ol:=by
  funext i;show (if i=o then some (.vec e t.size xs.length (tvC m t xs)) else Aj ol i)=Aj ol i;by_cases hi:i=o
  ·rw [if_pos hi,hi,h]
  ·rw [if_neg hi]
 rw [this]; exact WeakG.refl _
section
variable {n:Nat} {d:Option Nat} {f:Nat->AV} {ob:Oid->Option Ob}
end
-- results
inductive Apy (R:Nat->Prop) (ob:Oid->Option Ob):AV->AV->Prop
 | ftr {t:Ty} {xs:List t.D}:Apy R ob (.ftr R t xs) (.tree t xs)
 | nil {t:Ty}:Apy R ob .nils (.tree t [])
 | arr {i:Oid} {t u:Ty} {e:TypeId} {xs:List u.D} {len:Nat}:ob i=some (.arr e u xs)->len=xs.length->Apy R ob (.own i t 0 len) (.tree u xs)
 | mat {o p:Oid} {e1 e:TypeId} {u:Ty} {xss:List (List u.D)} {len:Nat}:ob o=some (.vec e1 1 xss.length (hdL p u xss))->(∀ k row,xss[k]? =some row->ob (kid p k)=some (.arr e u row))->len=xss.length->Apy R ob (.own o (.slice u) 0 len) (.tree (.slice u) xss)
 | tv {o:Oid} {e:TypeId} {t:Ty} {xs:List t.D} {len:Nat}:ob o=some (.vec e t.size xs.length (tvC (some R) t xs))->len=xs.length->Apy R ob (.own o t 0 len) (.tree t xs)
section
variable {G:World->Prop} {w0 w:World} {ob:Oid->Option Ob} {σ:Oid->Option Loc} {K:Nat->Prop}
theorem Ahp {im im':Nat->Prop} {i:Oid} {t:Ty} {off len:Nat} {v:Value} (h:AV.Rep σ im w (.own i t off len) v):AV.Rep σ im' w (.own i t off len) v:=h
theorem Ave {im im':Nat->Prop} {p:Oid} {u:Ty} {xss:List (List u.D)} {vs:List Value} (h:AV.RepL σ im w (hdL p u xss) vs):AV.RepL σ im' w (hdL p u xss) vs:=by
 have key:∀ (l:List (List u.D×Nat)) (vs:List Value),AV.RepL σ im w (l.map fun x=>.own (kid p x.2) u 0 x.1.length) vs->AV.RepL σ im' w (l.map fun x=>.own (kid p x.2) u 0 x.1.length) vs:=by
  intro l
  induction l with
  | nil=>intro vs h; exact h
  | cons x l ih=>rintro vs ⟨v,vs',e,h1,h2⟩; exact ⟨v,vs',e,Ahp h1,ih vs' h2⟩
 exact key _ _ h
theorem Aq0 {im R:Nat->Prop}:∀ (t:Ty) (x:t.D) (vs:List Value),AV.RepL σ im w (t.avM (some R) x) vs->AV.RepL σ R w (t.av x) vs
 | .int,_,_,⟨v,vs',e,h1,h2⟩=>⟨v,vs',e,h1,h2⟩
 | .bool,_,_,⟨v,vs',e,h1,h2⟩=>⟨v,vs',e,h1,h2⟩
 | .str,_,_,⟨v,vs',e,h1,h2⟩=>⟨v,vs',e,h1,h2⟩
 | .slice t,xs,_,⟨v,vs',e,⟨A,c,l,e1,hs⟩,h2⟩=>⟨v,vs',e,⟨A,c,l,e1,Ct (fun b _ hb=>hb.2) hs⟩,h2⟩
 | .pair a b,x,vs,h=>by
  have hl:=h.length;have h1:=h.take a.size;have h2:=h.drop a.size;have e1:((Ty.pair a b).avM (some R) x).take a.size=a.avM (some R) x.1:=List.take_left' (H6 _ a x.1);have e2:((Ty.pair a b).avM (some R) x).drop a.size=b.avM (some R) x.2:=List.drop_left' (H6 _ a x.1);rw [e1] at h1;rw [e2] at h2;have:=(Aq0 a x.1 _ h1).append (Aq0 b x.2 _ h2);rw [List.take_append_drop] at this;exact this
theorem Axh {im R:Nat->Prop} {t:Ty}:∀ (xs:List t.D) (vs:List Value),AV.RepL σ im w (tvC (some R) t xs) vs->AV.RepL σ R w (tvC none t xs) vs
 | [],_,h=>h
 | x :: xs,vs,h=>by
  have h1:=h.take t.size;have h2:=h.drop t.size;have e1:(tvC (some R) t (x :: xs)).take t.size=t.avM (some R) x:=List.take_left' (H6 _ t x);have e2:(tvC (some R) t (x :: xs)).drop t.size=tvC (some R) t xs:=List.drop_left' (H6 _ t x);rw [e1] at h1;rw [e2] at h2
  have hav:∀ (t:Ty) (x:t.D),t.avM none x=t.av x:=by
   intro t
   induction t with
   | pair a b ha hb=>intro x; simp only [Ty.avM,Ty.av,ha,hb]
   | _=>intro x; rfl
  have h1':=Aq0 t x _ h1;rw [← hav] at h1';have:=h1'.append (Axh xs _ h2);rw [List.take_append_drop] at this;exact this
theorem Au8 {R:Nat->Prop} (hM:Mem0 G w0 ob σ K w) (hR:∀ b,w0.heap.size<=b->R b) {c d:AV} {v:Value} (h:Apy R ob c d) (hr:AV.Rep σ (imm ob σ) w c v):AV.Rep (fun _=>none) R w d v:=by
 cases h with
 | ftr=>obtain ⟨A,c,l,e,hs⟩:=hr; exact ⟨A,c,l,e,Ct (fun b _ hb=>hb.2) hs⟩
 | nil=>exact ⟨none,0,[],hr,by simp,by simp [maxLen],fun _=>[],by simp,fun h=>absurd h (by simp)⟩
 | @arr i t u e xs len h1 h2 =>
  refine P6 (ob:=fun j=>if j=i then some (.arr e u xs) else none) (σ:=σ) (im:=R) (lo:=w0.heap.size) (fun j o l hj hl=>?_) (fun _ hb=>hb) (fun j o b c s _ hs=>hR b (hM.lt j b c s hs).1) 1 _ _ _ (Ca (e:=e) (if_pos rfl) h2) (Ahp hr);split at hj
  ·rename_i e'; subst e';obtain rfl:=osj hj;exact hM.obs j _ l h1 hl
  ·cases hj
 | @mat o p e1 e u xss len h1 h2 h3 =>
  refine P6 (ob:=fun j=>match ob j with | some (.arr e u xs)=>some (.arr e u xs) | _=>if j=o then some (.vec e1 1 xss.length (hdL p u xss)) else none) (σ:=σ) (im:=R) (lo:=w0.heap.size) (fun j q l hj hl=>?_) (fun _ hb=>hb) (fun j o b c s _ hs=>hR b (hM.lt j b c s hs).1) 1 _ _ _ (Wd (p:=p) (e1:=e1) (e:=e) (by simp only [h1]; rw [if_pos trivial]) (fun k row hk=>by simp only [h2 k row hk]) h3) (Ahp hr);split at hj
  ·rename_i e' u' xs' hj';obtain rfl:=osj hj;exact hM.obs j _ l hj' hl
  ·split at hj
   ·rename_i e'; subst e';obtain rfl:=osj hj;obtain ⟨vs,g1,g2,g3⟩:=hM.obs j _ l h1 hl;exact ⟨vs,g1,Ave g2,g3⟩
   ·cases hj
 | @tv o e t xs len h1 h2 =>
  refine P6 (ob:=fun j=>if j=o then some (.vec e t.size xs.length (tvC none t xs)) else none) (σ:=σ) (im:=R) (lo:=w0.heap.size) (fun j q l hj hl=>?_) (fun _ hb=>hb) (fun j o b c s _ hs=>hR b (hM.lt j b c s hs).1) 1 _ _ _ (A0d (m:=none) (e:=e) (if_pos rfl) h2) (Ahp hr);split at hj
  ·rename_i e'; subst e';obtain rfl:=osj hj;obtain ⟨vs,g1,g2,g3⟩:=hM.obs j _ l h1 hl;exact ⟨vs,g1,Axh xs vs g2,g3⟩
  ·cases hj
def RL.zl:Bool->AV->RL
 | true,d=>.frz d
 | false,d=>.imm d
def zR (z:Bool) (im:Nat->Prop) (n:Nat) (b:Nat):Prop:=if z then n<=b else im b∨n<=b
theorem A0g {z:Bool} {im:Nat->Prop} {n b:Nat} (h:n<=b):zR z im n b:=by cases z; exact .inr h; exact h
def Aof (R:Nat->Prop) (z:Bool) (ob:Oid->Option Ob) (c:AV) (l:RL):Prop:=(c.scal=true∧l=.sc c)∨∃ d,l=.zl z d∧d.gndB=true∧Apy R ob c d
def Qw (R:Nat->Prop) (z:Bool) (ob:Oid->Option Ob):List AV->List RL->Prop
 | [],ls=>ls=[]
 | c :: cs,ls=>∃ l ls',ls=l :: ls'∧Aof R z ob c l∧Qw R z ob cs ls'
def Tx (R:Nat->Prop) (z:Bool) (ob:Oid->Option Ob):List (Bool×List AV)->List (Bool×List RL)->Prop
 | [],ps=>ps=[]
 | (b,cs) :: r,ps=>∃ ls ps',ps=(b,ls) :: ps'∧Qw R z ob cs ls∧(b=false->cs.length=1)∧Tx R z ob r ps'
def Ax5:List (Bool×List AV)->List AV
 | []=>[]
 | (b,cs) :: r=>(if b then .agg cs else cs.headD .any) :: Ax5 r
def Azu (R:Nat->Prop) (z:Bool) (rs:List Res) (S:St) (r:RV):Prop :=
 ∃ gs ps,Res.evL S.tm S.ob rs=some (Ax5 gs)∧Tx R z S.ob gs ps∧r=⟨decide (rs.length≠1),ps⟩
theorem Adb {z:Bool} (hM:Mem0 G w0 ob σ K w) {im:Nat->Prop} {vs0:List Value}:∀ {cs:List AV} {ls:List RL} {us:List Value},Qw (zR z im w0.heap.size) z ob cs ls->AV.RepL σ (imm ob σ) w cs us->RL.RepL w0.heap.size im vs0 w ls us []∧ls.length=us.length
 | [],ls,us,h,hr=>by obtain rfl:ls=[]:=h; exact ⟨⟨hr,rfl⟩,by rw [show us=[] from hr]; rfl⟩
 | c :: cs,ls,us,⟨l,ls',e,h1,h2⟩,⟨u,us',e',r1,r2⟩=>by
  subst e e';obtain ⟨q1,q2⟩:=Adb hM (im:=im) (vs0:=vs0) h2 r2;refine ⟨?_,by simp [q2]⟩;rcases h1 with ⟨a1,rfl⟩ | ⟨d,rfl,a1,a2⟩
  ·exact ⟨u,us',rfl,(by cases c <;> first | exact r1 | cases a1),a1,q1⟩
  ·have hr:=Au8 hM (fun _ h=>A0g h) a2 r1;cases z with
   | true=>exact ⟨u,us',rfl,P2 (fun b h=>h) _ a1 _ hr,a1,q1⟩
   | false=>exact ⟨u,us',rfl,P2 (fun b h=>h) _ a1 _ hr,a1,q1⟩
theorem Aoz {lo:Nat} {im:Nat->Prop} {vs:List Value} {w:World}:∀ {rs:List RL} {us:List Value} {rs':List RL} {us':List Value},(∀ l∈rs,(∃ c,l=.sc c)∨(∃ d,l=.frz d)∨∃ d,l=.imm d)->RL.RepL lo im vs w rs us []->RL.RepL lo im vs w rs' us' []->RL.RepL lo im vs w (rs++rs') (us++us') []
 | [],_,_,_,_,⟨e,_⟩,h=>by subst e; exact h
 | l :: rs,us,rs',us',hk,h,h'=>by
  have hk':=fun l hl=>hk l (List.mem_cons_of_mem _ hl)
  rcases hk l List.mem_cons_self with ⟨c,rfl⟩ | ⟨d,rfl⟩ | ⟨d,rfl⟩ <;> obtain ⟨u,us1,rfl,q1,q2,q3⟩:=h <;> exact ⟨u,us1++us',rfl,q1,q2,Aoz hk' q3 h'⟩
theorem Aaa {R:Nat->Prop} {z:Bool}:∀ {cs:List AV} {ls:List RL},Qw R z ob cs ls->∀ l∈ls,(∃ c,l=.sc c)∨(∃ d,l=.frz d)∨∃ d,l=.imm d
 | [],ls,h,l,hl=>by rw [show ls=[] from h] at hl; cases hl
 | c :: cs,ls,⟨l0,ls',e,h1,h2⟩,l,hl=>by
  subst e;rcases List.mem_cons.1 hl with rfl | hl
  ·rcases h1 with ⟨_,rfl⟩ | ⟨d,rfl,_⟩
   ·exact .inl ⟨_,rfl⟩
   ·cases z with
    | true=>exact .inr (.inl ⟨_,rfl⟩)
    | false=>exact .inr (.inr ⟨_,rfl⟩)
  ·exact Aaa h2 l hl
theorem Agq {z:Bool} (hM:Mem0 G w0 ob σ K w) {im:Nat->Prop} {vs0:List Value}:∀ {gs:List (Bool×List AV)} {ps:List (Bool×List RL)} {us:List Value},Tx (zR z im w0.heap.size) z ob gs ps->AV.RepL σ (imm ob σ) w (Ax5 gs) us->∃ vs,RL.RepL w0.heap.size im vs0 w (ps.flatMap (·.2)) vs []∧K5 ps vs=us
 | [],ps,us,h,hr=>by
  obtain rfl:ps=[]:=h;exact ⟨[],⟨rfl,rfl⟩,hr.symm⟩
 | (b,cs) :: gs,ps,us,⟨ls,ps',e,h1,h2,h3⟩,⟨u,us',e',r1,r2⟩=>by
  subst e e';obtain ⟨vs,q1,q2⟩:=Agq hM (im:=im) (vs0:=vs0) h3 r2
  have key:∀ ws:List Value,AV.RepL σ (imm ob σ) w cs ws->(if b then Value.agg ws.toArray else ws.headD undef)=u->∃ vs,RL.RepL w0.heap.size im vs0 w (((b,ls) :: ps').flatMap (·.2)) vs []∧K5 ((b,ls) :: ps') vs=u :: us':=fun ws hw hu=>by
   obtain ⟨a1,a2⟩:=Adb hM (im:=im) (vs0:=vs0) h1 hw;refine ⟨ws++vs,Aoz (Aaa h1) a1 q1,?_⟩;simp only [K5];rw [List.drop_left' a2.symm,q2,List.take_left' a2.symm];congr 1;cases b with
   | true=>exact hu
   | false =>
    have hl:=h2 rfl;rw [← hw.length] at hl;cases ws with
    | nil=>simp at hl
    | cons w0 ws=>exact hu
  cases b with
  | true =>
   obtain ⟨ws,e1,e2⟩:=r1;exact key ws e2 (by rw [e1]; rfl)
  | false =>
   have hl:=h2 rfl;obtain ⟨c,rfl⟩:=List.length_eq_one_iff.1 hl;exact key [u] ⟨u,[],rfl,r1,rfl⟩ rfl
end
theorem An5 {P:Program} [IsP P] {G:World->Prop} (hfol:P.follows .mixedOrders=true) {g:FuncId} {fn:Func} (hf:P.funcs[g]? =some fn) {ac:AC} {rs:List Res} (hc0:At P fn=some (ac,rs)) {args:List AV} {args':(Nat->Prop)->List AV} {r:RV} {n:Nat} (z:Bool) (hN:fn.ntmps=n) (hn:∀ R,(args' R).length<=n) {tl:(Nat->Prop)->List (Nat×AV)} (htl:∀ R,tmL 0 (args' R)=tl R) (ha:∀ (R im:Nat->Prop) (w:World) (us:List Value),(∀ b,im b->z=false->R b)->AV.RepL (fun _=>none) im w args us->AV.RepL (fun _=>none) im w (args' R) us)
  (h:∀ (n:Nat) (R:Nat->Prop),(∀ b,n<=b->R b)->awp P (GN G n) ac (fun e S=>∃ S',WeakG (GN G n) S S'∧(e=.normal∨e=.ret)∧Azu R z rs S' r) ⟨Ao (tl R),Aj [],1⟩):A0 P G g args r:=by
 subst hN
 have h0:∃ c,fn.body=some c∧AC.of P fn.ntmps c=some ac∧Res.ofL P fn.results.toList=some rs:=by
  unfold At at hc0;split at hc0
  ·rename_i c hb;split at hc0
   ·rename_i ac' rs' h1 h2;obtain ⟨rfl,rfl⟩:=Prod.mk.inj (osj hc0);exact ⟨c,hb,h1,h2⟩
   ·cases hc0
  ·cases hc0
 obtain ⟨c,hb,hc,hrs⟩:=h0;intro w im vs hG hargs
 replace h:=h w.heap.size (zR z im w.heap.size) fun _ h=>A0g h
 replace hn:=hn (zR z im w.heap.size)
 rw [← htl,← St.init_eq] at h
 replace hargs:=ha (zR z im w.heap.size) im w vs (fun b hb e=>by subst e; exact .inl hb) hargs
 generalize args' (zR z im w.heap.size)=args at h hn hargs;have hlen:vs.length=args.length:=hargs.length
 have hany:∀ (cs:List AV) (us:List Value),AV.RepL (fun _=>none) im w cs us->AV.RepL (fun _=>none) (imm (fun _=>none) (fun _=>none)) w cs us:=fun cs us h' =>
  AV.RepL.later ⟨fun _ _ h=>h,(fun _ _ _ _ _ _ _ h=>by cases h),fun _ _ _=>rfl,Nat.le_refl _⟩ cs us h'
 have hreps:Vx (GN G w.heap.size) w ⟨fun _=>none,fun _=>False,w,fun _ _ h=>(nomatch h)⟩ fn.ntmps (St.init args) { tmps:=vs.toArray++Array.replicate (fn.ntmps - vs.toArray.size) undef,defers:=[] } w:=by
  refine ⟨⟨fun _=>none,⟨Below.refl _ _,fun w' hb=>⟨hG w' hb,hb.size⟩,(fun _ _ h=>by cases h),(fun _ _ _ _ h=>by cases h),(fun _ _ _ _ h=>by cases h),(fun _ _ _ _ _ _ _ _ _ h=>by cases h),(fun _ _ _ h=>by cases h)⟩,fun t=>?_,⟨fun _ _ h=>h,fun _ _ h=>h.elim,fun _ _ h=>h.elim,Nat.le_refl _⟩⟩,by simp; omega,rfl,fun i h=>absurd rfl h⟩;simp only [St.init,gDg];cases ht:args[t]? with
  | none=>trivial
  | some c =>
   obtain ⟨v,hv,hr⟩:=(hany _ _ hargs).get ht;have hlt:t<vs.length:=(gSi.1 hv).1
   have e:(vs.toArray++Array.replicate (fn.ntmps - vs.toArray.size) undef).getD t undef=v:=by
    rw [Array.getD_eq_getD_getElem?,Array.getElem?_append_left (by simpa using hlt)];simp [hv]
   rw [e];exact hr
 refine calls_of_wp hf hb (Code.wp_mono (fun e a' w' hq=>?_) (Ab1 hfol c ac _ _ _ w hc h hreps));obtain ⟨e',S0,rfl,⟨S',hweak,hend,gs,ps,h1,h2,h4⟩,hr⟩:=hq
 replace hr:=hweak _ _ _ _ _ hr
 obtain ⟨σ,hM,hF,_⟩:=hr.ex
 have hrun:∀ (vars:List ResultVar) (rs:List Res) (avs:List AV),Res.ofL P vars=some rs->Res.evL S'.tm S'.ob rs=some avs ->
   ∃ us,(vars.mapM (Apc a'.tmps)).run P w'=.ok us w'∧AV.RepL σ (imm S'.ob σ) w' avs us∧us.length=vars.length∧rs.length=vars.length:=by
  intro vars
  induction vars with
  | nil =>
   intro rs avs q1 q2;obtain rfl:[]=rs:=osj q1;obtain rfl:[]=avs:=osj q2;exact ⟨[],rfl,rfl,rfl,rfl⟩
  | cons v vars ih =>
   intro rs avs q1 q2;simp only [Res.ofL] at q1;split at q1
   ·rename_i x xs p1 p2;obtain rfl:=osj q1;simp only [Res.evL] at q2;split at q2
    ·rename_i y ys p3 p4;obtain rfl:=osj q2;obtain ⟨u,r1,r2⟩:=Res.run hM hF p1 p3;obtain ⟨us,r3,r4,r5,r6⟩:=ih _ _ p2 p4;refine ⟨u :: us,?_,⟨u,us,rfl,r2,r4⟩,by simp [r5],by simp [r6]⟩;rw [List.mapM_cons,Sem.run_bind,r1];simp only [Result.andThen_ok,Sem.run_bind,r3,Sem.run_pure]
    ·cases q2
   ·cases q1
 obtain ⟨us,u1,u2,u3,u4⟩:=hrun fn.results.toList rs _ hrs h1;obtain ⟨vs',f1,f3⟩:=Agq (im:=im) (vs0:=vs) hM h2 u2;have hres:(results fn a'.tmps).run P w'=.ok (if fn.results.size=1 then us.headD undef else .tuple us.toArray) w':=Wi u1 (by rw [u3]; simp)
 have hrv:r.Rep w.heap.size im vs w' (if fn.results.size=1 then us.headD undef else .tuple us.toArray):=by
  subst h4;refine ⟨vs',[],f1,⟨trivial,fun _=>rfl⟩,?_⟩;simp only [f3];have:rs.length=fn.results.size:=by rw [u4]; simp
  rw [this];by_cases h1:fn.results.size=1 <;> simp [h1]
 have fin:∃ u,(results fn a'.tmps).run P w'=.ok u w'∧∃ v,Ending.returned u=.returned v∧Below w.heap.size w w'∧r.Rep w.heap.size im vs w' v:=⟨_,hres,_,rfl,hM.below,hrv⟩
 rcases hend with rfl | rfl
 ·exact ⟨hr.defers,fin⟩
 ·exact ⟨hr.defers,fin⟩
theorem Ej {P:Program} [IsP P] {G:World->Prop} (hfol:P.follows .mixedOrders=true) {g:FuncId} {fn:Func} (hf:P.funcs[g]? =some fn) {ac:AC} {rs:List Res} (hc0:At P fn=some (ac,rs)) {args:List AV} {r:RV} {n:Nat} (hN:fn.ntmps=n) (hn:args.length<=n) {tl:List (Nat×AV)} (htl:tmL 0 args=tl)
  (h:∀ (n:Nat) (R:Nat->Prop),(∀ b,n<=b->R b)->awp P (GN G n) ac (fun e S=>∃ S',WeakG (GN G n) S S'∧(e=.normal∨e=.ret)∧Azu R true rs S' r) ⟨Ao tl,Aj [],1⟩):A0 P G g args r :=
 An5 hfol hf hc0 (args':=fun _=>args) true hN (fun _=>hn) (tl:=fun _=>tl) (fun _=>htl) (fun _ _ _ _ _ h=>h) h
mutual
theorem Axg {R im:Nat->Prop} {w:World} (hR:∀ b,im b->R b):∀ (c d:AV) (u:Value),AV.unR R c d->AV.Rep (fun _=>none) im w c u->AV.Rep (fun _=>none) im w d u
 | .tree t xs,d,u,h,⟨A,c,l,e,hs⟩=>by
  have h:d=.ftr R t xs:=h;subst h;exact ⟨A,c,l,e,Ct (fun b _ hb=>⟨hb,hR b hb⟩) hs⟩
 | .agg cs,d,u,⟨ds,e,h⟩,hr=>by
  subst e;obtain ⟨us,e,hr⟩:=hr;exact ⟨us,e,Aa6 hR cs ds us h hr⟩
 | .int ..,d,u,⟨_,e⟩,hr=>by subst e; exact hr
 | .bool ..,d,u,⟨_,e⟩,hr=>by subst e; exact hr
 | .str ..,d,u,⟨_,e⟩,hr=>by subst e; exact hr
 | .nils,d,u,⟨_,e⟩,hr=>by subst e; exact hr
 | .any,d,u,⟨h,_⟩,_=>by cases h
 | .mtree ..,d,u,⟨h,_⟩,_=>by cases h
 | .ftr ..,d,u,⟨h,_⟩,_=>by cases h
 | .mp _,d,u,⟨h,_⟩,_=>by cases h
 | .tup _,d,u,⟨h,_⟩,_=>by cases h
 | .fn ..,d,u,⟨h,_⟩,_=>by cases h
 | .ref _,d,u,⟨h,_⟩,_=>by cases h
 | .own ..,d,u,⟨h,_⟩,_=>by cases h
 | .box ..,d,u,⟨h,_⟩,_=>by cases h
 | .elt ..,d,u,⟨h,_⟩,_=>by cases h
 | .sla ..,d,u,⟨h,_⟩,_=>by cases h
 | .telt ..,d,u,⟨h,_⟩,_=>by cases h
 | .giv ..,d,u,⟨h,_⟩,_=>by cases h
 | .abool ..,d,u,⟨h,_⟩,_=>by cases h
theorem Aa6 {R im:Nat->Prop} {w:World} (hR:∀ b,im b->R b):∀ (cs ds:List AV) (us:List Value),AV.unRL R cs ds->AV.RepL (fun _=>none) im w cs us->AV.RepL (fun _=>none) im w ds us
 | [],ds,us,h,hr=>by obtain rfl:ds=[]:=h; exact hr
 | c :: cs,ds,us,⟨d,ds',e,h1,h2⟩,hr=>by
  subst e;obtain ⟨u,us',e,r1,r2⟩:=hr;exact ⟨u,us',e,Axg hR c d u h1 r1,Aa6 hR cs ds' us' h2 r2⟩
end
theorem Axi {P:Program} [IsP P] {G:World->Prop} (hfol:P.follows .mixedOrders=true) {g:FuncId} {fn:Func} (hf:P.funcs[g]? =some fn) {ac:AC} {rs:List Res} (hc0:At P fn=some (ac,rs)) {args:List AV} (args':(Nat->Prop)->List AV) {r:RV} {n:Nat} (hN:fn.ntmps=n) (hn:∀ R,(args' R).length<=n) (hu:∀ R,AV.unRL R args (args' R)) {tl:(Nat->Prop)->List (Nat×AV)} (htl:∀ R,tmL 0 (args' R)=tl R)
  (h:∀ (n:Nat) (R:Nat->Prop),(∀ b,n<=b->R b)->awp P (GN G n) ac (fun e S=>∃ S',WeakG (GN G n) S S'∧(e=.normal∨e=.ret)∧Azu R false rs S' r) ⟨Ao (tl R),Aj [],1⟩):A0 P G g args r :=
 An5 hfol hf hc0 false hN hn htl (fun R im w us hR hr=>Aa6 (fun b hb=>hR b hb rfl) _ _ _ (hu R) hr) h
theorem Kk {G:World->Prop} {R:Nat->Prop} {z:Bool} {rs:List Res} {tm:Nat->AV} {ob:Oid->Option Ob} {g:Nat} {r:RV} (gs:List (Bool×List AV)) {e:AE} (h2:Tx R z ob gs r.ps) (he:e=.normal∨e=.ret:=by simp) (h1:Res.evL tm ob rs=some (Ax5 gs):=by kernel_rfl) (h4:r.tup=decide (rs.length≠1):=by kernel_rfl):∃ S',WeakG G ⟨tm,ob,g⟩ S'∧(e=.normal∨e=.ret)∧Azu R z rs S' r :=
 ⟨_,WeakG.refl _,he,gs,r.ps,h1,h2,by cases r; cases h4; rfl⟩
theorem A0t {ob:Oid->Option Ob} {n:Nat->Prop} {t:Ty} {xs:List t.D}:F7 ob t (.ftr n t xs)=some xs:=by simp only [F7,Ty.eq?_self,Cr]
section
variable {R:Nat->Prop} {z:Bool} {ob:Oid->Option Ob}
theorem Gz:Tx R z ob [] []:=rfl
theorem Oa {cs:List AV} {r:List (Bool×List AV)} {ls:List RL} {ps:List (Bool×List RL)} (h1:Qw R z ob cs ls) (h2:Tx R z ob r ps):Tx R z ob ((true,cs) :: r) ((true,ls) :: ps):=⟨ls,ps,rfl,h1,(fun h=>by cases h),h2⟩
theorem K9 {c:AV} {r:List (Bool×List AV)} {l:RL} {ps:List (Bool×List RL)} (h1:Aof R z ob c l) (h2:Tx R z ob r ps):Tx R z ob ((false,[c]) :: r) ((false,[l]) :: ps):=⟨[l],ps,rfl,⟨l,[],rfl,h1,rfl⟩,fun _=>rfl,h2⟩
theorem Oe:Qw R z ob [] []:=rfl
theorem Az {c:AV} {cs:List AV} {l:RL} {ls:List RL} (h1:Aof R z ob c l) (h2:Qw R z ob cs ls):Qw R z ob (c :: cs) (l :: ls):=⟨l,ls,rfl,h1,h2⟩
theorem C3 {c:AV} (h:c.scal=true:=by kernel_rfl):Aof R z ob c (.sc c):=.inl ⟨h,rfl⟩
theorem Bp {c:AV} {t:Ty} {xs:List t.D} (h:Apy R ob c (.tree t xs)):Aof R z ob c (.zl z (.tree t xs)):=.inr ⟨_,rfl,rfl,h⟩
end
section
variable {P:Program} {G:World->Prop} {g k d:Nat} {gd:Option (Nat×Bool)} {xs:List X} {tl:List (Nat×AV)} {ol:List (Oid×Option Ob)} {bad:List (Nat×Nat)} {ra:List Rec} {da:List (List Oid)} {Kf:List (Nat×AV)->List (Oid×Option Ob)->Prop}
variable {fo:Opd} {ys:List Opd} {tys:List (List (Option Ty))} {F:FuncId} {caps:List AV} {rv:RV}
theorem A1v (v:AV) (us:List (Oid×Option Ob)) (zs args:List AV) (hgd:Y7 gd (Ao tl)) (hc:A0 P G F args rv) (hb:Be P F=true) (h3:XD P G bad g (k+1) xs ((d,v) :: tl) (us.reverseAux ol) ((1,v,us) :: ra) ((rdX (Ao tl) (Aj ol) ⟨some d,gd,.call fo ys tys⟩) :: da) Kf) (hg:AV.gndBL zs=true:=by kernel_rfl) (hfo:fo.ev (Ao tl)=.fn F caps:=by kernel_rfl) (hz:(ys++caps.map Opd.cst).map (Opd.ev (Ao tl))=zs:=by kernel_rfl) (hn:U2 tys zs=args:=by kernel_rfl) (hr:rv.out (E1 ((d,0),g+k)) zs=(v,us):=by kernel_rfl) (hx:Gy us=true:=by rfl):XD P G bad g k (⟨some d,gd,.call fo ys tys⟩ :: xs) tl ol ra da Kf:=by
 subst hz;exact Adc 1 v us (Ay9 (P:=P) (G:=G) (p:=false) (n:=g+k) (d:=some d) hgd hfo hg hn hb hc hr) h3 hx
end
end
section
open Go.RowKit Go.Deep
section
variable {σ:Oid->Option Loc} {im:Nat->Prop} {w:World}
end
section
variable {n:Nat} {d:Option Nat} {f:Nat->AV} {ob:Oid->Option Ob}
end
end
section
open Go.RowKit Go.Deep
end
section
open Go.RowKit Go.Deep
theorem Ze {G:World->Prop} {n:Nat} {R:Nat->Prop} (hR:∀ b,n<=b->R b) {tl:List (Nat×AV)} {ol:List (Oid×Option Ob)} {g:Nat} (d:Nat) (o p:Oid) {e1 e:TypeId} {u:Ty} {xss:List (List u.D)} {len:Nat} (hd:Ao tl d=.own o (.slice u) 0 len) (ho:Aj ol o=some (.vec e1 1 xss.length (hdL p u xss))) (hp:Gx ol p=some (.pool e u xss)) (hl:len=xss.length) :
  WeakG (GN G n) ⟨Ao tl,Aj ol,g⟩ ⟨Ao ((d,.ftr R (.slice u) xss) :: tl),Aj ((o,none) :: (p,some (.pool e u [])) :: ol),g⟩:=by
 intro w0 B N a w hr;obtain ⟨σ,hm,hf,hB⟩:=hr.ex;have hn:n<=w0.heap.size:=(hm.inv w0 (Below.refl _ _)).2
 have h1:∀ i x,Aj ((o,none) :: (p,some (.pool e u [])) :: ol) i=some x->Aj ol i=some x:=fun i x hx=>by
  rw [M1,Jr] at hx;split at hx
  ·cases hx
  ·split at hx
   ·cases hx
   ·exact hx
 have h2:∀ i,(i=o∨(i.1.1=p.1.1∧i.2=p.2∧i.1.2≠0))->Aj ((o,none) :: (p,some (.pool e u [])) :: ol) i=none:=fun i hc=>by
  rw [M1,Jr];rcases hc with h | h
  ·rw [if_pos h]
  ·rw [if_pos h,ite_self]
 generalize Aj ((o,none) :: (p,some (.pool e u [])) :: ol)=ob' at h1 h2 ⊢;have him:∀ b,imm (Aj ol) σ b->imm ob' σ b:=fun b hb i x c s hx=>hb i x c s (h1 i x hx)
 have hL:Later σ σ (imm (Aj ol) σ) (imm ob' σ) w w:=⟨fun _ _ h=>h,fun b _ hb=>him b hb,fun _ _ _=>rfl,Nat.le_refl _⟩
 refine ⟨⟨σ,⟨hm.below,hm.inv,hm.gen,hm.lt,hm.cap,fun i j b c s c' s' x y hi hj=>hm.inj i j b c s c' s' x y (h1 i x hi) (h1 j y hj),fun i x l hi hl=>(hm.obs i x l (h1 i x hi) hl).later hL fun _ _ _ _=>rfl⟩,fun t=>?_,hB.trans hL⟩,hr.size,hr.defers,fun i hi=>?_⟩
 ·show AV.Rep σ (imm ob' σ) w (if t=d then _ else Ao tl t) _;by_cases ht:t=d
  ·subst ht;rw [if_pos rfl];have hv:=hf t;rw [show (⟨Ao tl,Aj ol,g⟩:St).tm t=.own o (.slice u) 0 len from hd] at hv
   have key:AV.Rep (fun _=>none) (fun b=>imm ob' σ b∧R b) w (.tree (.slice u) xss) (a.tmps.getD t undef):=by
    refine P6 (ob:=fun j=>if j=o then some (.vec e1 1 xss.length (hdL p u xss)) else if j.1.1=p.1.1∧j.2=p.2∧j.1.2≠0 then Aj ol j else none) (σ:=σ) (im:=fun b=>imm ob' σ b∧R b) (lo:=w0.heap.size) (fun j q l hj hl=>?_) (fun _ hb=>hb) (fun j q b c s hj hs=>⟨fun j' q' c' s' hj' hs'=>?_,hR b (Nat.le_trans hn (hm.lt j b c s hs).1)⟩) 1 _ _ _ (Wd (p:=p) (e1:=e1) (e:=e) (if_pos rfl) (fun k row hk=>?_) hl) (Ahp hv)
    ·split at hj
     ·rename_i e'; subst e';obtain rfl:=osj hj;obtain ⟨vs,g1,g2,g3⟩:=hm.obs j _ l ho hl;exact ⟨vs,g1,Ave g2,g3⟩
     ·split at hj
      ·rename_i hc;have hk:=W8 hp (j.1.2 - 1)
       have ej:kid p (j.1.2 - 1)=j:=by
        obtain ⟨⟨j1,j2⟩,j3⟩:=j;simp only [kid] at *;obtain ⟨c1,c2,c3⟩:=hc;subst c1 c2;rw [show j2 - 1+1=j2 by omega]
       rw [ej,hj] at hk;obtain ⟨row,_,rfl⟩:=oms.1 hk.symm;exact hm.obs j _ l hj hl
      ·cases hj
    ·have hd0:ob' j=none:=by
      split at hj
      ·rename_i e'; exact h2 j (.inl e')
      ·split at hj
       ·rename_i hc; exact h2 j (.inr hc)
       ·cases hj
     have hj0:∃ z,Aj ol j=some z:=by
      split at hj
      ·rename_i e'; subst e'; exact ⟨_,ho⟩
      ·split at hj
       ·exact ⟨_,hj⟩
       ·cases hj
     obtain ⟨z,hz⟩:=hj0;have:=hm.inj j j' b c s c' s' z q' hz (h1 j' q' hj') hs hs';subst this;rw [hd0] at hj';cases hj'
    ·by_cases ho':kid p k=o
     ·rw [← ho'] at ho;have:=Bw hp hk;rw [ho] at this;cases this
     ·rw [if_neg ho',if_pos ⟨rfl,rfl,by simp [kid]⟩];exact Bw hp hk
   exact key
  ·rw [if_neg ht];exact AV.Rep.later hL _ _ (hf t)
 ·refine hr.obg i fun hn=>hi ?_
  cases hx:ob' i with
  | none=>exact hx
  | some x =>
   have:=h1 i x hx;rw [show (⟨Ao tl,Aj ol,g⟩:St).ob i=Aj ol i from rfl,this] at hn;cases hn
section
variable {n:Nat} {d:Option Nat} {f:Nat->AV} {ob:Oid->Option Ob}
theorem Ary {y:Opd} {R:Nat->Prop} {t:Ty} {ys:List t.D} (h:y.ev f=.ftr R t ys):Abi ob t (y.ev f)=some (ys.length,tvC (some R) t ys):=by
 rw [h];simp only [Abi,Ty.eq?_self,Cr]; rfl
theorem Ay8 {y:Opd} {t:Ty} {ys:List t.D} (h:y.ev f=.tree t ys):Abi ob t (y.ev f)=some (ys.length,tvC none t ys):=by
 have e:t.avM none=t.av:=by
  funext x
  have key:∀ (t:Ty) (x:t.D),t.avM none x=t.av x:=by
   intro t
   induction t with
   | pair a b i1 i2=>intro x; simp only [Ty.avM,Ty.av,i1,i2]
   | _=>intro x; rfl
  exact key t x
 rw [h];simp only [Abi,Ty.eq?_self,Cr,tvC,e]
theorem Ant {x y:Opd} {o:Oid} {e1:TypeId} {t t':Ty} {b len N:Nat} {m:Option (Nat->Prop)} {xs ys:List t.D} (hx:x.ev f=.own o t' 0 len) (hob:ob o=some (.vec e1 t.size N (tvC m t xs))) (hl:len=xs.length) (hN:N=xs.length) (hy:Abi ob t (y.ev f)=some (ys.length,tvC m t ys)) (h:len+ys.length<=1073741824∧(len+ys.length)*b<=140737488355328) :
  Br n ⟨d,none,.appV e1 t b x y⟩ f ob=some (2,.own (o.1,n) t 0 (len+ys.length),[(o,none),((o.1,n),some (.vec e1 t.size (len+ys.length) (tvC m t (xs++ys))))]):=by
 subst hl hN;have h1:List.take (xs.length*t.size) (tvC m t xs)=tvC m t xs:=List.take_of_length_le (by rw [Amt]; exact Nat.le_refl _);simp only [Br,ev,Nz,hx,hy,hob,true_and,Nat.le_refl,if_true,h1,h.1,h.2,and_self,Ayu]
end
end
section
open Go.RowKit Go.Deep
set_option maxRecDepth 4000
def Ux:AC :=
 (.seq (rg [xs1 26 25 24])
 (.seq (.cond (tm 26)
  .skip
  (.exit 2))
 (.seq (.block 3 (.seq (rg [xm 27 25,xx 28 1 23 25,xl 29 28,xm 12 27,xm 13 29])
 (.region [xm 30 9,xm 31 12,xm 32 9,xm 33 12,xx 34 1 32 33,xl 35 34,xm 36 3,xm 37 10,xx 38 1 36 37,xl 39 38,xm 40 13,xo 41 (qb .mul (tm 39) (tm 40)),xo 42 (qb .add (tm 35) (tm 41)),xm 43 0,xo 44 (qb .rem (tm 42) (tm 43)),xx 45 1 30 31,xn (qs (tm 45) (tm 44))] true [])))
 (rg [xa 46 25,xm 25 46]))))
def U1:AC :=
 (.seq (rg [xs1 19 18 17])
 (.seq (.cond (tm 19)
  .skip
  (.exit 0))
 (.seq (.block 1 (.seq (rg [xm 20 18,xx 21 1 16 18,xl 22 21,xm 10 20,xm 11 22])
 (.seq (rg [xm 23 11,xn1 24 23,xo 25 (qm (ci 0))])
 (.block 2 (.loop Ux)))))
 (rg [xa 47 18,xm 18 47]))))
def Aa2:AC :=
 (.seq (rg [xo 8 (qm (.cst .nils))])
 (.seq (rg [xm 14 1,xo 15 (.make 3 .int 8 (tm 14) (tm 14)),xm 9 15])
 (.seq (.seq (rg [xm 16 2,xn1 17 16,xo 18 (qm (ci 0))])
 (.block 0 (.loop U1)))
 (.seq (rg [xm 48 9,xm 8 48])
 .ret))))
def Ana:List Res:=[.tmp 8]
theorem Am5:At Tryd.prog Tryd.f74=some (Aa2,Ana):=by kernel_rfl
def Ij (x12 a3:List Int) (u2:Nat) (a0:Int) (u0:Nat) (u1:List Int):Option (Ctl (Nat×List Int) (List Int)) :=
 cond (decide ((u0:Int)<(x12.length:Int)))
 (Option.bind (x12[u0]?) fun x20 =>
 Option.bind (u1[u0]?) fun x21 =>
 Option.bind (a3[u2]?) fun x22 =>
 og (a0≠0) <|
 og (u0+1<4611686018427387904) <|
 some (Ctl.next (u0+1,u1.set u0 (Int.tmod (wI (x21+wI (x22*x20))) a0))))
 (some (Ctl.out u1))
def Im (a2:LL) (a3:List Int) (a0:Int) (u0:Nat) (u1:List Int):Option (Ctl (Nat×List Int) (List Int)) :=
 cond (decide ((u0:Int)<(a2.length:Int)))
 (Option.bind (Option.bind (a2[u0]?) fun x12 =>
  Aw (fun s_:Nat×List Int=>Ij x12 a3 u0 a0 s_.1 s_.2) 4611686018427387904 (0,u1)) fun u2 =>
 og (u0+1<4611686018427387904) <|
 some (Ctl.next (u0+1,u2)))
 (some (Ctl.out u1))
def Lr (a0 a1:Int) (a2:LL) (a3:List Int):Option (List Int) :=
 og (0<=a1∧a1<=a1∧a1<=1073741824∧(8:Int)*a1<=140737488355328) <|
Option.bind (Aw (fun s_:Nat×List Int=>Im a2 a3 a0 s_.1 s_.2) 4611686018427387904 (0,List.replicate a1.toNat (0:Int))) fun u0 =>
some u0
def Ajh (r:List Int):RV:=⟨false,[(false,[.new 3 .int r])]⟩
theorem Akf {a0 a1:Int} {a2:LL} {a3 r:List Int} (h:Lr a0 a1 a2 a3=some r):A0 Tryd.prog Tab 74 [ai a0,ai a1,tS a2,tI a3] (Ajh r):=by
 refine A1 (by kernel_rfl) Tryd.func74 Am5 (n:=49) (by kernel_rfl) (by simp) (tl:=[(0,ai a0),(1,ai a1),(2,tS a2),(3,tI a3)]) rfl ?_;unfold Aa2;unfold Lr at h;refine Al ?_;refine Ab ?_;obtain ⟨g3,h⟩:=Am h;refine Aa 5 ?_;refine rsB 1 ?_;refine rs1 (oI 15 3 a1.toNat) (oi 15 3) (.arr 3 .int (List.replicate a1.toNat (0:Int))) (Lu (t:=.int) (k:=.i64) (k':=.i64) (m:=a1) (m':=a1) (by kernel_rfl) (by kernel_rfl) g3 rfl) ?_;refine rsB 1 ?_;refine Aq (tn_ ?_);refine wr_ ?_;refine Ar h (fun (u5:List Int) S_=>S_=⟨Ao [(9,oI 0 1 u5.length)],Aj (Ap [(oi 0 1,.arr 3 .int u5)]),2⟩) ?_ ?_
 ·intro v_ h;refine Al ?_;refine Ae ?_;refine Av h (fun t_ S_=>∃ (u2:Nat),∃ (u3:List Int),t_=(u2,u3)∧S_=⟨Ao [(0,ai a0),(3,tI a3),(9,oI 0 1 u3.length),(16,tS a2),(17,an a2.length),(18,an u2)],Aj (Ap [(oi 0 1,.arr 3 .int u3)]),2⟩) ⟨_,(A8 9 (oI 15 3 a1.toNat) (oI 15 3 ((List.replicate a1.toNat (0:Int)).length)) (by kernel_rfl) (congrArg (fun z_=>((oI 15 3 z_):AV)) (List.length_replicate.symm:a1.toNat=(List.replicate a1.toNat (0:Int)).length))).trans (Ac [(oi 0 1,oi 15 3)]),⟨0,List.replicate a1.toNat (0:Int),rfl,rfl⟩⟩ ?_;rintro n_ _ _ c_ ⟨u2,u3,rfl,rfl⟩ h hn6
  (try dsimp only at h);unfold Im at h;unfold U1;refine Al ?_;refine Ab ?_;rcases Af h with ⟨q9,h⟩ | ⟨q9,h⟩
  ·have q9_:=of_decide_eq_true q9;refine Ah q9 ?_;refine Ai (tn_ ?_);refine wr_ ?_;refine Ar h (fun (u4:List Int) S_=>S_=⟨Ao [(0,ai a0),(3,tI a3),(9,oI 0 1 u4.length),(16,tS a2),(17,an a2.length),(18,an u2)],Aj (Ap [(oi 0 1,.arr 3 .int u4)]),2⟩) ?_ ?_
   ·intro v_ h;refine Ae ?_;refine Ab ?_;obtain ⟨x12,e12,h⟩:=Ad h;refine Aa 8 ?_;refine rsB 1 ?_;refine zI sI e12 ?_;refine rsB 3 ?_;refine Aq (tn_ ?_);refine wr_ ?_;refine Al ?_;refine Ae ?_;refine Av h (fun t_ S_=>∃ (u1:Nat),∃ (u0:List Int),t_=(u1,u0)∧S_=⟨Ao [(0,ai a0),(3,tI a3),(9,oI 0 1 u0.length),(10,an u2),(16,tS a2),(17,an a2.length),(18,an u2),(23,tI x12),(24,an x12.length),(25,an u1)],Aj (Ap [(oi 0 1,.arr 3 .int u0)]),2⟩) ⟨_,Ac [],⟨0,u3,rfl,rfl⟩⟩ ?_;rintro n_ _ _ c_ ⟨u1,u0,rfl,rfl⟩ h hn14
    (try dsimp only at h);unfold Ij at h;unfold Ux;refine Al ?_;refine Ab ?_;rcases Af h with ⟨q17,h⟩ | ⟨q17,h⟩
    ·have q17_:=of_decide_eq_true q17;refine Ah q17 ?_;refine Ai (tn_ ?_);refine wr_ ?_;refine Ab ?_;refine Ae ?_;refine Ab ?_;obtain ⟨x20,e20,h⟩:=Ad h;refine Aa 8 ?_;refine rsB 1 ?_;refine zI .int e20 ?_;refine rsB 3 ?_;refine Aq (tn_ ?_);refine wr_ ?_;obtain ⟨x21,e21,h⟩:=Ad h;obtain ⟨x22,e22,h⟩:=Ad h;obtain ⟨g23,h⟩:=Am h;refine Ax 25 ?_;refine dz0 (oI 0 1 u0.length) ?_;refine dz0 (an u1) ?_;refine dz0 (oI 0 1 u0.length) ?_;refine dz0 (an u1) ?_;refine dzO (oi 0 1) .int u0.length (As e21) ?_;refine dzE (oi 0 1) e21 ?_;refine dz0 (tI a3) ?_;refine dz0 (an u2) ?_;refine dzI .int e22 ?_;refine dz0 (ai x22) ?_;refine dz0 (ai x20) ?_;refine dz0 (ai (wI (x22*x20))) ?_;refine dz0 (ai (wI (x21+wI (x22*x20)))) ?_;refine dz0 (ai a0) ?_;refine ds0 (ai (Int.tmod (wI (x21+wI (x22*x20))) a0)) (Sc (k:=.i64) (a:=wI (x21+wI (x22*x20))) (b:=a0) (by kernel_rfl) (by kernel_rfl) g23) ?_;refine dzO (oi 0 1) .int u0.length (As e21) ?_;refine dzS (oi 0 1) (Int.tmod (wI (x21+wI (x22*x20))) a0) e21 ?_;refine F5 (Bc (by kernel_rfl)) (bn_ (tn_ ?_));refine wr_ ?_;obtain ⟨g24,h⟩:=Am h;refine Aa 27 ?_;refine zA g24 ?_;refine rsB 1 ?_;refine Aq (tn_ ?_);obtain rfl:=zj h;exact ⟨(u1+1,u0.set u1 (Int.tmod (wI (x21+wI (x22*x20))) a0)),_,(A8 9 (oI 0 1 u0.length) (oI 0 1 ((u0.set u1 (Int.tmod (wI (x21+wI (x22*x20))) a0)).length)) (by kernel_rfl) (congrArg (fun z_=>((oI 0 1 z_):AV)) (((rfl:u0.length=u0.length).trans List.length_set.symm):u0.length=(u0.set u1 (Int.tmod (wI (x21+wI (x22*x20))) a0)).length))).trans (Ac []),⟨u1+1,u0.set u1 (Int.tmod (wI (x21+wI (x22*x20))) a0),rfl,rfl⟩,hn14⟩
    have q17_:=of_decide_eq_false q17;refine Ag q17 ?_;refine Au (te_ (te_ (be_ (bn_ (tn_ ?_)))));obtain rfl:=zj h;have h:=hn14
    (try dsimp only at h);obtain rfl:=zj h;exact ⟨_,Ac [],rfl⟩
   rintro u4 _ rfl h
   (try dsimp only at h);obtain ⟨g25,h⟩:=Am h;refine Aa 4 ?_;refine zA g25 ?_;refine rsB 1 ?_;refine Aq (tn_ ?_);obtain rfl:=zj h;exact ⟨(u2+1,u4),_,Ac [],⟨u2+1,u4,rfl,rfl⟩,hn6⟩
  have q9_:=of_decide_eq_false q9;refine Ag q9 ?_;refine Au (te_ (te_ (be_ (tn_ ?_))));obtain rfl:=zj h;have h:=hn6
  (try dsimp only at h);obtain rfl:=zj h;exact ⟨_,Ac [],rfl⟩
 rintro u5 _ rfl h
 (try dsimp only at h);refine Al ?_;refine An ?_;obtain rfl:=zj h;exact Bo [oI 0 1 u5.length] (A2 rfl (Fy (by kernel_rfl) rfl) A5)
def Q2:AC :=
 (.seq (rg [xs1 17 16 15])
 (.seq (.cond (tm 17)
  .skip
  (.exit 0))
 (.seq (.block 1 (.seq (rg [xm 18 16,xx 19 1 14 16,xl 20 19,xm 10 18,xm 11 20])
 (rg [xm 21 0,xm 22 9,xm 23 1,xm 24 10,xx 25 1 23 24,xl 26 25,xm 27 11,xo 28 (qc 67 [tm 21,tm 22,tm 26,tm 27] [[],[some .int],[],[some .int]])])))
 (rg [xa 29 16,xm 16 29]))))
def Vv:AC :=
 (.seq (rg [xo 8 (qm (.cst .nils))])
 (.seq (rg [xm 12 3,xo 13 (qc 57 [tm 12] [[]]),xm 9 13])
 (.seq (.seq (rg [xm 14 2,xn1 15 14,xo 16 (qm (ci 0))])
 (.block 0 (.loop Q2)))
 (.seq (rg [xm 30 9,xm 8 30])
 .ret))))
def Ah2:List Res:=[.tmp 8]
theorem Ahe:At Tryd.prog Tryd.f87=some (Vv,Ah2):=by kernel_rfl
def Gg (a2:LL) (a1:List Int) (a0:Int) (u0:Nat) (u1:List Int):Option (Ctl (Nat×List Int) (List Int)) :=
 cond (decide ((u0:Int)<(a2.length:Int)))
 (Option.bind (a2[u0]?) fun x12 =>
 Option.bind (a1[u0]?) fun x13 =>
 Option.bind (Cn a0 u1 x13 x12) fun y14 =>
 og (y14.length=u1.length) <|
 og (u0+1<4611686018427387904) <|
 some (Ctl.next (u0+1,y14)))
 (some (Ctl.out u1))
def Jm (a0:Int) (a1:List Int) (a2:LL) (a3:Int):Option (List Int) :=
 Option.bind (Ed a3) fun y3 =>
Option.bind (Aw (fun s_:Nat×List Int=>Gg a2 a1 a0 s_.1 s_.2) 4611686018427387904 (0,y3)) fun u0 =>
some u0
def Ad8 (r:List Int):RV:=⟨false,[(false,[.new 3 .int r])]⟩
theorem Ad3 {a0:Int} {a1:List Int} {a2:LL} {a3:Int} {r:List Int} (h:Jm a0 a1 a2 a3=some r):A0 Tryd.prog Tab 87 [ai a0,tI a1,tS a2,ai a3] (Ad8 r):=by
 refine A1 (by kernel_rfl) Tryd.func87 Ahe (n:=31) (by kernel_rfl) (by simp) (tl:=[(0,ai a0),(1,tI a1),(2,tS a2),(3,ai a3)]) rfl ?_;unfold Vv;unfold Jm at h;refine Al ?_;refine Ab ?_;obtain ⟨y3,h3,h⟩:=Ad h;refine Aa 5 ?_;refine rsB 1 ?_;refine zc (oI 208 3 y3.length) [nI 208 3 y3] [ai a3] (Is h3) ?_;refine rsB 1 ?_;refine Aq (tn_ ?_);refine wr_ ?_;refine Ar h (fun (u2:List Int) S_=>S_=⟨Ao [(9,oI 0 1 u2.length)],Aj (Ap [(oi 0 1,.arr 3 .int u2)]),2⟩) ?_ ?_
 ·intro v_ h;refine Al ?_;refine Ae ?_;refine Av h (fun t_ S_=>∃ (u1:Nat),∃ (u0:List Int),t_=(u1,u0)∧S_=⟨Ao [(0,ai a0),(1,tI a1),(9,oI 0 1 u0.length),(14,tS a2),(15,an a2.length),(16,an u1)],Aj (Ap [(oi 0 1,.arr 3 .int u0)]),2⟩) ⟨_,Ac [(oi 0 1,oi 208 3)],⟨0,y3,rfl,rfl⟩⟩ ?_;rintro n_ _ _ c_ ⟨u1,u0,rfl,rfl⟩ h hn6
  (try dsimp only at h);unfold Gg at h;unfold Q2;refine Al ?_;refine Ab ?_;rcases Af h with ⟨q9,h⟩ | ⟨q9,h⟩
  ·have q9_:=of_decide_eq_true q9;refine Ah q9 ?_;refine Ai (tn_ ?_);refine wr_ ?_;refine Ab ?_;refine Ae ?_;refine Ab ?_;obtain ⟨x12,e12,h⟩:=Ad h;refine Aa 8 ?_;refine rsB 1 ?_;refine zI sI e12 ?_;refine rsB 3 ?_;refine Aq (tn_ ?_);refine wr_ ?_;obtain ⟨x13,e13,h⟩:=Ad h;obtain ⟨y14,h14,h⟩:=Ad h;obtain ⟨g15,h⟩:=Am h;refine Aa 16 ?_;refine rsB 4 ?_;refine zI .int e13 ?_;refine rsB 2 ?_;refine Ic (.tup []) [nI 0 1 y14,(oi 0 1,none)] [(oi 0 0,oi 0 1)] [ai a0,oI 0 1 u0.length,ai x13,tI x12] (caps:=[]) trivial (Jt h14 rfl) Jz ⟨by kernel_rfl,trivial⟩ (.cons (.ren (by kernel_rfl)) (.cons (.ren (by kernel_rfl)) (.cons (.ren (by kernel_rfl)) (.cons (.ren (by kernel_rfl)) .nil)))) (Bj (by kernel_rfl) (by kernel_rfl) ⟨Ck (by kernel_rfl),trivial⟩) ?_;refine Aq (bn_ (tn_ ?_));refine wr_ ?_;obtain ⟨g16,h⟩:=Am h;refine Aa 18 ?_;refine zA g16 ?_;refine rsB 1 ?_;refine Aq (tn_ ?_);obtain rfl:=zj h;exact ⟨(u1+1,y14),_,(A8 9 (oI 0 1 u0.length) (oI 0 1 y14.length) (by kernel_rfl) (congrArg (fun z_=>((oI 0 1 z_):AV)) (g15.symm:u0.length=y14.length))).trans (Ac []),⟨u1+1,y14,rfl,rfl⟩,hn6⟩
  have q9_:=of_decide_eq_false q9;refine Ag q9 ?_;refine Au (te_ (te_ (be_ (tn_ ?_))));obtain rfl:=zj h;have h:=hn6
  (try dsimp only at h);obtain rfl:=zj h;exact ⟨_,Ac [],rfl⟩
 rintro u2 _ rfl h
 (try dsimp only at h);refine Al ?_;refine An ?_;obtain rfl:=zj h;exact Bo [oI 0 1 u2.length] (A2 rfl (Fy (by kernel_rfl) rfl) A5)
def Rf:AC :=
 (.seq (rg [xs1 15 14 13])
 (.seq (.cond (tm 15)
  .skip
  (.exit 0))
 (.seq (.block 1 (.seq (rg [xx 16 1 12 14,xl 17 16,xm 11 17])
 (rg [xm 18 9,xm 19 0,xm 20 1,xm 21 3,xm 22 11,xo 23 (qc 74 [tm 19,tm 20,tm 21,tm 22] [[],[],[some sI],[some .int]]),xo 24 (.mkV 23 sI 1 [tm 23]),xo 25 (.appV 23 sI 24 (tm 18) (tm 24)),xm 9 25])))
 (rg [xa 26 14,xm 14 26]))))
def Wq:AC :=
 (.seq (rg [xo 8 (qm (.cst .nils))])
 (.seq (rg [xo 9 (qm (.cst .nils))])
 (.seq (.seq (rg [xm 12 2,xn1 13 12,xo 14 (qm (ci 0))])
 (.block 0 (.loop Rf)))
 (.seq (rg [xm 27 9,xm 8 27])
 .ret))))
def Afm:List Res:=[.tmp 8]
theorem Afu:At Tryd.prog Tryd.f43=some (Wq,Afm):=by kernel_rfl
theorem N5:Be Tryd.prog 43=true:=by kernel_rfl
def Gp (a2:LL) (a0 a1:Int) (a3:LL) (u0:Nat) (u1:LL):Option (Ctl (Nat×LL) (LL)) :=
 cond (decide ((u0:Int)<(a2.length:Int)))
 (Option.bind (a2[u0]?) fun x11 =>
 Option.bind (Lr a0 a1 a3 x11) fun y12 =>
 og (u1.length+1<=1073741824∧(u1.length+1)*24<=140737488355328) <|
 og (u0+1<4611686018427387904) <|
 some (Ctl.next (u0+1,u1++[y12])))
 (some (Ctl.out u1))
def Fs (a0 a1:Int) (a2 a3:LL):Option (LL) :=
 Option.bind (Aw (fun s_:Nat×LL=>Gp a2 a0 a1 a3 s_.1 s_.2) 4611686018427387904 (0,([]:LL))) fun u0 =>
some u0
def Ady (r:LL):RV:=⟨false,[(false,[.frz (tS r)])]⟩
theorem Od {a0 a1:Int} {a2 a3 r:LL} (h:Fs a0 a1 a2 a3=some r):A0 Tryd.prog Tab 43 [ai a0,ai a1,tS a2,tS a3] (Ady r):=by
 refine Ej (by kernel_rfl) Tryd.func43 Afu (n:=28) (by kernel_rfl) (by simp) (tl:=[(0,ai a0),(1,ai a1),(2,tS a2),(3,tS a3)]) rfl fun zn_ nz_ hz_=>?_
 unfold Wq;unfold Fs at h;refine Al ?_;refine Al ?_;refine Ar h (fun (u1:LL) S_=>S_=⟨Ao [(9,oS 0 1 u1.length)],Aj (Ap [(oi 0 1,.mat 23 (oi 1 1) .int u1),(oi 1 1,.pool 3 .int u1)]),2⟩) ?_ ?_
 ·intro v_ h;refine Al ?_;refine Ae ?_;refine Av h (fun t_ S_=>∃ (u2:Nat),∃ (u0:LL),t_=(u2,u0)∧S_=⟨Ao [(0,ai a0),(1,ai a1),(3,tS a3),(9,oS 0 1 u0.length),(12,tS a2),(13,an a2.length),(14,an u2)],Aj (Ap [(oi 0 1,.mat 23 (oi 1 1) .int u0),(oi 1 1,.pool 3 .int u0)]),2⟩) ⟨_,(Ug 9 23 sI (by kernel_rfl)).trans ((B2 (e1:=23) (n:=0) 9000 (oi 9 6) 3 .int (by kernel_rfl) (by kernel_rfl) rfl (by kernel_rfl) (by kernel_rfl)).trans (Ac [(oi 0 1,oi 9 6),(oi 1 1,oi 9000 7)])),⟨0,([]:LL),rfl,rfl⟩⟩ ?_;rintro n_ _ _ c_ ⟨u2,u0,rfl,rfl⟩ h hn5
  (try dsimp only at h);unfold Gp at h;unfold Rf;refine Al ?_;refine Ab ?_;rcases Af h with ⟨q8,h⟩ | ⟨q8,h⟩
  ·have q8_:=of_decide_eq_true q8;refine Ah q8 ?_;refine Ai (tn_ ?_);refine wr_ ?_;refine Ab ?_;refine Ae ?_;refine Ab ?_;obtain ⟨x11,e11,h⟩:=Ad h;refine Aa 6 ?_;refine zI sI e11 ?_;refine rsB 2 ?_;refine Aq (tn_ ?_);refine wr_ ?_;obtain ⟨y12,h12,h⟩:=Ad h;obtain ⟨g13,h⟩:=Am h;refine Aa 15 ?_;refine rsB 5 ?_;refine zc (oI 368 11 y12.length) [nI 368 11 y12] [ai a0,ai a1,tS a3,tI x11] (E4 (Akf h12)) ?_;refine Zs (oS 24 12 1) (oi 24 12) (.vec 23 1 1 ([oI 368 11 y12.length])) trivial (G1 (by kernel_rfl)) ?_;refine rs2 (oS 0 13 (u0.length+1)) (oi 0 1) (oi 0 13) (.vec 23 1 (u0.length+1) (hdL (oi 1 1) .int u0++[oI 368 11 y12.length])) (Dd (u:=.int) (t':=sI) (t2:=sI) (o:=oi 0 1) (q:=oi 24 12) (e2:=23) (p:=oi 1 1) (xss:=u0) (cs:=[oI 368 11 y12.length]) (len:=u0.length) (by kernel_rfl) (by kernel_rfl) rfl (by kernel_rfl) (by kernel_rfl) rfl g13) ?_;refine rsB 1 ?_;refine Aq (bn_ (tn_ ?_));refine ⟨_,B8 (e1:=23) (e:=3) (u:=.int) (n:=u0.length+1) (len:=y12.length) (row:=y12) (ys:=y12) (xss:=u0) 9000 (oi 0 13) (oi 1 1) (oi 368 11) (by kernel_rfl) (by kernel_rfl) rfl (by kernel_rfl) (by kernel_rfl) (H2 rfl) (H1 rfl) (by kernel_rfl) (by kernel_rfl) (by kernel_rfl),?_⟩;obtain ⟨g14,h⟩:=Am h;refine Aa 18 ?_;refine zA g14 ?_;refine rsB 1 ?_;refine Aq (tn_ ?_);obtain rfl:=zj h;exact ⟨(u2+1,u0++[y12]),_,(A8 9 (oS 0 13 (u0.length+1)) (oS 0 13 ((u0++[y12]).length)) (by kernel_rfl) (congrArg (fun z_=>((oS 0 13 z_):AV)) ((by simp):u0.length+1=(u0++[y12]).length))).trans (Ac [(oi 0 1,oi 0 13),(oi 1 1,oi 9000 15)]),⟨u2+1,u0++[y12],rfl,rfl⟩,hn5⟩
  have q8_:=of_decide_eq_false q8;refine Ag q8 ?_;refine Au (te_ (te_ (be_ (tn_ ?_))));obtain rfl:=zj h;have h:=hn5
  (try dsimp only at h);obtain rfl:=zj h;exact ⟨_,Ac [],rfl⟩
 rintro u1 _ rfl h
 (try dsimp only at h);refine Al ?_;refine An ?_;obtain rfl:=zj h;exact Kk [(false,[oS 0 1 u1.length])] (K9 (Bp (.mat (p:=oi 1 1) (e1:=23) (e:=3) (by kernel_rfl) (Bn (by kernel_rfl)) rfl)) Gz)
def Rj:AC :=
 (.seq (rg [xs1 16 15 14])
 (.seq (.cond (tm 16)
  .skip
  (.exit 0))
 (.seq (.block 1 (.seq (rg [xx 17 1 13 15,xl 18 17,xm 11 18])
 (rg [xm 19 9,xm 20 0,xm 21 11,xm 22 2,xm 23 3,xo 24 (qc 87 [tm 20,tm 21,tm 22,tm 23] [[],[some .int],[some sI],[]]),xo 25 (.mkV 23 sI 1 [tm 24]),xo 26 (.appV 23 sI 24 (tm 19) (tm 25)),xm 9 26])))
 (rg [xa 27 15,xm 15 27]))))
def Wp:AC :=
 (.seq (rg [xo 8 (qm (.cst .nils))])
 (.seq (rg [xo 12 (.mkV 23 sI 1 []),xm 9 12])
 (.seq (.seq (rg [xm 13 1,xn1 14 13,xo 15 (qm (ci 0))])
 (.block 0 (.loop Rj)))
 (.seq (rg [xm 28 9,xm 8 28])
 .ret))))
def Ag5:List Res:=[.tmp 8]
theorem Aex:At Tryd.prog Tryd.f61=some (Wp,Ag5):=by kernel_rfl
theorem Kz:Be Tryd.prog 61=true:=by kernel_rfl
def Gl (a1:LL) (a0:Int) (a2:LL) (a3:Int) (u0:Nat) (u1:LL):Option (Ctl (Nat×LL) (LL)) :=
 cond (decide ((u0:Int)<(a1.length:Int)))
 (Option.bind (a1[u0]?) fun x11 =>
 Option.bind (Jm a0 x11 a2 a3) fun y12 =>
 og (u1.length+1<=1073741824∧(u1.length+1)*24<=140737488355328) <|
 og (u0+1<4611686018427387904) <|
 some (Ctl.next (u0+1,u1++[y12])))
 (some (Ctl.out u1))
def Ek (a0:Int) (a1 a2:LL) (a3:Int):Option (LL) :=
 Option.bind (Aw (fun s_:Nat×LL=>Gl a1 a0 a2 a3 s_.1 s_.2) 4611686018427387904 (0,([]:LL))) fun u0 =>
some u0
def Ado (r:LL):RV:=⟨false,[(false,[.frz (tS r)])]⟩
theorem K2 {a0:Int} {a1 a2:LL} {a3:Int} {r:LL} (h:Ek a0 a1 a2 a3=some r):A0 Tryd.prog Tab 61 [ai a0,tS a1,tS a2,ai a3] (Ado r):=by
 refine Ej (by kernel_rfl) Tryd.func61 Aex (n:=29) (by kernel_rfl) (by simp) (tl:=[(0,ai a0),(1,tS a1),(2,tS a2),(3,ai a3)]) rfl fun zn_ nz_ hz_=>?_
 unfold Wp;unfold Ek at h;refine Al ?_;refine Ab ?_;refine Aa 4 ?_;refine Zs (oS 12 2 0) (oi 12 2) (.vec 23 1 0 []) trivial (G1 (by kernel_rfl)) ?_;refine rsB 1 ?_;refine Aq (tn_ ?_);refine ⟨_,B2 (e1:=23) (n:=0) 9000 (oi 12 2) 3 .int (by kernel_rfl) (by kernel_rfl) rfl (by kernel_rfl) (by kernel_rfl),?_⟩;refine Ar h (fun (u1:LL) S_=>S_=⟨Ao [(9,oS 0 1 u1.length)],Aj (Ap [(oi 0 1,.mat 23 (oi 1 1) .int u1),(oi 1 1,.pool 3 .int u1)]),2⟩) ?_ ?_
 ·intro v_ h;refine Al ?_;refine Ae ?_;refine Av h (fun t_ S_=>∃ (u2:Nat),∃ (u0:LL),t_=(u2,u0)∧S_=⟨Ao [(0,ai a0),(2,tS a2),(3,ai a3),(9,oS 0 1 u0.length),(13,tS a1),(14,an a1.length),(15,an u2)],Aj (Ap [(oi 0 1,.mat 23 (oi 1 1) .int u0),(oi 1 1,.pool 3 .int u0)]),2⟩) ⟨_,Ac [(oi 0 1,oi 12 2),(oi 1 1,oi 9000 4)],⟨0,([]:LL),rfl,rfl⟩⟩ ?_;rintro n_ _ _ c_ ⟨u2,u0,rfl,rfl⟩ h hn5
  (try dsimp only at h);unfold Gl at h;unfold Rj;refine Al ?_;refine Ab ?_;rcases Af h with ⟨q8,h⟩ | ⟨q8,h⟩
  ·have q8_:=of_decide_eq_true q8;refine Ah q8 ?_;refine Ai (tn_ ?_);refine wr_ ?_;refine Ab ?_;refine Ae ?_;refine Ab ?_;obtain ⟨x11,e11,h⟩:=Ad h;refine Aa 6 ?_;refine zI sI e11 ?_;refine rsB 2 ?_;refine Aq (tn_ ?_);refine wr_ ?_;obtain ⟨y12,h12,h⟩:=Ad h;obtain ⟨g13,h⟩:=Am h;refine Aa 15 ?_;refine rsB 5 ?_;refine zc (oI 384 11 y12.length) [nI 384 11 y12] [ai a0,tI x11,tS a2,ai a3] (E4 (Ad3 h12)) ?_;refine Zs (oS 25 12 1) (oi 25 12) (.vec 23 1 1 ([oI 384 11 y12.length])) trivial (G1 (by kernel_rfl)) ?_;refine rs2 (oS 0 13 (u0.length+1)) (oi 0 1) (oi 0 13) (.vec 23 1 (u0.length+1) (hdL (oi 1 1) .int u0++[oI 384 11 y12.length])) (Dd (u:=.int) (t':=sI) (t2:=sI) (o:=oi 0 1) (q:=oi 25 12) (e2:=23) (p:=oi 1 1) (xss:=u0) (cs:=[oI 384 11 y12.length]) (len:=u0.length) (by kernel_rfl) (by kernel_rfl) rfl (by kernel_rfl) (by kernel_rfl) rfl g13) ?_;refine rsB 1 ?_;refine Aq (bn_ (tn_ ?_));refine ⟨_,B8 (e1:=23) (e:=3) (u:=.int) (n:=u0.length+1) (len:=y12.length) (row:=y12) (ys:=y12) (xss:=u0) 9000 (oi 0 13) (oi 1 1) (oi 384 11) (by kernel_rfl) (by kernel_rfl) rfl (by kernel_rfl) (by kernel_rfl) (H2 rfl) (H1 rfl) (by kernel_rfl) (by kernel_rfl) (by kernel_rfl),?_⟩;obtain ⟨g14,h⟩:=Am h;refine Aa 18 ?_;refine zA g14 ?_;refine rsB 1 ?_;refine Aq (tn_ ?_);obtain rfl:=zj h;exact ⟨(u2+1,u0++[y12]),_,(A8 9 (oS 0 13 (u0.length+1)) (oS 0 13 ((u0++[y12]).length)) (by kernel_rfl) (congrArg (fun z_=>((oS 0 13 z_):AV)) ((by simp):u0.length+1=(u0++[y12]).length))).trans (Ac [(oi 0 1,oi 0 13),(oi 1 1,oi 9000 15)]),⟨u2+1,u0++[y12],rfl,rfl⟩,hn5⟩
  have q8_:=of_decide_eq_false q8;refine Ag q8 ?_;refine Au (te_ (te_ (be_ (tn_ ?_))));obtain rfl:=zj h;have h:=hn5
  (try dsimp only at h);obtain rfl:=zj h;exact ⟨_,Ac [],rfl⟩
 rintro u1 _ rfl h
 (try dsimp only at h);refine Al ?_;refine An ?_;obtain rfl:=zj h;exact Kk [(false,[oS 0 1 u1.length])] (K9 (Bp (.mat (p:=oi 1 1) (e1:=23) (e:=3) (by kernel_rfl) (Bn (by kernel_rfl)) rfl)) Gz)
def Mn:AC :=
 (.seq (.seq (rg [xm 54 9,xf 55 1 5,xl 56 55,xs1 57 54 56])
 (.cond (tm 57)
  .skip
  (.exit 2)))
 (.seq (.block 3 (.seq (.region [xm 61 0,xo 62 (.i (.ld false 3 (tm 3))),xf 63 0 5,xl 64 63,xo 65 (.make 3 .int 8 (tm 64) (tm 64)),xf 66 1 5,xl 67 66,xm 68 9,xo 69 (qc 40 [tm 67,tm 68] [[],[]]),⟨some 70,none,qc 39 [tm 61,tm 62,tm 65,tm 69] [[],[none,some T4,some .int],[some .int],[some .int]]⟩,xm 60 70,xo 71 (.i (.extr 0 (tm 60))),xo 72 (.i (.extr 1 (tm 60))),xm 10 71,xm 11 72] true [(1,8),(3,8),(4,8)])
 (.seq (.region [xf 73 4 5,xl 74 73,xm 75 10,xo 76 (qc 26 [tm 75] [[some .int]]),xo 77 (.mkV 23 sI 1 [tm 76]),xo 78 (.appV 23 sI 24 (tm 74) (tm 77)),xf 79 4 5,xn (qs (tm 79) (tm 78))] true [(1,3),(1,4)])
 (.region [xf 80 6 5,xl 81 80,xm 82 11,xo 83 (qc 26 [tm 82] [[some .int]]),xo 84 (.mkV 23 sI 1 [tm 83]),xo 85 (.appV 23 sI 24 (tm 81) (tm 84)),xf 86 6 5,xn (qs (tm 86) (tm 85))] true [(1,3),(1,4)]))))
 (rg [xm 58 9,xa 59 58,xm 9 59])))
def Mm:AC :=
 (.seq (.seq (rg [xm 21 6,xf 22 0 5,xl 23 22,xs1 24 21 23])
 (.cond (tm 24)
  .skip
  (.exit 0)))
 (.seq (.block 1 (.seq (.region [xm 28 0,xo 29 (.i (.ld false 3 (tm 3))),xf 30 0 5,xl 31 30,xm 32 6,xo 33 (qc 40 [tm 31,tm 32] [[],[]]),xf 34 1 5,xl 35 34,xo 36 (.make 3 .int 8 (tm 35) (tm 35)),⟨some 37,none,qc 39 [tm 28,tm 29,tm 33,tm 36] [[],[none,some T4,some .int],[some .int],[some .int]]⟩,xm 27 37,xo 38 (.i (.extr 0 (tm 27))),xo 39 (.i (.extr 1 (tm 27))),xm 7 38,xm 8 39] true [(1,5),(5,7),(5,8)])
 (.seq (.region [xf 40 3 5,xl 41 40,xm 42 7,xo 43 (qc 26 [tm 42] [[some .int]]),xo 44 (.mkV 23 sI 1 [tm 43]),xo 45 (.appV 23 sI 24 (tm 41) (tm 44)),xf 46 3 5,xn (qs (tm 46) (tm 45))] true [(1,3),(1,4)])
 (.region [xf 47 5 5,xl 48 47,xm 49 8,xo 50 (qc 26 [tm 49] [[some .int]]),xo 51 (.mkV 23 sI 1 [tm 50]),xo 52 (.appV 23 sI 24 (tm 48) (tm 51)),xf 53 5 5,xn (qs (tm 53) (tm 52))] true [(1,3),(1,4)]))))
 (rg [xm 25 6,xa 26 25,xm 6 26])))
def Qf:AC :=
 (.seq (rg [xo 3 (.i (.box 31 (tm 1))),xo 4 (.i (.alloc 39 [.int .i64 0,.int .i64 0,.int .i64 0,.nils,.nils,.nils,.nils]))])
 (.seq (.region [xo 12 (.i (.ld false 3 (tm 3))),⟨some 13,none,qc 20 [tm 12] [[none,some T4,some .int]]⟩,xn1 14 13,xf 15 0 3,xl 16 15,xf 17 2 3,xl 18 17,xn1 19 18,xo 20 (.build [.int .i64 0,.int .i64 0,.int .i64 0,.nils,.nils,.nils,.nils] [(0,1,tm 14),(1,1,tm 16),(2,1,tm 19)]),xo 5 (.i (.alloc 39 [.int .i64 0,.int .i64 0,.int .i64 0,.nils,.nils,.nils,.nils])),xn (.st false 7 (tm 5) (tm 20))] true [(1,4),(1,6),(1,9)])
 (.seq (.seq (rg [xo 6 (qm (ci 0))])
 (.block 0 (.loop Mm)))
 (.seq (.seq (rg [xo 9 (qm (ci 0))])
 (.block 2 (.loop Mn)))
 (.seq (rg [xo 87 (.i (.ld false 7 (tm 5))),xn (.st false 7 (tm 4) (tm 87))])
 .ret)))))
def Y3:List Res:=[.cell 4 false 7]
theorem Y5:At Tryd.prog Tryd.f21=some (Qf,Y3):=by kernel_rfl
def D0 (y3:List Int) (u0 a0:Int) (u4:List (Int×Int×Int×Int)) (u5:List Int) (u1:Nat) (u2 u3:LL):Option (Ctl (Nat×LL×LL) (LL×LL)) :=
 cond (decide ((u1:Int)<(y3.length:Int)))
 (Option.bind (Fe (y3.length:Int) (u1:Int)) fun y12 =>
 og (0<=u0∧u0<=u0∧u0<=1073741824∧(8:Int)*u0<=140737488355328) <|
 Option.bind (Iq a0 u0 u4 u5 y12 (List.replicate u0.toNat (0:Int))) fun y14 =>
 Option.bind (C2 y14.1) fun y16 =>
 og (u2.length+1<=1073741824∧(u2.length+1)*24<=140737488355328) <|
 Option.bind (C2 y14.2) fun y18 =>
 og (u3.length+1<=1073741824∧(u3.length+1)*24<=140737488355328) <|
 og (u1+1<4611686018427387904) <|
 some (Ctl.next (u1+1,u2++[y16],u3++[y18])))
 (some (Ctl.out (u2,u3)))
def Dv (u3:Int) (y3:List Int) (a0:Int) (u4:List (Int×Int×Int×Int)) (u5:List Int) (u0:Nat) (u1 u2:LL):Option (Ctl (Nat×LL×LL) (LL×LL)) :=
 cond (decide ((u0:Int)<u3))
 (og (0<=(y3.length:Int)∧(y3.length:Int)<=(y3.length:Int)∧(y3.length:Int)<=1073741824∧(8:Int)*(y3.length:Int)<=140737488355328) <|
 Option.bind (Fe u3 (u0:Int)) fun y30 =>
 Option.bind (Iq a0 u3 u4 u5 (List.replicate y3.length (0:Int)) y30) fun y31 =>
 Option.bind (C2 y31.1) fun y33 =>
 og (u1.length+1<=1073741824∧(u1.length+1)*24<=140737488355328) <|
 Option.bind (C2 y31.2) fun y35 =>
 og (u2.length+1<=1073741824∧(u2.length+1)*24<=140737488355328) <|
 og (u0+1<4611686018427387904) <|
 some (Ctl.next (u0+1,u1++[y33],u2++[y35])))
 (some (Ctl.out (u1,u2)))
def H8 (a0 u0:Int) (u2:List (Int×Int×Int×Int)) (u1:List Int):Option (Int×Int×Int×LL×LL×LL×LL) :=
 Option.bind (Do u0 u2 u1) fun y3 =>
Option.bind (Aw (fun s_:Nat×LL×LL=>D0 y3 u0 a0 u2 u1 s_.1 s_.2.1 s_.2.2) 4611686018427387904 (0,([]:LL),([]:LL))) fun (u3,u4) =>
Option.bind (Aw (fun s_:Nat×LL×LL=>Dv u0 y3 a0 u2 u1 s_.1 s_.2.1 s_.2.2) 4611686018427387904 (0,([]:LL),([]:LL))) fun (u5,u6) =>
some ((y3.length:Int),u0,(u1.length:Int),u3,u5,u4,u6)
def Xi (r:Int×Int×Int×LL×LL×LL×LL):RV:=⟨false,[(true,[.sc (.int .i64 r.1),.sc (.int .i64 r.2.1),.sc (.int .i64 r.2.2.1),.frz (tS r.2.2.2.1),.frz (tS r.2.2.2.2.1),.frz (tS r.2.2.2.2.2.1),.frz (tS r.2.2.2.2.2.2)])]⟩
theorem Xk {a0 u0:Int} {u8:List (Int×Int×Int×Int)} {u1:List Int} {r:Int×Int×Int×LL×LL×LL×LL} (h:H8 a0 u0 u8 u1=some r):A0 Tryd.prog Tab 21 [ai a0,.agg [ai u0,.tree T4 u8,tI u1]] (Xi r):=by
 refine Ej (by kernel_rfl) Tryd.func21 Y5 (n:=88) (by kernel_rfl) (by simp) (tl:=[(0,ai a0),(1,.agg [ai u0,.tree T4 u8,tI u1])]) rfl fun zn_ nz_ hz_=>?_
 unfold Qf;unfold H8 at h;refine Al ?_;refine Ab ?_;obtain ⟨y3,h3,h⟩:=Ad h;refine Ax 14 ?_;refine dzl (.agg [ai u0,.tree T4 u8,tI u1]) ?_;refine dzc (oI 208 4 y3.length) [nI 208 4 y3] [.agg [ai u0,.tree T4 u8,tI u1]] (E4 (Js h3)) ?_;refine dz0 (an y3.length) ?_;refine dz0 (.box (oi 3 1) 0) ?_;refine dzl (ai u0) ?_;refine dz0 (.box (oi 3 1) 2) ?_;refine dzl (tI u1) ?_;refine dz0 (an u1.length) ?_;refine dz0 (.agg [an y3.length,ai u0,an u1.length,.nils,.nils,.nils,.nils]) ?_;refine ds1 (.box (oi 5 12) 0) (oi 5 12) (.cells 39 [ai 0,ai 0,ai 0,.nils,.nils,.nils,.nils]) (by kernel_rfl) ?_;refine K7 (oi 5 12) (oi 5 12) (.cells 39 [an y3.length,ai u0,an u1.length,.nils,.nils,.nils,.nils]) (by kernel_rfl) ?_;refine F5 (Bc (by kernel_rfl)) (tn_ ?_);refine wr_ ?_;refine Ar h (fun t_ S_=>∃ (u6:LL),∃ (u7:LL),t_=(u6,u7)∧S_=⟨Ao [(0,ai a0),(3,.box (oi 0 1) 0),(4,.box (oi 1 1) 0),(5,.box (oi 2 1) 0)],Aj (Ap [(oi 0 1,.cells 31 [ai u0,.tree T4 u8,tI u1]),(oi 1 1,.cells 39 [ai 0,ai 0,ai 0,.nils,.nils,.nils,.nils]),(oi 2 1,.cells 39 [an y3.length,ai u0,an u1.length,oS 3 1 u6.length,.nils,oS 5 1 u7.length,.nils]),(oi 3 1,.mat 23 (oi 4 1) .int u6),(oi 4 1,.pool 3 .int u6),(oi 5 1,.mat 23 (oi 6 1) .int u7),(oi 6 1,.pool 3 .int u7)]),2⟩) ?_ ?_
 ·intro v_ h;refine Al ?_;refine Ae ?_;refine Av h (fun t_ S_=>∃ (u9:Nat),∃ (u2:LL),∃ (u3:LL),t_=(u9,u2,u3)∧S_=⟨Ao [(0,ai a0),(3,.box (oi 0 1) 0),(4,.box (oi 1 1) 0),(5,.box (oi 2 1) 0),(6,an u9)],Aj (Ap [(oi 0 1,.cells 31 [ai u0,.tree T4 u8,tI u1]),(oi 1 1,.cells 39 [ai 0,ai 0,ai 0,.nils,.nils,.nils,.nils]),(oi 2 1,.cells 39 [an y3.length,ai u0,an u1.length,oS 3 1 u2.length,.nils,oS 5 1 u3.length,.nils]),(oi 3 1,.mat 23 (oi 4 1) .int u2),(oi 4 1,.pool 3 .int u2),(oi 5 1,.mat 23 (oi 6 1) .int u3),(oi 6 1,.pool 3 .int u3)]),2⟩) ⟨_,(Bt 9000 (oi 5 12) 3 39 [an y3.length,ai u0,an u1.length,.nils,.nils,.nils,.nils] [an y3.length,ai u0,an u1.length,oS 9000 15 0,.nils,.nils,.nils] 23 sI (by kernel_rfl) (by kernel_rfl) (by kernel_rfl)).trans ((B2 (e1:=23) (n:=0) 9000 (oi 9000 15) 3 .int (by kernel_rfl) (by kernel_rfl) rfl (by kernel_rfl) (by kernel_rfl)).trans ((Bt 9002 (oi 5 12) 5 39 [an y3.length,ai u0,an u1.length,oS 9000 15 0,.nils,.nils,.nils] [an y3.length,ai u0,an u1.length,oS 9000 15 0,.nils,oS 9002 17 0,.nils] 23 sI (by kernel_rfl) (by kernel_rfl) (by kernel_rfl)).trans ((B2 (e1:=23) (n:=0) 9000 (oi 9002 17) 3 .int (by kernel_rfl) (by kernel_rfl) rfl (by kernel_rfl) (by kernel_rfl)).trans (Ac [(oi 0 1,oi 3 1),(oi 1 1,oi 4 2),(oi 2 1,oi 5 12),(oi 3 1,oi 9000 15),(oi 4 1,oi 9000 16),(oi 5 1,oi 9002 17),(oi 6 1,oi 9000 18)])))),⟨0,([]:LL),([]:LL),rfl,rfl⟩⟩ ?_;rintro n_ _ _ c_ ⟨u9,u2,u3,rfl,rfl⟩ h hn6
  (try dsimp only at h);unfold D0 at h;unfold Mm;refine Ab ?_;refine Al ?_;rcases Af h with ⟨q9,h⟩ | ⟨q9,h⟩
  ·have q9_:=of_decide_eq_true q9;refine Ah q9 ?_;refine Ai (tn_ ?_);refine wr_ ?_;refine Ab ?_;refine Ae ?_;refine Ab ?_;obtain ⟨y12,h12,h⟩:=Ad h;obtain ⟨g13,h⟩:=Am h;obtain ⟨y14,h14,h⟩:=Ad h;refine Ax 21 ?_;refine dz0 (ai a0) ?_;refine dzl (.agg [ai u0,.tree T4 u8,tI u1]) ?_;refine dz0 (.box (oi 2 1) 0) ?_;refine dzl (an y3.length) ?_;refine dz0 (an u9) ?_;refine dzc (oI 528 11 y12.length) [nI 528 11 y12] [an y3.length,an u9] (E4 (V5 h12)) ?_;refine dz0 (.box (oi 2 1) 1) ?_;refine dzl (ai u0) ?_;refine ds1 (oI 36 14 u0.toNat) (oi 36 14) (.arr 3 .int (List.replicate u0.toNat (0:Int))) (Lu (t:=.int) (k:=.i64) (k':=.i64) (m:=u0) (m':=u0) (by kernel_rfl) (by kernel_rfl) g13 rfl) ?_;refine Lg (.tup [oI 592 15 y14.1.length,oI 593 15 y14.2.length]) [nI 592 15 y14.1,nI 593 15 y14.2] [ai a0,.agg [ai u0,.tree T4 u8,tI u1],oI 528 11 y12.length,oI 36 14 u0.toNat] _ (caps:=[]) (args0:=[ai a0,.agg [ai u0,.tree T4 u8,tI u1],tI y12,tI (List.replicate u0.toNat (0:Int))]) trivial (Ay (by kernel_rfl) (Ay (by kernel_rfl) (Ay (Ca (e:=3) (by kernel_rfl) rfl) (Ay (Ca (e:=3) (by kernel_rfl) List.length_replicate.symm) B9)))) (E4 (Wt h14)) Wk ?_;refine dz0 (.tup [oI 592 15 y14.1.length,oI 593 15 y14.2.length]) ?_;refine dz0 (oI 592 15 y14.1.length) ?_;refine dz0 (oI 593 15 y14.2.length) ?_;refine dz0 (oI 592 15 y14.1.length) ?_;refine dz0 (oI 593 15 y14.2.length) ?_;refine F5 (Bc (by kernel_rfl)) (tn_ ?_);refine wr_ ?_;refine Ab ?_;obtain ⟨y16,h16,h⟩:=Ad h;obtain ⟨g17,h⟩:=Am h;refine Ax 29 ?_;refine dz0 (.box (oi 2 1) 3) ?_;refine dzl (oS 3 1 u2.length) ?_;refine dz0 (oI 592 15 y14.1.length) ?_;refine Lg (oI 688 24 y16.length) [nI 688 24 y16] [oI 592 15 y14.1.length] _ (caps:=[]) (args0:=[tI y14.1]) trivial (Ay (Ca (e:=3) (by kernel_rfl) rfl) B9) (E4 (Fc h16)) Ku ?_;refine Aad (oS 44 25 1) (oi 44 25) (.vec 23 1 1 ([oI 688 24 y16.length])) trivial (G1 (by kernel_rfl)) ?_;refine ds2 (oS 3 26 (u2.length+1)) (oi 3 1) (oi 3 26) (.vec 23 1 (u2.length+1) (hdL (oi 4 1) .int u2++[oI 688 24 y16.length])) (Dd (u:=.int) (t':=sI) (t2:=sI) (o:=oi 3 1) (q:=oi 44 25) (e2:=23) (p:=oi 4 1) (xss:=u2) (cs:=[oI 688 24 y16.length]) (len:=u2.length) (by kernel_rfl) (by kernel_rfl) rfl (by kernel_rfl) (by kernel_rfl) rfl g17) ?_;refine dz0 (.box (oi 2 1) 3) ?_;refine K7 (oi 2 1) (oi 2 1) (.cells 39 [an y3.length,ai u0,an u1.length,oS 3 26 (u2.length+1),.nils,oS 5 1 u3.length,.nils]) (by kernel_rfl) ?_;refine F5 (Bc (by kernel_rfl)) (tn_ ?_);refine ⟨_,B8 (e1:=23) (e:=3) (u:=.int) (n:=u2.length+1) (len:=y16.length) (row:=y16) (ys:=y16) (xss:=u2) 9000 (oi 3 26) (oi 4 1) (oi 688 24) (by kernel_rfl) (by kernel_rfl) rfl (by kernel_rfl) (by kernel_rfl) (H2 rfl) (H1 rfl) (by kernel_rfl) (by kernel_rfl) (by kernel_rfl),?_⟩;obtain ⟨y18,h18,h⟩:=Ad h;obtain ⟨g19,h⟩:=Am h;refine Ax 38 ?_;refine dz0 (.box (oi 2 1) 5) ?_;refine dzl (oS 5 1 u3.length) ?_;refine dz0 (oI 593 15 y14.2.length) ?_;refine Lg (oI 800 33 y18.length) [nI 800 33 y18] [oI 593 15 y14.2.length] _ (caps:=[]) (args0:=[tI y14.2]) trivial (Ay (Ca (e:=3) (by kernel_rfl) rfl) B9) (E4 (Fc h18)) Ku ?_;refine Aad (oS 51 34 1) (oi 51 34) (.vec 23 1 1 ([oI 800 33 y18.length])) trivial (G1 (by kernel_rfl)) ?_;refine ds2 (oS 5 35 (u3.length+1)) (oi 5 1) (oi 5 35) (.vec 23 1 (u3.length+1) (hdL (oi 6 1) .int u3++[oI 800 33 y18.length])) (Dd (u:=.int) (t':=sI) (t2:=sI) (o:=oi 5 1) (q:=oi 51 34) (e2:=23) (p:=oi 6 1) (xss:=u3) (cs:=[oI 800 33 y18.length]) (len:=u3.length) (by kernel_rfl) (by kernel_rfl) rfl (by kernel_rfl) (by kernel_rfl) rfl g19) ?_;refine dz0 (.box (oi 2 1) 5) ?_;refine K7 (oi 2 1) (oi 2 1) (.cells 39 [an y3.length,ai u0,an u1.length,oS 3 26 (u2.length+1),.nils,oS 5 35 (u3.length+1),.nils]) (by kernel_rfl) ?_;refine F5 (Bc (by kernel_rfl)) (bn_ (tn_ ?_));refine ⟨_,B8 (e1:=23) (e:=3) (u:=.int) (n:=u3.length+1) (len:=y18.length) (row:=y18) (ys:=y18) (xss:=u3) 9000 (oi 5 35) (oi 6 1) (oi 800 33) (by kernel_rfl) (by kernel_rfl) rfl (by kernel_rfl) (by kernel_rfl) (H2 rfl) (H1 rfl) (by kernel_rfl) (by kernel_rfl) (by kernel_rfl),?_⟩;obtain ⟨g20,h⟩:=Am h;refine Aa 42 ?_;refine rsB 1 ?_;refine zA g20 ?_;refine rsB 1 ?_;refine Aq (tn_ ?_);obtain rfl:=zj h;exact ⟨(u9+1,u2++[y16],u3++[y18]),_,(C7 (oi 2 1) (.cells 39 [an y3.length,ai u0,an u1.length,oS 3 26 (u2.length+1),.nils,oS 5 35 (u3.length+1),.nils]) (.cells 39 [an y3.length,ai u0,an u1.length,oS 3 26 ((u2++[y16]).length),.nils,oS 5 35 (u3.length+1),.nils]) (by kernel_rfl) (congrArg (fun z_=>(.cells 39 [an y3.length,ai u0,an u1.length,oS 3 26 z_,.nils,oS 5 35 (u3.length+1),.nils]:Ob)) ((by simp):u2.length+1=(u2++[y16]).length))).trans ((C7 (oi 2 1) (.cells 39 [an y3.length,ai u0,an u1.length,oS 3 26 ((u2++[y16]).length),.nils,oS 5 35 (u3.length+1),.nils]) (.cells 39 [an y3.length,ai u0,an u1.length,oS 3 26 ((u2++[y16]).length),.nils,oS 5 35 ((u3++[y18]).length),.nils]) (by kernel_rfl) (congrArg (fun z_=>(.cells 39 [an y3.length,ai u0,an u1.length,oS 3 26 ((u2++[y16]).length),.nils,oS 5 35 z_,.nils]:Ob)) ((by simp):u3.length+1=(u3++[y18]).length))).trans (Ac [(oi 3 1,oi 3 26),(oi 4 1,oi 9000 29),(oi 5 1,oi 5 35),(oi 6 1,oi 9000 38)])),⟨u9+1,u2++[y16],u3++[y18],rfl,rfl⟩,hn6⟩
  have q9_:=of_decide_eq_false q9;refine Ag q9 ?_;refine Au (te_ (te_ (be_ (tn_ ?_))));obtain rfl:=zj h;have h:=hn6
  (try dsimp only at h);obtain rfl:=zj h;exact ⟨_,Ac [],⟨u2,u3,rfl,rfl⟩⟩
 rintro _ _ ⟨u6,u7,rfl,rfl⟩ h
 (try dsimp only at h);refine Ar h (fun t_ S_=>∃ (ub:LL),∃ (uc:LL),t_=(ub,uc)∧S_=⟨Ao [(4,.box (oi 0 1) 0),(5,.box (oi 1 1) 0)],Aj (Ap [(oi 0 1,.cells 39 [ai 0,ai 0,ai 0,.nils,.nils,.nils,.nils]),(oi 1 1,.cells 39 [an y3.length,ai u0,an u1.length,oS 2 1 u6.length,oS 4 1 ub.length,oS 6 1 u7.length,oS 8 1 uc.length]),(oi 2 1,.mat 23 (oi 3 1) .int u6),(oi 3 1,.pool 3 .int u6),(oi 4 1,.mat 23 (oi 5 1) .int ub),(oi 5 1,.pool 3 .int ub),(oi 6 1,.mat 23 (oi 7 1) .int u7),(oi 7 1,.pool 3 .int u7),(oi 8 1,.mat 23 (oi 9 1) .int uc),(oi 9 1,.pool 3 .int uc)]),2⟩) ?_ ?_
 ·intro v_ h;refine Al ?_;refine Ae ?_;refine Av h (fun t_ S_=>∃ (ua:Nat),∃ (u4:LL),∃ (u5:LL),t_=(ua,u4,u5)∧S_=⟨Ao [(0,ai a0),(3,.box (oi 0 1) 0),(4,.box (oi 1 1) 0),(5,.box (oi 2 1) 0),(9,an ua)],Aj (Ap [(oi 0 1,.cells 31 [ai u0,.tree T4 u8,tI u1]),(oi 1 1,.cells 39 [ai 0,ai 0,ai 0,.nils,.nils,.nils,.nils]),(oi 2 1,.cells 39 [an y3.length,ai u0,an u1.length,oS 3 1 u6.length,oS 5 1 u4.length,oS 7 1 u7.length,oS 9 1 u5.length]),(oi 3 1,.mat 23 (oi 4 1) .int u6),(oi 4 1,.pool 3 .int u6),(oi 5 1,.mat 23 (oi 6 1) .int u4),(oi 6 1,.pool 3 .int u4),(oi 7 1,.mat 23 (oi 8 1) .int u7),(oi 8 1,.pool 3 .int u7),(oi 9 1,.mat 23 (oi 10 1) .int u5),(oi 10 1,.pool 3 .int u5)]),2⟩) ⟨_,(Bt 9000 (oi 2 1) 4 39 [an y3.length,ai u0,an u1.length,oS 3 1 u6.length,.nils,oS 5 1 u7.length,.nils] [an y3.length,ai u0,an u1.length,oS 3 1 u6.length,oS 9000 3 0,oS 5 1 u7.length,.nils] 23 sI (by kernel_rfl) (by kernel_rfl) (by kernel_rfl)).trans ((B2 (e1:=23) (n:=0) 9000 (oi 9000 3) 3 .int (by kernel_rfl) (by kernel_rfl) rfl (by kernel_rfl) (by kernel_rfl)).trans ((Bt 9002 (oi 2 1) 6 39 [an y3.length,ai u0,an u1.length,oS 3 1 u6.length,oS 9000 3 0,oS 5 1 u7.length,.nils] [an y3.length,ai u0,an u1.length,oS 3 1 u6.length,oS 9000 3 0,oS 5 1 u7.length,oS 9002 5 0] 23 sI (by kernel_rfl) (by kernel_rfl) (by kernel_rfl)).trans ((B2 (e1:=23) (n:=0) 9000 (oi 9002 5) 3 .int (by kernel_rfl) (by kernel_rfl) rfl (by kernel_rfl) (by kernel_rfl)).trans (Ac [(oi 5 1,oi 9000 3),(oi 6 1,oi 9000 4),(oi 7 1,oi 5 1),(oi 8 1,oi 6 1),(oi 9 1,oi 9002 5),(oi 10 1,oi 9000 6)])))),⟨0,([]:LL),([]:LL),rfl,rfl⟩⟩ ?_;rintro n_ _ _ c_ ⟨ua,u4,u5,rfl,rfl⟩ h hn23
  (try dsimp only at h);unfold Dv at h;unfold Mn;refine Ab ?_;refine Al ?_;rcases Af h with ⟨q26,h⟩ | ⟨q26,h⟩
  ·have q26_:=of_decide_eq_true q26;refine Ah q26 ?_;refine Ai (tn_ ?_);refine wr_ ?_;refine Ab ?_;refine Ae ?_;refine Ab ?_;obtain ⟨g29,h⟩:=Am h;obtain ⟨y30,h30,h⟩:=Ad h;obtain ⟨y31,h31,h⟩:=Ad h;refine Ax 21 ?_;refine dz0 (ai a0) ?_;refine dzl (.agg [ai u0,.tree T4 u8,tI u1]) ?_;refine dz0 (.box (oi 2 1) 0) ?_;refine dzl (an y3.length) ?_;refine ds1 (oI 65 10 y3.length) (oi 65 10) (.arr 3 .int (List.replicate y3.length (0:Int))) (Lu (t:=.int) (k:=.i64) (k':=.i64) (m:=(y3.length:Int)) (m':=(y3.length:Int)) (by kernel_rfl) (by kernel_rfl) g29 rfl) ?_;refine dz0 (.box (oi 2 1) 1) ?_;refine dzl (ai u0) ?_;refine dz0 (an ua) ?_;refine dzc (oI 1104 14 y30.length) [nI 1104 14 y30] [ai u0,an ua] (E4 (V5 h30)) ?_;refine Lg (.tup [oI 1120 15 y31.1.length,oI 1121 15 y31.2.length]) [nI 1120 15 y31.1,nI 1121 15 y31.2] [ai a0,.agg [ai u0,.tree T4 u8,tI u1],oI 65 10 y3.length,oI 1104 14 y30.length] _ (caps:=[]) (args0:=[ai a0,.agg [ai u0,.tree T4 u8,tI u1],tI (List.replicate y3.length (0:Int)),tI y30]) trivial (Ay (by kernel_rfl) (Ay (by kernel_rfl) (Ay (Ca (e:=3) (by kernel_rfl) List.length_replicate.symm) (Ay (Ca (e:=3) (by kernel_rfl) rfl) B9)))) (E4 (Wt h31)) Wk ?_;refine dz0 (.tup [oI 1120 15 y31.1.length,oI 1121 15 y31.2.length]) ?_;refine dz0 (oI 1120 15 y31.1.length) ?_;refine dz0 (oI 1121 15 y31.2.length) ?_;refine dz0 (oI 1120 15 y31.1.length) ?_;refine dz0 (oI 1121 15 y31.2.length) ?_;refine F5 (Bc (by kernel_rfl)) (tn_ ?_);refine wr_ ?_;refine Ab ?_;obtain ⟨y33,h33,h⟩:=Ad h;obtain ⟨g34,h⟩:=Am h;refine Ax 29 ?_;refine dz0 (.box (oi 2 1) 4) ?_;refine dzl (oS 5 1 u4.length) ?_;refine dz0 (oI 1120 15 y31.1.length) ?_;refine Lg (oI 1216 24 y33.length) [nI 1216 24 y33] [oI 1120 15 y31.1.length] _ (caps:=[]) (args0:=[tI y31.1]) trivial (Ay (Ca (e:=3) (by kernel_rfl) rfl) B9) (E4 (Fc h33)) Ku ?_;refine Aad (oS 77 25 1) (oi 77 25) (.vec 23 1 1 ([oI 1216 24 y33.length])) trivial (G1 (by kernel_rfl)) ?_;refine ds2 (oS 5 26 (u4.length+1)) (oi 5 1) (oi 5 26) (.vec 23 1 (u4.length+1) (hdL (oi 6 1) .int u4++[oI 1216 24 y33.length])) (Dd (u:=.int) (t':=sI) (t2:=sI) (o:=oi 5 1) (q:=oi 77 25) (e2:=23) (p:=oi 6 1) (xss:=u4) (cs:=[oI 1216 24 y33.length]) (len:=u4.length) (by kernel_rfl) (by kernel_rfl) rfl (by kernel_rfl) (by kernel_rfl) rfl g34) ?_;refine dz0 (.box (oi 2 1) 4) ?_;refine K7 (oi 2 1) (oi 2 1) (.cells 39 [an y3.length,ai u0,an u1.length,oS 3 1 u6.length,oS 5 26 (u4.length+1),oS 7 1 u7.length,oS 9 1 u5.length]) (by kernel_rfl) ?_;refine F5 (Bc (by kernel_rfl)) (tn_ ?_);refine ⟨_,B8 (e1:=23) (e:=3) (u:=.int) (n:=u4.length+1) (len:=y33.length) (row:=y33) (ys:=y33) (xss:=u4) 9000 (oi 5 26) (oi 6 1) (oi 1216 24) (by kernel_rfl) (by kernel_rfl) rfl (by kernel_rfl) (by kernel_rfl) (H2 rfl) (H1 rfl) (by kernel_rfl) (by kernel_rfl) (by kernel_rfl),?_⟩;obtain ⟨y35,h35,h⟩:=Ad h;obtain ⟨g36,h⟩:=Am h;refine Ax 38 ?_;refine dz0 (.box (oi 2 1) 6) ?_;refine dzl (oS 9 1 u5.length) ?_;refine dz0 (oI 1121 15 y31.2.length) ?_;refine Lg (oI 1328 33 y35.length) [nI 1328 33 y35] [oI 1121 15 y31.2.length] _ (caps:=[]) (args0:=[tI y31.2]) trivial (Ay (Ca (e:=3) (by kernel_rfl) rfl) B9) (E4 (Fc h35)) Ku ?_;refine Aad (oS 84 34 1) (oi 84 34) (.vec 23 1 1 ([oI 1328 33 y35.length])) trivial (G1 (by kernel_rfl)) ?_;refine ds2 (oS 9 35 (u5.length+1)) (oi 9 1) (oi 9 35) (.vec 23 1 (u5.length+1) (hdL (oi 10 1) .int u5++[oI 1328 33 y35.length])) (Dd (u:=.int) (t':=sI) (t2:=sI) (o:=oi 9 1) (q:=oi 84 34) (e2:=23) (p:=oi 10 1) (xss:=u5) (cs:=[oI 1328 33 y35.length]) (len:=u5.length) (by kernel_rfl) (by kernel_rfl) rfl (by kernel_rfl) (by kernel_rfl) rfl g36) ?_;refine dz0 (.box (oi 2 1) 6) ?_;refine K7 (oi 2 1) (oi 2 1) (.cells 39 [an y3.length,ai u0,an u1.length,oS 3 1 u6.length,oS 5 26 (u4.length+1),oS 7 1 u7.length,oS 9 35 (u5.length+1)]) (by kernel_rfl) ?_;refine F5 (Bc (by kernel_rfl)) (bn_ (tn_ ?_));refine ⟨_,B8 (e1:=23) (e:=3) (u:=.int) (n:=u5.length+1) (len:=y35.length) (row:=y35) (ys:=y35) (xss:=u5) 9000 (oi 9 35) (oi 10 1) (oi 1328 33) (by kernel_rfl) (by kernel_rfl) rfl (by kernel_rfl) (by kernel_rfl) (H2 rfl) (H1 rfl) (by kernel_rfl) (by kernel_rfl) (by kernel_rfl),?_⟩;obtain ⟨g37,h⟩:=Am h;refine Aa 42 ?_;refine rsB 1 ?_;refine zA g37 ?_;refine rsB 1 ?_;refine Aq (tn_ ?_);obtain rfl:=zj h;exact ⟨(ua+1,u4++[y33],u5++[y35]),_,(C7 (oi 2 1) (.cells 39 [an y3.length,ai u0,an u1.length,oS 3 1 u6.length,oS 5 26 (u4.length+1),oS 7 1 u7.length,oS 9 35 (u5.length+1)]) (.cells 39 [an y3.length,ai u0,an u1.length,oS 3 1 u6.length,oS 5 26 ((u4++[y33]).length),oS 7 1 u7.length,oS 9 35 (u5.length+1)]) (by kernel_rfl) (congrArg (fun z_=>(.cells 39 [an y3.length,ai u0,an u1.length,oS 3 1 u6.length,oS 5 26 z_,oS 7 1 u7.length,oS 9 35 (u5.length+1)]:Ob)) ((by simp):u4.length+1=(u4++[y33]).length))).trans ((C7 (oi 2 1) (.cells 39 [an y3.length,ai u0,an u1.length,oS 3 1 u6.length,oS 5 26 ((u4++[y33]).length),oS 7 1 u7.length,oS 9 35 (u5.length+1)]) (.cells 39 [an y3.length,ai u0,an u1.length,oS 3 1 u6.length,oS 5 26 ((u4++[y33]).length),oS 7 1 u7.length,oS 9 35 ((u5++[y35]).length)]) (by kernel_rfl) (congrArg (fun z_=>(.cells 39 [an y3.length,ai u0,an u1.length,oS 3 1 u6.length,oS 5 26 ((u4++[y33]).length),oS 7 1 u7.length,oS 9 35 z_]:Ob)) ((by simp):u5.length+1=(u5++[y35]).length))).trans (Ac [(oi 5 1,oi 5 26),(oi 6 1,oi 9000 29),(oi 9 1,oi 9 35),(oi 10 1,oi 9000 38)])),⟨ua+1,u4++[y33],u5++[y35],rfl,rfl⟩,hn23⟩
  have q26_:=of_decide_eq_false q26;refine Ag q26 ?_;refine Au (te_ (te_ (be_ (tn_ ?_))));obtain rfl:=zj h;have h:=hn23
  (try dsimp only at h);obtain rfl:=zj h;exact ⟨_,Ac [(oi 0 1,oi 1 1),(oi 1 1,oi 2 1),(oi 2 1,oi 3 1),(oi 3 1,oi 4 1),(oi 4 1,oi 5 1),(oi 5 1,oi 6 1),(oi 6 1,oi 7 1),(oi 7 1,oi 8 1),(oi 8 1,oi 9 1),(oi 9 1,oi 10 1)],⟨u4,u5,rfl,rfl⟩⟩
 rintro _ _ ⟨ub,uc,rfl,rfl⟩ h
 (try dsimp only at h);refine Al ?_;refine An ?_;obtain rfl:=zj h;exact Kk [(true,[an y3.length,ai u0,an u1.length,oS 2 1 u6.length,oS 4 1 ub.length,oS 6 1 u7.length,oS 8 1 uc.length])] (Oa (Az C3 (Az C3 (Az C3 (Az (Bp (.mat (p:=oi 3 1) (e1:=23) (e:=3) (by kernel_rfl) (Bn (by kernel_rfl)) rfl)) (Az (Bp (.mat (p:=oi 5 1) (e1:=23) (e:=3) (by kernel_rfl) (Bn (by kernel_rfl)) rfl)) (Az (Bp (.mat (p:=oi 7 1) (e1:=23) (e:=3) (by kernel_rfl) (Bn (by kernel_rfl)) rfl)) (Az (Bp (.mat (p:=oi 9 1) (e1:=23) (e:=3) (by kernel_rfl) (Bn (by kernel_rfl)) rfl)) Oe))))))) Gz)
def Mq:AC :=
 (.seq (rg [xo 3 (.i (.box 31 (tm 1))),xo 4 (.i (.alloc 39 [.int .i64 0,.int .i64 0,.int .i64 0,.nils,.nils,.nils,.nils])),xo 5 (qm (cb false))])
 (.seq (.seq (rg [xm 6 0,xo 7 (.i (.ld false 3 (tm 3))),⟨some 8,none,qc 19 [tm 6,tm 7] [[],[none,some T4,some .int]]⟩,xo 9 (.i (.not (tm 8))),xm 10 9,⟨some 11,some (10,false),.i (.ld false 3 (tm 3))⟩,⟨some 12,some (10,false),qc 20 [tm 11] [[none,some T4,some .int]]⟩,⟨some 13,some (10,false),.i (.len (tm 12))⟩,⟨some 14,some (10,false),qb .gtr (tm 13) (ci 24)⟩,xo 15 (.i (.pick (tm 10) (cb true) (tm 14)))])
 (.cond (tm 15)
  (.seq (rg [xo 16 (.build [.int .i64 0,.int .i64 0,.int .i64 0,.nils,.nils,.nils,.nils] []),xn (.st false 7 (tm 4) (tm 16)),xo 5 (qm (cb false))])
  .ret)
  .skip))
 (.seq (rg [xm 17 0,xo 18 (.i (.ld false 3 (tm 3))),⟨some 19,none,qc 21 [tm 17,tm 18] [[],[none,some T4,some .int]]⟩,xn (.st false 7 (tm 4) (tm 19)),xo 5 (qm (cb true))])
 .ret)))
def Vm:List Res:=[.cell 4 false 7,.tmp 5]
theorem Vf:At Tryd.prog Tryd.f11=some (Mq,Vm):=by kernel_rfl
def Dy (a0 u0:Int) (u1:List (Int×Int×Int×Int)) (u2:List Int):Option (Int×Int×Int×LL×LL×LL×LL×Bool) :=
 Option.bind (Option.bind (Ks a0 u0 u1 u2) fun y4 =>
 cond (!y4)
  (some true)
  (Option.bind (Do u0 u1 u2) fun y6 =>
  some (decide (24<(y6.length:Int))))) fun u3 =>
cond u3
 (some (0,0,0,[],[],[],[],false))
 (Option.bind (H8 a0 u0 u1 u2) fun y10 =>
 some (y10.1,y10.2.1,y10.2.2.1,y10.2.2.2.1,y10.2.2.2.2.1,y10.2.2.2.2.2.1,y10.2.2.2.2.2.2,true))
def Tw (r:Int×Int×Int×LL×LL×LL×LL×Bool):RV:=⟨true,[(true,[.sc (.int .i64 r.1),.sc (.int .i64 r.2.1),.sc (.int .i64 r.2.2.1),.frz (tS r.2.2.2.1),.frz (tS r.2.2.2.2.1),.frz (tS r.2.2.2.2.2.1),.frz (tS r.2.2.2.2.2.2.1)]),(false,[.sc (.bool r.2.2.2.2.2.2.2)])]⟩
theorem Tu {a0 u0:Int} {u1:List (Int×Int×Int×Int)} {u2:List Int} {r:Int×Int×Int×LL×LL×LL×LL×Bool} (h:Dy a0 u0 u1 u2=some r):A0 Tryd.prog Tab 11 [ai a0,.agg [ai u0,.tree T4 u1,tI u2]] (Tw r):=by
 refine Ej (by kernel_rfl) Tryd.func11 Vf (n:=20) (by kernel_rfl) (by simp) (tl:=[(0,ai a0),(1,.agg [ai u0,.tree T4 u1,tI u2])]) rfl fun zn_ nz_ hz_=>?_
 unfold Mq;unfold Dy at h;refine Al ?_;refine Ab ?_;refine Ar h (fun (u3:Bool) S_=>S_=⟨Ao [(0,ai a0),(3,.box (oi 0 1) 0),(4,.box (oi 1 1) 0),(15,.bool u3)],Aj (Ap [(oi 0 1,.cells 31 [ai u0,.tree T4 u1,tI u2]),(oi 1 1,.cells 39 [ai 0,ai 0,ai 0,.nils,.nils,.nils,.nils])]),2⟩) ?_ ?_
 ·intro v_ h;obtain ⟨y4,h4,h⟩:=Ad h;rcases Af h with ⟨q5,h⟩ | ⟨q5,h⟩
  ·refine Aa 14 ?_;refine rsB 2 ?_;refine zc (.bool y4) [] [ai a0,.agg [ai u0,.tree T4 u1,tI u2]] (E4 (Wo h4)) ?_;refine rsB 2 ?_;refine zs q5 ?_;refine zs q5 ?_;refine zs q5 ?_;refine zs q5 ?_;refine rs0 (.bool true) (zT q5) ?_;refine Aq (tn_ ?_);obtain rfl:=zj h;exact ⟨_,Ac [(oi 0 1,oi 3 1),(oi 1 1,oi 4 2)],rfl⟩
  obtain ⟨y6,h6,h⟩:=Ad h;refine Aa 14 ?_;refine rsB 2 ?_;refine zc (.bool y4) [] [ai a0,.agg [ai u0,.tree T4 u1,tI u2]] (E4 (Wo h4)) ?_;refine rsB 2 ?_;refine rsl (.agg [ai u0,.tree T4 u1,tI u2]) (zg q5) ?_;refine Cm (oI 192 10 y6.length) [nI 192 10 y6] [.agg [ai u0,.tree T4 u1,tI u2]] _ (caps:=[]) (args0:=[.agg [ai u0,.tree T4 u1,tI u2]]) (F8 (by kernel_rfl) q5) (by kernel_rfl) (E4 (Js h6)) Acf ?_;refine rs0 (an y6.length) (zg q5) ?_;refine rs0 (.bool (decide (24<(y6.length:Int)))) (zg q5) ?_;refine rs0 (.bool (decide (24<(y6.length:Int)))) (zF q5) ?_;refine Aq (tn_ ?_);obtain rfl:=zj h;exact ⟨_,Ac [(oi 0 1,oi 3 1),(oi 1 1,oi 4 2)],rfl⟩
 rintro u3 _ rfl h
 (try dsimp only at h);rcases Af h with ⟨q7,h⟩ | ⟨q7,h⟩
 ·refine Ah q7 ?_;refine Al ?_;refine An (tr_ ?_);obtain rfl:=zj h;exact Kk [(true,[ai 0,ai 0,ai 0,.nils,.nils,.nils,.nils]),(false,[.bool false])] (Oa (Az C3 (Az C3 (Az C3 (Az (Bp (t:=sI) (xs:=[]) .nil) (Az (Bp (t:=sI) (xs:=[]) .nil) (Az (Bp (t:=sI) (xs:=[]) .nil) (Az (Bp (t:=sI) (xs:=[]) .nil) Oe))))))) (K9 C3 Gz))
 refine Ag q7 ?_;refine Ai (tn_ ?_);refine wr_ ?_;refine Ab ?_;obtain ⟨y10,h10,h⟩:=Ad h;refine Aa 7 ?_;refine rsB 2 ?_;refine zc (.agg [ai y10.1,ai y10.2.1,ai y10.2.2.1,.ftr nz_ sI y10.2.2.2.1,.ftr nz_ sI y10.2.2.2.2.1,.ftr nz_ sI y10.2.2.2.2.2.1,.ftr nz_ sI y10.2.2.2.2.2.2]) [] [ai a0,.agg [ai u0,.tree T4 u1,tI u2]] (Ld hz_ (Xk h10)) ?_;refine rsB 2 ?_;refine Aq (tn_ ?_);refine wr_ ?_;refine An ?_;obtain rfl:=zj h;exact Kk [(true,[ai y10.1,ai y10.2.1,ai y10.2.2.1,.ftr nz_ sI y10.2.2.2.1,.ftr nz_ sI y10.2.2.2.2.1,.ftr nz_ sI y10.2.2.2.2.2.1,.ftr nz_ sI y10.2.2.2.2.2.2]),(false,[.bool true])] (Oa (Az C3 (Az C3 (Az C3 (Az (Bp .ftr) (Az (Bp .ftr) (Az (Bp .ftr) (Az (Bp .ftr) Oe))))))) (K9 C3 Gz))
def Kt:AC :=
 (.seq (rg [xs1 59 58 57])
 (.seq (.cond (tm 59)
  .skip
  (.exit 2))
 (.seq (.block 3 (.seq (rg [xm 60 58,xm 11 60])
 (.seq (.region [xo 62 (.i (.ld false 3 (tm 3))),xm 63 0,xm 64 6,xo 65 (qc 57 [tm 64] [[]]),xf 66 0 3,xl 67 66,xm 68 11,xo 69 (qc 56 [tm 67,tm 68] [[],[]]),⟨some 70,none,qc 55 [tm 62,tm 63,tm 65,tm 69] [[none,some T4,some .int],[],[some .int],[some .int]]⟩,xm 61 70,xo 71 (.i (.extr 0 (tm 61))),xo 72 (.i (.extr 1 (tm 61))),xm 12 71,xm 13 72] true [(0,3),(3,5),(0,7)])
 (.region [xf 73 4 7,xl 74 73,xm 75 12,xo 76 (.mkV 23 sI 1 [tm 75]),xo 77 (.appV 23 sI 24 (tm 74) (tm 76)),xf 78 6 7,xl 79 78,xm 80 13,xo 81 (.mkV 23 sI 1 [tm 80]),xo 82 (.appV 23 sI 24 (tm 79) (tm 81)),xf 83 4 7,xn (qs (tm 83) (tm 77)),xf 84 6 7,xn (qs (tm 84) (tm 82))] true [(1,3),(3,6),(4,6),(1,8),(3,8),(4,8),(6,8)]))))
 (rg [xa 85 58,xm 58 85]))))
def Kp:AC :=
 (.seq (rg [xs1 29 28 27])
 (.seq (.cond (tm 29)
  .skip
  (.exit 0))
 (.seq (.block 1 (.seq (rg [xm 30 28,xm 8 30])
 (.seq (.region [xo 32 (.i (.ld false 3 (tm 3))),xm 33 0,xm 34 6,xm 35 8,xo 36 (qc 56 [tm 34,tm 35] [[],[]]),xf 37 0 3,xl 38 37,xo 39 (qc 57 [tm 38] [[]]),⟨some 40,none,qc 55 [tm 32,tm 33,tm 36,tm 39] [[none,some T4,some .int],[],[some .int],[some .int]]⟩,xm 31 40,xo 41 (.i (.extr 0 (tm 31))),xo 42 (.i (.extr 1 (tm 31))),xm 9 41,xm 10 42] true [(0,4),(4,6),(0,7)])
 (.region [xf 43 3 7,xl 44 43,xm 45 9,xo 46 (.mkV 23 sI 1 [tm 45]),xo 47 (.appV 23 sI 24 (tm 44) (tm 46)),xf 48 5 7,xl 49 48,xm 50 10,xo 51 (.mkV 23 sI 1 [tm 50]),xo 52 (.appV 23 sI 24 (tm 49) (tm 51)),xf 53 3 7,xn (qs (tm 53) (tm 47)),xf 54 5 7,xn (qs (tm 54) (tm 52))] true [(1,3),(3,6),(4,6),(1,8),(3,8),(4,8),(6,8)]))))
 (rg [xa 55 28,xm 28 55]))))
def Mp:AC :=
 (.seq (rg [xo 3 (.i (.box 31 (tm 1))),xo 4 (.i (.alloc 39 [.int .i64 0,.int .i64 0,.int .i64 0,.nils,.nils,.nils,.nils])),xo 5 (qm (cb false))])
 (.seq (rg [xo 14 (.i (.ld false 3 (tm 3))),⟨some 15,none,qc 54 [tm 14] [[none,some T4,some .int]]⟩,xn1 16 15,xm 6 16])
 (.seq (.seq (rg [xm 17 6,xo 18 (qb .gtr (tm 17) (ci 24))])
 (.cond (tm 18)
  (.seq (rg [xo 19 (.build [.int .i64 0,.int .i64 0,.int .i64 0,.nils,.nils,.nils,.nils] []),xn (.st false 7 (tm 4) (tm 19)),xo 5 (qm (cb false))])
  .ret)
  .skip))
 (.seq (rg [xm 20 6,xf 21 0 3,xl 22 21,xf 23 2 3,xl 24 23,xn1 25 24,xo 26 (.build [.int .i64 0,.int .i64 0,.int .i64 0,.nils,.nils,.nils,.nils] [(0,1,tm 20),(1,1,tm 22),(2,1,tm 25)]),xo 7 (.i (.alloc 39 [.int .i64 0,.int .i64 0,.int .i64 0,.nils,.nils,.nils,.nils])),xn (.st false 7 (tm 7) (tm 26))])
 (.seq (.seq (rg [xm 27 6,xo 28 (qm (ci 0))])
 (.block 0 (.loop Kp)))
 (.seq (.seq (rg [xf 56 0 3,xl 57 56,xo 58 (qm (ci 0))])
 (.block 2 (.loop Kt)))
 (.seq (rg [xo 86 (.i (.ld false 7 (tm 7))),xn (.st false 7 (tm 4) (tm 86)),xo 5 (qm (cb true))])
 .ret)))))))
def Vh:List Res:=[.cell 4 false 7,.tmp 5]
theorem Vj:At Tryd.prog Tryd.f29=some (Mp,Vh):=by kernel_rfl
def Cy (y3:List Int) (u3:Int) (u4:List (Int×Int×Int×Int)) (u5:List Int) (a0:Int) (u0:Nat) (u1 u2:LL):Option (Ctl (Nat×LL×LL) (LL×LL)) :=
 cond (decide ((u0:Int)<(y3.length:Int)))
 (Option.bind (Ee (y3.length:Int) (u0:Int)) fun y18 =>
 Option.bind (Ed u3) fun y19 =>
 Option.bind (Di u3 u4 u5 a0 y18 y19) fun y20 =>
 og (u1.length+1<=1073741824∧(u1.length+1)*24<=140737488355328) <|
 og (u2.length+1<=1073741824∧(u2.length+1)*24<=140737488355328) <|
 og (u0+1<4611686018427387904) <|
 some (Ctl.next (u0+1,u1++[y20.1],u2++[y20.2])))
 (some (Ctl.out (u1,u2)))
def Cx (u3:Int) (y3:List Int) (u4:List (Int×Int×Int×Int)) (u5:List Int) (a0:Int) (u0:Nat) (u1 u2:LL):Option (Ctl (Nat×LL×LL) (LL×LL)) :=
 cond (decide ((u0:Int)<u3))
 (Option.bind (Ed (y3.length:Int)) fun y33 =>
 Option.bind (Ee u3 (u0:Int)) fun y34 =>
 Option.bind (Di u3 u4 u5 a0 y33 y34) fun y35 =>
 og (u1.length+1<=1073741824∧(u1.length+1)*24<=140737488355328) <|
 og (u2.length+1<=1073741824∧(u2.length+1)*24<=140737488355328) <|
 og (u0+1<4611686018427387904) <|
 some (Ctl.next (u0+1,u1++[y35.1],u2++[y35.2])))
 (some (Ctl.out (u1,u2)))
def Dw (a0 u0:Int) (u2:List (Int×Int×Int×Int)) (u1:List Int):Option (Int×Int×Int×LL×LL×LL×LL×Bool) :=
 Option.bind (Dz u0 u2 u1) fun y3 =>
cond (decide (24<(y3.length:Int)))
 (some (0,0,0,[],[],[],[],false))
 (Option.bind (Aw (fun s_:Nat×LL×LL=>Cy y3 u0 u2 u1 a0 s_.1 s_.2.1 s_.2.2) 4611686018427387904 (0,([]:LL),([]:LL))) fun (u3,u4) =>
 Option.bind (Aw (fun s_:Nat×LL×LL=>Cx u0 y3 u2 u1 a0 s_.1 s_.2.1 s_.2.2) 4611686018427387904 (0,([]:LL),([]:LL))) fun (u5,u6) =>
 some ((y3.length:Int),u0,(u1.length:Int),u3,u5,u4,u6,true))
def Ud (r:Int×Int×Int×LL×LL×LL×LL×Bool):RV:=⟨true,[(true,[.sc (.int .i64 r.1),.sc (.int .i64 r.2.1),.sc (.int .i64 r.2.2.1),.frz (tS r.2.2.2.1),.frz (tS r.2.2.2.2.1),.frz (tS r.2.2.2.2.2.1),.frz (tS r.2.2.2.2.2.2.1)]),(false,[.sc (.bool r.2.2.2.2.2.2.2)])]⟩
theorem Uq {a0 u0:Int} {u8:List (Int×Int×Int×Int)} {u1:List Int} {r:Int×Int×Int×LL×LL×LL×LL×Bool} (h:Dw a0 u0 u8 u1=some r):A0 Tryd.prog Tab 29 [ai a0,.agg [ai u0,.tree T4 u8,tI u1]] (Ud r):=by
 refine Ej (by kernel_rfl) Tryd.func29 Vj (n:=87) (by kernel_rfl) (by simp) (tl:=[(0,ai a0),(1,.agg [ai u0,.tree T4 u8,tI u1])]) rfl fun zn_ nz_ hz_=>?_
 unfold Mp;unfold Dw at h;refine Al ?_;refine Ab ?_;obtain ⟨y3,h3,h⟩:=Ad h;refine Aa 8 ?_;refine rsB 1 ?_;refine zc (oI 240 5 y3.length) [nI 240 5 y3] [.agg [ai u0,.tree T4 u8,tI u1]] (E4 (Lv h3)) ?_;refine rsB 2 ?_;refine Aq (tn_ ?_);refine wr_ ?_;refine Ab ?_;refine Al ?_;rcases Af h with ⟨q6,h⟩ | ⟨q6,h⟩
 ·have q6_:=of_decide_eq_true q6;refine Ah q6 ?_;refine Al ?_;refine An (tr_ ?_);obtain rfl:=zj h;exact Kk [(true,[ai 0,ai 0,ai 0,.nils,.nils,.nils,.nils]),(false,[.bool false])] (Oa (Az C3 (Az C3 (Az C3 (Az (Bp (t:=sI) (xs:=[]) .nil) (Az (Bp (t:=sI) (xs:=[]) .nil) (Az (Bp (t:=sI) (xs:=[]) .nil) (Az (Bp (t:=sI) (xs:=[]) .nil) Oe))))))) (K9 C3 Gz))
 have q6_:=of_decide_eq_false q6;refine Ag q6 ?_;refine Ai (tn_ ?_);refine wr_ ?_;refine Al ?_;refine Ar h (fun t_ S_=>∃ (u6:LL),∃ (u7:LL),t_=(u6,u7)∧S_=⟨Ao [(0,ai a0),(3,.box (oi 0 1) 0),(4,.box (oi 1 1) 0),(6,an y3.length),(7,.box (oi 2 1) 0)],Aj (Ap [(oi 0 1,.cells 31 [ai u0,.tree T4 u8,tI u1]),(oi 1 1,.cells 39 [ai 0,ai 0,ai 0,.nils,.nils,.nils,.nils]),(oi 2 1,.cells 39 [an y3.length,ai u0,an u1.length,oS 3 1 u6.length,.nils,oS 5 1 u7.length,.nils]),(oi 3 1,.mat 23 (oi 4 1) .int u6),(oi 4 1,.pool 3 .int u6),(oi 5 1,.mat 23 (oi 6 1) .int u7),(oi 6 1,.pool 3 .int u7)]),2⟩) ?_ ?_
 ·intro v_ h;refine Al ?_;refine Ae ?_;refine Av h (fun t_ S_=>∃ (u9:Nat),∃ (u2:LL),∃ (u3:LL),t_=(u9,u2,u3)∧S_=⟨Ao [(0,ai a0),(3,.box (oi 0 1) 0),(4,.box (oi 1 1) 0),(6,an y3.length),(7,.box (oi 2 1) 0),(27,an y3.length),(28,an u9)],Aj (Ap [(oi 0 1,.cells 31 [ai u0,.tree T4 u8,tI u1]),(oi 1 1,.cells 39 [ai 0,ai 0,ai 0,.nils,.nils,.nils,.nils]),(oi 2 1,.cells 39 [an y3.length,ai u0,an u1.length,oS 3 1 u2.length,.nils,oS 5 1 u3.length,.nils]),(oi 3 1,.mat 23 (oi 4 1) .int u2),(oi 4 1,.pool 3 .int u2),(oi 5 1,.mat 23 (oi 6 1) .int u3),(oi 6 1,.pool 3 .int u3)]),2⟩) ⟨_,(Bt 9000 (oi 7 17) 3 39 [an y3.length,ai u0,an u1.length,.nils,.nils,.nils,.nils] [an y3.length,ai u0,an u1.length,oS 9000 21 0,.nils,.nils,.nils] 23 sI (by kernel_rfl) (by kernel_rfl) (by kernel_rfl)).trans ((B2 (e1:=23) (n:=0) 9000 (oi 9000 21) 3 .int (by kernel_rfl) (by kernel_rfl) rfl (by kernel_rfl) (by kernel_rfl)).trans ((Bt 9002 (oi 7 17) 5 39 [an y3.length,ai u0,an u1.length,oS 9000 21 0,.nils,.nils,.nils] [an y3.length,ai u0,an u1.length,oS 9000 21 0,.nils,oS 9002 23 0,.nils] 23 sI (by kernel_rfl) (by kernel_rfl) (by kernel_rfl)).trans ((B2 (e1:=23) (n:=0) 9000 (oi 9002 23) 3 .int (by kernel_rfl) (by kernel_rfl) rfl (by kernel_rfl) (by kernel_rfl)).trans (Ac [(oi 0 1,oi 3 1),(oi 1 1,oi 4 2),(oi 2 1,oi 7 17),(oi 3 1,oi 9000 21),(oi 4 1,oi 9000 22),(oi 5 1,oi 9002 23),(oi 6 1,oi 9000 24)])))),⟨0,([]:LL),([]:LL),rfl,rfl⟩⟩ ?_;rintro n_ _ _ c_ ⟨u9,u2,u3,rfl,rfl⟩ h hn11
  (try dsimp only at h);unfold Cy at h;unfold Kp;refine Al ?_;refine Ab ?_;rcases Af h with ⟨q14,h⟩ | ⟨q14,h⟩
  ·have q14_:=of_decide_eq_true q14;refine Ah q14 ?_;refine Ai (tn_ ?_);refine wr_ ?_;refine Ab ?_;refine Ae ?_;refine Al ?_;refine Ab ?_;obtain ⟨y18,h18,h⟩:=Ad h;obtain ⟨y19,h19,h⟩:=Ad h;obtain ⟨y20,h20,h⟩:=Ad h;refine Ax 19 ?_;refine dzl (.agg [ai u0,.tree T4 u8,tI u1]) ?_;refine dz0 (ai a0) ?_;refine dz0 (an y3.length) ?_;refine dz0 (an u9) ?_;refine dzc (oI 576 9 y18.length) [nI 576 9 y18] [an y3.length,an u9] (E4 (Ur h18)) ?_;refine dz0 (.box (oi 0 1) 0) ?_;refine dzl (ai u0) ?_;refine dzc (oI 624 12 y19.length) [nI 624 12 y19] [ai u0] (E4 (Is h19)) ?_;refine Lg (.tup [oI 640 13 y20.1.length,oI 641 13 y20.2.length]) [nI 640 13 y20.1,nI 641 13 y20.2] [.agg [ai u0,.tree T4 u8,tI u1],ai a0,oI 576 9 y18.length,oI 624 12 y19.length] _ (caps:=[]) (args0:=[.agg [ai u0,.tree T4 u8,tI u1],ai a0,tI y18,tI y19]) trivial (Ay (by kernel_rfl) (Ay (by kernel_rfl) (Ay (Ca (e:=3) (by kernel_rfl) rfl) (Ay (Ca (e:=3) (by kernel_rfl) rfl) B9)))) (E4 (Nc h20)) Nl ?_;refine dz0 (.tup [oI 640 13 y20.1.length,oI 641 13 y20.2.length]) ?_;refine dz0 (oI 640 13 y20.1.length) ?_;refine dz0 (oI 641 13 y20.2.length) ?_;refine dz0 (oI 640 13 y20.1.length) ?_;refine dz0 (oI 641 13 y20.2.length) ?_;refine F5 (Bc (by kernel_rfl)) (tn_ ?_);refine wr_ ?_;obtain ⟨g21,h⟩:=Am h;obtain ⟨g22,h⟩:=Am h;refine Ax 33 ?_;refine dz0 (.box (oi 2 1) 3) ?_;refine dzl (oS 3 1 u2.length) ?_;refine dz0 (oI 640 13 y20.1.length) ?_;refine Aad (oS 46 22 1) (oi 46 22) (.vec 23 1 1 ([oI 640 13 y20.1.length])) trivial (G1 (by kernel_rfl)) ?_;refine ds2 (oS 3 23 (u2.length+1)) (oi 3 1) (oi 3 23) (.vec 23 1 (u2.length+1) (hdL (oi 4 1) .int u2++[oI 640 13 y20.1.length])) (Dd (u:=.int) (t':=sI) (t2:=sI) (o:=oi 3 1) (q:=oi 46 22) (e2:=23) (p:=oi 4 1) (xss:=u2) (cs:=[oI 640 13 y20.1.length]) (len:=u2.length) (by kernel_rfl) (by kernel_rfl) rfl (by kernel_rfl) (by kernel_rfl) rfl g21) ?_;refine dz0 (.box (oi 2 1) 5) ?_;refine dzl (oS 5 1 u3.length) ?_;refine dz0 (oI 641 13 y20.2.length) ?_;refine Aad (oS 51 27 1) (oi 51 27) (.vec 23 1 1 ([oI 641 13 y20.2.length])) trivial (G1 (by kernel_rfl)) ?_;refine ds2 (oS 5 28 (u3.length+1)) (oi 5 1) (oi 5 28) (.vec 23 1 (u3.length+1) (hdL (oi 6 1) .int u3++[oI 641 13 y20.2.length])) (Dd (u:=.int) (t':=sI) (t2:=sI) (o:=oi 5 1) (q:=oi 51 27) (e2:=23) (p:=oi 6 1) (xss:=u3) (cs:=[oI 641 13 y20.2.length]) (len:=u3.length) (by kernel_rfl) (by kernel_rfl) rfl (by kernel_rfl) (by kernel_rfl) rfl g22) ?_;refine dz0 (.box (oi 2 1) 3) ?_;refine K7 (oi 2 1) (oi 2 1) (.cells 39 [an y3.length,ai u0,an u1.length,oS 3 23 (u2.length+1),.nils,oS 5 1 u3.length,.nils]) (by kernel_rfl) ?_;refine dz0 (.box (oi 2 1) 5) ?_;refine K7 (oi 2 1) (oi 2 1) (.cells 39 [an y3.length,ai u0,an u1.length,oS 3 23 (u2.length+1),.nils,oS 5 28 (u3.length+1),.nils]) (by kernel_rfl) ?_;refine F5 (Bc (by kernel_rfl)) (bn_ (tn_ ?_));refine ⟨_,(B8 (e1:=23) (e:=3) (u:=.int) (n:=u2.length+1) (len:=y20.1.length) (row:=y20.1) (ys:=y20.1) (xss:=u2) 9000 (oi 3 23) (oi 4 1) (oi 640 13) (by kernel_rfl) (by kernel_rfl) rfl (by kernel_rfl) (by kernel_rfl) (H2 rfl) (H1 rfl) (by kernel_rfl) (by kernel_rfl) (by kernel_rfl)).trans (B8 (e1:=23) (e:=3) (u:=.int) (n:=u3.length+1) (len:=y20.2.length) (row:=y20.2) (ys:=y20.2) (xss:=u3) 9000 (oi 5 28) (oi 6 1) (oi 641 13) (by kernel_rfl) (by kernel_rfl) rfl (by kernel_rfl) (by kernel_rfl) (H2 rfl) (H1 rfl) (by kernel_rfl) (by kernel_rfl) (by kernel_rfl)),?_⟩;obtain ⟨g23,h⟩:=Am h;refine Aa 37 ?_;refine zA g23 ?_;refine rsB 1 ?_;refine Aq (tn_ ?_);obtain rfl:=zj h;exact ⟨(u9+1,u2++[y20.1],u3++[y20.2]),_,(C7 (oi 2 1) (.cells 39 [an y3.length,ai u0,an u1.length,oS 3 23 (u2.length+1),.nils,oS 5 28 (u3.length+1),.nils]) (.cells 39 [an y3.length,ai u0,an u1.length,oS 3 23 ((u2++[y20.1]).length),.nils,oS 5 28 (u3.length+1),.nils]) (by kernel_rfl) (congrArg (fun z_=>(.cells 39 [an y3.length,ai u0,an u1.length,oS 3 23 z_,.nils,oS 5 28 (u3.length+1),.nils]:Ob)) ((by simp):u2.length+1=(u2++[y20.1]).length))).trans ((C7 (oi 2 1) (.cells 39 [an y3.length,ai u0,an u1.length,oS 3 23 ((u2++[y20.1]).length),.nils,oS 5 28 (u3.length+1),.nils]) (.cells 39 [an y3.length,ai u0,an u1.length,oS 3 23 ((u2++[y20.1]).length),.nils,oS 5 28 ((u3++[y20.2]).length),.nils]) (by kernel_rfl) (congrArg (fun z_=>(.cells 39 [an y3.length,ai u0,an u1.length,oS 3 23 ((u2++[y20.1]).length),.nils,oS 5 28 z_,.nils]:Ob)) ((by simp):u3.length+1=(u3++[y20.2]).length))).trans (Ac [(oi 3 1,oi 3 23),(oi 4 1,oi 9000 33),(oi 5 1,oi 5 28),(oi 6 1,oi 9000 34)])),⟨u9+1,u2++[y20.1],u3++[y20.2],rfl,rfl⟩,hn11⟩
  have q14_:=of_decide_eq_false q14;refine Ag q14 ?_;refine Au (te_ (te_ (be_ (tn_ ?_))));obtain rfl:=zj h;have h:=hn11
  (try dsimp only at h);obtain rfl:=zj h;exact ⟨_,Ac [],⟨u2,u3,rfl,rfl⟩⟩
 rintro _ _ ⟨u6,u7,rfl,rfl⟩ h
 (try dsimp only at h);refine Ar h (fun t_ S_=>∃ (ub:LL),∃ (uc:LL),t_=(ub,uc)∧S_=⟨Ao [(4,.box (oi 0 1) 0),(7,.box (oi 1 1) 0)],Aj (Ap [(oi 0 1,.cells 39 [ai 0,ai 0,ai 0,.nils,.nils,.nils,.nils]),(oi 1 1,.cells 39 [an y3.length,ai u0,an u1.length,oS 2 1 u6.length,oS 4 1 ub.length,oS 6 1 u7.length,oS 8 1 uc.length]),(oi 2 1,.mat 23 (oi 3 1) .int u6),(oi 3 1,.pool 3 .int u6),(oi 4 1,.mat 23 (oi 5 1) .int ub),(oi 5 1,.pool 3 .int ub),(oi 6 1,.mat 23 (oi 7 1) .int u7),(oi 7 1,.pool 3 .int u7),(oi 8 1,.mat 23 (oi 9 1) .int uc),(oi 9 1,.pool 3 .int uc)]),2⟩) ?_ ?_
 ·intro v_ h;refine Al ?_;refine Ae ?_;refine Av h (fun t_ S_=>∃ (ua:Nat),∃ (u4:LL),∃ (u5:LL),t_=(ua,u4,u5)∧S_=⟨Ao [(0,ai a0),(3,.box (oi 0 1) 0),(4,.box (oi 1 1) 0),(6,an y3.length),(7,.box (oi 2 1) 0),(57,ai u0),(58,an ua)],Aj (Ap [(oi 0 1,.cells 31 [ai u0,.tree T4 u8,tI u1]),(oi 1 1,.cells 39 [ai 0,ai 0,ai 0,.nils,.nils,.nils,.nils]),(oi 2 1,.cells 39 [an y3.length,ai u0,an u1.length,oS 3 1 u6.length,oS 5 1 u4.length,oS 7 1 u7.length,oS 9 1 u5.length]),(oi 3 1,.mat 23 (oi 4 1) .int u6),(oi 4 1,.pool 3 .int u6),(oi 5 1,.mat 23 (oi 6 1) .int u4),(oi 6 1,.pool 3 .int u4),(oi 7 1,.mat 23 (oi 8 1) .int u7),(oi 8 1,.pool 3 .int u7),(oi 9 1,.mat 23 (oi 10 1) .int u5),(oi 10 1,.pool 3 .int u5)]),2⟩) ⟨_,(Bt 9000 (oi 2 1) 4 39 [an y3.length,ai u0,an u1.length,oS 3 1 u6.length,.nils,oS 5 1 u7.length,.nils] [an y3.length,ai u0,an u1.length,oS 3 1 u6.length,oS 9000 5 0,oS 5 1 u7.length,.nils] 23 sI (by kernel_rfl) (by kernel_rfl) (by kernel_rfl)).trans ((B2 (e1:=23) (n:=0) 9000 (oi 9000 5) 3 .int (by kernel_rfl) (by kernel_rfl) rfl (by kernel_rfl) (by kernel_rfl)).trans ((Bt 9002 (oi 2 1) 6 39 [an y3.length,ai u0,an u1.length,oS 3 1 u6.length,oS 9000 5 0,oS 5 1 u7.length,.nils] [an y3.length,ai u0,an u1.length,oS 3 1 u6.length,oS 9000 5 0,oS 5 1 u7.length,oS 9002 7 0] 23 sI (by kernel_rfl) (by kernel_rfl) (by kernel_rfl)).trans ((B2 (e1:=23) (n:=0) 9000 (oi 9002 7) 3 .int (by kernel_rfl) (by kernel_rfl) rfl (by kernel_rfl) (by kernel_rfl)).trans (Ac [(oi 5 1,oi 9000 5),(oi 6 1,oi 9000 6),(oi 7 1,oi 5 1),(oi 8 1,oi 6 1),(oi 9 1,oi 9002 7),(oi 10 1,oi 9000 8)])))),⟨0,([]:LL),([]:LL),rfl,rfl⟩⟩ ?_;rintro n_ _ _ c_ ⟨ua,u4,u5,rfl,rfl⟩ h hn26
  (try dsimp only at h);unfold Cx at h;unfold Kt;refine Al ?_;refine Ab ?_;rcases Af h with ⟨q29,h⟩ | ⟨q29,h⟩
  ·have q29_:=of_decide_eq_true q29;refine Ah q29 ?_;refine Ai (tn_ ?_);refine wr_ ?_;refine Ab ?_;refine Ae ?_;refine Al ?_;refine Ab ?_;obtain ⟨y33,h33,h⟩:=Ad h;obtain ⟨y34,h34,h⟩:=Ad h;obtain ⟨y35,h35,h⟩:=Ad h;refine Ax 19 ?_;refine dzl (.agg [ai u0,.tree T4 u8,tI u1]) ?_;refine dz0 (ai a0) ?_;refine dz0 (an y3.length) ?_;refine dzc (oI 1040 8 y33.length) [nI 1040 8 y33] [an y3.length] (E4 (Is h33)) ?_;refine dz0 (.box (oi 0 1) 0) ?_;refine dzl (ai u0) ?_;refine dz0 (an ua) ?_;refine dzc (oI 1104 12 y34.length) [nI 1104 12 y34] [ai u0,an ua] (E4 (Ur h34)) ?_;refine Lg (.tup [oI 1120 13 y35.1.length,oI 1121 13 y35.2.length]) [nI 1120 13 y35.1,nI 1121 13 y35.2] [.agg [ai u0,.tree T4 u8,tI u1],ai a0,oI 1040 8 y33.length,oI 1104 12 y34.length] _ (caps:=[]) (args0:=[.agg [ai u0,.tree T4 u8,tI u1],ai a0,tI y33,tI y34]) trivial (Ay (by kernel_rfl) (Ay (by kernel_rfl) (Ay (Ca (e:=3) (by kernel_rfl) rfl) (Ay (Ca (e:=3) (by kernel_rfl) rfl) B9)))) (E4 (Nc h35)) Nl ?_;refine dz0 (.tup [oI 1120 13 y35.1.length,oI 1121 13 y35.2.length]) ?_;refine dz0 (oI 1120 13 y35.1.length) ?_;refine dz0 (oI 1121 13 y35.2.length) ?_;refine dz0 (oI 1120 13 y35.1.length) ?_;refine dz0 (oI 1121 13 y35.2.length) ?_;refine F5 (Bc (by kernel_rfl)) (tn_ ?_);refine wr_ ?_;obtain ⟨g36,h⟩:=Am h;obtain ⟨g37,h⟩:=Am h;refine Ax 33 ?_;refine dz0 (.box (oi 2 1) 4) ?_;refine dzl (oS 5 1 u4.length) ?_;refine dz0 (oI 1120 13 y35.1.length) ?_;refine Aad (oS 76 22 1) (oi 76 22) (.vec 23 1 1 ([oI 1120 13 y35.1.length])) trivial (G1 (by kernel_rfl)) ?_;refine ds2 (oS 5 23 (u4.length+1)) (oi 5 1) (oi 5 23) (.vec 23 1 (u4.length+1) (hdL (oi 6 1) .int u4++[oI 1120 13 y35.1.length])) (Dd (u:=.int) (t':=sI) (t2:=sI) (o:=oi 5 1) (q:=oi 76 22) (e2:=23) (p:=oi 6 1) (xss:=u4) (cs:=[oI 1120 13 y35.1.length]) (len:=u4.length) (by kernel_rfl) (by kernel_rfl) rfl (by kernel_rfl) (by kernel_rfl) rfl g36) ?_;refine dz0 (.box (oi 2 1) 6) ?_;refine dzl (oS 9 1 u5.length) ?_;refine dz0 (oI 1121 13 y35.2.length) ?_;refine Aad (oS 81 27 1) (oi 81 27) (.vec 23 1 1 ([oI 1121 13 y35.2.length])) trivial (G1 (by kernel_rfl)) ?_;refine ds2 (oS 9 28 (u5.length+1)) (oi 9 1) (oi 9 28) (.vec 23 1 (u5.length+1) (hdL (oi 10 1) .int u5++[oI 1121 13 y35.2.length])) (Dd (u:=.int) (t':=sI) (t2:=sI) (o:=oi 9 1) (q:=oi 81 27) (e2:=23) (p:=oi 10 1) (xss:=u5) (cs:=[oI 1121 13 y35.2.length]) (len:=u5.length) (by kernel_rfl) (by kernel_rfl) rfl (by kernel_rfl) (by kernel_rfl) rfl g37) ?_;refine dz0 (.box (oi 2 1) 4) ?_;refine K7 (oi 2 1) (oi 2 1) (.cells 39 [an y3.length,ai u0,an u1.length,oS 3 1 u6.length,oS 5 23 (u4.length+1),oS 7 1 u7.length,oS 9 1 u5.length]) (by kernel_rfl) ?_;refine dz0 (.box (oi 2 1) 6) ?_;refine K7 (oi 2 1) (oi 2 1) (.cells 39 [an y3.length,ai u0,an u1.length,oS 3 1 u6.length,oS 5 23 (u4.length+1),oS 7 1 u7.length,oS 9 28 (u5.length+1)]) (by kernel_rfl) ?_;refine F5 (Bc (by kernel_rfl)) (bn_ (tn_ ?_));refine ⟨_,(B8 (e1:=23) (e:=3) (u:=.int) (n:=u4.length+1) (len:=y35.1.length) (row:=y35.1) (ys:=y35.1) (xss:=u4) 9000 (oi 5 23) (oi 6 1) (oi 1120 13) (by kernel_rfl) (by kernel_rfl) rfl (by kernel_rfl) (by kernel_rfl) (H2 rfl) (H1 rfl) (by kernel_rfl) (by kernel_rfl) (by kernel_rfl)).trans (B8 (e1:=23) (e:=3) (u:=.int) (n:=u5.length+1) (len:=y35.2.length) (row:=y35.2) (ys:=y35.2) (xss:=u5) 9000 (oi 9 28) (oi 10 1) (oi 1121 13) (by kernel_rfl) (by kernel_rfl) rfl (by kernel_rfl) (by kernel_rfl) (H2 rfl) (H1 rfl) (by kernel_rfl) (by kernel_rfl) (by kernel_rfl)),?_⟩;obtain ⟨g38,h⟩:=Am h;refine Aa 37 ?_;refine zA g38 ?_;refine rsB 1 ?_;refine Aq (tn_ ?_);obtain rfl:=zj h;exact ⟨(ua+1,u4++[y35.1],u5++[y35.2]),_,(C7 (oi 2 1) (.cells 39 [an y3.length,ai u0,an u1.length,oS 3 1 u6.length,oS 5 23 (u4.length+1),oS 7 1 u7.length,oS 9 28 (u5.length+1)]) (.cells 39 [an y3.length,ai u0,an u1.length,oS 3 1 u6.length,oS 5 23 ((u4++[y35.1]).length),oS 7 1 u7.length,oS 9 28 (u5.length+1)]) (by kernel_rfl) (congrArg (fun z_=>(.cells 39 [an y3.length,ai u0,an u1.length,oS 3 1 u6.length,oS 5 23 z_,oS 7 1 u7.length,oS 9 28 (u5.length+1)]:Ob)) ((by simp):u4.length+1=(u4++[y35.1]).length))).trans ((C7 (oi 2 1) (.cells 39 [an y3.length,ai u0,an u1.length,oS 3 1 u6.length,oS 5 23 ((u4++[y35.1]).length),oS 7 1 u7.length,oS 9 28 (u5.length+1)]) (.cells 39 [an y3.length,ai u0,an u1.length,oS 3 1 u6.length,oS 5 23 ((u4++[y35.1]).length),oS 7 1 u7.length,oS 9 28 ((u5++[y35.2]).length)]) (by kernel_rfl) (congrArg (fun z_=>(.cells 39 [an y3.length,ai u0,an u1.length,oS 3 1 u6.length,oS 5 23 ((u4++[y35.1]).length),oS 7 1 u7.length,oS 9 28 z_]:Ob)) ((by simp):u5.length+1=(u5++[y35.2]).length))).trans (Ac [(oi 5 1,oi 5 23),(oi 6 1,oi 9000 33),(oi 9 1,oi 9 28),(oi 10 1,oi 9000 34)])),⟨ua+1,u4++[y35.1],u5++[y35.2],rfl,rfl⟩,hn26⟩
  have q29_:=of_decide_eq_false q29;refine Ag q29 ?_;refine Au (te_ (te_ (be_ (tn_ ?_))));obtain rfl:=zj h;have h:=hn26
  (try dsimp only at h);obtain rfl:=zj h;exact ⟨_,Ac [(oi 0 1,oi 1 1),(oi 1 1,oi 2 1),(oi 2 1,oi 3 1),(oi 3 1,oi 4 1),(oi 4 1,oi 5 1),(oi 5 1,oi 6 1),(oi 6 1,oi 7 1),(oi 7 1,oi 8 1),(oi 8 1,oi 9 1),(oi 9 1,oi 10 1)],⟨u4,u5,rfl,rfl⟩⟩
 rintro _ _ ⟨ub,uc,rfl,rfl⟩ h
 (try dsimp only at h);refine Al ?_;refine An ?_;obtain rfl:=zj h;exact Kk [(true,[an y3.length,ai u0,an u1.length,oS 2 1 u6.length,oS 4 1 ub.length,oS 6 1 u7.length,oS 8 1 uc.length]),(false,[.bool true])] (Oa (Az C3 (Az C3 (Az C3 (Az (Bp (.mat (p:=oi 3 1) (e1:=23) (e:=3) (by kernel_rfl) (Bn (by kernel_rfl)) rfl)) (Az (Bp (.mat (p:=oi 5 1) (e1:=23) (e:=3) (by kernel_rfl) (Bn (by kernel_rfl)) rfl)) (Az (Bp (.mat (p:=oi 7 1) (e1:=23) (e:=3) (by kernel_rfl) (Bn (by kernel_rfl)) rfl)) (Az (Bp (.mat (p:=oi 9 1) (e1:=23) (e:=3) (by kernel_rfl) (Bn (by kernel_rfl)) rfl)) Oe))))))) (K9 C3 Gz))
def Mk:AC :=
 (.seq (rg [xo 3 (.i (.box 31 (tm 1))),xo 4 (.i (.alloc 39 [.int .i64 0,.int .i64 0,.int .i64 0,.nils,.nils,.nils,.nils])),xo 5 (qm (cb false))])
 (.seq (.seq (rg [xm 6 0,xo 7 (.i (.ld false 3 (tm 3))),⟨some 8,none,qc 28 [tm 6,tm 7] [[],[none,some T4,some .int]]⟩,xo 9 (.i (.not (tm 8)))])
 (.cond (tm 9)
  (.seq (rg [xo 10 (.build [.int .i64 0,.int .i64 0,.int .i64 0,.nils,.nils,.nils,.nils] []),xn (.st false 7 (tm 4) (tm 10)),xo 5 (qm (cb false))])
  .ret)
  .skip))
 (.seq (rg [xm 11 0,xo 12 (.i (.ld false 3 (tm 3))),⟨some 13,none,qc 29 [tm 11,tm 12] [[],[none,some T4,some .int]]⟩,xo 14 (.i (.extr 0 (tm 13))),xo 15 (.i (.extr 1 (tm 13))),xn (.st false 7 (tm 4) (tm 14)),xm 5 15])
 .ret)))
def Vo:List Res:=[.cell 4 false 7,.tmp 5]
theorem Ve:At Tryd.prog Tryd.f15=some (Mk,Vo):=by kernel_rfl
def F4 (a0 u0:Int) (u1:List (Int×Int×Int×Int)) (u2:List Int):Option (Int×Int×Int×LL×LL×LL×LL×Bool) :=
 Option.bind (Hr a0 u0 u1 u2) fun y4 =>
cond (!y4)
 (some (0,0,0,[],[],[],[],false))
 (Option.bind (Dw a0 u0 u1 u2) fun y8 =>
 some (y8.1,y8.2.1,y8.2.2.1,y8.2.2.2.1,y8.2.2.2.2.1,y8.2.2.2.2.2.1,y8.2.2.2.2.2.2.1,y8.2.2.2.2.2.2.2))
def Ub (r:Int×Int×Int×LL×LL×LL×LL×Bool):RV:=⟨true,[(true,[.sc (.int .i64 r.1),.sc (.int .i64 r.2.1),.sc (.int .i64 r.2.2.1),.frz (tS r.2.2.2.1),.frz (tS r.2.2.2.2.1),.frz (tS r.2.2.2.2.2.1),.frz (tS r.2.2.2.2.2.2.1)]),(false,[.sc (.bool r.2.2.2.2.2.2.2)])]⟩
theorem Up {a0 u0:Int} {u1:List (Int×Int×Int×Int)} {u2:List Int} {r:Int×Int×Int×LL×LL×LL×LL×Bool} (h:F4 a0 u0 u1 u2=some r):A0 Tryd.prog Tab 15 [ai a0,.agg [ai u0,.tree T4 u1,tI u2]] (Ub r):=by
 refine Ej (by kernel_rfl) Tryd.func15 Ve (n:=16) (by kernel_rfl) (by simp) (tl:=[(0,ai a0),(1,.agg [ai u0,.tree T4 u1,tI u2])]) rfl fun zn_ nz_ hz_=>?_
 unfold Mk;unfold F4 at h;refine Al ?_;refine Ab ?_;refine Ab ?_;obtain ⟨y4,h4,h⟩:=Ad h;refine Aa 8 ?_;refine rsB 2 ?_;refine zc (.bool y4) [] [ai a0,.agg [ai u0,.tree T4 u1,tI u2]] (E4 (Aau h4)) ?_;refine rsB 1 ?_;refine Aq (tn_ ?_);refine wr_ ?_;rcases Af h with ⟨q5,h⟩ | ⟨q5,h⟩
 ·refine Ah q5 ?_;refine Al ?_;refine An (tr_ ?_);obtain rfl:=zj h;exact Kk [(true,[ai 0,ai 0,ai 0,.nils,.nils,.nils,.nils]),(false,[.bool false])] (Oa (Az C3 (Az C3 (Az C3 (Az (Bp (t:=sI) (xs:=[]) .nil) (Az (Bp (t:=sI) (xs:=[]) .nil) (Az (Bp (t:=sI) (xs:=[]) .nil) (Az (Bp (t:=sI) (xs:=[]) .nil) Oe))))))) (K9 C3 Gz))
 refine Ag q5 ?_;refine Ai (tn_ ?_);refine wr_ ?_;refine Ab ?_;obtain ⟨y8,h8,h⟩:=Ad h;refine Aa 15 ?_;refine rsB 2 ?_;refine zc (.tup [.agg [ai y8.1,ai y8.2.1,ai y8.2.2.1,.ftr nz_ sI y8.2.2.2.1,.ftr nz_ sI y8.2.2.2.2.1,.ftr nz_ sI y8.2.2.2.2.2.1,.ftr nz_ sI y8.2.2.2.2.2.2.1],.bool y8.2.2.2.2.2.2.2]) [] [ai a0,.agg [ai u0,.tree T4 u1,tI u2]] (Ld hz_ (Uq h8)) ?_;refine rsB 4 ?_;refine Aq (tn_ ?_);refine wr_ ?_;refine An ?_;obtain rfl:=zj h;exact Kk [(true,[ai y8.1,ai y8.2.1,ai y8.2.2.1,.ftr nz_ sI y8.2.2.2.1,.ftr nz_ sI y8.2.2.2.2.1,.ftr nz_ sI y8.2.2.2.2.2.1,.ftr nz_ sI y8.2.2.2.2.2.2.1]),(false,[.bool y8.2.2.2.2.2.2.2])] (Oa (Az C3 (Az C3 (Az C3 (Az (Bp .ftr) (Az (Bp .ftr) (Az (Bp .ftr) (Az (Bp .ftr) Oe))))))) (K9 C3 Gz))
def P4:AC :=
 (.seq (rg [xs1 11 10 9])
 (.seq (.cond (tm 11)
  .skip
  (.exit 0))
 (.seq (.block 1 (.seq (rg [xx 12 1 8 10,xl 13 12,xm 7 13])
 (rg [xm 14 5,xm 15 1,xm 16 7,xo 17 (qc 24 [tm 16] [[some .int]]),xx 18 1 15 17,xl 19 18,xo 20 (.mkS 3 .int [tm 19]),xo 21 (.append 3 .int 8 (tm 14) (tm 20)),xm 5 21])))
 (rg [xa 22 10,xm 10 22]))))
def Vc:AC :=
 (.seq (rg [xo 4 (qm (.cst .nils))])
 (.seq (rg [xo 5 (qm (.cst .nils))])
 (.seq (.seq (rg [xm 8 0,xn1 9 8,xo 10 (qm (ci 0))])
 (.block 0 (.loop P4)))
 (.seq (rg [xm 23 5,xm 4 23])
 .ret))))
def Ad9:List Res:=[.tmp 4]
theorem Adp:At Tryd.prog Tryd.f44=some (Vc,Ad9):=by kernel_rfl
theorem S5:Be Tryd.prog 44=true:=by kernel_rfl
def Fp (a0:LL) (a1:List Int) (u0:Nat) (u1:List Int):Option (Ctl (Nat×List Int) (List Int)) :=
 cond (decide ((u0:Int)<(a0.length:Int)))
 (Option.bind (a0[u0]?) fun x11 =>
 Option.bind (Ea x11) fun y12 =>
 Option.bind (E2 a1 y12) fun x13 =>
 og (u1.length+1<=1073741824∧(u1.length+1)*8<=140737488355328) <|
 og (u0+1<4611686018427387904) <|
 some (Ctl.next (u0+1,u1++([x13]))))
 (some (Ctl.out u1))
def F9 (a0:LL) (a1:List Int):Option (List Int) :=
 Option.bind (Aw (fun s_:Nat×List Int=>Fp a0 a1 s_.1 s_.2) 4611686018427387904 (0,[])) fun u0 =>
some u0
def Abk (r:List Int):RV:=⟨false,[(false,[.new 3 .int r])]⟩
theorem S8 {a0:LL} {a1 r:List Int} (h:F9 a0 a1=some r):A0 Tryd.prog Tab 44 [tS a0,tI a1] (Abk r):=by
 refine A1 (by kernel_rfl) Tryd.func44 Adp (n:=24) (by kernel_rfl) (by simp) (tl:=[(0,tS a0),(1,tI a1)]) rfl ?_;unfold Vc;unfold F9 at h;refine Al ?_;refine Al ?_;refine Ar h (fun (u2:List Int) S_=>S_=⟨Ao [(5,oI 0 1 u2.length)],Aj (Ap [(oi 0 1,.arr 3 .int u2)]),2⟩) ?_ ?_
 ·intro v_ h;refine Al ?_;refine Ae ?_;refine Av h (fun t_ S_=>∃ (u1:Nat),∃ (u0:List Int),t_=(u1,u0)∧S_=⟨Ao [(1,tI a1),(5,oI 0 1 u0.length),(8,tS a0),(9,an a0.length),(10,an u1)],Aj (Ap [(oi 0 1,.arr 3 .int u0)]),2⟩) ⟨_,(My 5 3 .int rfl (by kernel_rfl)).trans (Ac [(oi 0 1,oi 5 6)]),⟨0,[],rfl,rfl⟩⟩ ?_;rintro n_ _ _ c_ ⟨u1,u0,rfl,rfl⟩ h hn5
  (try dsimp only at h);unfold Fp at h;unfold P4;refine Al ?_;refine Ab ?_;rcases Af h with ⟨q8,h⟩ | ⟨q8,h⟩
  ·have q8_:=of_decide_eq_true q8;refine Ah q8 ?_;refine Ai (tn_ ?_);refine wr_ ?_;refine Ab ?_;refine Ae ?_;refine Ab ?_;obtain ⟨x11,e11,h⟩:=Ad h;refine Aa 6 ?_;refine zI sI e11 ?_;refine rsB 2 ?_;refine Aq (tn_ ?_);refine wr_ ?_;obtain ⟨y12,h12,h⟩:=Ad h;obtain ⟨x13,f13,h⟩:=Ad h;obtain ⟨p13,b13,e13⟩:=Ba f13;obtain ⟨g14,h⟩:=Am h;refine Aa 15 ?_;refine rsB 3 ?_;refine zc (ai y12) [] [tI x11] (Jd h12) ?_;refine rs0 (.telt none .int x13 0) (zi (t:=.int) (xs:=a1) (k:=.i64) (m:=y12) p13 e13) ?_;refine rsB 2 ?_;refine rs2 (oI 0 13 ((u0++([x13])).length)) (oi 0 1) (oi 0 13) (.arr 3 .int (u0++([x13]))) (I9 (t:=.int) (t':=.int) (xs:=u0) (ys:=[x13]) (zs:=u0++([x13])) (j:=oi 0 1) (len:=u0.length) (c:=oI 20 12 1) (by kernel_rfl) (by kernel_rfl) rfl (by kernel_rfl) (Ma (e:=3) (by kernel_rfl) rfl) rfl g14) ?_;refine rsB 1 ?_;refine Aq (bn_ (tn_ ?_));refine wr_ ?_;obtain ⟨g15,h⟩:=Am h;refine Aa 17 ?_;refine zA g15 ?_;refine rsB 1 ?_;refine Aq (tn_ ?_);obtain rfl:=zj h;exact ⟨(u1+1,u0++([x13])),_,Ac [(oi 0 1,oi 0 13)],⟨u1+1,u0++([x13]),rfl,rfl⟩,hn5⟩
  have q8_:=of_decide_eq_false q8;refine Ag q8 ?_;refine Au (te_ (te_ (be_ (tn_ ?_))));obtain rfl:=zj h;have h:=hn5
  (try dsimp only at h);obtain rfl:=zj h;exact ⟨_,Ac [],rfl⟩
 rintro u2 _ rfl h
 (try dsimp only at h);refine Al ?_;refine An ?_;obtain rfl:=zj h;exact Bo [oI 0 1 u2.length] (A2 rfl (Fy (by kernel_rfl) rfl) A5)
def Xu:AC :=
 (.seq (rg [xo 2 (qm (cb false))])
 (.seq (rg [xm 3 0,xo 4 (qc 63 [tm 3] [[some .int]]),xm 5 0,xn1 6 5,xo 7 (qb .eql (tm 4) (tm 6)),xm 2 7])
 .ret))
def Ais:List Res:=[.tmp 2]
theorem Aiq:At Tryd.prog Tryd.f91=some (Xu,Ais):=by kernel_rfl
theorem Ahh:Be Tryd.prog 91=true:=by kernel_rfl
def M9 (a0:List Int):Option Bool :=
 Option.bind (H4 a0) fun y3 =>
some (y3==(a0.length:Int))
def Ah7 (r:Bool):RV:=⟨false,[(false,[.sc (.bool r)])]⟩
theorem Aij {a0:List Int} {r:Bool} (h:M9 a0=some r):A0 Tryd.prog Tab 91 [tI a0] (Ah7 r):=by
 refine A1 (by kernel_rfl) Tryd.func91 Aiq (n:=8) (by kernel_rfl) (by simp) (tl:=[(0,tI a0)]) rfl ?_;unfold Xu;unfold M9 at h;refine Al ?_;refine Ab ?_;obtain ⟨y3,h3,h⟩:=Ad h;refine Aa 8 ?_;refine rsB 1 ?_;refine zc (ai y3) [] [tI a0] (Ov h3) ?_;refine rsB 4 ?_;refine Aq (tn_ ?_);refine wr_ ?_;refine An ?_;obtain rfl:=zj h;exact Bo [.bool (y3==(a0.length:Int))] (A2 rfl zl A5)
def Ms:AC :=
 (.seq (rg [xs1 19 18 17])
 (.seq (.cond (tm 19)
  .skip
  (.exit 0))
 (.seq (.block 1 (.seq (rg [xx 20 1 16 18,xl 21 20,xm 11 21])
 (.seq (rg [xm 22 8,xm 23 11,xo 24 (qc 63 [tm 23] [[some .int]]),xx 25 1 22 24,xl 26 25,xm 12 26])
 (.seq (rg [xm 27 9,xm 28 12,xo 29 (.mkS 3 .int [tm 28]),xo 30 (.append 3 .int 8 (tm 27) (tm 29)),xm 9 30])
 (rg [xm 31 0,xm 32 8,xm 33 12,xo 34 (.i (.neg (tm 33))),xm 35 11,xo 36 (qc 67 [tm 31,tm 32,tm 34,tm 35] [[],[some .int],[],[some .int]])])))))
 (rg [xa 37 18,xm 18 37]))))
def P1:AC :=
 (.seq (rg [xo 6 (qm (.cst .nils)),xo 7 (qm (cb false))])
 (.seq (rg [xm 13 2,xo 14 (qc 66 [tm 13] [[some .int]]),xm 8 14])
 (.seq (rg [xo 15 (.mkS 3 .int []),xm 9 15])
 (.seq (.seq (rg [xm 16 1,xn1 17 16,xo 18 (qm (ci 0))])
 (.block 0 (.loop Ms)))
 (.seq (rg [xm 38 9,xm 39 8,xo 40 (qc 91 [tm 39] [[some .int]]),xm 6 38,xm 7 40])
 .ret)))))
def Yx:List Res:=[.tmp 6,.tmp 7]
theorem Zf:At Tryd.prog Tryd.f86=some (P1,Yx):=by kernel_rfl
def D1 (a1:LL) (a0:Int) (u0:Nat) (u1 u2:List Int):Option (Ctl (Nat×List Int×List Int) (List Int×List Int)) :=
 cond (decide ((u0:Int)<(a1.length:Int)))
 (Option.bind (a1[u0]?) fun x13 =>
 Option.bind (H4 x13) fun y15 =>
 Option.bind (E2 u1 y15) fun x16 =>
 og (u2.length+1<=1073741824∧(u2.length+1)*8<=140737488355328) <|
 Option.bind (Cn a0 u1 (wI (0 - x16)) x13) fun y19 =>
 og (y19.length=u1.length) <|
 og (u0+1<4611686018427387904) <|
 some (Ctl.next (u0+1,y19,u2++([x16]))))
 (some (Ctl.out (u1,u2)))
def Fn (a0:Int) (a1:LL) (a2:List Int):Option (List Int×Bool) :=
 Option.bind (Gf a2) fun y3 =>
Option.bind (Aw (fun s_:Nat×List Int×List Int=>D1 a1 a0 s_.1 s_.2.1 s_.2.2) 4611686018427387904 (0,y3,[])) fun (u0,u1) =>
Option.bind (M9 u0) fun y23 =>
some (u1,y23)
def Xh (r:List Int×Bool):RV:=⟨true,[(false,[.new 3 .int r.1]),(false,[.sc (.bool r.2)])]⟩
theorem Xm {a0:Int} {a1:LL} {a2:List Int} {r:List Int×Bool} (h:Fn a0 a1 a2=some r):A0 Tryd.prog Tab 86 [ai a0,tS a1,tI a2] (Xh r):=by
 refine A1 (by kernel_rfl) Tryd.func86 Zf (n:=41) (by kernel_rfl) (by simp) (tl:=[(0,ai a0),(1,tS a1),(2,tI a2)]) rfl ?_;unfold P1;unfold Fn at h;refine Al ?_;refine Ab ?_;obtain ⟨y3,h3,h⟩:=Ad h;refine Aa 6 ?_;refine rsB 1 ?_;refine zc (oI 224 4 y3.length) [nI 224 4 y3] [tI a2] (M6 h3) ?_;refine rsB 1 ?_;refine Aq (tn_ ?_);refine wr_ ?_;refine Al ?_;refine Ar h (fun t_ S_=>∃ (u2:List Int),∃ (u3:List Int),t_=(u2,u3)∧S_=⟨Ao [(8,oI 0 1 u2.length),(9,oI 1 1 u3.length)],Aj (Ap [(oi 0 1,.arr 3 .int u2),(oi 1 1,.arr 3 .int u3)]),2⟩) ?_ ?_
 ·intro v_ h;refine Al ?_;refine Ae ?_;refine Av h (fun t_ S_=>∃ (u4:Nat),∃ (u1:List Int),∃ (u0:List Int),t_=(u4,u1,u0)∧S_=⟨Ao [(0,ai a0),(8,oI 0 1 u1.length),(9,oI 1 1 u0.length),(16,tS a1),(17,an a1.length),(18,an u4)],Aj (Ap [(oi 0 1,.arr 3 .int u1),(oi 1 1,.arr 3 .int u0)]),2⟩) ⟨_,Ac [(oi 0 1,oi 224 4),(oi 1 1,oi 15 6)],⟨0,y3,[],rfl,rfl⟩⟩ ?_;rintro n_ _ _ c_ ⟨u4,u1,u0,rfl,rfl⟩ h hn7
  (try dsimp only at h);unfold D1 at h;unfold Ms;refine Al ?_;refine Ab ?_;rcases Af h with ⟨q10,h⟩ | ⟨q10,h⟩
  ·have q10_:=of_decide_eq_true q10;refine Ah q10 ?_;refine Ai (tn_ ?_);refine wr_ ?_;refine Ab ?_;refine Ae ?_;refine Ab ?_;obtain ⟨x13,e13,h⟩:=Ad h;refine Aa 6 ?_;refine zI sI e13 ?_;refine rsB 2 ?_;refine Aq (tn_ ?_);refine wr_ ?_;refine Ab ?_;obtain ⟨y15,h15,h⟩:=Ad h;obtain ⟨x16,f16,h⟩:=Ad h;obtain ⟨p16,b16,e16⟩:=Ba f16;refine Aa 12 ?_;refine rsB 2 ?_;refine zc (ai y15) [] [tI x13] (Ov h15) ?_;refine rs0 (.elt (oi 0 1) y15.toNat 0) (zo (t:=.int) (o:=oi 0 1) (len:=u1.length) (k:=.i64) (m:=y15) p16 (As e16)) ?_;refine zE (oi 0 1) e16 ?_;refine rsB 1 ?_;refine Aq (tn_ ?_);refine wr_ ?_;refine Ab ?_;obtain ⟨g18,h⟩:=Am h;refine Aa 17 ?_;refine rsB 3 ?_;refine rs2 (oI 1 15 ((u0++([x16])).length)) (oi 1 1) (oi 1 15) (.arr 3 .int (u0++([x16]))) (I9 (t:=.int) (t':=.int) (xs:=u0) (ys:=[x16]) (zs:=u0++([x16])) (j:=oi 1 1) (len:=u0.length) (c:=oI 29 14 1) (by kernel_rfl) (by kernel_rfl) rfl (by kernel_rfl) (Ma (e:=3) (by kernel_rfl) rfl) rfl g18) ?_;refine rsB 1 ?_;refine Aq (tn_ ?_);refine wr_ ?_;obtain ⟨y19,h19,h⟩:=Ad h;obtain ⟨g20,h⟩:=Am h;refine Aa 23 ?_;refine rsB 5 ?_;refine Ic (.tup []) [nI 0 1 y19,(oi 0 1,none)] [(oi 0 0,oi 0 1)] [ai a0,oI 0 1 u1.length,ai (wI (0 - x16)),tI x13] (caps:=[]) trivial (Jt h19 rfl) Jz ⟨by kernel_rfl,trivial⟩ (.cons (.ren (by kernel_rfl)) (.cons (.ren (by kernel_rfl)) (.cons (.ren (by kernel_rfl)) (.cons (.ren (by kernel_rfl)) .nil)))) (Bj (by kernel_rfl) (by kernel_rfl) ⟨Ck (by kernel_rfl),trivial⟩) ?_;refine Aq (bn_ (tn_ ?_));refine wr_ ?_;obtain ⟨g21,h⟩:=Am h;refine Aa 25 ?_;refine zA g21 ?_;refine rsB 1 ?_;refine Aq (tn_ ?_);obtain rfl:=zj h;exact ⟨(u4+1,y19,u0++([x16])),_,(A8 8 (oI 0 1 u1.length) (oI 0 1 y19.length) (by kernel_rfl) (congrArg (fun z_=>((oI 0 1 z_):AV)) (g20.symm:u1.length=y19.length))).trans (Ac [(oi 1 1,oi 1 15)]),⟨u4+1,y19,u0++([x16]),rfl,rfl⟩,hn7⟩
  have q10_:=of_decide_eq_false q10;refine Ag q10 ?_;refine Au (te_ (te_ (be_ (tn_ ?_))));obtain rfl:=zj h;have h:=hn7
  (try dsimp only at h);obtain rfl:=zj h;exact ⟨_,Ac [],⟨u1,u0,rfl,rfl⟩⟩
 rintro _ _ ⟨u2,u3,rfl,rfl⟩ h
 (try dsimp only at h);refine Ab ?_;obtain ⟨y23,h23,h⟩:=Ad h;refine Aa 7 ?_;refine rsB 2 ?_;refine Cm (.bool y23) [] [oI 0 1 u2.length] _ (caps:=[]) (args0:=[tI u2]) trivial (Ay (Ca (e:=3) (by kernel_rfl) rfl) B9) (Aij h23) Ahh ?_;refine rsB 2 ?_;refine Aq (tn_ ?_);refine wr_ ?_;refine An ?_;obtain rfl:=zj h;exact Bo [oI 1 1 u3.length,.bool y23] (A2 rfl (Fy (by kernel_rfl) rfl) (A2 rfl zl A5))
def Pj:AC :=
 (.seq (rg [xs1 10 9 8])
 (.seq (.cond (tm 10)
  .skip
  (.exit 0))
 (.seq (.block 1 (.seq (rg [xm 11 9,xx 12 1 7 9,xl 13 12,xm 4 11,xm 5 13])
 (.seq (rg [xm 14 5,xo 15 (.i (.not (tm 14)))])
 (.cond (tm 15)
  (rg [xm 16 3,xm 17 4,xo 18 (.mkS 3 .int [tm 17]),xo 19 (.append 3 .int 8 (tm 16) (tm 18)),xm 3 19])
  .skip))))
 (rg [xa 20 9,xm 9 20]))))
def U0:AC :=
 (.seq (rg [xo 2 (qm (.cst .nils))])
 (.seq (rg [xo 6 (.mkS 3 .int []),xm 3 6])
 (.seq (.seq (rg [xm 7 0,xn1 8 7,xo 9 (qm (ci 0))])
 (.block 0 (.loop Pj)))
 (.seq (rg [xm 21 3,xm 2 21])
 .ret))))
def Ads:List Res:=[.tmp 2]
theorem Adx:At Tryd.prog Tryd.f64=some (U0,Ads):=by kernel_rfl
theorem Abb:Be Tryd.prog 64=true:=by kernel_rfl
def Fl (a0:List Bool) (u0:Nat) (u1:List Int):Option (Ctl (Nat×List Int) (List Int)) :=
 cond (decide ((u0:Int)<(a0.length:Int)))
 (Option.bind (Option.bind (a0[u0]?) fun x11 =>
  cond (!x11)
   (og (u1.length+1<=1073741824∧(u1.length+1)*8<=140737488355328) <|
   some (u1++([(u0:Int)])))
   (some u1)) fun u2 =>
 og (u0+1<4611686018427387904) <|
 some (Ctl.next (u0+1,u2)))
 (some (Ctl.out u1))
def Gc (a0:List Bool):Option (List Int) :=
 Option.bind (Aw (fun s_:Nat×List Int=>Fl a0 s_.1 s_.2) 4611686018427387904 (0,[])) fun u0 =>
some u0
def Acb (r:List Int):RV:=⟨false,[(false,[.new 3 .int r])]⟩
theorem Ach {a0:List Bool} {r:List Int} (h:Gc a0=some r):A0 Tryd.prog Tab 64 [.tree .bool a0] (Acb r):=by
 refine A1 (by kernel_rfl) Tryd.func64 Adx (n:=22) (by kernel_rfl) (by simp) (tl:=[(0,.tree .bool a0)]) rfl ?_;unfold U0;unfold Gc at h;refine Al ?_;refine Al ?_;refine Ar h (fun (u3:List Int) S_=>S_=⟨Ao [(3,oI 0 1 u3.length)],Aj (Ap [(oi 0 1,.arr 3 .int u3)]),2⟩) ?_ ?_
 ·intro v_ h;refine Al ?_;refine Ae ?_;refine Av h (fun t_ S_=>∃ (u0:Nat),∃ (u1:List Int),t_=(u0,u1)∧S_=⟨Ao [(3,oI 0 1 u1.length),(7,.tree .bool a0),(8,an a0.length),(9,an u0)],Aj (Ap [(oi 0 1,.arr 3 .int u1)]),2⟩) ⟨_,Ac [(oi 0 1,oi 6 2)],⟨0,[],rfl,rfl⟩⟩ ?_;rintro n_ _ _ c_ ⟨u0,u1,rfl,rfl⟩ h hn5
  (try dsimp only at h);unfold Fl at h;unfold Pj;refine Al ?_;refine Ab ?_;rcases Af h with ⟨q8,h⟩ | ⟨q8,h⟩
  ·have q8_:=of_decide_eq_true q8;refine Ah q8 ?_;refine Ai (tn_ ?_);refine wr_ ?_;refine Ar h (fun (u2:List Int) S_=>S_=⟨Ao [(3,oI 0 1 u2.length),(7,.tree .bool a0),(8,an a0.length),(9,an u0)],Aj (Ap [(oi 0 1,.arr 3 .int u2)]),2⟩) ?_ ?_
   ·intro v_ h;refine Ae ?_;refine Ab ?_;obtain ⟨x11,e11,h⟩:=Ad h;refine Aa 8 ?_;refine rsB 1 ?_;refine zI .bool e11 ?_;refine rsB 3 ?_;refine Aq (tn_ ?_);refine wr_ ?_;refine Al ?_;rcases Af h with ⟨q13,h⟩ | ⟨q13,h⟩
    ·refine Ah q13 ?_;obtain ⟨g14,h⟩:=Am h;refine Aa 15 ?_;refine rsB 3 ?_;refine rs2 (oI 0 13 ((u1++([(u0:Int)])).length)) (oi 0 1) (oi 0 13) (.arr 3 .int (u1++([(u0:Int)]))) (I9 (t:=.int) (t':=.int) (xs:=u1) (ys:=[(u0:Int)]) (zs:=u1++([(u0:Int)])) (j:=oi 0 1) (len:=u1.length) (c:=oI 18 12 1) (by kernel_rfl) (by kernel_rfl) rfl (by kernel_rfl) (Ma (e:=3) (by kernel_rfl) rfl) rfl g14) ?_;refine rsB 1 ?_;refine Aq (bn_ (tn_ ?_));obtain rfl:=zj h;exact ⟨_,Ac [(oi 0 1,oi 0 13)],rfl⟩
    refine Ag q13 ?_;refine Ai (bn_ (tn_ ?_));obtain rfl:=zj h;exact ⟨_,Ac [],rfl⟩
   rintro u2 _ rfl h
   (try dsimp only at h);obtain ⟨g15,h⟩:=Am h;refine Aa 4 ?_;refine zA g15 ?_;refine rsB 1 ?_;refine Aq (tn_ ?_);obtain rfl:=zj h;exact ⟨(u0+1,u2),_,Ac [],⟨u0+1,u2,rfl,rfl⟩,hn5⟩
  have q8_:=of_decide_eq_false q8;refine Ag q8 ?_;refine Au (te_ (te_ (be_ (tn_ ?_))));obtain rfl:=zj h;have h:=hn5
  (try dsimp only at h);obtain rfl:=zj h;exact ⟨_,Ac [],rfl⟩
 rintro u3 _ rfl h
 (try dsimp only at h);refine Al ?_;refine An ?_;obtain rfl:=zj h;exact Bo [oI 0 1 u3.length] (A2 rfl (Fy (by kernel_rfl) rfl) A5)
end

section
open Go.RowKit Go.Deep
def Xz:List (Oid×Option Ob)->Oid->List Oid->Option (Ob×List Oid)
 | [],_,_=>none
 | (j,o) :: r,p,L=>match o with
  | some (.pool e u xss)=>if p.1.1=j.1.1∧p.2=j.2 then some (.pool e u xss,L) else Xz r p L
  | none=>if p.1.1=j.1.1∧p.2=j.2∧j.1.2≠0 then Xz r p (j :: L) else Xz r p L
  | some _=>if p.1.1=j.1.1∧p.2=j.2∧j.1.2≠0 then none else Xz r p L
theorem Tb {e:TypeId} {u:Ty} {xss:List (List u.D)} {p:Oid} {L':List Oid}:∀ {ol:List (Oid×Option Ob)} {L:List Oid},Xz ol p L=some (.pool e u xss,L')->(∀ x∈L,x∈L')∧∀ k,kid p k∉L'->I1 ol (kid p k)=(xss[k]?).map (.arr e u)
 | [],_,h=>by cases h
 | (j,o) :: r,L,h=>by
  have hk:∀ k,¬ (p.1.1=j.1.1∧p.2=j.2∧j.1.2≠0)->kid p k≠j:=fun k hn ej=>hn (by subst ej; exact ⟨rfl,rfl,by simp [kid]⟩)
  cases o with
  | none =>
   simp only [Xz] at h;split at h
   ·obtain ⟨i1,i2⟩:=Tb h;refine ⟨fun x hx=>i1 x (List.mem_cons_of_mem _ hx),fun k hkn=>?_⟩;simp only [I1];rw [if_neg (fun e=>hkn (by rw [e]; exact i1 _ List.mem_cons_self))];exact i2 k hkn
   ·rename_i hn;obtain ⟨i1,i2⟩:=Tb h;refine ⟨i1,fun k hkn=>?_⟩;simp only [I1];rw [if_neg (hk k hn)];exact i2 k hkn
  | some o =>
   cases o with
   | pool e' u' xss' =>
    simp only [Xz] at h;split at h
    ·rename_i hc;obtain ⟨h1,rfl⟩:=Prod.mk.inj (osj h);obtain ⟨rfl,rfl,he⟩:=Ob.pool.inj h1;obtain rfl:=eq_of_heq he;refine ⟨fun _ hx=>hx,fun k _=>?_⟩;simp only [I1];rw [if_pos ⟨by simpa [kid] using hc.1,by simpa [kid] using hc.2,by simp [kid]⟩];simp [kid]
    ·rename_i hc;obtain ⟨i1,i2⟩:=Tb h;refine ⟨i1,fun k hkn=>?_⟩;simp only [I1];rw [if_neg (fun h'=>hc ⟨h'.1,h'.2.1⟩)];exact i2 k hkn
   | _ =>
    simp only [Xz] at h;split at h
    ·cases h
    ·rename_i hn;obtain ⟨i1,i2⟩:=Tb h;refine ⟨i1,fun k hkn=>?_⟩;simp only [I1];rw [if_neg (hk k hn)];exact i2 k hkn
theorem Axj {e:TypeId} {u:Ty} {xss:List (List u.D)} {p:Oid} {L:List Oid} {ol:List (Oid×Option Ob)} (h:Xz ol p []=some (.pool e u xss,L)) {k:Nat} {row:List u.D} (hk:kid p k∉L) (hx:xss[k]? =some row):Aj ol (kid p k)=some (.arr e u row):=by
 rw [Np,(Tb h).2 k hk,hx]; rfl
theorem Ahs {G:World->Prop} {tl:List (Nat×AV)} {ol:List (Oid×Option Ob)} {g:Nat} (s:Nat) (o p q:Oid) {e1 e:TypeId} {u:Ty} {xss:List (List u.D)} {j n len:Nat} {row ys:List u.D} (hfl:u.flat=true) (ho:Aj ol o=some (.vec e1 1 n ((hdL p u xss).set j (.own q u 0 len)))) (hn:n=xss.length) (hp:Xz ol p []=some (.pool e u xss,[kid p j])) (hq:I1 ol q=some (.arr e u ys)) (hl:len<=ys.length) (hr:row=ys.take len)
  (hqp:(q.1.1==p.1.1&&q.2==p.2&&q.1.2 !=0)=false) (hog:(o.2==g)=false) (hfr:Qe g ((q,none) :: (p,some (.pool e u [])) :: ol)=true) :
  WeakG G ⟨Ao tl,Aj ol,g⟩ ⟨Ao tl,Aj ((o,some (.mat e1 ((s,0),g) u (xss.set j row))) :: (((s,0),g),some (.pool e u (xss.set j row))) :: (q,none) :: (p,some (.pool e u [])) :: ol),g+1⟩:=by
 obtain ⟨r1,r2,r3⟩:=Agh hl hr;have hqk:∀ k,q≠kid p k:=fun k e=>by rw [e] at hqp; simp [kid] at hqp
 have hq':Aj ol q=some (.arr e u ys):=by rw [Np,hq]; rfl
 refine K6 s o (fun k=>if k=j then q else kid p k) [(q,none),(p,some (.pool e u []))] hfl ho (by rw [List.length_set]; exact hn) (fun k row' hk=>?_) (fun a b ha hb hab=>?_) hog hfr (fun i _=>?_)
 ·rw [List.getElem?_set] at hk ⊢;by_cases h:j=k
  ·subst h;rw [if_pos rfl] at hk ⊢;split at hk
   ·rename_i hlt;obtain rfl:=osj hk;rw [Df,if_pos hlt,if_pos rfl,r1];exact ⟨rfl,ys,hq',hl,hr⟩
   ·cases hk
  ·rw [if_neg h] at hk ⊢;rw [Ez,hk,if_neg (fun e=>h e.symm)];exact ⟨rfl,row',Axj hp (fun hm=>h (H7 (List.mem_singleton.1 hm)).symm) hk,Nat.le_refl _,(List.take_length).symm⟩
 ·by_cases h1:a=j <;> by_cases h2:b=j
  ·rw [h1,h2]
  ·rw [if_pos h1,if_neg h2] at hab; exact absurd hab (hqk b)
  ·rw [if_neg h1,if_pos h2] at hab; exact absurd hab.symm (hqk a)
  ·rw [if_neg h1,if_neg h2] at hab; exact H7 hab
 ·simp only [List.cons_append,List.nil_append,M1];by_cases h1:i=q
  ·rw [if_pos h1]; exact .inl rfl
  ·rw [if_neg h1,Jr];split
   ·exact .inl rfl
   ·rename_i h2;refine .inr ⟨rfl,fun k _=>?_⟩;split
    ·exact h1
    ·intro e;exact h2 (by rw [e]; exact ⟨rfl,rfl,by simp [kid]⟩)
end
section
open Go.RowKit Go.Deep
theorem Ao2 {q:Oid} {e:TypeId} {u:Ty} {xs:List u.D} {r:List (Oid×Option Ob)}:I1 ((q,some (.arr e u xs)) :: r) q=some (.arr e u xs):=by simp [I1]
theorem Af4 {α:Type} {g:List AV->Option α} {sz n:Nat} {d:List AV} {ys:List α} (hd:Ka g sz n d=some ys):∀ {m:Nat} {c:List AV} {xs:List α},c.length=m*sz->Ka g sz m c=some xs->Ka g sz (m+n) (c++d)=some (xs++ys)
 | 0,c,xs,hc,h=>by
  obtain rfl:c=[]:=List.eq_nil_of_length_eq_zero (by omega);simp only [Ka,Option.some.injEq] at h;subst h
  simpa using hd
 | m+1,c,xs,hc,h=>by
  have hl:sz<=c.length:=by rw [hc,Nat.succ_mul]; omega
  rw [show m+1+n=(m+n)+1 by omega];simp only [Ka] at h ⊢;rw [List.take_append_of_le_length hl,List.drop_append_of_le_length hl];cases h1:g (c.take sz) with
  | none=>rw [h1] at h; cases h
  | some x =>
   rw [h1] at h;cases h2:Ka g sz m (c.drop sz) with
   | none=>rw [h2] at h; cases h
   | some zs =>
    rw [h2] at h;obtain rfl:=osj h;rw [Af4 hd (m:=m) (c:=c.drop sz) (xs:=zs) (by rw [List.length_drop,hc,Nat.succ_mul]; omega) h2];rfl
theorem A0r {n:Nat} {ob:Oid->Option Ob} {o p:Oid} {e1 e:TypeId} {u:Ty} {m:Option (Nat->Prop)} {xss ys:List (List u.D)} {len N:Nat} (ho:ob o=some (.vec e1 1 N (hdL p u xss++tvC m (.slice u) ys))) (hk:∀ k row,xss[k]? =some row->ob (kid p k)=some (.arr e u row)) (hN:N=xss.length+ys.length) (hl:len=N):gnd ob (n+1) (.own o (.slice u) 0 len)=some (.tree (.slice u) (xss++ys)):=by
 subst hl hN
 have h1:Ka (rdC ob (.slice u)) 1 xss.length (hdL p u xss)=some xss:=by
  have:=Tv (g:=rdC ob (.slice u)) (cs:=hdL p u xss) (xs:=xss) (by rw [Df]) (fun k c x hc hx=>by
   rw [Ez,hx] at hc;obtain rfl:=osj hc;have:=hk _ x hx;simp only [rdC,F7,this,Nat.zero_add,Nat.le_refl,if_true,Ty.eq?_self,Cr,List.drop_zero,List.take_length])
  exact this
 have h2:Ka (rdC ob (.slice u)) 1 ys.length (tvC m (.slice u) ys)=some ys:=Ab8 (t:=.slice u) ys;have h3:=Af4 h2 (m:=xss.length) (by rw [Df,Nat.mul_one]) h1
 have key:Ad2 ob 1 (rdC ob (.slice u)) (.own o (.slice u) 0 (xss.length+ys.length))=some (xss++ys):=by
  simp only [Ad2,ho];rw [if_pos ⟨trivial,by omega⟩,Nat.zero_mul,List.drop_zero,List.take_of_length_le (by simp only [List.length_append,Df,Amt,Ty.size]; omega)];exact h3
 simp only [gnd,ho,Ty.size,key,Option.map_some]
section
variable {n:Nat} {d:Option Nat} {f:Nat->AV} {ob:Oid->Option Ob}
theorem Az3 {x y:Opd} {o p:Oid} {e1:TypeId} {u t':Ty} {b len N:Nat} {m:Option (Nat->Prop)} {xss ys:List (List u.D)} (hx:x.ev f=.own o t' 0 len) (hob:ob o=some (.vec e1 1 N (hdL p u xss))) (hN:N=xss.length) (hl:len=N) (hy:Abi ob (.slice u) (y.ev f)=some (ys.length,tvC m (.slice u) ys)) (h:len+ys.length<=1073741824∧(len+ys.length)*b<=140737488355328) :
  Br n ⟨d,none,.appV e1 (.slice u) b x y⟩ f ob=some (2,.own (o.1,n) (.slice u) 0 (len+ys.length),[(o,none),((o.1,n),some (.vec e1 1 (len+ys.length) (hdL p u xss++tvC m (.slice u) ys)))]):=by
 subst hl hN;have h1:List.take (xss.length*1) (hdL p u xss)=hdL p u xss:=by rw [Nat.mul_one]; exact List.take_of_length_le (by rw [Df]; exact Nat.le_refl _)
 simp only [Br,ev,Nz,hx,hy,hob,Ty.size,true_and,Nat.le_refl,if_true,h1,h.1,h.2,and_self]
end
theorem Ay6 {f:Nat->AV} {ob:Oid->Option Ob} {d:Option Nat} {gd:Option (Nat×Bool)} {fo y:Opd} {ys:List Opd} {tys:List (List (Option Ty))} {i p:Oid} {t u:Ty} {off len z m k:Nat} {e1:TypeId} {xss:List (List u.D)} {cs:List AV} (n:Nat) (hy:ys[n]? =some y) (he:y.ev f=.own i t off len) (hob:ob i=some (.vec e1 z m (hdL p u xss++cs))) (hk:k<xss.length):kid p k∈rdX f ob ⟨d,gd,.call fo ys tys⟩:=by
 refine List.mem_flatMap.2 ⟨y,List.mem_cons_of_mem _ (List.mem_of_getElem? hy),?_⟩;rw [he];show kid p k∈Lf ob (7+1) (.own i t off len);unfold Lf;dsimp only;rw [hob];refine List.mem_cons_of_mem _ (List.mem_flatMap.2 ⟨.own (kid p k) u 0 xss[k].length,List.mem_append_left _ (List.mem_of_getElem? (i:=k) (by rw [Ez,gEg hk]; rfl)),?_⟩);exact List.mem_singleton.2 rfl
theorem Aqw {f:Nat->AV} {ob:Oid->Option Ob} {d:Option Nat} {gd:Option (Nat×Bool)} {fo y:Opd} {ys:List Opd} {tys:List (List (Option Ty))} {i p:Oid} {t u:Ty} {off len z m:Nat} {e e1:TypeId} {xss:List (List u.D)} {cs:List AV} (n:Nat) (hy:ys[n]? =some y) (he:y.ev f=.own i t off len) (hob:ob i=some (.vec e1 z m (hdL p u xss++cs))) (hr:∀ (k:Nat) (row:List u.D),xss[k]? =some row->ob (kid p k)=some (.arr e u row)) (k:Nat) (row:List u.D) (h:xss[k]? =some row):only (rdX f ob ⟨d,gd,.call fo ys tys⟩) ob (kid p k)=some (.arr e u row):=(O2 (Ay6 n hy he hob (gSi.1 h).1)).trans (hr k row h)
end
end Go.Proofs.YtpnofkjgeokdhaaDoor
