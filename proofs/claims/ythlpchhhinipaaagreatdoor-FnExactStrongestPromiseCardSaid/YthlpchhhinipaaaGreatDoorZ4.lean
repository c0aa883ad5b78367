/- Lemmas on the program and on partial functions that stand in place of its code (part 4); no condition beyond those that each one states. -/
import Derived.Test.YthlpchhhinipaaaGreatDoorZ3
import Derived.KernelRfl
import Derived.IntWalk
import Derived.WalkSpells
import Derived.WalkLawsBesides
namespace Go.Proofs.YthlpchhhinipaaaGreatDoor
section
open Go.RowKit Go.Deep
theorem WeakG.refl {G:World->Prop} (S:St):WeakG G S S:=fun _ _ _ _ _ h=>h
theorem WeakG.trans {G:World->Prop} {S S' S'':St} (h:WeakG G S S') (k:WeakG G S' S''):WeakG G S S'':=fun w0 B N a w hr=>k w0 B N a w (h w0 B N a w hr)
theorem Alg {G:World->Prop} {w0 w:World} {ob:Oid->Option Ob} {σ:Oid->Option Loc} {g:Nat} {e:TypeId} {t:Ty} {i:Oid} (hm:Mem0 G w0 ob σ (·<g) w) (hi:i.2=g) (ht:t.flat=true) :
  Later σ (upd σ i (some .nil)) (imm ob σ) (imm (upd ob i (some (.arr e t []))) (upd σ i (some .nil))) w w/\Mem0 G w0 (upd ob i (some (.arr e t []))) (upd σ i (some .nil)) (·<g+1) w:=by
 have hfr:σ i=none:=Goes.fresh hm (by rw [hi];exact Nat.lt_irrefl _);refine ⟨Later.new (l:=.nil) hfr (Below.refl _ _) (fun _ _ _ h=>by cases h),hm.new (l:=.nil) hfr (Below.refl _ _) (fun _ _ _ h=>by cases h) (fun n hn=>by omega) (by show i.2<g+1;omega) ⟨ht,N0 w w0.heap.size e t.size,fun _ _ _ h=>by cases h⟩⟩
theorem Ar1 {G:World->Prop} {S:St} (s:Nat) (e:TypeId) (t:Ty) (ht:t.flat=true) (hs:S.tm s=.nils):WeakG G S ⟨upd S.tm s (.own ((s,0),S.gen) t 0 0),upd S.ob ((s,0),S.gen) (some (.arr e t [])),S.gen+1⟩:=by
 intro w0 B N a w hr;obtain ⟨σ,hm,hf,hB⟩:=hr.ex;obtain ⟨hL,hM⟩:=Alg (e:=e) (i:=((s,0),S.gen)) hm rfl ht;refine ⟨⟨_,hM,fun u=>?_,hB.trans hL⟩,hr.size,hr.defers,fun i hi=>?_⟩
 ·simp only [upd];split
  ·rename_i eu;subst eu;have:=hf u;rw [hs] at this;exact .inl ⟨A8 _ _ _,rfl,rfl,this⟩
  ·exact AV.Rep.later hL _ _ (hf u)
 ·show i.2<S.gen+1;by_cases h:i=((s,0),S.gen)
  ·subst h;show S.gen<S.gen+1;omega
  ·simp only [Av _ _ _ _ h] at hi;have:=hr.obg i hi;omega
theorem Abj {G:World->Prop} {w0 w:World} {ob:Oid->Option Ob} {σ:Oid->Option Loc} {g:Nat} {e:TypeId} {sz:Nat} {i:Oid} (hm:Mem0 G w0 ob σ (·<g) w) (hi:i.2=g) :
  Later σ (upd σ i (some .nil)) (imm ob σ) (imm (upd ob i (some (.vec e sz 0 []))) (upd σ i (some .nil))) w w/\Mem0 G w0 (upd ob i (some (.vec e sz 0 []))) (upd σ i (some .nil)) (·<g+1) w:=by
 have hfr:σ i=none:=Goes.fresh hm (by rw [hi];exact Nat.lt_irrefl _);refine ⟨Later.new (l:=.nil) hfr (Below.refl _ _) (fun _ _ _ h=>by cases h),hm.new (l:=.nil) hfr (Below.refl _ _) (fun _ _ _ h=>by cases h) (fun n hn=>by omega) (by show i.2<g+1;omega) ⟨[],N0 w w0.heap.size e sz,rfl,fun _ h=>(by cases h),fun _ _ _ h=>by cases h⟩⟩
theorem Aoi {G:World->Prop} {S:St} (s:Nat) (e:TypeId) (t:Ty) (hs:S.tm s=.nils):WeakG G S ⟨upd S.tm s (.own ((s,0),S.gen) t 0 0),upd S.ob ((s,0),S.gen) (some (.vec e 1 0 [])),S.gen+1⟩:=by
 intro w0 B N a w hr;obtain ⟨σ,hm,hf,hB⟩:=hr.ex;obtain ⟨hL,hM⟩:=Abj (e:=e) (sz:=1) (i:=((s,0),S.gen)) hm rfl;refine ⟨⟨_,hM,fun u=>?_,hB.trans hL⟩,hr.size,hr.defers,fun i hi=>?_⟩
 ·simp only [upd];split
  ·rename_i eu;subst eu;have:=hf u;rw [hs] at this;exact .inl ⟨A8 _ _ _,rfl,rfl,this⟩
  ·exact AV.Rep.later hL _ _ (hf u)
 ·show i.2<S.gen+1;by_cases h:i=((s,0),S.gen)
  ·subst h;show S.gen<S.gen+1;omega
  ·simp only [Av _ _ _ _ h] at hi;have:=hr.obg i hi;omega
theorem Adp {G:World->Prop} {S:St} (s:Nat) (b:Oid) (k:Nat) (ty:TypeId) (cs:List AV) (e:TypeId) (t:Ty) (ht:t.flat=true) (hb:S.ob b=some (.cells ty cs)) (hk:cs[k]? =some .nils) :
  WeakG G S ⟨S.tm,upd (upd S.ob ((s,0),S.gen) (some (.arr e t []))) b (some (.cells ty (cs.set k (.own ((s,0),S.gen) t 0 0)))),S.gen+1⟩:=by
 intro w0 B N a w hr;obtain ⟨σ,hm,hf,hB⟩:=hr.ex;obtain ⟨hL,hM⟩:=Alg (e:=e) (i:=((s,0),S.gen)) hm rfl ht
 have hbn:b≠((s,0),S.gen):=fun h=>by
  have:=hr.obg b (by rw [hb];simp);rw [h] at this;exact absurd this (Nat.lt_irrefl _)
 have him:∀ c,imm (upd S.ob ((s,0),S.gen) (some (.arr e t []))) (upd σ ((s,0),S.gen) (some .nil)) c->imm (upd (upd S.ob ((s,0),S.gen) (some (.arr e t []))) b (some (.cells ty (cs.set k (.own ((s,0),S.gen) t 0 0))))) (upd σ ((s,0),S.gen) (some .nil)) c:=by
  intro c hc i o c' s' ho;by_cases h:i=b
  ·subst h;exact hc i (.cells ty cs) c' s' (by rw [Av _ _ _ _ hbn];exact hb)
  ·rw [Av _ _ _ _ h] at ho;exact hc i o c' s' ho
 have hL2:Later (upd σ ((s,0),S.gen) (some .nil)) (upd σ ((s,0),S.gen) (some .nil)) (imm (upd S.ob ((s,0),S.gen) (some (.arr e t []))) (upd σ ((s,0),S.gen) (some .nil))) (imm (upd (upd S.ob ((s,0),S.gen) (some (.arr e t []))) b (some (.cells ty (cs.set k (.own ((s,0),S.gen) t 0 0))))) (upd σ ((s,0),S.gen) (some .nil))) w w :=
  ⟨fun _ _ h=>h,fun c _ hc=>him c hc,fun _ _ _=>rfl,Nat.le_refl _⟩
 refine ⟨⟨upd σ ((s,0),S.gen) (some .nil),⟨hM.below,hM.inv,hM.gen,hM.lt,hM.cap,fun i j b' c' s' c2 s2 o o' hi hj h1 h2=>?_,fun i o l hi hl=>?_⟩,fun u=>AV.Rep.later hL2 _ _ (AV.Rep.later hL _ _ (hf u)),(hB.trans hL).trans hL2⟩,hr.size,hr.defers,fun i hi=>?_⟩
 ·have key:∀ i o,upd (upd S.ob ((s,0),S.gen) (some (.arr e t []))) b (some (.cells ty (cs.set k (.own ((s,0),S.gen) t 0 0)))) i=some o->∃ o',upd S.ob ((s,0),S.gen) (some (.arr e t [])) i=some o':=by
   intro i o ho;by_cases h:i=b
   ·subst h;exact ⟨_,by rw [Av _ _ _ _ hbn];exact hb⟩
   ·rw [Av _ _ _ _ h] at ho;exact ⟨o,ho⟩
  obtain ⟨o1,k1⟩:=key i o hi;obtain ⟨o2,k2⟩:=key j o' hj;exact hM.inj i j b' c' s' c2 s2 o1 o2 k1 k2 h1 h2
 ·by_cases h:i=b
  ·subst h;have hi':some (Ob.cells ty (cs.set k (.own ((s,0),S.gen) t 0 0)))=some o:=by rw [← hi];exact (A8 _ _ _).symm
   obtain rfl:=osj hi';have:=hM.obs i (.cells ty cs) l (by rw [Av _ _ _ _ hbn];exact hb) hl;cases l with
   | nil=>exact this
   | at_ b' c' s' =>
    obtain ⟨vs,g1,g2,g3⟩:=this;refine ⟨vs,g1,?_,g3⟩;refine AV.RepL.later hL2 _ _ ?_;obtain ⟨v,hv,hrv⟩:=g2.get hk;have hset:=g2.set (k:=k) (c:=.own ((s,0),S.gen) t 0 0) (v:=v) (.inl ⟨A8 _ _ _,rfl,rfl,hrv⟩)
    have hvs:vs.set k v=vs:=by
     apply List.ext_getElem?;intro j;rw [List.getElem?_set];split
     ·rename_i e';subst e';split
      ·exact hv.symm
      ·rw [List.getElem?_eq_none oM]
     ·rfl
    rw [hvs] at hset;exact hset
  ·have hi':upd S.ob ((s,0),S.gen) (some (.arr e t [])) i=some o:=by rw [← hi];exact (Av _ _ _ _ h).symm
   exact (hM.obs i o l hi' hl).later hL2 fun _ _ _ _=>rfl
 ·show i.2<S.gen+1;by_cases h:i=b
  ·subst h;have:=hr.obg i (by rw [hb];simp);omega
  ·have hi':upd S.ob ((s,0),S.gen) (some (.arr e t [])) i≠none:=by
    intro hq;apply hi;rw [← hq];exact Av _ _ _ _ h
   by_cases h':i=((s,0),S.gen)
   ·subst h';show S.gen<S.gen+1;omega
   ·rw [Av _ _ _ _ h'] at hi';have:=hr.obg i hi';omega
theorem Aco {G:World->Prop} {S:St} (s:Nat) (b:Oid) (k:Nat) (ty:TypeId) (cs:List AV) (e:TypeId) (t:Ty) (hb:S.ob b=some (.cells ty cs)) (hk:cs[k]? =some .nils) :
  WeakG G S ⟨S.tm,upd (upd S.ob ((s,0),S.gen) (some (.vec e 1 0 []))) b (some (.cells ty (cs.set k (.own ((s,0),S.gen) t 0 0)))),S.gen+1⟩:=by
 intro w0 B N a w hr;obtain ⟨σ,hm,hf,hB⟩:=hr.ex;obtain ⟨hL,hM⟩:=Abj (e:=e) (sz:=1) (i:=((s,0),S.gen)) hm rfl
 have hbn:b≠((s,0),S.gen):=fun h=>by
  have:=hr.obg b (by rw [hb];simp);rw [h] at this;exact absurd this (Nat.lt_irrefl _)
 have him:∀ c,imm (upd S.ob ((s,0),S.gen) (some (.vec e 1 0 []))) (upd σ ((s,0),S.gen) (some .nil)) c->imm (upd (upd S.ob ((s,0),S.gen) (some (.vec e 1 0 []))) b (some (.cells ty (cs.set k (.own ((s,0),S.gen) t 0 0))))) (upd σ ((s,0),S.gen) (some .nil)) c:=by
  intro c hc i o c' s' ho;by_cases h:i=b
  ·subst h;exact hc i (.cells ty cs) c' s' (by rw [Av _ _ _ _ hbn];exact hb)
  ·rw [Av _ _ _ _ h] at ho;exact hc i o c' s' ho
 have hL2:Later (upd σ ((s,0),S.gen) (some .nil)) (upd σ ((s,0),S.gen) (some .nil)) (imm (upd S.ob ((s,0),S.gen) (some (.vec e 1 0 []))) (upd σ ((s,0),S.gen) (some .nil))) (imm (upd (upd S.ob ((s,0),S.gen) (some (.vec e 1 0 []))) b (some (.cells ty (cs.set k (.own ((s,0),S.gen) t 0 0))))) (upd σ ((s,0),S.gen) (some .nil))) w w :=
  ⟨fun _ _ h=>h,fun c _ hc=>him c hc,fun _ _ _=>rfl,Nat.le_refl _⟩
 refine ⟨⟨upd σ ((s,0),S.gen) (some .nil),⟨hM.below,hM.inv,hM.gen,hM.lt,hM.cap,fun i j b' c' s' c2 s2 o o' hi hj h1 h2=>?_,fun i o l hi hl=>?_⟩,fun u=>AV.Rep.later hL2 _ _ (AV.Rep.later hL _ _ (hf u)),(hB.trans hL).trans hL2⟩,hr.size,hr.defers,fun i hi=>?_⟩
 ·have key:∀ i o,upd (upd S.ob ((s,0),S.gen) (some (.vec e 1 0 []))) b (some (.cells ty (cs.set k (.own ((s,0),S.gen) t 0 0)))) i=some o->∃ o',upd S.ob ((s,0),S.gen) (some (.vec e 1 0 [])) i=some o':=by
   intro i o ho;by_cases h:i=b
   ·subst h;exact ⟨_,by rw [Av _ _ _ _ hbn];exact hb⟩
   ·rw [Av _ _ _ _ h] at ho;exact ⟨o,ho⟩
  obtain ⟨o1,k1⟩:=key i o hi;obtain ⟨o2,k2⟩:=key j o' hj;exact hM.inj i j b' c' s' c2 s2 o1 o2 k1 k2 h1 h2
 ·by_cases h:i=b
  ·subst h;have hi':some (Ob.cells ty (cs.set k (.own ((s,0),S.gen) t 0 0)))=some o:=by rw [← hi];exact (A8 _ _ _).symm
   obtain rfl:=osj hi';have:=hM.obs i (.cells ty cs) l (by rw [Av _ _ _ _ hbn];exact hb) hl;cases l with
   | nil=>exact this
   | at_ b' c' s' =>
    obtain ⟨vs,g1,g2,g3⟩:=this;refine ⟨vs,g1,?_,g3⟩;refine AV.RepL.later hL2 _ _ ?_;obtain ⟨v,hv,hrv⟩:=g2.get hk;have hset:=g2.set (k:=k) (c:=.own ((s,0),S.gen) t 0 0) (v:=v) (.inl ⟨A8 _ _ _,rfl,rfl,hrv⟩)
    have hvs:vs.set k v=vs:=by
     apply List.ext_getElem?;intro j;rw [List.getElem?_set];split
     ·rename_i e';subst e';split
      ·exact hv.symm
      ·rw [List.getElem?_eq_none oM]
     ·rfl
    rw [hvs] at hset;exact hset
  ·have hi':upd S.ob ((s,0),S.gen) (some (.vec e 1 0 [])) i=some o:=by rw [← hi];exact (Av _ _ _ _ h).symm
   exact (hM.obs i o l hi' hl).later hL2 fun _ _ _ _=>rfl
 ·show i.2<S.gen+1;by_cases h:i=b
  ·subst h;have:=hr.obg i (by rw [hb];simp);omega
  ·have hi':upd S.ob ((s,0),S.gen) (some (.vec e 1 0 [])) i≠none:=by
    intro hq;apply hi;rw [← hq];exact Av _ _ _ _ h
   by_cases h':i=((s,0),S.gen)
   ·subst h';show S.gen<S.gen+1;omega
   ·rw [Av _ _ _ _ h'] at hi';have:=hr.obg i hi';omega
def Bc:List (Oid×Oid)->Oid->Oid
 | [],i=>i
 | (a,b) :: r,i=>if i=a then b else if i.1.1=a.1.1/\i.2=a.2/\i.1.2≠0 then ((b.1.1,i.1.2),b.2) else Bc r i
def Rw (l:List (Oid×Oid)):Bool:=l.all fun x=>x.1.1.2==0
theorem Kr:∀ {l:List (Oid×Oid)},Rw l=true->∀ {p:Oid},p.1.2=0->∀ k,Bc l (kid p k)=kid (Bc l p) k
 | [],_,_,_,_=>rfl
 | (a,b) :: r,h,p,hp,k=>by
  simp only [Rw,List.all_cons,Bool.and_eq_true,beq_iff_eq] at h;obtain ⟨h1,h2⟩:=h
  have hne:kid p k≠a:=fun e=>by
   rw [← e] at h1;simp [kid] at h1
  simp only [Bc,if_neg hne];by_cases hpa:p=a
  ·subst hpa;rw [if_pos ⟨rfl,rfl,by simp [kid]⟩,if_pos rfl];rfl
  ·have:¬ ((kid p k).1.1=a.1.1/\(kid p k).2=a.2/\(kid p k).1.2≠0):=by
    rintro ⟨e1,e2,_⟩;apply hpa;obtain ⟨⟨p1,p2⟩,p3⟩:=p;obtain ⟨⟨a1,a2⟩,a3⟩:=a;simp only [kid] at *;subst hp h1 e1 e2;rfl
   rw [if_neg this,if_neg hpa,if_neg (fun h=>h.2.2 hp)];exact Kr h2 hp k
def ndB:List Oid->Bool
 | []=>true
 | i :: r=> !r.contains i&&ndB r
theorem Gv:∀ {l:List Oid},ndB l=true->l.Nodup
 | [],_=>List.nodup_nil
 | i :: r,h=>by
  simp only [ndB,Bool.and_eq_true,Bool.not_eq_true',List.contains_eq_mem,decide_eq_false_iff_not] at h;exact List.nodup_cons.2 ⟨h.1,Gv h.2⟩
def Ob.isPool:Ob->Bool
 | .pool ..=>true
 | _=>false
def P8 (i:Oid):Oid:=((i.1.1,0),i.2)
theorem D4 {p:Oid} (h:p.1.2=0) (k:Nat):P8 (kid p k)=p:=by
 obtain ⟨⟨p1,p2⟩,p3⟩:=p;simp only at h;subst h;rfl
theorem Aff {i:Oid} (h:i.1.2≠0):i=kid (P8 i) (i.1.2 - 1):=by
 obtain ⟨⟨a,b⟩,c⟩:=i;simp only [kid,P8] at *;rw [show b - 1+1=b by omega]
def Hb:List (Oid×Option Ob)->Oid->Option Ob
 | [],_=>none
 | (j,o) :: r,i=>match o with
  | some (.pool e u xss)=>if i.1.1=j.1.1/\i.2=j.2/\i.1.2≠0 then (xss[i.1.2 - 1]?).map (.arr e u) else Hb r i
  | o=>if i=j then o else Hb r i
def Ob.exp:Ob->Ob
 | .mat e p u xss=>.vec e 1 xss.length (hdL p u xss)
 | .tv e m t xs=>.vec e t.size xs.length (tvC m t xs)
 | o=>o
theorem Kz:∀ (ol:List (Oid×Option Ob)) (i:Oid),Aj ol i=(Hb ol i).map Ob.exp
 | [],_=>rfl
 | (j,o) :: r,i=>by
  have ih:=Kz r i;cases o with
  | none =>
   simp only [Aj,Hb];split
   ·rfl
   ·exact ih
  | some o =>
   cases o with
   | pool e u xss =>
    simp only [Aj,Hb];split
    ·cases xss[i.1.2 - 1]? <;> rfl
    ·exact ih
   | _ =>
    simp only [Aj,Hb];split
    ·rfl
    ·exact ih
def Fb:List (Oid×Option Ob)->Oid->Option Ob
 | [],_=>none
 | (j,o) :: r,p=>match o with
  | some (.pool e u xss)=>if p.1.1=j.1.1/\p.2=j.2 then some (.pool e u xss) else Fb r p
  | _=>if p.1.1=j.1.1/\p.2=j.2/\j.1.2≠0 then none else Fb r p
theorem Lv {e:TypeId} {u:Ty} {xss:List (List u.D)} {p:Oid}:∀ {ol:List (Oid×Option Ob)},Fb ol p=some (.pool e u xss)->∀ k,Hb ol (kid p k)=(xss[k]?).map (.arr e u)
 | [],h,_=>by cases h
 | (j,o) :: r,h,k=>by
  have hk:¬ (p.1.1=j.1.1/\p.2=j.2/\j.1.2≠0)->kid p k≠j:=fun hn ej=>hn (by subst ej;exact ⟨rfl,rfl,by simp [kid]⟩)
  cases o with
  | none =>
   simp only [Fb] at h;simp only [Hb];split at h
   ·cases h
   ·rename_i hn;rw [if_neg (hk hn)];exact Lv h k
  | some o =>
   cases o with
   | pool e' u' xss' =>
    simp only [Fb] at h;simp only [Hb];split at h
    ·rename_i hc;obtain ⟨rfl,rfl,he⟩:=Ob.pool.inj (osj h);obtain rfl:=eq_of_heq he;rw [if_pos ⟨by simpa [kid] using hc.1,by simpa [kid] using hc.2,by simp [kid]⟩];simp [kid]
    ·rename_i hc;rw [if_neg (fun h'=>hc ⟨h'.1,h'.2.1⟩)];exact Lv h k
   | _ =>
    simp only [Fb] at h;simp only [Hb];split at h
    ·cases h
    ·rename_i hn;rw [if_neg (hk hn)];exact Lv h k
theorem Xb {e:TypeId} {u:Ty} {xss:List (List u.D)} {p:Oid} {ol:List (Oid×Option Ob)} (h:Fb ol p=some (.pool e u xss)) (k:Nat):Aj ol (kid p k)=(xss[k]?).map (.arr e u):=by
 rw [Kz,Lv h];cases xss[k]? <;> rfl
theorem Be {e:TypeId} {u:Ty} {xss:List (List u.D)} {row:List u.D} {p:Oid} {k:Nat} {ol:List (Oid×Option Ob)} (h:Fb ol p=some (.pool e u xss)) (hx:xss[k]? =some row):Aj ol (kid p k)=some (.arr e u row):=by
 rw [Xb h,hx];rfl
theorem Ad5 {e:TypeId} {u:Ty} {xss:List (List u.D)} {row:List u.D} {p:Oid} {k:Nat} {ol:List (Oid×Option Ob)} (h:Fb ol p=some (.pool e u xss)) (hx:xss[k]? =some row):Hb ol (kid p k)=some (.arr e u row):=by
 rw [Lv h,hx];rfl
theorem Agv (θ:Oid->Oid) (o:Ob) (hk:∀ e p u xss,o=.mat e p u xss->∀ k,θ (kid p k)=kid (θ p) k):(o.ren θ).exp=o.exp.ren θ:=by
 cases o with
 | mat e p u xss =>
  have:AV.renL θ (hdL p u xss)=hdL (θ p) u xss:=by
   have key:∀ l:List (List u.D×Nat),AV.renL θ (l.map fun x=>.own (kid p x.2) u 0 x.1.length)=l.map fun x=>.own (kid (θ p) x.2) u 0 x.1.length:=by
    intro l
    induction l with
    | nil=>rfl
    | cons x l ih=>simp only [List.map_cons,AV.renL,ih,AV.ren,hk _ _ _ _ rfl]
   exact key _
  simp only [Ob.ren,Ob.exp,this]
 | tv e m t xs=>simp only [Ob.ren,Ob.exp,Rf]
 | _=>rfl
def An4 (ol0:List (Oid×Option Ob)) (θ:Oid->Oid) (q:Oid×Ob):Option Ob:=if q.2.isPool then Fb ol0 (θ q.1) else Hb ol0 (θ q.1)
def Wj (ol0:List (Oid×Option Ob)) (θ:Oid->Oid):List (Oid×Ob)->Prop
 | []=>True
 | q :: r=>An4 ol0 θ q=some (q.2.ren θ)/\Wj ol0 θ r
theorem Wf {ol0:List (Oid×Option Ob)} {θ:Oid->Oid}:∀ {ol:List (Oid×Ob)},(ol.map fun q=>An4 ol0 θ q)=(ol.map fun q=>some (q.2.ren θ))->Wj ol0 θ ol
 | [],_=>trivial
 | q :: r,h=>by
  simp only [List.map_cons,List.cons.injEq] at h;exact ⟨h.1,Wf h.2⟩
theorem Va {ol0:List (Oid×Option Ob)} {θ:Oid->Oid}:∀ {ol:List (Oid×Ob)},Wj ol0 θ ol->∀ q∈ol,An4 ol0 θ q=some (q.2.ren θ)
 | _ :: _,h,q,hq=>by
  rcases List.mem_cons.1 hq with rfl|hq
  ·exact h.1
  ·exact Va h.2 q hq
theorem H7 {q:Oid×Ob}:∀ {ol:List (Oid×Ob)},q∈exL ol->(∃ p e u xss k row,(p,Ob.pool e u xss)∈ol/\xss[k]? =some row/\q=(kid p k,.arr e u row))∨∃ o,(q.1,o)∈ol/\o.isPool=false/\q.2=o.exp
 | [],h=>by cases h
 | (p,o) :: r,h=>by
  have rest:q∈exL r->_:=fun h=>H7 (ol:=r) h
  have lift:((∃ p e u xss k row,(p,Ob.pool e u xss)∈r/\xss[k]? =some row/\q=(kid p k,.arr e u row))∨∃ o,(q.1,o)∈r/\o.isPool=false/\q.2=o.exp)->((∃ p' e u xss k row,(p',Ob.pool e u xss)∈(p,o) :: r/\xss[k]? =some row/\q=(kid p' k,.arr e u row))∨∃ o',(q.1,o')∈(p,o) :: r/\o'.isPool=false/\q.2=o'.exp):=by
   rintro (⟨p',e,u,xss,k,row,h1,h2⟩|⟨o',h1,h2⟩)
   ·exact .inl ⟨p',e,u,xss,k,row,List.mem_cons_of_mem _ h1,h2⟩
   ·exact .inr ⟨o',List.mem_cons_of_mem _ h1,h2⟩
  cases o with
  | pool e u xss =>
   simp only [exL,List.mem_append] at h;rcases h with h|h
   ·obtain ⟨⟨row,k⟩,hx,rfl⟩:=List.mem_map.1 h;rw [List.mem_zipIdx_iff_getElem?] at hx;exact .inl ⟨p,e,u,xss,k,row,by simp,hx,rfl⟩
   ·exact lift (rest h)
  | _ =>
   simp only [exL] at h;rcases List.mem_cons.1 h with rfl|h
   ·exact .inr ⟨_,List.mem_cons_self,rfl,rfl⟩
   ·exact lift (rest h)
theorem Agz {ol0:List (Oid×Option Ob)} {l:List (Oid×Oid)} {ol:List (Oid×Ob)} (hl:Rw l=true) (h:Wj ol0 (Bc l) ol) (hp:(ol.all fun q=>match q.2 with | .pool ..=>q.1.1.2==0 | .mat _ p _ _=>p.1.2==0|_=>true)=true):∀ q∈exL ol,Aj ol0 (Bc l q.1)=some (q.2.ren (Bc l)):=by
 intro q hq;rw [List.all_eq_true] at hp;rcases H7 hq with ⟨p,e,u,xss,k,row,h1,h2,rfl⟩|⟨o,h1,h2,h3⟩
 ·have g:=Va h _ h1;simp only [An4,Ob.isPool,if_true,Ob.ren] at g;have hp0:=hp _ h1;simp only [beq_iff_eq] at hp0;rw [Kr hl hp0,Be g h2];rfl
 ·have g:=Va h _ h1;simp only [An4,h2,Bool.false_eq_true,if_false] at g;rw [h3,Kz,g];simp only [Option.map_some];rw [Agv];intro e p u xss e' k;subst e';have hp0:=hp _ h1;simp only [beq_iff_eq] at hp0;exact Kr hl hp0 k
def R7 (DN DP:List Oid) (i:Oid):Bool:=if i.1.2=0 then DN.contains i else DP.contains (P8 i)
mutual
def AV.cl (DN DP:List Oid):AV->Bool
 | .own i _ _ _=>R7 DN DP i
 | .box i _=>R7 DN DP i
 | .elt i _ _=>R7 DN DP i
 | .sla i _ _=>R7 DN DP i
 | .mp i=>R7 DN DP i
 | .agg cs=>AV.clL DN DP cs
 | .tup cs=>AV.clL DN DP cs
 | .fn _ cs=>AV.clL DN DP cs
 | .ref cs=>AV.clL DN DP cs
 | _=>true
def AV.clL (DN DP:List Oid):List AV->Bool
 | []=>true
 | c :: cs=>AV.cl DN DP c&&AV.clL DN DP cs
end
def Ob.cl (DN DP:List Oid):Ob->Bool
 | .cells _ cs=>AV.clL DN DP cs
 | .vec _ _ _ cs=>AV.clL DN DP cs
 | .mat _ p _ _=>DP.contains p&&p.1.2==0
 | _=>true
mutual
theorem AV.cl_P {DN DP:List Oid}:∀ (c:AV),c.cl DN DP=true->c.cloP (fun i=>R7 DN DP i=true)
 | .any,_ | .int _ _,_ | .bool _,_ | .str _,_ | .nils,_ | .abool _ _,_ | .err ..,_ | .tree _ _,_ | .giv _ _ _,_ | .mtree _ _ _,_ | .ftr _ _ _,_ | .telt _ _ _ _,_=>trivial
 | .own _ _ _ _,h=>h
 | .box _ _,h=>h
 | .elt _ _ _,h=>h
 | .sla _ _ _,h=>h
 | .mp _,h=>h
 | .agg cs,h=>AV.clL_P cs h
 | .tup cs,h=>AV.clL_P cs h
 | .fn _ cs,h=>AV.clL_P cs h
 | .ref cs,h=>AV.clL_P cs h
theorem AV.clL_P {DN DP:List Oid}:∀ (cs:List AV),AV.clL DN DP cs=true->AV.cloPL (fun i=>R7 DN DP i=true) cs
 | [],_=>trivial
 | c :: cs,h=>by
  simp only [AV.clL,Bool.and_eq_true] at h;exact ⟨AV.cl_P c h.1,AV.clL_P cs h.2⟩
end
theorem Arb {D:Oid->Prop} {p:Oid} {u:Ty} (xss:List (List u.D)) (h:∀ k,k<xss.length->D (kid p k)):AV.cloPL D (hdL p u xss):=by
 have key:∀ l:List (List u.D×Nat),(∀ x∈l,D (kid p x.2))->AV.cloPL D (l.map fun x=>.own (kid p x.2) u 0 x.1.length):=by
  intro l
  induction l with
  | nil=>intro _;trivial
  | cons x l ih=>intro h;exact ⟨h x (by simp),ih fun y hy=>h y (by simp [hy])⟩
 refine key _ fun x hx=>h _ ?_
 obtain ⟨row,k⟩:=x;rw [List.mem_zipIdx_iff_getElem?] at hx;exact (gSi.1 hx).1
theorem Ob.cl_P {DN DP:List Oid} (o:Ob) (hp:o.isPool=false) (h:o.cl DN DP=true):o.exp.cloP (fun i=>R7 DN DP i=true):=by
 cases o with
 | cells _ cs=>exact AV.clL_P cs h
 | vec _ _ _ cs=>exact AV.clL_P cs h
 | mat e p u xss =>
  simp only [Ob.cl,Bool.and_eq_true,beq_iff_eq] at h;refine Arb xss fun k _=>?_
  simp only [R7];rw [if_neg (by simp [kid]),D4 h.2];exact h.1
 | arr _ _ _=>trivial
 | map _ _ _=>trivial
 | pool _ _ _=>cases hp
 | tv e m t xs=>exact Ajs xs
def B7 (ol:List (Oid×Ob)):List Oid:=(ol.filter fun q=> !q.2.isPool).map (·.1)
def Ca (ol:List (Oid×Ob)):List Oid:=(ol.filter fun q=>q.2.isPool).map (·.1)
def Asd (l:List (Oid×Oid)) (tl:List (Nat×AV)) (ol:List (Oid×Ob)) (g:Nat):Bool :=
 Rw l&&((tl.all fun p=>p.2.cl (B7 ol) (Ca ol))&&((ol.all fun q=>q.2.cl (B7 ol) (Ca ol))&&(ndB ((B7 ol).map (Bc l))&&(ndB ((Ca ol).map (Bc l)) &&
  ((ol.all fun q=>decide (q.1.2<g)&&(q.1.1.2==0))&&((ol.all fun q=> !(q.1.2==0)||(Bc l q.1==q.1)) &&
   (((Ca ol).all fun i=>(Bc l i).1.2==0)&&(((B7 ol).all fun i=>(Bc l i).1.2==0|| !((Ca ol).map (Bc l)).contains (P8 (Bc l i)))&&decide (0<g)))))))))
theorem Ag {G:World->Prop} {tl0:List (Nat×AV)} {ol0:List (Oid×Option Ob)} {g0:Nat} (l:List (Oid×Oid)) {tl:List (Nat×AV)} {ol:List (Oid×Ob)} {g:Nat} (h1:(tl.map fun p=>Am tl0 p.1)=tl.map fun p=>p.2.ren (Bc l):=by kernel_rfl) (h2:Wj ol0 (Bc l) ol:=by exact Wf (by kernel_rfl)) (h3:Asd l tl ol g=true:=by kernel_rfl):WeakG G ⟨Am tl0,Aj ol0,g0⟩ ⟨Am tl,Aj (B8 ol),g⟩:=by
 intro w0 B N a w hr;obtain ⟨σ,hm,hf,hB⟩:=hr.ex;simp only [Asd,Bool.and_eq_true,decide_eq_true_eq] at h3;obtain ⟨c0,c1,c2,c3,c4,c5,c6,c7,c8,c9⟩:=h3;rw [List.all_eq_true] at c1 c2 c5 c6 c7 c8;have memN:∀ {q},q∈ol->q.2.isPool=false->q.1∈B7 ol:=fun hq hp=>List.mem_map.2 ⟨_,List.mem_filter.2 ⟨hq,by simp [hp]⟩,rfl⟩
 have memP:∀ {q},q∈ol->q.2.isPool=true->q.1∈Ca ol:=fun hq hp=>List.mem_map.2 ⟨_,List.mem_filter.2 ⟨hq,by simp [hp]⟩,rfl⟩
 have ofN:∀ {i},i∈B7 ol->∃ q∈ol,q.1=i:=fun hi=>by
  obtain ⟨q,hq,e⟩:=List.mem_map.1 hi;exact ⟨q,(List.mem_filter.1 hq).1,e⟩
 have ofP:∀ {i},i∈Ca ol->∃ q∈ol,q.1=i:=fun hi=>by
  obtain ⟨q,hq,e⟩:=List.mem_map.1 hi;exact ⟨q,(List.mem_filter.1 hq).1,e⟩
 have c5':∀ q∈ol,q.1.2<g/\q.1.1.2=0:=fun q hq=>by
  have:=c5 q hq
  simpa only [Bool.and_eq_true,decide_eq_true_eq,beq_iff_eq] using this
 have ndN:=Gv c3;have ndP:=Gv c4
 let D:Oid->Prop:=fun i=>R7 (B7 ol) (Ca ol) i=true
 let σ':Oid->Option Loc:=fun i=>if i.2=0 then σ i else if R7 (B7 ol) (Ca ol) i=true then σ (Bc l i) else none
 have hzero:∀ q∈ol,q.1.2=0->Bc l q.1=q.1:=by
  intro q hq h;have:=c6 q hq;simp only [Bool.or_eq_true,Bool.not_eq_true',beq_eq_false_iff_ne,beq_iff_eq] at this;exact this.resolve_left fun h'=>h' h
 have hDc:∀ i,D i->(i.1.2=0/\i∈B7 ol)∨(i.1.2≠0/\P8 i∈Ca ol):=by
  intro i hi;have hi:R7 (B7 ol) (Ca ol) i=true:=hi;unfold R7 at hi;split at hi
  ·exact .inl ⟨by assumption,List.contains_iff_mem.1 hi⟩
  ·exact .inr ⟨by assumption,List.contains_iff_mem.1 hi⟩
 have hkid:∀ i,i.1.2≠0->Bc l i=kid (Bc l (P8 i)) (i.1.2 - 1):=by
  intro i hi;have:=Kr c0 (p:=P8 i) rfl (i.1.2 - 1)
  rwa [← Aff hi] at this
 have hσ:∀ i,D i->σ' i=σ (Bc l i):=by
  intro i hi;by_cases h0:i.2=0
  ·simp only [σ',if_pos h0];rcases hDc i hi with ⟨_,hm⟩|⟨hk,hm⟩
   ·obtain ⟨q,hq,rfl⟩:=ofN hm;rw [hzero q hq h0]
   ·obtain ⟨q,hq,e⟩:=ofP hm;have:Bc l (P8 i)=P8 i:=by rw [← e];exact hzero q hq (by rw [e];exact h0)
    rw [hkid i hk,this,← Aff hk]
  ·simp only [σ',if_neg h0];exact if_pos hi
 have hpl:(ol.all fun q=>match q.2 with | .pool ..=>q.1.1.2==0 | .mat _ p _ _=>p.1.2==0|_=>true)=true:=by
  rw [List.all_eq_true];rintro ⟨i,o⟩ hq;cases o with
  | pool e u xss=>simpa using (c5' _ hq).2
  | mat e p u xss =>
   have:=c2 _ hq;simp only [Ob.cl,Bool.and_eq_true] at this;exact this.2
  | _=>rfl
 have hget:=Agz c0 h2 hpl;have htget:∀ p∈tl,Am tl0 p.1=p.2.ren (Bc l):=fun p hp=>List.map_inj_left.1 h1 p hp
 have hex:∀ q∈exL ol,D q.1/\q.2.cloP D:=by
  intro q hq;rcases H7 hq with ⟨p,e,u,xss,k,row,m1,m2,rfl⟩|⟨o,m1,m2,m3⟩
  ·refine ⟨?_,trivial⟩;show R7 _ _ _=true;unfold R7;rw [if_neg (by simp [kid]),D4 (c5' _ m1).2];exact List.contains_iff_mem.2 (memP m1 rfl)
  ·refine ⟨?_,by rw [m3];exact Ob.cl_P o m2 (c2 _ m1)⟩;show R7 _ _ _=true;unfold R7;rw [if_pos (c5' (q.1,o) m1).2];exact List.contains_iff_mem.2 (memN (q:=(q.1,o)) m1 m2)
 have hinj:∀ q∈exL ol,∀ q'∈exL ol,Bc l q.1=Bc l q'.1->q.1=q'.1:=by
  intro q hq q' hq' e;rcases hDc _ (hex q hq).1 with ⟨a1,a2⟩|⟨a1,a2⟩ <;> rcases hDc _ (hex q' hq').1 with ⟨b1,b2⟩|⟨b1,b2⟩
  ·exact Qj ndN a2 b2 e
  ·exfalso;rw [hkid _ b1] at e;have hz:=c7 _ b2;rw [beq_iff_eq] at hz;have:=c8 _ a2;rw [e] at this;simp only [Bool.or_eq_true,beq_iff_eq,Bool.not_eq_true',D4 hz] at this;rcases this with h|h
   ·simp [kid] at h
   ·rw [List.contains_iff_mem.2 (List.mem_map.2 ⟨_,b2,rfl⟩)] at h;cases h
  ·exfalso;rw [hkid _ a1] at e;have hz:=c7 _ a2;rw [beq_iff_eq] at hz;have:=c8 _ b2;rw [← e] at this;simp only [Bool.or_eq_true,beq_iff_eq,Bool.not_eq_true',D4 hz] at this;rcases this with h|h
   ·simp [kid] at h
   ·rw [List.contains_iff_mem.2 (List.mem_map.2 ⟨_,a2,rfl⟩)] at h;cases h
  ·rw [hkid _ a1,hkid _ b1] at e;have z1:=c7 _ a2;have z2:=c7 _ b2;rw [beq_iff_eq] at z1 z2
   have e1:Bc l (P8 q.1)=Bc l (P8 q'.1):=by
    rw [← D4 z1 (q.1.1.2 - 1),e,D4 z2]
   have e2:=Qj ndP a2 b2 e1;rw [e1] at e;have e3:=Fm e;rw [Aff a1,Aff b1,e2,e3]
 have him:∀ b,imm (Aj ol0) σ b->imm (Aj (B8 ol)) σ' b:=by
  intro b hb i o cp s ho hs;have hq:=Ht ho;rw [hσ i (hex _ hq).1] at hs;exact hb (Bc l i) _ cp s (hget _ hq) hs
 have hσ0:∀ i l',σ' i=some l'->(i.2=0/\σ i=some l')∨(D i/\σ (Bc l i)=some l'):=by
  intro i l' hi;simp only [σ'] at hi;split at hi
  ·exact .inl ⟨by assumption,hi⟩
  ·split at hi
   ·exact .inr ⟨by assumption,hi⟩
   ·cases hi
 refine ⟨⟨σ',⟨hm.below,hm.inv,fun i l' hi=>?_,fun i b cp s hi=>?_,fun i b cp s hi=>?_,fun i j b cp s cp' s' o o' hi hj e1 e2=>?_,fun i o l' ho hl=>?_⟩,fun t=>?_,?_⟩,hr.size,hr.defers,fun i hi=>?_⟩
 ·rcases hσ0 i l' hi with ⟨h,_⟩|⟨h,_⟩
  ·show i.2<g;omega
  ·show i.2<g;rcases hDc i h with ⟨_,hm⟩|⟨_,hm⟩
   ·obtain ⟨q,hq,rfl⟩:=ofN hm;exact (c5' q hq).1
   ·obtain ⟨q,hq,e⟩:=ofP hm;have:=(c5' q hq).1;rw [e] at this;exact this
 ·rcases hσ0 i _ hi with ⟨_,h⟩|⟨_,h⟩ <;> exact hm.lt _ b cp s h
 ·rcases hσ0 i _ hi with ⟨_,h⟩|⟨_,h⟩ <;> exact hm.cap _ b cp s h
 ·have q1:=Ht hi;have q2:=Ht hj;rw [hσ i (hex _ q1).1] at e1;rw [hσ j (hex _ q2).1] at e2;have:=hm.inj (Bc l i) (Bc l j) b cp s cp' s' _ _ (hget _ q1) (hget _ q2) e1 e2;exact hinj _ q1 _ q2 this
 ·have hq:=Ht ho;rw [hσ i (hex _ hq).1] at hl;exact Apg hσ him (hex _ hq).2 (hm.obs (Bc l i) _ l' (hget _ hq) hl)
 ·have key:∀ l':List (Nat×AV),(∀ p∈l',p∈tl)->AV.Rep σ' (imm (Aj (B8 ol)) σ') w (Am l' t) (a.tmps.getD t undef):=by
   intro l'
   induction l' with
   | nil=>intro _;trivial
   | cons p r ih =>
    obtain ⟨j,v⟩:=p;intro h;simp only [Am];split
    ·rename_i e;subst e;have hp:=h (t,v) (by simp);have:AV.Rep σ (imm (Aj ol0) σ) w (Am tl0 t) (a.tmps.getD t undef):=hf t;rw [show Am tl0 t=v.ren (Bc l) from htget _ hp] at this;exact Al3 hσ him v _ (AV.cl_P v (c1 _ hp)) this
    ·exact ih fun p hp=>h p (by simp [hp])
  exact key tl fun _ h=>h
 ·refine ⟨fun i l' hi=>?_,fun b hb hi=>him b (hB.im_ b hb hi),hB.blk,hB.size⟩;have:=hB.loc i l' hi;have h0:=B.zero i l' hi;simp only [σ',if_pos h0];exact this
 ·cases ho:Aj (B8 ol) i with
  | none=>exact absurd ho hi
  | some o =>
   show i.2<g;rcases hDc i (hex _ (Ht ho)).1 with ⟨_,hm⟩|⟨_,hm⟩
   ·obtain ⟨q,hq,rfl⟩:=ofN hm;exact (c5' q hq).1
   ·obtain ⟨q,hq,e⟩:=ofP hm;have:=(c5' q hq).1;rw [e] at this;exact this
def C0 (P:Program) (fn:Func):Option (AC×List Res) :=
 match fn.body with
 | some c=>match AC.of P fn.ntmps c,Res.ofL P fn.results.toList with
  | some ac,some rs=>some (ac,rs)
  | _,_=>none
 | none=>none
def mC (x:Option (AC×List Res)):AC:=x.elim .skip (·.1)
theorem Asj {P:Program} [IsP P] {G:World->Prop} (hfol:P.follows .mixedOrders=true) {g:FuncId} {fn:Func} (hf:P.funcs[g]? =some fn) {ac:AC} {rs:List Res} (hc:C0 P fn=some (ac,rs)) {args:List AV} {r:RV} {n:Nat} (hN:fn.ntmps=n) (hn:args.length<=n)
  (h:awp P G ac (fun e S=>∃ S',WeakG G S S'/\(e=.normal∨e=.ret)/\RetOK [] rs S' r) (St.init args)):Dr P G g args r:=by
 unfold C0 at hc;split at hc
 ·rename_i c hb;split at hc
  ·rename_i ac' rs' h1 h2;obtain ⟨rfl,rfl⟩:=Prod.mk.inj (osj hc);exact Aum hfol hf hb h1 h2 oM fun im w vs hr=>⟨args,rfl,hr,Dg (fun e S ⟨S',hw,he,hq⟩=>⟨S',hw,he,hq.wide⟩) h⟩
  ·cases hc
 ·cases hc
theorem Ar9 {P:Program} [IsP P] {G:World->Prop} (hfol:P.follows .mixedOrders=true) {g:FuncId} {fn:Func} (hf:P.funcs[g]? =some fn) {ac:AC} {rs:List Res} (hc:C0 P fn=some (ac,rs)) {args:List AV} {n:Nat} (hN:fn.ntmps=n) (hn:args.length<=n)
  {ol us:List (Oid×Ob)} {v:AV} (hz:∀ q∈exL ol,q.1.2=0/\q.2.cloP (·∈nmL ol)) (hnd:(nmL us).Nodup) (hus:∀ q∈exL us,(q.1.2=1∨q.1∈nmL ol)/\(q.2.hp (·∈nmL us)∨q∈exL ol/\q.2.hpG (·∈nmL us))) (hcl:AV.cloPL (·∈nmL ol) args) (hv:v.hp (·∈nmL us))
  (h:awp P G ac (fun e S=>∃ S',WeakG G S S'/\(e=.normal∨e=.ret)/\(∃ rvs,Res.evL S'.tm S'.ob rs=some rvs/\v=Adq rvs)/\∀ q∈exL us,S'.ob q.1=some q.2) ⟨fun i=>args.getD i .any,Aj (B8 ol),1⟩):Cm P G g args ol v us:=by
 unfold C0 at hc;split at hc
 ·rename_i c hb;split at hc
  ·rename_i ac' rs' h1 h2;obtain ⟨rfl,rfl⟩:=Prod.mk.inj (osj hc);exact Arr hfol hf hb h1 h2 oM hz hnd hus hcl hv h
  ·cases hc
 ·cases hc
end
section
open Go.RowKit Go.Deep
theorem Aon {G:World->Prop} {S:St} (s:Nat) (o:Oid) (ρ:Nat->Oid) {e1 e:TypeId} {u:Ty} {cs:List AV} {xss:List (List u.D)} {n:Nat} {ob':Oid->Option Ob} (hfl:u.flat=true) (ho:S.ob o=some (.vec e1 1 n cs)) (hn:n=xss.length)
  (hrow:∀ k row,xss[k]? =some row->cs[k]? =some (.own (ρ k) u 0 row.length)/\∃ ys,S.ob (ρ k)=some (.arr e u ys)/\row.length<=ys.length/\row=ys.take row.length)
  (hinj:∀ j k,j<xss.length->k<xss.length->ρ j=ρ k->j=k)
  (h1:ob' o=some (.vec e1 1 n (hdL ((s,0),S.gen) u xss))) (h2:∀ k,ob' (kid ((s,0),S.gen) k)=(xss[k]?).map (.arr e u))
  (h3:∀ i,i≠o->(∀ k,i≠kid ((s,0),S.gen) k)->ob' i=none∨(ob' i=S.ob i/\∀ k,k<xss.length->i≠ρ k)):WeakG G S ⟨S.tm,ob',S.gen+1⟩:=by
 intro w0 B N a w hr;obtain ⟨σ,hm,hf,hB⟩:=hr.ex
 let p:Oid:=((s,0),S.gen)
 have hfr:∀ i:Oid,i.2=S.gen->σ i=none:=fun i hi=>Goes.fresh hm (by rw [hi];exact Nat.lt_irrefl _)
 have hobn:∀ i:Oid,i.2=S.gen->S.ob i=none:=fun i hi=>by
  cases h:S.ob i with
  | none=>rfl
  | some x=>have:=hr.obg i (by rw [h];simp);omega
 have hop:∀ k,o≠kid p k:=fun k e=>by
  have:=hobn o (by rw [e];rfl);rw [ho] at this;cases this
 have hog:o.2≠S.gen:=fun e=>by have:=hobn o e;rw [ho] at this;cases this
 let σ':Oid->Option Loc:=fun i=>if i.1.1=s/\i.2=S.gen/\i.1.2≠0 then (if i.1.2 - 1<xss.length then σ (ρ (i.1.2 - 1)) else none) else σ i
 have hσk:∀ k,k<xss.length->σ' (kid p k)=σ (ρ k):=fun k hk=>by
  simp only [σ'];rw [if_pos ⟨rfl,rfl,by simp [kid]⟩];simp [kid,hk]
 have hσo:∀ i,(∀ k,i≠kid p k)->σ' i=σ i:=fun i hi=>by
  simp only [σ'];rw [if_neg];rintro ⟨e1,e2,e3⟩;refine hi (i.1.2 - 1) ?_;obtain ⟨⟨i1,i2⟩,i3⟩:=i;simp only [kid,p] at *;subst e1 e2;rw [show i2 - 1+1=i2 by omega]
 have hloc:∀ i l,σ i=some l->σ' i=some l:=fun i l hi=>by
  rw [hσo i fun k e=>by rw [e,hfr _ rfl] at hi;cases hi];exact hi
 have hρ:∀ k,k<xss.length->∃ ys,S.ob (ρ k)=some (.arr e u ys):=fun k hk=>by
  obtain ⟨_,ys,h,_⟩:=hrow k _ (gEg hk);exact ⟨ys,h⟩
 have hcase:∀ i,i=o∨(∃ k,i=kid p k)∨(i≠o/\∀ k,i≠kid p k):=fun i=>by
  by_cases a1:i=o
  ·exact .inl a1
  ·by_cases a2:∃ k,i=kid p k
   ·exact .inr (.inl a2)
   ·exact .inr (.inr ⟨a1,fun k e=>a2 ⟨k,e⟩⟩)
 -- where each object of the new state was
 have hwas:∀ i x,ob' i=some x->∃ i0 x0,S.ob i0=some x0/\σ' i=σ i0/\((i=o/\i0=o)∨(∃ k,k<xss.length/\i=kid p k/\i0=ρ k)∨(i0=i/\i≠o/\(∀ k,i≠kid p k)/\ob' i=S.ob i/\∀ k,k<xss.length->i≠ρ k)):=by
  intro i x hx;rcases hcase i with rfl|⟨k,rfl⟩|⟨a1,a2⟩
  ·exact ⟨i,_,ho,hσo i hop,.inl ⟨rfl,rfl⟩⟩
  ·have hk:k<xss.length:=by
    rw [h2 k] at hx;obtain ⟨row,hrow',_⟩:=oms.1 hx;exact (gSi.1 hrow').1
   obtain ⟨ys,h⟩:=hρ k hk;exact ⟨ρ k,_,h,hσk k hk,.inr (.inl ⟨k,hk,rfl,rfl⟩)⟩
  ·rcases h3 i a1 a2 with h|⟨h,h'⟩
   ·rw [h] at hx;cases hx
   ·exact ⟨i,x,by rw [← h];exact hx,hσo i a2,.inr (.inr ⟨rfl,a1,a2,h,h'⟩)⟩
 have him:∀ b,imm S.ob σ b->imm ob' σ' b:=by
  intro b hb i x c s' hx hs;obtain ⟨i0,x0,g1,g2,_⟩:=hwas i x hx;rw [g2] at hs;exact hb i0 x0 c s' g1 hs
 have hL:Later σ σ' (imm S.ob σ) (imm ob' σ') w w:=⟨hloc,fun b _ hb=>him b hb,fun _ _ _=>rfl,Nat.le_refl _⟩
 refine ⟨⟨σ',⟨hm.below,hm.inv,fun i l hi=>?_,fun i b c s' hi=>?_,fun i b c s' hi=>?_,fun i j b c s' c' s2 x y hi hj e1 e2=>?_,fun i x l hx hl=>?_⟩,fun t=>AV.Rep.later hL _ _ (hf t),hB.trans hL⟩,hr.size,hr.defers,fun i hi=>?_⟩
 ·show i.2<S.gen+1;simp only [σ'] at hi;split at hi
  ·omega
  ·have:i.2<S.gen:=hm.gen i l hi;omega
 ·simp only [σ'] at hi;split at hi
  ·split at hi
   ·exact hm.lt _ b c s' hi
   ·cases hi
  ·exact hm.lt i b c s' hi
 ·simp only [σ'] at hi;split at hi
  ·split at hi
   ·exact hm.cap _ b c s' hi
   ·cases hi
  ·exact hm.cap i b c s' hi
 ·obtain ⟨i0,x0,g1,g2,g3⟩:=hwas i x hi;obtain ⟨j0,y0,k1,k2,k3⟩:=hwas j y hj;rw [g2] at e1;rw [k2] at e2;have e0:=hm.inj i0 j0 b c s' c' s2 x0 y0 g1 k1 e1 e2
  have hoρ:∀ k,k<xss.length->o≠ρ k:=fun k hk e=>by
   obtain ⟨ys,h⟩:=hρ k hk;rw [← e,ho] at h;cases h
  rcases g3 with ⟨rfl,rfl⟩|⟨k,hk,rfl,rfl⟩|⟨rfl,a1,a2,a3,a4⟩ <;> rcases k3 with ⟨rfl,rfl⟩|⟨k',hk',rfl,rfl⟩|⟨rfl,b1,b2,b3,b4⟩
  ·rfl
  ·exact absurd e0 (hoρ k' hk')
  ·exact e0
  ·exact absurd e0.symm (hoρ k hk)
  ·rw [hinj k k' hk hk' e0]
  ·exact absurd e0.symm (b4 k hk)
  ·exact e0
  ·exact absurd e0 (a4 k' hk')
  ·exact e0
 ·replace hx:ob' i=some x:=hx
  show x.Rep w0.heap.size σ' (imm ob' σ') w l;rcases hcase i with rfl|⟨k,rfl⟩|⟨a1,a2⟩
  ·rw [h1] at hx;obtain rfl:=osj hx;rw [hσo i hop] at hl;obtain ⟨vs,p1,p2,p3,p4⟩:=hm.obs i _ l ho hl;refine ⟨vs,p1,AV.RepL.of_get ?_ fun k c v hc hv=>?_,p3,p4⟩
   ·rw [C8,← hn];have:=p1.1;omega
   ·rw [Eh] at hc;obtain ⟨row,hk,rfl⟩:=oms.1 hc;have hlt:=(gSi.1 hk).1;obtain ⟨q1,ys,q2,q3,q4⟩:=hrow k row hk;obtain ⟨v',hv',hr'⟩:=p2.get q1;rw [hv] at hv';obtain rfl:=osj hv';have hs:=hσk k hlt;rcases hr' with ⟨g,q⟩|⟨b,cap,g,q⟩|⟨lc,g,q⟩
    ·exact .inl ⟨hs.trans g,q⟩
    ·exact .inr (.inl ⟨b,cap,hs.trans g,q⟩)
    ·exact .inr (.inr ⟨lc,hs.trans g,q⟩)
  ·rw [h2 k] at hx;obtain ⟨row,hk,rfl⟩:=oms.1 hx;have hlt:=(gSi.1 hk).1;obtain ⟨q1,ys,q2,q3,q4⟩:=hrow k row hk;rw [hσk k hlt] at hl;obtain ⟨f1,f2,f3⟩:=hm.obs _ _ l q2 hl
   have hnil:l=.nil->row.length=0:=by
    intro e0;subst e0;rcases f2.2 with ⟨_,h0⟩|⟨_,_,_,e1,_⟩
    ·omega
    ·cases e1
   have:=Sc f1 f2 q3 hnil;rw [← q4] at this;exact ⟨f1,this,f3⟩
  ·rcases h3 i a1 a2 with h|⟨h,_⟩
   ·rw [h] at hx;cases hx
   ·rw [hσo i a2] at hl;exact (hm.obs i x l (by rw [← h];exact hx) hl).later hL fun _ _ _ _=>rfl
 ·show i.2<S.gen+1;rcases hcase i with rfl|⟨k,rfl⟩|⟨a1,a2⟩
  ·have:=hr.obg i (by rw [ho];simp);omega
  ·show S.gen<S.gen+1;omega
  ·rcases h3 i a1 a2 with h|⟨h,_⟩
   ·exact absurd h hi
   ·have hi:ob' i≠none:=hi;rw [h] at hi;have:=hr.obg i hi;omega
-- lists of objects, spelt otherwise
section
variable {ol:List (Oid×Option Ob)} {e1 e:TypeId} {u:Ty} {xss:List (List u.D)} {p o:Oid}
theorem Alo {i p:Oid} (h:∀ k,i≠kid p k):¬ (i.1.1=p.1.1/\i.2=p.2/\i.1.2≠0):=by
 rintro ⟨a,b,c⟩;refine h (i.1.2 - 1) ?_;obtain ⟨⟨i1,i2⟩,i3⟩:=i;simp only [kid] at *;subst a b;rw [show i2 - 1+1=i2 by omega]
theorem Nz (i:Oid):Aj ((p,some (.pool e u xss)) :: ol) i=if i.1.1=p.1.1/\i.2=p.2/\i.1.2≠0 then (xss[i.1.2 - 1]?).map (.arr e u) else Aj ol i:=by
 simp only [Aj]
theorem Ja (k:Nat):Aj ((p,some (.pool e u xss)) :: ol) (kid p k)=(xss[k]?).map (.arr e u):=by
 rw [Nz,if_pos ⟨rfl,rfl,by simp [kid]⟩];simp [kid]
theorem Ic {i:Oid} (h:∀ k,i≠kid p k):Aj ((p,some (.pool e u xss)) :: ol) i=Aj ol i:=by
 rw [Nz,if_neg (Alo h)]
theorem Qf (i:Oid):Aj ((o,some (.mat e p u xss)) :: ol) i=if i=o then some (.vec e 1 xss.length (hdL p u xss)) else Aj ol i:=by
 simp only [Aj]
theorem Agd (i p:Oid):(∃ k,i=kid p k)∨∀ k,i≠kid p k:=by
 by_cases h:∃ k,i=kid p k
 ·exact .inl h
 ·exact .inr fun k e=>h ⟨k,e⟩
theorem Atc {k:Nat} {row row':List u.D} (hx:xss[k]? =some row) (hl:row'.length=row.length):hdL p u (xss.set k row')=hdL p u xss:=by
 apply List.ext_getElem?;intro j;rw [Eh,Eh,List.getElem?_set];by_cases h:k=j
 ·subst h;have hlt:=(gSi.1 hx).1;rw [if_pos rfl,if_pos hlt,hx];simp [hl]
 ·rw [if_neg h]
theorem Aag {k:Nat} {row row':List u.D} (hm:Hb ol o=some (.mat e1 p u xss)) (ho:o.1.2=0) (hp:Fb ol p=some (.pool e u xss)) (hx:xss[k]? =some row) (hl:row'.length=row.length) :
  Aj ((kid p k,some (.arr e u row')) :: (kid p k,none) :: ol)=Aj ((o,some (.mat e1 p u (xss.set k row'))) :: (p,some (.pool e u (xss.set k row'))) :: ol):=by
 have hlt:=(gSi.1 hx).1;have hmo:Aj ol o=some (.vec e1 1 xss.length (hdL p u xss)):=by rw [Kz,hm];rfl
 funext i;have e0:Aj ((kid p k,some (.arr e u row')) :: (kid p k,none) :: ol) i=if i=kid p k then some (.arr e u row') else if i=kid p k then none else Aj ol i:=by simp only [Aj]
 rw [e0,Qf];by_cases h1:i=o
 ·subst h1;rw [if_pos rfl,if_neg (fun e=>by rw [e] at ho;simp [kid] at ho),if_neg (fun e=>by rw [e] at ho;simp [kid] at ho),hmo,Atc hx hl,List.length_set]
 ·rw [if_neg h1];rcases Agd i p with ⟨j,rfl⟩|h2
  ·rw [Ja,List.getElem?_set];by_cases h3:k=j
   ·subst h3;rw [if_pos rfl,if_pos rfl,if_pos hlt];rfl
   ·rw [if_neg (fun e=>h3 (Fm e).symm),if_neg (fun e=>h3 (Fm e).symm),if_neg h3,Xb hp]
  ·rw [Ic h2,if_neg (h2 k),if_neg (h2 k)]
theorem Au5:∀ (l:List (List u.D×Nat)) (ob:Oid->Option Ob) (j:Oid),Aw (l.map fun x=>(kid p x.2,some (Ob.arr e u x.1))) ob j=match (l.reverse.find? fun x=>kid p x.2==j) with|some x=>some (.arr e u x.1)|none=>ob j
 | [],_,_=>rfl
 | x :: l,ob,j=>by
  simp only [List.map_cons,Aw,List.foldl_cons];have ih:=Au5 l (upd ob (kid p x.2) (some (.arr e u x.1))) j;simp only [Aw] at ih;rw [ih,List.reverse_cons,List.find?_append];cases h:l.reverse.find? fun x=>kid p x.2==j with
  | some y=>rfl
  | none =>
   simp only [Option.none_or,List.find?_cons,List.find?_nil];by_cases hj:kid p x.2=j
   ·subst hj;simp [upd]
   ·rw [show (kid p x.2==j)=false by simpa using hj];simp only [upd];rw [if_neg (fun e=>hj e.symm)]
theorem Ai8 (hp:∀ k,Aj ol (kid p k)=none):Aw (Yf p e u xss) (Aj ol)=Aj ((p,some (.pool e u xss)) :: ol):=by
 funext i;have hx:=Au5 (p:=p) (e:=e) (u:=u) xss.zipIdx (Aj ol) i;unfold Yf;rw [hx];rcases Agd i p with ⟨j,rfl⟩|h2
 ·rw [Ja];cases hf:xss.zipIdx.reverse.find? fun x=>kid p x.2==kid p j with
  | some y =>
   have h1:=List.find?_some hf;have h2:=List.mem_of_find?_eq_some hf;simp only [beq_iff_eq] at h1;have h1:=Fm h1;rw [List.mem_reverse,List.mem_zipIdx_iff_getElem?,h1] at h2;rw [h2];rfl
  | none =>
   rw [List.find?_eq_none] at hf;cases hj:xss[j]? with
   | none=>exact hp j
   | some row =>
    have:=hf (row,j) (by rw [List.mem_reverse,List.mem_zipIdx_iff_getElem?];exact hj);simp at this
 ·rw [Ic h2];cases hf:xss.zipIdx.reverse.find? fun x=>kid p x.2==i with
  | some y =>
   have h1:=List.find?_some hf;simp only [beq_iff_eq] at h1;exact absurd h1.symm (h2 _)
  | none=>rfl
def Od (n:Nat) (ol:List (Oid×Option Ob)):Bool:=ol.all fun q=>q.1.2 !=n
theorem Rc:∀ {ol:List (Oid×Option Ob)} {n:Nat},Od n ol=true->∀ i:Oid,i.2=n->Aj ol i=none
 | [],_,_,_,_=>rfl
 | (j,o) :: r,n,h,i,hi=>by
  simp only [Od,List.all_cons,Bool.and_eq_true,bne_iff_ne,ne_eq] at h;obtain ⟨h1,h2⟩:=h;have ih:=Rc (ol:=r) h2 i hi;have hne:i≠j:=fun e=>h1 (by rw [← e];exact hi)
  cases o with
  | none=>simp only [Aj];rw [if_neg hne];exact ih
  | some o =>
   cases o with
   | pool e u xss=>rw [Nz,if_neg (fun h=>h1 (by rw [← h.2.1];exact hi))];exact ih
   | mat e p u xss=>rw [Qf,if_neg hne];exact ih
   | _=>simp only [Aj];rw [if_neg hne];exact ih
end
theorem J9 {G:World->Prop} {tl:List (Nat×AV)} {ol:List (Oid×Option Ob)} {g:Nat} (s:Nat) (o:Oid) (ρ:Nat->Oid) {e1 e:TypeId} {u:Ty} {cs:List AV} {xss:List (List u.D)} {n:Nat} (kill:List (Oid×Option Ob)) (hfl:u.flat=true) (ho:Aj ol o=some (.vec e1 1 n cs)) (hn:n=xss.length)
  (hrow:∀ k row,xss[k]? =some row->cs[k]? =some (.own (ρ k) u 0 row.length)/\∃ ys,Aj ol (ρ k)=some (.arr e u ys)/\row.length<=ys.length/\row=ys.take row.length)
  (hinj:∀ j k,j<xss.length->k<xss.length->ρ j=ρ k->j=k) (hog:(o.2==g)=false) (hfr:Od g (kill++ol)=true)
  (hk:∀ i,i≠o->Aj (kill++ol) i=none∨(Aj (kill++ol) i=Aj ol i/\∀ k,k<xss.length->i≠ρ k)) :
  WeakG G ⟨Am tl,Aj ol,g⟩ ⟨Am tl,Aj ((o,some (.mat e1 ((s,0),g) u xss)) :: (((s,0),g),some (.pool e u xss)) :: (kill++ol)),g+1⟩:=by
 have hog':o.2≠g:=by simpa using hog
 refine Aon (S:=⟨Am tl,Aj ol,g⟩) s o ρ hfl ho hn hrow hinj ?_ (fun k=>?_) (fun i h1 h2=>?_)
 ·show Aj _ o=some (.vec e1 1 n (hdL ((s,0),g) u xss));rw [Qf,if_pos rfl,hn]
 ·show Aj _ (kid ((s,0),g) k)=_;rw [Qf,if_neg (fun e=>hog' (by rw [← e];rfl)),Ja]
 ·show Aj _ i=none∨(Aj _ i=Aj ol i/\_);rw [Qf,if_neg h1,Ic h2];exact hk i h1
theorem Ly {p:Oid} {ol:List (Oid×Option Ob)} {e:TypeId} {u:Ty} (i:Oid):Aj ((p,some (.pool e u [])) :: ol) i=if i.1.1=p.1.1/\i.2=p.2/\i.1.2≠0 then none else Aj ol i:=by
 rw [Nz];split <;> simp
theorem Kj {q:Oid} {ol:List (Oid×Option Ob)} (i:Oid):Aj ((q,none) :: ol) i=if i=q then none else Aj ol i:=by
 simp only [Aj]
theorem Abo {α:Type} {row ys:List α} {len:Nat} (hl:len<=ys.length) (hr:row=ys.take len):row.length=len/\row.length<=ys.length/\row=ys.take row.length:=by
 have:row.length=len:=by rw [hr,List.length_take];omega
 rw [this];exact ⟨rfl,hl,hr⟩
theorem M6 {α:Type} {ys:List α} {len:Nat} (h:len=ys.length):len<=ys.length:=by omega
theorem M2 {α:Type} {ys:List α} {len:Nat} (h:len=ys.length):ys=ys.take len:=by rw [h,List.take_length]
theorem Any {G:World->Prop} {tl:List (Nat×AV)} {ol:List (Oid×Option Ob)} {g:Nat} (s:Nat) (o p q:Oid) {e1 e:TypeId} {u:Ty} {xss:List (List u.D)} {j n len:Nat} {row ys:List u.D} (hfl:u.flat=true) (ho:Aj ol o=some (.vec e1 1 n ((hdL p u xss).set j (.own q u 0 len)))) (hn:n=xss.length) (hp:Fb ol p=some (.pool e u xss)) (hq:Hb ol q=some (.arr e u ys)) (hl:len<=ys.length) (hr:row=ys.take len)
  (hqp:(q.1.1==p.1.1&&q.2==p.2&&q.1.2 !=0)=false) (hog:(o.2==g)=false) (hfr:Od g ((q,none) :: (p,some (.pool e u [])) :: ol)=true) :
  WeakG G ⟨Am tl,Aj ol,g⟩ ⟨Am tl,Aj ((o,some (.mat e1 ((s,0),g) u (xss.set j row))) :: (((s,0),g),some (.pool e u (xss.set j row))) :: (q,none) :: (p,some (.pool e u [])) :: ol),g+1⟩:=by
 obtain ⟨r1,r2,r3⟩:=Abo hl hr;have hqk:∀ k,q≠kid p k:=fun k e=>by rw [e] at hqp;simp [kid] at hqp
 have hq':Aj ol q=some (.arr e u ys):=by rw [Kz,hq];rfl
 refine J9 s o (fun k=>if k=j then q else kid p k) [(q,none),(p,some (.pool e u []))] hfl ho (by rw [List.length_set];exact hn) (fun k row' hk=>?_) (fun a b ha hb hab=>?_) hog hfr (fun i _=>?_)
 ·rw [List.getElem?_set] at hk ⊢;by_cases h:j=k
  ·subst h;rw [if_pos rfl] at hk ⊢;split at hk
   ·rename_i hlt;obtain rfl:=osj hk;rw [C8,if_pos hlt,if_pos rfl,r1];exact ⟨rfl,ys,hq',hl,hr⟩
   ·cases hk
  ·rw [if_neg h] at hk ⊢;rw [Eh,hk,if_neg (fun e=>h e.symm)];exact ⟨rfl,row',Be hp hk,Nat.le_refl _,(List.take_length).symm⟩
 ·by_cases h1:a=j <;> by_cases h2:b=j
  ·rw [h1,h2]
  ·rw [if_pos h1,if_neg h2] at hab;exact absurd hab (hqk b)
  ·rw [if_neg h1,if_pos h2] at hab;exact absurd hab.symm (hqk a)
  ·rw [if_neg h1,if_neg h2] at hab;exact Fm hab
 ·simp only [List.cons_append,List.nil_append,Kj];by_cases h1:i=q
  ·rw [if_pos h1];exact .inl rfl
  ·rw [if_neg h1,Ly];split
   ·exact .inl rfl
   ·rename_i h2;refine .inr ⟨rfl,fun k _=>?_⟩;split
    ·exact h1
    ·intro e;exact h2 (by rw [e];exact ⟨rfl,rfl,by simp [kid]⟩)
theorem Aci {G:World->Prop} {tl:List (Nat×AV)} {ol:List (Oid×Option Ob)} {g:Nat} (s:Nat) (o p:Oid) {e1 e:TypeId} {u:Ty} {xss:List (List u.D)} {i j n li lj:Nat} {ri rj:List u.D} (hfl:u.flat=true) (ho:Aj ol o=some (.vec e1 1 n (((hdL p u xss).set i (.own (kid p j) u 0 lj)).set j (.own (kid p i) u 0 li)))) (hn:n=xss.length) (hp:Fb ol p=some (.pool e u xss)) (hi:xss[i]? =some ri) (hj:xss[j]? =some rj) (hli:li=ri.length) (hlj:lj=rj.length)
  (hog:(o.2==g)=false) (hfr:Od g ((p,some (.pool e u [])) :: ol)=true) :
  WeakG G ⟨Am tl,Aj ol,g⟩ ⟨Am tl,Aj ((o,some (.mat e1 ((s,0),g) u ((xss.set i rj).set j ri))) :: (((s,0),g),some (.pool e u ((xss.set i rj).set j ri))) :: (p,some (.pool e u [])) :: ol),g+1⟩:=by
 subst hli hlj;have li:=(gSi.1 hi).1;have lj:=(gSi.1 hj).1;refine J9 s o (fun k=>if k=j then kid p i else if k=i then kid p j else kid p k) [(p,some (.pool e u []))] hfl ho (by simp only [List.length_set];exact hn) (fun k row' hk=>?_) (fun a b ha hb hab=>?_) hog hfr (fun x _=>?_)
 ·rw [List.getElem?_set] at hk ⊢;by_cases h:j=k
  ·subst h;rw [if_pos rfl,List.length_set] at hk ⊢;rw [if_pos lj] at hk;obtain rfl:=osj hk;rw [C8,if_pos lj,if_pos rfl];exact ⟨rfl,ri,Be hp hi,Nat.le_refl _,(List.take_length).symm⟩
  ·have hkj:¬ k=j:=fun e=>h e.symm
   rw [if_neg h,List.getElem?_set] at hk ⊢;simp only [if_neg hkj];by_cases h':i=k
   ·subst h';rw [if_pos rfl] at hk ⊢;rw [if_pos li] at hk;obtain rfl:=osj hk;simp only [if_true];rw [C8,if_pos li];exact ⟨rfl,rj,Be hp hj,Nat.le_refl _,(List.take_length).symm⟩
   ·rw [if_neg h'] at hk ⊢;have hki:¬ k=i:=fun e=>h' e.symm
    simp only [if_neg hki];rw [Eh,hk];exact ⟨rfl,row',Be hp hk,Nat.le_refl _,(List.take_length).symm⟩
 ·have key:∀ k,(if k=j then kid p i else if k=i then kid p j else kid p k)=kid p (if k=j then i else if k=i then j else k):=fun k=>by
   split
   ·rfl
   ·split <;> rfl
  have hab:(if a=j then kid p i else if a=i then kid p j else kid p a)=(if b=j then kid p i else if b=i then kid p j else kid p b):=hab;rw [key a,key b] at hab;have:=Fm hab
  repeat' split at this
  all_goals omega
 ·simp only [List.cons_append,List.nil_append];rw [Ly];split
  ·exact .inl rfl
  ·rename_i h2;refine .inr ⟨rfl,fun k _ e=>h2 ?_⟩
   have:∃ m,x=kid p m:=by
    split at e
    ·exact ⟨_,e⟩
    ·split at e <;> exact ⟨_,e⟩
   obtain ⟨m,rfl⟩:=this;exact ⟨rfl,rfl,by simp [kid]⟩
theorem D3 {G:World->Prop} {tl:List (Nat×AV)} {ol:List (Oid×Option Ob)} {g:Nat} (s:Nat) (o p q:Oid) {e1 e:TypeId} {u:Ty} {xss:List (List u.D)} {n len:Nat} {row ys:List u.D} (hfl:u.flat=true) (ho:Aj ol o=some (.vec e1 1 n (hdL p u xss++[.own q u 0 len]))) (hn:n=xss.length+1) (hp:Fb ol p=some (.pool e u xss)) (hq:Hb ol q=some (.arr e u ys)) (hl:len<=ys.length) (hr:row=ys.take len)
  (hqp:(q.1.1==p.1.1&&q.2==p.2&&q.1.2 !=0)=false) (hog:(o.2==g)=false) (hfr:Od g ((q,none) :: (p,some (.pool e u [])) :: ol)=true) :
  WeakG G ⟨Am tl,Aj ol,g⟩ ⟨Am tl,Aj ((o,some (.mat e1 ((s,0),g) u (xss++[row]))) :: (((s,0),g),some (.pool e u (xss++[row]))) :: (q,none) :: (p,some (.pool e u [])) :: ol),g+1⟩:=by
 obtain ⟨r1,r2,r3⟩:=Abo hl hr;have hqk:∀ k,q≠kid p k:=fun k e=>by rw [e] at hqp;simp [kid] at hqp
 have hq':Aj ol q=some (.arr e u ys):=by rw [Kz,hq];rfl
 refine J9 s o (fun k=>if k=xss.length then q else kid p k) [(q,none),(p,some (.pool e u []))] hfl ho (by simp [hn]) (fun k row' hk=>?_) (fun a b ha hb hab=>?_) hog hfr (fun i _=>?_)
 ·rcases Nat.lt_trichotomy k xss.length with h|h|h
  ·rw [List.getElem?_append_left h] at hk;rw [List.getElem?_append_left (by rw [C8];exact h),Eh,hk,if_neg oM];exact ⟨rfl,row',Be hp hk,Nat.le_refl _,(List.take_length).symm⟩
  ·subst h;rw [List.getElem?_append_right (Nat.le_refl _),Nat.sub_self] at hk;obtain rfl:=osj hk;rw [List.getElem?_append_right (by rw [C8];exact Nat.le_refl _),C8,Nat.sub_self,if_pos rfl,r1];exact ⟨rfl,ys,hq',hl,hr⟩
  ·rw [List.getElem?_eq_none (by simp;omega)] at hk;cases hk
 ·by_cases h1:a=xss.length <;> by_cases h2:b=xss.length
  ·rw [h1,h2]
  ·rw [if_pos h1,if_neg h2] at hab;exact absurd hab (hqk b)
  ·rw [if_neg h1,if_pos h2] at hab;exact absurd hab.symm (hqk a)
  ·rw [if_neg h1,if_neg h2] at hab;exact Fm hab
 ·simp only [List.cons_append,List.nil_append,Kj];by_cases h1:i=q
  ·rw [if_pos h1];exact .inl rfl
  ·rw [if_neg h1,Ly];split
   ·exact .inl rfl
   ·rename_i h2;refine .inr ⟨rfl,fun k _=>?_⟩;split
    ·exact h1
    ·intro e;exact h2 (by rw [e];exact ⟨rfl,rfl,by simp [kid]⟩)
theorem Dk {G:World->Prop} {tl:List (Nat×AV)} {ol:List (Oid×Option Ob)} {g:Nat} (s:Nat) (o:Oid) {e1:TypeId} (e:TypeId) (u:Ty) {n:Nat} (hfl:u.flat=true) (ho:Aj ol o=some (.vec e1 1 n [])) (hn:n=0) (hog:(o.2==g)=false) (hfr:Od g ol=true) :
  WeakG G ⟨Am tl,Aj ol,g⟩ ⟨Am tl,Aj ((o,some (.mat e1 ((s,0),g) u ([]:List (List u.D)))) :: (((s,0),g),some (.pool e u ([]:List (List u.D)))) :: ol),g+1⟩:=by
 exact J9 (e:=e) (xss:=([]:List (List u.D))) s o (fun _=>o) [] hfl ho hn (fun k row' hk=>by simp at hk) (fun a b ha hb _=>by simp at ha) hog hfr (fun i _=>.inr ⟨rfl,fun k h=>by simp at h⟩)
end
section
open Go.RowKit Go.Deep
def Hf (ol:List (Oid×Ob)):Bool:=ol.all fun q=>q.1.1.2==0&&(match q.2 with | .mat _ p _ _=>p.1.2==0|_=>true)
theorem Ahj {ol:List (Oid×Ob)} (h:Hf ol=true):(ol.all fun q=>match q.2 with | .pool ..=>q.1.1.2==0 | .mat _ p _ _=>p.1.2==0|_=>true)=true:=by
 unfold Hf at h;rw [List.all_eq_true] at h ⊢;rintro ⟨i,o⟩ hq;have:=h _ hq;simp only [Bool.and_eq_true] at this;cases o <;> first|exact this.1|exact this.2|rfl
def Ast (θ:Oid->Oid) (ol:List (Oid×Ob)):Bool:=ndB ((B7 ol).map θ)&&(ndB ((Ca ol).map θ)&&(((Ca ol).all fun i=>(θ i).1.2==0)&&(B7 ol).all fun i=>(θ i).1.2==0|| !((Ca ol).map θ).contains (P8 (θ i))))
theorem Abv {ol:List (Oid×Ob)} {q:Oid×Ob} (hq:q∈ol) (hp:q.2.isPool=false):q.1∈B7 ol:=List.mem_map.2 ⟨_,List.mem_filter.2 ⟨hq,by simp [hp]⟩,rfl⟩
theorem Qi {ol:List (Oid×Ob)} {q:Oid×Ob} (hq:q∈ol) (hp:q.2.isPool=true):q.1∈Ca ol:=List.mem_map.2 ⟨_,List.mem_filter.2 ⟨hq,by simp [hp]⟩,rfl⟩
theorem Arg {θ:Oid->Oid} {ol:List (Oid×Ob)} (hk:∀ p e u xss,(p,Ob.pool e u xss)∈ol->∀ k,θ (kid p k)=kid (θ p) k) (h:Ast θ ol=true) (h0:Hf ol=true):∀ q∈exL ol,∀ q'∈exL ol,θ q.1=θ q'.1->q.1=q'.1:=by
 simp only [Ast,Bool.and_eq_true] at h;obtain ⟨c3,c4,c7,c8⟩:=h;rw [List.all_eq_true] at c7 c8;have ndN:=Gv c3;have ndP:=Gv c4;unfold Hf at h0;rw [List.all_eq_true] at h0
 have hb:∀ q∈ol,q.1.1.2=0:=fun q hq=>by
  have:=h0 q hq;simp only [Bool.and_eq_true,beq_iff_eq] at this;exact this.1
 intro q hq q' hq' e;rcases H7 hq with ⟨p,e1,u,xss,k,row,m1,m2,rfl⟩|⟨o,m1,m2,m3⟩ <;> rcases H7 hq' with ⟨p',e1',u',xss',k',row',m1',m2',rfl⟩|⟨o',m1',m2',m3'⟩
 ·simp only [hk _ _ _ _ m1,hk _ _ _ _ m1'] at e;have z1:=c7 _ (Qi m1 rfl);have z2:=c7 _ (Qi m1' rfl);rw [beq_iff_eq] at z1 z2;have e1:θ p=θ p':=by rw [← D4 z1 k,e,D4 z2]
  have e2:=Qj ndP (Qi m1 rfl) (Qi m1' rfl) e1;have e2:p=p':=e2;subst e2;rw [Fm e]
 ·exfalso;simp only [hk _ _ _ _ m1] at e;have hz:=c7 _ (Qi m1 rfl);rw [beq_iff_eq] at hz;have:=c8 _ (Abv (q:=(q'.1,o')) m1' m2');simp only [← e,Bool.or_eq_true,beq_iff_eq,Bool.not_eq_true',D4 hz] at this;rcases this with h|h
  ·simp [kid] at h
  ·rw [List.contains_iff_mem.2 (List.mem_map.2 ⟨_,Qi m1 rfl,rfl⟩)] at h;cases h
 ·exfalso;simp only [hk _ _ _ _ m1'] at e;have hz:=c7 _ (Qi m1' rfl);rw [beq_iff_eq] at hz;have:=c8 _ (Abv (q:=(q.1,o)) m1 m2);simp only [e,Bool.or_eq_true,beq_iff_eq,Bool.not_eq_true',D4 hz] at this;rcases this with h|h
  ·simp [kid] at h
  ·rw [List.contains_iff_mem.2 (List.mem_map.2 ⟨_,Qi m1' rfl,rfl⟩)] at h;cases h
 ·exact Qj ndN (Abv (q:=(q.1,o)) m1 m2) (Abv (q:=(q'.1,o')) m1' m2') e
def Oz (ν:Oid->Oid) (us:List (Oid×Ob)):List (Oid×Ob):=us.map fun q=>(ν q.1,q.2.ren ν)
theorem Alx {ν:Oid->Oid}:∀ {us:List (Oid×Ob)},(∀ p e u xss,(p,Ob.pool e u xss)∈us->∀ k,ν (kid p k)=kid (ν p) k)->(∀ j e p u xss,(j,Ob.mat e p u xss)∈us->∀ k,ν (kid p k)=kid (ν p) k)->exL (Oz ν us)=(exL us).map fun q=>(ν q.1,q.2.ren ν)
 | [],_,_=>rfl
 | (p,o) :: r,h1,h2=>by
  have ih:=Alx (us:=r) (fun p e u xss h=>h1 p e u xss (List.mem_cons_of_mem _ h)) (fun j e p u xss h=>h2 j e p u xss (List.mem_cons_of_mem _ h));cases o with
  | pool e u xss =>
   show (xss.zipIdx.map fun x=>(kid (ν p) x.2,Ob.arr e u x.1))++exL (Oz ν r)=((xss.zipIdx.map fun x=>(kid p x.2,Ob.arr e u x.1))++exL r).map fun q=>(ν q.1,q.2.ren ν)
   rw [List.map_append,ih,List.map_map];congr 1;apply List.map_congr_left;intro x _;simp only [Function.comp,h1 p e u xss (by simp)];rfl
  | mat e q u xss =>
   have:=Agv ν (.mat e q u xss) (fun e' p' u' xss' he k=>by
    obtain ⟨rfl,rfl,rfl,he⟩:=Ob.mat.inj he;obtain rfl:=eq_of_heq he;exact h2 p e q u xss (by simp) k)
   simp only [Ob.ren,Ob.exp] at this;show (ν p,Ob.vec e 1 xss.length (hdL (ν q) u xss)) :: exL (Oz ν r)=((p,Ob.vec e 1 xss.length (hdL q u xss)) :: exL r).map fun q=>(ν q.1,q.2.ren ν)
   rw [List.map_cons,ih,this];rfl
  | tv e m t xs =>
   show (ν p,Ob.vec e t.size xs.length (tvC m t xs)) :: exL (Oz ν r)=((p,Ob.vec e t.size xs.length (tvC m t xs)) :: exL r).map fun q=>(ν q.1,q.2.ren ν)
   rw [List.map_cons,ih];simp only [Ob.ren,Rf]
  | _=>exact congrArg (List.cons _) ih
theorem Q4 {rest:List (Oid×Option Ob)}:∀ {us:List (Oid×Ob)},(B7 us).Nodup->(Ca us).Nodup->(∀ p∈Ca us,p.1.2=0)->(∀ i∈B7 us,∀ p∈Ca us,∀ k,i≠kid p k)->∀ q∈exL us,Aj (B8 us++rest) q.1=some q.2
 | [],_,_,_,_,q,hq=>by cases hq
 | (p,o) :: r,nN,nP,h0,h1,q,hq=>by
  cases o with
  | pool e u xss =>
   have nP':(p :: Ca r).Nodup:=nP;have nN':(B7 r).Nodup:=nN;have h0':∀ i∈p :: Ca r,i.1.2=0:=h0;have h1':∀ i∈B7 r,∀ j∈p :: Ca r,∀ k,i≠kid j k:=h1;obtain ⟨n1,n2⟩:=List.nodup_cons.1 nP';simp only [exL,List.mem_append] at hq;show Aj ((p,some (.pool e u xss)) :: (B8 r++rest)) q.1=some q.2;rcases hq with hq|hq
   ·obtain ⟨⟨row,k⟩,hx,rfl⟩:=List.mem_map.1 hq;rw [List.mem_zipIdx_iff_getElem?] at hx;rw [Ja];have hx:xss[k]? =some row:=hx;rw [hx];rfl
   ·rw [Ic]
    ·exact Q4 nN' n2 (fun i hi=>h0' i (List.mem_cons_of_mem _ hi)) (fun i hi j hj=>h1' i hi j (List.mem_cons_of_mem _ hj)) q hq
    ·intro k e';rcases H7 hq with ⟨p',e1,u',xss',k',row,m1,m2,rfl⟩|⟨o,m1,m2,m3⟩
     ·have e':kid p' k'=kid p k:=e';have hb:p'=p:=by rw [← D4 (h0' p' (List.mem_cons_of_mem _ (Qi m1 rfl))) k',e',D4 (h0' p List.mem_cons_self)]
      subst hb;exact n1 (Qi m1 rfl)
     ·exact h1' _ (Abv (q:=(q.1,o)) m1 m2) p List.mem_cons_self k e'
  | _ =>
   have nN':(p :: B7 r).Nodup:=nN;have nP':(Ca r).Nodup:=nP;have h1':∀ i∈p :: B7 r,∀ j∈Ca r,∀ k,i≠kid j k:=h1;obtain ⟨n1,n2⟩:=List.nodup_cons.1 nN';simp only [exL] at hq;rcases List.mem_cons.1 hq with rfl|hq
   ·simp [B8,Aj]
   ·have hne:q.1≠p:=by
     intro e';rcases H7 hq with ⟨p',e1,u',xss',k',row,m1,m2,rfl⟩|⟨o,m1,m2,m3⟩
     ·exact h1' p List.mem_cons_self p' (Qi m1 rfl) k' e'.symm
     ·exact n1 (by rw [← e'];exact Abv (q:=(q.1,o)) m1 m2)
    have:=Q4 (rest:=rest) n2 nP' h0 (fun i hi=>h1' i (List.mem_cons_of_mem _ hi)) q hq;simp only [B8,List.map_cons,List.cons_append,Aj];rw [if_neg hne];exact this
theorem Aef {rest:List (Oid×Option Ob)}:∀ {us:List (Oid×Ob)} {k:Oid},(∀ q∈exL us,q.1≠k)->Aj (B8 us++rest) k=Aj rest k∨(Aj (B8 us++rest) k=none/\∃ p e u xss,(p,Ob.pool e u xss)∈us/\k.2=p.2)
 | [],_,_=>.inl rfl
 | (p,o) :: r,k,h=>by
  have ih:(∀ q∈exL r,q.1≠k)->Aj (B8 r++rest) k=Aj rest k∨(Aj (B8 r++rest) k=none/\∃ p' e u xss,(p',Ob.pool e u xss)∈(p,o) :: r/\k.2=p'.2):=fun h=>by
   rcases Aef (us:=r) (rest:=rest) h with h|⟨h,p',e,u,xss,hm,hk⟩
   ·exact .inl h
   ·exact .inr ⟨h,p',e,u,xss,List.mem_cons_of_mem _ hm,hk⟩
  cases o with
  | pool e u xss =>
   show Aj ((p,some (.pool e u xss)) :: (B8 r++rest)) k=_∨_;rcases Agd k p with ⟨j,rfl⟩|h2
   ·refine .inr ⟨?_,p,e,u,xss,List.mem_cons_self,rfl⟩;show Aj ((p,some (.pool e u xss)) :: (B8 r++rest)) (kid p j)=none;rw [Ja];cases hj:xss[j]? with
    | none=>rfl
    | some row =>
     refine absurd rfl (h (kid p j,.arr e u row) ?_);simp only [exL,List.mem_append];exact .inl (List.mem_map.2 ⟨(row,j),by rw [List.mem_zipIdx_iff_getElem?];exact hj,rfl⟩)
   ·have h3:=ih (fun q hq=>h q (by simp only [exL,List.mem_append];exact .inr hq));have:Aj (B8 ((p,Ob.pool e u xss) :: r)++rest) k=Aj (B8 r++rest) k:=Ic h2;rw [this,Ic h2];exact h3
  | _ =>
   have h3:=ih (fun q hq=>h q (by simp only [exL];exact List.mem_cons_of_mem _ hq));have hne:k≠p:=fun e=>h (p,_) (by simp only [exL];exact List.mem_cons_self) e.symm
   simp only [B8,List.map_cons,List.cons_append,Aj] at h3 ⊢;rw [if_neg hne];exact h3
def Lp (θ:Oid->Oid) (ol:List (Oid×Ob)):List (Oid×Option Ob):=ol.map fun q=>(θ q.1,match q.2 with | .pool e u _=>some (.pool e u [])|_=>none)
theorem Amb {θ:Oid->Oid} {ol0:List (Oid×Option Ob)}:∀ {ol:List (Oid×Ob)},(∀ p e u xss,(p,Ob.pool e u xss)∈ol->(∀ k,θ (kid p k)=kid (θ p) k)/\Fb ol0 (θ p)=some (.pool e u xss))->∀ k,(k∈(nmL ol).map θ->Aj (Lp θ ol++ol0) k=none)/\(k∉(nmL ol).map θ->Aj (Lp θ ol++ol0) k=Aj ol0 k)
 | [],_,k=>⟨fun h=>by simp [nmL,exL] at h,fun _=>rfl⟩
 | (p,o) :: r,h,k=>by
  obtain ⟨i1,i2⟩:=Amb (ol:=r) (fun p e u xss hm=>h p e u xss (List.mem_cons_of_mem _ hm)) k;cases o with
  | pool e u xss =>
   obtain ⟨g1,g2⟩:=h p e u xss List.mem_cons_self
   have hnm:∀ x,x∈(nmL ((p,Ob.pool e u xss) :: r)).map θ↔(∃ j row,xss[j]? =some row/\x=kid (θ p) j)∨x∈(nmL r).map θ:=by
    intro x;simp only [nmL,exL,List.map_append,List.mem_append,List.map_map];constructor
    ·rintro (hx|hx)
     ·obtain ⟨⟨row,j⟩,hz,rfl⟩:=List.mem_map.1 hx;rw [List.mem_zipIdx_iff_getElem?] at hz;exact .inl ⟨j,row,hz,g1 j⟩
     ·exact .inr hx
    ·rintro (⟨j,row,hj,rfl⟩|hx)
     ·exact .inl (List.mem_map.2 ⟨(row,j),by rw [List.mem_zipIdx_iff_getElem?];exact hj,g1 j⟩)
     ·exact .inr hx
   have e1:Aj (Lp θ ((p,Ob.pool e u xss) :: r)++ol0) k=if k.1.1=(θ p).1.1/\k.2=(θ p).2/\k.1.2≠0 then none else Aj (Lp θ r++ol0) k:=Ly k
   rw [e1,hnm];rcases Agd k (θ p) with ⟨j,rfl⟩|h2
   ·rw [if_pos ⟨rfl,rfl,by simp [kid]⟩];refine ⟨fun _=>rfl,fun hn=>?_⟩;rw [Xb g2];cases hj:xss[j]? with
    | none=>rfl
    | some row=>exact absurd (.inl ⟨j,row,hj,rfl⟩) hn
   ·rw [if_neg (Alo h2)];exact ⟨fun hx=>i1 (hx.resolve_left fun ⟨j,row,_,e⟩=>h2 j e),fun hn=>i2 fun hx=>hn (.inr hx)⟩
  | _ =>
   have e1:∀ o:Ob,o.isPool=false->Aj ((θ p,none) :: (Lp θ r++ol0)) k=if k=θ p then none else Aj (Lp θ r++ol0) k:=fun _ _=>Kj k
   simp only [Lp,List.map_cons,List.cons_append] at i1 i2 ⊢;rw [Kj];simp only [nmL,exL,List.map_cons,List.mem_cons] at i1 i2 ⊢;by_cases hk:k=θ p
   ·rw [if_pos hk];exact ⟨fun _=>rfl,fun hn=>absurd (.inl hk) hn⟩
   ·rw [if_neg hk];exact ⟨fun hx=>i1 (hx.resolve_left hk),fun hn=>i2 fun hx=>hn (.inr hx)⟩
theorem Ap4 {θ:Oid->Oid} {i p:Oid} (h:p.2=0->∀ k,θ (kid p k)=kid (θ p) k) (k:Nat):Bo θ i (kid p k)=kid (Bo θ i p) k:=by
 unfold Bo;have e:(kid p k).2=p.2:=rfl;rw [e];by_cases h0:p.2=0
 ·rw [if_pos h0,if_pos h0,h h0]
 ·rw [if_neg h0,if_neg h0];rfl
theorem Zx:∀ {l:List (Oid×Ob)} {a:Oid×Ob},a∈l->a.2.isPool=false->(a.1,a.2.exp)∈exL l
 | x :: r,a,h,hp=>by
  obtain ⟨x1,x2⟩:=x;rcases List.mem_cons.1 h with rfl|h
  ·cases x2 <;> first|(simp only [exL,Ob.exp];exact List.mem_cons_self)|cases hp
  ·have:=Zx h hp;cases x2 <;> simp only [exL] <;> first|exact List.mem_cons_of_mem _ this|exact List.mem_append_right _ this
theorem Uw (ν:Oid->Oid):∀ l:List (Oid×Ob),B7 (Oz ν l)=(B7 l).map ν
 | []=>rfl
 | (x1,x2) :: r=>by
  have ih:=Uw ν r;cases x2 <;> simp_all [B7,Oz,Ob.ren,Ob.isPool]
theorem Oa (ν:Oid->Oid):∀ l:List (Oid×Ob),Ca (Oz ν l)=(Ca l).map ν
 | []=>rfl
 | (x1,x2) :: r=>by
  have ih:=Oa ν r;cases x2 <;> simp_all [Ca,Oz,Ob.ren,Ob.isPool]
theorem Aow {l:List (Oid×Ob)} {i:Oid} (hi:i∈B7 l):∃ o,(i,o)∈l/\o.isPool=false:=by
 obtain ⟨q,hq,rfl⟩:=List.mem_map.1 hi;obtain ⟨h1,h2⟩:=List.mem_filter.1 hq;exact ⟨q.2,h1,by simpa using h2⟩
theorem Avq {l:List (Oid×Ob)} {i:Oid} (hi:i∈Ca l):∃ e u xss,(i,Ob.pool e u xss)∈l:=by
 obtain ⟨⟨j,o⟩,hq,e0⟩:=List.mem_map.1 hi;obtain rfl:j=i:=e0;obtain ⟨h1,h2⟩:=List.mem_filter.1 hq;cases o <;> first|exact ⟨_,_,_,h1⟩|cases h2
theorem Aud {θ:Oid->Oid} {i:Oid} {ol us:List (Oid×Ob)} {ob:Oid->Option Ob} (hnd:(nmL us).Nodup) (hinj:∀ j∈nmL us,∀ k∈nmL us,Bo θ i j=Bo θ i k->j=k) :
  (∀ j q,(j,q)∈exL us->Aw (Hq θ i ol us) ob (Bo θ i j)=some (q.ren (Bo θ i)))/\∀ k,(∀ j∈nmL us,Bo θ i j≠k)->Aw (Hq θ i ol us) ob k=if k∈(nmL ol).map θ then none else ob k:=by
 have hnm:∀ {l:List (Oid×Ob)} {q},q∈exL l->q.1∈nmL l:=fun hq=>List.mem_map.2 ⟨_,hq,rfl⟩
 refine ⟨fun j q hq=>?_,fun k hk=>?_⟩
 ·have hkeys:(((exL us).map fun q=>(Bo θ i q.1,some (q.2.ren (Bo θ i)))).map (·.1)).Nodup:=by
   rw [List.map_map]
   have:((exL us).map ((·.1)∘fun q:Oid×Ob=>(Bo θ i q.1,some (q.2.ren (Bo θ i)))))=(nmL us).map (Bo θ i):=by
    unfold nmL;rw [List.map_map];rfl
   rw [this];exact Aae hnd hinj
  have:=Oi (fun u:Oid×Option Ob=>u.2) (fun u=>u.1) ((exL us).map fun q=>(Bo θ i q.1,some (q.2.ren (Bo θ i)))) (Aw ((exL ol).map fun q=>(θ q.1,none)) ob) (Bo θ i j,some (q.ren (Bo θ i))) hkeys (List.mem_map.2 ⟨(j,q),hq,rfl⟩);unfold Aw Hq;rw [List.foldl_append];exact this
 ·have e1:Aw (Hq θ i ol us) ob k=Aw ((exL ol).map fun q=>(θ q.1,none)) ob k:=by
   have:=Dt (us:=(exL us).map fun q=>(Bo θ i q.1,some (q.2.ren (Bo θ i)))) (ob:=Aw ((exL ol).map fun q=>(θ q.1,none)) ob) (j:=k) fun u hu=>by
    obtain ⟨q,hq,rfl⟩:=List.mem_map.1 hu;exact hk q.1 (hnm hq)
   rw [← this];unfold Aw Hq;rw [List.foldl_append]
  rw [e1];split
  ·rename_i hk';obtain ⟨j,hj,rfl⟩:=List.mem_map.1 hk';obtain ⟨q,hq,rfl⟩:=List.mem_map.1 hj;exact (O3 ((exL ol).map fun q=>(θ q.1,none)) ob (fun u hu=>by obtain ⟨_,_,rfl⟩:=List.mem_map.1 hu;rfl)).2 (θ q.1,none) (List.mem_map.2 ⟨q,hq,rfl⟩)
  ·rename_i hk';exact Dt fun u hu e=>hk' (by obtain ⟨q,hq,rfl⟩:=List.mem_map.1 hu;exact List.mem_map.2 ⟨q.1,hnm hq,e⟩)
theorem Auu {us:List (Oid×Ob)} (nN:(B7 us).Nodup) (nP:(Ca us).Nodup) (h0:∀ q∈us,q.1.1.2=0):(nmL us).Nodup:=by
 induction us with
 | nil=>exact List.nodup_nil
 | cons x r ih =>
  obtain ⟨p,o⟩:=x;have h0':∀ q∈r,q.1.1.2=0:=fun q hq=>h0 q (List.mem_cons_of_mem _ hq)
  have hp0:p.1.2=0:=h0 (p,o) List.mem_cons_self;cases o with
  | pool e u xss =>
   have nP':(p :: Ca r).Nodup:=nP;obtain ⟨n1,n2⟩:=List.nodup_cons.1 nP';have ihr:=ih nN n2 h0';unfold nmL at ihr ⊢;simp only [exL,List.map_append,List.map_map];refine List.nodup_append.2 ⟨?_,ihr,fun a ha b hb e'=>?_⟩
   ·have:(xss.zipIdx.map ((fun x=>x.1)∘fun x:List u.D×Nat=>(kid p x.2,Ob.arr e u x.1)))=(xss.zipIdx.map (·.2)).map (kid p):=by
     rw [List.map_map];rfl
    rw [this,List.zipIdx_map_snd];exact List.pairwise_map.2 ((List.pairwise_lt_range' (s:=0) (n:=xss.length)).imp fun h e=>by have:=Fm e;omega)
   ·subst e';obtain ⟨x,_,rfl⟩:=List.mem_map.1 ha;obtain ⟨q,hq,e'⟩:=List.mem_map.1 hb;have e':q.1=kid p x.2:=e';rcases H7 hq with ⟨p',e1,u',xss',k',row,m1,m2,rfl⟩|⟨o,m1,m2,m3⟩
    ·have e':kid p' k'=kid p x.2:=e';have hp1:p'.1.2=0:=h0' _ m1;have hb:p'=p:=by rw [← D4 hp1 k',e',D4 hp0]
     subst hb;exact n1 (Qi m1 rfl)
    ·have:=h0' _ m1;simp only [e'] at this;simp [kid] at this
  | _ =>
   have nN':(p :: B7 r).Nodup:=nN;obtain ⟨n1,n2⟩:=List.nodup_cons.1 nN';have ihr:=ih n2 nP h0';unfold nmL at ihr ⊢;simp only [exL,List.map_cons];refine List.nodup_cons.2 ⟨fun hm=>?_,ihr⟩;obtain ⟨q,hq,e'⟩:=List.mem_map.1 hm;rcases H7 hq with ⟨p',e1,u',xss',k',row,m1,m2,rfl⟩|⟨o,m1,m2,m3⟩
   ·rw [← e'] at hp0;simp [kid] at hp0
   ·exact n1 (by rw [← e'];exact Abv (q:=(q.1,o)) m1 m2)
def Aj2 (ol us:List (Oid×Ob)):Bool:=(ndB (B7 us)&&ndB (Ca us))&&((us.all fun q=>q.1.2==1||(q.1.2==0&&((B7 ol).contains q.1&& !q.2.isPool)))&&Hf us)
theorem Ae1 {ol us:List (Oid×Ob)} (h:Aj2 ol us=true):∀ q∈exL us,q.1.2=1∨(q.1.2=0/\q.1∈nmL ol):=by
 simp only [Aj2,Bool.and_eq_true] at h;obtain ⟨_,hug,_⟩:=h;rw [List.all_eq_true] at hug;intro q hq;rcases H7 hq with ⟨p,e,u,xss,k,row,m1,m2,rfl⟩|⟨o,m1,m2,m3⟩
 ·have:=hug _ m1;simp only [Ob.isPool,Bool.not_true,Bool.and_false,Bool.or_false,beq_iff_eq] at this;exact .inl this
 ·have:=hug _ m1;simp only [Bool.or_eq_true,Bool.and_eq_true,beq_iff_eq] at this;rcases this with h|⟨h,h',_⟩
  ·exact .inl h
  ·refine .inr ⟨h,?_⟩;obtain ⟨o',ho,hp⟩:=Aow (List.contains_iff_mem.1 h');exact List.mem_map.2 ⟨_,Zx ho hp,rfl⟩
theorem Ary {l:List (Oid×Oid)} {i:Oid} {ol us:List (Oid×Ob)} {ol0:List (Oid×Option Ob)} (hl:Rw l=true) (h0:Hf ol=true) (hR:Wj ol0 (Bc l) ol) (hB:Aj2 ol us=true) (hfr:Od i.2 ol0=true) (hij:Ast (Bc l) ol=true) :
  Aw (Hq (Bc l) i ol us) (Aj ol0)=Aj (B8 (Oz (Bo (Bc l) i) us)++(Lp (Bc l) ol++ol0)):=by
 have hpool:∀ {l':List (Oid×Ob)},Hf l'=true->(∀ q∈l',q.1.1.2=0)/\∀ j e p u xss,(j,Ob.mat e p u xss)∈l'->p.1.2=0:=fun h=>by
  unfold Hf at h;rw [List.all_eq_true] at h;refine ⟨fun q hq=>?_,fun j e p u xss hq=>?_⟩
  ·have:=h q hq;simp only [Bool.and_eq_true,beq_iff_eq] at this;exact this.1
  ·have:=h _ hq;simp only [Bool.and_eq_true,beq_iff_eq] at this;exact this.2
 have husn:=Ae1 hB;simp only [Aj2,Bool.and_eq_true] at hB;obtain ⟨hnd,hug,hu0⟩:=hB;obtain ⟨b1,b2⟩:=hpool h0;obtain ⟨d1,d2⟩:=hpool hu0;have nN:=Gv hnd.1;have nP:=Gv hnd.2;rw [List.all_eq_true] at hug
 let θ:=Bc l
 let ν:=Bo θ i
 have hθk:∀ p e u xss,(p,Ob.pool e u xss)∈ol->∀ k,θ (kid p k)=kid (θ p) k:=fun p e u xss hm k=>Kr hl (b1 _ hm) k
 have hνk:∀ p,p.1.2=0->∀ k,ν (kid p k)=kid (ν p) k:=fun p hp k=>Ap4 (fun _ k=>Kr hl hp k) k
 have hget:=Agz hl hR (Ahj h0)
 have hold:∀ j∈nmL ol,∃ o,Aj ol0 (θ j)=some o:=fun j hj=>by
  obtain ⟨q,hq,rfl⟩:=List.mem_map.1 hj;exact ⟨_,hget q hq⟩
 have hgenθ:∀ j∈nmL ol,(θ j).2≠i.2:=fun j hj e=>by
  obtain ⟨o,ho⟩:=hold j hj;rw [Rc hfr _ e] at ho;cases ho
 have hex:=Alx (ν:=ν) (us:=us) (fun p e u xss hm=>hνk p (d1 _ hm)) (fun j e p u xss hm=>hνk p (d2 j e p u xss hm));have hθinj:=Arg hθk hij h0
 have hνcase:∀ j∈nmL us,(j.2=0/\j∈nmL ol/\ν j=θ j)∨(j.2=1/\ν j=((i.1.1*16+j.1.1,j.1.2),i.2)):=by
  intro j hj;obtain ⟨q,hq,rfl⟩:=List.mem_map.1 hj;rcases husn q hq with h|⟨h,h'⟩
  ·exact .inr ⟨h,by simp [ν,Bo,h]⟩
  ·exact .inl ⟨h,h',by simp [ν,Bo,h]⟩
 have hνinj:∀ j∈nmL us,∀ k∈nmL us,ν j=ν k->j=k:=by
  intro j hj k hk e;rcases hνcase j hj with ⟨a1,a2,a3⟩|⟨a1,a3⟩ <;> rcases hνcase k hk with ⟨b1,b2,b3⟩|⟨b1,b3⟩
  ·rw [a3,b3] at e;obtain ⟨r,hr,er⟩:=List.mem_map.1 a2;obtain ⟨r',hr',er'⟩:=List.mem_map.1 b2;have:=hθinj r hr r' hr' (by rw [er,er'];exact e);rw [← er,← er',this]
  ·have:=hgenθ _ a2;rw [← a3,e,b3] at this;exact absurd rfl this
  ·have:=hgenθ _ b2;rw [← b3,← e,a3] at this;exact absurd rfl this
  ·rw [a3,b3] at e;obtain ⟨⟨x1,x2⟩,x3⟩:=j;obtain ⟨⟨y1,y2⟩,y3⟩:=k;simp only [Prod.mk.injEq] at *;omega
 have hNm:∀ z∈B7 us,z∈nmL us:=fun z hz=>by
  obtain ⟨o,ho,hp⟩:=Aow hz;exact List.mem_map.2 ⟨_,Zx ho hp,rfl⟩
 have hpg:∀ p∈Ca us,p.2=1/\ν p=((i.1.1*16+p.1.1,p.1.2),i.2):=by
  intro p hp;obtain ⟨e,u,xss,hm⟩:=Avq hp;have:=hug _ hm;simp only [Ob.isPool,Bool.not_true,Bool.and_false,Bool.or_false,beq_iff_eq] at this;exact ⟨this,by simp [ν,Bo,this]⟩
 have hP0:∀ p∈Ca us,p.1.2=0:=fun p hp=>by
  obtain ⟨e,u,xss,hm⟩:=Avq hp;exact d1 _ hm
 have hndN:(B7 (Oz ν us)).Nodup:=by
  rw [Uw];exact Aae nN fun x hx y hy e=>hνinj x (hNm x hx) y (hNm y hy) e
 have hndP:(Ca (Oz ν us)).Nodup:=by
  rw [Oa];refine Aae nP fun x hx y hy e=>?_
  obtain ⟨g1,e1⟩:=hpg _ hx;obtain ⟨g2,e2⟩:=hpg _ hy;rw [e1,e2] at e;obtain ⟨⟨x1,x2⟩,x3⟩:=x;obtain ⟨⟨y1,y2⟩,y3⟩:=y;simp only [Prod.mk.injEq] at *;omega
 have hfound:=Q4 (rest:=Lp θ ol++ol0) hndN hndP (fun p hp=>by
  rw [Oa] at hp;obtain ⟨p0,hp0,rfl⟩:=List.mem_map.1 hp;rw [(hpg p0 hp0).2];exact hP0 p0 hp0) (fun z hz p hp k e=>by
  rw [Uw] at hz;rw [Oa] at hp;obtain ⟨z0,hz0,rfl⟩:=List.mem_map.1 hz;obtain ⟨p0,hp0,rfl⟩:=List.mem_map.1 hp;rw [(hpg p0 hp0).2] at e;rcases hνcase z0 (hNm z0 hz0) with ⟨a1,a2,a3⟩|⟨a1,a3⟩
  ·have:=hgenθ _ a2;rw [← a3,e] at this;exact this rfl
  ·rw [a3] at e
   have:z0.1.2=0:=by
    obtain ⟨o,ho,_⟩:=Aow hz0;exact d1 _ ho
   have h9:=congrArg (fun i:Oid=>i.1.2) e;simp only [kid] at h9;omega)
 have hkill:=Amb (θ:=θ) (ol0:=ol0) (ol:=ol) (fun p e u xss hm=>⟨hθk p e u xss hm,by
  have:=Va hR _ hm
  simpa only [An4,Ob.isPool,if_true,Ob.ren] using this⟩)
 obtain ⟨u1,u2⟩:=Aud (ob:=Aj ol0) (ol:=ol) (Auu nN nP d1) hνinj;funext k;by_cases hex':∃ j∈nmL us,ν j=k
 ·obtain ⟨j,hj,rfl⟩:=hex';obtain ⟨q,hq,rfl⟩:=List.mem_map.1 hj;rw [u1 q.1 q.2 hq];exact (hfound (ν q.1,q.2.ren ν) (by rw [hex];exact List.mem_map.2 ⟨q,hq,rfl⟩)).symm
 ·have hno:∀ j∈nmL us,ν j≠k:=fun j hj e=>hex' ⟨j,hj,e⟩
  rw [u2 k hno]
  have hno':∀ q∈exL (Oz ν us),q.1≠k:=fun q hq e=>by
   rw [hex] at hq;obtain ⟨q0,hq0,rfl⟩:=List.mem_map.1 hq;exact hno q0.1 (List.mem_map.2 ⟨q0,hq0,rfl⟩) e
  have hrest:Aj (Lp θ ol++ol0) k=if k∈(nmL ol).map θ then none else Aj ol0 k:=by
   split
   ·rename_i h;exact (hkill k).1 h
   ·rename_i h;exact (hkill k).2 h
  rcases Aef (rest:=Lp θ ol++ol0) hno' with h|⟨h,p,e,u,xss,hm,hk⟩
  ·rw [← hrest];exact h.symm
  ·have hp:p∈Ca (Oz ν us):=Qi hm rfl;rw [Oa] at hp;obtain ⟨p0,hp0,rfl⟩:=List.mem_map.1 hp;have hk2:k.2=i.2:=by rw [hk,(hpg p0 hp0).2]
   have h1:Aj (B8 (Oz (Bo (Bc l) i) us)++(Lp (Bc l) ol++ol0)) k=none:=h;rw [h1];split
   ·rfl
   ·exact Rc hfr k hk2
end
section
open Go.RowKit Go.Deep
section
variable {P:Program} {G:World->Prop}
theorem Ab {x y:AC} {R:AE->St->Prop} {S:St} (h:awp P G x (Hx (fun S'=>∃ S'',WeakG G S' S''/\awp P G y R S'') R) S):awp P G (.seq x y) R S:=h
theorem Aev {x y:AC} {R:AE->St->Prop} {S:St} (K:St->Prop) (h:awp P G x (Hx (fun S'=>∃ S'',WeakG G S' S''/\K S'') R) S) (k:∀ S'',K S''->awp P G y R S''):awp P G (.seq x y) R S:=by
 unfold awp
 exact Dg (fun e S hq=>by
  cases e with
  | normal=>obtain ⟨S'',hw,hk⟩:=hq;exact ⟨S'',hw,k S'' hk⟩
  | exit id=>exact hq
  | ret=>exact hq) h
def Atl (rs:List Rec) (ds:List (List Oid)):List (Nat×Nat)->Bool
 | []=>true
 | p :: ps=>(let ri:=rs.getD p.2 (0,.any,[]);let rj:=rs.getD p.1 (0,.any,[]);let di:=ds.getD p.2 [];let dj:=ds.getD p.1 []
   ((!(ri.1==2)||rj.1==0)&&(!(rj.1==2)||ri.1==0))||((!(ri.1==2)||ri.2.2.all fun u=> !dj.contains u.1)&&((!(rj.1==2)||rj.2.2.all fun u=> !di.contains u.1)&&ri.2.2.all fun u=>rj.2.2.all fun v=> !(u.1==v.1))))&&Atl rs ds ps
theorem As {rs:List Rec} {ds:List (List Oid)}:∀ {bad:List (Nat×Nat)},Atl rs ds bad=true->Akt rs ds bad
 | [],_=>trivial
 | p :: ps,h=>by
  simp only [Atl,Bool.and_eq_true] at h;refine ⟨?_,As h.2⟩;have h1:=h.1;simp only [Bool.or_eq_true,Bool.and_eq_true,Bool.not_eq_true',beq_eq_false_iff_ne,beq_iff_eq,List.all_eq_true,List.contains_eq_mem,decide_eq_false_iff_not] at h1;unfold P5;rcases h1 with ⟨a,b⟩|⟨a,b,c⟩
  ·refine .inl ⟨fun e=>?_,fun e=>?_⟩
   ·rcases a with a|a
    ·exact absurd e a
    ·exact a
   ·rcases b with b|b
    ·exact absurd e b
    ·exact b
  ·refine .inr ⟨fun e=>?_,fun e=>?_,c⟩
   ·rcases a with a|a
    ·exact absurd e a
    ·exact a
   ·rcases b with b|b
    ·exact absurd e b
    ·exact b
def XW (P:Program) (G:World->Prop) (g k:Nat) (xs:List X) (tl:List (Nat×AV)) (ol:List (Oid×Option Ob)) (Kf:List (Nat×AV)->List (Oid×Option Ob)->Prop):Prop :=
 ∃ rs tl' ol',Auj P G g k xs (Am tl) (Aj ol) rs (Am tl') (Aj ol')/\Kf tl' ol'
def XD (P:Program) (G:World->Prop) (bad:List (Nat×Nat)) (g k:Nat) (xs:List X) (tl:List (Nat×AV)) (ol:List (Oid×Option Ob)) (ra:List Rec) (da:List (List Oid)) (Kf:List (Nat×AV)->List (Oid×Option Ob)->Prop):Prop :=
 ∃ rs ds tl' ol',An5 P G g k xs (Am tl) (Aj ol) rs ds (Am tl') (Aj ol')/\Akt (ra.reverse++rs) (da.reverse++ds) bad/\Kf tl' ol'
theorem Aa {xs:List X} {bad:List (Nat×Nat)} {R:AE->St->Prop} {tl:List (Nat×AV)} {ol:List (Oid×Option Ob)} {g:Nat} (g':Nat) (h:XW P G g 0 xs tl ol fun tl' ol'=>R .normal ⟨Am tl',Aj ol',g'⟩) (hn:g+xs.length=g':=by kernel_rfl):awp P G (.region xs false bad) R ⟨Am tl,Aj ol,g⟩:=by
 obtain ⟨rs,tl',ol',h,hr⟩:=h;exact ⟨rs,_,_,h,by subst hn;exact hr⟩
theorem Ad2 {tl:List (Nat×AV)} {d:Nat} {v:AV} (h:Am tl d=v):Am ((d,v) :: tl)=Am tl:=by
 funext i;show (if i=d then v else Am tl i)=Am tl i;split
 ·rename_i e;rw [e,h]
 ·rfl
theorem rq {xs:List X} {tl:List (Nat×AV)} {ol:List (Oid×Option Ob)} {g k:Nat} {Kf:List (Nat×AV)->List (Oid×Option Ob)->Prop} (d:Nat) {b c:Bool} (q:b=c) (h:XW P G g k xs ((d,.bool c) :: tl) ol Kf) (hd:Am tl d=.bool b:=by kernel_rfl):XW P G g k xs tl ol Kf:=by
 subst q;unfold XW at *
 rwa [Ad2 hd] at h
theorem dq {xs:List X} {bad:List (Nat×Nat)} {tl:List (Nat×AV)} {ol:List (Oid×Option Ob)} {g k:Nat} {ra:List Rec} {da:List (List Oid)} {Kf:List (Nat×AV)->List (Oid×Option Ob)->Prop} (d:Nat) {b c:Bool} (q:b=c) (h:XD P G bad g k xs ((d,.bool c) :: tl) ol ra da Kf) (hd:Am tl d=.bool b:=by kernel_rfl):XD P G bad g k xs tl ol ra da Kf:=by
 subst q;unfold XD at *
 rwa [Ad2 hd] at h
theorem An {xs:List X} {bad:List (Nat×Nat)} {R:AE->St->Prop} {tl:List (Nat×AV)} {ol:List (Oid×Option Ob)} {g:Nat} (g':Nat) (h:XD P G bad g 0 xs tl ol [] [] fun tl' ol'=>R .normal ⟨Am tl',Aj ol',g'⟩) (hn:g+xs.length=g':=by kernel_rfl):awp P G (.region xs true bad) R ⟨Am tl,Aj ol,g⟩:=by
 obtain ⟨rs,ds,tl',ol',h,hb,hr⟩:=h;exact ⟨rs,ds,_,_,h,hb,by subst hn;exact hr⟩
theorem Qh (tl:List (Nat×AV)) (d:Nat) (v:AV):upd (Am tl) d v=Am ((d,v) :: tl):=by
 funext i;rfl
def L3:Option Ob->Bool
 | some (.pool ..)=>false
 | some (.mat ..)=>false
 | some (.tv ..)=>false
 | _=>true
def Ef (us:List (Oid×Option Ob)):Bool:=us.all fun u=>L3 u.2
theorem H3 {ol:List (Oid×Option Ob)} {j:Oid} {o:Option Ob} (h:L3 o=true):upd (Aj ol) j o=Aj ((j,o) :: ol):=by
 cases o with
 | none=>funext i;rfl
 | some o=>cases o <;> first|(funext i;rfl)|cases h
theorem Kl:∀ (us ol:List (Oid×Option Ob)),Ef us=true->Aw us (Aj ol)=Aj (us.reverseAux ol)
 | [],_,_=>rfl
 | (j,o) :: us,ol,h=>by
  simp only [Ef,List.all_cons,Bool.and_eq_true] at h;show Aw us (upd (Aj ol) j o)=_;rw [H3 h.1];exact Kl us _ h.2
theorem Gp {p:Bool} {n:Nat} {x:X} {f:Nat->AV} {ob:Oid->Option Ob} {r:Rec} (h:A9 n x f ob=some r):Fd P G p n x f ob r:=by
 unfold A9 at h;unfold Fd;split at h
 ·exact .inl (.inl (.inl h))
 ·split at h
  ·rename_i hc;exact ⟨true,hc,by rw [if_pos rfl];exact .inl (.inl (.inl h))⟩
  ·rename_i hc;exact ⟨false,hc,by rw [if_neg (by simp)];exact (osj h).symm⟩
  ·cases h
def S7 (gd:Option (Nat×Bool)) (f:Nat->AV):Prop :=
 match gd with
 | none=>True
 | some (s,c)=>f s=.bool c
theorem Adf {s:Nat} {b:Bool} {f:Nat->AV} (h:S7 (some (s,b)) f):gdv (f s) b=some true:=by
 rw [show f s=.bool b from h];simp [gdv]
theorem Aqu {s:Nat} {b:Bool} {f:Nat->AV} (h:f s=.bool b):S7 (some (s,b)) f:=h
theorem Amo {p:Bool} {n:Nat} {d:Option Nat} {gd:Option (Nat×Bool)} {fo:Opd} {xs:List Opd} {tys:List (List (Option Ty))} {f:Nat->AV} {ob:Oid->Option Ob} {F:FuncId} {caps args0 args:List AV} {rv:RV} {r:AV×List (Oid×Option Ob)}
  (hgd:S7 gd f) {F0:FuncId} (hfo:fo.ev f=.fn F0 caps) (hF:Q0 F0=F) (h1:Nx (gnd ob 8) ((Dx F0 xs (caps.map Opd.cst)).map (Opd.ev f))=some args0) (hn:Qd tys args0=args) (hb:Da P F=true) (hc:Dr P G F args rv) (hni:rv.noI=true) (hr:rv.out (Cf ((d.getD 0,0),n)) ((Dx F0 xs (caps.map Opd.cst)).map (Opd.ev f))=r) :
  Fd P G p n ⟨d,gd,.call fo xs tys⟩ f ob (1,r.1,r.2):=by
 subst hn hF;have key:EvR P G p f ob ((d.getD 0,0),n) (.call fo xs tys) (1,r.1,r.2):=.inr ⟨fo,xs,tys,F0,caps,rfl,hfo,.inl ⟨rfl,hb,args0,rv,.inl ⟨h1,hni⟩,hc,hr⟩⟩;unfold Fd;cases gd with
 | none=>exact key
 | some sb=>exact ⟨true,Adf hgd,by rw [if_pos rfl];exact key⟩
theorem Alp {n:Nat} {d:Option Nat} {gd:Option (Nat×Bool)} {fo:Opd} {xs:List Opd} {tys:List (List (Option Ty))} {f:Nat->AV} {ob:Oid->Option Ob} {F:FuncId} {caps zs args:List AV} {v:AV} {ol us:List (Oid×Ob)} (θ:Oid->Oid)
  (hgd:S7 gd f) (hfo:fo.ev f=.fn F caps) (hF:F<mtd) (hz:(xs++caps.map Opd.cst).map (Opd.ev f)=zs) (h1:Qe θ (V9 ((nmL ol).map θ) ob) zs args) (h2:∀ q∈exL ol,ob (θ q.1)=some (q.2.ren θ)) (h3:∀ q∈exL ol,∀ q'∈exL ol,θ q.1=θ q'.1->q.1=q'.1) (h4:∀ j∈nmL ol,Reached zs ob (θ j))
  (h5:∀ q∈exL us,q.1.2=1∨(q.1.2=0/\q.1∈nmL ol)) (hb:Da P F=true) (hc:Cm P G F args ol v us) :
  Fd P G false n ⟨d,gd,.call fo xs tys⟩ f ob (2,v.ren (Bo θ ((d.getD 0,0),n)),Hq θ ((d.getD 0,0),n) ol us):=by
 have hN:Aml P G f ob ((d.getD 0,0),n) (Q0 F) (Dx F xs (caps.map Opd.cst)) (v.ren (Bo θ ((d.getD 0,0),n)),Hq θ ((d.getD 0,0),n) ol us):=by
  rw [← hz] at h1 h4;unfold Q0 Dx;rw [if_pos hF,if_pos hF];refine .inl ⟨hb,θ,args,ol,us,v,h1,h2,fun j k hj hk e=>?_,h4,hc,fun j hj=>?_,rfl⟩
  ·obtain ⟨q,hq,rfl⟩:=List.mem_map.1 hj;obtain ⟨q',hq',rfl⟩:=List.mem_map.1 hk;exact h3 q hq q' hq' e
  ·obtain ⟨q,hq,rfl⟩:=List.mem_map.1 hj;rcases h5 q hq with h|⟨_,h⟩
   ·exact .inl (by rw [h];decide)
   ·exact .inr h
 have key:EvR P G false f ob ((d.getD 0,0),n) (.call fo xs tys) (2,v.ren (Bo θ ((d.getD 0,0),n)),Hq θ ((d.getD 0,0),n) ol us):=.inr ⟨fo,xs,tys,F,caps,rfl,hfo,.inr ⟨rfl,rfl,hN⟩⟩;unfold Fd;cases gd with
 | none=>exact key
 | some sb=>exact ⟨true,Adf hgd,by rw [if_pos rfl];exact key⟩
theorem Auw {n:Nat} {d:Option Nat} {gd:Option (Nat×Bool)} {q:Q} {f:Nat->AV} {ob:Oid->Option Ob} {r:Rec} (hgd:S7 gd f) (h:evL f ((d.getD 0,0),n) q=some r):Fd P G false n ⟨d,gd,q⟩ f ob r:=by
 have key:EvR P G false f ob ((d.getD 0,0),n) q r:=.inl (.inl (.inr h));unfold Fd;cases gd with
 | none=>exact key
 | some sb=>exact ⟨true,Adf hgd,by rw [if_pos rfl];exact key⟩
theorem Att {n:Nat} {d:Option Nat} {gd:Option (Nat×Bool)} {q:Q} {f:Nat->AV} {ob:Oid->Option Ob} {r:Rec} (hgd:S7 gd f) (h:Ahu f ((d.getD 0,0),n) q r):Fd P G false n ⟨d,gd,q⟩ f ob r:=by
 have key:EvR P G false f ob ((d.getD 0,0),n) q r:=.inl (.inr h);unfold Fd;cases gd with
 | none=>exact key
 | some sb=>exact ⟨true,Adf hgd,by rw [if_pos rfl];exact key⟩
theorem Ap {g k:Nat} {tl:List (Nat×AV)} {ol:List (Oid×Option Ob)} {Kf:List (Nat×AV)->List (Oid×Option Ob)->Prop} (h:Kf tl ol):XW P G g k [] tl ol Kf:=⟨[],tl,ol,⟨rfl,rfl,rfl⟩,h⟩
theorem Ct {bad:List (Nat×Nat)} {g k:Nat} {tl:List (Nat×AV)} {ol:List (Oid×Option Ob)} {ra:List Rec} {da:List (List Oid)} {Kf:List (Nat×AV)->List (Oid×Option Ob)->Prop} (hb:Akt (ra.reverse++[]) (da.reverse++[]) bad) (h:Kf tl ol):XD P G bad g k [] tl ol ra da Kf:=⟨[],[],tl,ol,⟨rfl,rfl,rfl,rfl⟩,hb,h⟩
section
variable {g k d:Nat} {gd:Option (Nat×Bool)} {q:Q} {xs:List X} {tl:List (Nat×AV)} {ol:List (Oid×Option Ob)} {bad:List (Nat×Nat)} {ra:List Rec} {da:List (List Oid)} {Kf:List (Nat×AV)->List (Oid×Option Ob)->Prop}
theorem Agc (c:Nat) (v:AV) (us ol':List (Oid×Option Ob)) (h:Fd P G false (g+k) ⟨some d,gd,q⟩ (Am tl) (Aj ol) (c,v,us)) (he:Aw us (Aj ol)=Aj ol') (h3:XW P G g (k+1) xs ((d,v) :: tl) ol' Kf):XW P G g k (⟨some d,gd,q⟩ :: xs) tl ol Kf :=
 by
 obtain ⟨rs,tl',ol',h3,hk⟩:=h3;exact ⟨_,tl',ol',⟨_,_,rfl,h,by simp only [Oq,Qh,he];exact h3⟩,hk⟩
theorem As2 (c:Nat) (v:AV) (us ol':List (Oid×Option Ob)) (h:Fd P G false (g+k) ⟨none,gd,q⟩ (Am tl) (Aj ol) (c,v,us)) (he:Aw us (Aj ol)=Aj ol') (h3:XW P G g (k+1) xs tl ol' Kf):XW P G g k (⟨none,gd,q⟩ :: xs) tl ol Kf :=
 by
 obtain ⟨rs,tl',ol',h3,hk⟩:=h3;exact ⟨_,tl',ol',⟨_,_,rfl,h,by simp only [Oq,he];exact h3⟩,hk⟩
theorem Akk (c:Nat) (v:AV) (us ol':List (Oid×Option Ob)) (h:Fd P G false (g+k) ⟨some d,gd,q⟩ (Am tl) (only (rdX (Am tl) (Aj ol) ⟨some d,gd,q⟩) (Aj ol)) (c,v,us)) (he:Aw us (Aj ol)=Aj ol') (h3:XD P G bad g (k+1) xs ((d,v) :: tl) ol' ((c,v,us) :: ra) ((rdX (Am tl) (Aj ol) ⟨some d,gd,q⟩) :: da) Kf):XD P G bad g k (⟨some d,gd,q⟩ :: xs) tl ol ra da Kf :=
 by
 obtain ⟨rs,ds,tl',ol',h3,hb,hk⟩:=h3;refine ⟨_,_,tl',ol',⟨_,rs,ds,rfl,rfl,h,by simp only [Oq,Qh,he];exact h3⟩,?_,hk⟩
 simpa using hb
theorem As6 (c:Nat) (v:AV) (us ol':List (Oid×Option Ob)) (h:Fd P G false (g+k) ⟨none,gd,q⟩ (Am tl) (only (rdX (Am tl) (Aj ol) ⟨none,gd,q⟩) (Aj ol)) (c,v,us)) (he:Aw us (Aj ol)=Aj ol') (h3:XD P G bad g (k+1) xs tl ol' ((c,v,us) :: ra) ((rdX (Am tl) (Aj ol) ⟨none,gd,q⟩) :: da) Kf):XD P G bad g k (⟨none,gd,q⟩ :: xs) tl ol ra da Kf :=
 by
 obtain ⟨rs,ds,tl',ol',h3,hb,hk⟩:=h3;refine ⟨_,_,tl',ol',⟨_,rs,ds,rfl,rfl,h,by simp only [Oq,he];exact h3⟩,?_,hk⟩
 simpa using hb
theorem Abk (c:Nat) (v:AV) (us:List (Oid×Option Ob)) (h:Fd P G false (g+k) ⟨some d,gd,q⟩ (Am tl) (Aj ol) (c,v,us)) (h3:XW P G g (k+1) xs ((d,v) :: tl) (us.reverseAux ol) Kf) (hx:Ef us=true):XW P G g k (⟨some d,gd,q⟩ :: xs) tl ol Kf:=Agc c v us _ h (Kl us ol hx) h3
theorem Awe (c:Nat) (v:AV) (us:List (Oid×Option Ob)) (h:Fd P G false (g+k) ⟨none,gd,q⟩ (Am tl) (Aj ol) (c,v,us)) (h3:XW P G g (k+1) xs tl (us.reverseAux ol) Kf) (hx:Ef us=true):XW P G g k (⟨none,gd,q⟩ :: xs) tl ol Kf:=As2 c v us _ h (Kl us ol hx) h3
theorem Acb (c:Nat) (v:AV) (us:List (Oid×Option Ob)) (h:Fd P G false (g+k) ⟨some d,gd,q⟩ (Am tl) (only (rdX (Am tl) (Aj ol) ⟨some d,gd,q⟩) (Aj ol)) (c,v,us)) (h3:XD P G bad g (k+1) xs ((d,v) :: tl) (us.reverseAux ol) ((c,v,us) :: ra) ((rdX (Am tl) (Aj ol) ⟨some d,gd,q⟩) :: da) Kf) (hx:Ef us=true):XD P G bad g k (⟨some d,gd,q⟩ :: xs) tl ol ra da Kf:=Akk c v us _ h (Kl us ol hx) h3
theorem Avl (c:Nat) (v:AV) (us:List (Oid×Option Ob)) (h:Fd P G false (g+k) ⟨none,gd,q⟩ (Am tl) (only (rdX (Am tl) (Aj ol) ⟨none,gd,q⟩) (Aj ol)) (c,v,us)) (h3:XD P G bad g (k+1) xs tl (us.reverseAux ol) ((c,v,us) :: ra) ((rdX (Am tl) (Aj ol) ⟨none,gd,q⟩) :: da) Kf) (hx:Ef us=true):XD P G bad g k (⟨none,gd,q⟩ :: xs) tl ol ra da Kf:=As6 c v us _ h (Kl us ol hx) h3
theorem Axh {ol':List (Oid×Option Ob)} (he:Aj ol=Aj ol') (h:XW P G g k xs tl ol' Kf):XW P G g k xs tl ol Kf:=by
 obtain ⟨rs,tl',ol2,h1,h2⟩:=h;exact ⟨rs,tl',ol2,by rw [he];exact h1,h2⟩
theorem Aly {ol':List (Oid×Option Ob)} (he:Aj ol=Aj ol') (h:XD P G bad g k xs tl ol' ra da Kf):XD P G bad g k xs tl ol ra da Kf:=by
 obtain ⟨rs,ds,tl',ol2,h1,h2⟩:=h;exact ⟨rs,ds,tl',ol2,by rw [he];exact h1,h2⟩
-- the shape of most steps: what the machine says is found by reckoning
theorem rs0 (v:AV) (h:A9 (g+k) ⟨some d,gd,q⟩ (Am tl) (Aj ol)=some (0,v,[])) (h3:XW P G g (k+1) xs ((d,v) :: tl) ol Kf):XW P G g k (⟨some d,gd,q⟩ :: xs) tl ol Kf:=Abk 0 v [] (Gp h) h3 rfl
theorem rsl (v:AV) (h:A9 (g+k) ⟨some d,gd,q⟩ (Am tl) (Aj ol)=some (1,v,[])) (h3:XW P G g (k+1) xs ((d,v) :: tl) ol Kf):XW P G g k (⟨some d,gd,q⟩ :: xs) tl ol Kf:=Abk 1 v [] (Gp h) h3 rfl
theorem rs1 (v:AV) (i:Oid) (o:Ob) (h:A9 (g+k) ⟨some d,gd,q⟩ (Am tl) (Aj ol)=some (1,v,[(i,some o)])) (h3:XW P G g (k+1) xs ((d,v) :: tl) ((i,some o) :: ol) Kf) (hx:L3 (some o)=true:=by rfl):XW P G g k (⟨some d,gd,q⟩ :: xs) tl ol Kf:=Abk 1 v _ (Gp h) h3 (by simp only [Ef,List.all_cons,List.all_nil,hx];rfl)
theorem rs2 (v:AV) (j i:Oid) (o:Ob) (h:A9 (g+k) ⟨some d,gd,q⟩ (Am tl) (Aj ol)=some (2,v,[(j,none),(i,some o)])) (h3:XW P G g (k+1) xs ((d,v) :: tl) ((i,some o) :: (j,none) :: ol) Kf) (hx:L3 (some o)=true:=by rfl):XW P G g k (⟨some d,gd,q⟩ :: xs) tl ol Kf:=Abk 2 v _ (Gp h) h3 (by simp only [Ef,List.all_cons,List.all_nil,hx];rfl)
theorem Aft (j i:Oid) (o:Ob) (h:A9 (g+k) ⟨none,gd,q⟩ (Am tl) (Aj ol)=some (2,.any,[(j,none),(i,some o)])) (h3:XW P G g (k+1) xs tl ((i,some o) :: (j,none) :: ol) Kf) (hx:L3 (some o)=true:=by rfl):XW P G g k (⟨none,gd,q⟩ :: xs) tl ol Kf:=Awe 2 _ _ (Gp h) h3 (by simp only [Ef,List.all_cons,List.all_nil,hx];rfl)
theorem ds0 (v:AV) (h:A9 (g+k) ⟨some d,gd,q⟩ (Am tl) (only (rdX (Am tl) (Aj ol) ⟨some d,gd,q⟩) (Aj ol))=some (0,v,[])) (h3:XD P G bad g (k+1) xs ((d,v) :: tl) ol ((0,v,[]) :: ra) ((rdX (Am tl) (Aj ol) ⟨some d,gd,q⟩) :: da) Kf):XD P G bad g k (⟨some d,gd,q⟩ :: xs) tl ol ra da Kf:=Acb 0 v [] (Gp h) h3 rfl
theorem dsl (v:AV) (h:A9 (g+k) ⟨some d,gd,q⟩ (Am tl) (only (rdX (Am tl) (Aj ol) ⟨some d,gd,q⟩) (Aj ol))=some (1,v,[])) (h3:XD P G bad g (k+1) xs ((d,v) :: tl) ol ((1,v,[]) :: ra) ((rdX (Am tl) (Aj ol) ⟨some d,gd,q⟩) :: da) Kf):XD P G bad g k (⟨some d,gd,q⟩ :: xs) tl ol ra da Kf:=Acb 1 v [] (Gp h) h3 rfl
theorem ds1 (v:AV) (i:Oid) (o:Ob) (h:A9 (g+k) ⟨some d,gd,q⟩ (Am tl) (only (rdX (Am tl) (Aj ol) ⟨some d,gd,q⟩) (Aj ol))=some (1,v,[(i,some o)])) (h3:XD P G bad g (k+1) xs ((d,v) :: tl) ((i,some o) :: ol) ((1,v,[(i,some o)]) :: ra) ((rdX (Am tl) (Aj ol) ⟨some d,gd,q⟩) :: da) Kf) (hx:L3 (some o)=true:=by rfl):XD P G bad g k (⟨some d,gd,q⟩ :: xs) tl ol ra da Kf:=Acb 1 v _ (Gp h) h3 (by simp only [Ef,List.all_cons,List.all_nil,hx];rfl)
theorem ds2 (v:AV) (j i:Oid) (o:Ob) (h:A9 (g+k) ⟨some d,gd,q⟩ (Am tl) (only (rdX (Am tl) (Aj ol) ⟨some d,gd,q⟩) (Aj ol))=some (2,v,[(j,none),(i,some o)])) (h3:XD P G bad g (k+1) xs ((d,v) :: tl) ((i,some o) :: (j,none) :: ol) ((2,v,[(j,none),(i,some o)]) :: ra) ((rdX (Am tl) (Aj ol) ⟨some d,gd,q⟩) :: da) Kf) (hx:L3 (some o)=true:=by rfl):XD P G bad g k (⟨some d,gd,q⟩ :: xs) tl ol ra da Kf:=Acb 2 v _ (Gp h) h3 (by simp only [Ef,List.all_cons,List.all_nil,hx];rfl)
theorem M9 (j i:Oid) (o:Ob) (h:A9 (g+k) ⟨none,gd,q⟩ (Am tl) (only (rdX (Am tl) (Aj ol) ⟨none,gd,q⟩) (Aj ol))=some (2,.any,[(j,none),(i,some o)])) (h3:XD P G bad g (k+1) xs tl ((i,some o) :: (j,none) :: ol) ((2,.any,[(j,none),(i,some o)]) :: ra) ((rdX (Am tl) (Aj ol) ⟨none,gd,q⟩) :: da) Kf) (hx:L3 (some o)=true:=by rfl):XD P G bad g k (⟨none,gd,q⟩ :: xs) tl ol ra da Kf:=Avl 2 _ _ (Gp h) h3 (by simp only [Ef,List.all_cons,List.all_nil,hx];rfl)
section
variable {fo:Opd} {ys:List Opd} {tys:List (List (Option Ty))} {F:FuncId} {caps:List AV} {rv:RV} {args0:List AV}
theorem O8 (v:AV) (us:List (Oid×Option Ob)) (zs args:List AV) (hgd:S7 gd (Am tl)) (h1:Nx (gnd (Aj ol) 8) zs=some args0) (hc:Dr P G F args rv) (hb:Da P F=true) (h3:XW P G g (k+1) xs ((d,v) :: tl) (us.reverseAux ol) Kf) (m:Nat:=0) (hfo:fo.ev (Am tl)=.fn (F+m) caps:=by kernel_rfl) (hz:(Dx (F+m) ys (caps.map Opd.cst)).map (Opd.ev (Am tl))=zs:=by kernel_rfl) (hn:Qd tys args0=args:=by kernel_rfl) (hr:rv.out (Cf ((d,0),g+k)) zs=(v,us):=by kernel_rfl) (hF:Q0 (F+m)=F:=by kernel_rfl) (hx:Ef us=true:=by rfl) (hni:rv.noI=true:=by kernel_rfl):XW P G g k (⟨some d,gd,.call fo ys tys⟩ :: xs) tl ol Kf:=by
 subst hz;exact Abk 1 v us (Amo (P:=P) (G:=G) (p:=false) (n:=g+k) (d:=some d) hgd hfo hF h1 hn hb hc hni hr) h3 hx
theorem O4 (v:AV) (us:List (Oid×Option Ob)) (zs args:List AV) (hgd:S7 gd (Am tl)) (h1:Nx (gnd (only (rdX (Am tl) (Aj ol) ⟨some d,gd,.call fo ys tys⟩) (Aj ol)) 8) zs=some args0) (hc:Dr P G F args rv) (hb:Da P F=true) (h3:XD P G bad g (k+1) xs ((d,v) :: tl) (us.reverseAux ol) ((1,v,us) :: ra) ((rdX (Am tl) (Aj ol) ⟨some d,gd,.call fo ys tys⟩) :: da) Kf) (m:Nat:=0) (hfo:fo.ev (Am tl)=.fn (F+m) caps:=by kernel_rfl) (hz:(Dx (F+m) ys (caps.map Opd.cst)).map (Opd.ev (Am tl))=zs:=by kernel_rfl) (hn:Qd tys args0=args:=by kernel_rfl) (hr:rv.out (Cf ((d,0),g+k)) zs=(v,us):=by kernel_rfl) (hF:Q0 (F+m)=F:=by kernel_rfl) (hx:Ef us=true:=by rfl) (hni:rv.noI=true:=by kernel_rfl):XD P G bad g k (⟨some d,gd,.call fo ys tys⟩ :: xs) tl ol ra da Kf:=by
 subst hz;exact Acb 1 v us (Amo (P:=P) (G:=G) (p:=false) (n:=g+k) (d:=some d) hgd hfo hF h1 hn hb hc hni hr) h3 hx
def V7 (l:List (Oid×Oid)) (ol us:List (Oid×Ob)) (n:Nat) (ol0:List (Oid×Option Ob)):Bool:=Rw l&&(Hf ol&&(Ast (Bc l) ol&&(Aj2 ol us&&Od n ol0)))
theorem Sr {l:List (Oid×Oid)} {ol us:List (Oid×Ob)} {n:Nat} {ol0:List (Oid×Option Ob)} (h:V7 l ol us n ol0=true) (hR:Wj ol0 (Bc l) ol) :
  (∀ q∈exL ol,Aj ol0 (Bc l q.1)=some (q.2.ren (Bc l)))/\(∀ q∈exL ol,∀ q'∈exL ol,Bc l q.1=Bc l q'.1->q.1=q'.1)/\(∀ q∈exL us,q.1.2=1∨(q.1.2=0/\q.1∈nmL ol))/\∀ i:Oid,i.2=n->Aw (Hq (Bc l) i ol us) (Aj ol0)=Aj (B8 (Oz (Bo (Bc l) i) us)++(Lp (Bc l) ol++ol0)):=by
 simp only [V7,Bool.and_eq_true] at h;obtain ⟨c1,c2,c3,c4,c5⟩:=h;refine ⟨Agz c1 hR (Ahj c2),Arg (fun p e u xss hm k=>Kr c1 ?_ k) c3 c2,Ae1 c4,fun i hi=>Ary c1 c2 hR c4 (by rw [hi];exact c5) c3⟩;unfold Hf at c2;rw [List.all_eq_true] at c2;have:=c2 _ hm;simp only [Bool.and_eq_true,beq_iff_eq] at this;exact this.1
theorem Ku (v:AV) (ul:List (Oid×Option Ob)) (l:List (Oid×Oid)) (zs:List AV) {args:List AV} {ol0 us:List (Oid×Ob)} {v0:AV} (hgd:S7 gd (Am tl)) (hc:Cm P G F args ol0 v0 us) (hb:Da P F=true) (hR:Wj ol (Bc l) ol0) (h1:Qe (Bc l) (V9 ((nmL ol0).map (Bc l)) (Aj ol)) zs args) (h4:∀ j∈nmL ol0,Reached zs (Aj ol) (Bc l j)) (h3:XW P G g (k+1) xs ((d,v) :: tl) (ul++ol) Kf) (hfo:fo.ev (Am tl)=.fn F caps:=by kernel_rfl) (hz:(ys++caps.map Opd.cst).map (Opd.ev (Am tl))=zs:=by kernel_rfl) (hB:V7 l ol0 us (g+k) ol=true:=by kernel_rfl) (hF:F<mtd:=by decide) (hv:v0.ren (Bo (Bc l) ((d,0),g+k))=v:=by kernel_rfl) (hu:B8 (Oz (Bo (Bc l) ((d,0),g+k)) us)++Lp (Bc l) ol0=ul:=by kernel_rfl):XW P G g k (⟨some d,gd,.call fo ys tys⟩ :: xs) tl ol Kf:=by
 subst hv hu;obtain ⟨q1,q2,q3,q4⟩:=Sr hB hR;exact Agc 2 _ _ _ (Alp (n:=g+k) (d:=some d) (Bc l) hgd hfo hF hz h1 q1 q2 h4 q3 hb hc) (q4 ((d,0),g+k) rfl) (by rw [List.append_assoc] at h3;exact h3)
theorem Aku (v:AV) (ul:List (Oid×Option Ob)) (l:List (Oid×Oid)) (zs:List AV) {args:List AV} {ol0 us:List (Oid×Ob)} {v0:AV} (hgd:S7 gd (Am tl)) (hc:Cm P G F args ol0 v0 us) (hb:Da P F=true) (hR:Wj ol (Bc l) ol0) (h1:Qe (Bc l) (V9 ((nmL ol0).map (Bc l)) (only (rdX (Am tl) (Aj ol) ⟨some d,gd,.call fo ys tys⟩) (Aj ol))) zs args) (h4:∀ j∈nmL ol0,Reached zs (only (rdX (Am tl) (Aj ol) ⟨some d,gd,.call fo ys tys⟩) (Aj ol)) (Bc l j)) (hd:∀ q∈exL ol0,Bc l q.1∈rdX (Am tl) (Aj ol) ⟨some d,gd,.call fo ys tys⟩) (h3:XD P G bad g (k+1) xs ((d,v) :: tl) (ul++ol) ((2,v,Hq (Bc l) ((d,0),g+k) ol0 us) :: ra) ((rdX (Am tl) (Aj ol) ⟨some d,gd,.call fo ys tys⟩) :: da) Kf) (hfo:fo.ev (Am tl)=.fn F caps:=by kernel_rfl) (hz:(ys++caps.map Opd.cst).map (Opd.ev (Am tl))=zs:=by kernel_rfl) (hB:V7 l ol0 us (g+k) ol=true:=by kernel_rfl) (hF:F<mtd:=by decide) (hv:v0.ren (Bo (Bc l) ((d,0),g+k))=v:=by kernel_rfl) (hu:B8 (Oz (Bo (Bc l) ((d,0),g+k)) us)++Lp (Bc l) ol0=ul:=by kernel_rfl):XD P G bad g k (⟨some d,gd,.call fo ys tys⟩ :: xs) tl ol ra da Kf:=by
 subst hv hu;obtain ⟨q1,q2,q3,q4⟩:=Sr hB hR;exact Akk 2 _ _ _ (Alp (n:=g+k) (d:=some d) (Bc l) hgd hfo hF hz h1 (fun q hq=>by unfold only;rw [if_pos (hd q hq)];exact q1 q hq) q2 h4 q3 hb hc) (q4 ((d,0),g+k) rfl) (by rw [List.append_assoc] at h3;exact h3)
theorem rsU (v:AV) (us:List (Oid×Option Ob)) (h:A9 (g+k) ⟨some d,gd,q⟩ (Am tl) (Aj ol)=some (2,v,us)) (h3:XW P G g (k+1) xs ((d,v) :: tl) (us.reverseAux ol) Kf) (hx:Ef us=true:=by rfl):XW P G g k (⟨some d,gd,q⟩ :: xs) tl ol Kf:=Abk 2 v us (Gp h) h3 hx
theorem dsU (v:AV) (us:List (Oid×Option Ob)) (h:A9 (g+k) ⟨some d,gd,q⟩ (Am tl) (only (rdX (Am tl) (Aj ol) ⟨some d,gd,q⟩) (Aj ol))=some (2,v,us)) (h3:XD P G bad g (k+1) xs ((d,v) :: tl) (us.reverseAux ol) ((2,v,us) :: ra) ((rdX (Am tl) (Aj ol) ⟨some d,gd,q⟩) :: da) Kf) (hx:Ef us=true:=by rfl):XD P G bad g k (⟨some d,gd,q⟩ :: xs) tl ol ra da Kf:=Acb 2 v us (Gp h) h3 hx
end
end
-- what arguments read as
theorem Bz {g:AV->Option AV}:Nx g []=some []:=rfl
theorem Al {g:AV->Option AV} {c d:AV} {cs ds:List AV} (h:g c=some d) (hs:Nx g cs=some ds):Nx g (c :: cs)=some (d :: ds):=by simp only [Nx,h,hs]
section
variable {ob:Oid->Option Ob} {n:Nat}
theorem C2 {i:Oid} {t u:Ty} {e:TypeId} {xs:List u.D} {len:Nat} (h:ob i=some (.arr e u xs)) (hl:len=xs.length):gnd ob (n+1) (.own i t 0 len)=some (.tree u xs):=by
 subst hl;simp only [gnd,h,Nat.zero_add,Nat.le_refl,if_true,List.drop_zero,List.take_length]
theorem Afe {i:Oid} {t u:Ty} {e:TypeId} {xs:List u.D} {len:Nat} (h:ob i=some (.arr e u xs)) (hl:len<=xs.length):gnd ob (n+1) (.own i t 0 len)=some (.tree u (xs.take len)):=by
 simp only [gnd,h,Nat.zero_add,if_pos hl,List.drop_zero]
theorem Aor {i:Oid} {t u:Ty} {e:TypeId} {xs ys:List u.D} {off len:Nat} (h:ob i=some (.arr e u xs)) (hl:off+len<=xs.length) (hy:ys=(xs.drop off).take len):gnd ob (n+1) (.own i t off len)=some (.tree u ys):=by
 subst hy;simp only [gnd,h,if_pos hl]
theorem Sq {cs ds:List AV} (h:Nx (gnd ob n) cs=some ds):gnd ob (n+1) (.agg cs)=some (.agg ds):=by simp only [gnd,h,Option.map_some]
theorem Auy {f:FuncId} {cs ds:List AV} (h:Nx (gnd ob n) cs=some ds):gnd ob (n+1) (.fn f cs)=some (.fn f ds):=by simp only [gnd,h,Option.map_some]
theorem Ak0 {i:Oid} {k:Nat} {ty:TypeId} {cs es ds:List AV} (h:ob i=some (.cells ty cs)) (he:cs.drop k=es) (hs:Nx (gnd ob n) es=some ds):gnd ob (n+1) (.box i k)=some (.ref ds):=by simp only [gnd,h,he,hs,Option.map_some]
end
-- steps that hang on something
section
variable {n:Nat} {d:Option Nat} {f:Nat->AV} {ob:Oid->Option Ob}
theorem Axm {s:Nat} {b c:Bool} {q:Q} {r:Option Rec} (hs:f s=.bool c) (hc:c=b) (h:A9 n ⟨d,none,q⟩ f ob=r):A9 n ⟨d,some (s,b),q⟩ f ob=r:=by
 subst hc;simp only [A9,hs,gdv,beq_self_eq_true];exact h
theorem Zv {s:Nat} {b:Bool} {q:Q} (hs:f s=.tup []):A9 n ⟨d,some (s,b),q⟩ f ob=some (0,.tup [],[]):=by
 simp [A9,hs,gdv]
theorem Acz {sz:Nat} {x i:Opd} {t:Ty} {xs:List t.D} {y:t.D} {k:IntKind} {m:Int} {j:Nat} (hx:(x.ev f).un=.tree t xs) (hi:i.ev f=.int k m) (hs:sz=t.size) (h0:0<=m) (hj:m.toNat=j) (hy:xs[j]? =some y) {g:Option (Nat->Prop)} (hg:(x.ev f).tag=g:=by kernel_rfl):A9 n ⟨d,none,.i (.idx sz x i)⟩ f ob=some (0,.telt g t y 0,[]):=by
 subst hs hj hg;simp [A9,ev,evN,hx,hi,h0,hy]
theorem Acn {sz:Nat} {x i:Opd} {t:Ty} {o:Oid} {len:Nat} {k:IntKind} {m:Int} {j:Nat} (hx:x.ev f=.own o t 0 len) (hi:i.ev f=.int k m) (hs:sz=t.size) (h0:0<=m) (hj:m.toNat=j) (hl:j<len):A9 n ⟨d,none,.i (.idx sz x i)⟩ f ob=some (0,.elt o j 0,[]):=by
 subst hs hj;have:m<(len:Int):=by omega
 simp [A9,ev,evN,hx,hi,h0,AV.un,this]
theorem Av2 {sz:Nat} {x i:Opd} {t:Ty} {o:Oid} {off len:Nat} {k:IntKind} {m:Int} {j:Nat} (hx:x.ev f=.own o t off len) (hi:i.ev f=.int k m) (hs:sz=t.size) (h0:0<=m) (hj:off+m.toNat=j) (hl:m.toNat<len):A9 n ⟨d,none,.i (.idx sz x i)⟩ f ob=some (0,.elt o j 0,[]):=by
 subst hs hj;have:m<(len:Int):=by omega
 simp [A9,ev,evN,hx,hi,h0,AV.un,this]
def tyA:Nat->Ty
 | 0=>.int
 | n+1=>.pair .int (tyA n)
def G5:(n:Nat)->List Int->(tyA n).D
 | 0,l=>l.getD 0 0
 | n+1,l=>(l.getD 0 0,G5 n l.tail)
theorem Sa:∀ (n:Nat) (l:List Int),((tyA n).av (G5 n l)).length=n+1
 | 0,_=>rfl
 | n+1,l=>by simp [tyA,G5,Ty.av,Sa n]
theorem Xe:∀ (n:Nat) (l:List Int),(tyA n).ofAV ((tyA n).av (G5 n l))=some (G5 n l)
 | 0,_=>rfl
 | n+1,l=>by
  have:=Xe n l.tail;simp only [tyA,G5,Ty.av,List.cons_append,List.nil_append,Ty.ofAV,Ty.size,List.take_succ_cons,List.take_zero,List.drop_succ_cons,List.drop_zero,this,ofI,obs,Option.map_some]
theorem Awx {m N:Nat} {x:Opd} {i:Oid} {e:Nat} {ty:TypeId} {xs:List (tyA N).D} {l:List Int} (hx:x.ev f=.elt i e 0) (hob:ob i=some (.arr ty (tyA N) xs)) (hl:xs[e]? =some (G5 N l)) (hm:m=N+1):A9 n ⟨d,none,.i (.ld false m x)⟩ f ob=some (1,.agg ((tyA N).av (G5 N l)),[]):=by
 subst hm;have h1:=Sa N l;simp [A9,ev,evN,evR,hx,hob,hl,C9,h1];rw [List.take_of_length_le oM]
theorem Ajd:∀ (n:Nat) (l:List Int),((tyA n).av (G5 n l)).all AV.one=true
 | 0,_=>rfl
 | n+1,l=>by simp [tyA,G5,Ty.av,AV.one,Ajd n,← List.all_eq_true]
theorem Aww {m N:Nat} {x y:Opd} {i:Oid} {e:Nat} {ty:TypeId} {xs ys:List (tyA N).D} {l l2:List Int} (hx:x.ev f=.elt i e 0) (hob:ob i=some (.arr ty (tyA N) xs)) (hl:xs[e]? =some (G5 N l)) (hm:m=N+1) (hv:y.ev f=.agg ((tyA N).av (G5 N l2))) (hs:xs.set e (G5 N l2)=ys) :
  A9 n ⟨d,none,.st false m x y⟩ f ob=some (2,.any,[(i,none),(i,some (.arr ty (tyA N) ys))]):=by
 subst hs hm;have h1:=Sa N l;have h2:=Sa N l2;have h3:=Ajd N l2
 have h4:J0 false (N+1) 0 ((tyA N).av (G5 N l)) (.agg ((tyA N).av (G5 N l2)))=some ((tyA N).av (G5 N l2)):=by
  simp only [J0,h2,h1,h3,Nat.zero_add,Nat.le_refl,and_self,if_true,List.take_zero,List.nil_append,Bool.false_eq_true,if_false];rw [List.drop_of_length_le oM,List.append_nil]
 simp [A9,ev,Adh,hx,hob,hl,hv,h4,Xe]
theorem Hw {one:Bool} {m:Nat} {x:Opd} {i:Oid} {j k:Nat} {e:TypeId} {t:Ty} {xs:List t.D} {y:t.D} {c:AV} (hx:x.ev f=.elt i j k) (hob:ob i=some (.arr e t xs)) (hy:xs[j]? =some y) (hc:C9 one m k (t.av y)=some c):A9 n ⟨d,none,.i (.ld one m x)⟩ f ob=some (1,c,[]):=by
 simp [A9,ev,evN,evR,hx,hob,hy,hc]
theorem Vj {one:Bool} {m:Nat} {x y:Opd} {i:Oid} {j k:Nat} {e:TypeId} {t:Ty} {xs:List t.D} {x0 x1:t.D} {cs:List AV} (hx:x.ev f=.elt i j k) (hob:ob i=some (.arr e t xs)) (hy:xs[j]? =some x0) (hc:J0 one m k (t.av x0) (y.ev f)=some cs) (hd:t.ofAV cs=some x1):A9 n ⟨d,none,.st one m x y⟩ f ob=some (2,.any,[(i,none),(i,some (.arr e t (xs.set j x1)))]):=by
 simp [A9,ev,Adh,hx,hob,hy,hc,hd]
theorem N3 {e:TypeId} {t:Ty} {by_:Nat} {l c:Opd} {k k':IntKind} {m m':Int} {j:Nat} (hl:l.ev f=.int k m) (hc:c.ev f=.int k' m') (h:0<=m/\m<=m'/\m'<=1073741824/\(by_:Int)*m'<=140737488355328) (hj:m.toNat=j):A9 n ⟨d,none,.make e t by_ l c⟩ f ob=some (1,.own ((d.getD 0,0),n) t 0 j,[(((d.getD 0,0),n),some (.arr e t (List.replicate j t.dflt)))]):=by
 subst hj;simp only [A9,ev,Abb,hl,hc,if_pos h]
theorem I2 {t t':Ty} {i:Oid} {e:TypeId} {xs:List t.D} {len:Nat} (h:ob i=some (.arr e t xs)) (hl:len=xs.length):Ea ob t (.own i t' 0 len)=some xs:=by
 subst hl;simp only [Ea,h,Nat.zero_add,Nat.le_refl,if_true,Ty.eq?_self,Ch,List.drop_zero,List.take_length]
theorem Awn {t t':Ty} {i:Oid} {e:TypeId} {xs ys:List t.D} {off len:Nat} (h:ob i=some (.arr e t xs)) (hl:off+len<=xs.length) (hy:ys=(xs.drop off).take len):Ea ob t (.own i t' off len)=some ys:=by
 subst hy;simp only [Ea,h,if_pos hl,Ty.eq?_self,Ch]
theorem Hm {t:Ty} {xs:List t.D}:Ea ob t (.tree t xs)=some xs:=by simp only [Ea,Ty.eq?_self,Ch]
theorem Rb {t:Ty}:Vd f ob t []=some []:=rfl
theorem Dv {t:Ty} {x:Opd} {c:AV} {xs:List Opd} {ys:List t.D} {yss:List (List t.D)} (hx:x.ev f=c) (hs:Ea ob t c=some ys) (h:Vd f ob t xs=some yss):Vd f ob t (x :: xs)=some (ys :: yss):=by
 simp only [Vd,hx,hs,h]
theorem Abl {t:Ty} {xs:List Opd} {yss:List (List t.D)} {us:List (Oid×Option Ob)} (h:Vd f ob t xs=some yss) {e:TypeId} (hu:(xs.flatMap fun x=>Qz (x.ev f))=us):A9 n ⟨d,none,.mkV e (.slice t) 1 xs⟩ f ob=some (2,.tree (.slice t) yss,us):=by
 subst hu;simp only [A9,ev,Vl,h,if_true]
theorem Nh {e:TypeId} {t t':Ty} {by_:Nat} {x y:Opd} {c:AV} {ys xs zs:List t.D} {j:Oid} {len:Nat} (hx:x.ev f=.own j t' 0 len) (hob:ob j=some (.arr e t xs)) (hl:len=xs.length) (hy:y.ev f=c) (hs:Ea ob t c=some ys) (hz:zs=xs++ys) (h:xs.length+ys.length<=1073741824/\(xs.length+ys.length)*by_<=140737488355328) :
  A9 n ⟨d,none,.append e t by_ x y⟩ f ob=some (2,.own (j.1,n) t 0 zs.length,[(j,none),((j.1,n),some (.arr e t zs))]):=by
 subst hl hz;simp only [A9,ev,Lg,hx,hy,hs,hob,Ty.eq?_self,Nat.le_refl,true_and,h.1,h.2,and_self,if_true,Ch,List.take_length,List.length_append]
theorem Awl {e:TypeId} {t t':Ty} {by_:Nat} {x y:Opd} {c:AV} {ys xs zs:List t.D} {j:Oid} {len:Nat} (hx:x.ev f=.own j t' 0 len) (hob:ob j=some (.arr e t xs)) (hl:len<=xs.length) (hy:y.ev f=c) (hs:Ea ob t c=some ys) (hz:zs=xs.take len++ys) (h:(xs.take len).length+ys.length<=1073741824/\((xs.take len).length+ys.length)*by_<=140737488355328) :
  A9 n ⟨d,none,.append e t by_ x y⟩ f ob=some (2,.own (j.1,n) t 0 zs.length,[(j,none),((j.1,n),some (.arr e t zs))]):=by
 subst hz;have hl':(xs.take len).length=len:=by rw [List.length_take];omega
 rw [hl'] at h;simp only [A9,ev,Lg,hx,hy,hs,hob,Ty.eq?_self,hl,true_and,h.1,h.2,and_self,if_true,Ch,List.length_append,hl']
theorem Jj {sz:Nat} {x:Opd} {lo hi:Option Opd} {t:Ty} {i:Oid} {off len o' j:Nat} {l h:Int} (hx:x.ev f=.own i t off len) (hl:Fz f 0 lo=some l) (hh:Fz f len hi=some h) (hs:t.size=sz) (hb:0<=l/\l<=h/\h<=len) (ho:off+l.toNat=o') (hj:(h - l).toNat=j) :
  A9 n ⟨d,none,.slice sz x lo hi none⟩ f ob=some (0,.own i t o' j,[]):=by
 subst hs ho hj;simp only [A9,ev,Vs,hx,AV.un,hl,hh,true_and,hb.1,hb.2.1,hb.2.2,and_self,if_true]
theorem Aqd {x y:Opd} {j:Nat} (hx:x.ev f=.int .i64 j) (hy:y.ev f=.int .i64 1) (h:j+1<4611686018427387904):A9 n ⟨d,none,.i (.bin .add x y)⟩ f ob=some (0,.int .i64 ((j+1:Nat):Int),[]):=by
 have:IntKind.i64.wrap ((j:Int)+1)=((j+1:Nat):Int):=by rw [Go.IntWalk.i64_in _ oM];rfl
 simp [A9,ev,evN,Yj,hx,hy,this]
theorem Au7 {x y:Opd} {k:IntKind} {a b:Int} (hx:x.ev f=.int k a) (hy:y.ev f=.int k b) (h:b≠0):A9 n ⟨d,none,.i (.bin .quo x y)⟩ f ob=some (0,.int k (k.wrap (a.tdiv b)),[]):=by
 simp [A9,ev,evN,Yj,hx,hy,h]
theorem O0 {x y:Opd} {k:IntKind} {a b:Int} (hx:x.ev f=.int k a) (hy:y.ev f=.int k b) (h:b≠0):A9 n ⟨d,none,.i (.bin .rem x y)⟩ f ob=some (0,.int k (a.tmod b),[]):=by
 simp [A9,ev,evN,Yj,hx,hy,h]
theorem Ao4 {x y:Opd} {a b:ByteArray} (hx:x.ev f=.str a) (hy:y.ev f=.str b) (h:(a.size+b.size:Nat)<=9223372036854775807):A9 n ⟨d,none,.i (.bin .add x y)⟩ f ob=some (0,.str (a++b),[]):=by
 simp [A9,ev,evN,Yj,hx,hy,h]
theorem On {x i:Opd} {s:ByteArray} {k:IntKind} {m:Int} {j:Nat} {b:UInt8} (hx:x.ev f=.str s) (hi:i.ev f=.int k m) (h0:0<=m) (hj:m.toNat=j) (hy:s[j]? =some b):A9 n ⟨d,none,.i (.char x i)⟩ f ob=some (0,.int .u8 b.toNat,[]):=by
 subst hj;simp [A9,ev,evN,hx,hi,h0,hy]
end
theorem Ajm {c:Opd} {x y:AC} {R:AE->St->Prop} {S:St} {t:Bool} (ht:t=true) (h1:awp P G x R S) (h:c.ev S.tm=.bool t:=by kernel_rfl):awp P G (.cond c x y) R S:=by
 subst ht;exact .inl ⟨true,h,fun _=>h1,fun h=>nomatch h⟩
theorem Akr {c:Opd} {x y:AC} {R:AE->St->Prop} {S:St} {t:Bool} (ht:t=false) (h2:awp P G y R S) (h:c.ev S.tm=.bool t:=by kernel_rfl):awp P G (.cond c x y) R S:=by
 subst ht;exact .inl ⟨false,h,fun h=>(nomatch h),fun _=>h2⟩
theorem Akv {c:Opd} {x y:AC} {R:AE->St->Prop} {S:St} {p:Bool} {n:Nat} (h:c.ev S.tm=.abool p n) (h1:(p=true->n=0)->awp P G x R S) (h2:(p=false->n=0)->awp P G y R S):awp P G (.cond c x y) R S:=.inr ⟨p,n,h,h1,h2⟩
theorem Ad {i:Nat} {a:AC} {R:AE->St->Prop} {S:St} (h:awp P G a (Lh i R) S):awp P G (.block i a) R S:=h
theorem Anx {a:AC} {R:AE->St->Prop} {S:St} {α:Type} (I:α->St->Prop) (μ:α->Nat) (h0:∃ s S0,WeakG G S S0/\I s S0) (h1:∀ s S1,I s S1->awp P G a (Hx (fun S2=>∃ s' S3,WeakG G S2 S3/\I s' S3/\μ s'<μ s) R) S1):awp P G (.loop a) R S:=⟨α,I,μ,h0,h1⟩
theorem D2 {i:Nat} {R:AE->St->Prop} {S:St} (h:R (.exit i) S):awp P G (.exit i) R S:=h
theorem Ay {R:AE->St->Prop} {S:St} (h:R .normal S):awp P G .skip R S:=h
theorem Ac {R:AE->St->Prop} {S:St} (h:R .ret S):awp P G .ret R S:=h
end
section
variable {K:St->Prop} {R:AE->St->Prop} {S:St} {i j:Nat}
theorem tn_ (h:K S):Hx K R .normal S:=h
theorem te_ (h:R (.exit i) S):Hx K R (.exit i) S:=h
theorem tr_ (h:R .ret S):Hx K R .ret S:=h
theorem bn_ (h:R .normal S):Lh i R .normal S:=h
theorem be_ (h:R .normal S):Lh i R (.exit i) S:=by simpa [Lh] using h
theorem br_ (h:R .ret S):Lh i R .ret S:=h
end
def tmL:Nat->List AV->List (Nat×AV)
 | _,[]=>[]
 | k,v :: r=>(k,v) :: tmL (k+1) r
theorem Ahr:∀ (l:List AV) (k i:Nat),Am (tmL k l) (k+i)=l.getD i .any
 | [],k,i=>by simp [tmL,Am]
 | v :: r,k,i=>by
  cases i with
  | zero=>simp [tmL,Am]
  | succ i =>
   have:=Ahr r (k+1) i;simp only [tmL,Am];rw [if_neg oM,show k+(i+1)=k+1+i by omega,this];simp
theorem Afw (args:List AV):(fun i=>args.getD i .any)=Am (tmL 0 args):=by
 funext i;have:=Ahr args 0 i;rw [Nat.zero_add] at this;exact this.symm
theorem St.init_eq (args:List AV):St.init args=⟨Am (tmL 0 args),Aj [],1⟩:=by
 unfold St.init;rw [Afw];rfl
theorem An8 {G:World->Prop} {tl:List (Nat×AV)} {ol:List (Oid×Option Ob)} {g:Nat} (s:Nat) (e:TypeId) (t:Ty) (ht:t.flat=true) (hs:Am tl s=.nils):WeakG G ⟨Am tl,Aj ol,g⟩ ⟨Am ((s,.own ((s,0),g) t 0 0) :: tl),Aj ((((s,0),g),some (.arr e t [])) :: ol),g+1⟩:=by
 have:=Ar1 (G:=G) (S:=⟨Am tl,Aj ol,g⟩) s e t ht hs;rw [Qh] at this;have e2:upd (Aj ol) ((s,0),g) (some (.arr e t []))=Aj ((((s,0),g),some (.arr e t [])) :: ol):=H3 rfl;rw [e2] at this;exact this
theorem Acq {G:World->Prop} {tl:List (Nat×AV)} {ol:List (Oid×Option Ob)} {g:Nat} (s:Nat) (v v':AV) (h:Am tl s=v) (e:v=v'):WeakG G ⟨Am tl,Aj ol,g⟩ ⟨Am ((s,v') :: tl),Aj ol,g⟩:=by
 subst e
 have:Am ((s,v) :: tl)=Am tl:=by
  funext i;simp only [Am];split
  ·rename_i e;rw [e];exact h.symm
  ·rfl
 rw [this];exact WeakG.refl _
theorem Kp {G:World->Prop} {tl:List (Nat×AV)} {ol:List (Oid×Option Ob)} {g:Nat} (j:Oid) (o o':Ob) (h:Aj ol j=some o) (e:o=o') (hx:L3 (some o)=true:=by rfl):WeakG G ⟨Am tl,Aj ol,g⟩ ⟨Am tl,Aj ((j,some o') :: ol),g⟩:=by
 subst e
 have:Aj ((j,some o) :: ol)=Aj ol:=by
  rw [← H3 hx,Asf _ _ _ h]
 rw [this];exact WeakG.refl _
theorem Cj {G:World->Prop} {tl:List (Nat×AV)} {ol:List (Oid×Option Ob)} {g:Nat} (s:Nat) (c:Oid) (k:Nat) (ty:TypeId) (cs ds:List AV) (e:TypeId) (t:Ty) (ht:t.flat=true) (hb:Aj ol c=some (.cells ty cs)) (hk:cs[k]? =some .nils) (hd:cs.set k (.own ((s,0),g) t 0 0)=ds) :
  WeakG G ⟨Am tl,Aj ol,g⟩ ⟨Am tl,Aj ((c,some (.cells ty ds)) :: (((s,0),g),some (.arr e t [])) :: ol),g+1⟩:=by
 subst hd;have:=Adp (G:=G) (S:=⟨Am tl,Aj ol,g⟩) s c k ty cs e t ht hb hk;have e2:upd (upd (Aj ol) ((s,0),g) (some (.arr e t []))) c (some (.cells ty (cs.set k (.own ((s,0),g) t 0 0))))=Aj ((c,some (.cells ty (cs.set k (.own ((s,0),g) t 0 0)))) :: (((s,0),g),some (.arr e t [])) :: ol):=by rw [H3 rfl,H3 rfl]
 rw [← e2];exact this
theorem Lz {G:World->Prop} {tl:List (Nat×AV)} {ol:List (Oid×Option Ob)} {g:Nat} (s:Nat) (e:TypeId) (t:Ty) (hs:Am tl s=.nils):WeakG G ⟨Am tl,Aj ol,g⟩ ⟨Am ((s,.own ((s,0),g) t 0 0) :: tl),Aj ((((s,0),g),some (.vec e 1 0 [])) :: ol),g+1⟩:=by
 have:=Aoi (G:=G) (S:=⟨Am tl,Aj ol,g⟩) s e t hs;rw [Qh] at this;have e2:upd (Aj ol) ((s,0),g) (some (.vec e 1 0 []))=Aj ((((s,0),g),some (.vec e 1 0 [])) :: ol):=H3 rfl;rw [e2] at this;exact this
theorem Rh {G:World->Prop} {tl:List (Nat×AV)} {ol:List (Oid×Option Ob)} {g:Nat} (s:Nat) (c:Oid) (k:Nat) (ty:TypeId) (cs ds:List AV) (e:TypeId) (t:Ty) (hb:Aj ol c=some (.cells ty cs)) (hk:cs[k]? =some .nils) (hd:cs.set k (.own ((s,0),g) t 0 0)=ds) :
  WeakG G ⟨Am tl,Aj ol,g⟩ ⟨Am tl,Aj ((c,some (.cells ty ds)) :: (((s,0),g),some (.vec e 1 0 [])) :: ol),g+1⟩:=by
 subst hd;have:=Aco (G:=G) (S:=⟨Am tl,Aj ol,g⟩) s c k ty cs e t hb hk;have e2:upd (upd (Aj ol) ((s,0),g) (some (.vec e 1 0 []))) c (some (.cells ty (cs.set k (.own ((s,0),g) t 0 0))))=Aj ((c,some (.cells ty (cs.set k (.own ((s,0),g) t 0 0)))) :: (((s,0),g),some (.vec e 1 0 [])) :: ol):=by rw [H3 rfl,H3 rfl]
 rw [← e2];exact this
def Au2 (ol us:List (Oid×Ob)) (args:List AV) (v:AV):Bool :=
 (Hf ol&&(Hf us&&((ol.all fun q=>q.1.2==0)&&((us.all fun q=>q.1.2==1||(!q.2.isPool&&(B7 ol).contains q.1))&&(ndB (B7 us)&&ndB (Ca us))))))&&((ol.all fun q=>q.2.clo1 (B7 ol))&&((us.all fun q=>q.2.hp1 (B7 us))&&(AV.cloL (B7 ol) args&&AV.hpB (B7 us) v)))
def Afu (ol:List (Oid×Ob)):List (Oid×Ob)->Prop
 | []=>True
 | q :: r=>(match q.2 with
  | .mat _ p u xss=>∃ e,(p,Ob.pool e u xss)∈ol
  | _=>True)/\Afu ol r
theorem Uv {ol:List (Oid×Ob)}:∀ {l:List (Oid×Ob)},Afu ol l->∀ i e p u xss,(i,Ob.mat e p u xss)∈l->∃ e,(p,Ob.pool e u xss)∈ol
 | _ :: _,h,i,e,p,u,xss,hm=>by
  rcases List.mem_cons.1 hm with rfl|hm
  ·exact h.1
  ·exact Uv h.2 i e p u xss hm
theorem Alq {ol:List (Oid×Ob)} {p:Oid} {e:TypeId} {u:Ty} {xss:List (List u.D)}:(p,Ob.pool e u xss)∈ol->∀ k,k<xss.length->kid p k∈nmL ol:=by
 induction ol with
 | nil=>intro h;cases h
 | cons x r ih =>
  obtain ⟨x1,x2⟩:=x;intro h k hk;rcases List.mem_cons.1 h with h|h
  ·cases h;simp only [nmL,exL,List.map_append,List.mem_append];refine .inl (List.mem_map.2 ⟨(kid p k,.arr e u xss[k]),List.mem_map.2 ⟨(xss[k],k),?_,rfl⟩,rfl⟩);rw [List.mem_zipIdx_iff_getElem?];exact gEg hk
  ·have:=ih h k hk;cases x2 <;> simp only [nmL,exL,List.map_cons,List.map_append] at this⊢ <;> first|exact List.mem_cons_of_mem _ this|exact List.mem_append_right _ this
theorem Rx {ol:List (Oid×Ob)} {i:Oid} (h:i∈B7 ol):i∈nmL ol:=by
 obtain ⟨o,ho,hp⟩:=Aow h;exact List.mem_map.2 ⟨_,Zx ho hp,rfl⟩
theorem Avm {D:Oid->Prop} {p:Oid} {u:Ty} (xss:List (List u.D)) (h:∀ k,k<xss.length->D (kid p k)):AV.hpL D (hdL p u xss):=by
 have key:∀ l:List (List u.D×Nat),(∀ x∈l,D (kid p x.2))->AV.hpL D (l.map fun x=>.own (kid p x.2) u 0 x.1.length):=by
  intro l
  induction l with
  | nil=>intro _;trivial
  | cons x l ih=>intro h;exact ⟨h x (by simp),ih fun y hy=>h y (by simp [hy])⟩
 refine key _ fun x hx=>h _ ?_
 obtain ⟨row,k⟩:=x;rw [List.mem_zipIdx_iff_getElem?] at hx;exact (gSi.1 hx).1
theorem Avs {D:List Oid} (o:Ob) (h:o.clo1 D=true) (hp:o.isPool=false) (hm:∀ e p u xss,o≠.mat e p u xss):o.exp.cloP (·∈D):=by
 cases o with
 | cells _ cs=>exact AV.cloPL_of cs h
 | vec _ _ _ cs=>exact AV.cloPL_of cs h
 | mat e p u xss=>exact absurd rfl (hm _ _ _ _)
 | arr _ _ _=>trivial
 | map _ _ _=>trivial
 | pool _ _ _=>cases hp
 | tv e m t xs=>exact Ajs xs
theorem Awv {D:List Oid} (o:Ob) (h:o.hp1 D=true) (hp:o.isPool=false) (hm:∀ e p u xss,o≠.mat e p u xss):o.exp.hp (·∈D):=by
 cases o with
 | cells _ cs=>exact AV.hpB_PL cs h
 | vec _ _ _ cs=>exact AV.hpB_PL cs h
 | mat e p u xss=>exact absurd rfl (hm _ _ _ _)
 | arr _ _ _=>trivial
 | map _ _ _=>trivial
 | pool _ _ _=>cases hp
 | tv e m t xs=>cases h
theorem cloP_mono {D E:Oid->Prop} (hd:∀ i,D i->E i) (o:Ob) (h:o.cloP D):o.cloP E:=by
 cases o <;> first|exact AV.cloPL_mono hd _ h|exact h
theorem hp_mono {D E:Oid->Prop} (hd:∀ i,D i->E i) (o:Ob) (h:o.hp D):o.hp E:=by
 cases o <;> first|exact AV.hpL_mono hd _ h|exact h
section
variable {P:Program} {G:World->Prop} (hfol:P.follows .mixedOrders=true) {g:FuncId} {fn:Func} (hf:P.funcs[g]? =some fn) {ac:AC} {rs:List Res} (hc:C0 P fn=some (ac,rs)) {args:List AV} {r:RV} {n:Nat} (hN:fn.ntmps=n) (hn:args.length<=n)
include hfol hf hc hN hn
theorem Adc [IsP P] {tl:List (Nat×AV)} (htl:tmL 0 args=tl) (h:awp P G ac (fun e S=>∃ S',WeakG G S S'/\(e=.normal∨e=.ret)/\RetOK [] rs S' r) ⟨Am tl,Aj [],1⟩):Dr P G g args r:=by
 refine Asj hfol hf hc hN hn ?_;rw [St.init_eq,htl];exact h
omit hN hn in
theorem Bg [IsP P] (hN:fn.ntmps=n) (hn:args.length<=n) {tl:List (Nat×AV)} (htl:tmL 0 args=tl) {ol us:List (Oid×Ob)} {v:AV} (hB:Au2 ol us args v=true) (hm1:Afu ol ol) (hm2:Afu us us)
  (h:awp P G ac (fun e S=>∃ S',WeakG G S S'/\(e=.normal∨e=.ret)/\(∃ rvs,Res.evL S'.tm S'.ob rs=some rvs/\v=Adq rvs)/\∀ q∈exL us,S'.ob q.1=some q.2) ⟨Am tl,Aj (B8 ol),1⟩):Cm P G g args ol v us:=by
 simp only [Au2,Bool.and_eq_true] at hB;obtain ⟨⟨a1,a2,a3,a4,a5,a6⟩,b1,b2,b3,b4⟩:=hB;rw [List.all_eq_true] at a3 a4 b1 b2
 have h0:∀ {l:List (Oid×Ob)},Hf l=true->∀ q∈l,q.1.1.2=0:=fun h q hq=>by
  unfold Hf at h;rw [List.all_eq_true] at h;have:=h q hq;simp only [Bool.and_eq_true,beq_iff_eq] at this;exact this.1
 refine Ar9 hfol hf hc hN hn (fun q hq=>?_) (Auu (Gv a5) (Gv a6) (h0 a2)) (fun q hq=>?_) (AV.cloPL_mono (fun i hi=>Rx hi) _ (AV.cloPL_of args b3)) (AV.hp_mono (fun i hi=>Rx hi) _ (AV.hpB_P v b4)) ?_
 ·rcases H7 hq with ⟨p,e,u,xss,k,row,m1,m2,rfl⟩|⟨o,m1,m2,m3⟩
  ·have:=a3 _ m1;rw [beq_iff_eq] at this;exact ⟨this,trivial⟩
  ·have:=a3 _ m1;refine ⟨by simpa using this,?_⟩;rw [m3];by_cases hmt:∃ e p u xss,o=.mat e p u xss
   ·obtain ⟨e,p,u,xss,rfl⟩:=hmt;obtain ⟨e',hp⟩:=Uv hm1 _ _ _ _ _ m1;exact Arb xss fun k hk=>Alq hp k hk
   ·exact cloP_mono (fun i hi=>Rx hi) _ (Avs o (b1 _ m1) m2 fun e p u xss h=>hmt ⟨e,p,u,xss,h⟩)
 ·rcases H7 hq with ⟨p,e,u,xss,k,row,m1,m2,rfl⟩|⟨o,m1,m2,m3⟩
  ·have:=a4 _ m1;simp only [Ob.isPool,Bool.not_true,Bool.false_and,Bool.or_false,beq_iff_eq] at this;exact ⟨.inl this,.inl trivial⟩
  ·have:=a4 _ m1;simp only [Bool.or_eq_true,Bool.and_eq_true,beq_iff_eq] at this;refine ⟨this.imp id fun h=>Rx (List.contains_iff_mem.1 h.2),.inl ?_⟩;rw [m3];by_cases hmt:∃ e p u xss,o=.mat e p u xss
   ·obtain ⟨e,p,u,xss,rfl⟩:=hmt;obtain ⟨e',hp⟩:=Uv hm2 _ _ _ _ _ m1;exact Avm xss fun k hk=>Alq hp k hk
   ·exact hp_mono (fun i hi=>Rx hi) _ (Awv o (b2 _ m1) m2 fun e p u xss h=>hmt ⟨e,p,u,xss,h⟩)
 ·rw [Afw,htl];exact h
end
theorem Awz {G:World->Prop} {rs:List Res} {f:Nat->AV} {ob:Oid->Option Ob} {g:Nat} {r:RV} (avs:List AV) {vs:List Value} {e:AE} (h2:PartsR vs ob avs r.ps) (he:e=.normal∨e=.ret:=by simp) (h1:Res.evL f ob rs=some avs:=by kernel_rfl) (h3:ndB (Ys ob (R5 avs))=true:=by kernel_rfl) (h4:r.tup=decide (rs.length≠1):=by kernel_rfl):∃ S',WeakG G ⟨f,ob,g⟩ S'/\(e=.normal∨e=.ret)/\RetOK vs rs S' r :=
 ⟨_,WeakG.refl _,he,avs,r.ps,h1,h2,Gv h3,by cases r;cases h4;rfl⟩
theorem Cz {G:World->Prop} {rs:List Res} {S:St} {tl:List (Nat×AV)} {g:Nat} {v:AV} {us:List (Oid×Ob)} {e:AE} (rvs:List AV) (hw:WeakG G S ⟨Am tl,Aj (B8 us),g⟩) (he:e=.normal∨e=.ret:=by simp) (h1:Res.evL (Am tl) (Aj (B8 us)) rs=some rvs:=by kernel_rfl) (hv:v=Adq rvs:=by kernel_rfl) (h2:(Hf us&&(ndB (B7 us)&&ndB (Ca us)))=true:=by kernel_rfl) :
  ∃ S',WeakG G S S'/\(e=.normal∨e=.ret)/\(∃ rvs,Res.evL S'.tm S'.ob rs=some rvs/\v=Adq rvs)/\∀ q∈exL us,S'.ob q.1=some q.2:=by
 refine ⟨_,hw,he,⟨rvs,h1,hv⟩,fun q hq=>?_⟩;simp only [Bool.and_eq_true] at h2;obtain ⟨a1,a2,a3⟩:=h2
 have h0:∀ q∈us,q.1.1.2=0:=fun q hq=>by
  unfold Hf at a1;rw [List.all_eq_true] at a1;have:=a1 q hq;simp only [Bool.and_eq_true,beq_iff_eq] at this;exact this.1
 have:=Q4 (rest:=[]) (Gv a2) (Gv a3) (fun p hp=>by obtain ⟨e,u,xss,hm⟩:=Avq hp;exact h0 _ hm) (fun i hi p hp k e=>by
  obtain ⟨o,ho,_⟩:=Aow hi;have:=h0 _ ho;rw [e] at this;simp [kid] at this) q hq
 rwa [List.append_nil] at this
section
variable {vs:List Value} {ob:Oid->Option Ob}
theorem Ta {cs r:List AV} {ls:List RL} {ps:List (Bool×List RL)} (h1:LeavesR vs ob cs ls) (h2:PartsR vs ob r ps):PartsR vs ob (.agg cs :: r) ((true,ls) :: ps):=⟨ls,ps,rfl,h1,h2⟩
theorem F1 {c:AV} {r:List AV} {l:RL} {ps:List (Bool×List RL)} (hc:c.one=true) (h1:LeafR vs ob c l) (h2:PartsR vs ob r ps):PartsR vs ob (c :: r) ((false,[l]) :: ps):=by
 rw [Qq (by rintro ⟨_,rfl⟩;cases hc)];exact ⟨l,ps,rfl,h1,h2⟩
theorem Fc:PartsR vs ob [] []:=rfl
theorem D5 {c:AV} {cs:List AV} {l:RL} {ls:List RL} (h1:LeafR vs ob c l) (h2:LeavesR vs ob cs ls):LeavesR vs ob (c :: cs) (l :: ls):=⟨l,ls,rfl,h1,h2⟩
theorem T2:LeavesR vs ob [] []:=rfl
theorem Aro {c:AV} {l:RL} (h:R6 ob c=some l):LeafR vs ob c l:=.inl (.inl h)
theorem Dc {i:Oid} {t u:Ty} {e:TypeId} {xs:List u.D} {len:Nat} (h:ob i=some (.arr e u xs)) (hl:len=xs.length):LeafR vs ob (.own i t 0 len) (.new e u xs):=by
 subst hl;exact .inl (.inl (by simp only [R6,h,Nat.le_refl,and_self,if_true,List.take_length]))
theorem Af9 {e:TypeId} {t:Ty} (h:t.flat=true):LeafR vs ob .nils (.new e t []):=.inl (.inr (.inr ⟨e,t,rfl,rfl,h⟩))
end
end
section
open Go.RowKit Go.Deep
abbrev tm (n:Nat):Opd:=.tmp n
abbrev cb (b:Bool):Opd:=.cst (.bool b)
abbrev ci (n:Int):Opd:=.cst (.int .i64 n)
abbrev xo (d:Nat) (q:Q):X:=⟨some d,none,q⟩
abbrev xn (q:Q):X:=⟨none,none,q⟩
abbrev qm (x:Opd):Q:=.i (.mov x)
abbrev qf (k:Nat) (x:Opd):Q:=.i (.fld k x)
abbrev qb (o:BinOp) (x y:Opd):Q:=.i (.bin o x y)
abbrev qc (f:FuncId) (xs:List Opd) (tys:List (List (Option Ty))):Q:=.call (.cst (.fn f [])) xs tys
abbrev rg (xs:List X):AC:=.region xs false []
abbrev ai (n:Int):AV:=.int .i64 n
abbrev oi (a b:Nat):Oid:=((a,0),b)
def Ao2 (d:Option Nat) (v:AV) (tl:List (Nat×AV)):List (Nat×AV) :=
 match d with
 | some d=>(d,v) :: tl
 | none=>tl
theorem Akz (d:Option Nat) (v:AV) (tl:List (Nat×AV)):Oq d v (Am tl)=Am (Ao2 d v tl):=by
 cases d with
 | none=>rfl
 | some d=>simp only [Oq,Ao2,Qh]
noncomputable def Af2 (g:Nat):Nat->Nat->List X->List (Nat×AV)->List (Oid×Option Ob)->Option (List (Nat×AV)×List (Oid×Option Ob))
 | 0,_,_,tl,ol=>some (tl,ol)
 | _+1,_,[],_,_=>none
 | n+1,k,x :: xs,tl,ol=>match A9 (g+k) x (Am tl) (Aj ol) with
  | some (_,v,us)=>if Ef us then Af2 g n (k+1) xs (Ao2 x.dst v tl) (us.reverseAux ol) else none
  | none=>none
theorem Awu {P:Program} {G:World->Prop} {g:Nat} {Kf:List (Nat×AV)->List (Oid×Option Ob)->Prop}:∀ (n k:Nat) (xs:List X) (tl:List (Nat×AV)) (ol:List (Oid×Option Ob)) (r:List (Nat×AV)×List (Oid×Option Ob)),Af2 g n k xs tl ol=some r->XW P G g (k+n) (xs.drop n) r.1 r.2 Kf->XW P G g k xs tl ol Kf
 | 0,k,xs,tl,ol,r,h,hk=>by
  obtain rfl:=osj h;exact hk
 | n+1,k,[],tl,ol,r,h,hk=>by cases h
 | n+1,k,x :: xs,tl,ol,r,h,hk=>by
  simp only [Af2] at h;split at h
  ·rename_i c v us hst;split at h
   ·rename_i hx;obtain ⟨rs,tl',ol',h1,h2⟩:=Awu (P:=P) (G:=G) n (k+1) xs _ _ r h (by rw [show k+1+n=k+(n+1) by omega];exact hk);exact ⟨(c,v,us) :: rs,tl',ol',⟨_,_,rfl,Gp hst,by rw [Akz,Kl _ _ hx];exact h1⟩,h2⟩
   ·cases h
  ·cases h
theorem rsB {P:Program} {G:World->Prop} {g k:Nat} {xs:List X} {tl:List (Nat×AV)} {ol:List (Oid×Option Ob)} {Kf:List (Nat×AV)->List (Oid×Option Ob)->Prop} (n:Nat) (hk:XW P G g (k+n) (xs.drop n) ((Af2 g n k xs tl ol).getD ([],[])).1 ((Af2 g n k xs tl ol).getD ([],[])).2 Kf) (h:(Af2 g n k xs tl ol).isSome=true:=by kernel_rfl):XW P G g k xs tl ol Kf:=by
 obtain ⟨r,hr⟩:=Option.isSome_iff_exists.1 h;rw [hr] at hk;exact Awu n k xs tl ol r hr hk
noncomputable def Ap8 (g:Nat):Nat->Nat->List X->List (Nat×AV)->List (Oid×Option Ob)->Option (List (Nat×AV))
 | 0,_,_,tl,_=>some tl
 | _+1,_,[],_,_=>none
 | n+1,k,x :: xs,tl,ol=>match A9 (g+k) x (Am tl) (Aj ol) with
  | some (_,v,[])=>Ap8 g n (k+1) xs (Ao2 x.dst v tl) ol
  | _=>none
theorem Aw8 {P:Program} {G:World->Prop} {g:Nat} {ol:List (Oid×Option Ob)} {Kf:List (Nat×AV)->List (Oid×Option Ob)->Prop}:∀ (n k:Nat) (xs:List X) (tl:List (Nat×AV)) (r:List (Nat×AV)),Ap8 g n k xs tl ol=some r->XW P G g (k+n) (xs.drop n) r ol Kf->XW P G g k xs tl ol Kf
 | 0,k,xs,tl,r,h,hk=>by
  obtain rfl:=osj h;exact hk
 | n+1,k,[],tl,r,h,hk=>by cases h
 | n+1,k,x :: xs,tl,r,h,hk=>by
  simp only [Ap8] at h;split at h
  ·rename_i c v hst;obtain ⟨rs,tl',ol',h1,h2⟩:=Aw8 (P:=P) (G:=G) n (k+1) xs _ r h (by rw [show k+1+n=k+(n+1) by omega];exact hk);exact ⟨(c,v,[]) :: rs,tl',ol',⟨_,_,rfl,Gp hst,by rw [Akz];exact h1⟩,h2⟩
  ·cases h
theorem rsT {P:Program} {G:World->Prop} {g k:Nat} {xs:List X} {tl:List (Nat×AV)} {ol:List (Oid×Option Ob)} {Kf:List (Nat×AV)->List (Oid×Option Ob)->Prop} (n:Nat) (hk:XW P G g (k+n) (xs.drop n) ((Ap8 g n k xs tl ol).getD []) ol Kf) (h:(Ap8 g n k xs tl ol).isSome=true:=by kernel_rfl):XW P G g k xs tl ol Kf:=by
 obtain ⟨r,hr⟩:=Option.isSome_iff_exists.1 h;rw [hr] at hk;exact Aw8 n k xs tl r hr hk
noncomputable def Ak4 (g:Nat):Nat->Nat->List X->List (Nat×AV)->List (Oid×Option Ob)->List Rec->List (List Oid)->Option (List (Nat×AV)×List Rec×List (List Oid))
 | 0,_,_,tl,_,ra,da=>some (tl,ra,da)
 | _+1,_,[],_,_,_,_=>none
 | n+1,k,x :: xs,tl,ol,ra,da=>match A9 (g+k) x (Am tl) (only (rdX (Am tl) (Aj ol) x) (Aj ol)) with
  | some (c,v,[])=>Ak4 g n (k+1) xs (Ao2 x.dst v tl) ol ((c,v,[]) :: ra) (rdX (Am tl) (Aj ol) x :: da)
  | _=>none
theorem Aw7 {P:Program} {G:World->Prop} {g:Nat} {ol:List (Oid×Option Ob)} {bad:List (Nat×Nat)} {Kf:List (Nat×AV)->List (Oid×Option Ob)->Prop}:∀ (n k:Nat) (xs:List X) (tl:List (Nat×AV)) (ra:List Rec) (da:List (List Oid)) (r:List (Nat×AV)×List Rec×List (List Oid)),Ak4 g n k xs tl ol ra da=some r->XD P G bad g (k+n) (xs.drop n) r.1 ol r.2.1 r.2.2 Kf->XD P G bad g k xs tl ol ra da Kf
 | 0,k,xs,tl,ra,da,r,h,hk=>by
  obtain rfl:=osj h;exact hk
 | n+1,k,[],tl,ra,da,r,h,hk=>by cases h
 | n+1,k,x :: xs,tl,ra,da,r,h,hk=>by
  simp only [Ak4] at h;split at h
  ·rename_i c v hst;obtain ⟨rs,ds,tl',ol',h1,hb,h2⟩:=Aw7 (P:=P) (G:=G) n (k+1) xs _ _ _ r h (by rw [show k+1+n=k+(n+1) by omega];exact hk);refine ⟨(c,v,[]) :: rs,rdX (Am tl) (Aj ol) x :: ds,tl',ol',⟨_,_,_,rfl,rfl,Gp hst,by rw [Akz];exact h1⟩,?_,h2⟩
   simpa using hb
  ·cases h
theorem dsT {P:Program} {G:World->Prop} {g k:Nat} {xs:List X} {tl:List (Nat×AV)} {ol:List (Oid×Option Ob)} {bad:List (Nat×Nat)} {ra:List Rec} {da:List (List Oid)} {Kf:List (Nat×AV)->List (Oid×Option Ob)->Prop} (n:Nat) (hk:XD P G bad g (k+n) (xs.drop n) ((Ak4 g n k xs tl ol ra da).getD ([],[],[])).1 ol ((Ak4 g n k xs tl ol ra da).getD ([],[],[])).2.1 ((Ak4 g n k xs tl ol ra da).getD ([],[],[])).2.2 Kf) (h:(Ak4 g n k xs tl ol ra da).isSome=true:=by kernel_rfl):XD P G bad g k xs tl ol ra da Kf:=by
 obtain ⟨r,hr⟩:=Option.isSome_iff_exists.1 h;rw [hr] at hk;exact Aw7 n k xs tl ra da r hr hk
theorem Ae {P:Program} {G:World->Prop} {g:Nat} {xs:List X} {bad:List (Nat×Nat)} {y:AC} {R:AE->St->Prop} {tl:List (Nat×AV)} {ol:List (Oid×Option Ob)} (h:awp P G y R ⟨Am ((Af2 g xs.length 0 xs tl ol).getD ([],[])).1,Aj ((Af2 g xs.length 0 xs tl ol).getD ([],[])).2,g+xs.length⟩) (hs:(Af2 g xs.length 0 xs tl ol).isSome=true:=by kernel_rfl):awp P G (.seq (.region xs false bad) y) R ⟨Am tl,Aj ol,g⟩:=by
 refine Ab (Aa (g+xs.length) (rsB xs.length (by rw [List.drop_length];exact Ap (tn_ ⟨_,WeakG.refl _,h⟩)) hs) rfl)
theorem Z5 {i:Oid} {ob:Oid->Option Ob}:only [i] ob i=ob i:=if_pos (List.mem_singleton.2 rfl)
section
variable {n:Nat} {d:Option Nat} {f:Nat->AV} {ob:Oid->Option Ob} {ol:List (Oid×Option Ob)}
theorem Ec {x:Opd} {o p:Oid} {e1:TypeId} {u:Ty} {xss:List (List u.D)} {row:List u.D} {j:Nat} (hx:x.ev f=.elt o j 0) (hob:ob o=some (.vec e1 1 xss.length (hdL p u xss))) (hr:xss[j]? =some row):A9 n ⟨d,none,.i (.ld true 1 x)⟩ f ob=some (1,.own (kid p j) u 0 row.length,[]):=by
 have h:(hdL p u xss)[j*1+0]? =some (.own (kid p j) u 0 row.length):=by rw [Eh];simp [hr]
 simp only [Nat.mul_one,Nat.add_zero] at h;simp [A9,ev,evN,evR,hx,hob,C9,h]
theorem Aal {x y:Opd} {o:Oid} {e1:TypeId} {m:Nat} {cs:List AV} {v:AV} {j:Nat} (hx:x.ev f=.elt o j 0) (hob:ob o=some (.vec e1 1 m cs)) (hy:y.ev f=v) (hv:v.one=true) (hj:j<cs.length):A9 n ⟨d,none,.st true 1 x y⟩ f ob=some (2,.any,[(o,none),(o,some (.vec e1 1 m (cs.set j v)))]):=by
 simp [A9,ev,Adh,hx,hob,hy,J0,hv,hj]
theorem Amf {x y:Opd} {o q:Oid} {e1 e2:TypeId} {u:Ty} {t':Ty} {b:Nat} {p:Oid} {xss:List (List u.D)} {cs:List AV} {len:Nat} (hx:x.ev f=.own o t' 0 len) (hob:ob o=some (.vec e1 1 xss.length (hdL p u xss))) (hl:len=xss.length) {t2:Ty} (hy:y.ev f=.own q t2 0 1) (hq:ob q=some (.vec e2 1 1 cs)) (hc:cs.length=1) (h:xss.length+1<=1073741824/\(xss.length+1)*b<=140737488355328) :
  A9 n ⟨d,none,.appV e1 (.slice u) b x y⟩ f ob=some (2,.own (o.1,n) (.slice u) 0 (xss.length+1),[(o,none),((o.1,n),some (.vec e1 1 (xss.length+1) (hdL p u xss++cs)))]):=by
 subst hl;have h1:List.take (xss.length*1) (hdL p u xss)=hdL p u xss:=by rw [Nat.mul_one];exact List.take_of_length_le (by rw [C8];exact Nat.le_refl _)
 have h2:List.take (1*1) (List.drop (0*1) cs)=cs:=by simp only [Nat.zero_mul,List.drop_zero,Nat.mul_one];exact List.take_of_length_le oM
 simp only [A9,ev,La,hx,hy,Xg,hq,hob,Ty.size,true_and,Nat.zero_add,Nat.le_refl,if_true,h1,h2,h.1,h.2,and_self]
theorem Ej {i:Oid} {e:TypeId} {t:Ty} {sz:Nat} {xs:List Opd} {r:Rec} (h:(Aez f i e t sz xs).map (fun r=>((1:Nat),r.1,r.2))=some r):evL f i (.mkV e t sz xs)=some r:=by
 simp only [evL];cases hq:Aez f i e t sz xs with
 | none=>rw [hq] at h;cases h
 | some q=>rw [hq] at h;obtain ⟨v,us⟩:=q;exact h
theorem Zj {i:Oid} {e:TypeId} (e':TypeId) {u:Ty} {b:Nat} {x y:Opd} {k k':IntKind} {m c:Int} {j:Nat} (hx:x.ev f=.int k m) (hy:y.ev f=.int k' c) (h:0<=m/\m<=c/\c<=1073741824/\(b:Int)*c<=140737488355328) (hfl:u.flat=true) (hj:m.toNat=j) :
  Ahu f i (.makeV e (.slice u) b [.nils] x y) (1,RV.out ⟨false,[(false,[.newM e e' u (List.replicate j [])])]⟩ (Cf i) []):=by
 subst hj;exact ⟨e,e',u,b,x,y,k,k',m,c,rfl,hx,hy,h,hfl,rfl⟩
theorem Atz {i:Oid} {e e':TypeId} {u:Ty} {xss:List (List u.D)} (h:Od i.2 ol=true):Aw (RV.out ⟨false,[(false,[.newM e e' u xss])]⟩ (Cf i) []).2 (Aj ol)=Aj ((Cf i 0,some (.mat e (Cf i 0) u xss)) :: (Cf i 0,some (.pool e' u xss)) :: ol):=by
 have e0:(RV.out ⟨false,[(false,[.newM e e' u xss])]⟩ (Cf i) []).2=(Cf i 0,some (.vec e 1 xss.length (hdL (Cf i 0) u xss))) :: (Yf (Cf i 0) e' u xss++[]):=rfl;rw [e0,List.append_nil];show Aw (Yf (Cf i 0) e' u xss) (upd (Aj ol) (Cf i 0) (some (.vec e 1 xss.length (hdL (Cf i 0) u xss))))=_
 rw [H3 rfl,Ai8 (fun k=>by
  have:Aj ((Cf i 0,some (.vec e 1 xss.length (hdL (Cf i 0) u xss))) :: ol) (kid (Cf i 0) k)=if kid (Cf i 0) k=Cf i 0 then some (.vec e 1 xss.length (hdL (Cf i 0) u xss)) else Aj ol (kid (Cf i 0) k):=by simp only [Aj]
  rw [this,if_neg (fun e=>by have:=congrArg (fun i:Oid=>i.1.2) e;simp [kid,Cf] at this)];exact Rc h _ rfl)]
 funext j;have h2:∀ j,Aj ((Cf i 0,some (.vec e 1 xss.length (hdL (Cf i 0) u xss))) :: ol) j=if j=Cf i 0 then some (.vec e 1 xss.length (hdL (Cf i 0) u xss)) else Aj ol j:=fun j=>by simp only [Aj]
 rw [Qf,Nz,Nz,h2];by_cases hj:j=Cf i 0
 ·subst hj;rw [if_pos rfl,if_neg (fun h=>h.2.2 rfl),if_pos rfl]
 ·rw [if_neg hj,if_neg hj]
end
section
variable {P:Program} {G:World->Prop} {g k d:Nat} {gd:Option (Nat×Bool)} {q:Q} {xs:List X} {tl:List (Nat×AV)} {ol:List (Oid×Option Ob)} {bad:List (Nat×Nat)} {ra:List Rec} {da:List (List Oid)} {Kf:List (Nat×AV)->List (Oid×Option Ob)->Prop}
theorem Lu (v:AV) (i:Oid) (o:Ob) (hgd:S7 gd (Am tl)) (h:evL (Am tl) ((d,0),g+k) q=some (1,v,[(i,some o)])) (h3:XW P G g (k+1) xs ((d,v) :: tl) ((i,some o) :: ol) Kf) (hx:L3 (some o)=true:=by rfl):XW P G g k (⟨some d,gd,q⟩ :: xs) tl ol Kf:=Abk 1 v _ (Auw (d:=some d) hgd h) h3 (by simp only [Ef,List.all_cons,List.all_nil,hx];rfl)
theorem Aps (v:AV) (i:Oid) (o:Ob) (hgd:S7 gd (Am tl)) (h:evL (Am tl) ((d,0),g+k) q=some (1,v,[(i,some o)])) (h3:XD P G bad g (k+1) xs ((d,v) :: tl) ((i,some o) :: ol) ((1,v,[(i,some o)]) :: ra) ((rdX (Am tl) (Aj ol) ⟨some d,gd,q⟩) :: da) Kf) (hx:L3 (some o)=true:=by rfl):XD P G bad g k (⟨some d,gd,q⟩ :: xs) tl ol ra da Kf:=Acb 1 v _ (Auw (d:=some d) hgd h) h3 (by simp only [Ef,List.all_cons,List.all_nil,hx];rfl)
theorem Agi (v:AV) (i:Oid) (e e':TypeId) (u:Ty) (xss:List (List u.D)) (hgd:S7 gd (Am tl)) (h:Ahu (Am tl) ((d,0),g+k) q (1,RV.out ⟨false,[(false,[.newM e e' u xss])]⟩ (Cf ((d,0),g+k)) [])) (hi:Cf ((d,0),g+k) 0=i) (hv:AV.own i (.slice u) 0 xss.length=v) (hn:Od (g+k) ol=true) (h3:XW P G g (k+1) xs ((d,v) :: tl) ((i,some (.mat e i u xss)) :: (i,some (.pool e' u xss)) :: ol) Kf):XW P G g k (⟨some d,gd,q⟩ :: xs) tl ol Kf:=by
 subst hi hv;exact Agc 1 _ _ _ (Att (d:=some d) hgd h) (Atz hn) h3
end
-- what arguments read as
section
variable {ol:List (Oid×Option Ob)} {n:Nat}
theorem Qv {α:Type} {g:List AV->Option α}:∀ {cs:List AV} {xs:List α},cs.length=xs.length->(∀ (k:Nat) (c:AV) (x:α),cs[k]? =some c->xs[k]? =some x->g [c]=some x)->I8 g 1 xs.length cs=some xs
 | [],[],_,_=>rfl
 | c :: cs,x :: xs,hl,h=>by
  have h0:=h 0 c x rfl rfl;have ih:=Qv (g:=g) (cs:=cs) (xs:=xs) (by simpa using hl) (fun k c x h1 h2=>h (k+1) c x h1 h2);simp only [List.length_cons,I8,List.take_succ_cons,List.take_zero,List.drop_succ_cons,List.drop_zero,h0,ih]
 | [],_ :: _,hl,_=>by simp at hl
 | _ :: _,[],hl,_=>by simp at hl
theorem Aq8 {ob:Oid->Option Ob} {o p:Oid} {e1 e:TypeId} {u:Ty} {xss:List (List u.D)} {m len:Nat} (ho:ob o=some (.vec e1 1 m (hdL p u xss))) (hm:m=xss.length) (hk:∀ k row,xss[k]? =some row->ob (kid p k)=some (.arr e u row)) {t':Ty} (hl:len<=xss.length):Yp ob 1 (rdC ob (.slice u)) (.own o t' 0 len)=some (xss.take len):=by
 have h1:(((hdL p u xss).drop (0*1)).take (len*1))=hdL p u (xss.take len):=by
  simp only [Nat.zero_mul,List.drop_zero,Nat.mul_one];apply List.ext_getElem?;intro j;rw [List.getElem?_take,Eh,Eh,List.getElem?_take];split <;> rfl
 have hlen:(xss.take len).length=len:=by rw [List.length_take];omega
 simp only [Yp,ho];rw [if_pos ⟨trivial,by omega⟩,h1]
 have:=Qv (g:=rdC ob (.slice u)) (cs:=hdL p u (xss.take len)) (xs:=xss.take len) C8 (fun k c x hc hx=>by
  rw [Eh,hx] at hc;obtain rfl:=osj hc;rw [List.getElem?_take] at hx;split at hx
  ·have:=hk k x hx;simp only [rdC,Ea,this,Nat.zero_add,Nat.le_refl,if_true,Ty.eq?_self,Ch,List.drop_zero,List.take_length]
  ·cases hx)
 rw [hlen] at this;exact this
theorem F6 {ob:Oid->Option Ob} {o p:Oid} {e1 e:TypeId} {u:Ty} {xss:List (List u.D)} {len:Nat} (ho:ob o=some (.vec e1 1 xss.length (hdL p u xss))) (hk:∀ k row,xss[k]? =some row->ob (kid p k)=some (.arr e u row)) (hl:len=xss.length):gnd ob (n+1) (.own o (.slice u) 0 len)=some (.tree (.slice u) xss):=by
 subst hl;have:=Aq8 (t':=.slice u) ho rfl hk (Nat.le_refl _);rw [List.take_length] at this;simp only [gnd,ho,Ty.size,this,Option.map_some]
theorem Br {p:Oid} {e:TypeId} {u:Ty} {xss:List (List u.D)} (h:Fb ol p=some (.pool e u xss)):∀ k row,xss[k]? =some row->Aj ol (kid p k)=some (.arr e u row):=fun _ _ hx=>Be h hx
def Ad0 (θ:Oid->Oid) (ol0:List (Oid×Ob)) (i:Oid):Bool:=ol0.all fun q=>if q.2.isPool then !(i.1.1==(θ q.1).1.1&&(i.2==(θ q.1).2&&i.1.2 !=0)) else i !=θ q.1
theorem E0 {l:List (Oid×Oid)} {ob:Oid->Option Ob} {ol0:List (Oid×Ob)} {i:Oid} (hl:Rw l=true) (h0:Hf ol0=true) (h:Ad0 (Bc l) ol0 i=true):V9 ((nmL ol0).map (Bc l)) ob i=ob i:=by
 unfold V9;rw [if_neg];intro hm;obtain ⟨j,hj,rfl⟩:=List.mem_map.1 hm;obtain ⟨q,hq,rfl⟩:=List.mem_map.1 hj;unfold Ad0 at h;rw [List.all_eq_true] at h;unfold Hf at h0;rw [List.all_eq_true] at h0;rcases H7 hq with ⟨p,e,u,xss,k,row,m1,m2,rfl⟩|⟨o,m1,m2,m3⟩
 ·have:=h _ m1;have hz:=h0 _ m1;simp only [Bool.and_eq_true,beq_iff_eq] at hz;rw [Kr hl hz.1] at this;simp [Ob.isPool,kid] at this
 ·have:=h _ m1;simp [m2] at this
theorem H8 {l:List (Oid×Oid)} {ob:Oid->Option Ob} {ol0:List (Oid×Ob)} {p:Oid} {e:TypeId} {u:Ty} {xss:List (List u.D)} (hl:Rw l=true) (h0:Hf ol0=true) (hk:∀ k row,xss[k]? =some row->ob (kid p k)=some (.arr e u row)) (hn:(ol0.all fun q=> !((Bc l q.1).1.1==p.1.1&&((Bc l q.1).2==p.2)))=true):∀ k row,xss[k]? =some row->V9 ((nmL ol0).map (Bc l)) ob (kid p k)=some (.arr e u row):=by
 intro k row hx;rw [E0 hl h0,hk k row hx];unfold Ad0;rw [List.all_eq_true] at hn ⊢;intro q hq;have:=hn q hq;simp only [Bool.not_eq_true',Bool.and_eq_false_iff,beq_eq_false_iff_ne,ne_eq] at this;split
 ·simp only [Bool.not_eq_true',Bool.and_eq_false_iff,beq_eq_false_iff_ne,ne_eq,kid];rcases this with h|h
  ·exact .inl fun e=>h e.symm
  ·exact .inr (.inl fun e=>h e.symm)
 ·simp only [bne_iff_ne,ne_eq];intro e;rw [← e] at this;rcases this with h|h <;> exact h rfl
theorem Aux {ri rj:Rec} {di dj:List Oid} (h:Atl [rj,ri] [dj,di] [(0,1)]=true):P5 ri rj di dj:=(As h).1
theorem Alj {l:List (Oid×Oid)} {i:Oid} {ol us:List (Oid×Ob)} (hB:Aj2 ol us=true):∀ u∈Hq (Bc l) i ol us,u.1.2=i.2∨u.1∈(nmL ol).map (Bc l):=by
 intro u hu;rcases List.mem_append.1 hu with hu|hu
 ·obtain ⟨q,hq,rfl⟩:=List.mem_map.1 hu;exact .inr (List.mem_map.2 ⟨q.1,List.mem_map.2 ⟨q,hq,rfl⟩,rfl⟩)
 ·obtain ⟨q,hq,rfl⟩:=List.mem_map.1 hu;rcases Ae1 hB q hq with h|⟨h,h'⟩
  ·exact .inl (by simp [Bo,h])
  ·exact .inr (List.mem_map.2 ⟨q.1,h',by simp [Bo,h]⟩)
def Am5 (l:List (Oid×Oid)) (i:Oid) (ol us:List (Oid×Ob)) (r:Rec) (d:List Oid):Bool:=Rw l&&(Hf ol&&(Aj2 ol us&&((d.all fun x=>x.2 !=i.2&&Ad0 (Bc l) ol x)&&((r.2.2.all fun u=>u.1.2 !=i.2&&Ad0 (Bc l) ol u.1)&&r.1 !=2))))
theorem Aiy {l:List (Oid×Oid)} {ol:List (Oid×Ob)} {i:Oid} (hl:Rw l=true) (h0:Hf ol=true) (h:Ad0 (Bc l) ol i=true):i∉(nmL ol).map (Bc l):=by
 intro hm;have:=E0 (ob:=fun _=>some (.map 0 .int [])) hl h0 h;unfold V9 at this;rw [if_pos hm] at this;cases this
theorem Aaq {l:List (Oid×Oid)} {i:Oid} {ol us:List (Oid×Ob)} {r:Rec} {d:List Oid} (h:Am5 l i ol us r d=true):(∀ u∈Hq (Bc l) i ol us,u.1∉d)/\(∀ u∈Hq (Bc l) i ol us,∀ v∈r.2.2,u.1≠v.1)/\r.1≠2:=by
 simp only [Am5,Bool.and_eq_true,bne_iff_ne,ne_eq] at h;obtain ⟨h1,h2,h3,h4,h5,h6⟩:=h;rw [List.all_eq_true] at h4 h5;refine ⟨fun u hu hd=>?_,fun u hu v hv e=>?_,h6⟩
 ·have:=h4 _ hd;simp only [Bool.and_eq_true,bne_iff_ne,ne_eq] at this;rcases Alj h3 u hu with h|h
  ·exact this.1 h
  ·exact Aiy h1 h2 this.2 h
 ·have:=h5 _ hv;simp only [Bool.and_eq_true,bne_iff_ne,ne_eq] at this;rcases Alj h3 u hu with h|h
  ·exact this.1 (by rw [← e];exact h)
  ·exact Aiy h1 h2 this.2 (by rw [← e];exact h)
theorem Acg {l:List (Oid×Oid)} {i:Oid} {ol us:List (Oid×Ob)} {v:AV} {rj:Rec} {di dj:List Oid} (h:Am5 l i ol us rj dj=true):P5 (2,v,Hq (Bc l) i ol us) rj di dj:=by
 obtain ⟨h1,h2,h3⟩:=Aaq h;exact .inr ⟨fun _=>h1,fun e=>absurd e h3,h2⟩
theorem Akj {l:List (Oid×Oid)} {i:Oid} {ol us:List (Oid×Ob)} {v:AV} {ri:Rec} {di dj:List Oid} (h:Am5 l i ol us ri di=true):P5 ri (2,v,Hq (Bc l) i ol us) di dj:=by
 obtain ⟨h1,h2,h3⟩:=Aaq h;exact .inr ⟨fun e=>absurd e h3,fun _=>h1,fun u hu v hv e=>h2 v hv u hu e.symm⟩
def Aq9 (zs:List AV) (ob:Oid->Option Ob) (θ:Oid->Oid):List (Oid×Ob)->Prop
 | []=>True
 | q :: r=>(match q.2 with
  | .pool _ _ xss=>∀ k,k<xss.length->Reached zs ob (kid (θ q.1) k)
  | _=>Reached zs ob (θ q.1))/\Aq9 zs ob θ r
theorem Ar {zs:List AV} {ob:Oid->Option Ob} {l:List (Oid×Oid)} (hl:Rw l=true):∀ {ol:List (Oid×Ob)},Hf ol=true->Aq9 zs ob (Bc l) ol->∀ j∈nmL ol,Reached zs ob (Bc l j)
 | [],_,_,j,hj=>by cases hj
 | (p,o) :: r,h0,h,j,hj=>by
  simp only [Hf,List.all_cons,Bool.and_eq_true,beq_iff_eq] at h0;obtain ⟨⟨h1,_⟩,h2⟩:=h0;have ih:j∈nmL r->Reached zs ob (Bc l j):=fun hm=>Ar hl (ol:=r) (by simpa [Hf] using h2) h.2 j hm
  cases o with
  | pool e u xss =>
   simp only [nmL,exL,List.map_append,List.mem_append] at hj;rcases hj with hj|hj
   ·obtain ⟨q,hq,rfl⟩:=List.mem_map.1 hj;obtain ⟨⟨row,k⟩,hx,rfl⟩:=List.mem_map.1 hq;rw [List.mem_zipIdx_iff_getElem?] at hx;show Reached zs ob (Bc l (kid p k));rw [Kr hl h1];exact h.1 k (gSi.1 hx).1
   ·exact ih hj
  | _ =>
   simp only [nmL,exL,List.map_cons,List.mem_cons] at hj;rcases hj with rfl|hj
   ·exact h.1
   ·exact ih hj
theorem Bi {zs:List AV} {ob:Oid->Option Ob} {i:Oid} (h:(AV.nmsL zs).contains i=true):Reached zs ob i:=.arg (List.contains_iff_mem.1 h)
theorem Gu {zs:List AV} {ob:Oid->Option Ob} {k i:Oid} {ty:TypeId} {cs:List AV} (h1:Reached zs ob k) (h2:ob k=some (.cells ty cs)) (h:(AV.nmsL cs).contains i=true):Reached zs ob i:=.cells h1 h2 (List.contains_iff_mem.1 h)
theorem At9 {p:Oid} {u:Ty} {xss:List (List u.D)} {k:Nat} (h:k<xss.length):kid p k∈AV.nmsL (hdL p u xss):=by
 have key:∀ cs:List AV,∀ c∈cs,∀ i∈c.nms,i∈AV.nmsL cs:=by
  intro cs
  induction cs with
  | nil=>intro c h;cases h
  | cons x r ih =>
   intro c hc i hi;rcases List.mem_cons.1 hc with rfl|hc
   ·exact List.mem_append_left _ hi
   ·exact List.mem_append_right _ (ih c hc i hi)
 refine key _ (.own (kid p k) u 0 xss[k].length) ?_ _ (List.mem_singleton.2 rfl);apply List.mem_iff_getElem?.2;exact ⟨k,by rw [Eh,gEg h];rfl⟩
theorem Fn {zs:List AV} {ob:Oid->Option Ob} {o p:Oid} {e1:TypeId} {m:Nat} {u:Ty} {xss:List (List u.D)} (h1:Reached zs ob o) (h2:ob o=some (.vec e1 1 m (hdL p u xss))):∀ k,k<xss.length->Reached zs ob (kid p k):=fun _ hk=>.vec h1 h2 (At9 hk)
end
theorem Qx {L:List Oid} {l:List (Oid×Oid)} {xs:List (Oid×Ob)} (h:(xs.all fun q=>L.contains (Bc l q.1))=true):∀ q∈xs,Bc l q.1∈L:=fun q hq=>by
 have:=List.all_eq_true.1 h q hq
 simpa using this
end
section
open Go.RowKit Go.Deep
section
variable {P:Program} {G:World->Prop} {w0 w:World} {ob:Oid->Option Ob} {σ:Oid->Option Loc} {K:Nat->Prop} {im:Nat->Prop}
theorem Aj3 (hG:∀ w',Below w.heap.size w w'->G w'):Mem0 G w (fun _=>none) (fun _=>none) (fun _=>False) w :=
 ⟨Below.refl _ _,hG,fun _ _ h=>(by cases h),fun _ _ _ _ h=>(by cases h),fun _ _ _ _ h=>(by cases h),fun _ _ _ _ _ _ _ _ _ h=>(by cases h),fun _ _ _ h=>by cases h⟩
abbrev nwN:Oid->Oid:=Bo (Bc []) ((0,0),1)
theorem Wt {g:FuncId} {args:List AV} {v:AV} {us:List (Oid×Ob)} {vs:List Value} (h:Cm P G g args [] v us) (hG:∀ w',Below w.heap.size w w'->G w') (hr:AV.RepL (fun _=>none) (fun _=>True) w args vs) (hn:AV.renL (Bc []) args=args:=by rfl) (hB:V7 [] [] us 1 []=true:=by kernel_rfl) (hv:v.ren nwN=v:=by kernel_rfl) (hu:Oz nwN us=us:=by kernel_rfl) :
  Calls P g vs.toArray w fun e w'=>∃ u,e=.returned u/\Below w.heap.size w w'/\∃ σ',Mem0 G w (Aj (B8 us)) σ' (fun n=>False∨n=1) w'/\AV.Rep σ' (imm (Aj (B8 us)) σ') w' v u:=by
 refine (h (Bc []) ((0,0),1) w _ _ _ w vs (Aj3 hG) (fun h=>h) (fun q hq=>by cases hq) (fun j k hj=>by cases hj) (fun j hj=>by cases hj) ?_).mono ?_
 ·rw [hn]
  have e:Zh (Bc []) [] (fun _=>none)=fun _=>True:=by
   funext b;simp [Zh,exL]
  rw [e];exact hr
 ·rintro e w' ⟨u,rfl,σ',_,h2,h3⟩;have e:=(Sr hB trivial).2.2.2 ((0,0),1) rfl;have e':(fun _=>none)=Aj []:=rfl;rw [e',e] at h2 h3;have e2:Lp (Bc []) []++[]=([]:List (Oid×Option Ob)):=rfl;rw [e2,List.append_nil,hu] at h2 h3;rw [hv] at h3;exact ⟨u,rfl,h2.below,σ',h2,h3⟩
theorem Aa8 {ol:List (Oid×Option Ob)} {p:Oid} {e:TypeId} {t:Ty} {xss:List (List t.D)} {k:Nat} {xs:List t.D} (hx:xss[k]? =some xs) (h:Fb ol p=some (.pool e t xss)):Aj ol (kid p k)=some (.arr e t xs):=by
 rw [Kz,Lv h,hx];rfl
theorem Am6:∀ {cs:List AV} {vs:List Value} {k:Nat} {c:AV},AV.RepL σ im w cs vs->cs[k]? =some c->∃ v,vs[k]? =some v/\AV.Rep σ im w c v
 | [],_,_,_,_,h=>by simp at h
 | c :: cs,_,0,_,⟨u,us,rfl,h1,_⟩,h=>by obtain rfl:=osj h;exact ⟨u,rfl,h1⟩
 | c :: cs,_,k+1,d,⟨u,us,rfl,_,h2⟩,h=>by
  obtain ⟨v,e,hv⟩:=Am6 (k:=k) h2 (by simpa using h);exact ⟨v,by simpa using e,hv⟩
end
end
section
open Go.RowKit
def Tab (w:World):Prop:=w.cell? ⟨0,0,none⟩=some (.int .i64 2)/\w.cell? ⟨0,1,none⟩=some (.int .i64 3)/\w.cell? ⟨0,2,none⟩=some (.int .i64 5)/\w.cell? ⟨0,3,none⟩=some (.int .i64 7)
theorem Tab.below {w w':World} (h:Tab w) (hb:Below w.heap.size w w'):Tab w':=⟨Bv hb h.1,Bv hb h.2.1,Bv hb h.2.2.1,Bv hb h.2.2.2⟩
def inR (n lo hi:Int):Bool:=decide (lo<=n)&&decide (n<=hi)
theorem D9 {n lo hi:Int}:inR n lo hi=true↔lo<=n/\n<=hi:=by simp [inR]
theorem Ank {n lo hi:Int}:inR n lo hi=false↔n<lo∨hi<n:=by
 cases h:inR n lo hi
 ·simp only [true_iff];have h1:¬ (lo<=n/\n<=hi):=fun h'=>by rw [D9.2 h'] at h;cases h
  omega
 ·simp only [Bool.true_eq_false,false_iff];have:=D9.1 h;omega
def isF (p:Int):Bool:=decide (2<=p)&&(decide (p<=97)&&((p % 2 !=0||p==2)&&((p % 3 !=0||p==3)&&((p % 5 !=0||p==5)&&(p % 7 !=0||p==7)))))
theorem Cu {p:Int} (h:isF p=true):2<=p/\p<=97:=by
 simp only [isF,Bool.and_eq_true,decide_eq_true_eq] at h;exact ⟨h.1,h.2.1⟩
set_option maxHeartbeats 1000000 in
theorem Aja (p:Int) (w:World) (tab:Tab w):Calls Tryz.prog 106 #[.int .i64 p] w fun e w'=>e=.returned (.bool (isF p))/\w=w':=by
 obtain ⟨t0,t1,t2,t3⟩:=tab;by_cases hlo:p<2
 ·have hf:=Lib.hid (show isF p=false by simp [isF];omega)
  go_enter Tryz.func106,Tryz.ntmps106
  go_wp2
  go_ret
  exact ⟨N7 hf.out.symm,rfl⟩
 ·by_cases hhi:97<p
  ·have hf:=Lib.hid (show isF p=false by simp [isF];omega)
   go_enter Tryz.func106,Tryz.ntmps106
   go_wp2
   go_ret
   exact ⟨N7 hf.out.symm,rfl⟩
  ·have i0:∀ w,(Instr.index 172 (.agg #[.int .i64 2,.int .i64 3,.int .i64 5,.int .i64 7]) (.int .i64 0)).run Tryz.prog w=.ok (.int .i64 2) w:=fun _=>by kernel_rfl
   have i1:∀ w,(Instr.index 172 (.agg #[.int .i64 2,.int .i64 3,.int .i64 5,.int .i64 7]) (.int .i64 1)).run Tryz.prog w=.ok (.int .i64 3) w:=fun _=>by kernel_rfl
   have i2:∀ w,(Instr.index 172 (.agg #[.int .i64 2,.int .i64 3,.int .i64 5,.int .i64 7]) (.int .i64 2)).run Tryz.prog w=.ok (.int .i64 5) w:=fun _=>by kernel_rfl
   have i3:∀ w,(Instr.index 172 (.agg #[.int .i64 2,.int .i64 3,.int .i64 5,.int .i64 7]) (.int .i64 3)).run Tryz.prog w=.ok (.int .i64 7) w:=fun _=>by kernel_rfl
   go_enter Tryz.func106,Tryz.ntmps106
   go_wp2
   go_loop [2,4,12] (fun r _ i=>r=.bool false/\∃ k:Nat,k<=4/\i=.int .i64 k/\(0<k->p % 2≠0∨p=2)/\(1<k->p % 3≠0∨p=3)/\(2<k->p % 5≠0∨p=5)/\(3<k->p % 7≠0∨p=7)) (fun _ _ i=>4 - (intOf i).toNat)
   case atStart=>exact ⟨rfl,0,by omega,rfl,by omega,by omega,by omega,by omega⟩
   case round =>
    obtain ⟨rfl,k,hk,rfl,q0,q1,q2,q3⟩:=hrel;rcases (show k=0∨k=1∨k=2∨k=3∨k=4 by omega) with rfl|rfl|rfl|rfl|rfl
    ·skip
     by_cases hz:p % 2=0
     ·by_cases he:p=2
      ·subst he
       go_wp2
       go_round
       case rel=>exact ⟨rfl,1,by omega,rfl,by decide,by decide,by decide,by decide⟩
       case measure=>simp [intOf]
      ·have hf:=Lib.hid (show isF p=false by simp [isF];omega)
       go_wp2
       go_ret
       exact ⟨N7 hf.out.symm,rfl⟩
     ·go_wp2
      go_round
      case rel=>exact ⟨rfl,1,by omega,rfl,by omega,by omega,by omega,by omega⟩
      case measure=>simp [intOf]
    ·skip
     by_cases hz:p % 3=0
     ·by_cases he:p=3
      ·subst he
       go_wp2
       go_round
       case rel=>exact ⟨rfl,2,by omega,rfl,by decide,by decide,by decide,by decide⟩
       case measure=>simp [intOf]
      ·have hf:=Lib.hid (show isF p=false by simp [isF];omega)
       go_wp2
       go_ret
       exact ⟨N7 hf.out.symm,rfl⟩
     ·go_wp2
      go_round
      case rel=>exact ⟨rfl,2,by omega,rfl,by omega,by omega,by omega,by omega⟩
      case measure=>simp [intOf]
    ·skip
     by_cases hz:p % 5=0
     ·by_cases he:p=5
      ·subst he
       go_wp2
       go_round
       case rel=>exact ⟨rfl,3,by omega,rfl,by decide,by decide,by decide,by decide⟩
       case measure=>simp [intOf]
      ·have hf:=Lib.hid (show isF p=false by simp [isF];omega)
       go_wp2
       go_ret
       exact ⟨N7 hf.out.symm,rfl⟩
     ·go_wp2
      go_round
      case rel=>exact ⟨rfl,3,by omega,rfl,by omega,by omega,by omega,by omega⟩
      case measure=>simp [intOf]
    ·skip
     by_cases hz:p % 7=0
     ·by_cases he:p=7
      ·subst he
       go_wp2
       go_round
       case rel=>exact ⟨rfl,4,by omega,rfl,by decide,by decide,by decide,by decide⟩
       case measure=>simp [intOf]
      ·have hf:=Lib.hid (show isF p=false by simp [isF];omega)
       go_wp2
       go_ret
       exact ⟨N7 hf.out.symm,rfl⟩
     ·go_wp2
      go_round
      case rel=>exact ⟨rfl,4,by omega,rfl,by omega,by omega,by omega,by omega⟩
      case measure=>simp [intOf]
    ·have hf:=Lib.hid (show isF p=true by simp [isF];omega)
     clear q0 q1 q2 q3
     go_wp2
     go_ret
     exact ⟨N7 hf.out.symm,rfl⟩
def Aer (n k:Nat):Bool:=(List.range k).all fun j=>decide (j<2)||n % j !=0
theorem Ad3:∀ n:Nat,n<98->2<=n->∀ k:Nat,k<11->Aer n k=true->n<k*k->isF (n:Int)=true:=by decide +kernel
theorem At4:∀ n:Nat,n<98->∀ k:Nat,k<10->2<=k->k*k<=n->n % k=0->isF (n:Int)=false:=by decide +kernel
theorem Aj8 {n k:Nat} (h:Aer n k=true) (hk:n % k≠0):Aer n (k+1)=true:=by
 unfold Aer at *;rw [List.range_succ,List.all_append,h];simp [hk]
abbrev cK (f:FuncId) (a:List AV) (r:RV):Prop:=Dr Tryz.prog Tab f a r
end

section
open Go.RowKit Go.Deep
def NeL (i:Oid):List Oid->Prop
 | []=>True
 | x :: r=>x≠i/\NeL i r
theorem At1 {L M:List Oid} {ob:Oid->Option Ob} {i:Oid} (hL:M=L) (h:NeL i L):V9 M ob i=ob i:=by
 subst hL;unfold V9;rw [if_neg];intro hm
 induction M with
 | nil=>cases hm
 | cons x r ih =>
  rcases List.mem_cons.1 hm with rfl|hm
  ·exact h.1 rfl
  ·exact ih h.2 hm
theorem Ave {p:Oid} {j k:Nat} (h:j≠k):kid p j≠kid p k:=fun e=>h (Fm e)
theorem E6 {L:List Oid} {ob:Oid->Option Ob} {i:Oid} (h:i∈L):only L ob i=ob i:=if_pos h
theorem Pz {f:Nat->AV} {ob:Oid->Option Ob} {d:Option Nat} {gd:Option (Nat×Bool)} {fo y:Opd} {ys:List Opd} {tys:List (List (Option Ty))} {i:Oid} {t:Ty} {off len:Nat} (n:Nat) (hy:ys[n]? =some y) (he:y.ev f=.own i t off len):i∈rdX f ob ⟨d,gd,.call fo ys tys⟩:=by
 refine List.mem_flatMap.2 ⟨y,List.mem_cons_of_mem _ (List.mem_of_getElem? hy),?_⟩;rw [he];show i∈Lq ob (7+1) (.own i t off len);unfold Lq;dsimp only;split <;> simp
theorem Au8 {L:List Oid} {l:List (Oid×Oid)}:∀ q∈exL [],Bc l q.1∈L:=fun _ h=>by cases h
theorem Av1 {L:List Oid} {l:List (Oid×Oid)} {i:Oid} {e:TypeId} {t:Ty} {xs:List t.D} {r:List (Oid×Ob)} (h:Bc l i∈L) (hr:∀ q∈exL r,Bc l q.1∈L):∀ q∈exL ((i,.arr e t xs) :: r),Bc l q.1∈L:=fun q hq=>by
 rcases List.mem_cons.1 hq with rfl|hq
 ·exact h
 ·exact hr q hq
theorem Axf {ob:Oid->Option Ob} {o:Oid} {e1:TypeId} {sz m n:Nat} {cs:List AV} (h:ob o=some (.vec e1 sz n cs)) (e:m=n):ob o=some (.vec e1 sz m cs):=by rw [e];exact h
theorem Alh {α:Type} {xs:List α} {k:Nat} (h:k<=xs.length):k=(xs.take k).length:=by rw [List.length_take];omega
theorem Aol {G:World->Prop} {S:St} {o:Oid} {e1:TypeId} {sz n k:Nat} {cs:List AV} (ho:S.ob o=some (.vec e1 sz n cs)) (hk:k<=n):WeakG G S ⟨S.tm,upd S.ob o (some (.vec e1 sz k (cs.take (k*sz)))),S.gen⟩:=by
 intro w0 B N a w hr;obtain ⟨σ,hm,hf,hB⟩:=hr.ex
 have was:∀ i x,upd S.ob o (some (.vec e1 sz k (cs.take (k*sz)))) i=some x->∃ y,S.ob i=some y:=fun i x hx=>by
  by_cases h:i=o
  ·subst h;exact ⟨_,ho⟩
  ·rw [Av _ _ _ _ h] at hx;exact ⟨x,hx⟩
 have hL:Later σ σ (imm S.ob σ) (imm (upd S.ob o (some (.vec e1 sz k (cs.take (k*sz))))) σ) w w:=⟨fun _ _ h=>h,fun b _ hb i x c s hx hs=>by obtain ⟨y,hy⟩:=was i x hx;exact hb i y c s hy hs,fun _ _ _=>rfl,Nat.le_refl _⟩
 refine ⟨⟨σ,⟨hm.below,hm.inv,hm.gen,hm.lt,hm.cap,fun i j b c s c' s' x y hx hy e1 e2=>?_,fun i x l hx hl=>?_⟩,fun t=>AV.Rep.later hL _ _ (hf t),hB.trans hL⟩,hr.size,hr.defers,fun i hi=>?_⟩
 ·obtain ⟨x',hx'⟩:=was i x hx;obtain ⟨y',hy'⟩:=was j y hy;exact hm.inj i j b c s c' s' x' y' hx' hy' e1 e2
 ·by_cases h:i=o
  ·subst h;have hx:upd S.ob i (some (.vec e1 sz k (cs.take (k*sz)))) i=some x:=hx;rw [A8] at hx;obtain rfl:=osj hx;obtain ⟨vs,p1,p2,p3,p4⟩:=hm.obs i _ l ho hl;refine ⟨vs.take (k*sz),p1.take hk (fun g cap e=>?_) (fun e=>?_),(AV.RepL.later hL _ _ p2).take _,fun v hv=>p3 v (List.mem_of_mem_take hv),p4⟩
   ·cases l with
    | nil=>cases e
    | at_ b c s=>cases e;rfl
   ·cases l with
    | nil=>rfl
    | at_ b c s=>cases e
  ·have hx:upd S.ob o (some (.vec e1 sz k (cs.take (k*sz)))) i=some x:=hx;rw [Av _ _ _ _ h] at hx;exact (hm.obs i x l hx hl).later hL fun _ _ _ _=>rfl
 ·by_cases h:i=o
  ·subst h;exact hr.obg i (by rw [ho];simp)
  ·have hi:upd S.ob o (some (.vec e1 sz k (cs.take (k*sz)))) i≠none:=hi;rw [Av _ _ _ _ h] at hi;exact hr.obg i hi
theorem Ajl {G:World->Prop} {tl:List (Nat×AV)} {ol:List (Oid×Option Ob)} {g:Nat} (s:Nat) (o p:Oid) {e1 e:TypeId} {u:Ty} {xss:List (List u.D)} {n k:Nat} (hfl:u.flat=true) (ho:Aj ol o=some (.vec e1 1 n (hdL p u xss))) (hn:n=xss.length) (hp:Fb ol p=some (.pool e u xss)) (hk:k<=n) (hpo:(o.1.1==p.1.1&&o.2==p.2&&o.1.2 !=0)=false) (hog:(o.2==g)=false) (hfr:Od g ((p,some (.pool e u [])) :: ol)=true) :
  WeakG G ⟨Am tl,Aj ol,g⟩ ⟨Am tl,Aj ((o,some (.mat e1 ((s,0),g) u (xss.take k))) :: (((s,0),g),some (.pool e u (xss.take k))) :: (p,some (.pool e u [])) :: (o,some (.vec e1 1 k ((hdL p u xss).take k))) :: ol),g+1⟩:=by
 have h1:WeakG G ⟨Am tl,Aj ol,g⟩ ⟨Am tl,Aj ((o,some (.vec e1 1 k ((hdL p u xss).take k))) :: ol),g⟩:=by
  have:=Aol (G:=G) (S:=⟨Am tl,Aj ol,g⟩) ho hk;rw [Nat.mul_one] at this;rw [← H3 rfl];exact this
 refine h1.trans ?_;have hok:∀ j,kid p j≠o:=fun j e=>by rw [← e] at hpo;simp [kid] at hpo
 have hpool:Fb ((o,some (.vec e1 1 k ((hdL p u xss).take k))) :: ol) p=some (.pool e u xss):=by
  show (if p.1.1=o.1.1/\p.2=o.2/\o.1.2≠0 then none else Fb ol p)=_;rw [if_neg,hp];rintro ⟨a1,a2,a3⟩;rw [a1,a2] at hpo;simp [a3] at hpo
 refine J9 s o (fun j=>kid p j) [(p,some (.pool e u []))] hfl (by show Aj _ o=_;simp only [Aj];rw [if_pos trivial]) (by rw [List.length_take];omega) (fun j row hj=>?_) (fun a b _ _ hab=>Fm hab) hog ?_ (fun i hi=>?_)
 ·rw [List.getElem?_take] at hj ⊢;split at hj
  ·rename_i hlt;rw [if_pos hlt,Eh,hj];exact ⟨rfl,row,Be hpool hj,Nat.le_refl _,(List.take_length).symm⟩
  ·cases hj
 ·simp only [Od,List.all_append,List.all_cons,List.all_nil,Bool.and_true,Bool.and_eq_true,bne_iff_ne] at hfr ⊢;exact ⟨hfr.1,by simpa using hog,hfr.2⟩
 ·simp only [List.cons_append,List.nil_append,Ly];split
  ·exact .inl rfl
  ·rename_i h2;exact .inr ⟨rfl,fun j _ e=>h2 (by rw [e];exact ⟨rfl,rfl,by simp [kid]⟩)⟩
theorem Ak8 {G:World->Prop} {tl:List (Nat×AV)} {ol:List (Oid×Option Ob)} {g:Nat} (s:Nat) (o p:Oid) {e1 e:TypeId} {u:Ty} {xss:List (List u.D)} {k:Nat} (hfl:u.flat=true) (ho:Aj ol o=some (.vec e1 1 k ((hdL p u xss).take k))) (hp:Fb ol p=some (.pool e u xss)) (hk:k<=xss.length) (hog:(o.2==g)=false) (hfr:Od g ((p,some (.pool e u [])) :: ol)=true) :
  WeakG G ⟨Am tl,Aj ol,g⟩ ⟨Am tl,Aj ((o,some (.mat e1 ((s,0),g) u (xss.take k))) :: (((s,0),g),some (.pool e u (xss.take k))) :: (p,some (.pool e u [])) :: ol),g+1⟩:=by
 refine J9 s o (fun j=>kid p j) [(p,some (.pool e u []))] hfl ho (by rw [List.length_take];omega) (fun j row hj=>?_) (fun a b _ _ hab=>Fm hab) hog hfr (fun i hi=>?_)
 ·rw [List.getElem?_take] at hj ⊢;split at hj
  ·rename_i hlt;rw [if_pos hlt,Eh,hj];exact ⟨rfl,row,Be hp hj,Nat.le_refl _,(List.take_length).symm⟩
  ·cases hj
 ·simp only [List.cons_append,List.nil_append,Ly];split
  ·exact .inl rfl
  ·rename_i h2;exact .inr ⟨rfl,fun j _ e=>h2 (by rw [e];exact ⟨rfl,rfl,by simp [kid]⟩)⟩
section
variable {f:Nat->AV} {ob:Oid->Option Ob} {n:Nat} {d:Option Nat}
theorem Ann {sz:Nat} {x hi mx:Opd} {i:Oid} {t:Ty} {len N:Nat} {e:TypeId} {cs:List AV} {kh km:IntKind} {h m:Int} {j:Nat} (hx:x.ev f=.own i t 0 len) (hob:ob i=some (.vec e 1 N cs)) (hh:hi.ev f=.int kh h) (hm:mx.ev f=.int km m) (hs:t.size=sz) (hb:0<=h/\h<=m/\m<=(len:Int)) (hj:h.toNat=j) (hk:j<=N) :
  A9 n ⟨d,none,.slice sz x none (some hi) (some mx)⟩ f ob=some (2,.own ((d.getD 0,0),n) t 0 j,[(i,none),(((d.getD 0,0),n),some (.vec e 1 j (cs.take j)))]):=by
 subst hj;simp [A9,ev,Vs,Ks,Fz,hx,hob,hh,hm,hs,hb,Af8,hk,AV.un]
theorem Wq:∀ (n:Nat) (l:List Int),l.length=n+1->Sb ((tyA n).av (G5 n l))=some l
 | 0,[x],_=>rfl
 | 0,[],h=>by cases h
 | 0,_ :: _ :: _,h=>by simp at h
 | n+1,[],h=>by cases h
 | n+1,x :: l,h=>by
  have:=Wq n l (by simpa using h);simp only [tyA,G5,Ty.av,List.cons_append,List.nil_append,List.tail_cons,List.getD_cons_zero,Sb,this]
theorem Avi {neg:Bool} {N:Nat} {x y:Opd} {l l':List Int} (hx:x.ev f=.agg ((tyA N).av (G5 N l))) (hy:y.ev f=.agg ((tyA N).av (G5 N l'))) (h1:l.length=N+1/\l'.length=N+1) :
  A9 n ⟨d,none,.i (.cmp neg (N+4) x y)⟩ f ob=some (0,.bool (if neg then !(l==l') else l==l'),[]):=by
 have e1:=Wq N l h1.1;have e2:=Wq N l' h1.2;have e3:=Sa N l;simp [A9,ev,evN,X2,Af6,hx,hy,AV.un,e1,e2,e3,h1]
end
end
section
open Go.RowKit Go.Deep
inductive Ctl (σ ρ:Type) where
 | next (s:σ)
 | out (r:ρ)
def Ctl.then {σ β:Type} (k:σ->Option β):Ctl σ β->Option β
 | .next t=>k t
 | .out r=>some r
section
variable {α β σ τ ρ:Type}
def og (c:Prop) [Decidable c] (k:Option α):Option α:=if c then k else none
theorem Ak {c:Prop} [Decidable c] {k:Option α} {r:α} (h:og c k=some r):c/\k=some r:=by
 unfold og at h;split at h
 ·rename_i hc;exact ⟨hc,h⟩
 ·cases h
theorem Af {c:Prop} [Decidable c] (h:c) (k:Option α):og c k=k:=if_pos h
theorem Ah {o:Option α} {f:α->Option β} {b:β} (h:o.bind f=some b):∃ a,o=some a/\f a=some b:=Option.bind_eq_some_iff.1 h
theorem A0 {c:Bool} {a b:Option α} {r:α} (h:cond c a b=some r):(c=true/\a=some r)∨(c=false/\b=some r):=by
 cases c
 ·exact .inr ⟨rfl,h⟩
 ·exact .inl ⟨rfl,h⟩
def Dn (a:Option (Ctl τ β)) (k:τ->Option β):Option β :=
 a.bind (Ctl.then k)
theorem An0 {a:Option (Ctl τ β)} {k:τ->Option β} {r:β} (h:Dn a k=some r):∃ v,a=some v/\Ctl.then k v=some r:=Ah h
def Aq (body:σ->Option (Ctl σ ρ)):Nat->σ->Option ρ
 | 0,_=>none
 | n+1,s=>(body s).bind (Ctl.then (Aq body n))
theorem Acj {body:σ->Option (Ctl σ ρ)} {n:Nat} {s:σ} {v:ρ} (h:Aq body (n+1) s=some v):∃ c,body s=some c/\Ctl.then (Aq body n) c=some v:=Ah h
theorem Ac4 {body:σ->Option (Ctl σ ρ)} {s:σ} {v:ρ} (h:Aq body 0 s=some v):False:=by cases h
def Cl (xs:List α) (n:Int):Option α:=if 0<=n then xs[n.toNat]? else none
theorem Ai {xs:List α} {k:Nat} {x:α} (h:xs[k]? =some x):k<xs.length:=(gSi.1 h).1
theorem Ax {xs:List α} {n:Int} {x:α} (h:Cl xs n=some x):0<=n/\n<xs.length/\xs[n.toNat]? =some x:=by
 unfold Cl at h;split at h
 ·rename_i h0;have:=Ai h;exact ⟨h0,by omega,h⟩
 ·cases h
theorem Bs {xs:List α} {n:Int} (h:0<=n):Cl xs n=xs[n.toNat]?:=if_pos h
end
section
variable {P:Program} {G:World->Prop} {σ τ β ρ:Type}
theorem Aoy {x y:AC} {R:AE->St->Prop} {S:St} {A:Option τ} {k:τ->Option β} {r:β} (h:A.bind k=some r) (J:τ->St->Prop) (h1:∀ t,A=some t->awp P G x (Hx (fun S'=>∃ S'',WeakG G S' S''/\J t S'') R) S) (h2:∀ t S'',J t S''->k t=some r->awp P G y R S''):awp P G (.seq x y) R S:=by
 obtain ⟨t,ha,hk⟩:=Ah h;exact Aev (J t) (h1 t ha) fun S'' hj=>h2 t S'' hj hk
theorem Aqy {x y:AC} {R:AE->St->Prop} {S:St} {A:Option (Ctl τ β)} {k:τ->Option β} {r:β} (h:Dn A k=some r) (J:τ->St->Prop)
  (h1:∀ v,A=some v->Ctl.then k v=some r->awp P G x (Hx (fun S'=>∃ t S'',v=.next t/\WeakG G S' S''/\J t S'') R) S) (h2:∀ t S'',J t S''->k t=some r->awp P G y R S''):awp P G (.seq x y) R S:=by
 obtain ⟨v,ha,hk⟩:=An0 h;refine Aev (fun S''=>∃ t,v=.next t/\J t S'') (Dg (fun e S' hq=>?_) (h1 v ha hk)) fun S'' ⟨t,hv,hj⟩=>?_
 ·cases e with
  | normal=>obtain ⟨t,S'',hv,hw,hj⟩:=hq;exact ⟨S'',hw,t,hv,hj⟩
  | exit id=>exact hq
  | ret=>exact hq
 ·subst hv;exact h2 t S'' hj hk
theorem Ani {a:AC} {R:AE->St->Prop} {S:St} {body:σ->Option (Ctl σ ρ)} {fuel:Nat} {s0:σ} {v:ρ} (h:Aq body fuel s0=some v) (J:σ->St->Prop) (h0:∃ S0,WeakG G S S0/\J s0 S0)
  (h1:∀ n s S1 c,J s S1->body s=some c->Ctl.then (Aq body n) c=some v->awp P G a (Hx (fun S2=>∃ s' S3,WeakG G S2 S3/\J s' S3/\Aq body n s'=some v) R) S1):awp P G (.loop a) R S:=by
 obtain ⟨S0,hw,hj⟩:=h0;refine Anx (fun (p:Nat×σ) S=>Aq body p.1 p.2=some v/\J p.2 S) (·.1) ⟨(fuel,s0),S0,hw,h,hj⟩ ?_;rintro ⟨n,s⟩ S1 ⟨hl,hj⟩;cases n with
 | zero=>exact (Ac4 hl).elim
 | succ n =>
  obtain ⟨c,hc,hn⟩:=Acj hl;refine Dg (fun e S2 hq=>?_) (h1 n s S1 c hj hc hn);cases e with
  | normal=>obtain ⟨s',S3,hw,hj,hl⟩:=hq;exact ⟨(n,s'),S3,hw,⟨hl,hj⟩,Nat.lt_succ_self n⟩
  | exit id=>exact hq
  | ret=>exact hq
end
theorem C1 (n:Nat):0<=(n:Int):=by omega
theorem Aw2 {α:Type} (e:α) {a b:α} (h:a=b) (he:a=e):e=b:=he▸h
end
section
open Go.RowKit Go.Deep
def H2 (a0:Int):Option Bool:=some (isF a0)
def Yx (r:Bool):RV:=⟨false,[(false,[.sc (.bool r)])]⟩
theorem Rk {a0:Int} {r:Bool} (h:H2 a0=some r):Dr Tryz.prog Tab 106 [.int .i64 a0] (Yx r):=by
 obtain rfl:=osj h;intro w im vs hG hr;obtain ⟨u1,_,rfl,h1,h2⟩:=hr;obtain rfl:_=[]:=h2;obtain rfl:u1=.int .i64 a0:=h1;refine (Aja a0 w (hG w (Below.refl _ _))).mono ?_;rintro e w' ⟨rfl,rfl⟩;exact ⟨_,rfl,Below.refl _ _,[_],[],⟨_,[],rfl,rfl,rfl,rfl,rfl⟩,⟨trivial,fun _=>rfl⟩,rfl⟩
end
section
open Go.RowKit Go.Deep
theorem Awj {f:Nat->AV} {ob:Oid->Option Ob} {d:Option Nat} {gd:Option (Nat×Bool)} {fo y:Opd} {ys:List Opd} {tys:List (List (Option Ty))} {i p:Oid} {t u:Ty} {off len z m k:Nat} {e1:TypeId} {xss:List (List u.D)} (n:Nat) (hy:ys[n]? =some y) (he:y.ev f=.own i t off len) (hob:ob i=some (.vec e1 z m (hdL p u xss))) (hk:k<xss.length):kid p k∈rdX f ob ⟨d,gd,.call fo ys tys⟩:=by
 refine List.mem_flatMap.2 ⟨y,List.mem_cons_of_mem _ (List.mem_of_getElem? hy),?_⟩;rw [he];show kid p k∈Lq ob (7+1) (.own i t off len);unfold Lq;dsimp only;rw [hob];refine List.mem_cons_of_mem _ (List.mem_flatMap.2 ⟨.own (kid p k) u 0 xss[k].length,List.mem_of_getElem? (i:=k) (by rw [Eh,gEg hk];rfl),?_⟩);exact List.mem_singleton.2 rfl
theorem Ab9 {f:Nat->AV} {ob:Oid->Option Ob} {d:Option Nat} {gd:Option (Nat×Bool)} {fo y:Opd} {ys:List Opd} {tys:List (List (Option Ty))} {i p:Oid} {t u:Ty} {off len z m:Nat} {e e1:TypeId} {xss:List (List u.D)} (n:Nat) (hy:ys[n]? =some y) (he:y.ev f=.own i t off len) (hob:ob i=some (.vec e1 z m (hdL p u xss))) (hr:∀ (k:Nat) (row:List u.D),xss[k]? =some row->ob (kid p k)=some (.arr e u row)) (k:Nat) (row:List u.D) (h:xss[k]? =some row):only (rdX f ob ⟨d,gd,.call fo ys tys⟩) ob (kid p k)=some (.arr e u row):=(E6 (Awj n hy he hob (gSi.1 h).1)).trans (hr k row h)
end
section
open Go.RowKit Go.Deep
theorem Aca:∀ (n:Nat) (l:List Int),l.length=n+1->(tyA n).av (G5 n l)=l.map (AV.int .i64)
 | 0,[x],_=>rfl
 | 0,[],h=>by cases h
 | 0,_ :: _ :: _,h=>by simp at h
 | n+1,[],h=>by cases h
 | n+1,x :: l,h=>by
  have:=Aca n l (by simpa using h);simp only [tyA,G5,Ty.av,List.tail_cons,this];rfl
theorem Ass {f:Nat->AV} {ob:Oid->Option Ob} {d:Option Nat} {gd:Option (Nat×Bool)} {fo y:Opd} {ys:List Opd} {tys:List (List (Option Ty))} {az:List AV} {i p:Oid} {t u:Ty} {off len z m k:Nat} {e1:TypeId} {xss:List (List u.D)} (n j:Nat) (hy:ys[n]? =some y) (he:y.ev f=.agg az) (hj:az[j]? =some (.own i t off len)) (hob:ob i=some (.vec e1 z m (hdL p u xss))) (hk:k<xss.length):kid p k∈rdX f ob ⟨d,gd,.call fo ys tys⟩:=by
 refine List.mem_flatMap.2 ⟨y,List.mem_cons_of_mem _ (List.mem_of_getElem? hy),?_⟩;rw [he];show kid p k∈Lq ob (7+1) (.agg az);unfold Lq;dsimp only;refine List.mem_flatMap.2 ⟨_,List.mem_of_getElem? hj,?_⟩;show kid p k∈Lq ob (6+1) (.own i t off len);unfold Lq;dsimp only;rw [hob];refine List.mem_cons_of_mem _ (List.mem_flatMap.2 ⟨.own (kid p k) u 0 xss[k].length,List.mem_of_getElem? (i:=k) (by rw [Eh,gEg hk];rfl),?_⟩);exact List.mem_singleton.2 rfl
theorem Uc {f:Nat->AV} {ob:Oid->Option Ob} {d:Option Nat} {gd:Option (Nat×Bool)} {fo y:Opd} {ys:List Opd} {tys:List (List (Option Ty))} (az:List AV) {i p:Oid} {t u:Ty} {off len z m:Nat} {e e1:TypeId} {xss:List (List u.D)} (n j:Nat) (hy:ys[n]? =some y) (he:y.ev f=.agg az) (hj:az[j]? =some (.own i t off len)) (hob:ob i=some (.vec e1 z m (hdL p u xss))) (hr:∀ (k:Nat) (row:List u.D),xss[k]? =some row->ob (kid p k)=some (.arr e u row)) (k:Nat) (row:List u.D) (h:xss[k]? =some row):only (rdX f ob ⟨d,gd,.call fo ys tys⟩) ob (kid p k)=some (.arr e u row):=(E6 (Ass n j hy he hj hob (gSi.1 h).1)).trans (hr k row h)
theorem Zp {f:Nat->AV} {ob:Oid->Option Ob} {d:Option Nat} {gd:Option (Nat×Bool)} {fo y:Opd} {ys:List Opd} {tys:List (List (Option Ty))} (az:List AV) {i:Oid} {t:Ty} {off len:Nat} (n j:Nat) (hy:ys[n]? =some y) (he:y.ev f=.agg az) (hj:az[j]? =some (.own i t off len)):i∈rdX f ob ⟨d,gd,.call fo ys tys⟩:=by
 refine List.mem_flatMap.2 ⟨y,List.mem_cons_of_mem _ (List.mem_of_getElem? hy),?_⟩;rw [he];show i∈Lq ob (7+1) (.agg az);unfold Lq;dsimp only;refine List.mem_flatMap.2 ⟨_,List.mem_of_getElem? hj,?_⟩;show i∈Lq ob (6+1) (.own i t off len);unfold Lq;dsimp only;split <;> simp
theorem Aur {vs:List Value} {ob:Oid->Option Ob}:∀ (n:Nat) (l:List Int),LeavesR vs ob ((tyA n).av (G5 n l)) (((tyA n).av (G5 n l)).map .sc)
 | 0,_=>D5 (Aro rfl) T2
 | n+1,l=>D5 (Aro rfl) (Aur n l.tail)
section
variable {n:Nat} {d:Option Nat} {f:Nat->AV} {ob:Oid->Option Ob}
theorem Axi {N:Nat} {x:Opd} {i:Oid} {j:Nat} {e:TypeId} {xs:List (tyA N).D} (hx:x.ev f=.elt i j 0) (hob:ob i=some (.arr e (tyA N) xs)) (hs:(tyA N).size=N+1):A9 n ⟨d,none,.slA (N+1) x⟩ f ob=some (1,.sla i j (N+1),[]):=by
 simp [A9,ev,Alm,hx,hob,hs]
theorem Asm {N:Nat} {x y:Opd} {i:Oid} {e:TypeId} {l ys zs:List Int} (hx:x.ev f=.sla i 0 (N+1)) (hy:Ea ob .int (y.ev f)=some ys) (hob:ob i=some (.arr e (tyA N) [G5 N l])) (hs:(tyA N).size=N+1) (hl:l.length=N+1) (hz:ys.take (N+1)++l.drop (ys.take (N+1)).length=zs) :
  A9 n ⟨d,none,.copy x y⟩ f ob=some (2,.int .i64 ((ys.take (N+1)).length:Nat),[(i,none),(i,some (.arr e (tyA N) [G5 N zs]))]):=by
 subst hz
 have hzl:(ys.take (N+1)++l.drop (ys.take (N+1)).length).length=N+1:=by
  simp only [List.length_append,List.length_take,List.length_drop];omega
 have h1:=Aca N l hl;have h2:=Aca N _ hzl;have h3:=Xe N (ys.take (N+1)++l.drop (ys.take (N+1)).length);have h4:(ys.take (N+1)).length<=N+1:=by rw [List.length_take];omega
 have hc:J0 false (ys.take (N+1)).length 0 ((tyA N).av (G5 N l)) (.agg ((ys.take (N+1)).map (AV.int .i64)))=some ((tyA N).av (G5 N (ys.take (N+1)++l.drop (ys.take (N+1)).length))):=by
  rw [h1,h2];generalize ys.take (N+1)=z at h4 ⊢;have h5:(z.map (AV.int .i64)).all AV.one=true:=by rw [List.all_eq_true];intro a ha;obtain ⟨b,_,rfl⟩:=List.mem_map.1 ha;rfl
  simp only [J0,Bool.false_eq_true,if_false,List.length_map,Nat.zero_add,List.take_zero,List.nil_append,List.map_append,List.map_drop];rw [if_pos (by first|exact ⟨rfl,by omega,h5⟩|exact ⟨trivial,by omega,h5⟩)]
 have e1:Rd f ob x y=some (.int .i64 ((ys.take (N+1)).length:Nat),[(i,none),(i,some (.arr e (tyA N) [G5 N (ys.take (N+1)++l.drop (ys.take (N+1)).length)]))]):=by
  unfold Rd;rw [hx];dsimp only;rw [hy];dsimp only;rw [hob];dsimp only [List.getElem?_cons_zero];rw [hc];dsimp only;rw [h3];dsimp only;rw [if_pos hs];rfl
 simp only [A9,ev,e1]
end
end
section
open Go.RowKit Go.Deep
theorem Ask {n:Nat} {ob:Oid->Option Ob} {o p:Oid} {e1 e:TypeId} {u:Ty} {xss ys:List (List u.D)} {off len:Nat} (ho:ob o=some (.vec e1 1 xss.length (hdL p u xss))) (hk:∀ k row,xss[k]? =some row->ob (kid p k)=some (.arr e u row))
  (hl:off+len<=xss.length) (hy:(xss.drop off).take len=ys):gnd ob (n+1) (.own o (.slice u) off len)=some (.tree (.slice u) ys):=by
 subst hy;have hlen:((xss.drop off).take len).length=len:=by rw [List.length_take,List.length_drop];omega
 have key:Yp ob 1 (rdC ob (.slice u)) (.own o (.slice u) off len)=some ((xss.drop off).take len):=by
  simp only [Yp,ho];rw [if_pos ⟨trivial,hl⟩]
  have:=Qv (g:=rdC ob (.slice u)) (cs:=((hdL p u xss).drop (off*1)).take (len*1)) (xs:=(xss.drop off).take len) (by simp only [Nat.mul_one,List.length_take,List.length_drop,C8]) (fun k c x hc hx=>by
   rw [List.getElem?_take,List.getElem?_drop] at hx;rw [Nat.mul_one,Nat.mul_one,List.getElem?_take,List.getElem?_drop,Eh] at hc;split at hx
   ·rename_i hkl;rw [if_pos hkl,hx] at hc;obtain rfl:=osj hc;have:=hk _ x hx;simp only [rdC,Ea,this,Nat.zero_add,Nat.le_refl,if_true,Ty.eq?_self,Ch,List.drop_zero,List.take_length]
   ·cases hx)
  rw [hlen] at this;exact this
 simp only [gnd,ho,Ty.size,key,Option.map_some]
theorem Aqm {G:World->Prop} {S:St} {ob' obD:Oid->Option Ob} {tm':Nat->AV} (h1:∀ i o,ob' i=some o->S.ob i=some o) (h2:∀ i o,obD i=some o->S.ob i=some o/\ob' i=none) (h3:∀ t,tm' t=S.tm t∨∃ n,gnd obD n (S.tm t)=some (tm' t)):WeakG G S ⟨tm',ob',S.gen⟩:=by
 intro w0 B N a w hr;obtain ⟨σ,hm,hf,hB⟩:=hr.ex;have him:∀ b,imm S.ob σ b->imm ob' σ b:=fun b hb i o c s ho=>hb i o c s (h1 i o ho)
 have hL:Later σ σ (imm S.ob σ) (imm ob' σ) w w:=⟨fun _ _ h=>h,fun b _ hb=>him b hb,fun _ _ _=>rfl,Nat.le_refl _⟩
 refine ⟨⟨σ,⟨hm.below,hm.inv,hm.gen,hm.lt,hm.cap,fun i j b c s c' s' o o' hi hj=>hm.inj i j b c s c' s' o o' (h1 i o hi) (h1 j o' hj),fun i o l hi hl=>(hm.obs i o l (h1 i o hi) hl).later hL fun _ _ _ _=>rfl⟩,fun t=>?_,hB.trans hL⟩,hr.size,hr.defers,fun i hi=>?_⟩
 ·rcases h3 t with e|⟨n,e⟩
  ·show AV.Rep σ (imm ob' σ) w (tm' t) _;rw [e];exact AV.Rep.later hL _ _ (hf t)
  ·refine Kw (ob:=obD) (lo:=w0.heap.size) (im:=imm S.ob σ) (fun i o l ho hl=>hm.obs i o l (h2 i o ho).1 hl) him (fun i o b c s ho hs j o' c' s' hj hs'=>?_) n _ _ _ e (hf t);have:=hm.inj i j b c s c' s' o o' (h2 i o ho).1 (h1 j o' hj) hs hs';subst this;rw [(h2 _ o ho).2] at hj;cases hj
 ·refine hr.obg i fun hn=>hi ?_
  cases ho:ob' i with
  | none=>exact ho
  | some o=>rw [h1 i o ho] at hn;cases hn
end
section
open Go.RowKit Go.Deep
def GN (G:World->Prop) (n:Nat) (w:World):Prop:=G w/\n<=w.heap.size
def AV.toR (R:Nat->Prop):AV->AV
 | .tree t xs=>.ftr R t xs
 | c=>c
def RL.toR (R:Nat->Prop):RL->RL
 | .frz c=>.frz (c.toR R)
 | .imm c=>.imm (c.toR R)
 | l=>l
def RV.toR (R:Nat->Prop) (r:RV):RV:=⟨r.tup,r.ps.map fun p=>(p.1,p.2.map (RL.toR R))⟩
section
variable {P:Program} {G:World->Prop} {f:FuncId} {args:List AV} {r:RV} {n:Nat} {R:Nat->Prop}
theorem Oc (h:Dr P G f args r):Dr P (GN G n) f args r:=fun w im vs hG hr=>h w im vs (fun w' hb=>(hG w' hb).1) hr
theorem Aj6 {ol us:List (Oid×Ob)} {v:AV} (h:Cm P G f args ol v us):Cm P (GN G n) f args ol v us:=by
 intro θ i w0 ob σ K w vs hM h1 h2 h3 h4 h5;refine (h θ i w0 ob σ K w vs ⟨hM.below,fun w' hb=>(hM.inv w' hb).1,hM.gen,hM.lt,hM.cap,hM.inj,hM.obs⟩ h1 h2 h3 h4 h5).mono ?_;rintro e w' ⟨u,rfl,σ',q1,q2,q3⟩;exact ⟨u,rfl,σ',q1,⟨q2.below,hM.inv,q2.gen,q2.lt,q2.cap,q2.inj,q2.obs⟩,q3⟩
theorem Ale {c:AV} (h:c.gndB=true):(c.toR R).gndB=true:=by
 cases c <;> first|exact h|rfl
theorem Amn {c:AV} {im im':Nat->Prop} {w:World} {u:Value} (hg:c.gndB=true) (h1:∀ b,im b->im' b) (h2:∀ b,im b->R b) (h:AV.Rep (fun _=>none) im w c u):AV.Rep (fun _=>none) im' w (c.toR R) u:=by
 cases c <;> first|exact Ol h1 _ hg _ h|skip
 obtain ⟨A,c,l,e,hs⟩:=h;exact ⟨A,c,l,e,B4 (fun b _ hb=>⟨h1 b hb,h2 b hb⟩) hs⟩
theorem Mx {lo:Nat} {im im':Nat->Prop} {vs:List Value} {w:World} (hR:∀ b,lo<=b->R b) (him:∀ b,im' b->im b):∀ {rs:List RL} {us:List Value} {ls:List Loc},(∀ l∈rs,l.isI=true->∀ b,im' b->R b)->RL.RepL lo im' vs w rs us ls->RL.RepL lo im vs w (rs.map (RL.toR R)) us ls
 | [],_,_,_,h=>h
 | .sc c :: _,_,_,hI,⟨u,us',e,q1,q2,q3⟩=>⟨u,us',e,(by cases c <;> first|exact q1|cases q2),q2,Mx hR him (fun l hl=>hI l (List.mem_cons_of_mem _ hl)) q3⟩
 | .new _ _ _ :: _,_,_,hI,⟨l,ls',us',e1,e2,q1,q2,q3,q4⟩=>⟨l,ls',us',e1,e2,q1,q2,q3,Mx hR him (fun l hl=>hI l (List.mem_cons_of_mem _ hl)) q4⟩
 | .newM _ _ _ _ :: _,_,_,hI,⟨l,kl,ls',us',ks,e1,e2,q,q4⟩=>⟨l,kl,ls',us',ks,e1,e2,q,Mx hR him (fun l hl=>hI l (List.mem_cons_of_mem _ hl)) q4⟩
 | .arg _ _ :: _,_,_,hI,⟨u,us',e,q1,q3⟩=>⟨u,us',e,q1,Mx hR him (fun l hl=>hI l (List.mem_cons_of_mem _ hl)) q3⟩
 | .argS _ _ _ _ _ :: _,_,_,hI,⟨A,m,c,us',e,q1,q3⟩=>⟨A,m,c,us',e,q1,Mx hR him (fun l hl=>hI l (List.mem_cons_of_mem _ hl)) q3⟩
 | .frz c :: _,_,_,hI,⟨u,us',e,q1,q2,q3⟩=>⟨u,us',e,Amn q2 (fun _ h=>h) (fun b hb=>hR b hb) q1,Ale q2,Mx hR him (fun l hl=>hI l (List.mem_cons_of_mem _ hl)) q3⟩
 | .imm c :: _,_,_,hI,⟨u,us',e,q1,q2,q3⟩=>⟨u,us',e,Amn q2 (fun b hb=>hb.imp (him b) id) (fun b hb=>hb.elim (hI _ List.mem_cons_self rfl b) (hR b)) q1,Ale q2,Mx hR him (fun l hl=>hI l (List.mem_cons_of_mem _ hl)) q3⟩
theorem Aa0:∀ (ps:List (Bool×List RL)) (us:List Value),J5 (ps.map fun p=>(p.1,p.2.map (RL.toR R))) us=J5 ps us
 | [],_=>rfl
 | (b,rs) :: ps,us=>by simp only [List.map_cons,J5,List.length_map,Aa0 ps]
theorem Abi (r:RV):(r.toR R).leaves=r.leaves.map (RL.toR R):=by
 simp only [RV.leaves,RV.toR,List.flatMap_map,List.map_flatMap]
theorem Avn (l:RL):(l.toR R).fi=l.fi:=by cases l <;> rfl
theorem At3 {lo:Nat} {im im':Nat->Prop} {vs:List Value} {w:World} {u:Value} (hR:∀ b,lo<=b->R b) (him:∀ b,im' b->im b) (hI:(∃ l∈r.leaves,l.isI=true)->∀ b,im' b->R b) (h:r.Rep lo im' vs w u):(r.toR R).Rep lo im vs w u:=by
 obtain ⟨us,ls,q1,⟨q2,q3⟩,q4⟩:=h;refine ⟨us,ls,by rw [Abi];exact Mx hR him (fun l hl hi=>hI ⟨l,hl,hi⟩) q1,⟨q2,fun ⟨c,hc,hd⟩=>q3 ?_⟩,?_⟩
 ·rw [Abi] at hc;obtain ⟨l,hl,e⟩:=List.mem_map.1 hc;subst e;rw [Avn] at hd;exact ⟨l,hl,hd⟩
 ·rw [q4];simp only [RV.toR,Aa0]
theorem Jh (hR:∀ b,n<=b->R b) (h:Dr P G f args r) (hni:r.noI=true:=by kernel_rfl):Dr P (GN G n) f args (r.toR R):=by
 intro w im vs hG hr;have hn:n<=w.heap.size:=(hG w (Below.refl _ _)).2;refine (h w im vs (fun w' hb=>(hG w' hb).1) hr).mono ?_;rintro e w' ⟨u,rfl,hb,hrv⟩;refine ⟨u,rfl,hb,At3 (fun b hb=>hR b (Nat.le_trans hn hb)) (fun _ h=>h) (fun ⟨l,hl,hi⟩=>?_) hrv⟩;have:=List.all_eq_true.1 hni l hl;rw [hi] at this;cases this
mutual
def AV.unR (R:Nat->Prop):AV->AV->Prop
 | .tree t xs,d=>d=.ftr R t xs
 | .agg cs,d=>∃ ds,d=.agg ds/\AV.unRL R cs ds
 | c,d=>c.scal=true/\d=c
def AV.unRL (R:Nat->Prop):List AV->List AV->Prop
 | [],ds=>ds=[]
 | c :: cs,ds=>∃ d ds',ds=d :: ds'/\AV.unR R c d/\AV.unRL R cs ds'
end
mutual
theorem Atf {im:Nat->Prop} {w:World}:∀ (c d:AV) (u:Value),AV.unR R c d->AV.Rep (fun _=>none) im w d u->AV.Rep (fun _=>none) (fun b=>im b/\R b) w c u
 | .tree t xs,d,u,h,hr=>by
  have h:d=.ftr R t xs:=h;subst h;exact hr
 | .agg cs,d,u,⟨ds,e,h⟩,hr=>by
  subst e;obtain ⟨us,e,hr⟩:=hr;exact ⟨us,e,Ag5 cs ds us h hr⟩
 | .int ..,d,u,⟨_,e⟩,hr=>by subst e;exact hr
 | .bool ..,d,u,⟨_,e⟩,hr=>by subst e;exact hr
 | .str ..,d,u,⟨_,e⟩,hr=>by subst e;exact hr
 | .err ..,d,u,⟨h,e⟩,hr=>by first|(cases h;done)|(subst e;exact hr)
 | .nils,d,u,⟨_,e⟩,hr=>by subst e;exact hr
 | .any,d,u,⟨h,_⟩,_=>by cases h
 | .mtree ..,d,u,⟨h,_⟩,_=>by cases h
 | .ftr ..,d,u,⟨h,_⟩,_=>by cases h
 | .mp _,d,u,⟨h,_⟩,_=>by cases h
 | .tup _,d,u,⟨h,_⟩,_=>by cases h
 | .fn ..,d,u,⟨h,_⟩,_=>by cases h
 | .ref _,d,u,⟨h,_⟩,_=>by cases h
 | .own ..,d,u,⟨h,_⟩,_=>by cases h
 | .box ..,d,u,⟨h,_⟩,_=>by cases h
 | .elt ..,d,u,⟨h,_⟩,_=>by cases h
 | .sla ..,d,u,⟨h,_⟩,_=>by cases h
 | .telt ..,d,u,⟨h,_⟩,_=>by cases h
 | .giv ..,d,u,⟨h,_⟩,_=>by cases h
 | .abool ..,d,u,⟨h,_⟩,_=>by cases h
theorem Ag5 {im:Nat->Prop} {w:World}:∀ (cs ds:List AV) (us:List Value),AV.unRL R cs ds->AV.RepL (fun _=>none) im w ds us->AV.RepL (fun _=>none) (fun b=>im b/\R b) w cs us
 | [],ds,us,h,hr=>by obtain rfl:ds=[]:=h;exact hr
 | c :: cs,ds,us,⟨d,ds',e,h1,h2⟩,hr=>by
  subst e;obtain ⟨u,us',e,r1,r2⟩:=hr;exact ⟨u,us',e,Atf c d u h1 r1,Ag5 cs ds' us' h2 r2⟩
end
end
-- rows of things that nobody writes
theorem Ns {m:Option (Nat->Prop)} {t:Ty} (xs:List t.D):(tvC m t xs).length=xs.length*t.size:=by
 unfold tvC
 induction xs with
 | nil=>simp
 | cons x xs ih=>rw [List.flatMap_cons,List.length_append,ih,Ei,List.length_cons,Nat.succ_mul];omega
theorem Zt {m:Option (Nat->Prop)} {t:Ty} (xs ys:List t.D):tvC m t (xs++ys)=tvC m t xs++tvC m t ys:=by simp [tvC]
theorem Aq7 {m:Option (Nat->Prop)} {t:Ty}:∀ {xs:List t.D} {j:Nat} {x:t.D},xs[j]? =some x->((tvC m t xs).drop (j*t.size)).take t.size=t.avM m x
 | [],_,_,h=>by simp at h
 | y :: r,0,x,h=>by
  obtain rfl:=osj h;simp only [tvC,List.flatMap_cons,Nat.zero_mul,List.drop_zero];rw [List.take_append_of_le_length (by rw [Ei];exact Nat.le_refl _),List.take_of_length_le (by rw [Ei];exact Nat.le_refl _)]
 | y :: r,j+1,x,h=>by
  have ih:=Aq7 (m:=m) (xs:=r) (j:=j) (x:=x) (by simpa using h);have e:tvC m t (y :: r)=t.avM m y++tvC m t r:=rfl;rw [e,Nat.succ_mul,Nat.add_comm,← List.drop_drop];have h2:(t.avM m y++tvC m t r).drop t.size=tvC m t r:=List.drop_left' (Ei m t y);rw [h2];exact ih
theorem Aj1 {ob:Oid->Option Ob} (m:Option (Nat->Prop)):∀ (t:Ty) (x:t.D),rdC ob t (t.avM m x)=some x
 | .int,_=>rfl
 | .bool,_=>rfl
 | .str,_=>rfl
 | .slice t,xs=>by
  have:Ea ob t (trM m t xs)=some xs:=by cases m <;> simp only [trM,Ea,Ty.eq?_self,Ch]
  simp only [Ty.avM,rdC,this]
 | .pair a b,x=>by
  have h1:(a.avM m x.1++b.avM m x.2).take a.size=a.avM m x.1:=List.take_left' (Ei m a x.1);have h2:(a.avM m x.1++b.avM m x.2).drop a.size=b.avM m x.2:=List.drop_left' (Ei m a x.1);simp only [Ty.avM,rdC,h1,h2,Aj1 m a,Aj1 m b]
theorem Wx {ob:Oid->Option Ob} {m:Option (Nat->Prop)} {t:Ty}:∀ (xs:List t.D),I8 (rdC ob t) t.size xs.length (tvC m t xs)=some xs
 | []=>rfl
 | x :: xs=>by
  have h1:(tvC m t (x :: xs)).take t.size=t.avM m x:=List.take_left' (Ei m t x);have h2:(tvC m t (x :: xs)).drop t.size=tvC m t xs:=List.drop_left' (Ei m t x);simp only [List.length_cons,I8,h1,h2,Aj1,Wx xs]
section
variable {ob:Oid->Option Ob}
theorem Ah1 {n len:Nat} {o:Oid} {e:TypeId} {m:Option (Nat->Prop)} {t:Ty} {xs:List t.D} (ho:ob o=some (.vec e t.size xs.length (tvC m t xs))) (hl:len=xs.length):gnd ob (n+1) (.own o t 0 len)=some (.tree t xs):=by
 subst hl
 have:Yp ob t.size (rdC ob t) (.own o t 0 xs.length)=some xs:=by
  simp only [Yp,ho];rw [if_pos ⟨trivial,by omega⟩,Nat.zero_mul,List.drop_zero,List.take_of_length_le (by rw [Ns];exact Nat.le_refl _)];exact Wx xs
 simp only [gnd,ho,this,Option.map_some]
end
theorem E4 {G:World->Prop} {tl:List (Nat×AV)} {ol:List (Oid×Option Ob)} {g:Nat} (o:Oid) (e:TypeId) (m:Option (Nat->Prop)) (t:Ty) (xs:List t.D) {N:Nat} (h:Aj ol o=some (.vec e t.size N (tvC m t xs))) (hN:N=xs.length):WeakG G ⟨Am tl,Aj ol,g⟩ ⟨Am tl,Aj ((o,some (.tv e m t xs)) :: ol),g⟩:=by
 subst hN
 have:Aj ((o,some (.tv e m t xs)) :: ol)=Aj ol:=by
  funext i;show (if i=o then some (.vec e t.size xs.length (tvC m t xs)) else Aj ol i)=Aj ol i;by_cases hi:i=o
  ·rw [if_pos hi,hi,h]
  ·rw [if_neg hi]
 rw [this];exact WeakG.refl _
theorem Yg {G:World->Prop} {tl:List (Nat×AV)} {ol:List (Oid×Option Ob)} {g:Nat} (s:Nat) (e:TypeId) (m:Option (Nat->Prop)) (t:Ty) (hs:Am tl s=.nils):WeakG G ⟨Am tl,Aj ol,g⟩ ⟨Am ((s,.own ((s,0),g) t 0 0) :: tl),Aj ((((s,0),g),some (.tv e m t [])) :: ol),g+1⟩:=by
 have key:WeakG G ⟨Am tl,Aj ol,g⟩ ⟨upd (Am tl) s (.own ((s,0),g) t 0 0),upd (Aj ol) ((s,0),g) (some (.vec e t.size 0 [])),g+1⟩:=by
  intro w0 B N a w hr;obtain ⟨σ,hm,hf,hB⟩:=hr.ex;obtain ⟨hL,hM⟩:=Abj (e:=e) (sz:=t.size) (i:=((s,0),g)) hm rfl;refine ⟨⟨_,hM,fun u=>?_,hB.trans hL⟩,hr.size,hr.defers,fun i hi=>?_⟩
  ·simp only [upd];split
   ·rename_i eu;subst eu;have:=hf u;rw [show (St.tm ⟨Am tl,Aj ol,g⟩) u=.nils from hs] at this;exact .inl ⟨A8 _ _ _,rfl,rfl,this⟩
   ·exact AV.Rep.later hL _ _ (hf u)
  ·show i.2<g+1;by_cases h:i=((s,0),g)
   ·subst h;show g<g+1;omega
   ·simp only [Av _ _ _ _ h] at hi;have:i.2<g:=hr.obg i hi;omega
 rw [Qh] at key;have e2:upd (Aj ol) ((s,0),g) (some (.vec e t.size 0 []))=Aj ((((s,0),g),some (.tv e m t [])) :: ol):=by rw [H3 rfl];rfl
 rw [e2] at key;exact key
section
variable {n:Nat} {d:Option Nat} {f:Nat->AV} {ob:Oid->Option Ob}
theorem Afq {x y:Opd} {o q:Oid} {e1 e2:TypeId} {t t' t2:Ty} {b len:Nat} {m:Option (Nat->Prop)} {xs:List t.D} {z:t.D} (hx:x.ev f=.own o t' 0 len) (hob:ob o=some (.vec e1 t.size xs.length (tvC m t xs))) (hl:len=xs.length) (hy:y.ev f=.own q t2 0 1) (hq:ob q=some (.vec e2 t.size 1 (tvC m t [z]))) (h:xs.length+1<=1073741824/\(xs.length+1)*b<=140737488355328) :
  A9 n ⟨d,none,.appV e1 t b x y⟩ f ob=some (2,.own (o.1,n) t 0 (xs.length+1),[(o,none),((o.1,n),some (.vec e1 t.size (xs.length+1) (tvC m t (xs++[z]))))]):=by
 subst hl;have h1:List.take (xs.length*t.size) (tvC m t xs)=tvC m t xs:=List.take_of_length_le (by rw [Ns];exact Nat.le_refl _);have h2:List.take (1*t.size) (List.drop (0*t.size) (tvC m t [z]))=tvC m t [z]:=by rw [Nat.zero_mul,List.drop_zero];exact List.take_of_length_le (by rw [Ns];exact Nat.le_refl _)
 simp only [A9,ev,La,hx,hy,Xg,hq,hob,true_and,Nat.zero_add,Nat.le_refl,if_true,h1,h2,h.1,h.2,and_self,Zt]
theorem Amy {one:Bool} {k m1:Nat} {x:Opd} {o:Oid} {e1:TypeId} {t:Ty} {N j:Nat} {m:Option (Nat->Prop)} {xs:List t.D} {z:t.D} {c:AV} (hx:x.ev f=.elt o j k) (hob:ob o=some (.vec e1 t.size N (tvC m t xs))) (hz:xs[j]? =some z) (hc:C9 one m1 k (t.avM m z)=some c) (hk:(if one then k+1 else k+m1)<=t.size:=by decide) :
  A9 n ⟨d,none,.i (.ld one m1 x)⟩ f ob=some (1,c,[]):=by
 have hj:=(gSi.1 hz).1;have hat:=Aq7 (m:=m) hz
 have hcell:∀ i,i<t.size->(tvC m t xs)[j*t.size+i]? =(t.avM m z)[i]?:=fun i hi=>by
  rw [← hat,List.getElem?_take,if_pos hi,List.getElem?_drop]
 have hmul:(j+1)*t.size<=xs.length*t.size:=Nat.mul_le_mul_right _ hj;rw [Nat.succ_mul] at hmul
 have e:C9 one m1 (j*t.size+k) (tvC m t xs)=some c:=by
  cases one with
  | true=>simp only [C9,if_true] at hc hk ⊢;rw [hcell k oM];exact hc
  | false =>
   simp only [C9,Bool.false_eq_true,if_false] at hc hk ⊢;rw [if_pos (by rw [Ei];exact hk)] at hc;rw [if_pos (by rw [Ns];omega)];rw [← hc];congr 2;rw [← List.drop_drop,← hat];rw [List.drop_take,List.take_take,Nat.min_eq_left oM]
 simp [A9,ev,evN,evR,hx,hob,e]
end
-- results
inductive Ags (R:Nat->Prop) (ob:Oid->Option Ob):AV->AV->Prop
 | ftr {t:Ty} {xs:List t.D}:Ags R ob (.ftr R t xs) (.tree t xs)
 | nil {t:Ty}:Ags R ob .nils (.tree t [])
 | arr {i:Oid} {t u:Ty} {e:TypeId} {xs:List u.D} {len:Nat}:ob i=some (.arr e u xs)->len=xs.length->Ags R ob (.own i t 0 len) (.tree u xs)
 | mat {o p:Oid} {e1 e:TypeId} {u:Ty} {xss:List (List u.D)} {len:Nat}:ob o=some (.vec e1 1 xss.length (hdL p u xss))->(∀ k row,xss[k]? =some row->ob (kid p k)=some (.arr e u row))->len=xss.length->Ags R ob (.own o (.slice u) 0 len) (.tree (.slice u) xss)
 | tv {o:Oid} {e:TypeId} {t:Ty} {xs:List t.D} {len:Nat}:ob o=some (.vec e t.size xs.length (tvC (some R) t xs))->len=xs.length->Ags R ob (.own o t 0 len) (.tree t xs)
 | fnM {F:FuncId} {i j:Oid} {ty mt:TypeId} {t:Ty} {es:List (Int×t.D)}:ob i=some (.cells ty [.mp j])->ob j=some (.map mt t es)->Ags R ob (.fn F [.box i 0]) (.fn F [.ref [.mtree mt t es]])
section
variable {G:World->Prop} {w0 w:World} {ob:Oid->Option Ob} {σ:Oid->Option Loc} {K:Nat->Prop}
theorem Ab2 {im im':Nat->Prop} {i:Oid} {t:Ty} {off len:Nat} {v:Value} (h:AV.Rep σ im w (.own i t off len) v):AV.Rep σ im' w (.own i t off len) v:=h
theorem Avr {im im':Nat->Prop} {p:Oid} {u:Ty} {xss:List (List u.D)} {vs:List Value} (h:AV.RepL σ im w (hdL p u xss) vs):AV.RepL σ im' w (hdL p u xss) vs:=by
 have key:∀ (l:List (List u.D×Nat)) (vs:List Value),AV.RepL σ im w (l.map fun x=>.own (kid p x.2) u 0 x.1.length) vs->AV.RepL σ im' w (l.map fun x=>.own (kid p x.2) u 0 x.1.length) vs:=by
  intro l
  induction l with
  | nil=>intro vs h;exact h
  | cons x l ih=>rintro vs ⟨v,vs',e,h1,h2⟩;exact ⟨v,vs',e,Ab2 h1,ih vs' h2⟩
 exact key _ _ h
theorem Ala {im R:Nat->Prop}:∀ (t:Ty) (x:t.D) (vs:List Value),AV.RepL σ im w (t.avM (some R) x) vs->AV.RepL σ R w (t.av x) vs
 | .int,_,_,⟨v,vs',e,h1,h2⟩=>⟨v,vs',e,h1,h2⟩
 | .bool,_,_,⟨v,vs',e,h1,h2⟩=>⟨v,vs',e,h1,h2⟩
 | .str,_,_,⟨v,vs',e,h1,h2⟩=>⟨v,vs',e,h1,h2⟩
 | .slice t,xs,_,⟨v,vs',e,⟨A,c,l,e1,hs⟩,h2⟩=>⟨v,vs',e,⟨A,c,l,e1,B4 (fun b _ hb=>hb.2) hs⟩,h2⟩
 | .pair a b,x,vs,h=>by
  have hl:=h.length;have h1:=h.take a.size;have h2:=h.drop a.size;have e1:((Ty.pair a b).avM (some R) x).take a.size=a.avM (some R) x.1:=List.take_left' (Ei _ a x.1);have e2:((Ty.pair a b).avM (some R) x).drop a.size=b.avM (some R) x.2:=List.drop_left' (Ei _ a x.1);rw [e1] at h1;rw [e2] at h2;have:=(Ala a x.1 _ h1).append (Ala b x.2 _ h2);rw [List.take_append_drop] at this;exact this
theorem Ap2 {im R:Nat->Prop} {t:Ty}:∀ (xs:List t.D) (vs:List Value),AV.RepL σ im w (tvC (some R) t xs) vs->AV.RepL σ R w (tvC none t xs) vs
 | [],_,h=>h
 | x :: xs,vs,h=>by
  have h1:=h.take t.size;have h2:=h.drop t.size;have e1:(tvC (some R) t (x :: xs)).take t.size=t.avM (some R) x:=List.take_left' (Ei _ t x);have e2:(tvC (some R) t (x :: xs)).drop t.size=tvC (some R) t xs:=List.drop_left' (Ei _ t x);rw [e1] at h1;rw [e2] at h2
  have hav:∀ (t:Ty) (x:t.D),t.avM none x=t.av x:=by
   intro t
   induction t with
   | pair a b ha hb=>intro x;simp only [Ty.avM,Ty.av,ha,hb]
   | _=>intro x;rfl
  have h1':=Ala t x _ h1;rw [← hav] at h1';have:=h1'.append (Ap2 xs _ h2);rw [List.take_append_drop] at this;exact this
theorem Asb {R:Nat->Prop} (hM:Mem0 G w0 ob σ K w) (hR:∀ b,w0.heap.size<=b->R b) {c d:AV} {v:Value} (h:Ags R ob c d) (hr:AV.Rep σ (imm ob σ) w c v):AV.Rep (fun _=>none) R w d v:=by
 cases h with
 | ftr=>obtain ⟨A,c,l,e,hs⟩:=hr;exact ⟨A,c,l,e,B4 (fun b _ hb=>hb.2) hs⟩
 | nil=>exact ⟨none,0,[],hr,by simp,by simp [maxLen],fun _=>[],by simp,fun h=>absurd h (by simp)⟩
 | @arr i t u e xs len h1 h2 =>
  refine Kw (ob:=fun j=>if j=i then some (.arr e u xs) else none) (σ:=σ) (im:=R) (lo:=w0.heap.size) (fun j o l hj hl=>?_) (fun _ hb=>hb) (fun j o b c s _ hs=>hR b (hM.lt j b c s hs).1) 1 _ _ _ (C2 (e:=e) (if_pos rfl) h2) (Ab2 hr);split at hj
  ·rename_i e';subst e';obtain rfl:=osj hj;exact hM.obs j _ l h1 hl
  ·cases hj
 | @mat o p e1 e u xss len h1 h2 h3 =>
  refine Kw (ob:=fun j=>match ob j with|some (.arr e u xs)=>some (.arr e u xs)|_=>if j=o then some (.vec e1 1 xss.length (hdL p u xss)) else none) (σ:=σ) (im:=R) (lo:=w0.heap.size) (fun j q l hj hl=>?_) (fun _ hb=>hb) (fun j o b c s _ hs=>hR b (hM.lt j b c s hs).1) 1 _ _ _ (F6 (p:=p) (e1:=e1) (e:=e) (by simp only [h1];rw [if_pos trivial]) (fun k row hk=>by simp only [h2 k row hk]) h3) (Ab2 hr);split at hj
  ·rename_i e' u' xs' hj';obtain rfl:=osj hj;exact hM.obs j _ l hj' hl
  ·split at hj
   ·rename_i e';subst e';obtain rfl:=osj hj;obtain ⟨vs,g1,g2,g3⟩:=hM.obs j _ l h1 hl;exact ⟨vs,g1,Avr g2,g3⟩
   ·cases hj
 | @tv o e t xs len h1 h2 =>
  refine Kw (ob:=fun j=>if j=o then some (.vec e t.size xs.length (tvC none t xs)) else none) (σ:=σ) (im:=R) (lo:=w0.heap.size) (fun j q l hj hl=>?_) (fun _ hb=>hb) (fun j o b c s _ hs=>hR b (hM.lt j b c s hs).1) 1 _ _ _ (Ah1 (m:=none) (e:=e) (if_pos rfl) h2) (Ab2 hr);split at hj
  ·rename_i e';subst e';obtain rfl:=osj hj;obtain ⟨vs,g1,g2,g3⟩:=hM.obs j _ l h1 hl;exact ⟨vs,g1,Ap2 xs vs g2,g3⟩
  ·cases hj
 | @fnM F i j ty mt t es h1 h2 =>
  have hji:j≠i:=by rintro rfl;rw [h1] at h2;cases h2
  refine Kw (ob:=fun x=>if x=i then some (.cells ty [.mp j]) else if x=j then some (.map mt t es) else none) (σ:=σ) (im:=R) (lo:=w0.heap.size) (fun x o l hx hl=>?_) (fun _ hb=>hb) (fun x o b c s _ hs=>hR b (hM.lt x b c s hs).1) 4 _ _ _ (by simp [gnd,Nx,hji]) (show AV.Rep σ R w (.fn F [.box i 0]) v from hr);split at hx
  ·rename_i e';subst e';obtain rfl:=osj hx;have:=hM.obs x _ l h1 hl;cases l with
   | nil=>exact this
   | at_ b c s=>exact this
  ·split at hx
   ·rename_i e';subst e';obtain rfl:=osj hx;have:=hM.obs x _ l h2 hl;cases l with
    | nil=>exact this
    | at_ b c s=>exact this
   ·cases hx
def RL.zl:Bool->AV->RL
 | true,d=>.frz d
 | false,d=>.imm d
def zR (z:Bool) (im:Nat->Prop) (n:Nat) (b:Nat):Prop:=if z then n<=b else im b∨n<=b
theorem Auv {z:Bool} {im:Nat->Prop} {n b:Nat} (h:n<=b):zR z im n b:=by cases z;exact .inr h;exact h
def Ais (R:Nat->Prop) (z:Bool) (ob:Oid->Option Ob) (c:AV) (l:RL):Prop:=(c.scal=true/\l=.sc c)∨∃ d,l=.zl z d/\d.gndB=true/\Ags R ob c d
def Pd (R:Nat->Prop) (z:Bool) (ob:Oid->Option Ob):List AV->List RL->Prop
 | [],ls=>ls=[]
 | c :: cs,ls=>∃ l ls',ls=l :: ls'/\Ais R z ob c l/\Pd R z ob cs ls'
def Pr (R:Nat->Prop) (z:Bool) (ob:Oid->Option Ob):List (Bool×List AV)->List (Bool×List RL)->Prop
 | [],ps=>ps=[]
 | (b,cs) :: r,ps=>∃ ls ps',ps=(b,ls) :: ps'/\Pd R z ob cs ls/\(b=false->cs.length=1)/\Pr R z ob r ps'
def Ap9:List (Bool×List AV)->List AV
 | []=>[]
 | (b,cs) :: r=>(if b then .agg cs else cs.headD .any) :: Ap9 r
def Aqa (R:Nat->Prop) (z:Bool) (rs:List Res) (S:St) (r:RV):Prop :=
 ∃ gs ps,Res.evL S.tm S.ob rs=some (Ap9 gs)/\Pr R z S.ob gs ps/\r=⟨decide (rs.length≠1),ps⟩
theorem X0 {z:Bool} (hM:Mem0 G w0 ob σ K w) {im:Nat->Prop} {vs0:List Value}:∀ {cs:List AV} {ls:List RL} {us:List Value},Pd (zR z im w0.heap.size) z ob cs ls->AV.RepL σ (imm ob σ) w cs us->RL.RepL w0.heap.size im vs0 w ls us []/\ls.length=us.length
 | [],ls,us,h,hr=>by obtain rfl:ls=[]:=h;exact ⟨⟨hr,rfl⟩,by rw [show us=[] from hr];rfl⟩
 | c :: cs,ls,us,⟨l,ls',e,h1,h2⟩,⟨u,us',e',r1,r2⟩=>by
  subst e e';obtain ⟨q1,q2⟩:=X0 hM (im:=im) (vs0:=vs0) h2 r2;refine ⟨?_,by simp [q2]⟩;rcases h1 with ⟨a1,rfl⟩|⟨d,rfl,a1,a2⟩
  ·exact ⟨u,us',rfl,(by cases c <;> first|exact r1|cases a1),a1,q1⟩
  ·have hr:=Asb hM (fun _ h=>Auv h) a2 r1;cases z with
   | true=>exact ⟨u,us',rfl,Ol (fun b h=>h) _ a1 _ hr,a1,q1⟩
   | false=>exact ⟨u,us',rfl,Ol (fun b h=>h) _ a1 _ hr,a1,q1⟩
theorem Ah9 {lo:Nat} {im:Nat->Prop} {vs:List Value} {w:World}:∀ {rs:List RL} {us:List Value} {rs':List RL} {us':List Value},(∀ l∈rs,(∃ c,l=.sc c)∨(∃ d,l=.frz d)∨∃ d,l=.imm d)->RL.RepL lo im vs w rs us []->RL.RepL lo im vs w rs' us' []->RL.RepL lo im vs w (rs++rs') (us++us') []
 | [],_,_,_,_,⟨e,_⟩,h=>by subst e;exact h
 | l :: rs,us,rs',us',hk,h,h'=>by
  have hk':=fun l hl=>hk l (List.mem_cons_of_mem _ hl)
  rcases hk l List.mem_cons_self with ⟨c,rfl⟩|⟨d,rfl⟩|⟨d,rfl⟩ <;> obtain ⟨u,us1,rfl,q1,q2,q3⟩:=h <;> exact ⟨u,us1++us',rfl,q1,q2,Ah9 hk' q3 h'⟩
theorem Vw {R:Nat->Prop} {z:Bool}:∀ {cs:List AV} {ls:List RL},Pd R z ob cs ls->∀ l∈ls,(∃ c,l=.sc c)∨(∃ d,l=.frz d)∨∃ d,l=.imm d
 | [],ls,h,l,hl=>by rw [show ls=[] from h] at hl;cases hl
 | c :: cs,ls,⟨l0,ls',e,h1,h2⟩,l,hl=>by
  subst e;rcases List.mem_cons.1 hl with rfl|hl
  ·rcases h1 with ⟨_,rfl⟩|⟨d,rfl,_⟩
   ·exact .inl ⟨_,rfl⟩
   ·cases z with
    | true=>exact .inr (.inl ⟨_,rfl⟩)
    | false=>exact .inr (.inr ⟨_,rfl⟩)
  ·exact Vw h2 l hl
theorem Aan {z:Bool} (hM:Mem0 G w0 ob σ K w) {im:Nat->Prop} {vs0:List Value}:∀ {gs:List (Bool×List AV)} {ps:List (Bool×List RL)} {us:List Value},Pr (zR z im w0.heap.size) z ob gs ps->AV.RepL σ (imm ob σ) w (Ap9 gs) us->∃ vs,RL.RepL w0.heap.size im vs0 w (ps.flatMap (·.2)) vs []/\J5 ps vs=us
 | [],ps,us,h,hr=>by
  obtain rfl:ps=[]:=h;exact ⟨[],⟨rfl,rfl⟩,hr.symm⟩
 | (b,cs) :: gs,ps,us,⟨ls,ps',e,h1,h2,h3⟩,⟨u,us',e',r1,r2⟩=>by
  subst e e';obtain ⟨vs,q1,q2⟩:=Aan hM (im:=im) (vs0:=vs0) h3 r2
  have key:∀ ws:List Value,AV.RepL σ (imm ob σ) w cs ws->(if b then Value.agg ws.toArray else ws.headD undef)=u->∃ vs,RL.RepL w0.heap.size im vs0 w (((b,ls) :: ps').flatMap (·.2)) vs []/\J5 ((b,ls) :: ps') vs=u :: us':=fun ws hw hu=>by
   obtain ⟨a1,a2⟩:=X0 hM (im:=im) (vs0:=vs0) h1 hw;refine ⟨ws++vs,Ah9 (Vw h1) a1 q1,?_⟩;simp only [J5];rw [List.drop_left' a2.symm,q2,List.take_left' a2.symm];congr 1;cases b with
   | true=>exact hu
   | false =>
    have hl:=h2 rfl;rw [← hw.length] at hl;cases ws with
    | nil=>simp at hl
    | cons w0 ws=>exact hu
  cases b with
  | true =>
   obtain ⟨ws,e1,e2⟩:=r1;exact key ws e2 (by rw [e1];rfl)
  | false =>
   have hl:=h2 rfl;obtain ⟨c,rfl⟩:=List.length_eq_one_iff.1 hl;exact key [u] ⟨u,[],rfl,r1,rfl⟩ rfl
end
theorem Aqj {P:Program} [IsP P] {G:World->Prop} (hfol:P.follows .mixedOrders=true) {g:FuncId} {fn:Func} (hf:P.funcs[g]? =some fn) {ac:AC} {rs:List Res} (hc0:C0 P fn=some (ac,rs)) {args:List AV} {args':(Nat->Prop)->List AV} {r:RV} {n:Nat} (z:Bool) (hN:fn.ntmps=n) (hn:∀ R,(args' R).length<=n) {tl:(Nat->Prop)->List (Nat×AV)} (htl:∀ R,tmL 0 (args' R)=tl R) (ha:∀ (R im:Nat->Prop) (w:World) (us:List Value),(∀ b,im b->z=false->R b)->AV.RepL (fun _=>none) im w args us->AV.RepL (fun _=>none) im w (args' R) us)
  (h:∀ (n:Nat) (R:Nat->Prop),(∀ b,n<=b->R b)->awp P (GN G n) ac (fun e S=>∃ S',WeakG (GN G n) S S'/\(e=.normal∨e=.ret)/\Aqa R z rs S' r) ⟨Am (tl R),Aj [],1⟩):Dr P G g args r:=by
 subst hN
 have h0:∃ c,fn.body=some c/\AC.of P fn.ntmps c=some ac/\Res.ofL P fn.results.toList=some rs:=by
  unfold C0 at hc0;split at hc0
  ·rename_i c hb;split at hc0
   ·rename_i ac' rs' h1 h2;obtain ⟨rfl,rfl⟩:=Prod.mk.inj (osj hc0);exact ⟨c,hb,h1,h2⟩
   ·cases hc0
  ·cases hc0
 obtain ⟨c,hb,hc,hrs⟩:=h0;intro w im vs hG hargs
 replace h:=h w.heap.size (zR z im w.heap.size) fun _ h=>Auv h
 replace hn:=hn (zR z im w.heap.size)
 rw [← htl,← St.init_eq] at h
 replace hargs:=ha (zR z im w.heap.size) im w vs (fun b hb e=>by subst e;exact .inl hb) hargs
 generalize args' (zR z im w.heap.size)=args at h hn hargs;have hlen:vs.length=args.length:=hargs.length
 have hany:∀ (cs:List AV) (us:List Value),AV.RepL (fun _=>none) im w cs us->AV.RepL (fun _=>none) (imm (fun _=>none) (fun _=>none)) w cs us:=fun cs us h' =>
  AV.RepL.later ⟨fun _ _ h=>h,(fun _ _ _ _ _ _ _ h=>by cases h),fun _ _ _=>rfl,Nat.le_refl _⟩ cs us h'
 have hreps:Sz (GN G w.heap.size) w ⟨fun _=>none,fun _=>False,w,fun _ _ h=>nomatch h⟩ fn.ntmps (St.init args) { tmps:=vs.toArray++Array.replicate (fn.ntmps - vs.toArray.size) undef,defers:=[] } w:=by
  refine ⟨⟨fun _=>none,⟨Below.refl _ _,fun w' hb=>⟨hG w' hb,hb.size⟩,(fun _ _ h=>by cases h),(fun _ _ _ _ h=>by cases h),(fun _ _ _ _ h=>by cases h),(fun _ _ _ _ _ _ _ _ _ h=>by cases h),(fun _ _ _ h=>by cases h)⟩,fun t=>?_,⟨fun _ _ h=>h,fun _ _ h=>h.elim,fun _ _ h=>h.elim,Nat.le_refl _⟩⟩,by simp;omega,rfl,fun i h=>absurd rfl h⟩;simp only [St.init,gDg];cases ht:args[t]? with
  | none=>trivial
  | some c =>
   obtain ⟨v,hv,hr⟩:=(hany _ _ hargs).get ht;have hlt:t<vs.length:=(gSi.1 hv).1
   have e:(vs.toArray++Array.replicate (fn.ntmps - vs.toArray.size) undef).getD t undef=v:=by
    rw [Array.getD_eq_getD_getElem?,Array.getElem?_append_left (by simpa using hlt)];simp [hv]
   rw [e];exact hr
 refine calls_of_wp hf hb (Code.wp_mono (fun e a' w' hq=>?_) (Xt hfol c ac _ _ _ w hc h hreps));obtain ⟨e',S0,rfl,⟨S',hweak,hend,gs,ps,h1,h2,h4⟩,hr⟩:=hq
 replace hr:=hweak _ _ _ _ _ hr
 obtain ⟨σ,hM,hF,_⟩:=hr.ex
 have hrun:∀ (vars:List ResultVar) (rs:List Res) (avs:List AV),Res.ofL P vars=some rs->Res.evL S'.tm S'.ob rs=some avs ->
   ∃ us,(vars.mapM (Aia a'.tmps)).run P w'=.ok us w'/\AV.RepL σ (imm S'.ob σ) w' avs us/\us.length=vars.length/\rs.length=vars.length:=by
  intro vars
  induction vars with
  | nil =>
   intro rs avs q1 q2;obtain rfl:[]=rs:=osj q1;obtain rfl:[]=avs:=osj q2;exact ⟨[],rfl,rfl,rfl,rfl⟩
  | cons v vars ih =>
   intro rs avs q1 q2;simp only [Res.ofL] at q1;split at q1
   ·rename_i x xs p1 p2;obtain rfl:=osj q1;simp only [Res.evL] at q2;split at q2
    ·rename_i y ys p3 p4;obtain rfl:=osj q2;obtain ⟨u,r1,r2⟩:=Res.run hM hF p1 p3;obtain ⟨us,r3,r4,r5,r6⟩:=ih _ _ p2 p4;refine ⟨u :: us,?_,⟨u,us,rfl,r2,r4⟩,by simp [r5],by simp [r6]⟩;rw [List.mapM_cons,Sem.run_bind,r1];simp only [Result.andThen_ok,Sem.run_bind,r3,Sem.run_pure]
    ·cases q2
   ·cases q1
 obtain ⟨us,u1,u2,u3,u4⟩:=hrun fn.results.toList rs _ hrs h1;obtain ⟨vs',f1,f3⟩:=Aan (im:=im) (vs0:=vs) hM h2 u2;have hres:(results fn a'.tmps).run P w'=.ok (if fn.results.size=1 then us.headD undef else .tuple us.toArray) w':=S6 u1 (by rw [u3];simp)
 have hrv:r.Rep w.heap.size im vs w' (if fn.results.size=1 then us.headD undef else .tuple us.toArray):=by
  subst h4;refine ⟨vs',[],f1,⟨trivial,fun _=>rfl⟩,?_⟩;simp only [f3];have:rs.length=fn.results.size:=by rw [u4];simp
  rw [this];by_cases h1:fn.results.size=1 <;> simp [h1]
 have fin:∃ u,(results fn a'.tmps).run P w'=.ok u w'/\∃ v,Ending.returned u=.returned v/\Below w.heap.size w w'/\r.Rep w.heap.size im vs w' v:=⟨_,hres,_,rfl,hM.below,hrv⟩
 rcases hend with rfl|rfl
 ·exact ⟨hr.defers,fin⟩
 ·exact ⟨hr.defers,fin⟩
theorem Ar2 {P:Program} [IsP P] {G:World->Prop} (hfol:P.follows .mixedOrders=true) {g:FuncId} {fn:Func} (hf:P.funcs[g]? =some fn) {ac:AC} {rs:List Res} (hc0:C0 P fn=some (ac,rs)) {args:List AV} {r:RV} {n:Nat} (hN:fn.ntmps=n) (hn:args.length<=n) {tl:List (Nat×AV)} (htl:tmL 0 args=tl)
  (h:∀ (n:Nat) (R:Nat->Prop),(∀ b,n<=b->R b)->awp P (GN G n) ac (fun e S=>∃ S',WeakG (GN G n) S S'/\(e=.normal∨e=.ret)/\Aqa R true rs S' r) ⟨Am tl,Aj [],1⟩):Dr P G g args r :=
 Aqj hfol hf hc0 (args':=fun _=>args) true hN (fun _=>hn) (tl:=fun _=>tl) (fun _=>htl) (fun _ _ _ _ _ h=>h) h
mutual
theorem Aqk {R im:Nat->Prop} {w:World} (hR:∀ b,im b->R b):∀ (c d:AV) (u:Value),AV.unR R c d->AV.Rep (fun _=>none) im w c u->AV.Rep (fun _=>none) im w d u
 | .tree t xs,d,u,h,⟨A,c,l,e,hs⟩=>by
  have h:d=.ftr R t xs:=h;subst h;exact ⟨A,c,l,e,B4 (fun b _ hb=>⟨hb,hR b hb⟩) hs⟩
 | .agg cs,d,u,⟨ds,e,h⟩,hr=>by
  subst e;obtain ⟨us,e,hr⟩:=hr;exact ⟨us,e,Ady hR cs ds us h hr⟩
 | .int ..,d,u,⟨_,e⟩,hr=>by subst e;exact hr
 | .bool ..,d,u,⟨_,e⟩,hr=>by subst e;exact hr
 | .str ..,d,u,⟨_,e⟩,hr=>by subst e;exact hr
 | .err ..,d,u,⟨h,e⟩,hr=>by first|(cases h;done)|(subst e;exact hr)
 | .nils,d,u,⟨_,e⟩,hr=>by subst e;exact hr
 | .any,d,u,⟨h,_⟩,_=>by cases h
 | .mtree ..,d,u,⟨h,_⟩,_=>by cases h
 | .ftr ..,d,u,⟨h,_⟩,_=>by cases h
 | .mp _,d,u,⟨h,_⟩,_=>by cases h
 | .tup _,d,u,⟨h,_⟩,_=>by cases h
 | .fn ..,d,u,⟨h,_⟩,_=>by cases h
 | .ref _,d,u,⟨h,_⟩,_=>by cases h
 | .own ..,d,u,⟨h,_⟩,_=>by cases h
 | .box ..,d,u,⟨h,_⟩,_=>by cases h
 | .elt ..,d,u,⟨h,_⟩,_=>by cases h
 | .sla ..,d,u,⟨h,_⟩,_=>by cases h
 | .telt ..,d,u,⟨h,_⟩,_=>by cases h
 | .giv ..,d,u,⟨h,_⟩,_=>by cases h
 | .abool ..,d,u,⟨h,_⟩,_=>by cases h
theorem Ady {R im:Nat->Prop} {w:World} (hR:∀ b,im b->R b):∀ (cs ds:List AV) (us:List Value),AV.unRL R cs ds->AV.RepL (fun _=>none) im w cs us->AV.RepL (fun _=>none) im w ds us
 | [],ds,us,h,hr=>by obtain rfl:ds=[]:=h;exact hr
 | c :: cs,ds,us,⟨d,ds',e,h1,h2⟩,hr=>by
  subst e;obtain ⟨u,us',e,r1,r2⟩:=hr;exact ⟨u,us',e,Aqk hR c d u h1 r1,Ady hR cs ds' us' h2 r2⟩
end
theorem Axe {G:World->Prop} {R:Nat->Prop} {z:Bool} {rs:List Res} {tm:Nat->AV} {ob:Oid->Option Ob} {g:Nat} {r:RV} (gs:List (Bool×List AV)) {e:AE} (h2:Pr R z ob gs r.ps) (he:e=.normal∨e=.ret:=by simp) (h1:Res.evL tm ob rs=some (Ap9 gs):=by kernel_rfl) (h4:r.tup=decide (rs.length≠1):=by kernel_rfl):∃ S',WeakG G ⟨tm,ob,g⟩ S'/\(e=.normal∨e=.ret)/\Aqa R z rs S' r :=
 ⟨_,WeakG.refl _,he,gs,r.ps,h1,h2,by cases r;cases h4;rfl⟩
section
variable {R:Nat->Prop} {z:Bool} {ob:Oid->Option Ob}
theorem Dm:Pr R z ob [] []:=rfl
theorem Gq {cs:List AV} {r:List (Bool×List AV)} {ls:List RL} {ps:List (Bool×List RL)} (h1:Pd R z ob cs ls) (h2:Pr R z ob r ps):Pr R z ob ((true,cs) :: r) ((true,ls) :: ps):=⟨ls,ps,rfl,h1,(fun h=>by cases h),h2⟩
theorem J2 {c:AV} {r:List (Bool×List AV)} {l:RL} {ps:List (Bool×List RL)} (h1:Ais R z ob c l) (h2:Pr R z ob r ps):Pr R z ob ((false,[c]) :: r) ((false,[l]) :: ps):=⟨[l],ps,rfl,⟨l,[],rfl,h1,rfl⟩,fun _=>rfl,h2⟩
theorem Gk:Pd R z ob [] []:=rfl
theorem Az {c:AV} {cs:List AV} {l:RL} {ls:List RL} (h1:Ais R z ob c l) (h2:Pd R z ob cs ls):Pd R z ob (c :: cs) (l :: ls):=⟨l,ls,rfl,h1,h2⟩
theorem Cq {c:AV} (h:c.scal=true:=by kernel_rfl):Ais R z ob c (.sc c):=.inl ⟨h,rfl⟩
theorem B2 {c:AV} {t:Ty} {xs:List t.D} (h:Ags R ob c (.tree t xs)):Ais R z ob c (.zl z (.tree t xs)):=.inr ⟨_,rfl,rfl,h⟩
end
section
variable {P:Program} {G:World->Prop} {g k d:Nat} {gd:Option (Nat×Bool)} {xs:List X} {tl:List (Nat×AV)} {ol:List (Oid×Option Ob)} {bad:List (Nat×Nat)} {ra:List Rec} {da:List (List Oid)} {Kf:List (Nat×AV)->List (Oid×Option Ob)->Prop}
variable {fo:Opd} {ys:List Opd} {tys:List (List (Option Ty))} {F:FuncId} {caps:List AV} {rv:RV}
end
end
end Go.Proofs.YthlpchhhinipaaaGreatDoor
