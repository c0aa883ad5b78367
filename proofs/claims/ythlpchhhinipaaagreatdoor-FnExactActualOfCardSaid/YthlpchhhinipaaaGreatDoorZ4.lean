/- Lemmas on the program and on partial functions that stand in place of its code (part 4); no condition beyond those that each one states. -/
import Derived.Test.YthlpchhhinipaaaGreatDoorZ3
import Derived.KernelRfl
import Derived.IntWalk
namespace Go.Proofs.YthlpchhhinipaaaGreatDoor
open Go.RowKit Go.Deep List
section
theorem WeakG.refl{G:WP}(S:St):WeakG G S S:=fun _ _ _ _ _ h=>h
theorem WeakG.trans{G:WP}{S S' S'':St}(h:WeakG G S S')(k:WeakG G S' S''):WeakG G S S'':=fun w0 B N a w hr=>k w0 B N a w (h w0 B N a w hr)
theorem Ap1{G:WP}{w0 w:World}{ob:OF}{C:OC}{g:Nat}{e:TypeId}{t:Ty}{i:Oid}(hm:Mem0 G w0 ob C (·<g) w)(hi:i.2=g)(ht:t.flat=true):
  Later C (upd C i (some .nil)) (imm ob C) (imm (upd ob i (some (.arr e t []))) (upd C i (some .nil))) w w/\Mem0 G w0 (upd ob i (some (.arr e t []))) (upd C i (some .nil)) (·<g+1) w:=by
 have hfr:C i=none:=Goes.fresh hm (by rw[hi];exact Nat.lt_irrefl _);refine ⟨Later.new (l:=.nil) hfr (Below.refl _ _) (fun _ _ _ h=>by cases h),hm.new (l:=.nil) hfr (Below.refl _ _) (fun _ _ _ h=>by cases h) (fun n hn=>by omega) (by show i.2<g+1;omega) ⟨ht,Po w w0.heap.size e t.size,fun _ _ _ h=>by cases h⟩⟩
theorem At2{G:WP}{S:St}(s:Nat)(e:TypeId)(t:Ty)(ht:t.flat=true)(hs:S.tm s=.nils):WeakG G S ⟨upd S.tm s (.own ((s,0),S.gen) t 0 0),upd S.ob ((s,0),S.gen) (some (.arr e t [])),S.gen+1⟩:=by
 intro w0 B N a w hr;have ⟨C,hm,hf,hB⟩:=hr.ex;have ⟨hL,hM⟩:=Ap1 (e:=e) (i:=((s,0),S.gen)) hm rfl ht;refine ⟨⟨_,hM,fun u=>?_,hB.trans hL⟩,hr.size,hr.defers,fun i hi=>?_⟩
 ·simp only[upd];split
  next eu=>subst eu;have:=hf u;rw[hs]at this;exact .inl ⟨Bh _ _ _,rfl,rfl,this⟩
  ·exact AV.Rep.later hL _ _<|hf u
 ·show i.2<S.gen+1;by_cases h:i=((s,0),S.gen)
  ·subst h;show S.gen<S.gen+1;omega
  ·simp only[A0 _ _ _ _ h]at hi;have:=hr.obg i hi;omega
theorem Aey{G:WP}{w0 w:World}{ob:OF}{C:OC}{g:Nat}{e:TypeId}{sz:Nat}{i:Oid}(hm:Mem0 G w0 ob C (·<g) w)(hi:i.2=g):
  Later C (upd C i (some .nil)) (imm ob C) (imm (upd ob i (some (.vec e sz 0 []))) (upd C i (some .nil))) w w/\Mem0 G w0 (upd ob i (some (.vec e sz 0 []))) (upd C i (some .nil)) (·<g+1) w:=by
 have hfr:C i=none:=Goes.fresh hm (by rw[hi];exact Nat.lt_irrefl _);refine ⟨Later.new (l:=.nil) hfr (Below.refl _ _) (fun _ _ _ h=>by cases h),hm.new (l:=.nil) hfr (Below.refl _ _) (fun _ _ _ h=>by cases h) (fun n hn=>by omega) (by show i.2<g+1;omega) ⟨[],Po w w0.heap.size e sz,rfl,fun _ h=>(by cases h),fun _ _ _ h=>by cases h⟩⟩
theorem Aqp{G:WP}{S:St}(s:Nat)(e:TypeId)(t:Ty)(hs:S.tm s=.nils):WeakG G S ⟨upd S.tm s (.own ((s,0),S.gen) t 0 0),upd S.ob ((s,0),S.gen) (some (.vec e 1 0 [])),S.gen+1⟩:=by
 intro w0 B N a w hr;have ⟨C,hm,hf,hB⟩:=hr.ex;have ⟨hL,hM⟩:=Aey (e:=e) (sz:=1) (i:=((s,0),S.gen)) hm rfl;refine ⟨⟨_,hM,fun u=>?_,hB.trans hL⟩,hr.size,hr.defers,fun i hi=>?_⟩
 ·simp only[upd];split
  next eu=>subst eu;have:=hf u;rw[hs]at this;exact .inl ⟨Bh _ _ _,rfl,rfl,this⟩
  ·exact AV.Rep.later hL _ _<|hf u
 ·show i.2<S.gen+1;by_cases h:i=((s,0),S.gen)
  ·subst h;show S.gen<S.gen+1;omega
  ·simp only[A0 _ _ _ _ h]at hi;have:=hr.obg i hi;omega
theorem Agv{G:WP}{S:St}(s:Nat)(b:Oid)(k:Nat)(ty:TypeId)(cs:LA)(e:TypeId)(t:Ty)(ht:t.flat=true)(hb:S.ob b=some (.cells ty cs))(hk:cs[k]? =some .nils):
  WeakG G S ⟨S.tm,upd (upd S.ob ((s,0),S.gen) (some (.arr e t []))) b (some (.cells ty (cs.set k (.own ((s,0),S.gen) t 0 0)))),S.gen+1⟩:=by
 intro w0 B N a w hr;have ⟨C,hm,hf,hB⟩:=hr.ex;have ⟨hL,hM⟩:=Ap1 (e:=e) (i:=((s,0),S.gen)) hm rfl ht
 have hbn:b≠((s,0),S.gen):=fun h=>by
  have:=hr.obg b (by rw[hb];simp);rw[h]at this;exact absurd this<|Nat.lt_irrefl _
 have him:∀ c,imm (upd S.ob ((s,0),S.gen)<|some<|.arr e t []) (upd C ((s,0),S.gen)<|some .nil) c->imm (upd (upd S.ob ((s,0),S.gen)<|some<|.arr e t []) b<|some<|.cells ty<|cs.set k<|.own ((s,0),S.gen) t 0 0) (upd C ((s,0),S.gen)<|some .nil) c:=by
  intro c hc i o c' s' ho;by_cases h:i=b
  ·subst h;exact hc i (.cells ty cs) c' s' (by rw[A0 _ _ _ _ hbn];exact hb)
  ·rw[A0 _ _ _ _ h]at ho;exact hc i o c' s' ho
 have hL2:Later (upd C ((s,0),S.gen)<|some .nil) (upd C ((s,0),S.gen)<|some .nil) (imm (upd S.ob ((s,0),S.gen)<|some<|.arr e t [])<|upd C ((s,0),S.gen)<|some .nil) (imm (upd (upd S.ob ((s,0),S.gen)<|some<|.arr e t []) b<|some<|.cells ty<|cs.set k<|.own ((s,0),S.gen) t 0 0)<|upd C ((s,0),S.gen)<|some .nil) w w:=
  ⟨fun _ _ h=>h,fun c _ hc=>him c hc,fun _ _ _=>rfl,fQ _⟩
 refine ⟨⟨upd C ((s,0),S.gen)<|some .nil,⟨hM.below,hM.inv,hM.gen,hM.lt,hM.cap,fun i j b' c' s' c2 s2 o o' hi hj h1 h2=>?_,fun i o l hi hl=>?_⟩,fun u=>AV.Rep.later hL2 _ _<|AV.Rep.later hL _ _<|hf u,(hB.trans hL).trans hL2⟩,hr.size,hr.defers,fun i hi=>?_⟩
 ·have key:∀ i o,upd (upd S.ob ((s,0),S.gen)<|some<|.arr e t []) b (some<|.cells ty<|cs.set k<|.own ((s,0),S.gen) t 0 0) i=some o->∃ o',upd S.ob ((s,0),S.gen) (some<|.arr e t []) i=some o':=by
   intro i o ho;by_cases h:i=b
   ·subst h;exact ⟨_,by rw[A0 _ _ _ _ hbn];exact hb⟩
   ·rw[A0 _ _ _ _ h]at ho;exact ⟨o,ho⟩
  have ⟨o1,k1⟩:=key i o hi;have ⟨o2,k2⟩:=key j o' hj;exact hM.inj i j b' c' s' c2 s2 o1 o2 k1 k2 h1 h2
 ·by_cases h:i=b
  ·subst h;have hi':some (Ob.cells ty<|cs.set k<|.own ((s,0),S.gen) t 0 0)=some o:=by rw[← hi];exact (Bh _ _ _).symm
   cases hi';have:=hM.obs i (.cells ty cs) l (by rw[A0 _ _ _ _ hbn];exact hb) hl;cases l with
   | nil=>exact this
   | at_ b' c' s' =>
    have ⟨vs,g1,g2,g3⟩:=this;refine ⟨vs,g1,?_,g3⟩;refine AV.RepL.later hL2 _ _ ?_;have ⟨v,hv,hrv⟩:=g2.get hk;have hset:=g2.set (k:=k) (c:=.own ((s,0),S.gen) t 0 0) (v:=v)<|.inl ⟨Bh _ _ _,rfl,rfl,hrv⟩
    have hvs:vs.set k v=vs:=by
     apply ext_getElem?;intro j;rw[getElem?_set];split
     ·rename_i e';subst e';split
      ·exact hv.symm
      ·rw[getElem?_eq_none oM]
     ·rfl
    rw[hvs]at hset;exact hset
  ·have hi':upd S.ob ((s,0),S.gen) (some<|.arr e t []) i=some o:=by rw[← hi];exact (A0 _ _ _ _ h).symm
   exact (hM.obs i o l hi' hl).later hL2 fun _ _ _ _=>rfl
 ·show i.2<S.gen+1;by_cases h:i=b
  ·subst h;have:=hr.obg i (by rw[hb];simp);omega
  ·have hi':upd S.ob ((s,0),S.gen) (some<|.arr e t []) i≠none:=by
    intro hq;apply hi;rw[← hq];exact A0 _ _ _ _ h
   by_cases h':i=((s,0),S.gen)
   ·subst h';show S.gen<S.gen+1;omega
   ·rw[A0 _ _ _ _ h']at hi';have:=hr.obg i hi';omega
theorem Aec{G:WP}{S:St}(s:Nat)(b:Oid)(k:Nat)(ty:TypeId)(cs:LA)(e:TypeId)(t:Ty)(hb:S.ob b=some (.cells ty cs))(hk:cs[k]? =some .nils):
  WeakG G S ⟨S.tm,upd (upd S.ob ((s,0),S.gen) (some (.vec e 1 0 []))) b (some (.cells ty (cs.set k (.own ((s,0),S.gen) t 0 0)))),S.gen+1⟩:=by
 intro w0 B N a w hr;have ⟨C,hm,hf,hB⟩:=hr.ex;have ⟨hL,hM⟩:=Aey (e:=e) (sz:=1) (i:=((s,0),S.gen)) hm rfl
 have hbn:b≠((s,0),S.gen):=fun h=>by
  have:=hr.obg b (by rw[hb];simp);rw[h]at this;exact absurd this<|Nat.lt_irrefl _
 have him:∀ c,imm (upd S.ob ((s,0),S.gen)<|some<|.vec e 1 0 []) (upd C ((s,0),S.gen)<|some .nil) c->imm (upd (upd S.ob ((s,0),S.gen)<|some<|.vec e 1 0 []) b<|some<|.cells ty<|cs.set k<|.own ((s,0),S.gen) t 0 0) (upd C ((s,0),S.gen)<|some .nil) c:=by
  intro c hc i o c' s' ho;by_cases h:i=b
  ·subst h;exact hc i (.cells ty cs) c' s' (by rw[A0 _ _ _ _ hbn];exact hb)
  ·rw[A0 _ _ _ _ h]at ho;exact hc i o c' s' ho
 have hL2:Later (upd C ((s,0),S.gen)<|some .nil) (upd C ((s,0),S.gen)<|some .nil) (imm (upd S.ob ((s,0),S.gen)<|some<|.vec e 1 0 [])<|upd C ((s,0),S.gen)<|some .nil) (imm (upd (upd S.ob ((s,0),S.gen)<|some<|.vec e 1 0 []) b<|some<|.cells ty<|cs.set k<|.own ((s,0),S.gen) t 0 0)<|upd C ((s,0),S.gen)<|some .nil) w w:=
  ⟨fun _ _ h=>h,fun c _ hc=>him c hc,fun _ _ _=>rfl,fQ _⟩
 refine ⟨⟨upd C ((s,0),S.gen)<|some .nil,⟨hM.below,hM.inv,hM.gen,hM.lt,hM.cap,fun i j b' c' s' c2 s2 o o' hi hj h1 h2=>?_,fun i o l hi hl=>?_⟩,fun u=>AV.Rep.later hL2 _ _<|AV.Rep.later hL _ _<|hf u,(hB.trans hL).trans hL2⟩,hr.size,hr.defers,fun i hi=>?_⟩
 ·have key:∀ i o,upd (upd S.ob ((s,0),S.gen)<|some<|.vec e 1 0 []) b (some<|.cells ty<|cs.set k<|.own ((s,0),S.gen) t 0 0) i=some o->∃ o',upd S.ob ((s,0),S.gen) (some<|.vec e 1 0 []) i=some o':=by
   intro i o ho;by_cases h:i=b
   ·subst h;exact ⟨_,by rw[A0 _ _ _ _ hbn];exact hb⟩
   ·rw[A0 _ _ _ _ h]at ho;exact ⟨o,ho⟩
  have ⟨o1,k1⟩:=key i o hi;have ⟨o2,k2⟩:=key j o' hj;exact hM.inj i j b' c' s' c2 s2 o1 o2 k1 k2 h1 h2
 ·by_cases h:i=b
  ·subst h;have hi':some (Ob.cells ty<|cs.set k<|.own ((s,0),S.gen) t 0 0)=some o:=by rw[← hi];exact (Bh _ _ _).symm
   cases hi';have:=hM.obs i (.cells ty cs) l (by rw[A0 _ _ _ _ hbn];exact hb) hl;cases l with
   | nil=>exact this
   | at_ b' c' s' =>
    have ⟨vs,g1,g2,g3⟩:=this;refine ⟨vs,g1,?_,g3⟩;refine AV.RepL.later hL2 _ _ ?_;have ⟨v,hv,hrv⟩:=g2.get hk;have hset:=g2.set (k:=k) (c:=.own ((s,0),S.gen) t 0 0) (v:=v)<|.inl ⟨Bh _ _ _,rfl,rfl,hrv⟩
    have hvs:vs.set k v=vs:=by
     apply ext_getElem?;intro j;rw[getElem?_set];split
     ·rename_i e';subst e';split
      ·exact hv.symm
      ·rw[getElem?_eq_none oM]
     ·rfl
    rw[hvs]at hset;exact hset
  ·have hi':upd S.ob ((s,0),S.gen) (some<|.vec e 1 0 []) i=some o:=by rw[← hi];exact (A0 _ _ _ _ h).symm
   exact (hM.obs i o l hi' hl).later hL2 fun _ _ _ _=>rfl
 ·show i.2<S.gen+1;by_cases h:i=b
  ·subst h;have:=hr.obg i (by rw[hb];simp);omega
  ·have hi':upd S.ob ((s,0),S.gen) (some<|.vec e 1 0 []) i≠none:=by
    intro hq;apply hi;rw[← hq];exact A0 _ _ _ _ h
   by_cases h':i=((s,0),S.gen)
   ·subst h';show S.gen<S.gen+1;omega
   ·rw[A0 _ _ _ _ h']at hi';have:=hr.obg i hi';omega
def Bl:List (Oid×Oid)->Oid->Oid
 | [],i=>i
 | (a,b) :: r,i=>if i=a then b else if i.1.1=a.1.1/\i.2=a.2/\i.1.2≠0 then ((b.1.1,i.1.2),b.2) else Bl r i
def T6(l:List (Oid×Oid)):Bool:=l.all fun x=>x.1.1.2==0
theorem Mh:∀{l:List (Oid×Oid)},T6 l=true->∀{p:Oid},p.1.2=0->∀ k,Bl l (kid p k)=kid (Bl l p) k
 | [],_,_,_,_=>rfl
 | (a,b) :: r,h,p,hp,k=>by
  simp only[T6,all_cons,fT,fF]at h;have ⟨h1,h2⟩:=h
  have hne:kid p k≠a:=fun e=>by
   rw[← e]at h1;simp[kid]at h1
  simp only[Bl,fB hne];by_cases hpa:p=a
  ·subst hpa;rw[fW ⟨rfl,rfl,by simp[kid]⟩,fW rfl];rfl
  ·have:¬ ((kid p k).1.1=a.1.1/\(kid p k).2=a.2/\(kid p k).1.2≠0):=by
    rintro ⟨e1,e2,_⟩;apply hpa;have ⟨⟨p1,p2⟩,p3⟩:=p;have ⟨⟨a1,a2⟩,a3⟩:=a;simp only[kid]at *;subst hp h1 e1 e2;rfl
   rw[fB this,fB hpa,fB (fun h=>h.2.2 hp)];exact Mh h2 hp k
def ndB:List Oid->Bool
 | []=>true
 | i :: r=> !r.contains i&&ndB r
theorem H1:∀{l:List Oid},ndB l=true->l.Nodup
 | [],_=>nodup_nil
 | i :: r,h=>by
  simp only[ndB,fT,Bool.not_eq_true',contains_eq_mem,decide_eq_false_iff_not]at h;exact nodup_cons.2 ⟨h.1,H1 h.2⟩
def Ob.isPool:Ob->Bool
 | .pool ..=>true
 | _=>false
def Rw(i:Oid):Oid:=((i.1.1,0),i.2)
theorem Et{p:Oid}(h:p.1.2=0)(k:Nat):Rw (kid p k)=p:=by
 have ⟨⟨p1,p2⟩,p3⟩:=p;simp only at h;subst h;rfl
theorem Ai8{i:Oid}(h:i.1.2≠0):i=kid (Rw i) (i.1.2 - 1):=by
 have ⟨⟨a,b⟩,c⟩:=i;simp only[kid,Rw]at *;rw[show b - 1+1=b by omega]
def Im:List (Oid×Option Ob)->OF
 | [],_=>none
 | (j,o) :: r,i=>match o with
  | some (.pool e u xss)=>if i.1.1=j.1.1/\i.2=j.2/\i.1.2≠0 then (xss[i.1.2 - 1]?).map (.arr e u) else Im r i
  | o=>if i=j then o else Im r i
def Ob.exp:Ob->Ob
 | .mat e p u xss=>.vec e 1 xss.length (hdL p u xss)
 | .tv e m t xs=>.vec e t.size xs.length (tvC m t xs)
 | o=>o
theorem L7:∀(ol:OL) (i:Oid),Am ol i=(Im ol i).map Ob.exp
 | [],_=>rfl
 | (j,o) :: r,i=>by
  have ih:=L7 r i;cases o with
  | none=>
   simp only[Am,Im];split
   ·rfl
   ·exact ih
  | some o=>
   cases o with
   | pool e u xss=>
    simp only[Am,Im];split
    ·cases xss[i.1.2 - 1]? <;> rfl
    ·exact ih
   | _=>
    simp only[Am,Im];split
    ·rfl
    ·exact ih
def Gg:List (Oid×Option Ob)->OF
 | [],_=>none
 | (j,o) :: r,p=>match o with
  | some (.pool e u xss)=>if p.1.1=j.1.1/\p.2=j.2 then some (.pool e u xss) else Gg r p
  | _=>if p.1.1=j.1.1/\p.2=j.2/\j.1.2≠0 then none else Gg r p
theorem Nk{e:TypeId}{u:Ty}{xss:List (List u.D)}{p:Oid}:∀{ol:OL},Gg ol p=some (.pool e u xss)->∀ k,Im ol (kid p k)=(xss[k]?).map (.arr e u)
 | [],h,_=>by cases h
 | (j,o) :: r,h,k=>by
  have hk:¬ (p.1.1=j.1.1/\p.2=j.2/\j.1.2≠0)->kid p k≠j:=fun hn ej=>hn (by subst ej;exact ⟨rfl,rfl,by simp[kid]⟩)
  cases o with
  | none=>
   simp only[Gg]at h;simp only[Im];split at h
   ·cases h
   next hn=>rw[fB (hk hn)];exact Nk h k
  | some o=>
   cases o with
   | pool e' u' xss' =>
    simp only[Gg]at h;simp only[Im];split at h
    next hc=>obtain ⟨rfl,rfl,he⟩:=Ob.pool.inj (osj h);obtain rfl:=eq_of_heq he;rw[fW ⟨by simpa [kid] using hc.1,by simpa [kid] using hc.2,by simp[kid]⟩];simp[kid]
    next hc=>rw[fB (fun h'=>hc ⟨h'.1,h'.2.1⟩)];exact Nk h k
   | _=>
    simp only[Gg]at h;simp only[Im];split at h
    ·cases h
    next hn=>rw[fB (hk hn)];exact Nk h k
theorem Aac{e:TypeId}{u:Ty}{xss:List (List u.D)}{p:Oid}{ol:OL}(h:Gg ol p=some (.pool e u xss))(k:Nat):Am ol (kid p k)=(xss[k]?).map (.arr e u):=by
 rw[L7,Nk h];cases xss[k]? <;> rfl
theorem Bp{e:TypeId}{u:Ty}{xss:List (List u.D)}{row:List u.D}{p:Oid}{k:Nat}{ol:OL}(h:Gg ol p=some (.pool e u xss))(hx:xss[k]? =some row):Am ol (kid p k)=some (.arr e u row):=by
 rw[Aac h,hx];rfl
theorem Ars{e:TypeId}{u:Ty}{xss:List (List u.D)}{row:List u.D}{p:Oid}{k:Nat}{ol:OL}(h:Gg ol p=some (.pool e u xss))(hx:xss[k]? =some row):Im ol (kid p k)=some (.arr e u row):=by
 rw[Nk h,hx];rfl
theorem Aop(U:Oid->Oid)(o:Ob)(hk:∀ e p u xss,o=.mat e p u xss->∀ k,U (kid p k)=kid (U p) k):(o.ren U).exp=o.exp.ren U:=by
 cases o with
 | mat e p u xss=>
  have:AV.renL U (hdL p u xss)=hdL (U p) u xss:=by
   have key:∀ l:List (List u.D×Nat),AV.renL U (l.map fun x=>.own (kid p x.2) u 0 x.1.length)=l.map fun x=>.own (kid (U p) x.2) u 0 x.1.length:=by
    intro l
    induction l with
    | nil=>rfl
    | cons x l ih=>simp only[map_cons,AV.renL,ih,AV.ren,hk _ _ _ _ rfl]
   exact key _
  simp only[Ob.ren,Ob.exp,this]
 | tv e m t xs=>simp only[Ob.ren,Ob.exp,Su]
 | _=>rfl
def Aqy(ol0:OL)(U:Oid->Oid)(q:Oid×Ob):Option Ob:=if q.2.isPool then Gg ol0 (U q.1) else Im ol0 (U q.1)
def X6(ol0:OL)(U:Oid->Oid):List (Oid×Ob)->Prop
 | []=>True
 | q :: r=>Aqy ol0 U q=some (q.2.ren U)/\X6 ol0 U r
theorem Ys{ol0:OL}{U:Oid->Oid}:∀{ol:List (Oid×Ob)},(ol.map fun q=>Aqy ol0 U q)=(ol.map fun q=>some (q.2.ren U))->X6 ol0 U ol
 | [],_=>trivial
 | q :: r,h=>by
  simp only[map_cons,List.cons.injEq]at h;exact ⟨h.1,Ys h.2⟩
theorem Zj{ol0:OL}{U:Oid->Oid}:∀{ol:List (Oid×Ob)},X6 ol0 U ol->∀ q∈ol,Aqy ol0 U q=some (q.2.ren U)
 | _ :: _,h,q,hq=>by
  rcases mem_cons.1 hq with rfl|hq
  ·exact h.1
  ·exact Zj h.2 q hq
theorem Kb{q:Oid×Ob}:∀{ol:List (Oid×Ob)},q∈exL ol->(∃ p e u xss k row,(p,Ob.pool e u xss)∈ol/\xss[k]? =some row/\q=(kid p k,.arr e u row))∨∃ o,(q.1,o)∈ol/\o.isPool=false/\q.2=o.exp
 | [],h=>by cases h
 | (p,o) :: r,h=>by
  have rest:q∈exL r->_:=fun h=>Kb (ol:=r) h
  have lift:((∃ p e u xss k row,(p,Ob.pool e u xss)∈r/\xss[k]? =some row/\q=(kid p k,.arr e u row))∨∃ o,(q.1,o)∈r/\o.isPool=false/\q.2=o.exp)->((∃ p' e u xss k row,(p',Ob.pool e u xss)∈(p,o) :: r/\xss[k]? =some row/\q=(kid p' k,.arr e u row))∨∃ o',(q.1,o')∈(p,o) :: r/\o'.isPool=false/\q.2=o'.exp):=by
   rintro (⟨p',e,u,xss,k,row,h1,h2⟩|⟨o',h1,h2⟩)
   ·exact .inl ⟨p',e,u,xss,k,row,mem_cons_of_mem _ h1,h2⟩
   ·exact .inr ⟨o',mem_cons_of_mem _ h1,h2⟩
  cases o with
  | pool e u xss=>
   simp only[exL,mem_append]at h;rcases h with h|h
   ·obtain ⟨⟨row,k⟩,hx,rfl⟩:=mem_map.1 h;rw[mem_zipIdx_iff_getElem?]at hx;exact .inl ⟨p,e,u,xss,k,row,by simp,hx,rfl⟩
   ·exact lift<|rest h
  | _=>
   simp only[exL]at h;rcases mem_cons.1 h with rfl|h
   ·exact .inr ⟨_,mem_cons_self,rfl,rfl⟩
   ·exact lift<|rest h
theorem Aja{ol0:OL}{l:List (Oid×Oid)}{ol:List (Oid×Ob)}(hl:T6 l=true)(h:X6 ol0 (Bl l) ol)(hp:(ol.all fun q=>match q.2 with | .pool ..=>q.1.1.2==0 | .mat _ p _ _=>p.1.2==0|_=>true)=true):∀ q∈exL ol,Am ol0 (Bl l q.1)=some (q.2.ren (Bl l)):=by
 intro q hq;rw[all_eq_true]at hp;rcases Kb hq with ⟨p,e,u,xss,k,row,h1,h2,rfl⟩|⟨o,h1,h2,h3⟩
 ·have g:=Zj h _ h1;simp only[Aqy,Ob.isPool,if_true,Ob.ren]at g;have hp0:=hp _ h1;simp only[fF]at hp0;rw[Mh hl hp0,Bp g h2];rfl
 ·have g:=Zj h _ h1;simp only[Aqy,h2,Bool.false_eq_true,if_false]at g;rw[h3,L7,g];simp only[Option.map_some];rw[Aop];intro e p u xss e' k;subst e';have hp0:=hp _ h1;simp only[fF]at hp0;exact Mh hl hp0 k
def Vf(DN DP:List Oid)(i:Oid):Bool:=if i.1.2=0 then DN.contains i else DP.contains (Rw i)
mutual
def AV.cl(DN DP:List Oid):AV->Bool
 | .own i _ _ _=>Vf DN DP i
 | .box i _=>Vf DN DP i
 | .elt i _ _=>Vf DN DP i
 | .sla i _ _=>Vf DN DP i
 | .mp i=>Vf DN DP i
 | .agg cs=>AV.clL DN DP cs
 | .tup cs=>AV.clL DN DP cs
 | .fn _ cs=>AV.clL DN DP cs
 | .ref cs=>AV.clL DN DP cs
 | _=>true
def AV.clL(DN DP:List Oid):LA->Bool
 | []=>true
 | c :: cs=>AV.cl DN DP c&&AV.clL DN DP cs
end
def Ob.cl(DN DP:List Oid):Ob->Bool
 | .cells _ cs=>AV.clL DN DP cs
 | .vec _ _ _ cs=>AV.clL DN DP cs
 | .mat _ p _ _=>DP.contains p&&p.1.2==0
 | _=>true
mutual
theorem AV.cl_P{DN DP:List Oid}:∀(c:AV),c.cl DN DP=true->c.cloP (fun i=>Vf DN DP i=true)
 | .any,_ | .int _ _,_ | .bool _,_ | .str _,_ | .nils,_ | .abool _ _,_ | .err ..,_ | .tree _ _,_ | .giv _ _ _,_ | .mtree _ _ _,_ | .ftr _ _ _,_ | .telt _ _ _ _,_=>trivial
 | .own _ _ _ _,h=>h
 | .box _ _,h=>h
 | .elt _ _ _,h=>h
 | .sla _ _ _,h=>h
 | .mp _,h=>h
 | .agg cs,h=>AV.clL_P cs h
 | .tup cs,h=>AV.clL_P cs h
 | .fn _ cs,h=>AV.clL_P cs h
 | .ref cs,h=>AV.clL_P cs h
theorem AV.clL_P{DN DP:List Oid}:∀(cs:LA),AV.clL DN DP cs=true->AV.cloPL (fun i=>Vf DN DP i=true) cs
 | [],_=>trivial
 | c :: cs,h=>by
  simp only[AV.clL,fT]at h;exact ⟨AV.cl_P c h.1,AV.clL_P cs h.2⟩
end
theorem Atm{D:Oid->Prop}{p:Oid}{u:Ty}(xss:List (List u.D))(h:∀ k,k<xss.length->D (kid p k)):AV.cloPL D (hdL p u xss):=by
 have key:∀ l:List (List u.D×Nat),(∀ x∈l,D<|kid p x.2)->AV.cloPL D (l.map fun x=>.own (kid p x.2) u 0 x.1.length):=by
  intro l
  induction l with
  | nil=>intro _;trivial
  | cons x l ih=>intro h;exact ⟨h x fS,ih fun y hy=>h y (by simp[hy])⟩
 refine key _ fun x hx=>h _ ?_
 have ⟨row,k⟩:=x;rw[mem_zipIdx_iff_getElem?]at hx;exact (gSi.1 hx).1
theorem Ob.cl_P{DN DP:List Oid}(o:Ob)(hp:o.isPool=false)(h:o.cl DN DP=true):o.exp.cloP (fun i=>Vf DN DP i=true):=by
 cases o with
 | cells _ cs=>exact AV.clL_P cs h
 | vec _ _ _ cs=>exact AV.clL_P cs h
 | mat e p u xss=>
  simp only[Ob.cl,fT,fF]at h;refine Atm xss fun k _=>?_
  simp only[Vf];rw[fB (by simp[kid]),Et h.2];exact h.1
 | arr _ _ _=>trivial
 | map _ _ _=>trivial
 | pool _ _ _=>cases hp
 | tv e m t xs=>exact An2 xs
def Cm(ol:List (Oid×Ob)):List Oid:=(ol.filter fun q=> !q.2.isPool).map (·.1)
def Ct(ol:List (Oid×Ob)):List Oid:=(ol.filter fun q=>q.2.isPool).map (·.1)
def Auj(l:List (Oid×Oid))(tl:TL)(ol:List (Oid×Ob))(g:Nat):Bool:=
 T6 l&&((tl.all fun p=>p.2.cl (Cm ol) (Ct ol))&&((ol.all fun q=>q.2.cl (Cm ol) (Ct ol))&&(ndB ((Cm ol).map (Bl l))&&(ndB ((Ct ol).map (Bl l)) &&
  ((ol.all fun q=>decide (q.1.2<g)&&(q.1.1.2==0))&&((ol.all fun q=> !(q.1.2==0)||(Bl l q.1==q.1)) &&
   (((Ct ol).all fun i=>(Bl l i).1.2==0)&&(((Cm ol).all fun i=>(Bl l i).1.2==0|| !((Ct ol).map (Bl l)).contains (Rw (Bl l i)))&&decide (0<g)))))))))
theorem Ag{G:WP}{tl0:TL}{ol0:OL}{g0:Nat}(l:List (Oid×Oid)){tl:TL}{ol:List (Oid×Ob)}{g:Nat}(h1:(tl.map fun p=>Ap tl0 p.1)=tl.map fun p=>p.2.ren (Bl l):=by kernel_rfl)(h2:X6 ol0 (Bl l) ol:=by exact Ys (by kernel_rfl))(h3:Auj l tl ol g=true:=by kernel_rfl):WeakG G ⟨Ap tl0,Am ol0,g0⟩ ⟨Ap tl,Am (Cq ol),g⟩:=by
 intro w0 B N a w hr;have ⟨C,hm,hf,hB⟩:=hr.ex;simp only[Auj,fT,decide_eq_true_eq]at h3;have ⟨c0,c1,c2,c3,c4,c5,c6,c7,c8,c9⟩:=h3;rw[all_eq_true]at c1 c2 c5 c6 c7 c8;have memN:∀{q},q∈ol->q.2.isPool=false->q.1∈Cm ol:=fun hq hp=>mem_map.2 ⟨_,mem_filter.2 ⟨hq,by simp[hp]⟩,rfl⟩
 have memP:∀{q},q∈ol->q.2.isPool=true->q.1∈Ct ol:=fun hq hp=>mem_map.2 ⟨_,mem_filter.2 ⟨hq,by simp[hp]⟩,rfl⟩
 have ofN:∀{i},i∈Cm ol->∃ q∈ol,q.1=i:=fun hi=>by
  have ⟨q,hq,e⟩:=mem_map.1 hi;exact ⟨q,(mem_filter.1 hq).1,e⟩
 have ofP:∀{i},i∈Ct ol->∃ q∈ol,q.1=i:=fun hi=>by
  have ⟨q,hq,e⟩:=mem_map.1 hi;exact ⟨q,(mem_filter.1 hq).1,e⟩
 have c5':∀ q∈ol,q.1.2<g/\q.1.1.2=0:=fun q hq=>by
  have:=c5 q hq
  simpa only[fT,decide_eq_true_eq,fF] using this
 have ndN:=H1 c3;have ndP:=H1 c4
 let D:Oid->Prop:=fun i=>Vf (Cm ol) (Ct ol) i=true
 let C':OC:=fun i=>if i.2=0 then C i else if Vf (Cm ol) (Ct ol) i=true then C (Bl l i) else none
 have hzero:∀ q∈ol,q.1.2=0->Bl l q.1=q.1:=by
  intro q hq h;have:=c6 q hq;simp only[Bool.or_eq_true,Bool.not_eq_true',fU,fF]at this;exact this.resolve_left fun h'=>h' h
 have hDc:∀ i,D i->(i.1.2=0/\i∈Cm ol)∨(i.1.2≠0/\Rw i∈Ct ol):=by
  intro i hi;have hi:Vf (Cm ol) (Ct ol) i=true:=hi;unfold Vf at hi;split at hi
  ·exact .inl ⟨by assumption,contains_iff_mem.1 hi⟩
  ·exact .inr ⟨by assumption,contains_iff_mem.1 hi⟩
 have hkid:∀ i,i.1.2≠0->Bl l i=kid (Bl l<|Rw i) (i.1.2 - 1):=by
  intro i hi;have:=Mh c0 (p:=Rw i) rfl<|i.1.2 - 1
  rwa [← Ai8 hi]at this
 have hC:∀ i,D i->C' i=C (Bl l i):=by
  intro i hi;by_cases h0:i.2=0
  ·simp only[C',fW h0];rcases hDc i hi with ⟨_,hm⟩|⟨hk,hm⟩
   ·obtain ⟨q,hq,rfl⟩:=ofN hm;rw[hzero q hq h0]
   ·have ⟨q,hq,e⟩:=ofP hm;have:Bl l (Rw i)=Rw i:=by rw[← e];exact hzero q hq (by rw[e];exact h0)
    rw[hkid i hk,this,← Ai8 hk]
  ·simp only[C',fB h0];exact fW hi
 have hpl:(ol.all fun q=>match q.2 with | .pool ..=>q.1.1.2==0 | .mat _ p _ _=>p.1.2==0|_=>true)=true:=by
  rw[all_eq_true];rintro ⟨i,o⟩ hq;cases o with
  | pool e u xss=>simpa using (c5' _ hq).2
  | mat e p u xss=>
   have:=c2 _ hq;simp only[Ob.cl,fT]at this;exact this.2
  | _=>rfl
 have hget:=Aja c0 h2 hpl;have htget:∀ p∈tl,Ap tl0 p.1=p.2.ren (Bl l):=fun p hp=>map_inj_left.1 h1 p hp
 have hex:∀ q∈exL ol,D q.1/\q.2.cloP D:=by
  intro q hq;rcases Kb hq with ⟨p,e,u,xss,k,row,m1,m2,rfl⟩|⟨o,m1,m2,m3⟩
  ·refine ⟨?_,trivial⟩;show Vf _ _ _=true;unfold Vf;rw[fB (by simp[kid]),Et (c5' _ m1).2];exact contains_iff_mem.2<|memP m1 rfl
  ·refine ⟨?_,by rw[m3];exact Ob.cl_P o m2<|c2 _ m1⟩;show Vf _ _ _=true;unfold Vf;rw[fW (c5' (q.1,o) m1).2];exact contains_iff_mem.2<|memN (q:=(q.1,o)) m1 m2
 have hinj:∀ q∈exL ol,∀ q'∈exL ol,Bl l q.1=Bl l q'.1->q.1=q'.1:=by
  intro q hq q' hq' e;rcases hDc _ (hex q hq).1 with ⟨a1,a2⟩|⟨a1,a2⟩ <;> rcases hDc _ (hex q' hq').1 with ⟨b1,b2⟩|⟨b1,b2⟩
  ·exact Sh ndN a2 b2 e
  ·exfalso;rw[hkid _ b1]at e;have hz:=c7 _ b2;rw[fF]at hz;have:=c8 _ a2;rw[e]at this;simp only[Bool.or_eq_true,fF,Bool.not_eq_true',Et hz]at this;rcases this with h|h
   ·simp[kid]at h
   ·rw[contains_iff_mem.2 (mem_map.2 ⟨_,b2,rfl⟩)]at h;cases h
  ·exfalso;rw[hkid _ a1]at e;have hz:=c7 _ a2;rw[fF]at hz;have:=c8 _ b2;rw[← e]at this;simp only[Bool.or_eq_true,fF,Bool.not_eq_true',Et hz]at this;rcases this with h|h
   ·simp[kid]at h
   ·rw[contains_iff_mem.2 (mem_map.2 ⟨_,a2,rfl⟩)]at h;cases h
  ·rw[hkid _ a1,hkid _ b1]at e;have z1:=c7 _ a2;have z2:=c7 _ b2;rw[fF]at z1 z2
   have e1:Bl l (Rw q.1)=Bl l (Rw q'.1):=by
    rw[← Et z1 (q.1.1.2 - 1),e,Et z2]
   have e2:=Sh ndP a2 b2 e1;rw[e1]at e;have e3:=Gr e;rw[Ai8 a1,Ai8 b1,e2,e3]
 have him:∀ b,imm (Am ol0) C b->imm (Am<|Cq ol) C' b:=by
  intro b hb i o cp s ho hs;have hq:=Jb ho;rw[hC i (hex _ hq).1]at hs;exact hb (Bl l i) _ cp s (hget _ hq) hs
 have hC0:∀ i l',C' i=some l'->(i.2=0/\C i=some l')∨(D i/\C (Bl l i)=some l'):=by
  intro i l' hi;simp only[C']at hi;split at hi
  ·exact .inl ⟨by assumption,hi⟩
  ·split at hi
   ·exact .inr ⟨by assumption,hi⟩
   ·cases hi
 refine ⟨⟨C',⟨hm.below,hm.inv,fun i l' hi=>?_,fun i b cp s hi=>?_,fun i b cp s hi=>?_,fun i j b cp s cp' s' o o' hi hj e1 e2=>?_,fun i o l' ho hl=>?_⟩,fun t=>?_,?_⟩,hr.size,hr.defers,fun i hi=>?_⟩
 ·rcases hC0 i l' hi with ⟨h,_⟩|⟨h,_⟩
  ·show i.2<g;omega
  ·show i.2<g;rcases hDc i h with ⟨_,hm⟩|⟨_,hm⟩
   ·obtain ⟨q,hq,rfl⟩:=ofN hm;exact (c5' q hq).1
   ·have ⟨q,hq,e⟩:=ofP hm;have:=(c5' q hq).1;rw[e]at this;exact this
 ·rcases hC0 i _ hi with ⟨_,h⟩|⟨_,h⟩ <;> exact hm.lt _ b cp s h
 ·rcases hC0 i _ hi with ⟨_,h⟩|⟨_,h⟩ <;> exact hm.cap _ b cp s h
 ·have q1:=Jb hi;have q2:=Jb hj;rw[hC i (hex _ q1).1]at e1;rw[hC j (hex _ q2).1]at e2;have:=hm.inj (Bl l i) (Bl l j) b cp s cp' s' _ _ (hget _ q1) (hget _ q2) e1 e2;exact hinj _ q1 _ q2 this
 ·have hq:=Jb ho;rw[hC i (hex _ hq).1]at hl;exact Ase hC him (hex _ hq).2<|hm.obs (Bl l i) _ l' (hget _ hq) hl
 ·have key:∀ l':TL,(∀ p∈l',p∈tl)->AV.Rep C' (imm (Am<|Cq ol) C') w (Ap l' t) (a.tmps.getD t undef):=by
   intro l'
   induction l' with
   | nil=>intro _;trivial
   | cons p r ih=>
    have ⟨j,v⟩:=p;intro h;simp only[Ap];split
    next e=>subst e;have hp:=h (t,v) fS;have:AV.Rep C (imm (Am ol0) C) w (Ap tl0 t) (a.tmps.getD t undef):=hf t;rw[show Ap tl0 t=v.ren (Bl l) from htget _ hp]at this;exact Aqc hC him v _ (AV.cl_P v<|c1 _ hp) this
    ·exact ih fun p hp=>h p (by simp[hp])
  exact key tl fun _ h=>h
 ·refine ⟨fun i l' hi=>?_,fun b hb hi=>him b<|hB.im_ b hb hi,hB.blk,hB.size⟩;have:=hB.loc i l' hi;have h0:=B.zero i l' hi;simp only[C',fW h0];exact this
 ·cases ho:Am (Cq ol) i with
  | none=>exact absurd ho hi
  | some o=>
   show i.2<g;rcases hDc i (hex _<|Jb ho).1 with ⟨_,hm⟩|⟨_,hm⟩
   ·obtain ⟨q,hq,rfl⟩:=ofN hm;exact (c5' q hq).1
   ·have ⟨q,hq,e⟩:=ofP hm;have:=(c5' q hq).1;rw[e]at this;exact this
def C2(P:Program)(fn:Func):Option (AC×List Res):=
 match fn.body with
 | some c=>match AC.of P fn.ntmps c,Res.ofL P fn.results.toList with
  | some ac,some rs=>some (ac,rs)
  | _,_=>none
 | none=>none
def mC(x:Option (AC×List Res)):AC:=x.elim .skip (·.1)
theorem Av7{P:Program}[IsP P]{G:WP}(hfol:P.follows .mixedOrders=true){g:FuncId}{fn:Func}(hf:P.funcs[g]? =some fn){ac:AC}{rs:List Res}(hc:C2 P fn=some (ac,rs)){args:LA}{r:RV}{n:Nat}(hN:fn.ntmps=n)(hn:args.length<=n)
  (h:awp P G ac (fun e S=>∃ S',WeakG G S S'/\(e=.normal∨e=.ret)/\RetOK [] rs S' r) (St.init args)):Da P G g args r:=by
 unfold C2 at hc;split at hc
 ·rename_i c hb;split at hc
  next ac' rs' h1 h2=>obtain ⟨rfl,rfl⟩:=Prod.mk.inj<|osj hc;exact Axf hfol hf hb h1 h2 oM fun im w vs hr=>⟨args,rfl,hr,D6 (fun e S ⟨S',hw,he,hq⟩=>⟨S',hw,he,hq.wide⟩) h⟩
  ·cases hc
 ·cases hc
theorem Asy{P:Program}[IsP P]{G:WP}(hfol:P.follows .mixedOrders=true){g:FuncId}{fn:Func}(hf:P.funcs[g]? =some fn){ac:AC}{rs:List Res}(hc:C2 P fn=some (ac,rs)){args:LA}{n:Nat}(hN:fn.ntmps=n)(hn:args.length<=n)
  {ol us:List (Oid×Ob)} {v:AV} (hz:∀ q∈exL ol,q.1.2=0/\q.2.cloP (·∈nmL ol)) (hnd:(nmL us).Nodup) (hus:∀ q∈exL us,(q.1.2=1∨q.1∈nmL ol)/\(q.2.hp (·∈nmL us)∨q∈exL ol/\q.2.hpG (·∈nmL us))) (hcl:AV.cloPL (·∈nmL ol) args) (hv:v.hp (·∈nmL us))
  (h:awp P G ac (fun e S=>∃ S',WeakG G S S'/\(e=.normal∨e=.ret)/\(∃ rvs,Res.evL S'.tm S'.ob rs=some rvs/\v=Agk rvs)/\∀ q∈exL us,S'.ob q.1=some q.2) ⟨fun i=>args.getD i .any,Am (Cq ol),1⟩):Ed P G g args ol v us:=by
 unfold C2 at hc;split at hc
 ·rename_i c hb;split at hc
  next ac' rs' h1 h2=>obtain ⟨rfl,rfl⟩:=Prod.mk.inj<|osj hc;exact Atl hfol hf hb h1 h2 oM hz hnd hus hcl hv h
  ·cases hc
 ·cases hc
end
section
theorem Arj{G:WP}{S:St}(s:Nat)(o:Oid)(ρ:Nat->Oid){e1 e:TypeId}{u:Ty}{cs:LA}{xss:List (List u.D)}{n:Nat}{ob':OF}(hfl:u.flat=true)(ho:S.ob o=some (.vec e1 1 n cs))(hn:n=xss.length)
  (hrow:∀ k row,xss[k]? =some row->cs[k]? =some (.own (ρ k) u 0 row.length)/\∃ ys,S.ob (ρ k)=some (.arr e u ys)/\row.length<=ys.length/\row=ys.take row.length)
  (hinj:∀ j k,j<xss.length->k<xss.length->ρ j=ρ k->j=k)
  (h1:ob' o=some (.vec e1 1 n (hdL ((s,0),S.gen) u xss))) (h2:∀ k,ob' (kid ((s,0),S.gen) k)=(xss[k]?).map (.arr e u))
  (h3:∀ i,i≠o->(∀ k,i≠kid ((s,0),S.gen) k)->ob' i=none∨(ob' i=S.ob i/\∀ k,k<xss.length->i≠ρ k)):WeakG G S ⟨S.tm,ob',S.gen+1⟩:=by
 intro w0 B N a w hr;have ⟨C,hm,hf,hB⟩:=hr.ex
 let p:Oid:=((s,0),S.gen)
 have hfr:∀ i:Oid,i.2=S.gen->C i=none:=fun i hi=>Goes.fresh hm (by rw[hi];exact Nat.lt_irrefl _)
 have hobn:∀ i:Oid,i.2=S.gen->S.ob i=none:=fun i hi=>by
  cases h:S.ob i with
  | none=>rfl
  | some x=>have:=hr.obg i (by rw[h];simp);omega
 have hop:∀ k,o≠kid p k:=fun k e=>by
  have:=hobn o (by rw[e];rfl);rw[ho]at this;cases this
 have hog:o.2≠S.gen:=fun e=>by have:=hobn o e;rw[ho]at this;cases this
 let C':OC:=fun i=>if i.1.1=s/\i.2=S.gen/\i.1.2≠0 then (if i.1.2 - 1<xss.length then C (ρ<|i.1.2 - 1) else none) else C i
 have hCk:∀ k,k<xss.length->C' (kid p k)=C (ρ k):=fun k hk=>by
  simp only[C'];rw[fW ⟨rfl,rfl,by simp[kid]⟩];simp[kid,hk]
 have hCo:∀ i,(∀ k,i≠kid p k)->C' i=C i:=fun i hi=>by
  simp only[C'];rw[fB];rintro ⟨e1,e2,e3⟩;refine hi (i.1.2 - 1) ?_;have ⟨⟨i1,i2⟩,i3⟩:=i;simp only[kid,p]at *;subst e1 e2;rw[show i2 - 1+1=i2 by omega]
 have hloc:∀ i l,C i=some l->C' i=some l:=fun i l hi=>by
  rw[hCo i fun k e=>by rw[e,hfr _ rfl]at hi;cases hi];exact hi
 have hρ:∀ k,k<xss.length->∃ ys,S.ob (ρ k)=some (.arr e u ys):=fun k hk=>by
  have ⟨_,ys,h,_⟩:=hrow k _<|gEg hk;exact ⟨ys,h⟩
 have hcase:∀ i,i=o∨(∃ k,i=kid p k)∨(i≠o/\∀ k,i≠kid p k):=fun i=>by
  by_cases a1:i=o
  ·exact .inl a1
  ·by_cases a2:∃ k,i=kid p k
   ·exact .inr<|.inl a2
   ·exact .inr<|.inr ⟨a1,fun k e=>a2 ⟨k,e⟩⟩
 have hwas:∀ i x,ob' i=some x->∃ i0 x0,S.ob i0=some x0/\C' i=C i0/\((i=o/\i0=o)∨(∃ k,k<xss.length/\i=kid p k/\i0=ρ k)∨(i0=i/\i≠o/\(∀ k,i≠kid p k)/\ob' i=S.ob i/\∀ k,k<xss.length->i≠ρ k)):=by
  intro i x hx;rcases hcase i with rfl|⟨k,rfl⟩|⟨a1,a2⟩
  ·exact ⟨i,_,ho,hCo i hop,.inl ⟨rfl,rfl⟩⟩
  ·have hk:k<xss.length:=by
    rw[h2 k]at hx;have ⟨row,hrow',_⟩:=oms.1 hx;exact (gSi.1 hrow').1
   have ⟨ys,h⟩:=hρ k hk;exact ⟨ρ k,_,h,hCk k hk,.inr<|.inl ⟨k,hk,rfl,rfl⟩⟩
  ·rcases h3 i a1 a2 with h|⟨h,h'⟩
   ·rw[h]at hx;cases hx
   ·exact ⟨i,x,by rw[← h];exact hx,hCo i a2,.inr<|.inr ⟨rfl,a1,a2,h,h'⟩⟩
 have him:∀ b,imm S.ob C b->imm ob' C' b:=by
  intro b hb i x c s' hx hs;have ⟨i0,x0,g1,g2,_⟩:=hwas i x hx;rw[g2]at hs;exact hb i0 x0 c s' g1 hs
 have hL:Later C C' (imm S.ob C) (imm ob' C') w w:=⟨hloc,fun b _ hb=>him b hb,fun _ _ _=>rfl,fQ _⟩
 refine ⟨⟨C',⟨hm.below,hm.inv,fun i l hi=>?_,fun i b c s' hi=>?_,fun i b c s' hi=>?_,fun i j b c s' c' s2 x y hi hj e1 e2=>?_,fun i x l hx hl=>?_⟩,fun t=>AV.Rep.later hL _ _<|hf t,hB.trans hL⟩,hr.size,hr.defers,fun i hi=>?_⟩
 ·show i.2<S.gen+1;simp only[C']at hi;split at hi
  ·omega
  ·have:i.2<S.gen:=hm.gen i l hi;omega
 ·simp only[C']at hi;split at hi
  ·split at hi
   ·exact hm.lt _ b c s' hi
   ·cases hi
  ·exact hm.lt i b c s' hi
 ·simp only[C']at hi;split at hi
  ·split at hi
   ·exact hm.cap _ b c s' hi
   ·cases hi
  ·exact hm.cap i b c s' hi
 ·have ⟨i0,x0,g1,g2,g3⟩:=hwas i x hi;have ⟨j0,y0,k1,k2,k3⟩:=hwas j y hj;rw[g2]at e1;rw[k2]at e2;have e0:=hm.inj i0 j0 b c s' c' s2 x0 y0 g1 k1 e1 e2
  have hoρ:∀ k,k<xss.length->o≠ρ k:=fun k hk e=>by
   have ⟨ys,h⟩:=hρ k hk;rw[← e,ho]at h;cases h
  rcases g3 with ⟨rfl,rfl⟩|⟨k,hk,rfl,rfl⟩|⟨rfl,a1,a2,a3,a4⟩ <;> rcases k3 with ⟨rfl,rfl⟩|⟨k',hk',rfl,rfl⟩|⟨rfl,b1,b2,b3,b4⟩
  ·rfl
  ·exact absurd e0<|hoρ k' hk'
  ·exact e0
  ·exact absurd e0.symm<|hoρ k hk
  ·rw[hinj k k' hk hk' e0]
  ·exact absurd e0.symm<|b4 k hk
  ·exact e0
  ·exact absurd e0<|a4 k' hk'
  ·exact e0
 ·replace hx:ob' i=some x:=hx
  show x.Rep w0.heap.size C' (imm ob' C') w l;rcases hcase i with rfl|⟨k,rfl⟩|⟨a1,a2⟩
  ·rw[h1]at hx;cases hx;rw[hCo i hop]at hl;have ⟨vs,p1,p2,p3,p4⟩:=hm.obs i _ l ho hl;refine ⟨vs,p1,AV.RepL.of_get ?_ fun k c v hc hv=>?_,p3,p4⟩
   ·rw[Dy,← hn];have:=p1.1;omega
   ·rw[Fx]at hc;obtain ⟨row,hk,rfl⟩:=oms.1 hc;have hlt:=(gSi.1 hk).1;have ⟨q1,ys,q2,q3,q4⟩:=hrow k row hk;have ⟨v',hv',hr'⟩:=p2.get q1;rw[hv]at hv';cases hv';have hs:=hCk k hlt;rcases hr' with ⟨g,q⟩|⟨b,cap,g,q⟩|⟨lc,g,q⟩
    ·exact .inl ⟨hs.trans g,q⟩
    ·exact .inr<|.inl ⟨b,cap,hs.trans g,q⟩
    ·exact .inr<|.inr ⟨lc,hs.trans g,q⟩
  ·rw[h2 k]at hx;obtain ⟨row,hk,rfl⟩:=oms.1 hx;have hlt:=(gSi.1 hk).1;have ⟨q1,ys,q2,q3,q4⟩:=hrow k row hk;rw[hCk k hlt]at hl;have ⟨f1,f2,f3⟩:=hm.obs _ _ l q2 hl
   have hnil:l=.nil->row.length=0:=by
    intro e0;subst e0;rcases f2.2 with ⟨_,h0⟩|⟨_,_,_,e1,_⟩
    ·omega
    ·cases e1
   have:=Vj f1 f2 q3 hnil;rw[← q4]at this;exact ⟨f1,this,f3⟩
  ·rcases h3 i a1 a2 with h|⟨h,_⟩
   ·rw[h]at hx;cases hx
   ·rw[hCo i a2]at hl;exact (hm.obs i x l (by rw[← h];exact hx) hl).later hL fun _ _ _ _=>rfl
 ·show i.2<S.gen+1;rcases hcase i with rfl|⟨k,rfl⟩|⟨a1,a2⟩
  ·have:=hr.obg i (by rw[ho];simp);omega
  ·show S.gen<S.gen+1;omega
  ·rcases h3 i a1 a2 with h|⟨h,_⟩
   ·exact absurd h hi
   ·have hi:ob' i≠none:=hi;rw[h]at hi;have:=hr.obg i hi;omega
section
variable{ol:OL}{e1 e:TypeId}{u:Ty}{xss:List (List u.D)}{p o:Oid}
theorem Apm{i p:Oid}(h:∀ k,i≠kid p k):¬ (i.1.1=p.1.1/\i.2=p.2/\i.1.2≠0):=by
 rintro ⟨a,b,c⟩;refine h (i.1.2 - 1) ?_;have ⟨⟨i1,i2⟩,i3⟩:=i;simp only[kid]at *;subst a b;rw[show i2 - 1+1=i2 by omega]
theorem Pp(i:Oid):Am ((p,some (.pool e u xss)) :: ol) i=if i.1.1=p.1.1/\i.2=p.2/\i.1.2≠0 then (xss[i.1.2 - 1]?).map (.arr e u) else Am ol i:=by
 simp only[Am]
theorem Kp(k:Nat):Am ((p,some (.pool e u xss)) :: ol) (kid p k)=(xss[k]?).map (.arr e u):=by
 rw[Pp,fW ⟨rfl,rfl,by simp[kid]⟩];simp[kid]
theorem J5{i:Oid}(h:∀ k,i≠kid p k):Am ((p,some (.pool e u xss)) :: ol) i=Am ol i:=by
 rw[Pp,fB (Apm h)]
theorem Sf(i:Oid):Am ((o,some (.mat e p u xss)) :: ol) i=if i=o then some (.vec e 1 xss.length (hdL p u xss)) else Am ol i:=by
 simp only[Am]
theorem Aie(i p:Oid):(∃ k,i=kid p k)∨∀ k,i≠kid p k:=by
 by_cases h:∃ k,i=kid p k
 ·exact .inl h
 ·exact .inr fun k e=>h ⟨k,e⟩
theorem Aww{k:Nat}{row row':List u.D}(hx:xss[k]? =some row)(hl:row'.length=row.length):hdL p u (xss.set k row')=hdL p u xss:=by
 apply ext_getElem?;intro j;rw[Fx,Fx,getElem?_set];by_cases h:k=j
 ·subst h;have hlt:=(gSi.1 hx).1;rw[fW rfl,fW hlt,hx];simp[hl]
 ·rw[fB h]
theorem Ajr{k:Nat}{row row':List u.D}(hm:Im ol o=some (.mat e1 p u xss))(ho:o.1.2=0)(hp:Gg ol p=some (.pool e u xss))(hx:xss[k]? =some row)(hl:row'.length=row.length):
  Am ((kid p k,some (.arr e u row')) :: (kid p k,none) :: ol)=Am ((o,some (.mat e1 p u (xss.set k row'))) :: (p,some (.pool e u (xss.set k row'))) :: ol):=by
 have hlt:=(gSi.1 hx).1;have hmo:Am ol o=some (.vec e1 1 xss.length<|hdL p u xss):=by rw[L7,hm];rfl
 funext i;have e0:Am ((kid p k,some<|.arr e u row') :: (kid p k,none) :: ol) i=if i=kid p k then some (.arr e u row') else if i=kid p k then none else Am ol i:=by simp only[Am]
 rw[e0,Sf];by_cases h1:i=o
 ·subst h1;rw[fW rfl,fB (fun e=>by rw[e]at ho;simp[kid]at ho),fB (fun e=>by rw[e]at ho;simp[kid]at ho),hmo,Aww hx hl,length_set]
 ·rw[fB h1];rcases Aie i p with ⟨j,rfl⟩|h2
  ·rw[Kp,getElem?_set];by_cases h3:k=j
   ·subst h3;rw[fW rfl,fW rfl,fW hlt];rfl
   ·rw[fB (fun e=>h3 (Gr e).symm),fB (fun e=>h3 (Gr e).symm),fB h3,Aac hp]
  ·rw[J5 h2,fB<|h2 k,fB (h2 k)]
theorem Ayl:∀(l:List (List u.D×Nat)) (ob:OF) (j:Oid),A3 (l.map fun x=>(kid p x.2,some (Ob.arr e u x.1))) ob j=match (l.reverse.find? fun x=>kid p x.2==j) with|some x=>some (.arr e u x.1)|none=>ob j
 | [],_,_=>rfl
 | x :: l,ob,j=>by
  simp only[map_cons,A3,foldl_cons];have ih:=Ayl l (upd ob (kid p x.2) (some (.arr e u x.1))) j;simp only[A3]at ih;rw[ih,reverse_cons,find?_append];cases h:l.reverse.find? fun x=>kid p x.2==j with
  | some y=>rfl
  | none=>
   simp only[Option.none_or,find?_cons,find?_nil];by_cases hj:kid p x.2=j
   ·subst hj;simp[upd]
   ·rw[show (kid p x.2==j)=false by simpa using hj];simp only[upd];rw[fB (fun e=>hj e.symm)]
theorem Ak8(hp:∀ k,Am ol (kid p k)=none):A3 (Afu p e u xss) (Am ol)=Am ((p,some (.pool e u xss)) :: ol):=by
 funext i;have hx:=Ayl (p:=p) (e:=e) (u:=u) xss.zipIdx (Am ol) i;unfold Afu;rw[hx];rcases Aie i p with ⟨j,rfl⟩|h2
 ·rw[Kp];cases hf:xss.zipIdx.reverse.find? fun x=>kid p x.2==kid p j with
  | some y=>
   have h1:=find?_some hf;have h2:=mem_of_find?_eq_some hf;simp only[fF]at h1;have h1:=Gr h1;rw[mem_reverse,mem_zipIdx_iff_getElem?,h1]at h2;rw[h2];rfl
  | none=>
   rw[find?_eq_none]at hf;cases hj:xss[j]? with
   | none=>exact hp j
   | some row=>
    have:=hf (row,j) (by rw[mem_reverse,mem_zipIdx_iff_getElem?];exact hj);simp at this
 ·rw[J5 h2];cases hf:xss.zipIdx.reverse.find? fun x=>kid p x.2==i with
  | some y=>
   have h1:=find?_some hf;simp only[fF]at h1;exact absurd h1.symm<|h2 _
  | none=>rfl
def P4(n:Nat)(ol:OL):Bool:=ol.all fun q=>q.1.2 !=n
theorem Sp:∀{ol:OL} {n:Nat},P4 n ol=true->∀ i:Oid,i.2=n->Am ol i=none
 | [],_,_,_,_=>rfl
 | (j,o) :: r,n,h,i,hi=>by
  simp only[P4,all_cons,fT,bne_iff_ne,ne_eq]at h;have ⟨h1,h2⟩:=h;have ih:=Sp (ol:=r) h2 i hi;have hne:i≠j:=fun e=>h1 (by rw[← e];exact hi)
  cases o with
  | none=>simp only[Am];rw[fB hne];exact ih
  | some o=>
   cases o with
   | pool e u xss=>rw[Pp,fB (fun h=>h1 (by rw[← h.2.1];exact hi))];exact ih
   | mat e p u xss=>rw[Sf,fB hne];exact ih
   | _=>simp only[Am];rw[fB hne];exact ih
end
theorem Ll{G:WP}{tl:TL}{ol:OL}{g:Nat}(s:Nat)(o:Oid)(ρ:Nat->Oid){e1 e:TypeId}{u:Ty}{cs:LA}{xss:List (List u.D)}{n:Nat}(kill:OL)(hfl:u.flat=true)(ho:Am ol o=some (.vec e1 1 n cs))(hn:n=xss.length)
  (hrow:∀ k row,xss[k]? =some row->cs[k]? =some (.own (ρ k) u 0 row.length)/\∃ ys,Am ol (ρ k)=some (.arr e u ys)/\row.length<=ys.length/\row=ys.take row.length)
  (hinj:∀ j k,j<xss.length->k<xss.length->ρ j=ρ k->j=k) (hog:(o.2==g)=false) (hfr:P4 g (kill++ol)=true)
  (hk:∀ i,i≠o->Am (kill++ol) i=none∨(Am (kill++ol) i=Am ol i/\∀ k,k<xss.length->i≠ρ k)):
  WeakG G ⟨Ap tl,Am ol,g⟩ ⟨Ap tl,Am ((o,some (.mat e1 ((s,0),g) u xss)) :: (((s,0),g),some (.pool e u xss)) :: (kill++ol)),g+1⟩:=by
 have hog':o.2≠g:=by simpa using hog
 refine Arj (S:=⟨Ap tl,Am ol,g⟩) s o ρ hfl ho hn hrow hinj ?_ (fun k=>?_) fun i h1 h2=>?_
 ·show Am _ o=some (.vec e1 1 n<|hdL ((s,0),g) u xss);rw[Sf,fW rfl,hn]
 ·show Am _ (kid ((s,0),g) k)=_;rw[Sf,fB (fun e=>hog' (by rw[← e];rfl)),Kp]
 ·show Am _ i=none∨(Am _ i=Am ol i/\_);rw[Sf,fB h1,J5 h2];exact hk i h1
theorem Ng{p:Oid}{ol:OL}{e:TypeId}{u:Ty}(i:Oid):Am ((p,some (.pool e u [])) :: ol) i=if i.1.1=p.1.1/\i.2=p.2/\i.1.2≠0 then none else Am ol i:=by
 rw[Pp];split <;> simp
theorem L3{q:Oid}{ol:OL}(i:Oid):Am ((q,none) :: ol) i=if i=q then none else Am ol i:=by
 simp only[Am]
theorem Aen{α:Type}{row ys:List α}{len:Nat}(hl:len<=ys.length)(hr:row=ys.take len):row.length=len/\row.length<=ys.length/\row=ys.take row.length:=by
 have:row.length=len:=by rw[hr,length_take];omega
 rw[this];exact ⟨rfl,hl,hr⟩
theorem Oh{α:Type}{ys:List α}{len:Nat}(h:len=ys.length):len<=ys.length:=by omega
theorem Ow{α:Type}{ys:List α}{len:Nat}(h:len=ys.length):ys=ys.take len:=by rw[h,take_length]
theorem Ari{G:WP}{tl:TL}{ol:OL}{g:Nat}(s:Nat)(o p q:Oid){e1 e:TypeId}{u:Ty}{xss:List (List u.D)}{j n len:Nat}{row ys:List u.D}(hfl:u.flat=true)(ho:Am ol o=some (.vec e1 1 n ((hdL p u xss).set j (.own q u 0 len))))(hn:n=xss.length)(hp:Gg ol p=some (.pool e u xss))(hq:Im ol q=some (.arr e u ys))(hl:len<=ys.length)(hr:row=ys.take len)
  (hqp:(q.1.1==p.1.1&&q.2==p.2&&q.1.2 !=0)=false) (hog:(o.2==g)=false) (hfr:P4 g ((q,none) :: (p,some (.pool e u [])) :: ol)=true):
  WeakG G ⟨Ap tl,Am ol,g⟩ ⟨Ap tl,Am ((o,some (.mat e1 ((s,0),g) u (xss.set j row))) :: (((s,0),g),some (.pool e u (xss.set j row))) :: (q,none) :: (p,some (.pool e u [])) :: ol),g+1⟩:=by
 have ⟨r1,r2,r3⟩:=Aen hl hr;have hqk:∀ k,q≠kid p k:=fun k e=>by rw[e]at hqp;simp[kid]at hqp
 have hq':Am ol q=some (.arr e u ys):=by rw[L7,hq];rfl
 refine Ll s o (fun k=>if k=j then q else kid p k) [(q,none),(p,some<|.pool e u [])] hfl ho (by rw[length_set];exact hn) (fun k row' hk=>?_) (fun a b ha hb hab=>?_) hog hfr fun i _=>?_
 ·rw[getElem?_set]at hk ⊢;by_cases h:j=k
  ·subst h;rw[fW rfl]at hk ⊢;split at hk
   next hlt=>cases hk;rw[Dy,fW hlt,fW rfl,r1];exact ⟨rfl,ys,hq',hl,hr⟩
   ·cases hk
  ·rw[fB h]at hk ⊢;rw[Fx,hk,fB (fun e=>h e.symm)];exact ⟨rfl,row',Bp hp hk,fQ _,(take_length).symm⟩
 ·by_cases h1:a=j <;> by_cases h2:b=j
  ·rw[h1,h2]
  ·rw[fW h1,fB h2]at hab;exact absurd hab<|hqk b
  ·rw[fB h1,fW h2]at hab;exact absurd hab.symm<|hqk a
  ·rw[fB h1,fB h2]at hab;exact Gr hab
 ·simp only[cons_append,nil_append,L3];by_cases h1:i=q
  ·rw[fW h1];exact .inl rfl
  ·rw[fB h1,Ng];split
   ·exact .inl rfl
   ·rename_i h2;refine .inr ⟨rfl,fun k _=>?_⟩;split
    ·exact h1
    ·intro e;exact h2 (by rw[e];exact ⟨rfl,rfl,by simp[kid]⟩)
theorem Add{G:WP}{tl:TL}{ol:OL}{g:Nat}(s:Nat)(o p:Oid){e1 e:TypeId}{u:Ty}{xss:List (List u.D)}{i j n li lj:Nat}{ri rj:List u.D}(hfl:u.flat=true)(ho:Am ol o=some (.vec e1 1 n (((hdL p u xss).set i (.own (kid p j) u 0 lj)).set j (.own (kid p i) u 0 li))))(hn:n=xss.length)(hp:Gg ol p=some (.pool e u xss))(hi:xss[i]? =some ri)(hj:xss[j]? =some rj)(hli:li=ri.length)(hlj:lj=rj.length)
  (hog:(o.2==g)=false) (hfr:P4 g ((p,some (.pool e u [])) :: ol)=true):
  WeakG G ⟨Ap tl,Am ol,g⟩ ⟨Ap tl,Am ((o,some (.mat e1 ((s,0),g) u ((xss.set i rj).set j ri))) :: (((s,0),g),some (.pool e u ((xss.set i rj).set j ri))) :: (p,some (.pool e u [])) :: ol),g+1⟩:=by
 subst hli hlj;have li:=(gSi.1 hi).1;have lj:=(gSi.1 hj).1;refine Ll s o (fun k=>if k=j then kid p i else if k=i then kid p j else kid p k) [(p,some<|.pool e u [])] hfl ho (by simp only[length_set];exact hn) (fun k row' hk=>?_) (fun a b ha hb hab=>?_) hog hfr fun x _=>?_
 ·rw[getElem?_set]at hk ⊢;by_cases h:j=k
  ·subst h;rw[fW rfl,length_set]at hk ⊢;rw[fW lj]at hk;cases hk;rw[Dy,fW lj,fW rfl];exact ⟨rfl,ri,Bp hp hi,fQ _,(take_length).symm⟩
  ·have hkj:¬ k=j:=fun e=>h e.symm
   rw[fB h,getElem?_set]at hk ⊢;simp only[fB hkj];by_cases h':i=k
   ·subst h';rw[fW rfl]at hk ⊢;rw[fW li]at hk;cases hk;simp only[if_true];rw[Dy,fW li];exact ⟨rfl,rj,Bp hp hj,fQ _,(take_length).symm⟩
   ·rw[fB h']at hk ⊢;have hki:¬ k=i:=fun e=>h' e.symm
    simp only[fB hki];rw[Fx,hk];exact ⟨rfl,row',Bp hp hk,fQ _,(take_length).symm⟩
 ·have key:∀ k,(if k=j then kid p i else if k=i then kid p j else kid p k)=kid p (if k=j then i else if k=i then j else k):=fun k=>by
   split
   ·rfl
   ·split <;> rfl
  have hab:(if a=j then kid p i else if a=i then kid p j else kid p a)=(if b=j then kid p i else if b=i then kid p j else kid p b):=hab;rw[key a,key b]at hab;have:=Gr hab
  repeat' split at this
  all_goals omega
 ·simp only[cons_append,nil_append];rw[Ng];split
  ·exact .inl rfl
  ·rename_i h2;refine .inr ⟨rfl,fun k _ e=>h2 ?_⟩
   have:∃ m,x=kid p m:=by
    split at e
    ·exact ⟨_,e⟩
    ·split at e <;> exact ⟨_,e⟩
   obtain ⟨m,rfl⟩:=this;exact ⟨rfl,rfl,by simp[kid]⟩
theorem Ew{G:WP}{tl:TL}{ol:OL}{g:Nat}(s:Nat)(o p q:Oid){e1 e:TypeId}{u:Ty}{xss:List (List u.D)}{n len:Nat}{row ys:List u.D}(hfl:u.flat=true)(ho:Am ol o=some (.vec e1 1 n (hdL p u xss++[.own q u 0 len])))(hn:n=xss.length+1)(hp:Gg ol p=some (.pool e u xss))(hq:Im ol q=some (.arr e u ys))(hl:len<=ys.length)(hr:row=ys.take len)
  (hqp:(q.1.1==p.1.1&&q.2==p.2&&q.1.2 !=0)=false) (hog:(o.2==g)=false) (hfr:P4 g ((q,none) :: (p,some (.pool e u [])) :: ol)=true):
  WeakG G ⟨Ap tl,Am ol,g⟩ ⟨Ap tl,Am ((o,some (.mat e1 ((s,0),g) u (xss++[row]))) :: (((s,0),g),some (.pool e u (xss++[row]))) :: (q,none) :: (p,some (.pool e u [])) :: ol),g+1⟩:=by
 have ⟨r1,r2,r3⟩:=Aen hl hr;have hqk:∀ k,q≠kid p k:=fun k e=>by rw[e]at hqp;simp[kid]at hqp
 have hq':Am ol q=some (.arr e u ys):=by rw[L7,hq];rfl
 refine Ll s o (fun k=>if k=xss.length then q else kid p k) [(q,none),(p,some<|.pool e u [])] hfl ho (by simp[hn]) (fun k row' hk=>?_) (fun a b ha hb hab=>?_) hog hfr fun i _=>?_
 ·rcases Nat.lt_trichotomy k xss.length with h|h|h
  ·rw[getElem?_append_left h]at hk;rw[getElem?_append_left (by rw[Dy];exact h),Fx,hk,fB oM];exact ⟨rfl,row',Bp hp hk,fQ _,(take_length).symm⟩
  ·subst h;rw[getElem?_append_right<|fQ _,Nat.sub_self]at hk;cases hk;rw[getElem?_append_right (by rw[Dy];exact fQ _),Dy,Nat.sub_self,fW rfl,r1];exact ⟨rfl,ys,hq',hl,hr⟩
  ·rw[getElem?_eq_none sO]at hk;cases hk
 ·by_cases h1:a=xss.length <;> by_cases h2:b=xss.length
  ·rw[h1,h2]
  ·rw[fW h1,fB h2]at hab;exact absurd hab<|hqk b
  ·rw[fB h1,fW h2]at hab;exact absurd hab.symm<|hqk a
  ·rw[fB h1,fB h2]at hab;exact Gr hab
 ·simp only[cons_append,nil_append,L3];by_cases h1:i=q
  ·rw[fW h1];exact .inl rfl
  ·rw[fB h1,Ng];split
   ·exact .inl rfl
   ·rename_i h2;refine .inr ⟨rfl,fun k _=>?_⟩;split
    ·exact h1
    ·intro e;exact h2 (by rw[e];exact ⟨rfl,rfl,by simp[kid]⟩)
theorem Dv{G:WP}{tl:TL}{ol:OL}{g:Nat}(s:Nat)(o:Oid){e1:TypeId}(e:TypeId)(u:Ty){n:Nat}(hfl:u.flat=true)(ho:Am ol o=some (.vec e1 1 n []))(hn:n=0)(hog:(o.2==g)=false)(hfr:P4 g ol=true):
  WeakG G ⟨Ap tl,Am ol,g⟩ ⟨Ap tl,Am ((o,some (.mat e1 ((s,0),g) u ([]:List (List u.D)))) :: (((s,0),g),some (.pool e u ([]:List (List u.D)))) :: ol),g+1⟩:=by
 exact Ll (e:=e) (xss:=([]:List (List u.D))) s o (fun _=>o) [] hfl ho hn (fun k row' hk=>by simp at hk) (fun a b ha hb _=>by simp at ha) hog hfr fun i _=>.inr ⟨rfl,fun k h=>by simp at h⟩
end
section
def Ix(ol:List (Oid×Ob)):Bool:=ol.all fun q=>q.1.1.2==0&&(match q.2 with | .mat _ p _ _=>p.1.2==0|_=>true)
theorem Al6{ol:List (Oid×Ob)}(h:Ix ol=true):(ol.all fun q=>match q.2 with | .pool ..=>q.1.1.2==0 | .mat _ p _ _=>p.1.2==0|_=>true)=true:=by
 unfold Ix at h;rw[all_eq_true]at h ⊢;rintro ⟨i,o⟩ hq;have:=h _ hq;simp only[fT]at this;cases o <;> first|exact this.1|exact this.2|rfl
def Avx(U:Oid->Oid)(ol:List (Oid×Ob)):Bool:=ndB ((Cm ol).map U)&&(ndB ((Ct ol).map U)&&(((Ct ol).all fun i=>(U i).1.2==0)&&(Cm ol).all fun i=>(U i).1.2==0|| !((Ct ol).map U).contains (Rw (U i))))
theorem Af8{ol:List (Oid×Ob)}{q:Oid×Ob}(hq:q∈ol)(hp:q.2.isPool=false):q.1∈Cm ol:=mem_map.2 ⟨_,mem_filter.2 ⟨hq,by simp[hp]⟩,rfl⟩
theorem R0{ol:List (Oid×Ob)}{q:Oid×Ob}(hq:q∈ol)(hp:q.2.isPool=true):q.1∈Ct ol:=mem_map.2 ⟨_,mem_filter.2 ⟨hq,by simp[hp]⟩,rfl⟩
theorem As7{U:Oid->Oid}{ol:List (Oid×Ob)}(hk:∀ p e u xss,(p,Ob.pool e u xss)∈ol->∀ k,U (kid p k)=kid (U p) k)(h:Avx U ol=true)(h0:Ix ol=true):∀ q∈exL ol,∀ q'∈exL ol,U q.1=U q'.1->q.1=q'.1:=by
 simp only[Avx,fT]at h;have ⟨c3,c4,c7,c8⟩:=h;rw[all_eq_true]at c7 c8;have ndN:=H1 c3;have ndP:=H1 c4;unfold Ix at h0;rw[all_eq_true]at h0
 have hb:∀ q∈ol,q.1.1.2=0:=fun q hq=>by
  have:=h0 q hq;simp only[fT,fF]at this;exact this.1
 intro q hq q' hq' e;rcases Kb hq with ⟨p,e1,u,xss,k,row,m1,m2,rfl⟩|⟨o,m1,m2,m3⟩ <;> rcases Kb hq' with ⟨p',e1',u',xss',k',row',m1',m2',rfl⟩|⟨o',m1',m2',m3'⟩
 ·simp only[hk _ _ _ _ m1,hk _ _ _ _ m1']at e;have z1:=c7 _<|R0 m1 rfl;have z2:=c7 _<|R0 m1' rfl;rw[fF]at z1 z2;have e1:U p=U p':=by rw[← Et z1 k,e,Et z2]
  have e2:=Sh ndP (R0 m1 rfl) (R0 m1' rfl) e1;have e2:p=p':=e2;subst e2;rw[Gr e]
 ·exfalso;simp only[hk _ _ _ _ m1]at e;have hz:=c7 _<|R0 m1 rfl;rw[fF]at hz;have:=c8 _<|Af8 (q:=(q'.1,o')) m1' m2';simp only[← e,Bool.or_eq_true,fF,Bool.not_eq_true',Et hz]at this;rcases this with h|h
  ·simp[kid]at h
  ·rw[contains_iff_mem.2 (mem_map.2 ⟨_,R0 m1 rfl,rfl⟩)]at h;cases h
 ·exfalso;simp only[hk _ _ _ _ m1']at e;have hz:=c7 _<|R0 m1' rfl;rw[fF]at hz;have:=c8 _<|Af8 (q:=(q.1,o)) m1 m2;simp only[e,Bool.or_eq_true,fF,Bool.not_eq_true',Et hz]at this;rcases this with h|h
  ·simp[kid]at h
  ·rw[contains_iff_mem.2 (mem_map.2 ⟨_,R0 m1' rfl,rfl⟩)]at h;cases h
 ·exact Sh ndN (Af8 (q:=(q.1,o)) m1 m2) (Af8 (q:=(q'.1,o')) m1' m2') e
def Qn(Y:Oid->Oid)(us:List (Oid×Ob)):List (Oid×Ob):=us.map fun q=>(Y q.1,q.2.ren Y)
theorem Ao2{Y:Oid->Oid}:∀{us:List (Oid×Ob)},(∀ p e u xss,(p,Ob.pool e u xss)∈us->∀ k,Y (kid p k)=kid (Y p) k)->(∀ j e p u xss,(j,Ob.mat e p u xss)∈us->∀ k,Y (kid p k)=kid (Y p) k)->exL (Qn Y us)=(exL us).map fun q=>(Y q.1,q.2.ren Y)
 | [],_,_=>rfl
 | (p,o) :: r,h1,h2=>by
  have ih:=Ao2 (us:=r) (fun p e u xss h=>h1 p e u xss (mem_cons_of_mem _ h)) (fun j e p u xss h=>h2 j e p u xss (mem_cons_of_mem _ h));cases o with
  | pool e u xss=>
   show (xss.zipIdx.map fun x=>(kid (Y p) x.2,Ob.arr e u x.1))++exL (Qn Y r)=((xss.zipIdx.map fun x=>(kid p x.2,Ob.arr e u x.1))++exL r).map fun q=>(Y q.1,q.2.ren Y)
   rw[map_append,ih,map_map];congr 1;apply map_congr_left;intro x _;simp only[Function.comp,h1 p e u xss fS];rfl
  | mat e q u xss=>
   have:=Aop Y (.mat e q u xss) (fun e' p' u' xss' he k=>by
    obtain ⟨rfl,rfl,rfl,he⟩:=Ob.mat.inj he;obtain rfl:=eq_of_heq he;exact h2 p e q u xss fS k)
   simp only[Ob.ren,Ob.exp]at this;show (Y p,Ob.vec e 1 xss.length (hdL (Y q) u xss)) :: exL (Qn Y r)=((p,Ob.vec e 1 xss.length (hdL q u xss)) :: exL r).map fun q=>(Y q.1,q.2.ren Y)
   rw[map_cons,ih,this];rfl
  | tv e m t xs=>
   show (Y p,Ob.vec e t.size xs.length (tvC m t xs)) :: exL (Qn Y r)=((p,Ob.vec e t.size xs.length (tvC m t xs)) :: exL r).map fun q=>(Y q.1,q.2.ren Y)
   rw[map_cons,ih];simp only[Ob.ren,Su]
  | _=>exact congrArg (List.cons _) ih
theorem Ti{rest:OL}:∀{us:List (Oid×Ob)},(Cm us).Nodup->(Ct us).Nodup->(∀ p∈Ct us,p.1.2=0)->(∀ i∈Cm us,∀ p∈Ct us,∀ k,i≠kid p k)->∀ q∈exL us,Am (Cq us++rest) q.1=some q.2
 | [],_,_,_,_,q,hq=>by cases hq
 | (p,o) :: r,nN,nP,h0,h1,q,hq=>by
  cases o with
  | pool e u xss=>
   have nP':(p :: Ct r).Nodup:=nP;have nN':(Cm r).Nodup:=nN;have h0':∀ i∈p :: Ct r,i.1.2=0:=h0;have h1':∀ i∈Cm r,∀ j∈p :: Ct r,∀ k,i≠kid j k:=h1;have ⟨n1,n2⟩:=nodup_cons.1 nP';simp only[exL,mem_append]at hq;show Am ((p,some (.pool e u xss)) :: (Cq r++rest)) q.1=some q.2;rcases hq with hq|hq
   ·obtain ⟨⟨row,k⟩,hx,rfl⟩:=mem_map.1 hq;rw[mem_zipIdx_iff_getElem?]at hx;rw[Kp];have hx:xss[k]? =some row:=hx;rw[hx];rfl
   ·rw[J5]
    ·exact Ti nN' n2 (fun i hi=>h0' i (mem_cons_of_mem _ hi)) (fun i hi j hj=>h1' i hi j (mem_cons_of_mem _ hj)) q hq
    ·intro k e';rcases Kb hq with ⟨p',e1,u',xss',k',row,m1,m2,rfl⟩|⟨o,m1,m2,m3⟩
     ·have e':kid p' k'=kid p k:=e';have hb:p'=p:=by rw[← Et (h0' p' (mem_cons_of_mem _ (R0 m1 rfl))) k',e',Et (h0' p mem_cons_self)]
      subst hb;exact n1 (R0 m1 rfl)
     ·exact h1' _ (Af8 (q:=(q.1,o)) m1 m2) p mem_cons_self k e'
  | _=>
   have nN':(p :: Cm r).Nodup:=nN;have nP':(Ct r).Nodup:=nP;have h1':∀ i∈p :: Cm r,∀ j∈Ct r,∀ k,i≠kid j k:=h1;have ⟨n1,n2⟩:=nodup_cons.1 nN';simp only[exL]at hq;rcases mem_cons.1 hq with rfl|hq
   ·simp[Cq,Am]
   ·have hne:q.1≠p:=by
     intro e';rcases Kb hq with ⟨p',e1,u',xss',k',row,m1,m2,rfl⟩|⟨o,m1,m2,m3⟩
     ·exact h1' p mem_cons_self p' (R0 m1 rfl) k' e'.symm
     ·exact n1 (by rw[← e'];exact Af8 (q:=(q.1,o)) m1 m2)
    have:=Ti (rest:=rest) n2 nP' h0 (fun i hi=>h1' i<|mem_cons_of_mem _ hi) q hq;simp only[Cq,map_cons,cons_append,Am];rw[fB hne];exact this
theorem Agx{rest:OL}:∀{us:List (Oid×Ob)} {k:Oid},(∀ q∈exL us,q.1≠k)->Am (Cq us++rest) k=Am rest k∨(Am (Cq us++rest) k=none/\∃ p e u xss,(p,Ob.pool e u xss)∈us/\k.2=p.2)
 | [],_,_=>.inl rfl
 | (p,o) :: r,k,h=>by
  have ih:(∀ q∈exL r,q.1≠k)->Am (Cq r++rest) k=Am rest k∨(Am (Cq r++rest) k=none/\∃ p' e u xss,(p',Ob.pool e u xss)∈(p,o) :: r/\k.2=p'.2):=fun h=>by
   rcases Agx (us:=r) (rest:=rest) h with h|⟨h,p',e,u,xss,hm,hk⟩
   ·exact .inl h
   ·exact .inr ⟨h,p',e,u,xss,mem_cons_of_mem _ hm,hk⟩
  cases o with
  | pool e u xss=>
   show Am ((p,some (.pool e u xss)) :: (Cq r++rest)) k=_∨_;rcases Aie k p with ⟨j,rfl⟩|h2
   ·refine .inr ⟨?_,p,e,u,xss,mem_cons_self,rfl⟩;show Am ((p,some (.pool e u xss)) :: (Cq r++rest)) (kid p j)=none;rw[Kp];cases hj:xss[j]? with
    | none=>rfl
    | some row=>
     refine absurd rfl (h (kid p j,.arr e u row) ?_);simp only[exL,mem_append];exact .inl (mem_map.2 ⟨(row,j),by rw[mem_zipIdx_iff_getElem?];exact hj,rfl⟩)
   ·have h3:=ih (fun q hq=>h q (by simp only[exL,mem_append];exact .inr hq));have:Am (Cq ((p,Ob.pool e u xss) :: r)++rest) k=Am (Cq r++rest) k:=J5 h2;rw[this,J5 h2];exact h3
  | _=>
   have h3:=ih (fun q hq=>h q (by simp only[exL];exact mem_cons_of_mem _ hq));have hne:k≠p:=fun e=>h (p,_) (by simp only[exL];exact mem_cons_self) e.symm
   simp only[Cq,map_cons,cons_append,Am]at h3 ⊢;rw[fB hne];exact h3
def M6(U:Oid->Oid)(ol:List (Oid×Ob)):OL:=ol.map fun q=>(U q.1,match q.2 with | .pool e u _=>some (.pool e u [])|_=>none)
theorem Ap6{U:Oid->Oid}{ol0:OL}:∀{ol:List (Oid×Ob)},(∀ p e u xss,(p,Ob.pool e u xss)∈ol->(∀ k,U (kid p k)=kid (U p) k)/\Gg ol0 (U p)=some (.pool e u xss))->∀ k,(k∈(nmL ol).map U->Am (M6 U ol++ol0) k=none)/\(k∉(nmL ol).map U->Am (M6 U ol++ol0) k=Am ol0 k)
 | [],_,k=>⟨fun h=>by simp[nmL,exL]at h,fun _=>rfl⟩
 | (p,o) :: r,h,k=>by
  have ⟨i1,i2⟩:=Ap6 (ol:=r) (fun p e u xss hm=>h p e u xss (mem_cons_of_mem _ hm)) k;cases o with
  | pool e u xss=>
   have ⟨g1,g2⟩:=h p e u xss mem_cons_self
   have hnm:∀ x,x∈(nmL ((p,Ob.pool e u xss) :: r)).map U↔(∃ j row,xss[j]? =some row/\x=kid (U p) j)∨x∈(nmL r).map U:=by
    intro x;simp only[nmL,exL,map_append,mem_append,map_map];constructor
    ·rintro (hx|hx)
     ·obtain ⟨⟨row,j⟩,hz,rfl⟩:=mem_map.1 hx;rw[mem_zipIdx_iff_getElem?]at hz;exact .inl ⟨j,row,hz,g1 j⟩
     ·exact .inr hx
    ·rintro (⟨j,row,hj,rfl⟩|hx)
     ·exact .inl<|mem_map.2 ⟨(row,j),by rw[mem_zipIdx_iff_getElem?];exact hj,g1 j⟩
     ·exact .inr hx
   have e1:Am (M6 U ((p,Ob.pool e u xss) :: r)++ol0) k=if k.1.1=(U p).1.1/\k.2=(U p).2/\k.1.2≠0 then none else Am (M6 U r++ol0) k:=Ng k
   rw[e1,hnm];rcases Aie k (U p) with ⟨j,rfl⟩|h2
   ·rw[fW ⟨rfl,rfl,by simp[kid]⟩];refine ⟨fun _=>rfl,fun hn=>?_⟩;rw[Aac g2];cases hj:xss[j]? with
    | none=>rfl
    | some row=>exact absurd (.inl ⟨j,row,hj,rfl⟩) hn
   ·rw[fB (Apm h2)];exact ⟨fun hx=>i1 (hx.resolve_left fun ⟨j,row,_,e⟩=>h2 j e),fun hn=>i2 fun hx=>hn<|.inr hx⟩
  | _=>
   have e1:∀ o:Ob,o.isPool=false->Am ((U p,none) :: (M6 U r++ol0)) k=if k=U p then none else Am (M6 U r++ol0) k:=fun _ _=>L3 k
   simp only[M6,map_cons,cons_append]at i1 i2 ⊢;rw[L3];simp only[nmL,exL,map_cons,mem_cons]at i1 i2 ⊢;by_cases hk:k=U p
   ·rw[fW hk];exact ⟨fun _=>rfl,fun hn=>absurd (.inl hk) hn⟩
   ·rw[fB hk];exact ⟨fun hx=>i1<|hx.resolve_left hk,fun hn=>i2 fun hx=>hn<|.inr hx⟩
theorem Atd{U:Oid->Oid}{i p:Oid}(h:p.2=0->∀ k,U (kid p k)=kid (U p) k)(k:Nat):Cf U i (kid p k)=kid (Cf U i p) k:=by
 unfold Cf;have e:(kid p k).2=p.2:=rfl;rw[e];by_cases h0:p.2=0
 ·rw[fW h0,fW h0,h h0]
 ·rw[fB h0,fB h0];rfl
theorem Acc:∀{l:List (Oid×Ob)} {a:Oid×Ob},a∈l->a.2.isPool=false->(a.1,a.2.exp)∈exL l
 | x :: r,a,h,hp=>by
  have ⟨x1,x2⟩:=x;rcases mem_cons.1 h with rfl|h
  ·cases x2 <;> first|(simp only[exL,Ob.exp];exact mem_cons_self)|cases hp
  ·have:=Acc h hp;cases x2 <;> simp only[exL] <;> first|exact mem_cons_of_mem _ this|exact mem_append_right _ this
theorem Ws(Y:Oid->Oid):∀ l:List (Oid×Ob),Cm (Qn Y l)=(Cm l).map Y
 | []=>rfl
 | (x1,x2) :: r=>by
  have ih:=Ws Y r;cases x2 <;> simp_all[Cm,Qn,Ob.ren,Ob.isPool]
theorem P8(Y:Oid->Oid):∀ l:List (Oid×Ob),Ct (Qn Y l)=(Ct l).map Y
 | []=>rfl
 | (x1,x2) :: r=>by
  have ih:=P8 Y r;cases x2 <;> simp_all[Ct,Qn,Ob.ren,Ob.isPool]
theorem Ave{l:List (Oid×Ob)}{i:Oid}(hi:i∈Cm l):∃ o,(i,o)∈l/\o.isPool=false:=by
 obtain ⟨q,hq,rfl⟩:=mem_map.1 hi;have ⟨h1,h2⟩:=mem_filter.1 hq;exact ⟨q.2,h1,by simpa using h2⟩
theorem Aze{l:List (Oid×Ob)}{i:Oid}(hi:i∈Ct l):∃ e u xss,(i,Ob.pool e u xss)∈l:=by
 have ⟨⟨j,o⟩,hq,e0⟩:=mem_map.1 hi;obtain rfl:j=i:=e0;have ⟨h1,h2⟩:=mem_filter.1 hq;cases o <;> first|exact ⟨_,_,_,h1⟩|cases h2
theorem Aws{U:Oid->Oid}{i:Oid}{ol us:List (Oid×Ob)}{ob:OF}(hnd:(nmL us).Nodup)(hinj:∀ j∈nmL us,∀ k∈nmL us,Cf U i j=Cf U i k->j=k):
  (∀ j q,(j,q)∈exL us->A3 (J2 U i ol us) ob (Cf U i j)=some (q.ren (Cf U i)))/\∀ k,(∀ j∈nmL us,Cf U i j≠k)->A3 (J2 U i ol us) ob k=if k∈(nmL ol).map U then none else ob k:=by
 have hnm:∀{l:List (Oid×Ob)} {q},q∈exL l->q.1∈nmL l:=fun hq=>mem_map.2 ⟨_,hq,rfl⟩
 refine ⟨fun j q hq=>?_,fun k hk=>?_⟩
 ·have hkeys:(((exL us).map fun q=>(Cf U i q.1,some<|q.2.ren<|Cf U i)).map (·.1)).Nodup:=by
   rw[map_map]
   have:((exL us).map ((·.1)∘fun q:Oid×Ob=>(Cf U i q.1,some<|q.2.ren<|Cf U i)))=(nmL us).map (Cf U i):=by
    unfold nmL;rw[map_map];rfl
   rw[this];exact Afn hnd hinj
  have:=Qf (fun u:Oid×Option Ob=>u.2) (fun u=>u.1) ((exL us).map fun q=>(Cf U i q.1,some<|q.2.ren<|Cf U i)) (A3 ((exL ol).map fun q=>(U q.1,none)) ob) (Cf U i j,some<|q.ren<|Cf U i) hkeys<|mem_map.2 ⟨(j,q),hq,rfl⟩;unfold A3 J2;rw[foldl_append];exact this
 ·have e1:A3 (J2 U i ol us) ob k=A3 ((exL ol).map fun q=>(U q.1,none)) ob k:=by
   have:=Em (us:=(exL us).map fun q=>(Cf U i q.1,some<|q.2.ren<|Cf U i)) (ob:=A3 ((exL ol).map fun q=>(U q.1,none)) ob) (j:=k) fun u hu=>by
    obtain ⟨q,hq,rfl⟩:=mem_map.1 hu;exact hk q.1<|hnm hq
   rw[← this];unfold A3 J2;rw[foldl_append]
  rw[e1];split
  next hk'=>obtain ⟨j,hj,rfl⟩:=mem_map.1 hk';obtain ⟨q,hq,rfl⟩:=mem_map.1 hj;exact (Qs ((exL ol).map fun q=>(U q.1,none)) ob fun u hu=>by obtain ⟨_,_,rfl⟩:=mem_map.1 hu;rfl).2 (U q.1,none)<|mem_map.2 ⟨q,hq,rfl⟩
  next hk'=>exact Em fun u hu e=>hk' (by obtain ⟨q,hq,rfl⟩:=mem_map.1 hu;exact mem_map.2 ⟨q.1,hnm hq,e⟩)
theorem Ayg{us:List (Oid×Ob)}(nN:(Cm us).Nodup)(nP:(Ct us).Nodup)(h0:∀ q∈us,q.1.1.2=0):(nmL us).Nodup:=by
 induction us with
 | nil=>exact nodup_nil
 | cons x r ih=>
  have ⟨p,o⟩:=x;have h0':∀ q∈r,q.1.1.2=0:=fun q hq=>h0 q<|mem_cons_of_mem _ hq
  have hp0:p.1.2=0:=h0 (p,o) mem_cons_self;cases o with
  | pool e u xss=>
   have nP':(p :: Ct r).Nodup:=nP;have ⟨n1,n2⟩:=nodup_cons.1 nP';have ihr:=ih nN n2 h0';unfold nmL at ihr ⊢;simp only[exL,map_append,map_map];refine nodup_append.2 ⟨?_,ihr,fun a ha b hb e'=>?_⟩
   ·have:(xss.zipIdx.map ((fun x=>x.1)∘fun x:List u.D×Nat=>(kid p x.2,Ob.arr e u x.1)))=(xss.zipIdx.map (·.2)).map (kid p):=by
     rw[map_map];rfl
    rw[this,zipIdx_map_snd];exact pairwise_map.2 ((pairwise_lt_range' (s:=0) (n:=xss.length)).imp fun h e=>by have:=Gr e;omega)
   ·subst e';obtain ⟨x,_,rfl⟩:=mem_map.1 ha;have ⟨q,hq,e'⟩:=mem_map.1 hb;have e':q.1=kid p x.2:=e';rcases Kb hq with ⟨p',e1,u',xss',k',row,m1,m2,rfl⟩|⟨o,m1,m2,m3⟩
    ·have e':kid p' k'=kid p x.2:=e';have hp1:p'.1.2=0:=h0' _ m1;have hb:p'=p:=by rw[← Et hp1 k',e',Et hp0]
     subst hb;exact n1<|R0 m1 rfl
    ·have:=h0' _ m1;simp only[e']at this;simp[kid]at this
  | _=>
   have nN':(p :: Cm r).Nodup:=nN;have ⟨n1,n2⟩:=nodup_cons.1 nN';have ihr:=ih n2 nP h0';unfold nmL at ihr ⊢;simp only[exL,map_cons];refine nodup_cons.2 ⟨fun hm=>?_,ihr⟩;have ⟨q,hq,e'⟩:=mem_map.1 hm;rcases Kb hq with ⟨p',e1,u',xss',k',row,m1,m2,rfl⟩|⟨o,m1,m2,m3⟩
   ·rw[← e']at hp0;simp[kid]at hp0
   ·exact n1 (by rw[← e'];exact Af8 (q:=(q.1,o)) m1 m2)
def Aoi(ol us:List (Oid×Ob)):Bool:=(ndB (Cm us)&&ndB (Ct us))&&((us.all fun q=>q.1.2==1||(q.1.2==0&&((Cm ol).contains q.1&& !q.2.isPool)))&&Ix us)
theorem Ajp{ol us:List (Oid×Ob)}(h:Aoi ol us=true):∀ q∈exL us,q.1.2=1∨(q.1.2=0/\q.1∈nmL ol):=by
 simp only[Aoi,fT]at h;have ⟨_,hug,_⟩:=h;rw[all_eq_true]at hug;intro q hq;rcases Kb hq with ⟨p,e,u,xss,k,row,m1,m2,rfl⟩|⟨o,m1,m2,m3⟩
 ·have:=hug _ m1;simp only[Ob.isPool,fD,Bool.and_false,Bool.or_false,fF]at this;exact .inl this
 ·have:=hug _ m1;simp only[Bool.or_eq_true,fT,fF]at this;rcases this with h|⟨h,h',_⟩
  ·exact .inl h
  ·refine .inr ⟨h,?_⟩;have ⟨o',ho,hp⟩:=Ave<|contains_iff_mem.1 h';exact mem_map.2 ⟨_,Acc ho hp,rfl⟩
theorem Aud{l:List (Oid×Oid)}{i:Oid}{ol us:List (Oid×Ob)}{ol0:OL}(hl:T6 l=true)(h0:Ix ol=true)(hR:X6 ol0 (Bl l) ol)(hB:Aoi ol us=true)(hfr:P4 i.2 ol0=true)(hij:Avx (Bl l) ol=true):
  A3 (J2 (Bl l) i ol us) (Am ol0)=Am (Cq (Qn (Cf (Bl l) i) us)++(M6 (Bl l) ol++ol0)):=by
 have hpool:∀{l':List (Oid×Ob)},Ix l'=true->(∀ q∈l',q.1.1.2=0)/\∀ j e p u xss,(j,Ob.mat e p u xss)∈l'->p.1.2=0:=fun h=>by
  unfold Ix at h;rw[all_eq_true]at h;refine ⟨fun q hq=>?_,fun j e p u xss hq=>?_⟩
  ·have:=h q hq;simp only[fT,fF]at this;exact this.1
  ·have:=h _ hq;simp only[fT,fF]at this;exact this.2
 have husn:=Ajp hB;simp only[Aoi,fT]at hB;have ⟨hnd,hug,hu0⟩:=hB;have ⟨b1,b2⟩:=hpool h0;have ⟨d1,d2⟩:=hpool hu0;have nN:=H1 hnd.1;have nP:=H1 hnd.2;rw[all_eq_true]at hug
 let U:=Bl l
 let Y:=Cf U i
 have hUk:∀ p e u xss,(p,Ob.pool e u xss)∈ol->∀ k,U (kid p k)=kid (U p) k:=fun p e u xss hm k=>Mh hl (b1 _ hm) k
 have hYk:∀ p,p.1.2=0->∀ k,Y (kid p k)=kid (Y p) k:=fun p hp k=>Atd (fun _ k=>Mh hl hp k) k
 have hget:=Aja hl hR<|Al6 h0
 have hold:∀ j∈nmL ol,∃ o,Am ol0 (U j)=some o:=fun j hj=>by
  obtain ⟨q,hq,rfl⟩:=mem_map.1 hj;exact ⟨_,hget q hq⟩
 have hgenU:∀ j∈nmL ol,(U j).2≠i.2:=fun j hj e=>by
  have ⟨o,ho⟩:=hold j hj;rw[Sp hfr _ e]at ho;cases ho
 have hex:=Ao2 (Y:=Y) (us:=us) (fun p e u xss hm=>hYk p<|d1 _ hm) fun j e p u xss hm=>hYk p<|d2 j e p u xss hm;have hUinj:=As7 hUk hij h0
 have hYcase:∀ j∈nmL us,(j.2=0/\j∈nmL ol/\Y j=U j)∨(j.2=1/\Y j=((i.1.1*16+j.1.1,j.1.2),i.2)):=by
  intro j hj;obtain ⟨q,hq,rfl⟩:=mem_map.1 hj;rcases husn q hq with h|⟨h,h'⟩
  ·exact .inr ⟨h,by simp[Y,Cf,h]⟩
  ·exact .inl ⟨h,h',by simp[Y,Cf,h]⟩
 have hYinj:∀ j∈nmL us,∀ k∈nmL us,Y j=Y k->j=k:=by
  intro j hj k hk e;rcases hYcase j hj with ⟨a1,a2,a3⟩|⟨a1,a3⟩ <;> rcases hYcase k hk with ⟨b1,b2,b3⟩|⟨b1,b3⟩
  ·rw[a3,b3]at e;have ⟨r,hr,er⟩:=mem_map.1 a2;have ⟨r',hr',er'⟩:=mem_map.1 b2;have:=hUinj r hr r' hr' (by rw[er,er'];exact e);rw[← er,← er',this]
  ·have:=hgenU _ a2;rw[← a3,e,b3]at this;exact absurd rfl this
  ·have:=hgenU _ b2;rw[← b3,← e,a3]at this;exact absurd rfl this
  ·rw[a3,b3]at e;have ⟨⟨x1,x2⟩,x3⟩:=j;have ⟨⟨y1,y2⟩,y3⟩:=k;simp only[Prod.mk.injEq]at *;omega
 have hNm:∀ z∈Cm us,z∈nmL us:=fun z hz=>by
  have ⟨o,ho,hp⟩:=Ave hz;exact mem_map.2 ⟨_,Acc ho hp,rfl⟩
 have hpg:∀ p∈Ct us,p.2=1/\Y p=((i.1.1*16+p.1.1,p.1.2),i.2):=by
  intro p hp;have ⟨e,u,xss,hm⟩:=Aze hp;have:=hug _ hm;simp only[Ob.isPool,fD,Bool.and_false,Bool.or_false,fF]at this;exact ⟨this,by simp[Y,Cf,this]⟩
 have hP0:∀ p∈Ct us,p.1.2=0:=fun p hp=>by
  have ⟨e,u,xss,hm⟩:=Aze hp;exact d1 _ hm
 have hndN:(Cm<|Qn Y us).Nodup:=by
  rw[Ws];exact Afn nN fun x hx y hy e=>hYinj x (hNm x hx) y (hNm y hy) e
 have hndP:(Ct<|Qn Y us).Nodup:=by
  rw[P8];refine Afn nP fun x hx y hy e=>?_
  have ⟨g1,e1⟩:=hpg _ hx;have ⟨g2,e2⟩:=hpg _ hy;rw[e1,e2]at e;have ⟨⟨x1,x2⟩,x3⟩:=x;have ⟨⟨y1,y2⟩,y3⟩:=y;simp only[Prod.mk.injEq]at *;omega
 have hfound:=Ti (rest:=M6 U ol++ol0) hndN hndP (fun p hp=>by
  rw[P8]at hp;obtain ⟨p0,hp0,rfl⟩:=mem_map.1 hp;rw[(hpg p0 hp0).2];exact hP0 p0 hp0) (fun z hz p hp k e=>by
  rw[Ws]at hz;rw[P8]at hp;obtain ⟨z0,hz0,rfl⟩:=mem_map.1 hz;obtain ⟨p0,hp0,rfl⟩:=mem_map.1 hp;rw[(hpg p0 hp0).2]at e;rcases hYcase z0 (hNm z0 hz0) with ⟨a1,a2,a3⟩|⟨a1,a3⟩
  ·have:=hgenU _ a2;rw[← a3,e]at this;exact this rfl
  ·rw[a3]at e
   have:z0.1.2=0:=by
    have ⟨o,ho,_⟩:=Ave hz0;exact d1 _ ho
   have h9:=congrArg (fun i:Oid=>i.1.2) e;simp only[kid]at h9;omega)
 have hkill:=Ap6 (U:=U) (ol0:=ol0) (ol:=ol) (fun p e u xss hm=>⟨hUk p e u xss hm,by
  have:=Zj hR _ hm
  simpa only[Aqy,Ob.isPool,if_true,Ob.ren] using this⟩)
 have ⟨u1,u2⟩:=Aws (ob:=Am ol0) (ol:=ol) (Ayg nN nP d1) hYinj;funext k;by_cases hex':∃ j∈nmL us,Y j=k
 ·obtain ⟨j,hj,rfl⟩:=hex';obtain ⟨q,hq,rfl⟩:=mem_map.1 hj;rw[u1 q.1 q.2 hq];exact (hfound (Y q.1,q.2.ren Y) (by rw[hex];exact mem_map.2 ⟨q,hq,rfl⟩)).symm
 ·have hno:∀ j∈nmL us,Y j≠k:=fun j hj e=>hex' ⟨j,hj,e⟩
  rw[u2 k hno]
  have hno':∀ q∈exL (Qn Y us),q.1≠k:=fun q hq e=>by
   rw[hex]at hq;obtain ⟨q0,hq0,rfl⟩:=mem_map.1 hq;exact hno q0.1 (mem_map.2 ⟨q0,hq0,rfl⟩) e
  have hrest:Am (M6 U ol++ol0) k=if k∈(nmL ol).map U then none else Am ol0 k:=by
   split
   next h=>exact (hkill k).1 h
   next h=>exact (hkill k).2 h
  rcases Agx (rest:=M6 U ol++ol0) hno' with h|⟨h,p,e,u,xss,hm,hk⟩
  ·rw[← hrest];exact h.symm
  ·have hp:p∈Ct (Qn Y us):=R0 hm rfl;rw[P8]at hp;obtain ⟨p0,hp0,rfl⟩:=mem_map.1 hp;have hk2:k.2=i.2:=by rw[hk,(hpg p0 hp0).2]
   have h1:Am (Cq (Qn (Cf (Bl l) i) us)++(M6 (Bl l) ol++ol0)) k=none:=h;rw[h1];split
   ·rfl
   ·exact Sp hfr k hk2
end
section
section
variable{P:Program}{G:WP}
theorem Ab{x y:AC}{R:AE->St->Prop}{S:St}(h:awp P G x (Jj (fun S'=>∃ S'',WeakG G S' S''/\awp P G y R S'') R) S):awp P G (.seq x y) R S:=h
theorem Agy{x y:AC}{R:AE->St->Prop}{S:St}(K:St->Prop)(h:awp P G x (Jj (fun S'=>∃ S'',WeakG G S' S''/\K S'') R) S)(k:∀ S'',K S''->awp P G y R S''):awp P G (.seq x y) R S:=by
 unfold awp
 exact D6 (fun e S hq=>by
  cases e with
  | normal=>have ⟨S'',hw,hk⟩:=hq;exact ⟨S'',hw,k S'' hk⟩
  | exit id=>exact hq
  | ret=>exact hq) h
def Azu(rs:List Rec)(ds:List (List Oid)):List (Nat×Nat)->Bool
 | []=>true
 | p :: ps=>(let ri:=rs.getD p.2 (0,.any,[]);let rj:=rs.getD p.1 (0,.any,[]);let di:=ds.getD p.2 [];let dj:=ds.getD p.1 []
   ((!(ri.1==2)||rj.1==0)&&(!(rj.1==2)||ri.1==0))||((!(ri.1==2)||ri.2.2.all fun u=> !dj.contains u.1)&&((!(rj.1==2)||rj.2.2.all fun u=> !di.contains u.1)&&ri.2.2.all fun u=>rj.2.2.all fun v=> !(u.1==v.1))))&&Azu rs ds ps
theorem As{rs:List Rec}{ds:List (List Oid)}:∀{bad:List (Nat×Nat)},Azu rs ds bad=true->Am2 rs ds bad
 | [],_=>trivial
 | p :: ps,h=>by
  simp only[Azu,fT]at h;refine ⟨?_,As h.2⟩;have h1:=h.1;simp only[Bool.or_eq_true,fT,Bool.not_eq_true',fU,fF,all_eq_true,contains_eq_mem,decide_eq_false_iff_not]at h1;unfold S6;rcases h1 with ⟨a,b⟩|⟨a,b,c⟩
  ·refine .inl ⟨fun e=>?_,fun e=>?_⟩
   ·rcases a with a|a
    ·exact absurd e a
    ·exact a
   ·rcases b with b|b
    ·exact absurd e b
    ·exact b
  ·refine .inr ⟨fun e=>?_,fun e=>?_,c⟩
   ·rcases a with a|a
    ·exact absurd e a
    ·exact a
   ·rcases b with b|b
    ·exact absurd e b
    ·exact b
def XW(P:Program)(G:WP)(g k:Nat)(xs:List X)(tl:TL)(ol:OL)(Kf:List (Nat×AV)->List (Oid×Option Ob)->Prop):Prop:=
 ∃ rs tl' ol',Awf P G g k xs (Ap tl) (Am ol) rs (Ap tl') (Am ol')/\Kf tl' ol'
def XD(P:Program)(G:WP)(bad:List (Nat×Nat))(g k:Nat)(xs:List X)(tl:TL)(ol:OL)(ra:List Rec)(da:List (List Oid))(Kf:List (Nat×AV)->List (Oid×Option Ob)->Prop):Prop:=
 ∃ rs ds tl' ol',Aq2 P G g k xs (Ap tl) (Am ol) rs ds (Ap tl') (Am ol')/\Am2 (ra.reverse++rs) (da.reverse++ds) bad/\Kf tl' ol'
theorem Aa{xs:List X}{bad:List (Nat×Nat)}{R:AE->St->Prop}{tl:TL}{ol:OL}{g:Nat}(g':Nat)(h:XW P G g 0 xs tl ol fun tl' ol'=>R .normal ⟨Ap tl',Am ol',g'⟩)(hn:g+xs.length=g':=by kernel_rfl):awp P G (.region xs false bad) R ⟨Ap tl,Am ol,g⟩:=by
 have ⟨rs,tl',ol',h,hr⟩:=h;exact ⟨rs,_,_,h,by subst hn;exact hr⟩
theorem Ahz{tl:TL}{d:Nat}{v:AV}(h:Ap tl d=v):Ap ((d,v) :: tl)=Ap tl:=by
 funext i;show (if i=d then v else Ap tl i)=Ap tl i;split
 next e=>rw[e,h]
 ·rfl
theorem rq{xs:List X}{tl:TL}{ol:OL}{g k:Nat}{Kf:List (Nat×AV)->List (Oid×Option Ob)->Prop}(d:Nat){b c:Bool}(q:b=c)(h:XW P G g k xs ((d,.bool c) :: tl) ol Kf)(hd:Ap tl d=.bool b:=by kernel_rfl):XW P G g k xs tl ol Kf:=by
 subst q;unfold XW at *
 rwa [Ahz hd]at h
theorem dq{xs:List X}{bad:List (Nat×Nat)}{tl:TL}{ol:OL}{g k:Nat}{ra:List Rec}{da:List (List Oid)}{Kf:List (Nat×AV)->List (Oid×Option Ob)->Prop}(d:Nat){b c:Bool}(q:b=c)(h:XD P G bad g k xs ((d,.bool c) :: tl) ol ra da Kf)(hd:Ap tl d=.bool b:=by kernel_rfl):XD P G bad g k xs tl ol ra da Kf:=by
 subst q;unfold XD at *
 rwa [Ahz hd]at h
theorem Al{xs:List X}{bad:List (Nat×Nat)}{R:AE->St->Prop}{tl:TL}{ol:OL}{g:Nat}(g':Nat)(h:XD P G bad g 0 xs tl ol [] [] fun tl' ol'=>R .normal ⟨Ap tl',Am ol',g'⟩)(hn:g+xs.length=g':=by kernel_rfl):awp P G (.region xs true bad) R ⟨Ap tl,Am ol,g⟩:=by
 have ⟨rs,ds,tl',ol',h,hb,hr⟩:=h;exact ⟨rs,ds,_,_,h,hb,by subst hn;exact hr⟩
theorem Sj(tl:TL)(d:Nat)(v:AV):upd (Ap tl) d v=Ap ((d,v) :: tl):=by
 funext i;rfl
def P5:Option Ob->Bool
 | some (.pool ..)=>false
 | some (.mat ..)=>false
 | some (.tv ..)=>false
 | _=>true
def Eo(us:OL):Bool:=us.all fun u=>P5 u.2
theorem Ji{ol:OL}{j:Oid}{o:Option Ob}(h:P5 o=true):upd (Am ol) j o=Am ((j,o) :: ol):=by
 cases o with
 | none=>funext i;rfl
 | some o=>cases o <;> first|(funext i;rfl)|cases h
theorem L1:∀(us ol:OL),Eo us=true->A3 us (Am ol)=Am (us.reverseAux ol)
 | [],_,_=>rfl
 | (j,o) :: us,ol,h=>by
  simp only[Eo,all_cons,fT]at h;show A3 us (upd (Am ol) j o)=_;rw[Ji h.1];exact L1 us _ h.2
theorem Ho{p:Bool}{n:Nat}{x:X}{f:TF}{ob:OF}{r:Rec}(h:Bd n x f ob=some r):Fz P G p n x f ob r:=by
 unfold Bd at h;unfold Fz;split at h
 ·exact .inl<|.inl<|.inl h
 ·split at h
  next hc=>exact ⟨true,hc,by rw[fW rfl];exact .inl<|.inl<|.inl h⟩
  next hc=>exact ⟨false,hc,by rw[fB fS];exact (osj h).symm⟩
  ·cases h
def Sq(gd:Option (Nat×Bool))(f:TF):Prop:=
 match gd with
 | none=>True
 | some (s,c)=>f s=.bool c
theorem Aa1{s:Nat}{b:Bool}{f:TF}(h:Sq (some (s,b)) f):gdv (f s) b=some true:=by
 rw[show f s=.bool b from h];simp[gdv]
theorem Ac3{s:Nat}{b:Bool}{f:TF}(h:f s=.bool b):Sq (some (s,b)) f:=h
theorem Aqd{p:Bool}{n:Nat}{d:Option Nat}{gd:Option (Nat×Bool)}{fo:Opd}{xs:List Opd}{tys:List (List (Option Ty))}{f:TF}{ob:OF}{F:FuncId}{caps args0 args:LA}{rv:RV}{r:AV×List (Oid×Option Ob)}
  (hgd:Sq gd f) {F0:FuncId} (hfo:fo.ev f=.fn F0 caps) (hF:Rc F0=F) (h1:Pm (gnd ob 8) ((Dt F0 xs (caps.map Opd.cst)).map (Opd.ev f))=some args0) (hn:Pa tys args0=args) (hb:C4 P F=true) (hc:Da P G F args rv) (hni:rv.noI=true) (hr:rv.out (C3 ((d.getD 0,0),n)) ((Dt F0 xs (caps.map Opd.cst)).map (Opd.ev f))=r):
  Fz P G p n ⟨d,gd,.call fo xs tys⟩ f ob (1,r.1,r.2):=by
 subst hn hF;have key:EvR P G p f ob ((d.getD 0,0),n) (.call fo xs tys) (1,r.1,r.2):=.inr ⟨fo,xs,tys,F0,caps,rfl,hfo,.inl ⟨rfl,hb,args0,rv,.inl ⟨h1,hni⟩,hc,hr⟩⟩;unfold Fz;cases gd with
 | none=>exact key
 | some sb=>exact ⟨true,Aa1 hgd,by rw[fW rfl];exact key⟩
theorem App{n:Nat}{d:Option Nat}{gd:Option (Nat×Bool)}{fo:Opd}{xs:List Opd}{tys:List (List (Option Ty))}{f:TF}{ob:OF}{F:FuncId}{caps zs args:LA}{v:AV}{ol us:List (Oid×Ob)}(U:Oid->Oid)
  (hgd:Sq gd f) (hfo:fo.ev f=.fn F caps) (hF:F<mtd) (hz:(xs++caps.map Opd.cst).map (Opd.ev f)=zs) (h1:R5 U (Yu ((nmL ol).map U) ob) zs args) (h2:∀ q∈exL ol,ob (U q.1)=some (q.2.ren U)) (h3:∀ q∈exL ol,∀ q'∈exL ol,U q.1=U q'.1->q.1=q'.1) (h4:∀ j∈nmL ol,Reached zs ob (U j))
  (h5:∀ q∈exL us,q.1.2=1∨(q.1.2=0/\q.1∈nmL ol)) (hb:C4 P F=true) (hc:Ed P G F args ol v us):
  Fz P G false n ⟨d,gd,.call fo xs tys⟩ f ob (2,v.ren (Cf U ((d.getD 0,0),n)),J2 U ((d.getD 0,0),n) ol us):=by
 have hN:Apz P G f ob ((d.getD 0,0),n) (Rc F) (Dt F xs<|caps.map Opd.cst) (v.ren<|Cf U ((d.getD 0,0),n),J2 U ((d.getD 0,0),n) ol us):=by
  rw[← hz]at h1 h4;unfold Rc Dt;rw[fW hF,fW hF];refine .inl ⟨hb,U,args,ol,us,v,h1,h2,fun j k hj hk e=>?_,h4,hc,fun j hj=>?_,rfl⟩
  ·obtain ⟨q,hq,rfl⟩:=mem_map.1 hj;obtain ⟨q',hq',rfl⟩:=mem_map.1 hk;exact h3 q hq q' hq' e
  ·obtain ⟨q,hq,rfl⟩:=mem_map.1 hj;rcases h5 q hq with h|⟨_,h⟩
   ·exact .inl (by rw[h];decide)
   ·exact .inr h
 have key:EvR P G false f ob ((d.getD 0,0),n) (.call fo xs tys) (2,v.ren<|Cf U ((d.getD 0,0),n),J2 U ((d.getD 0,0),n) ol us):=.inr ⟨fo,xs,tys,F,caps,rfl,hfo,.inr ⟨rfl,rfl,hN⟩⟩;unfold Fz;cases gd with
 | none=>exact key
 | some sb=>exact ⟨true,Aa1 hgd,by rw[fW rfl];exact key⟩
theorem Ayr{n:Nat}{d:Option Nat}{gd:Option (Nat×Bool)}{q:Q}{f:TF}{ob:OF}{r:Rec}(hgd:Sq gd f)(h:evL f ((d.getD 0,0),n) q=some r):Fz P G false n ⟨d,gd,q⟩ f ob r:=by
 have key:EvR P G false f ob ((d.getD 0,0),n) q r:=.inl<|.inl<|.inr h;unfold Fz;cases gd with
 | none=>exact key
 | some sb=>exact ⟨true,Aa1 hgd,by rw[fW rfl];exact key⟩
theorem Ax4{n:Nat}{d:Option Nat}{gd:Option (Nat×Bool)}{q:Q}{f:TF}{ob:OF}{r:Rec}(hgd:Sq gd f)(h:Akt f ((d.getD 0,0),n) q r):Fz P G false n ⟨d,gd,q⟩ f ob r:=by
 have key:EvR P G false f ob ((d.getD 0,0),n) q r:=.inl<|.inr h;unfold Fz;cases gd with
 | none=>exact key
 | some sb=>exact ⟨true,Aa1 hgd,by rw[fW rfl];exact key⟩
theorem Ao{g k:Nat}{tl:TL}{ol:OL}{Kf:List (Nat×AV)->List (Oid×Option Ob)->Prop}(h:Kf tl ol):XW P G g k [] tl ol Kf:=⟨[],tl,ol,⟨rfl,rfl,rfl⟩,h⟩
theorem Cb{bad:List (Nat×Nat)}{g k:Nat}{tl:TL}{ol:OL}{ra:List Rec}{da:List (List Oid)}{Kf:List (Nat×AV)->List (Oid×Option Ob)->Prop}(hb:Am2 (ra.reverse++[]) (da.reverse++[]) bad)(h:Kf tl ol):XD P G bad g k [] tl ol ra da Kf:=⟨[],[],tl,ol,⟨rfl,rfl,rfl,rfl⟩,hb,h⟩
section
variable{g k d:Nat}{gd:Option (Nat×Bool)}{q:Q}{xs:List X}{tl:TL}{ol:OL}{bad:List (Nat×Nat)}{ra:List Rec}{da:List (List Oid)}{Kf:List (Nat×AV)->List (Oid×Option Ob)->Prop}
theorem Aj4(c:Nat)(v:AV)(us ol':OL)(h:Fz P G false (g+k) ⟨some d,gd,q⟩ (Ap tl) (Am ol) (c,v,us))(he:A3 us (Am ol)=Am ol')(h3:XW P G g (k+1) xs ((d,v) :: tl) ol' Kf):XW P G g k (⟨some d,gd,q⟩ :: xs) tl ol Kf:=
 by
 have ⟨rs,tl',ol',h3,hk⟩:=h3;exact ⟨_,tl',ol',⟨_,_,rfl,h,by simp only[P0,Sj,he];exact h3⟩,hk⟩
theorem Axi(c:Nat)(v:AV)(us ol':OL)(h:Fz P G false (g+k) ⟨none,gd,q⟩ (Ap tl) (Am ol) (c,v,us))(he:A3 us (Am ol)=Am ol')(h3:XW P G g (k+1) xs tl ol' Kf):XW P G g k (⟨none,gd,q⟩ :: xs) tl ol Kf:=
 by
 have ⟨rs,tl',ol',h3,hk⟩:=h3;exact ⟨_,tl',ol',⟨_,_,rfl,h,by simp only[P0,he];exact h3⟩,hk⟩
theorem An3(c:Nat)(v:AV)(us ol':OL)(h:Fz P G false (g+k) ⟨some d,gd,q⟩ (Ap tl) (only (rdX (Ap tl) (Am ol) ⟨some d,gd,q⟩) (Am ol)) (c,v,us))(he:A3 us (Am ol)=Am ol')(h3:XD P G bad g (k+1) xs ((d,v) :: tl) ol' ((c,v,us) :: ra) ((rdX (Ap tl) (Am ol) ⟨some d,gd,q⟩) :: da) Kf):XD P G bad g k (⟨some d,gd,q⟩ :: xs) tl ol ra da Kf:=
 by
 have ⟨rs,ds,tl',ol',h3,hb,hk⟩:=h3;refine ⟨_,_,tl',ol',⟨_,rs,ds,rfl,rfl,h,by simp only[P0,Sj,he];exact h3⟩,?_,hk⟩
 simpa using hb
theorem Awc(c:Nat)(v:AV)(us ol':OL)(h:Fz P G false (g+k) ⟨none,gd,q⟩ (Ap tl) (only (rdX (Ap tl) (Am ol) ⟨none,gd,q⟩) (Am ol)) (c,v,us))(he:A3 us (Am ol)=Am ol')(h3:XD P G bad g (k+1) xs tl ol' ((c,v,us) :: ra) ((rdX (Ap tl) (Am ol) ⟨none,gd,q⟩) :: da) Kf):XD P G bad g k (⟨none,gd,q⟩ :: xs) tl ol ra da Kf:=
 by
 have ⟨rs,ds,tl',ol',h3,hb,hk⟩:=h3;refine ⟨_,_,tl',ol',⟨_,rs,ds,rfl,rfl,h,by simp only[P0,he];exact h3⟩,?_,hk⟩
 simpa using hb
theorem Aem(c:Nat)(v:AV)(us:OL)(h:Fz P G false (g+k) ⟨some d,gd,q⟩ (Ap tl) (Am ol) (c,v,us))(h3:XW P G g (k+1) xs ((d,v) :: tl) (us.reverseAux ol) Kf)(hx:Eo us=true):XW P G g k (⟨some d,gd,q⟩ :: xs) tl ol Kf:=Aj4 c v us _ h (L1 us ol hx) h3
theorem Ay3(c:Nat)(v:AV)(us:OL)(h:Fz P G false (g+k) ⟨none,gd,q⟩ (Ap tl) (Am ol) (c,v,us))(h3:XW P G g (k+1) xs tl (us.reverseAux ol) Kf)(hx:Eo us=true):XW P G g k (⟨none,gd,q⟩ :: xs) tl ol Kf:=Axi c v us _ h (L1 us ol hx) h3
theorem Aba(c:Nat)(v:AV)(us:OL)(h:Fz P G false (g+k) ⟨some d,gd,q⟩ (Ap tl) (only (rdX (Ap tl) (Am ol) ⟨some d,gd,q⟩) (Am ol)) (c,v,us))(h3:XD P G bad g (k+1) xs ((d,v) :: tl) (us.reverseAux ol) ((c,v,us) :: ra) ((rdX (Ap tl) (Am ol) ⟨some d,gd,q⟩) :: da) Kf)(hx:Eo us=true):XD P G bad g k (⟨some d,gd,q⟩ :: xs) tl ol ra da Kf:=An3 c v us _ h (L1 us ol hx) h3
theorem Aza(c:Nat)(v:AV)(us:OL)(h:Fz P G false (g+k) ⟨none,gd,q⟩ (Ap tl) (only (rdX (Ap tl) (Am ol) ⟨none,gd,q⟩) (Am ol)) (c,v,us))(h3:XD P G bad g (k+1) xs tl (us.reverseAux ol) ((c,v,us) :: ra) ((rdX (Ap tl) (Am ol) ⟨none,gd,q⟩) :: da) Kf)(hx:Eo us=true):XD P G bad g k (⟨none,gd,q⟩ :: xs) tl ol ra da Kf:=Awc c v us _ h (L1 us ol hx) h3
theorem Ap7{ol':OL}(he:Am ol=Am ol')(h:XD P G bad g k xs tl ol' ra da Kf):XD P G bad g k xs tl ol ra da Kf:=by
 have ⟨rs,ds,tl',ol2,h1,h2⟩:=h;exact ⟨rs,ds,tl',ol2,by rw[he];exact h1,h2⟩
theorem rs0(v:AV)(h:Bd (g+k) ⟨some d,gd,q⟩ (Ap tl) (Am ol)=some (0,v,[]))(h3:XW P G g (k+1) xs ((d,v) :: tl) ol Kf):XW P G g k (⟨some d,gd,q⟩ :: xs) tl ol Kf:=Aem 0 v [] (Ho h) h3 rfl
theorem rsl(v:AV)(h:Bd (g+k) ⟨some d,gd,q⟩ (Ap tl) (Am ol)=some (1,v,[]))(h3:XW P G g (k+1) xs ((d,v) :: tl) ol Kf):XW P G g k (⟨some d,gd,q⟩ :: xs) tl ol Kf:=Aem 1 v [] (Ho h) h3 rfl
theorem rs1(v:AV)(i:Oid)(o:Ob)(h:Bd (g+k) ⟨some d,gd,q⟩ (Ap tl) (Am ol)=some (1,v,[(i,some o)]))(h3:XW P G g (k+1) xs ((d,v) :: tl) ((i,some o) :: ol) Kf)(hx:P5 (some o)=true:=by rfl):XW P G g k (⟨some d,gd,q⟩ :: xs) tl ol Kf:=Aem 1 v _ (Ho h) h3 (by simp only[Eo,all_cons,all_nil,hx];rfl)
theorem rs2(v:AV)(j i:Oid)(o:Ob)(h:Bd (g+k) ⟨some d,gd,q⟩ (Ap tl) (Am ol)=some (2,v,[(j,none),(i,some o)]))(h3:XW P G g (k+1) xs ((d,v) :: tl) ((i,some o) :: (j,none) :: ol) Kf)(hx:P5 (some o)=true:=by rfl):XW P G g k (⟨some d,gd,q⟩ :: xs) tl ol Kf:=Aem 2 v _ (Ho h) h3 (by simp only[Eo,all_cons,all_nil,hx];rfl)
theorem Al0(j i:Oid)(o:Ob)(h:Bd (g+k) ⟨none,gd,q⟩ (Ap tl) (Am ol)=some (2,.any,[(j,none),(i,some o)]))(h3:XW P G g (k+1) xs tl ((i,some o) :: (j,none) :: ol) Kf)(hx:P5 (some o)=true:=by rfl):XW P G g k (⟨none,gd,q⟩ :: xs) tl ol Kf:=Ay3 2 _ _ (Ho h) h3 (by simp only[Eo,all_cons,all_nil,hx];rfl)
theorem ds0(v:AV)(h:Bd (g+k) ⟨some d,gd,q⟩ (Ap tl) (only (rdX (Ap tl) (Am ol) ⟨some d,gd,q⟩) (Am ol))=some (0,v,[]))(h3:XD P G bad g (k+1) xs ((d,v) :: tl) ol ((0,v,[]) :: ra) ((rdX (Ap tl) (Am ol) ⟨some d,gd,q⟩) :: da) Kf):XD P G bad g k (⟨some d,gd,q⟩ :: xs) tl ol ra da Kf:=Aba 0 v [] (Ho h) h3 rfl
theorem dsl(v:AV)(h:Bd (g+k) ⟨some d,gd,q⟩ (Ap tl) (only (rdX (Ap tl) (Am ol) ⟨some d,gd,q⟩) (Am ol))=some (1,v,[]))(h3:XD P G bad g (k+1) xs ((d,v) :: tl) ol ((1,v,[]) :: ra) ((rdX (Ap tl) (Am ol) ⟨some d,gd,q⟩) :: da) Kf):XD P G bad g k (⟨some d,gd,q⟩ :: xs) tl ol ra da Kf:=Aba 1 v [] (Ho h) h3 rfl
theorem ds1(v:AV)(i:Oid)(o:Ob)(h:Bd (g+k) ⟨some d,gd,q⟩ (Ap tl) (only (rdX (Ap tl) (Am ol) ⟨some d,gd,q⟩) (Am ol))=some (1,v,[(i,some o)]))(h3:XD P G bad g (k+1) xs ((d,v) :: tl) ((i,some o) :: ol) ((1,v,[(i,some o)]) :: ra) ((rdX (Ap tl) (Am ol) ⟨some d,gd,q⟩) :: da) Kf)(hx:P5 (some o)=true:=by rfl):XD P G bad g k (⟨some d,gd,q⟩ :: xs) tl ol ra da Kf:=Aba 1 v _ (Ho h) h3 (by simp only[Eo,all_cons,all_nil,hx];rfl)
theorem ds2(v:AV)(j i:Oid)(o:Ob)(h:Bd (g+k) ⟨some d,gd,q⟩ (Ap tl) (only (rdX (Ap tl) (Am ol) ⟨some d,gd,q⟩) (Am ol))=some (2,v,[(j,none),(i,some o)]))(h3:XD P G bad g (k+1) xs ((d,v) :: tl) ((i,some o) :: (j,none) :: ol) ((2,v,[(j,none),(i,some o)]) :: ra) ((rdX (Ap tl) (Am ol) ⟨some d,gd,q⟩) :: da) Kf)(hx:P5 (some o)=true:=by rfl):XD P G bad g k (⟨some d,gd,q⟩ :: xs) tl ol ra da Kf:=Aba 2 v _ (Ho h) h3 (by simp only[Eo,all_cons,all_nil,hx];rfl)
theorem J4(j i:Oid)(o:Ob)(h:Bd (g+k) ⟨none,gd,q⟩ (Ap tl) (only (rdX (Ap tl) (Am ol) ⟨none,gd,q⟩) (Am ol))=some (2,.any,[(j,none),(i,some o)]))(h3:XD P G bad g (k+1) xs tl ((i,some o) :: (j,none) :: ol) ((2,.any,[(j,none),(i,some o)]) :: ra) ((rdX (Ap tl) (Am ol) ⟨none,gd,q⟩) :: da) Kf)(hx:P5 (some o)=true:=by rfl):XD P G bad g k (⟨none,gd,q⟩ :: xs) tl ol ra da Kf:=Aza 2 _ _ (Ho h) h3 (by simp only[Eo,all_cons,all_nil,hx];rfl)
section
variable{fo:Opd}{ys:List Opd}{tys:List (List (Option Ty))}{F:FuncId}{caps:LA}{rv:RV}{args0:LA}
theorem R3(v:AV)(us:OL)(zs args:LA)(hgd:Sq gd (Ap tl))(h1:Pm (gnd (Am ol) 8) zs=some args0)(hc:Da P G F args rv)(hb:C4 P F=true)(h3:XW P G g (k+1) xs ((d,v) :: tl) (us.reverseAux ol) Kf)(m:Nat:=0)(hfo:fo.ev (Ap tl)=.fn (F+m) caps:=by kernel_rfl)(hz:(Dt (F+m) ys (caps.map Opd.cst)).map (Opd.ev (Ap tl))=zs:=by kernel_rfl)(hn:Pa tys args0=args:=by kernel_rfl)(hr:rv.out (C3 ((d,0),g+k)) zs=(v,us):=by kernel_rfl)(hF:Rc (F+m)=F:=by kernel_rfl)(hx:Eo us=true:=by rfl)(hni:rv.noI=true:=by kernel_rfl):XW P G g k (⟨some d,gd,.call fo ys tys⟩ :: xs) tl ol Kf:=by
 subst hz;exact Aem 1 v us (Aqd (P:=P) (G:=G) (p:=false) (n:=g+k) (d:=some d) hgd hfo hF h1 hn hb hc hni hr) h3 hx
theorem M7(v:AV)(us:OL)(zs args:LA)(hgd:Sq gd (Ap tl))(h1:Pm (gnd (only (rdX (Ap tl) (Am ol) ⟨some d,gd,.call fo ys tys⟩) (Am ol)) 8) zs=some args0)(hc:Da P G F args rv)(hb:C4 P F=true)(h3:XD P G bad g (k+1) xs ((d,v) :: tl) (us.reverseAux ol) ((1,v,us) :: ra) ((rdX (Ap tl) (Am ol) ⟨some d,gd,.call fo ys tys⟩) :: da) Kf)(m:Nat:=0)(hfo:fo.ev (Ap tl)=.fn (F+m) caps:=by kernel_rfl)(hz:(Dt (F+m) ys (caps.map Opd.cst)).map (Opd.ev (Ap tl))=zs:=by kernel_rfl)(hn:Pa tys args0=args:=by kernel_rfl)(hr:rv.out (C3 ((d,0),g+k)) zs=(v,us):=by kernel_rfl)(hF:Rc (F+m)=F:=by kernel_rfl)(hx:Eo us=true:=by rfl)(hni:rv.noI=true:=by kernel_rfl):XD P G bad g k (⟨some d,gd,.call fo ys tys⟩ :: xs) tl ol ra da Kf:=by
 subst hz;exact Aba 1 v us (Aqd (P:=P) (G:=G) (p:=false) (n:=g+k) (d:=some d) hgd hfo hF h1 hn hb hc hni hr) h3 hx
def Zh(l:List (Oid×Oid))(ol us:List (Oid×Ob))(n:Nat)(ol0:OL):Bool:=T6 l&&(Ix ol&&(Avx (Bl l) ol&&(Aoi ol us&&P4 n ol0)))
theorem Uf{l:List (Oid×Oid)}{ol us:List (Oid×Ob)}{n:Nat}{ol0:OL}(h:Zh l ol us n ol0=true)(hR:X6 ol0 (Bl l) ol):
  (∀ q∈exL ol,Am ol0 (Bl l q.1)=some (q.2.ren (Bl l)))/\(∀ q∈exL ol,∀ q'∈exL ol,Bl l q.1=Bl l q'.1->q.1=q'.1)/\(∀ q∈exL us,q.1.2=1∨(q.1.2=0/\q.1∈nmL ol))/\∀ i:Oid,i.2=n->A3 (J2 (Bl l) i ol us) (Am ol0)=Am (Cq (Qn (Cf (Bl l) i) us)++(M6 (Bl l) ol++ol0)):=by
 simp only[Zh,fT]at h;have ⟨c1,c2,c3,c4,c5⟩:=h;refine ⟨Aja c1 hR<|Al6 c2,As7 (fun p e u xss hm k=>Mh c1 ?_ k) c3 c2,Ajp c4,fun i hi=>Aud c1 c2 hR c4 (by rw[hi];exact c5) c3⟩;unfold Ix at c2;rw[all_eq_true]at c2;have:=c2 _ hm;simp only[fT,fF]at this;exact this.1
theorem Aab(v:AV)(ul:OL)(l:List (Oid×Oid))(zs:LA){args:LA}{ol0 us:List (Oid×Ob)}{v0:AV}(hgd:Sq gd (Ap tl))(hc:Ed P G F args ol0 v0 us)(hb:C4 P F=true)(hR:X6 ol (Bl l) ol0)(h1:R5 (Bl l) (Yu ((nmL ol0).map (Bl l)) (Am ol)) zs args)(h4:∀ j∈nmL ol0,Reached zs (Am ol) (Bl l j))(h3:XW P G g (k+1) xs ((d,v) :: tl) (ul++ol) Kf)(hfo:fo.ev (Ap tl)=.fn F caps:=by kernel_rfl)(hz:(ys++caps.map Opd.cst).map (Opd.ev (Ap tl))=zs:=by kernel_rfl)(hB:Zh l ol0 us (g+k) ol=true:=by kernel_rfl)(hF:F<mtd:=by decide)(hv:v0.ren (Cf (Bl l) ((d,0),g+k))=v:=by kernel_rfl)(hu:Cq (Qn (Cf (Bl l) ((d,0),g+k)) us)++M6 (Bl l) ol0=ul:=by kernel_rfl):XW P G g k (⟨some d,gd,.call fo ys tys⟩ :: xs) tl ol Kf:=by
 subst hv hu;have ⟨q1,q2,q3,q4⟩:=Uf hB hR;exact Aj4 2 _ _ _ (App (n:=g+k) (d:=some d) (Bl l) hgd hfo hF hz h1 q1 q2 h4 q3 hb hc) (q4 ((d,0),g+k) rfl) (by rw[append_assoc]at h3;exact h3)
theorem Auf(v:AV)(ul:OL)(l:List (Oid×Oid))(zs:LA){args:LA}{ol0 us:List (Oid×Ob)}{v0:AV}(hgd:Sq gd (Ap tl))(hc:Ed P G F args ol0 v0 us)(hb:C4 P F=true)(hR:X6 ol (Bl l) ol0)(h1:R5 (Bl l) (Yu ((nmL ol0).map (Bl l)) (only (rdX (Ap tl) (Am ol) ⟨some d,gd,.call fo ys tys⟩) (Am ol))) zs args)(h4:∀ j∈nmL ol0,Reached zs (only (rdX (Ap tl) (Am ol) ⟨some d,gd,.call fo ys tys⟩) (Am ol)) (Bl l j))(hd:∀ q∈exL ol0,Bl l q.1∈rdX (Ap tl) (Am ol) ⟨some d,gd,.call fo ys tys⟩)(h3:XD P G bad g (k+1) xs ((d,v) :: tl) (ul++ol) ((2,v,J2 (Bl l) ((d,0),g+k) ol0 us) :: ra) ((rdX (Ap tl) (Am ol) ⟨some d,gd,.call fo ys tys⟩) :: da) Kf)(hfo:fo.ev (Ap tl)=.fn F caps:=by kernel_rfl)(hz:(ys++caps.map Opd.cst).map (Opd.ev (Ap tl))=zs:=by kernel_rfl)(hB:Zh l ol0 us (g+k) ol=true:=by kernel_rfl)(hF:F<mtd:=by decide)(hv:v0.ren (Cf (Bl l) ((d,0),g+k))=v:=by kernel_rfl)(hu:Cq (Qn (Cf (Bl l) ((d,0),g+k)) us)++M6 (Bl l) ol0=ul:=by kernel_rfl):XD P G bad g k (⟨some d,gd,.call fo ys tys⟩ :: xs) tl ol ra da Kf:=by
 subst hv hu;have ⟨q1,q2,q3,q4⟩:=Uf hB hR;exact An3 2 _ _ _ (App (n:=g+k) (d:=some d) (Bl l) hgd hfo hF hz h1 (fun q hq=>by unfold only;rw[fW (hd q hq)];exact q1 q hq) q2 h4 q3 hb hc) (q4 ((d,0),g+k) rfl) (by rw[append_assoc]at h3;exact h3)
theorem rsU(v:AV)(us:OL)(h:Bd (g+k) ⟨some d,gd,q⟩ (Ap tl) (Am ol)=some (2,v,us))(h3:XW P G g (k+1) xs ((d,v) :: tl) (us.reverseAux ol) Kf)(hx:Eo us=true:=by rfl):XW P G g k (⟨some d,gd,q⟩ :: xs) tl ol Kf:=Aem 2 v us (Ho h) h3 hx
theorem dsU(v:AV)(us:OL)(h:Bd (g+k) ⟨some d,gd,q⟩ (Ap tl) (only (rdX (Ap tl) (Am ol) ⟨some d,gd,q⟩) (Am ol))=some (2,v,us))(h3:XD P G bad g (k+1) xs ((d,v) :: tl) (us.reverseAux ol) ((2,v,us) :: ra) ((rdX (Ap tl) (Am ol) ⟨some d,gd,q⟩) :: da) Kf)(hx:Eo us=true:=by rfl):XD P G bad g k (⟨some d,gd,q⟩ :: xs) tl ol ra da Kf:=Aba 2 v us (Ho h) h3 hx
end
end
theorem Dm{g:AV->Option AV}:Pm g []=some []:=rfl
theorem Au{g:AV->Option AV}{c d:AV}{cs ds:LA}(h:g c=some d)(hs:Pm g cs=some ds):Pm g (c :: cs)=some (d :: ds):=by simp only[Pm,h,hs]
section
variable{ob:OF}{n:Nat}
theorem G9{i:Oid}{t u:Ty}{e:TypeId}{xs:List u.D}{len:Nat}(h:ob i=some (.arr e u xs))(hl:len=xs.length):gnd ob (n+1) (.own i t 0 len)=some (.tree u xs):=by
 subst hl;simp only[gnd,h,fE,fQ,if_true,drop_zero,take_length]
theorem Aic{i:Oid}{t u:Ty}{e:TypeId}{xs:List u.D}{len:Nat}(h:ob i=some (.arr e u xs))(hl:len<=xs.length):gnd ob (n+1) (.own i t 0 len)=some (.tree u (xs.take len)):=by
 simp only[gnd,h,fE,fW hl,drop_zero]
theorem Avf{i:Oid}{t u:Ty}{e:TypeId}{xs ys:List u.D}{off len:Nat}(h:ob i=some (.arr e u xs))(hl:off+len<=xs.length)(hy:ys=(xs.drop off).take len):gnd ob (n+1) (.own i t off len)=some (.tree u ys):=by
 subst hy;simp only[gnd,h,fW hl]
theorem Asg{f:FuncId}{cs ds:LA}(h:Pm (gnd ob n) cs=some ds):gnd ob (n+1) (.fn f cs)=some (.fn f ds):=by simp only[gnd,h,Option.map_some]
theorem Afr{i:Oid}{k:Nat}{ty:TypeId}{cs es ds:LA}(h:ob i=some (.cells ty cs))(he:cs.drop k=es)(hs:Pm (gnd ob n) es=some ds):gnd ob (n+1) (.box i k)=some (.ref ds):=by simp only[gnd,h,he,hs,Option.map_some]
end
section
variable{n:Nat}{d:Option Nat}{f:TF}{ob:OF}
theorem A09{s:Nat}{b c:Bool}{q:Q}{r:Option Rec}(hs:f s=.bool c)(hc:c=b)(h:Bd n ⟨d,none,q⟩ f ob=r):Bd n ⟨d,some (s,b),q⟩ f ob=r:=by
 subst hc;simp only[Bd,hs,gdv,beq_self_eq_true];exact h
theorem Q9{s:Nat}{b:Bool}{q:Q}(hs:f s=.tup []):Bd n ⟨d,some (s,b),q⟩ f ob=some (0,.tup [],[]):=by
 simp[Bd,hs,gdv]
theorem Ajf{sz:Nat}{x i:Opd}{t:Ty}{xs:List t.D}{y:t.D}{k:IntKind}{m:Int}{j:Nat}(hx:(x.ev f).un=.tree t xs)(hi:i.ev f=.int k m)(hs:sz=t.size)(h0:0<=m)(hj:m.toNat=j)(hy:xs[j]? =some y){g:Option NP}(hg:(x.ev f).tag=g:=by kernel_rfl):Bd n ⟨d,none,.i (.idx sz x i)⟩ f ob=some (0,.telt g t y 0,[]):=by
 subst hs hj hg;simp[Bd,ev,evN,hx,hi,h0,hy]
theorem Te{sz:Nat}{x i:Opd}{t:Ty}{o:Oid}{len:Nat}{k:IntKind}{m:Int}{j:Nat}(hx:x.ev f=.own o t 0 len)(hi:i.ev f=.int k m)(hs:sz=t.size)(h0:0<=m)(hj:m.toNat=j)(hl:j<len):Bd n ⟨d,none,.i (.idx sz x i)⟩ f ob=some (0,.elt o j 0,[]):=by
 subst hs hj;have:m<(len:Int):=by omega
 simp[Bd,ev,evN,hx,hi,h0,AV.un,this]
theorem A0a{sz:Nat}{x i:Opd}{t:Ty}{o:Oid}{off len:Nat}{k:IntKind}{m:Int}{j:Nat}(hx:x.ev f=.own o t off len)(hi:i.ev f=.int k m)(hs:sz=t.size)(h0:0<=m)(hj:off+m.toNat=j)(hl:m.toNat<len):Bd n ⟨d,none,.i (.idx sz x i)⟩ f ob=some (0,.elt o j 0,[]):=by
 subst hs hj;have:m<(len:Int):=by omega
 simp[Bd,ev,evN,hx,hi,h0,AV.un,this]
def tyA:Nat->Ty
 | 0=>.int
 | n+1=>.pair .int (tyA n)
def Ik:(n:Nat)->List Int->(tyA n).D
 | 0,l=>l.getD 0 0
 | n+1,l=>(l.getD 0 0,Ik n l.tail)
theorem T4:∀(n:Nat) (l:List Int),((tyA n).av (Ik n l)).length=n+1
 | 0,_=>rfl
 | n+1,l=>by simp[tyA,Ik,Ty.av,T4 n]
theorem Aap:∀(n:Nat) (l:List Int),(tyA n).ofAV ((tyA n).av (Ik n l))=some (Ik n l)
 | 0,_=>rfl
 | n+1,l=>by
  have:=Aap n l.tail;simp only[tyA,Ik,Ty.av,cons_append,nil_append,Ty.ofAV,Ty.size,take_succ_cons,take_zero,drop_succ_cons,drop_zero,this,ofI,obs,Option.map_some]
theorem A0x{m N:Nat}{x:Opd}{i:Oid}{e:Nat}{ty:TypeId}{xs:List (tyA N).D}{l:List Int}(hx:x.ev f=.elt i e 0)(hob:ob i=some (.arr ty (tyA N) xs))(hl:xs[e]? =some (Ik N l))(hm:m=N+1):Bd n ⟨d,none,.i (.ld false m x)⟩ f ob=some (1,.agg ((tyA N).av (Ik N l)),[]):=by
 subst hm;have h1:=T4 N l;simp[Bd,ev,evN,evR,hx,hob,hl,Dw,h1];rw[take_of_length_le oM]
theorem Akf:∀(n:Nat) (l:List Int),((tyA n).av (Ik n l)).all AV.one=true
 | 0,_=>rfl
 | n+1,l=>by simp[tyA,Ik,Ty.av,AV.one,Akf n,← all_eq_true]
theorem A01{m N:Nat}{x y:Opd}{i:Oid}{e:Nat}{ty:TypeId}{xs ys:List (tyA N).D}{l l2:List Int}(hx:x.ev f=.elt i e 0)(hob:ob i=some (.arr ty (tyA N) xs))(hl:xs[e]? =some (Ik N l))(hm:m=N+1)(hv:y.ev f=.agg ((tyA N).av (Ik N l2)))(hs:xs.set e (Ik N l2)=ys):
  Bd n ⟨d,none,.st false m x y⟩ f ob=some (2,.any,[(i,none),(i,some (.arr ty (tyA N) ys))]):=by
 subst hs hm;have h1:=T4 N l;have h2:=T4 N l2;have h3:=Akf N l2
 have h4:K4 false (N+1) 0 ((tyA N).av<|Ik N l) (.agg<|(tyA N).av<|Ik N l2)=some ((tyA N).av<|Ik N l2):=by
  simp only[K4,h2,h1,h3,fE,fQ,and_self,if_true,take_zero,nil_append,Bool.false_eq_true,if_false];rw[drop_of_length_le oM,append_nil]
 simp[Bd,ev,Agj,hx,hob,hl,hv,h4,Aap]
theorem Aup(i:Oid){mt:TypeId}{ok:Bool}{x y:Opd}{t:Ty}{es:List (Int×t.D)}{k:ByteArray}(hob:ob i=some (.map mt t es))(hx:x.ev f=.mp i)(hy:y.ev f=.str k)(h:k.size<=maxLen)(h3:k3 Tryz.prog mt=none:=by kernel_rfl):Bd n ⟨d,none,.i (.look mt ok x y)⟩ f ob=some (1,Zu ok t es (G6 k),[]):=by
 simp[Bd,ev,evN,evR,hx,hy,hob,Zb h h3]
theorem As3{mt:TypeId}{ok:Bool}{x y:Opd}{t:Ty}{es:List (Int×t.D)}{k:ByteArray}(hx:x.ev f=.mtree mt t es)(hy:y.ev f=.str k)(h:k.size<=maxLen)(h3:k3 Tryz.prog mt=none:=by kernel_rfl):Bd n ⟨d,none,.i (.look mt ok x y)⟩ f ob=some (0,Zu ok t es (G6 k),[]):=by
 simp[Bd,ev,evN,hx,hy,Zb h h3]
theorem Ayc{mt:TypeId}{x y z:Opd}{i:Oid}{es:List (Int×Bool)}{k:ByteArray}{nv:Bool}(hx:x.ev f=.mp i)(hy:y.ev f=.str k)(hz:z.ev f=.bool nv)(hob:ob i=some (.map mt .bool es))(h:k.size<=maxLen/\es.length<1073741824)(h3:k3 Tryz.prog mt=none:=by kernel_rfl):Bd n ⟨d,none,.upd mt x y z⟩ f ob=some (2,.any,[(i,none),(i,some (.map mt .bool (Og es (G6 k) nv)))]):=by
 simp[Bd,ev,Vc,hx,hy,hz,hob,Zb h.1 h3,h.2]
theorem Axy{mt:TypeId}{x y z:Opd}{i:Oid}{es:List (Int×(Int×Int))}{k:ByteArray}{a b:Int}(hx:x.ev f=.mp i)(hy:y.ev f=.str k)(hz:z.ev f=.agg [.int .i64 a,.int .i64 b])(hob:ob i=some (.map mt (.pair .int .int) es))(h:k.size<=maxLen/\es.length<1073741824/\L6 a/\L6 b)(h3:k3 Tryz.prog mt=none:=by kernel_rfl):Bd n ⟨d,none,.upd mt x y z⟩ f ob=some (2,.any,[(i,none),(i,some (.map mt (.pair .int .int) (Og es (G6 k) (a,b))))]):=by
 simp[Bd,ev,Vc,hx,hy,hz,hob,Zb h.1 h3,h.2]
theorem Hh{one:Bool}{m:Nat}{x:Opd}{i:Oid}{j k:Nat}{e:TypeId}{t:Ty}{xs:List t.D}{y:t.D}{c:AV}(hx:x.ev f=.elt i j k)(hob:ob i=some (.arr e t xs))(hy:xs[j]? =some y)(hc:Dw one m k (t.av y)=some c):Bd n ⟨d,none,.i (.ld one m x)⟩ f ob=some (1,c,[]):=by
 simp[Bd,ev,evN,evR,hx,hob,hy,hc]
theorem Ag5{one:Bool}{m:Nat}{x y:Opd}{i:Oid}{j k:Nat}{e:TypeId}{t:Ty}{xs:List t.D}{x0 x1:t.D}{cs:LA}(hx:x.ev f=.elt i j k)(hob:ob i=some (.arr e t xs))(hy:xs[j]? =some x0)(hc:K4 one m k (t.av x0) (y.ev f)=some cs)(hd:t.ofAV cs=some x1):Bd n ⟨d,none,.st one m x y⟩ f ob=some (2,.any,[(i,none),(i,some (.arr e t (xs.set j x1)))]):=by
 simp[Bd,ev,Agj,hx,hob,hy,hc,hd]
theorem Qh{e:TypeId}{t:Ty}{by_:Nat}{l c:Opd}{k k':IntKind}{m m':Int}{j:Nat}(hl:l.ev f=.int k m)(hc:c.ev f=.int k' m')(h:0<=m/\m<=m'/\m'<=1073741824/\(by_:Int)*m'<=140737488355328)(hj:m.toNat=j):Bd n ⟨d,none,.make e t by_ l c⟩ f ob=some (1,.own ((d.getD 0,0),n) t 0 j,[(((d.getD 0,0),n),some (.arr e t (replicate j t.dflt)))]):=by
 subst hj;simp only[Bd,ev,Adj,hl,hc,fW h]
theorem Ij{t t':Ty}{i:Oid}{e:TypeId}{xs:List t.D}{len:Nat}(h:ob i=some (.arr e t xs))(hl:len=xs.length):E6 ob t (.own i t' 0 len)=some xs:=by
 subst hl;simp only[E6,h,fE,fQ,if_true,Ty.eq?_self,Cx,drop_zero,take_length]
theorem A0f{t t':Ty}{i:Oid}{e:TypeId}{xs ys:List t.D}{off len:Nat}(h:ob i=some (.arr e t xs))(hl:off+len<=xs.length)(hy:ys=(xs.drop off).take len):E6 ob t (.own i t' off len)=some ys:=by
 subst hy;simp only[E6,h,fW hl,Ty.eq?_self,Cx]
theorem K3{t:Ty}{xs:List t.D}:E6 ob t (.tree t xs)=some xs:=by simp only[E6,Ty.eq?_self,Cx]
theorem Sx{t:Ty}:X2 f ob t []=some []:=rfl
theorem El{t:Ty}{x:Opd}{c:AV}{xs:List Opd}{ys:List t.D}{yss:List (List t.D)}(hx:x.ev f=c)(hs:E6 ob t c=some ys)(h:X2 f ob t xs=some yss):X2 f ob t (x :: xs)=some (ys :: yss):=by
 simp only[X2,hx,hs,h]
theorem Ae0{t:Ty}{xs:List Opd}{yss:List (List t.D)}{us:OL}(h:X2 f ob t xs=some yss){e:TypeId}(hu:(xs.flatMap fun x=>Tb (x.ev f))=us):Bd n ⟨d,none,.mkV e (.slice t) 1 xs⟩ f ob=some (2,.tree (.slice t) yss,us):=by
 subst hu;simp only[Bd,ev,X5,h,if_true]
theorem Qe{e:TypeId}{t t':Ty}{by_:Nat}{x y:Opd}{c:AV}{ys xs zs:List t.D}{j:Oid}{len:Nat}(hx:x.ev f=.own j t' 0 len)(hob:ob j=some (.arr e t xs))(hl:len=xs.length)(hy:y.ev f=c)(hs:E6 ob t c=some ys)(hz:zs=xs++ys)(h:xs.length+ys.length<=1073741824/\(xs.length+ys.length)*by_<=140737488355328):
  Bd n ⟨d,none,.append e t by_ x y⟩ f ob=some (2,.own (j.1,n) t 0 zs.length,[(j,none),((j.1,n),some (.arr e t zs))]):=by
 subst hl hz;simp only[Bd,ev,Mi,hx,hy,hs,hob,Ty.eq?_self,fQ,true_and,h.1,h.2,and_self,if_true,Cx,take_length,length_append]
theorem Au6{e:TypeId}{t t':Ty}{by_:Nat}{x y:Opd}{c:AV}{ys xs zs:List t.D}{j:Oid}{len:Nat}(hx:x.ev f=.own j t' 0 len)(hob:ob j=some (.arr e t xs))(hl:len<=xs.length)(hy:y.ev f=c)(hs:E6 ob t c=some ys)(hz:zs=xs.take len++ys)(h:(xs.take len).length+ys.length<=1073741824/\((xs.take len).length+ys.length)*by_<=140737488355328):
  Bd n ⟨d,none,.append e t by_ x y⟩ f ob=some (2,.own (j.1,n) t 0 zs.length,[(j,none),((j.1,n),some (.arr e t zs))]):=by
 subst hz;have hl':(xs.take len).length=len:=by rw[length_take];omega
 rw[hl']at h;simp only[Bd,ev,Mi,hx,hy,hs,hob,Ty.eq?_self,hl,true_and,h.1,h.2,and_self,if_true,Cx,length_append,hl']
theorem Adw{sz:Nat}{x:Opd}{lo hi mx:Option Opd}{t:Ty}{xs zs:List t.D}{l h m:Int}(hx:(x.ev f).un=.tree t xs)(hl:Fq f 0 lo=some l)(hh:Fq f xs.length hi=some h)(hm:Fq f xs.length mx=some m)(hs:t.size=sz)(hb:0<=l/\l<=h/\h<=m/\m<=xs.length)(hz:(xs.take h.toNat).drop l.toNat=zs)(htag:(x.ev f).tag=none:=by kernel_rfl):
  Bd n ⟨d,none,.slice sz x lo hi mx⟩ f ob=some (0,.tree t zs,[]):=by
 subst hs hz;simp only[Bd,ev,Vw,hx,htag,trM,hl,hh,hm,true_and,hb.1,hb.2.1,hb.2.2.1,hb.2.2.2,and_self,if_true]
theorem E2{sz:Nat}{x:Opd}{lo hi:Option Opd}{t:Ty}{i:Oid}{off len o' j:Nat}{l h:Int}(hx:x.ev f=.own i t off len)(hl:Fq f 0 lo=some l)(hh:Fq f len hi=some h)(hs:t.size=sz)(hb:0<=l/\l<=h/\h<=len)(ho:off+l.toNat=o')(hj:(h - l).toNat=j):
  Bd n ⟨d,none,.slice sz x lo hi none⟩ f ob=some (0,.own i t o' j,[]):=by
 subst hs ho hj;simp only[Bd,ev,Vw,hx,AV.un,hl,hh,true_and,hb.1,hb.2.1,hb.2.2,and_self,if_true]
theorem Atf{x y:Opd}{j:Nat}(hx:x.ev f=.int .i64 j)(hy:y.ev f=.int .i64 1)(h:j+1<4611686018427387904):Bd n ⟨d,none,.i (.bin .add x y)⟩ f ob=some (0,.int .i64 ((j+1:Nat):Int),[]):=by
 have:IntKind.i64.wrap ((j:Int)+1)=((j+1:Nat):Int):=by rw[Go.IntWalk.i64_in _ oM];rfl
 simp[Bd,ev,evN,Abh,hx,hy,this]
theorem Ayi{x y:Opd}{k:IntKind}{a b:Int}(hx:x.ev f=.int k a)(hy:y.ev f=.int k b)(h:b≠0):Bd n ⟨d,none,.i (.bin .quo x y)⟩ f ob=some (0,.int k (k.wrap (a.tdiv b)),[]):=by
 simp[Bd,ev,evN,Abh,hx,hy,h]
theorem Q1{x y:Opd}{k:IntKind}{a b:Int}(hx:x.ev f=.int k a)(hy:y.ev f=.int k b)(h:b≠0):Bd n ⟨d,none,.i (.bin .rem x y)⟩ f ob=some (0,.int k (a.tmod b),[]):=by
 simp[Bd,ev,evN,Abh,hx,hy,h]
theorem Avr{x y:Opd}{a b:ByteArray}(hx:x.ev f=.str a)(hy:y.ev f=.str b)(h:(a.size+b.size:Nat)<=9223372036854775807):Bd n ⟨d,none,.i (.bin .add x y)⟩ f ob=some (0,.str (a++b),[]):=by
 simp[Bd,ev,evN,Abh,hx,hy,h]
theorem Pz{x i:Opd}{s:ByteArray}{k:IntKind}{m:Int}{j:Nat}{b:UInt8}(hx:x.ev f=.str s)(hi:i.ev f=.int k m)(h0:0<=m)(hj:m.toNat=j)(hy:s[j]? =some b):Bd n ⟨d,none,.i (.char x i)⟩ f ob=some (0,.int .u8 b.toNat,[]):=by
 subst hj;simp[Bd,ev,evN,hx,hi,h0,hy]
end
theorem Aod{c:Opd}{x y:AC}{R:AE->St->Prop}{S:St}{t:Bool}(ht:t=true)(h1:awp P G x R S)(h:c.ev S.tm=.bool t:=by kernel_rfl):awp P G (.cond c x y) R S:=by
 subst ht;exact .inl ⟨true,h,fun _=>h1,fun h=>nomatch h⟩
theorem Aoh{c:Opd}{x y:AC}{R:AE->St->Prop}{S:St}{t:Bool}(ht:t=false)(h2:awp P G y R S)(h:c.ev S.tm=.bool t:=by kernel_rfl):awp P G (.cond c x y) R S:=by
 subst ht;exact .inl ⟨false,h,fun h=>(nomatch h),fun _=>h2⟩
theorem Ad{i:Nat}{a:AC}{R:AE->St->Prop}{S:St}(h:awp P G a (Me i R) S):awp P G (.block i a) R S:=h
theorem Ard{a:AC}{R:AE->St->Prop}{S:St}{α:Type}(I:α->St->Prop)(μ:α->Nat)(h0:∃ s S0,WeakG G S S0/\I s S0)(h1:∀ s S1,I s S1->awp P G a (Jj (fun S2=>∃ s' S3,WeakG G S2 S3/\I s' S3/\μ s'<μ s) R) S1):awp P G (.loop a) R S:=⟨α,I,μ,h0,h1⟩
theorem D9{i:Nat}{R:AE->St->Prop}{S:St}(h:R (.exit i) S):awp P G (.exit i) R S:=h
theorem Ay{R:AE->St->Prop}{S:St}(h:R .normal S):awp P G .skip R S:=h
theorem Ac{R:AE->St->Prop}{S:St}(h:R .ret S):awp P G .ret R S:=h
end
section
variable{K:St->Prop}{R:AE->St->Prop}{S:St}{i j:Nat}
theorem tn_(h:K S):Jj K R .normal S:=h
theorem te_(h:R (.exit i) S):Jj K R (.exit i) S:=h
theorem tr_(h:R .ret S):Jj K R .ret S:=h
theorem bn_(h:R .normal S):Me i R .normal S:=h
theorem be_(h:R .normal S):Me i R (.exit i) S:=by simpa [Me] using h
theorem br_(h:R .ret S):Me i R .ret S:=h
end
def tmL:Nat->LA->TL
 | _,[]=>[]
 | k,v :: r=>(k,v) :: tmL (k+1) r
theorem Ak7:∀(l:LA) (k i:Nat),Ap (tmL k l) (k+i)=l.getD i .any
 | [],k,i=>by simp[tmL,Ap]
 | v :: r,k,i=>by
  cases i with
  | zero=>simp[tmL,Ap]
  | succ i=>
   have:=Ak7 r (k+1) i;simp only[tmL,Ap];rw[fB oM,show k+(i+1)=k+1+i by omega,this];simp
theorem Ajj(args:LA):(fun i=>args.getD i .any)=Ap (tmL 0 args):=by
 funext i;have:=Ak7 args 0 i;rw[fE]at this;exact this.symm
theorem St.init_eq(args:LA):St.init args=⟨Ap (tmL 0 args),Am [],1⟩:=by
 unfold St.init;rw[Ajj];rfl
theorem Aqn{G:WP}{tl:TL}{ol:OL}{g:Nat}(s:Nat)(e:TypeId)(t:Ty)(ht:t.flat=true)(hs:Ap tl s=.nils):WeakG G ⟨Ap tl,Am ol,g⟩ ⟨Ap ((s,.own ((s,0),g) t 0 0) :: tl),Am ((((s,0),g),some (.arr e t [])) :: ol),g+1⟩:=by
 have:=At2 (G:=G) (S:=⟨Ap tl,Am ol,g⟩) s e t ht hs;rw[Sj]at this;have e2:upd (Am ol) ((s,0),g) (some<|.arr e t [])=Am ((((s,0),g),some<|.arr e t []) :: ol):=Ji rfl;rw[e2]at this;exact this
theorem Ada{G:WP}{tl:TL}{ol:OL}{g:Nat}(s:Nat)(v v':AV)(h:Ap tl s=v)(e:v=v'):WeakG G ⟨Ap tl,Am ol,g⟩ ⟨Ap ((s,v') :: tl),Am ol,g⟩:=by
 subst e
 have:Ap ((s,v) :: tl)=Ap tl:=by
  funext i;simp only[Ap];split
  next e=>rw[e];exact h.symm
  ·rfl
 rw[this];exact WeakG.refl _
theorem Vi{G:WP}{tl:TL}{ol:OL}{g:Nat}(j:Oid)(o o':Ob)(h:Am ol j=some o)(e:o=o')(hx:P5 (some o)=true:=by rfl):WeakG G ⟨Ap tl,Am ol,g⟩ ⟨Ap tl,Am ((j,some o') :: ol),g⟩:=by
 subst e
 have:Am ((j,some o) :: ol)=Am ol:=by
  rw[← Ji hx,Avk _ _ _ h]
 rw[this];exact WeakG.refl _
theorem Dq{G:WP}{tl:TL}{ol:OL}{g:Nat}(s:Nat)(c:Oid)(k:Nat)(ty:TypeId)(cs ds:LA)(e:TypeId)(t:Ty)(ht:t.flat=true)(hb:Am ol c=some (.cells ty cs))(hk:cs[k]? =some .nils)(hd:cs.set k (.own ((s,0),g) t 0 0)=ds):
  WeakG G ⟨Ap tl,Am ol,g⟩ ⟨Ap tl,Am ((c,some (.cells ty ds)) :: (((s,0),g),some (.arr e t [])) :: ol),g+1⟩:=by
 subst hd;have:=Agv (G:=G) (S:=⟨Ap tl,Am ol,g⟩) s c k ty cs e t ht hb hk;have e2:upd (upd (Am ol) ((s,0),g)<|some<|.arr e t []) c (some<|.cells ty<|cs.set k<|.own ((s,0),g) t 0 0)=Am ((c,some<|.cells ty<|cs.set k<|.own ((s,0),g) t 0 0) :: (((s,0),g),some<|.arr e t []) :: ol):=by rw[Ji rfl,Ji rfl]
 rw[← e2];exact this
theorem Nh{G:WP}{tl:TL}{ol:OL}{g:Nat}(s:Nat)(e:TypeId)(t:Ty)(hs:Ap tl s=.nils):WeakG G ⟨Ap tl,Am ol,g⟩ ⟨Ap ((s,.own ((s,0),g) t 0 0) :: tl),Am ((((s,0),g),some (.vec e 1 0 [])) :: ol),g+1⟩:=by
 have:=Aqp (G:=G) (S:=⟨Ap tl,Am ol,g⟩) s e t hs;rw[Sj]at this;have e2:upd (Am ol) ((s,0),g) (some<|.vec e 1 0 [])=Am ((((s,0),g),some<|.vec e 1 0 []) :: ol):=Ji rfl;rw[e2]at this;exact this
theorem Oy{G:WP}{tl:TL}{ol:OL}{g:Nat}(s:Nat)(c:Oid)(k:Nat)(ty:TypeId)(cs ds:LA)(e:TypeId)(t:Ty)(hb:Am ol c=some (.cells ty cs))(hk:cs[k]? =some .nils)(hd:cs.set k (.own ((s,0),g) t 0 0)=ds):
  WeakG G ⟨Ap tl,Am ol,g⟩ ⟨Ap tl,Am ((c,some (.cells ty ds)) :: (((s,0),g),some (.vec e 1 0 [])) :: ol),g+1⟩:=by
 subst hd;have:=Aec (G:=G) (S:=⟨Ap tl,Am ol,g⟩) s c k ty cs e t hb hk;have e2:upd (upd (Am ol) ((s,0),g)<|some<|.vec e 1 0 []) c (some<|.cells ty<|cs.set k<|.own ((s,0),g) t 0 0)=Am ((c,some<|.cells ty<|cs.set k<|.own ((s,0),g) t 0 0) :: (((s,0),g),some<|.vec e 1 0 []) :: ol):=by rw[Ji rfl,Ji rfl]
 rw[← e2];exact this
def Ayu(ol us:List (Oid×Ob))(args:LA)(v:AV):Bool:=
 (Ix ol&&(Ix us&&((ol.all fun q=>q.1.2==0)&&((us.all fun q=>q.1.2==1||(!q.2.isPool&&(Cm ol).contains q.1))&&(ndB (Cm us)&&ndB (Ct us))))))&&((ol.all fun q=>q.2.clo1 (Cm ol))&&((us.all fun q=>q.2.hp1 (Cm us))&&(AV.cloL (Cm ol) args&&AV.hpB (Cm us) v)))
def Ai5(ol:List (Oid×Ob)):List (Oid×Ob)->Prop
 | []=>True
 | q :: r=>(match q.2 with
  | .mat _ p u xss=>∃ e,(p,Ob.pool e u xss)∈ol
  | _=>True)/\Ai5 ol r
theorem Wz{ol:List (Oid×Ob)}:∀{l:List (Oid×Ob)},Ai5 ol l->∀ i e p u xss,(i,Ob.mat e p u xss)∈l->∃ e,(p,Ob.pool e u xss)∈ol
 | _ :: _,h,i,e,p,u,xss,hm=>by
  rcases mem_cons.1 hm with rfl|hm
  ·exact h.1
  ·exact Wz h.2 i e p u xss hm
theorem Apc{ol:List (Oid×Ob)}{p:Oid}{e:TypeId}{u:Ty}{xss:List (List u.D)}:(p,Ob.pool e u xss)∈ol->∀ k,k<xss.length->kid p k∈nmL ol:=by
 induction ol with
 | nil=>intro h;cases h
 | cons x r ih=>
  have ⟨x1,x2⟩:=x;intro h k hk;rcases mem_cons.1 h with h|h
  ·cases h;simp only[nmL,exL,map_append,mem_append];refine .inl<|mem_map.2 ⟨(kid p k,.arr e u xss[k]),mem_map.2 ⟨(xss[k],k),?_,rfl⟩,rfl⟩;rw[mem_zipIdx_iff_getElem?];exact gEg hk
  ·have:=ih h k hk;cases x2 <;> simp only[nmL,exL,map_cons,map_append]at this⊢ <;> first|exact mem_cons_of_mem _ this|exact mem_append_right _ this
theorem Ur{ol:List (Oid×Ob)}{i:Oid}(h:i∈Cm ol):i∈nmL ol:=by
 have ⟨o,ho,hp⟩:=Ave h;exact mem_map.2 ⟨_,Acc ho hp,rfl⟩
theorem A0e{D:Oid->Prop}{p:Oid}{u:Ty}(xss:List (List u.D))(h:∀ k,k<xss.length->D (kid p k)):AV.hpL D (hdL p u xss):=by
 have key:∀ l:List (List u.D×Nat),(∀ x∈l,D<|kid p x.2)->AV.hpL D (l.map fun x=>.own (kid p x.2) u 0 x.1.length):=by
  intro l
  induction l with
  | nil=>intro _;trivial
  | cons x l ih=>intro h;exact ⟨h x fS,ih fun y hy=>h y (by simp[hy])⟩
 refine key _ fun x hx=>h _ ?_
 have ⟨row,k⟩:=x;rw[mem_zipIdx_iff_getElem?]at hx;exact (gSi.1 hx).1
theorem A0j{D:List Oid}(o:Ob)(h:o.clo1 D=true)(hp:o.isPool=false)(hm:∀ e p u xss,o≠.mat e p u xss):o.exp.cloP (·∈D):=by
 cases o with
 | cells _ cs=>exact AV.cloPL_of cs h
 | vec _ _ _ cs=>exact AV.cloPL_of cs h
 | mat e p u xss=>exact absurd rfl<|hm _ _ _ _
 | arr _ _ _=>trivial
 | map _ _ _=>trivial
 | pool _ _ _=>cases hp
 | tv e m t xs=>exact An2 xs
theorem A0v{D:List Oid}(o:Ob)(h:o.hp1 D=true)(hp:o.isPool=false)(hm:∀ e p u xss,o≠.mat e p u xss):o.exp.hp (·∈D):=by
 cases o with
 | cells _ cs=>exact AV.hpB_PL cs h
 | vec _ _ _ cs=>exact AV.hpB_PL cs h
 | mat e p u xss=>exact absurd rfl<|hm _ _ _ _
 | arr _ _ _=>trivial
 | map _ _ _=>trivial
 | pool _ _ _=>cases hp
 | tv e m t xs=>cases h
theorem cloP_mono{D E:Oid->Prop}(hd:∀ i,D i->E i)(o:Ob)(h:o.cloP D):o.cloP E:=by
 cases o <;> first|exact AV.cloPL_mono hd _ h|exact h
theorem hp_mono{D E:Oid->Prop}(hd:∀ i,D i->E i)(o:Ob)(h:o.hp D):o.hp E:=by
 cases o <;> first|exact AV.hpL_mono hd _ h|exact h
section
variable{P:Program}{G:WP}(hfol:P.follows .mixedOrders=true){g:FuncId}{fn:Func}(hf:P.funcs[g]? =some fn){ac:AC}{rs:List Res}(hc:C2 P fn=some (ac,rs)){args:LA}{r:RV}{n:Nat}(hN:fn.ntmps=n)(hn:args.length<=n)
include hfol hf hc hN hn
theorem Xr [IsP P]{tl:TL}(htl:tmL 0 args=tl)(h:awp P G ac (fun e S=>∃ S',WeakG G S S'/\(e=.normal∨e=.ret)/\RetOK [] rs S' r) ⟨Ap tl,Am [],1⟩):Da P G g args r:=by
 refine Av7 hfol hf hc hN hn ?_;rw[St.init_eq,htl];exact h
omit hN hn in
theorem B8 [IsP P](hN:fn.ntmps=n)(hn:args.length<=n){tl:TL}(htl:tmL 0 args=tl){ol us:List (Oid×Ob)}{v:AV}(hB:Ayu ol us args v=true)(hm1:Ai5 ol ol)(hm2:Ai5 us us)
  (h:awp P G ac (fun e S=>∃ S',WeakG G S S'/\(e=.normal∨e=.ret)/\(∃ rvs,Res.evL S'.tm S'.ob rs=some rvs/\v=Agk rvs)/\∀ q∈exL us,S'.ob q.1=some q.2) ⟨Ap tl,Am (Cq ol),1⟩):Ed P G g args ol v us:=by
 simp only[Ayu,fT]at hB;have ⟨⟨a1,a2,a3,a4,a5,a6⟩,b1,b2,b3,b4⟩:=hB;rw[all_eq_true]at a3 a4 b1 b2
 have h0:∀{l:List (Oid×Ob)},Ix l=true->∀ q∈l,q.1.1.2=0:=fun h q hq=>by
  unfold Ix at h;rw[all_eq_true]at h;have:=h q hq;simp only[fT,fF]at this;exact this.1
 refine Asy hfol hf hc hN hn (fun q hq=>?_) (Ayg (H1 a5) (H1 a6)<|h0 a2) (fun q hq=>?_) (AV.cloPL_mono (fun i hi=>Ur hi) _<|AV.cloPL_of args b3) (AV.hp_mono (fun i hi=>Ur hi) _<|AV.hpB_P v b4) ?_
 ·rcases Kb hq with ⟨p,e,u,xss,k,row,m1,m2,rfl⟩|⟨o,m1,m2,m3⟩
  ·have:=a3 _ m1;rw[fF]at this;exact ⟨this,trivial⟩
  ·have:=a3 _ m1;refine ⟨by simpa using this,?_⟩;rw[m3];by_cases hmt:∃ e p u xss,o=.mat e p u xss
   ·obtain ⟨e,p,u,xss,rfl⟩:=hmt;have ⟨e',hp⟩:=Wz hm1 _ _ _ _ _ m1;exact Atm xss fun k hk=>Apc hp k hk
   ·exact cloP_mono (fun i hi=>Ur hi) _ (A0j o (b1 _ m1) m2 fun e p u xss h=>hmt ⟨e,p,u,xss,h⟩)
 ·rcases Kb hq with ⟨p,e,u,xss,k,row,m1,m2,rfl⟩|⟨o,m1,m2,m3⟩
  ·have:=a4 _ m1;simp only[Ob.isPool,fD,Bool.false_and,Bool.or_false,fF]at this;exact ⟨.inl this,.inl trivial⟩
  ·have:=a4 _ m1;simp only[Bool.or_eq_true,fT,fF]at this;refine ⟨this.imp id fun h=>Ur<|contains_iff_mem.1 h.2,.inl ?_⟩;rw[m3];by_cases hmt:∃ e p u xss,o=.mat e p u xss
   ·obtain ⟨e,p,u,xss,rfl⟩:=hmt;have ⟨e',hp⟩:=Wz hm2 _ _ _ _ _ m1;exact A0e xss fun k hk=>Apc hp k hk
   ·exact hp_mono (fun i hi=>Ur hi) _ (A0v o (b2 _ m1) m2 fun e p u xss h=>hmt ⟨e,p,u,xss,h⟩)
 ·rw[Ajj,htl];exact h
end
theorem A02{G:WP}{rs:List Res}{f:TF}{ob:OF}{g:Nat}{r:RV}(avs:LA){vs:LV}{e:AE}(h2:PartsR vs ob avs r.ps)(he:e=.normal∨e=.ret:=by simp)(h1:Res.evL f ob rs=some avs:=by kernel_rfl)(h3:ndB (Ab0 ob (Uo avs))=true:=by kernel_rfl)(h4:r.tup=decide (rs.length≠1):=by kernel_rfl):∃ S',WeakG G ⟨f,ob,g⟩ S'/\(e=.normal∨e=.ret)/\RetOK vs rs S' r:=
 ⟨_,WeakG.refl _,he,avs,r.ps,h1,h2,H1 h3,by cases r;cases h4;rfl⟩
theorem E4{G:WP}{rs:List Res}{S:St}{tl:TL}{g:Nat}{v:AV}{us:List (Oid×Ob)}{e:AE}(rvs:LA)(hw:WeakG G S ⟨Ap tl,Am (Cq us),g⟩)(he:e=.normal∨e=.ret:=by simp)(h1:Res.evL (Ap tl) (Am (Cq us)) rs=some rvs:=by kernel_rfl)(hv:v=Agk rvs:=by kernel_rfl)(h2:(Ix us&&(ndB (Cm us)&&ndB (Ct us)))=true:=by kernel_rfl):
  ∃ S',WeakG G S S'/\(e=.normal∨e=.ret)/\(∃ rvs,Res.evL S'.tm S'.ob rs=some rvs/\v=Agk rvs)/\∀ q∈exL us,S'.ob q.1=some q.2:=by
 refine ⟨_,hw,he,⟨rvs,h1,hv⟩,fun q hq=>?_⟩;simp only[fT]at h2;have ⟨a1,a2,a3⟩:=h2
 have h0:∀ q∈us,q.1.1.2=0:=fun q hq=>by
  unfold Ix at a1;rw[all_eq_true]at a1;have:=a1 q hq;simp only[fT,fF]at this;exact this.1
 have:=Ti (rest:=[]) (H1 a2) (H1 a3) (fun p hp=>by have ⟨e,u,xss,hm⟩:=Aze hp;exact h0 _ hm) (fun i hi p hp k e=>by
  have ⟨o,ho,_⟩:=Ave hi;have:=h0 _ ho;rw[e]at this;simp[kid]at this) q hq
 rwa [append_nil]at this
section
variable{vs:LV}{ob:OF}
theorem V7{cs r:LA}{ls:List RL}{ps:List (Bool×List RL)}(h1:LeavesR vs ob cs ls)(h2:PartsR vs ob r ps):PartsR vs ob (.agg cs :: r) ((true,ls) :: ps):=⟨ls,ps,rfl,h1,h2⟩
theorem H6{c:AV}{r:LA}{l:RL}{ps:List (Bool×List RL)}(hc:c.one=true)(h1:LeafR vs ob c l)(h2:PartsR vs ob r ps):PartsR vs ob (c :: r) ((false,[l]) :: ps):=by
 rw[Tm (by rintro ⟨_,rfl⟩;cases hc)];exact ⟨l,ps,rfl,h1,h2⟩
theorem H0:PartsR vs ob [] []:=rfl
theorem E9{c:AV}{cs:LA}{l:RL}{ls:List RL}(h1:LeafR vs ob c l)(h2:LeavesR vs ob cs ls):LeavesR vs ob (c :: cs) (l :: ls):=⟨l,ls,rfl,h1,h2⟩
theorem X1:LeavesR vs ob [] []:=rfl
theorem Asx{c:AV}{l:RL}(h:U4 ob c=some l):LeafR vs ob c l:=.inl (.inl h)
theorem Ec{i:Oid}{t u:Ty}{e:TypeId}{xs:List u.D}{len:Nat}(h:ob i=some (.arr e u xs))(hl:len=xs.length):LeafR vs ob (.own i t 0 len) (.new e u xs):=by
 subst hl;exact .inl<|.inl (by simp only[U4,h,fQ,and_self,if_true,take_length])
theorem Aoe{e:TypeId}{t:Ty}(h:t.flat=true):LeafR vs ob .nils (.new e t []):=.inl (.inr (.inr ⟨e,t,rfl,rfl,h⟩))
end
end
section
abbrev tm(n:Nat):Opd:=.tmp n
abbrev cb(b:Bool):Opd:=.cst (.bool b)
abbrev ci(n:Int):Opd:=.cst (.int .i64 n)
abbrev xo(d:Nat)(q:Q):X:=⟨some d,none,q⟩
abbrev xn(q:Q):X:=⟨none,none,q⟩
abbrev qm(x:Opd):Q:=.i (.mov x)
abbrev ql(x:Opd):Q:=.i (.ld true 1 x)
abbrev qf(k:Nat)(x:Opd):Q:=.i (.fld k x)
abbrev qb(o:BinOp)(x y:Opd):Q:=.i (.bin o x y)
abbrev qc(f:FuncId)(xs:List Opd)(tys:List (List (Option Ty))):Q:=.call (.cst (.fn f [])) xs tys
abbrev rg(xs:List X):AC:=.region xs false []
abbrev ai(n:Int):AV:=.int .i64 n
abbrev oi(a b:Nat):Oid:=((a,0),b)
def Asp(d:Option Nat)(v:AV)(tl:TL):TL:=
 match d with
 | some d=>(d,v) :: tl
 | none=>tl
theorem Aoa(d:Option Nat)(v:AV)(tl:TL):P0 d v (Ap tl)=Ap (Asp d v tl):=by
 cases d with
 | none=>rfl
 | some d=>simp only[P0,Asp,Sj]
noncomputable def Aju(g:Nat):Nat->Nat->List X->List (Nat×AV)->List (Oid×Option Ob)->Option (List (Nat×AV)×List (Oid×Option Ob))
 | 0,_,_,tl,ol=>some (tl,ol)
 | _+1,_,[],_,_=>none
 | n+1,k,x :: xs,tl,ol=>match Bd (g+k) x (Ap tl) (Am ol) with
  | some (_,v,us)=>if Eo us then Aju g n (k+1) xs (Asp x.dst v tl) (us.reverseAux ol) else none
  | none=>none
theorem A0t {P:Program} {G:WP} {g:Nat} {Kf:List (Nat×AV)->List (Oid×Option Ob)->Prop}:∀ (n k:Nat) (xs:List X) (tl:TL) (ol:OL) (r:List (Nat×AV)×List (Oid×Option Ob)),Aju g n k xs tl ol=some r->XW P G g (k+n) (xs.drop n) r.1 r.2 Kf->XW P G g k xs tl ol Kf
 | 0,k,xs,tl,ol,r,h,hk=>by
  cases h;exact hk
 | n+1,k,[],tl,ol,r,h,hk=>by cases h
 | n+1,k,x :: xs,tl,ol,r,h,hk=>by
  simp only [Aju] at h;split at h
  ·rename_i c v us hst;split at h
   next hx=>obtain ⟨rs,tl',ol',h1,h2⟩:=A0t (P:=P) (G:=G) n (k+1) xs _ _ r h (by rw [show k+1+n=k+(n+1) by omega];exact hk);exact ⟨(c,v,us) :: rs,tl',ol',⟨_,_,rfl,Ho hst,by rw [Aoa,L1 _ _ hx];exact h1⟩,h2⟩
   ·cases h
  ·cases h
theorem rsB{P:Program}{G:WP}{g k:Nat}{xs:List X}{tl:TL}{ol:OL}{Kf:List (Nat×AV)->List (Oid×Option Ob)->Prop}(n:Nat)(hk:XW P G g (k+n) (xs.drop n) ((Aju g n k xs tl ol).getD ([],[])).1 ((Aju g n k xs tl ol).getD ([],[])).2 Kf)(h:(Aju g n k xs tl ol).isSome=true:=by kernel_rfl):XW P G g k xs tl ol Kf:=by
 have ⟨r,hr⟩:=Option.isSome_iff_exists.1 h;rw[hr]at hk;exact A0t n k xs tl ol r hr hk
noncomputable def Ar3(g:Nat):Nat->Nat->List X->List (Nat×AV)->List (Oid×Option Ob)->Option TL
 | 0,_,_,tl,_=>some tl
 | _+1,_,[],_,_=>none
 | n+1,k,x :: xs,tl,ol=>match Bd (g+k) x (Ap tl) (Am ol) with
  | some (_,v,[])=>Ar3 g n (k+1) xs (Asp x.dst v tl) ol
  | _=>none
theorem A0n {P:Program} {G:WP} {g:Nat} {ol:OL} {Kf:List (Nat×AV)->List (Oid×Option Ob)->Prop}:∀ (n k:Nat) (xs:List X) (tl:TL) (r:TL),Ar3 g n k xs tl ol=some r->XW P G g (k+n) (xs.drop n) r ol Kf->XW P G g k xs tl ol Kf
 | 0,k,xs,tl,r,h,hk=>by
  cases h;exact hk
 | n+1,k,[],tl,r,h,hk=>by cases h
 | n+1,k,x :: xs,tl,r,h,hk=>by
  simp only [Ar3] at h;split at h
  next c v hst=>obtain ⟨rs,tl',ol',h1,h2⟩:=A0n (P:=P) (G:=G) n (k+1) xs _ r h (by rw [show k+1+n=k+(n+1) by omega];exact hk);exact ⟨(c,v,[]) :: rs,tl',ol',⟨_,_,rfl,Ho hst,by rw [Aoa];exact h1⟩,h2⟩
  ·cases h
theorem rsT{P:Program}{G:WP}{g k:Nat}{xs:List X}{tl:TL}{ol:OL}{Kf:List (Nat×AV)->List (Oid×Option Ob)->Prop}(n:Nat)(hk:XW P G g (k+n) (xs.drop n) ((Ar3 g n k xs tl ol).getD []) ol Kf)(h:(Ar3 g n k xs tl ol).isSome=true:=by kernel_rfl):XW P G g k xs tl ol Kf:=by
 have ⟨r,hr⟩:=Option.isSome_iff_exists.1 h;rw[hr]at hk;exact A0n n k xs tl r hr hk
noncomputable def Am6(g:Nat):Nat->Nat->List X->List (Nat×AV)->List (Oid×Option Ob)->List Rec->List (List Oid)->Option (List (Nat×AV)×List Rec×List (List Oid))
 | 0,_,_,tl,_,ra,da=>some (tl,ra,da)
 | _+1,_,[],_,_,_,_=>none
 | n+1,k,x :: xs,tl,ol,ra,da=>match Bd (g+k) x (Ap tl) (only (rdX (Ap tl) (Am ol) x) (Am ol)) with
  | some (c,v,[])=>Am6 g n (k+1) xs (Asp x.dst v tl) ol ((c,v,[]) :: ra) (rdX (Ap tl) (Am ol) x :: da)
  | _=>none
theorem A0k {P:Program} {G:WP} {g:Nat} {ol:OL} {bad:List (Nat×Nat)} {Kf:List (Nat×AV)->List (Oid×Option Ob)->Prop}:∀ (n k:Nat) (xs:List X) (tl:TL) (ra:List Rec) (da:List (List Oid)) (r:List (Nat×AV)×List Rec×List (List Oid)),Am6 g n k xs tl ol ra da=some r->XD P G bad g (k+n) (xs.drop n) r.1 ol r.2.1 r.2.2 Kf->XD P G bad g k xs tl ol ra da Kf
 | 0,k,xs,tl,ra,da,r,h,hk=>by
  cases h;exact hk
 | n+1,k,[],tl,ra,da,r,h,hk=>by cases h
 | n+1,k,x :: xs,tl,ra,da,r,h,hk=>by
  simp only [Am6] at h;split at h
  ·rename_i c v hst;obtain ⟨rs,ds,tl',ol',h1,hb,h2⟩:=A0k (P:=P) (G:=G) n (k+1) xs _ _ _ r h (by rw [show k+1+n=k+(n+1) by omega];exact hk);refine ⟨(c,v,[]) :: rs,rdX (Ap tl) (Am ol) x :: ds,tl',ol',⟨_,_,_,rfl,rfl,Ho hst,by rw [Aoa];exact h1⟩,?_,h2⟩
   simpa using hb
  ·cases h
theorem dsT{P:Program}{G:WP}{g k:Nat}{xs:List X}{tl:TL}{ol:OL}{bad:List (Nat×Nat)}{ra:List Rec}{da:List (List Oid)}{Kf:List (Nat×AV)->List (Oid×Option Ob)->Prop}(n:Nat)(hk:XD P G bad g (k+n) (xs.drop n) ((Am6 g n k xs tl ol ra da).getD ([],[],[])).1 ol ((Am6 g n k xs tl ol ra da).getD ([],[],[])).2.1 ((Am6 g n k xs tl ol ra da).getD ([],[],[])).2.2 Kf)(h:(Am6 g n k xs tl ol ra da).isSome=true:=by kernel_rfl):XD P G bad g k xs tl ol ra da Kf:=by
 have ⟨r,hr⟩:=Option.isSome_iff_exists.1 h;rw[hr]at hk;exact A0k n k xs tl ra da r hr hk
theorem Ae{P:Program}{G:WP}{g:Nat}{xs:List X}{bad:List (Nat×Nat)}{y:AC}{R:AE->St->Prop}{tl:TL}{ol:OL}(h:awp P G y R ⟨Ap ((Aju g xs.length 0 xs tl ol).getD ([],[])).1,Am ((Aju g xs.length 0 xs tl ol).getD ([],[])).2,g+xs.length⟩)(hs:(Aju g xs.length 0 xs tl ol).isSome=true:=by kernel_rfl):awp P G (.seq (.region xs false bad) y) R ⟨Ap tl,Am ol,g⟩:=by
 refine Ab<|Aa (g+xs.length) (rsB xs.length (by rw[drop_length];exact Ao<|tn_ ⟨_,WeakG.refl _,h⟩) hs) rfl
theorem Af7 {i:Oid} {ob:OF}:only [i] ob i=ob i:=fW (mem_singleton.2 rfl)
section
variable{n:Nat}{d:Option Nat}{f:TF}{ob:OF}{ol:OL}
theorem Ff{x:Opd}{o p:Oid}{e1:TypeId}{u:Ty}{xss:List (List u.D)}{row:List u.D}{j:Nat}(hx:x.ev f=.elt o j 0)(hob:ob o=some (.vec e1 1 xss.length (hdL p u xss)))(hr:xss[j]? =some row):Bd n ⟨d,none,.i (.ld true 1 x)⟩ f ob=some (1,.own (kid p j) u 0 row.length,[]):=by
 have h:(hdL p u xss)[j*1+0]? =some (.own (kid p j) u 0 row.length):=by rw[Fx];simp[hr]
 simp only[Nat.mul_one,Nat.add_zero]at h;simp[Bd,ev,evN,evR,hx,hob,Dw,h]
theorem Aft{x y:Opd}{o:Oid}{e1:TypeId}{m:Nat}{cs:LA}{v:AV}{j:Nat}(hx:x.ev f=.elt o j 0)(hob:ob o=some (.vec e1 1 m cs))(hy:y.ev f=v)(hv:v.one=true)(hj:j<cs.length):Bd n ⟨d,none,.st true 1 x y⟩ f ob=some (2,.any,[(o,none),(o,some (.vec e1 1 m (cs.set j v)))]):=by
 simp[Bd,ev,Agj,hx,hob,hy,K4,hv,hj]
theorem Iz{x y:Opd}{o q:Oid}{e1 e2:TypeId}{u:Ty}{t':Ty}{b:Nat}{p:Oid}{xss:List (List u.D)}{cs:LA}{len:Nat}(hx:x.ev f=.own o t' 0 len)(hob:ob o=some (.vec e1 1 xss.length (hdL p u xss)))(hl:len=xss.length){t2:Ty}(hy:y.ev f=.own q t2 0 1)(hq:ob q=some (.vec e2 1 1 cs))(hc:cs.length=1)(h:xss.length+1<=1073741824/\(xss.length+1)*b<=140737488355328):
  Bd n ⟨d,none,.appV e1 (.slice u) b x y⟩ f ob=some (2,.own (o.1,n) (.slice u) 0 (xss.length+1),[(o,none),((o.1,n),some (.vec e1 1 (xss.length+1) (hdL p u xss++cs)))]):=by
 subst hl;have h1:List.take (xss.length*1) (hdL p u xss)=hdL p u xss:=by rw[Nat.mul_one];exact take_of_length_le (by rw[Dy];exact fQ _)
 have h2:List.take (1*1) (List.drop (0*1) cs)=cs:=by simp only[Nat.zero_mul,drop_zero,Nat.mul_one];exact take_of_length_le oM
 simp only[Bd,ev,Ms,hx,hy,Wv,hq,hob,Ty.size,true_and,fE,fQ,if_true,h1,h2,h.1,h.2,and_self]
theorem Co{i:Oid}{e:TypeId}{t:Ty}{sz:Nat}{xs:List Opd}{r:Rec}(h:(Ahv f i e t sz xs).map (fun r=>((1:Nat),r.1,r.2))=some r):evL f i (.mkV e t sz xs)=some r:=by
 simp only[evL];cases hq:Ahv f i e t sz xs with
 | none=>rw[hq]at h;cases h
 | some q=>rw[hq]at h;have ⟨v,us⟩:=q;exact h
theorem Acs{i:Oid}{e:TypeId}(e':TypeId){u:Ty}{b:Nat}{x y:Opd}{k k':IntKind}{m c:Int}{j:Nat}(hx:x.ev f=.int k m)(hy:y.ev f=.int k' c)(h:0<=m/\m<=c/\c<=1073741824/\(b:Int)*c<=140737488355328)(hfl:u.flat=true)(hj:m.toNat=j):
  Akt f i (.makeV e (.slice u) b [.nils] x y) (1,RV.out ⟨false,[(false,[.newM e e' u (replicate j [])])]⟩ (C3 i) []):=by
 subst hj;exact ⟨e,e',u,b,x,y,k,k',m,c,rfl,hx,hy,h,hfl,rfl⟩
theorem Av8{i:Oid}{e e':TypeId}{u:Ty}{xss:List (List u.D)}(h:P4 i.2 ol=true):A3 (RV.out ⟨false,[(false,[.newM e e' u xss])]⟩ (C3 i) []).2 (Am ol)=Am ((C3 i 0,some (.mat e (C3 i 0) u xss)) :: (C3 i 0,some (.pool e' u xss)) :: ol):=by
 have e0:(RV.out ⟨false,[(false,[.newM e e' u xss])]⟩ (C3 i) []).2=(C3 i 0,some<|.vec e 1 xss.length<|hdL (C3 i 0) u xss) :: (Afu (C3 i 0) e' u xss++[]):=rfl;rw[e0,append_nil];show A3 (Afu (C3 i 0) e' u xss) (upd (Am ol) (C3 i 0)<|some<|.vec e 1 xss.length<|hdL (C3 i 0) u xss)=_
 rw[Ji rfl,Ak8 (fun k=>by
  have:Am ((C3 i 0,some<|.vec e 1 xss.length<|hdL (C3 i 0) u xss) :: ol) (kid (C3 i 0) k)=if kid (C3 i 0) k=C3 i 0 then some (.vec e 1 xss.length<|hdL (C3 i 0) u xss) else Am ol (kid (C3 i 0) k):=by simp only[Am]
  rw[this,fB (fun e=>by have:=congrArg (fun i:Oid=>i.1.2) e;simp[kid,C3]at this)];exact Sp h _ rfl)]
 funext j;have h2:∀ j,Am ((C3 i 0,some<|.vec e 1 xss.length<|hdL (C3 i 0) u xss) :: ol) j=if j=C3 i 0 then some (.vec e 1 xss.length<|hdL (C3 i 0) u xss) else Am ol j:=fun j=>by simp only[Am]
 rw[Sf,Pp,Pp,h2];by_cases hj:j=C3 i 0
 ·subst hj;rw[fW rfl,fB (fun h=>h.2.2 rfl),fW rfl]
 ·rw[fB hj,fB hj]
end
section
variable{P:Program}{G:WP}{g k d:Nat}{gd:Option (Nat×Bool)}{q:Q}{xs:List X}{tl:TL}{ol:OL}{bad:List (Nat×Nat)}{ra:List Rec}{da:List (List Oid)}{Kf:List (Nat×AV)->List (Oid×Option Ob)->Prop}
theorem Hd(v:AV)(i:Oid)(o:Ob)(hgd:Sq gd (Ap tl))(h:evL (Ap tl) ((d,0),g+k) q=some (1,v,[(i,some o)]))(h3:XW P G g (k+1) xs ((d,v) :: tl) ((i,some o) :: ol) Kf)(hx:P5 (some o)=true:=by rfl):XW P G g k (⟨some d,gd,q⟩ :: xs) tl ol Kf:=Aem 1 v _ (Ayr (d:=some d) hgd h) h3 (by simp only[Eo,all_cons,all_nil,hx];rfl)
theorem Ajw(v:AV)(i:Oid)(o:Ob)(hgd:Sq gd (Ap tl))(h:evL (Ap tl) ((d,0),g+k) q=some (1,v,[(i,some o)]))(h3:XD P G bad g (k+1) xs ((d,v) :: tl) ((i,some o) :: ol) ((1,v,[(i,some o)]) :: ra) ((rdX (Ap tl) (Am ol) ⟨some d,gd,q⟩) :: da) Kf)(hx:P5 (some o)=true:=by rfl):XD P G bad g k (⟨some d,gd,q⟩ :: xs) tl ol ra da Kf:=Aba 1 v _ (Ayr (d:=some d) hgd h) h3 (by simp only[Eo,all_cons,all_nil,hx];rfl)
theorem Ai3(v:AV)(i:Oid)(e e':TypeId)(u:Ty)(xss:List (List u.D))(hgd:Sq gd (Ap tl))(h:Akt (Ap tl) ((d,0),g+k) q (1,RV.out ⟨false,[(false,[.newM e e' u xss])]⟩ (C3 ((d,0),g+k)) []))(hi:C3 ((d,0),g+k) 0=i)(hv:AV.own i (.slice u) 0 xss.length=v)(hn:P4 (g+k) ol=true)(h3:XW P G g (k+1) xs ((d,v) :: tl) ((i,some (.mat e i u xss)) :: (i,some (.pool e' u xss)) :: ol) Kf):XW P G g k (⟨some d,gd,q⟩ :: xs) tl ol Kf:=by
 subst hi hv;exact Aj4 1 _ _ _ (Ax4 (d:=some d) hgd h) (Av8 hn) h3
end
section
variable{ol:OL}{n:Nat}
theorem Tf{α:Type}{g:LA->Option α}:∀{cs:LA} {xs:List α},cs.length=xs.length->(∀(k:Nat) (c:AV) (x:α),cs[k]? =some c->xs[k]? =some x->g [c]=some x)->Ki g 1 xs.length cs=some xs
 | [],[],_,_=>rfl
 | c :: cs,x :: xs,hl,h=>by
  have h0:=h 0 c x rfl rfl;have ih:=Tf (g:=g) (cs:=cs) (xs:=xs) (by simpa using hl) (fun k c x h1 h2=>h (k+1) c x h1 h2);simp only[length_cons,Ki,take_succ_cons,take_zero,drop_succ_cons,drop_zero,h0,ih]
 | [],_ :: _,hl,_=>by simp at hl
 | _ :: _,[],hl,_=>by simp at hl
theorem Ar0{ob:OF}{o p:Oid}{e1 e:TypeId}{u:Ty}{xss:List (List u.D)}{m len:Nat}(ho:ob o=some (.vec e1 1 m (hdL p u xss)))(hm:m=xss.length)(hk:∀ k row,xss[k]? =some row->ob (kid p k)=some (.arr e u row)){t':Ty}(hl:len<=xss.length):Ab2 ob 1 (rdC ob (.slice u)) (.own o t' 0 len)=some (xss.take len):=by
 have h1:(((hdL p u xss).drop<|0*1).take<|len*1)=hdL p u (xss.take len):=by
  simp only[Nat.zero_mul,drop_zero,Nat.mul_one];apply ext_getElem?;intro j;rw[getElem?_take,Fx,Fx,getElem?_take];split <;> rfl
 have hlen:(xss.take len).length=len:=by rw[length_take];omega
 simp only[Ab2,ho];rw[fW ⟨trivial,by omega⟩,h1]
 have:=Tf (g:=rdC ob<|.slice u) (cs:=hdL p u<|xss.take len) (xs:=xss.take len) Dy (fun k c x hc hx=>by
  rw[Fx,hx]at hc;cases hc;rw[getElem?_take]at hx;split at hx
  ·have:=hk k x hx;simp only[rdC,E6,this,fE,fQ,if_true,Ty.eq?_self,Cx,drop_zero,take_length]
  ·cases hx)
 rw[hlen]at this;exact this
theorem Tl{ob:OF}{o p:Oid}{e1 e:TypeId}{u:Ty}{xss:List (List u.D)}{len:Nat}(ho:ob o=some (.vec e1 1 xss.length (hdL p u xss)))(hk:∀ k row,xss[k]? =some row->ob (kid p k)=some (.arr e u row))(hl:len=xss.length):gnd ob (n+1) (.own o (.slice u) 0 len)=some (.tree (.slice u) xss):=by
 subst hl;have:=Ar0 (t':=.slice u) ho rfl hk<|fQ _;rw[take_length]at this;simp only[gnd,ho,Ty.size,this,Option.map_some]
theorem Ey{p:Oid}{e:TypeId}{u:Ty}{xss:List (List u.D)}(h:Gg ol p=some (.pool e u xss)):∀ k row,xss[k]? =some row->Am ol (kid p k)=some (.arr e u row):=fun _ _ hx=>Bp h hx
def Ahi(U:Oid->Oid)(ol0:List (Oid×Ob))(i:Oid):Bool:=ol0.all fun q=>if q.2.isPool then !(i.1.1==(U q.1).1.1&&(i.2==(U q.1).2&&i.1.2 !=0)) else i !=U q.1
theorem K6{l:List (Oid×Oid)}{ob:OF}{ol0:List (Oid×Ob)}{i:Oid}(hl:T6 l=true)(h0:Ix ol0=true)(h:Ahi (Bl l) ol0 i=true):Yu ((nmL ol0).map (Bl l)) ob i=ob i:=by
 unfold Yu;rw[fB];intro hm;obtain ⟨j,hj,rfl⟩:=mem_map.1 hm;obtain ⟨q,hq,rfl⟩:=mem_map.1 hj;unfold Ahi at h;rw[all_eq_true]at h;unfold Ix at h0;rw[all_eq_true]at h0;rcases Kb hq with ⟨p,e,u,xss,k,row,m1,m2,rfl⟩|⟨o,m1,m2,m3⟩
 ·have:=h _ m1;have hz:=h0 _ m1;simp only[fT,fF]at hz;rw[Mh hl hz.1]at this;simp[Ob.isPool,kid]at this
 ·have:=h _ m1;simp[m2]at this
theorem Aaq{l:List (Oid×Oid)}{ob:OF}{ol0:List (Oid×Ob)}{p:Oid}{e:TypeId}{u:Ty}{xss:List (List u.D)}(hl:T6 l=true)(h0:Ix ol0=true)(hk:∀ k row,xss[k]? =some row->ob (kid p k)=some (.arr e u row))(hn:(ol0.all fun q=> !((Bl l q.1).1.1==p.1.1&&((Bl l q.1).2==p.2)))=true):∀ k row,xss[k]? =some row->Yu ((nmL ol0).map (Bl l)) ob (kid p k)=some (.arr e u row):=by
 intro k row hx;rw[K6 hl h0,hk k row hx];unfold Ahi;rw[all_eq_true]at hn ⊢;intro q hq;have:=hn q hq;simp only[Bool.not_eq_true',Bool.and_eq_false_iff,fU,ne_eq]at this;split
 ·simp only[Bool.not_eq_true',Bool.and_eq_false_iff,fU,ne_eq,kid];rcases this with h|h
  ·exact .inl fun e=>h e.symm
  ·exact .inr (.inl fun e=>h e.symm)
 ·simp only[bne_iff_ne,ne_eq];intro e;rw[← e]at this;rcases this with h|h <;> exact h rfl
theorem Api{l:List (Oid×Oid)}{i:Oid}{ol us:List (Oid×Ob)}(hB:Aoi ol us=true):∀ u∈J2 (Bl l) i ol us,u.1.2=i.2∨u.1∈(nmL ol).map (Bl l):=by
 intro u hu;rcases mem_append.1 hu with hu|hu
 ·obtain ⟨q,hq,rfl⟩:=mem_map.1 hu;exact .inr<|mem_map.2 ⟨q.1,mem_map.2 ⟨q,hq,rfl⟩,rfl⟩
 ·obtain ⟨q,hq,rfl⟩:=mem_map.1 hu;rcases Ajp hB q hq with h|⟨h,h'⟩
  ·exact .inl (by simp[Cf,h])
  ·exact .inr<|mem_map.2 ⟨q.1,h',by simp[Cf,h]⟩
def Ap2(l:List (Oid×Oid))(i:Oid)(ol us:List (Oid×Ob))(r:Rec)(d:List Oid):Bool:=T6 l&&(Ix ol&&(Aoi ol us&&((d.all fun x=>x.2 !=i.2&&Ahi (Bl l) ol x)&&((r.2.2.all fun u=>u.1.2 !=i.2&&Ahi (Bl l) ol u.1)&&r.1 !=2))))
theorem Als{l:List (Oid×Oid)}{ol:List (Oid×Ob)}{i:Oid}(hl:T6 l=true)(h0:Ix ol=true)(h:Ahi (Bl l) ol i=true):i∉(nmL ol).map (Bl l):=by
 intro hm;have:=K6 (ob:=fun _=>some<|.map 0 .int []) hl h0 h;unfold Yu at this;rw[fW hm]at this;cases this
theorem Ad6{l:List (Oid×Oid)}{i:Oid}{ol us:List (Oid×Ob)}{r:Rec}{d:List Oid}(h:Ap2 l i ol us r d=true):(∀ u∈J2 (Bl l) i ol us,u.1∉d)/\(∀ u∈J2 (Bl l) i ol us,∀ v∈r.2.2,u.1≠v.1)/\r.1≠2:=by
 simp only[Ap2,fT,bne_iff_ne,ne_eq]at h;have ⟨h1,h2,h3,h4,h5,h6⟩:=h;rw[all_eq_true]at h4 h5;refine ⟨fun u hu hd=>?_,fun u hu v hv e=>?_,h6⟩
 ·have:=h4 _ hd;simp only[fT,bne_iff_ne,ne_eq]at this;rcases Api h3 u hu with h|h
  ·exact this.1 h
  ·exact Als h1 h2 this.2 h
 ·have:=h5 _ hv;simp only[fT,bne_iff_ne,ne_eq]at this;rcases Api h3 u hu with h|h
  ·exact this.1 (by rw[← e];exact h)
  ·exact Als h1 h2 this.2 (by rw[← e];exact h)
theorem Zz{l:List (Oid×Oid)}{i:Oid}{ol us:List (Oid×Ob)}{v:AV}{rj:Rec}{di dj:List Oid}(h:Ap2 l i ol us rj dj=true):S6 (2,v,J2 (Bl l) i ol us) rj di dj:=by
 have ⟨h1,h2,h3⟩:=Ad6 h;exact .inr ⟨fun _=>h1,fun e=>absurd e h3,h2⟩
theorem Amv{l:List (Oid×Oid)}{i:Oid}{ol us:List (Oid×Ob)}{v:AV}{ri:Rec}{di dj:List Oid}(h:Ap2 l i ol us ri di=true):S6 ri (2,v,J2 (Bl l) i ol us) di dj:=by
 have ⟨h1,h2,h3⟩:=Ad6 h;exact .inr ⟨fun e=>absurd e h3,fun _=>h1,fun u hu v hv e=>h2 v hv u hu e.symm⟩
def Avl(zs:LA)(ob:OF)(U:Oid->Oid):List (Oid×Ob)->Prop
 | []=>True
 | q :: r=>(match q.2 with
  | .pool _ _ xss=>∀ k,k<xss.length->Reached zs ob (kid (U q.1) k)
  | _=>Reached zs ob (U q.1))/\Avl zs ob U r
theorem Bb{zs:LA}{ob:OF}{l:List (Oid×Oid)}(hl:T6 l=true):∀{ol:List (Oid×Ob)},Ix ol=true->Avl zs ob (Bl l) ol->∀ j∈nmL ol,Reached zs ob (Bl l j)
 | [],_,_,j,hj=>by cases hj
 | (p,o) :: r,h0,h,j,hj=>by
  simp only[Ix,all_cons,fT,fF]at h0;have ⟨⟨h1,_⟩,h2⟩:=h0;have ih:j∈nmL r->Reached zs ob (Bl l j):=fun hm=>Bb hl (ol:=r) (by simpa [Ix] using h2) h.2 j hm
  cases o with
  | pool e u xss=>
   simp only[nmL,exL,map_append,mem_append]at hj;rcases hj with hj|hj
   ·obtain ⟨q,hq,rfl⟩:=mem_map.1 hj;obtain ⟨⟨row,k⟩,hx,rfl⟩:=mem_map.1 hq;rw[mem_zipIdx_iff_getElem?]at hx;show Reached zs ob (Bl l (kid p k));rw[Mh hl h1];exact h.1 k (gSi.1 hx).1
   ·exact ih hj
  | _=>
   simp only[nmL,exL,map_cons,mem_cons]at hj;rcases hj with rfl|hj
   ·exact h.1
   ·exact ih hj
theorem Cw{zs:LA}{ob:OF}{i:Oid}(h:(AV.nmsL zs).contains i=true):Reached zs ob i:=.arg (contains_iff_mem.1 h)
theorem H5{zs:LA}{ob:OF}{k i:Oid}{ty:TypeId}{cs:LA}(h1:Reached zs ob k)(h2:ob k=some (.cells ty cs))(h:(AV.nmsL cs).contains i=true):Reached zs ob i:=.cells h1 h2 (contains_iff_mem.1 h)
theorem Awj{p:Oid}{u:Ty}{xss:List (List u.D)}{k:Nat}(h:k<xss.length):kid p k∈AV.nmsL (hdL p u xss):=by
 have key:∀ cs:LA,∀ c∈cs,∀ i∈c.nms,i∈AV.nmsL cs:=by
  intro cs
  induction cs with
  | nil=>intro c h;cases h
  | cons x r ih=>
   intro c hc i hi;rcases mem_cons.1 hc with rfl|hc
   ·exact mem_append_left _ hi
   ·exact mem_append_right _<|ih c hc i hi
 refine key _ (.own (kid p k) u 0 xss[k].length) ?_ _<|mem_singleton.2 rfl;apply mem_iff_getElem?.2;exact ⟨k,by rw[Fx,gEg h];rfl⟩
theorem K0{zs:LA}{ob:OF}{o p:Oid}{e1:TypeId}{m:Nat}{u:Ty}{xss:List (List u.D)}(h1:Reached zs ob o)(h2:ob o=some (.vec e1 1 m (hdL p u xss))):∀ k,k<xss.length->Reached zs ob (kid p k):=fun _ hk=>.vec h1 h2 (Awj hk)
end
theorem Ajg{L:List Oid}{l:List (Oid×Oid)}{xs:List (Oid×Ob)}(h:(xs.all fun q=>L.contains (Bl l q.1))=true):∀ q∈xs,Bl l q.1∈L:=fun q hq=>by
 have:=all_eq_true.1 h q hq
 simpa using this
end
section
def NeL(i:Oid):List Oid->Prop
 | []=>True
 | x :: r=>x≠i/\NeL i r
theorem Ax5{L M:List Oid}{ob:OF}{i:Oid}(hL:M=L)(h:NeL i L):Yu M ob i=ob i:=by
 subst hL;unfold Yu;rw[fB];intro hm
 induction M with
 | nil=>cases hm
 | cons x r ih=>
  rcases mem_cons.1 hm with rfl|hm
  ·exact h.1 rfl
  ·exact ih h.2 hm
theorem Azt{p:Oid}{j k:Nat}(h:j≠k):kid p j≠kid p k:=fun e=>h (Gr e)
theorem K9{L:List Oid}{ob:OF}{i:Oid}(h:i∈L):only L ob i=ob i:=fW h
theorem Rr{f:TF}{ob:OF}{d:Option Nat}{gd:Option (Nat×Bool)}{fo y:Opd}{ys:List Opd}{tys:List (List (Option Ty))}{i:Oid}{t:Ty}{off len:Nat}(n:Nat)(hy:ys[n]? =some y)(he:y.ev f=.own i t off len):i∈rdX f ob ⟨d,gd,.call fo ys tys⟩:=by
 refine mem_flatMap.2 ⟨y,mem_cons_of_mem _<|mem_of_getElem? hy,?_⟩;rw[he];show i∈Wi ob (7+1) (.own i t off len);unfold Wi;dsimp only;split <;> simp
theorem Ay0{L:List Oid}{l:List (Oid×Oid)}:∀ q∈exL [],Bl l q.1∈L:=fun _ h=>by cases h
theorem Az2{L:List Oid}{l:List (Oid×Oid)}{i:Oid}{e:TypeId}{t:Ty}{xs:List t.D}{r:List (Oid×Ob)}(h:Bl l i∈L)(hr:∀ q∈exL r,Bl l q.1∈L):∀ q∈exL ((i,.arr e t xs) :: r),Bl l q.1∈L:=fun q hq=>by
 rcases mem_cons.1 hq with rfl|hq
 ·exact h
 ·exact hr q hq
theorem A00{ob:OF}{o:Oid}{e1:TypeId}{sz m n:Nat}{cs:LA}(h:ob o=some (.vec e1 sz n cs))(e:m=n):ob o=some (.vec e1 sz m cs):=by rw[e];exact h
theorem Apr{α:Type}{xs:List α}{k:Nat}(h:k<=xs.length):k=(xs.take k).length:=by rw[length_take];omega
theorem Aq3{G:WP}{S:St}{o:Oid}{e1:TypeId}{sz n k:Nat}{cs:LA}(ho:S.ob o=some (.vec e1 sz n cs))(hk:k<=n):WeakG G S ⟨S.tm,upd S.ob o (some (.vec e1 sz k (cs.take (k*sz)))),S.gen⟩:=by
 intro w0 B N a w hr;have ⟨C,hm,hf,hB⟩:=hr.ex
 have was:∀ i x,upd S.ob o (some<|.vec e1 sz k<|cs.take<|k*sz) i=some x->∃ y,S.ob i=some y:=fun i x hx=>by
  by_cases h:i=o
  ·subst h;exact ⟨_,ho⟩
  ·rw[A0 _ _ _ _ h]at hx;exact ⟨x,hx⟩
 have hL:Later C C (imm S.ob C) (imm (upd S.ob o<|some<|.vec e1 sz k<|cs.take<|k*sz) C) w w:=⟨fun _ _ h=>h,fun b _ hb i x c s hx hs=>by have ⟨y,hy⟩:=was i x hx;exact hb i y c s hy hs,fun _ _ _=>rfl,fQ _⟩
 refine ⟨⟨C,⟨hm.below,hm.inv,hm.gen,hm.lt,hm.cap,fun i j b c s c' s' x y hx hy e1 e2=>?_,fun i x l hx hl=>?_⟩,fun t=>AV.Rep.later hL _ _<|hf t,hB.trans hL⟩,hr.size,hr.defers,fun i hi=>?_⟩
 ·have ⟨x',hx'⟩:=was i x hx;have ⟨y',hy'⟩:=was j y hy;exact hm.inj i j b c s c' s' x' y' hx' hy' e1 e2
 ·by_cases h:i=o
  ·subst h;have hx:upd S.ob i (some<|.vec e1 sz k<|cs.take<|k*sz) i=some x:=hx;rw[Bh]at hx;cases hx;have ⟨vs,p1,p2,p3,p4⟩:=hm.obs i _ l ho hl;refine ⟨vs.take<|k*sz,p1.take hk (fun g cap e=>?_) (fun e=>?_),(AV.RepL.later hL _ _ p2).take _,fun v hv=>p3 v<|mem_of_mem_take hv,p4⟩
   ·cases l with
    | nil=>cases e
    | at_ b c s=>cases e;rfl
   ·cases l with
    | nil=>rfl
    | at_ b c s=>cases e
  ·have hx:upd S.ob o (some<|.vec e1 sz k<|cs.take<|k*sz) i=some x:=hx;rw[A0 _ _ _ _ h]at hx;exact (hm.obs i x l hx hl).later hL fun _ _ _ _=>rfl
 ·by_cases h:i=o
  ·subst h;exact hr.obg i (by rw[ho];simp)
  ·have hi:upd S.ob o (some<|.vec e1 sz k<|cs.take<|k*sz) i≠none:=hi;rw[A0 _ _ _ _ h]at hi;exact hr.obg i hi
theorem An1{G:WP}{tl:TL}{ol:OL}{g:Nat}(s:Nat)(o p:Oid){e1 e:TypeId}{u:Ty}{xss:List (List u.D)}{n k:Nat}(hfl:u.flat=true)(ho:Am ol o=some (.vec e1 1 n (hdL p u xss)))(hn:n=xss.length)(hp:Gg ol p=some (.pool e u xss))(hk:k<=n)(hpo:(o.1.1==p.1.1&&o.2==p.2&&o.1.2 !=0)=false)(hog:(o.2==g)=false)(hfr:P4 g ((p,some (.pool e u [])) :: ol)=true):
  WeakG G ⟨Ap tl,Am ol,g⟩ ⟨Ap tl,Am ((o,some (.mat e1 ((s,0),g) u (xss.take k))) :: (((s,0),g),some (.pool e u (xss.take k))) :: (p,some (.pool e u [])) :: (o,some (.vec e1 1 k ((hdL p u xss).take k))) :: ol),g+1⟩:=by
 have h1:WeakG G ⟨Ap tl,Am ol,g⟩ ⟨Ap tl,Am ((o,some<|.vec e1 1 k<|(hdL p u xss).take k) :: ol),g⟩:=by
  have:=Aq3 (G:=G) (S:=⟨Ap tl,Am ol,g⟩) ho hk;rw[Nat.mul_one]at this;rw[← Ji rfl];exact this
 refine h1.trans ?_;have hok:∀ j,kid p j≠o:=fun j e=>by rw[← e]at hpo;simp[kid]at hpo
 have hpool:Gg ((o,some<|.vec e1 1 k<|(hdL p u xss).take k) :: ol) p=some (.pool e u xss):=by
  show (if p.1.1=o.1.1/\p.2=o.2/\o.1.2≠0 then none else Gg ol p)=_;rw[fB,hp];rintro ⟨a1,a2,a3⟩;rw[a1,a2]at hpo;simp[a3]at hpo
 refine Ll s o (fun j=>kid p j) [(p,some<|.pool e u [])] hfl (by show Am _ o=_;simp only[Am];rw[fW trivial]) (by rw[length_take];omega) (fun j row hj=>?_) (fun a b _ _ hab=>Gr hab) hog ?_ fun i hi=>?_
 ·rw[getElem?_take]at hj ⊢;split at hj
  next hlt=>rw[fW hlt,Fx,hj];exact ⟨rfl,row,Bp hpool hj,fQ _,(take_length).symm⟩
  ·cases hj
 ·simp only[P4,all_append,all_cons,all_nil,Bool.and_true,fT,bne_iff_ne]at hfr ⊢;exact ⟨hfr.1,by simpa using hog,hfr.2⟩
 ·simp only[cons_append,nil_append,Ng];split
  ·exact .inl rfl
  next h2=>exact .inr ⟨rfl,fun j _ e=>h2 (by rw[e];exact ⟨rfl,rfl,by simp[kid]⟩)⟩
theorem Am7{G:WP}{tl:TL}{ol:OL}{g:Nat}(s:Nat)(o p:Oid){e1 e:TypeId}{u:Ty}{xss:List (List u.D)}{k:Nat}(hfl:u.flat=true)(ho:Am ol o=some (.vec e1 1 k ((hdL p u xss).take k)))(hp:Gg ol p=some (.pool e u xss))(hk:k<=xss.length)(hog:(o.2==g)=false)(hfr:P4 g ((p,some (.pool e u [])) :: ol)=true):
  WeakG G ⟨Ap tl,Am ol,g⟩ ⟨Ap tl,Am ((o,some (.mat e1 ((s,0),g) u (xss.take k))) :: (((s,0),g),some (.pool e u (xss.take k))) :: (p,some (.pool e u [])) :: ol),g+1⟩:=by
 refine Ll s o (fun j=>kid p j) [(p,some<|.pool e u [])] hfl ho (by rw[length_take];omega) (fun j row hj=>?_) (fun a b _ _ hab=>Gr hab) hog hfr fun i hi=>?_
 ·rw[getElem?_take]at hj ⊢;split at hj
  next hlt=>rw[fW hlt,Fx,hj];exact ⟨rfl,row,Bp hp hj,fQ _,(take_length).symm⟩
  ·cases hj
 ·simp only[cons_append,nil_append,Ng];split
  ·exact .inl rfl
  next h2=>exact .inr ⟨rfl,fun j _ e=>h2 (by rw[e];exact ⟨rfl,rfl,by simp[kid]⟩)⟩
section
variable{f:TF}{ob:OF}{n:Nat}{d:Option Nat}
theorem Aqw{sz:Nat}{x hi mx:Opd}{i:Oid}{t:Ty}{len N:Nat}{e:TypeId}{cs:LA}{kh km:IntKind}{h m:Int}{j:Nat}(hx:x.ev f=.own i t 0 len)(hob:ob i=some (.vec e 1 N cs))(hh:hi.ev f=.int kh h)(hm:mx.ev f=.int km m)(hs:t.size=sz)(hb:0<=h/\h<=m/\m<=(len:Int))(hj:h.toNat=j)(hk:j<=N):
  Bd n ⟨d,none,.slice sz x none (some hi) (some mx)⟩ f ob=some (2,.own ((d.getD 0,0),n) t 0 j,[(i,none),(((d.getD 0,0),n),some (.vec e 1 j (cs.take j)))]):=by
 subst hj;simp[Bd,ev,Vw,Md,Fq,hx,hob,hh,hm,hs,hb,Aiu,hk,AV.un]
theorem Aai:∀(n:Nat) (l:List Int),l.length=n+1->T2 ((tyA n).av (Ik n l))=some l
 | 0,[x],_=>rfl
 | 0,[],h=>by cases h
 | 0,_ :: _ :: _,h=>by simp at h
 | n+1,[],h=>by cases h
 | n+1,x :: l,h=>by
  have:=Aai n l (by simpa using h);simp only[tyA,Ik,Ty.av,cons_append,nil_append,tail_cons,getD_cons_zero,T2,this]
theorem Ayz{neg:Bool}{N:Nat}{x y:Opd}{l l':List Int}(hx:x.ev f=.agg ((tyA N).av (Ik N l)))(hy:y.ev f=.agg ((tyA N).av (Ik N l')))(h1:l.length=N+1/\l'.length=N+1):
  Bd n ⟨d,none,.i (.cmp neg (N+4) x y)⟩ f ob=some (0,.bool (if neg then !(l==l') else l==l'),[]):=by
 have e1:=Aai N l h1.1;have e2:=Aai N l' h1.2;have e3:=T4 N l;simp[Bd,ev,evN,Abf,Ah9,hx,hy,AV.un,e1,e2,e3,h1]
end
end
section
inductive Ctl(C ρ:Type) where
 | next (s:C)
 | out (r:ρ)
def Ctl.then{C β:Type}(k:C->Option β):Ctl C β->Option β
 | .next t=>k t
 | .out r=>some r
section
variable{α β C τ ρ:Type}
def og(c:Prop)[Decidable c](k:Option α):Option α:=if c then k else none
theorem Aj{c:Prop}[Decidable c]{k:Option α}{r:α}(h:og c k=some r):c/\k=some r:=by
 unfold og at h;split at h
 next hc=>exact ⟨hc,h⟩
 ·cases h
theorem Af{c:Prop}[Decidable c](h:c)(k:Option α):og c k=k:=fW h
theorem Ah{o:Option α}{f:α->Option β}{b:β}(h:o.bind f=some b):∃ a,o=some a/\f a=some b:=Option.bind_eq_some_iff.1 h
theorem A5{c:Bool}{a b:Option α}{r:α}(h:cond c a b=some r):(c=true/\a=some r)∨(c=false/\b=some r):=by
 cases c
 ·exact .inr ⟨rfl,h⟩
 ·exact .inl ⟨rfl,h⟩
def Dg(a:Option (Ctl τ β))(k:τ->Option β):Option β:=
 a.bind (Ctl.then k)
theorem Aqv{a:Option (Ctl τ β)}{k:τ->Option β}{r:β}(h:Dg a k=some r):∃ v,a=some v/\Ctl.then k v=some r:=Ah h
def Aq(body:C->Option (Ctl C ρ)):Nat->C->Option ρ
 | 0,_=>none
 | n+1,s=>(body s).bind (Ctl.then (Aq body n))
theorem Ant{body:C->Option (Ctl C ρ)}{n:Nat}{s:C}{v:ρ}(h:Aq body (n+1) s=some v):∃ c,body s=some c/\Ctl.then (Aq body n) c=some v:=Ah h
theorem Amr{body:C->Option (Ctl C ρ)}{s:C}{v:ρ}(h:Aq body 0 s=some v):False:=by cases h
def Bz(xs:List α)(n:Int):Option α:=if 0<=n then xs[n.toNat]? else none
theorem Ai{xs:List α}{k:Nat}{x:α}(h:xs[k]? =some x):k<xs.length:=(gSi.1 h).1
theorem Ar{xs:List α}{n:Int}{x:α}(h:Bz xs n=some x):0<=n/\n<xs.length/\xs[n.toNat]? =some x:=by
 unfold Bz at h;split at h
 next h0=>have:=Ai h;exact ⟨h0,by omega,h⟩
 ·cases h
theorem B9{xs:List α}{n:Int}(h:0<=n):Bz xs n=xs[n.toNat]?:=fW h
end
section
variable{P:Program}{G:WP}{C τ β ρ:Type}
theorem At4{x y:AC}{R:AE->St->Prop}{S:St}{A:Option τ}{k:τ->Option β}{r:β}(h:A.bind k=some r)(J:τ->St->Prop)(h1:∀ t,A=some t->awp P G x (Jj (fun S'=>∃ S'',WeakG G S' S''/\J t S'') R) S)(h2:∀ t S'',J t S''->k t=some r->awp P G y R S''):awp P G (.seq x y) R S:=by
 have ⟨t,ha,hk⟩:=Ah h;exact Agy (J t) (h1 t ha) fun S'' hj=>h2 t S'' hj hk
theorem Aul{x y:AC}{R:AE->St->Prop}{S:St}{A:Option (Ctl τ β)}{k:τ->Option β}{r:β}(h:Dg A k=some r)(J:τ->St->Prop)
  (h1:∀ v,A=some v->Ctl.then k v=some r->awp P G x (Jj (fun S'=>∃ t S'',v=.next t/\WeakG G S' S''/\J t S'') R) S) (h2:∀ t S'',J t S''->k t=some r->awp P G y R S''):awp P G (.seq x y) R S:=by
 have ⟨v,ha,hk⟩:=Aqv h;refine Agy (fun S''=>∃ t,v=.next t/\J t S'') (D6 (fun e S' hq=>?_)<|h1 v ha hk) fun S'' ⟨t,hv,hj⟩=>?_
 ·cases e with
  | normal=>have ⟨t,S'',hv,hw,hj⟩:=hq;exact ⟨S'',hw,t,hv,hj⟩
  | exit id=>exact hq
  | ret=>exact hq
 ·subst hv;exact h2 t S'' hj hk
theorem Aqz{a:AC}{R:AE->St->Prop}{S:St}{body:C->Option (Ctl C ρ)}{fuel:Nat}{s0:C}{v:ρ}(h:Aq body fuel s0=some v)(J:C->St->Prop)(h0:∃ S0,WeakG G S S0/\J s0 S0)
  (h1:∀ n s S1 c,J s S1->body s=some c->Ctl.then (Aq body n) c=some v->awp P G a (Jj (fun S2=>∃ s' S3,WeakG G S2 S3/\J s' S3/\Aq body n s'=some v) R) S1):awp P G (.loop a) R S:=by
 have ⟨S0,hw,hj⟩:=h0;refine Ard (fun (p:Nat×C) S=>Aq body p.1 p.2=some v/\J p.2 S) (·.1) ⟨(fuel,s0),S0,hw,h,hj⟩ ?_;rintro ⟨n,s⟩ S1 ⟨hl,hj⟩;cases n with
 | zero=>exact (Amr hl).elim
 | succ n=>
  have ⟨c,hc,hn⟩:=Ant hl;refine D6 (fun e S2 hq=>?_)<|h1 n s S1 c hj hc hn;cases e with
  | normal=>have ⟨s',S3,hw,hj,hl⟩:=hq;exact ⟨(n,s'),S3,hw,⟨hl,hj⟩,Nat.lt_succ_self n⟩
  | exit id=>exact hq
  | ret=>exact hq
end
theorem D7(n:Nat):0<=(n:Int):=by omega
end
section
def Fo(a0:Int):Option Bool:=some (isF a0)
def Abp(r:Bool):RV:=⟨false,[(false,[.sc (.bool r)])]⟩
theorem Ox{a0:Int}{r:Bool}(h:Fo a0=some r):Da Tryz.prog Tab 106 [.int .i64 a0] (Abp r):=by
 cases h;intro w im vs hG hr;obtain ⟨u1,_,rfl,h1,h2⟩:=hr;obtain rfl:_=[]:=h2;obtain rfl:u1=.int .i64 a0:=h1;refine (Alz a0 w<|hG w<|Below.refl _ _).mono ?_;rintro e w' ⟨rfl,rfl⟩;exact ⟨_,rfl,Below.refl _ _,[_],[],⟨_,[],rfl,rfl,rfl,rfl,rfl⟩,⟨trivial,fun _=>rfl⟩,rfl⟩
end
section
theorem Azq{f:TF}{ob:OF}{d:Option Nat}{gd:Option (Nat×Bool)}{fo y:Opd}{ys:List Opd}{tys:List (List (Option Ty))}{i p:Oid}{t u:Ty}{off len z m k:Nat}{e1:TypeId}{xss:List (List u.D)}(n:Nat)(hy:ys[n]? =some y)(he:y.ev f=.own i t off len)(hob:ob i=some (.vec e1 z m (hdL p u xss)))(hk:k<xss.length):kid p k∈rdX f ob ⟨d,gd,.call fo ys tys⟩:=by
 refine mem_flatMap.2 ⟨y,mem_cons_of_mem _<|mem_of_getElem? hy,?_⟩;rw[he];show kid p k∈Wi ob (7+1) (.own i t off len);unfold Wi;dsimp only;rw[hob];refine mem_cons_of_mem _ (mem_flatMap.2 ⟨.own (kid p k) u 0 xss[k].length,mem_of_getElem? (i:=k) (by rw[Fx,gEg hk];rfl),?_⟩);exact mem_singleton.2 rfl
theorem Aez{f:TF}{ob:OF}{d:Option Nat}{gd:Option (Nat×Bool)}{fo y:Opd}{ys:List Opd}{tys:List (List (Option Ty))}{i p:Oid}{t u:Ty}{off len z m:Nat}{e e1:TypeId}{xss:List (List u.D)}(n:Nat)(hy:ys[n]? =some y)(he:y.ev f=.own i t off len)(hob:ob i=some (.vec e1 z m (hdL p u xss)))(hr:∀(k:Nat) (row:List u.D),xss[k]? =some row->ob (kid p k)=some (.arr e u row))(k:Nat)(row:List u.D)(h:xss[k]? =some row):only (rdX f ob ⟨d,gd,.call fo ys tys⟩) ob (kid p k)=some (.arr e u row):=(K9 (Azq n hy he hob (gSi.1 h).1)).trans (hr k row h)
end
section
theorem Adz:∀(n:Nat) (l:List Int),l.length=n+1->(tyA n).av (Ik n l)=l.map (AV.int .i64)
 | 0,[x],_=>rfl
 | 0,[],h=>by cases h
 | 0,_ :: _ :: _,h=>by simp at h
 | n+1,[],h=>by cases h
 | n+1,x :: l,h=>by
  have:=Adz n l (by simpa using h);simp only[tyA,Ik,Ty.av,tail_cons,this];rfl
theorem Ayf{vs:LV}{ob:OF}:∀(n:Nat) (l:List Int),LeavesR vs ob ((tyA n).av (Ik n l)) (((tyA n).av (Ik n l)).map .sc)
 | 0,_=>E9 (Asx rfl) X1
 | n+1,l=>E9 (Asx rfl) (Ayf n l.tail)
section
variable{n:Nat}{d:Option Nat}{f:TF}{ob:OF}
theorem A0p{N:Nat}{x:Opd}{i:Oid}{j:Nat}{e:TypeId}{xs:List (tyA N).D}(hx:x.ev f=.elt i j 0)(hob:ob i=some (.arr e (tyA N) xs))(hs:(tyA N).size=N+1):Bd n ⟨d,none,.slA (N+1) x⟩ f ob=some (1,.sla i j (N+1),[]):=by
 simp[Bd,ev,Aot,hx,hob,hs]
theorem Awa{N:Nat}{x y:Opd}{i:Oid}{e:TypeId}{l ys zs:List Int}(hx:x.ev f=.sla i 0 (N+1))(hy:E6 ob .int (y.ev f)=some ys)(hob:ob i=some (.arr e (tyA N) [Ik N l]))(hs:(tyA N).size=N+1)(hl:l.length=N+1)(hz:ys.take (N+1)++l.drop (ys.take (N+1)).length=zs):
  Bd n ⟨d,none,.copy x y⟩ f ob=some (2,.int .i64 ((ys.take (N+1)).length:Nat),[(i,none),(i,some (.arr e (tyA N) [Ik N zs]))]):=by
 subst hz
 have hzl:(ys.take (N+1)++l.drop (ys.take<|N+1).length).length=N+1:=by
  simp only[length_append,length_take,length_drop];omega
 have h1:=Adz N l hl;have h2:=Adz N _ hzl;have h3:=Aap N<|ys.take (N+1)++l.drop (ys.take<|N+1).length;have h4:(ys.take<|N+1).length<=N+1:=by rw[length_take];omega
 have hc:K4 false (ys.take<|N+1).length 0 ((tyA N).av<|Ik N l) (.agg<|(ys.take<|N+1).map<|AV.int .i64)=some ((tyA N).av<|Ik N<|ys.take (N+1)++l.drop (ys.take<|N+1).length):=by
  rw[h1,h2];generalize ys.take (N+1)=z at h4 ⊢;have h5:(z.map<|AV.int .i64).all AV.one=true:=by rw[all_eq_true];intro a ha;obtain ⟨b,_,rfl⟩:=mem_map.1 ha;rfl
  simp only[K4,Bool.false_eq_true,if_false,length_map,fE,take_zero,nil_append,map_append,map_drop];rw[fW (by first|exact ⟨rfl,by omega,h5⟩|exact ⟨trivial,by omega,h5⟩)]
 have e1:Tg f ob x y=some (.int .i64 ((ys.take<|N+1).length:Nat),[(i,none),(i,some<|.arr e (tyA N) [Ik N (ys.take (N+1)++l.drop (ys.take<|N+1).length)])]):=by
  unfold Tg;rw[hx];dsimp only;rw[hy];dsimp only;rw[hob];dsimp only[getElem?_cons_zero];rw[hc];dsimp only;rw[h3];dsimp only;rw[fW hs];rfl
 simp only[Bd,ev,e1]
end
end
section
theorem Axw{n:Nat}{ob:OF}{o p:Oid}{e1 e:TypeId}{u:Ty}{xss ys:List (List u.D)}{off len:Nat}(ho:ob o=some (.vec e1 1 xss.length (hdL p u xss)))(hk:∀ k row,xss[k]? =some row->ob (kid p k)=some (.arr e u row))
  (hl:off+len<=xss.length) (hy:(xss.drop off).take len=ys):gnd ob (n+1) (.own o (.slice u) off len)=some (.tree (.slice u) ys):=by
 subst hy;have hlen:((xss.drop off).take len).length=len:=by rw[length_take,length_drop];omega
 have key:Ab2 ob 1 (rdC ob<|.slice u) (.own o (.slice u) off len)=some ((xss.drop off).take len):=by
  simp only[Ab2,ho];rw[fW ⟨trivial,hl⟩]
  have:=Tf (g:=rdC ob<|.slice u) (cs:=((hdL p u xss).drop<|off*1).take<|len*1) (xs:=(xss.drop off).take len) (by simp only[Nat.mul_one,length_take,length_drop,Dy]) (fun k c x hc hx=>by
   rw[getElem?_take,getElem?_drop]at hx;rw[Nat.mul_one,Nat.mul_one,getElem?_take,getElem?_drop,Fx]at hc;split at hx
   next hkl=>rw[fW hkl,hx]at hc;cases hc;have:=hk _ x hx;simp only[rdC,E6,this,fE,fQ,if_true,Ty.eq?_self,Cx,drop_zero,take_length]
   ·cases hx)
  rw[hlen]at this;exact this
 simp only[gnd,ho,Ty.size,key,Option.map_some]
theorem Au4{G:WP}{S:St}{ob' obD:OF}{tm':TF}(h1:∀ i o,ob' i=some o->S.ob i=some o)(h2:∀ i o,obD i=some o->S.ob i=some o/\ob' i=none)(h3:∀ t,tm' t=S.tm t∨∃ n,gnd obD n (S.tm t)=some (tm' t)):WeakG G S ⟨tm',ob',S.gen⟩:=by
 intro w0 B N a w hr;have ⟨C,hm,hf,hB⟩:=hr.ex;have him:∀ b,imm S.ob C b->imm ob' C b:=fun b hb i o c s ho=>hb i o c s<|h1 i o ho
 have hL:Later C C (imm S.ob C) (imm ob' C) w w:=⟨fun _ _ h=>h,fun b _ hb=>him b hb,fun _ _ _=>rfl,fQ _⟩
 refine ⟨⟨C,⟨hm.below,hm.inv,hm.gen,hm.lt,hm.cap,fun i j b c s c' s' o o' hi hj=>hm.inj i j b c s c' s' o o' (h1 i o hi)<|h1 j o' hj,fun i o l hi hl=>(hm.obs i o l (h1 i o hi) hl).later hL fun _ _ _ _=>rfl⟩,fun t=>?_,hB.trans hL⟩,hr.size,hr.defers,fun i hi=>?_⟩
 ·rcases h3 t with e|⟨n,e⟩
  ·show AV.Rep C (imm ob' C) w (tm' t) _;rw[e];exact AV.Rep.later hL _ _<|hf t
  ·refine Ml (ob:=obD) (lo:=w0.heap.size) (im:=imm S.ob C) (fun i o l ho hl=>hm.obs i o l (h2 i o ho).1 hl) him (fun i o b c s ho hs j o' c' s' hj hs'=>?_) n _ _ _ e<|hf t;have:=hm.inj i j b c s c' s' o o' (h2 i o ho).1 (h1 j o' hj) hs hs';subst this;rw[(h2 _ o ho).2]at hj;cases hj
 ·refine hr.obg i fun hn=>hi ?_
  cases ho:ob' i with
  | none=>exact ho
  | some o=>rw[h1 i o ho]at hn;cases hn
end
section
def GN(G:WP)(n:Nat)(w:World):Prop:=G w/\n<=w.heap.size
def AV.toR(R:NP):AV->AV
 | .tree t xs=>.ftr R t xs
 | c=>c
def RL.toR(R:NP):RL->RL
 | .frz c=>.frz (c.toR R)
 | .imm c=>.imm (c.toR R)
 | l=>l
def RV.toR(R:NP)(r:RV):RV:=⟨r.tup,r.ps.map fun p=>(p.1,p.2.map (RL.toR R))⟩
section
variable{P:Program}{G:WP}{f:FuncId}{args:LA}{r:RV}{n:Nat}{R:NP}
theorem Hi(h:Da P G f args r):Da P (GN G n) f args r:=fun w im vs hG hr=>h w im vs (fun w' hb=>(hG w' hb).1) hr
theorem U6{ol us:List (Oid×Ob)}{v:AV}(h:Ed P G f args ol v us):Ed P (GN G n) f args ol v us:=by
 intro U i w0 ob C K w vs hM h1 h2 h3 h4 h5;refine (h U i w0 ob C K w vs ⟨hM.below,fun w' hb=>(hM.inv w' hb).1,hM.gen,hM.lt,hM.cap,hM.inj,hM.obs⟩ h1 h2 h3 h4 h5).mono ?_;rintro e w' ⟨u,rfl,C',q1,q2,q3⟩;exact ⟨u,rfl,C',q1,⟨q2.below,hM.inv,q2.gen,q2.lt,q2.cap,q2.inj,q2.obs⟩,q3⟩
theorem Aph{c:AV}(h:c.gndB=true):(c.toR R).gndB=true:=by
 cases c <;> first|exact h|rfl
theorem Apg{c:AV}{im im':NP}{w:World}{u:Value}(hg:c.gndB=true)(h1:∀ b,im b->im' b)(h2:∀ b,im b->R b)(h:AV.Rep (fun _=>none) im w c u):AV.Rep (fun _=>none) im' w (c.toR R) u:=by
 cases c <;> first|exact P6 h1 _ hg _ h|skip
 have ⟨A,c,l,e,hs⟩:=h;exact ⟨A,c,l,e,Cc (fun b _ hb=>⟨h1 b hb,h2 b hb⟩) hs⟩
theorem Ok{lo:Nat}{im im':NP}{vs:LV}{w:World}(hR:∀ b,lo<=b->R b)(him:∀ b,im' b->im b):∀{rs:List RL} {us:LV} {ls:List Loc},(∀ l∈rs,l.isI=true->∀ b,im' b->R b)->RL.RepL lo im' vs w rs us ls->RL.RepL lo im vs w (rs.map (RL.toR R)) us ls
 | [],_,_,_,h=>h
 | .sc c :: _,_,_,hI,⟨u,us',e,q1,q2,q3⟩=>⟨u,us',e,(by cases c <;> first|exact q1|cases q2),q2,Ok hR him (fun l hl=>hI l (mem_cons_of_mem _ hl)) q3⟩
 | .new _ _ _ :: _,_,_,hI,⟨l,ls',us',e1,e2,q1,q2,q3,q4⟩=>⟨l,ls',us',e1,e2,q1,q2,q3,Ok hR him (fun l hl=>hI l (mem_cons_of_mem _ hl)) q4⟩
 | .newM _ _ _ _ :: _,_,_,hI,⟨l,kl,ls',us',ks,e1,e2,q,q4⟩=>⟨l,kl,ls',us',ks,e1,e2,q,Ok hR him (fun l hl=>hI l (mem_cons_of_mem _ hl)) q4⟩
 | .arg _ _ :: _,_,_,hI,⟨u,us',e,q1,q3⟩=>⟨u,us',e,q1,Ok hR him (fun l hl=>hI l (mem_cons_of_mem _ hl)) q3⟩
 | .argS _ _ _ _ _ :: _,_,_,hI,⟨A,m,c,us',e,q1,q3⟩=>⟨A,m,c,us',e,q1,Ok hR him (fun l hl=>hI l (mem_cons_of_mem _ hl)) q3⟩
 | .frz c :: _,_,_,hI,⟨u,us',e,q1,q2,q3⟩=>⟨u,us',e,Apg q2 (fun _ h=>h) (fun b hb=>hR b hb) q1,Aph q2,Ok hR him (fun l hl=>hI l (mem_cons_of_mem _ hl)) q3⟩
 | .imm c :: _,_,_,hI,⟨u,us',e,q1,q2,q3⟩=>⟨u,us',e,Apg q2 (fun b hb=>hb.imp (him b) id) (fun b hb=>hb.elim (hI _ mem_cons_self rfl b) (hR b)) q1,Aph q2,Ok hR him (fun l hl=>hI l (mem_cons_of_mem _ hl)) q3⟩
theorem Aex:∀(ps:List (Bool×List RL)) (us:LV),Jc (ps.map fun p=>(p.1,p.2.map (RL.toR R))) us=Jc ps us
 | [],_=>rfl
 | (b,rs) :: ps,us=>by simp only[map_cons,Jc,length_map,Aex ps]
theorem Aeu(r:RV):(r.toR R).leaves=r.leaves.map (RL.toR R):=by
 simp only[RV.leaves,RV.toR,flatMap_map,map_flatMap]
theorem Az4(l:RL):(l.toR R).fi=l.fi:=by cases l <;> rfl
theorem Axj{lo:Nat}{im im':NP}{vs:LV}{w:World}{u:Value}(hR:∀ b,lo<=b->R b)(him:∀ b,im' b->im b)(hI:(∃ l∈r.leaves,l.isI=true)->∀ b,im' b->R b)(h:r.Rep lo im' vs w u):(r.toR R).Rep lo im vs w u:=by
 have ⟨us,ls,q1,⟨q2,q3⟩,q4⟩:=h;refine ⟨us,ls,by rw[Aeu];exact Ok hR him (fun l hl hi=>hI ⟨l,hl,hi⟩) q1,⟨q2,fun ⟨c,hc,hd⟩=>q3 ?_⟩,?_⟩
 ·rw[Aeu]at hc;have ⟨l,hl,e⟩:=mem_map.1 hc;subst e;rw[Az4]at hd;exact ⟨l,hl,hd⟩
 ·rw[q4];simp only[RV.toR,Aex]
theorem F1(hR:∀ b,n<=b->R b)(h:Da P G f args r)(hni:r.noI=true:=by kernel_rfl):Da P (GN G n) f args (r.toR R):=by
 intro w im vs hG hr;have hn:n<=w.heap.size:=(hG w<|Below.refl _ _).2;refine (h w im vs (fun w' hb=>(hG w' hb).1) hr).mono ?_;rintro e w' ⟨u,rfl,hb,hrv⟩;refine ⟨u,rfl,hb,Axj (fun b hb=>hR b<|Nat.le_trans hn hb) (fun _ h=>h) (fun ⟨l,hl,hi⟩=>?_) hrv⟩;have:=all_eq_true.1 hni l hl;rw[hi]at this;cases this
mutual
def AV.unR(R:NP):AV->AV->Prop
 | .tree t xs,d=>d=.ftr R t xs
 | .agg cs,d=>∃ ds,d=.agg ds/\AV.unRL R cs ds
 | c,d=>c.scal=true/\d=c
def AV.unRL(R:NP):LA->LA->Prop
 | [],ds=>ds=[]
 | c :: cs,ds=>∃ d ds',ds=d :: ds'/\AV.unR R c d/\AV.unRL R cs ds'
end
mutual
theorem Avw{im:NP}{w:World}:∀(c d:AV) (u:Value),AV.unR R c d->AV.Rep (fun _=>none) im w d u->AV.Rep (fun _=>none) (fun b=>im b/\R b) w c u
 | .tree t xs,d,u,h,hr=>by
  have h:d=.ftr R t xs:=h;subst h;exact hr
 | .agg cs,d,u,⟨ds,e,h⟩,hr=>by
  subst e;have ⟨us,e,hr⟩:=hr;exact ⟨us,e,Alu cs ds us h hr⟩
 | .int ..,d,u,⟨_,e⟩,hr=>by subst e;exact hr
 | .bool ..,d,u,⟨_,e⟩,hr=>by subst e;exact hr
 | .str ..,d,u,⟨_,e⟩,hr=>by subst e;exact hr
 | .err ..,d,u,⟨h,e⟩,hr=>by first|(cases h;done)|(subst e;exact hr)
 | .nils,d,u,⟨_,e⟩,hr=>by subst e;exact hr
 | .any,d,u,⟨h,_⟩,_=>by cases h
 | .mtree ..,d,u,⟨h,_⟩,_=>by cases h
 | .ftr ..,d,u,⟨h,_⟩,_=>by cases h
 | .mp _,d,u,⟨h,_⟩,_=>by cases h
 | .tup _,d,u,⟨h,_⟩,_=>by cases h
 | .fn ..,d,u,⟨h,_⟩,_=>by cases h
 | .ref _,d,u,⟨h,_⟩,_=>by cases h
 | .own ..,d,u,⟨h,_⟩,_=>by cases h
 | .box ..,d,u,⟨h,_⟩,_=>by cases h
 | .elt ..,d,u,⟨h,_⟩,_=>by cases h
 | .sla ..,d,u,⟨h,_⟩,_=>by cases h
 | .telt ..,d,u,⟨h,_⟩,_=>by cases h
 | .giv ..,d,u,⟨h,_⟩,_=>by cases h
 | .abool ..,d,u,⟨h,_⟩,_=>by cases h
theorem Alu{im:NP}{w:World}:∀(cs ds:LA) (us:LV),AV.unRL R cs ds->AV.RepL (fun _=>none) im w ds us->AV.RepL (fun _=>none) (fun b=>im b/\R b) w cs us
 | [],ds,us,h,hr=>by obtain rfl:ds=[]:=h;exact hr
 | c :: cs,ds,us,⟨d,ds',e,h1,h2⟩,hr=>by
  subst e;have ⟨u,us',e,r1,r2⟩:=hr;exact ⟨u,us',e,Avw c d u h1 r1,Alu cs ds' us' h2 r2⟩
end
theorem Aw3{p:Bool}{n:Nat}{d:Option Nat}{gd:Option (Nat×Bool)}{fo:Opd}{xs:List Opd}{tys:List (List (Option Ty))}{f:TF}{ob:OF}{F:FuncId}{caps args:LA}{rv:RV}{r:AV×List (Oid×Option Ob)}
  (hgd:Sq gd f) {F0:FuncId} (hfo:fo.ev f=.fn F0 caps) (hF:Rc F0=F) (hg:AV.gndBL ((Dt F0 xs (caps.map Opd.cst)).map (Opd.ev f))=true) (hn:Pa tys ((Dt F0 xs (caps.map Opd.cst)).map (Opd.ev f))=args) (hb:C4 P F=true) (hc:Da P G F args rv) (hr:rv.out (C3 ((d.getD 0,0),n)) ((Dt F0 xs (caps.map Opd.cst)).map (Opd.ev f))=r):
  Fz P G p n ⟨d,gd,.call fo xs tys⟩ f ob (1,r.1,r.2):=by
 subst hn hF;have key:EvR P G p f ob ((d.getD 0,0),n) (.call fo xs tys) (1,r.1,r.2):=.inr ⟨fo,xs,tys,F0,caps,rfl,hfo,.inl ⟨rfl,hb,_,rv,.inr ⟨rfl,hg⟩,hc,hr⟩⟩;unfold Fz;cases gd with
 | none=>exact key
 | some sb=>exact ⟨true,Aa1 hgd,by rw[fW rfl];exact key⟩
end
theorem Pi{m:Option NP}{t:Ty}(xs:List t.D):(tvC m t xs).length=xs.length*t.size:=by
 unfold tvC
 induction xs with
 | nil=>simp
 | cons x xs ih=>rw[flatMap_cons,length_append,ih,Fa,length_cons,Nat.succ_mul];omega
theorem Aci{m:Option NP}{t:Ty}(xs ys:List t.D):tvC m t (xs++ys)=tvC m t xs++tvC m t ys:=by simp[tvC]
theorem Ate{m:Option NP}{t:Ty}:∀{xs:List t.D} {j:Nat} {x:t.D},xs[j]? =some x->((tvC m t xs).drop (j*t.size)).take t.size=t.avM m x
 | [],_,_,h=>by simp at h
 | y :: r,0,x,h=>by
  cases h;simp only[tvC,flatMap_cons,Nat.zero_mul,drop_zero];rw[take_append_of_le_length (by rw[Fa];exact fQ _),take_of_length_le (by rw[Fa];exact fQ _)]
 | y :: r,j+1,x,h=>by
  have ih:=Ate (m:=m) (xs:=r) (j:=j) (x:=x) (by simpa using h);have e:tvC m t (y :: r)=t.avM m y++tvC m t r:=rfl;rw[e,Nat.succ_mul,Nat.add_comm,← drop_drop];have h2:(t.avM m y++tvC m t r).drop t.size=tvC m t r:=drop_left' (Fa m t y);rw[h2];exact ih
theorem Ank{ob:OF}(m:Option NP):∀(t:Ty) (x:t.D),rdC ob t (t.avM m x)=some x
 | .int,_=>rfl
 | .bool,_=>rfl
 | .str,_=>rfl
 | .slice t,xs=>by
  have:E6 ob t (trM m t xs)=some xs:=by cases m <;> simp only[trM,E6,Ty.eq?_self,Cx]
  simp only[Ty.avM,rdC,this]
 | .pair a b,x=>by
  have h1:(a.avM m x.1++b.avM m x.2).take a.size=a.avM m x.1:=take_left' (Fa m a x.1);have h2:(a.avM m x.1++b.avM m x.2).drop a.size=b.avM m x.2:=drop_left' (Fa m a x.1);simp only[Ty.avM,rdC,h1,h2,Ank m a,Ank m b]
theorem Aav{ob:OF}{m:Option NP}{t:Ty}:∀(xs:List t.D),Ki (rdC ob t) t.size xs.length (tvC m t xs)=some xs
 | []=>rfl
 | x :: xs=>by
  have h1:(tvC m t (x :: xs)).take t.size=t.avM m x:=take_left' (Fa m t x);have h2:(tvC m t (x :: xs)).drop t.size=tvC m t xs:=drop_left' (Fa m t x);simp only[length_cons,Ki,h1,h2,Ank,Aav xs]
section
variable{ob:OF}
theorem Alr{n len:Nat}{o:Oid}{e:TypeId}{m:Option NP}{t:Ty}{xs:List t.D}(ho:ob o=some (.vec e t.size xs.length (tvC m t xs)))(hl:len=xs.length):gnd ob (n+1) (.own o t 0 len)=some (.tree t xs):=by
 subst hl
 have:Ab2 ob t.size (rdC ob t) (.own o t 0 xs.length)=some xs:=by
  simp only[Ab2,ho];rw[fW ⟨trivial,by omega⟩,Nat.zero_mul,drop_zero,take_of_length_le (by rw[Pi];exact fQ _)];exact Aav xs
 simp only[gnd,ho,this,Option.map_some]
end
theorem Bv{G:WP}{tl:TL}{ol:OL}{g:Nat}(o:Oid)(e:TypeId)(m:Option NP)(t:Ty)(xs:List t.D){N:Nat}(h:Am ol o=some (.vec e t.size N (tvC m t xs)))(hN:N=xs.length):WeakG G ⟨Ap tl,Am ol,g⟩ ⟨Ap tl,Am ((o,some (.tv e m t xs)) :: ol),g⟩:=by
 subst hN
 have:Am ((o,some<|.tv e m t xs) :: ol)=Am ol:=by
  funext i;show (if i=o then some (.vec e t.size xs.length<|tvC m t xs) else Am ol i)=Am ol i;by_cases hi:i=o
  ·rw[fW hi,hi,h]
  ·rw[fB hi]
 rw[this];exact WeakG.refl _
theorem Q2{G:WP}{tl:TL}{ol:OL}{g:Nat}(s:Nat)(e:TypeId)(m:Option NP)(t:Ty)(hs:Ap tl s=.nils):WeakG G ⟨Ap tl,Am ol,g⟩ ⟨Ap ((s,.own ((s,0),g) t 0 0) :: tl),Am ((((s,0),g),some (.tv e m t [])) :: ol),g+1⟩:=by
 have key:WeakG G ⟨Ap tl,Am ol,g⟩ ⟨upd (Ap tl) s<|.own ((s,0),g) t 0 0,upd (Am ol) ((s,0),g)<|some<|.vec e t.size 0 [],g+1⟩:=by
  intro w0 B N a w hr;have ⟨C,hm,hf,hB⟩:=hr.ex;have ⟨hL,hM⟩:=Aey (e:=e) (sz:=t.size) (i:=((s,0),g)) hm rfl;refine ⟨⟨_,hM,fun u=>?_,hB.trans hL⟩,hr.size,hr.defers,fun i hi=>?_⟩
  ·simp only[upd];split
   next eu=>subst eu;have:=hf u;rw[show (St.tm ⟨Ap tl,Am ol,g⟩) u=.nils from hs]at this;exact .inl ⟨Bh _ _ _,rfl,rfl,this⟩
   ·exact AV.Rep.later hL _ _<|hf u
  ·show i.2<g+1;by_cases h:i=((s,0),g)
   ·subst h;show g<g+1;omega
   ·simp only[A0 _ _ _ _ h]at hi;have:i.2<g:=hr.obg i hi;omega
 rw[Sj]at key;have e2:upd (Am ol) ((s,0),g) (some<|.vec e t.size 0 [])=Am ((((s,0),g),some<|.tv e m t []) :: ol):=by rw[Ji rfl];rfl
 rw[e2]at key;exact key
section
variable{n:Nat}{d:Option Nat}{f:TF}{ob:OF}
theorem Mw{x y:Opd}{o q:Oid}{e1 e2:TypeId}{t t' t2:Ty}{b len:Nat}{m:Option NP}{xs:List t.D}{z:t.D}(hx:x.ev f=.own o t' 0 len)(hob:ob o=some (.vec e1 t.size xs.length (tvC m t xs)))(hl:len=xs.length)(hy:y.ev f=.own q t2 0 1)(hq:ob q=some (.vec e2 t.size 1 (tvC m t [z])))(h:xs.length+1<=1073741824/\(xs.length+1)*b<=140737488355328):
  Bd n ⟨d,none,.appV e1 t b x y⟩ f ob=some (2,.own (o.1,n) t 0 (xs.length+1),[(o,none),((o.1,n),some (.vec e1 t.size (xs.length+1) (tvC m t (xs++[z]))))]):=by
 subst hl;have h1:List.take (xs.length*t.size) (tvC m t xs)=tvC m t xs:=take_of_length_le (by rw[Pi];exact fQ _);have h2:List.take (1*t.size) (List.drop (0*t.size)<|tvC m t [z])=tvC m t [z]:=by rw[Nat.zero_mul,drop_zero];exact take_of_length_le (by rw[Pi];exact fQ _)
 simp only[Bd,ev,Ms,hx,hy,Wv,hq,hob,true_and,fE,fQ,if_true,h1,h2,h.1,h.2,and_self,Aci]
theorem Om{one:Bool}{k m1:Nat}{x:Opd}{o:Oid}{e1:TypeId}{t:Ty}{N j:Nat}{m:Option NP}{xs:List t.D}{z:t.D}{c:AV}(hx:x.ev f=.elt o j k)(hob:ob o=some (.vec e1 t.size N (tvC m t xs)))(hz:xs[j]? =some z)(hc:Dw one m1 k (t.avM m z)=some c)(hk:(if one then k+1 else k+m1)<=t.size:=by decide):
  Bd n ⟨d,none,.i (.ld one m1 x)⟩ f ob=some (1,c,[]):=by
 have hj:=(gSi.1 hz).1;have hat:=Ate (m:=m) hz
 have hcell:∀ i,i<t.size->(tvC m t xs)[j*t.size+i]? =(t.avM m z)[i]?:=fun i hi=>by
  rw[← hat,getElem?_take,fW hi,getElem?_drop]
 have hmul:(j+1)*t.size<=xs.length*t.size:=Nat.mul_le_mul_right _ hj;rw[Nat.succ_mul]at hmul
 have e:Dw one m1 (j*t.size+k) (tvC m t xs)=some c:=by
  cases one with
  | true=>simp only[Dw,if_true]at hc hk ⊢;rw[hcell k oM];exact hc
  | false=>
   simp only[Dw,Bool.false_eq_true,if_false]at hc hk ⊢;rw[fW (by rw[Fa];exact hk)]at hc;rw[fW (by rw[Pi];omega)];rw[← hc];congr 2;rw[← drop_drop,← hat];rw[drop_take,take_take,Nat.min_eq_left oM]
 simp[Bd,ev,evN,evR,hx,hob,e]
end
inductive Agr(R:NP)(ob:OF):AV->AV->Prop
 | ftr {t:Ty} {xs:List t.D}:Agr R ob (.ftr R t xs) (.tree t xs)
 | nil {t:Ty}:Agr R ob .nils (.tree t [])
 | arr {i:Oid} {t u:Ty} {e:TypeId} {xs:List u.D} {len:Nat}:ob i=some (.arr e u xs)->len=xs.length->Agr R ob (.own i t 0 len) (.tree u xs)
 | mat {o p:Oid} {e1 e:TypeId} {u:Ty} {xss:List (List u.D)} {len:Nat}:ob o=some (.vec e1 1 xss.length (hdL p u xss))->(∀ k row,xss[k]? =some row->ob (kid p k)=some (.arr e u row))->len=xss.length->Agr R ob (.own o (.slice u) 0 len) (.tree (.slice u) xss)
 | tv {o:Oid} {e:TypeId} {t:Ty} {xs:List t.D} {len:Nat}:ob o=some (.vec e t.size xs.length (tvC (some R) t xs))->len=xs.length->Agr R ob (.own o t 0 len) (.tree t xs)
 | fnM {F:FuncId} {i j:Oid} {ty mt:TypeId} {t:Ty} {es:List (Int×t.D)}:ob i=some (.cells ty [.mp j])->ob j=some (.map mt t es)->Agr R ob (.fn F [.box i 0]) (.fn F [.ref [.mtree mt t es]])
section
variable{G:WP}{w0 w:World}{ob:OF}{C:OC}{K:NP}
theorem Ac4{im im':NP}{i:Oid}{t:Ty}{off len:Nat}{v:Value}(h:AV.Rep C im w (.own i t off len) v):AV.Rep C im' w (.own i t off len) v:=h
theorem Azr{im im':NP}{p:Oid}{u:Ty}{xss:List (List u.D)}{vs:LV}(h:AV.RepL C im w (hdL p u xss) vs):AV.RepL C im' w (hdL p u xss) vs:=by
 have key:∀(l:List (List u.D×Nat)) (vs:LV),AV.RepL C im w (l.map fun x=>.own (kid p x.2) u 0 x.1.length) vs->AV.RepL C im' w (l.map fun x=>.own (kid p x.2) u 0 x.1.length) vs:=by
  intro l
  induction l with
  | nil=>intro vs h;exact h
  | cons x l ih=>rintro vs ⟨v,vs',e,h1,h2⟩;exact ⟨v,vs',e,Ac4 h1,ih vs' h2⟩
 exact key _ _ h
theorem Ans{im R:NP}:∀(t:Ty) (x:t.D) (vs:LV),AV.RepL C im w (t.avM (some R) x) vs->AV.RepL C R w (t.av x) vs
 | .int,_,_,⟨v,vs',e,h1,h2⟩=>⟨v,vs',e,h1,h2⟩
 | .bool,_,_,⟨v,vs',e,h1,h2⟩=>⟨v,vs',e,h1,h2⟩
 | .str,_,_,⟨v,vs',e,h1,h2⟩=>⟨v,vs',e,h1,h2⟩
 | .slice t,xs,_,⟨v,vs',e,⟨A,c,l,e1,hs⟩,h2⟩=>⟨v,vs',e,⟨A,c,l,e1,Cc (fun b _ hb=>hb.2) hs⟩,h2⟩
 | .pair a b,x,vs,h=>by
  have hl:=h.length;have h1:=h.take a.size;have h2:=h.drop a.size;have e1:((Ty.pair a b).avM (some R) x).take a.size=a.avM (some R) x.1:=take_left' (Fa _ a x.1);have e2:((Ty.pair a b).avM (some R) x).drop a.size=b.avM (some R) x.2:=drop_left' (Fa _ a x.1);rw[e1]at h1;rw[e2]at h2;have:=(Ans a x.1 _ h1).append (Ans b x.2 _ h2);rw[take_append_drop]at this;exact this
theorem As4{im R:NP}{t:Ty}:∀(xs:List t.D) (vs:LV),AV.RepL C im w (tvC (some R) t xs) vs->AV.RepL C R w (tvC none t xs) vs
 | [],_,h=>h
 | x :: xs,vs,h=>by
  have h1:=h.take t.size;have h2:=h.drop t.size;have e1:(tvC (some R) t (x :: xs)).take t.size=t.avM (some R) x:=take_left' (Fa _ t x);have e2:(tvC (some R) t (x :: xs)).drop t.size=tvC (some R) t xs:=drop_left' (Fa _ t x);rw[e1]at h1;rw[e2]at h2
  have hav:∀(t:Ty) (x:t.D),t.avM none x=t.av x:=by
   intro t
   induction t with
   | pair a b ha hb=>intro x;simp only[Ty.avM,Ty.av,ha,hb]
   | _=>intro x;rfl
  have h1':=Ans t x _ h1;rw[← hav]at h1';have:=h1'.append<|As4 xs _ h2;rw[take_append_drop]at this;exact this
theorem Atu{R:NP}(hM:Mem0 G w0 ob C K w)(hR:∀ b,w0.heap.size<=b->R b){c d:AV}{v:Value}(h:Agr R ob c d)(hr:AV.Rep C (imm ob C) w c v):AV.Rep (fun _=>none) R w d v:=by
 cases h with
 | ftr=>have ⟨A,c,l,e,hs⟩:=hr;exact ⟨A,c,l,e,Cc (fun b _ hb=>hb.2) hs⟩
 | nil=>exact ⟨none,0,[],hr,by simp,by simp[maxLen],fun _=>[],by simp,fun h=>absurd h fS⟩
 | @arr i t u e xs len h1 h2=>
  refine Ml (ob:=fun j=>if j=i then some (.arr e u xs) else none) (C:=C) (im:=R) (lo:=w0.heap.size) (fun j o l hj hl=>?_) (fun _ hb=>hb) (fun j o b c s _ hs=>hR b (hM.lt j b c s hs).1) 1 _ _ _ (G9 (e:=e) (fW rfl) h2)<|Ac4 hr;split at hj
  next e'=>subst e';cases hj;exact hM.obs j _ l h1 hl
  ·cases hj
 | @mat o p e1 e u xss len h1 h2 h3=>
  refine Ml (ob:=fun j=>match ob j with|some (.arr e u xs)=>some (.arr e u xs)|_=>if j=o then some (.vec e1 1 xss.length<|hdL p u xss) else none) (C:=C) (im:=R) (lo:=w0.heap.size) (fun j q l hj hl=>?_) (fun _ hb=>hb) (fun j o b c s _ hs=>hR b (hM.lt j b c s hs).1) 1 _ _ _ (Tl (p:=p) (e1:=e1) (e:=e) (by simp only[h1];rw[fW trivial]) (fun k row hk=>by simp only[h2 k row hk]) h3)<|Ac4 hr;split at hj
  next e' u' xs' hj'=>cases hj;exact hM.obs j _ l hj' hl
  ·split at hj
   next e'=>subst e';cases hj;have ⟨vs,g1,g2,g3⟩:=hM.obs j _ l h1 hl;exact ⟨vs,g1,Azr g2,g3⟩
   ·cases hj
 | @tv o e t xs len h1 h2=>
  refine Ml (ob:=fun j=>if j=o then some (.vec e t.size xs.length<|tvC none t xs) else none) (C:=C) (im:=R) (lo:=w0.heap.size) (fun j q l hj hl=>?_) (fun _ hb=>hb) (fun j o b c s _ hs=>hR b (hM.lt j b c s hs).1) 1 _ _ _ (Alr (m:=none) (e:=e) (fW rfl) h2)<|Ac4 hr;split at hj
  next e'=>subst e';cases hj;have ⟨vs,g1,g2,g3⟩:=hM.obs j _ l h1 hl;exact ⟨vs,g1,As4 xs vs g2,g3⟩
  ·cases hj
 | @fnM F i j ty mt t es h1 h2=>
  have hji:j≠i:=by rintro rfl;rw[h1]at h2;cases h2
  refine Ml (ob:=fun x=>if x=i then some (.cells ty [.mp j]) else if x=j then some (.map mt t es) else none) (C:=C) (im:=R) (lo:=w0.heap.size) (fun x o l hx hl=>?_) (fun _ hb=>hb) (fun x o b c s _ hs=>hR b (hM.lt x b c s hs).1) 4 _ _ _ (by simp[gnd,Pm,hji])<|show AV.Rep C R w (.fn F [.box i 0]) v from hr;split at hx
  ·rename_i e';subst e';cases hx;have:=hM.obs x _ l h1 hl;cases l with
   | nil=>exact this
   | at_ b c s=>exact this
  ·split at hx
   ·rename_i e';subst e';cases hx;have:=hM.obs x _ l h2 hl;cases l with
    | nil=>exact this
    | at_ b c s=>exact this
   ·cases hx
def RL.zl:Bool->AV->RL
 | true,d=>.frz d
 | false,d=>.imm d
def zR(z:Bool)(im:NP)(n:Nat)(b:Nat):Prop:=if z then n<=b else im b∨n<=b
theorem Ayt{z:Bool}{im:NP}{n b:Nat}(h:n<=b):zR z im n b:=by cases z;exact .inr h;exact h
def Ahq(R:NP)(z:Bool)(ob:OF)(c:AV)(l:RL):Prop:=(c.scal=true/\l=.sc c)∨∃ d,l=.zl z d/\d.gndB=true/\Agr R ob c d
def Qv(R:NP)(z:Bool)(ob:OF):LA->List RL->Prop
 | [],ls=>ls=[]
 | c :: cs,ls=>∃ l ls',ls=l :: ls'/\Ahq R z ob c l/\Qv R z ob cs ls'
def Rp(R:NP)(z:Bool)(ob:OF):List (Bool×LA)->List (Bool×List RL)->Prop
 | [],ps=>ps=[]
 | (b,cs) :: r,ps=>∃ ls ps',ps=(b,ls) :: ps'/\Qv R z ob cs ls/\(b=false->cs.length=1)/\Rp R z ob r ps'
def Auc:List (Bool×LA)->LA
 | []=>[]
 | (b,cs) :: r=>(if b then .agg cs else cs.headD .any) :: Auc r
def Aqr(R:NP)(z:Bool)(rs:List Res)(S:St)(r:RV):Prop:=
 ∃ gs ps,Res.evL S.tm S.ob rs=some (Auc gs)/\Rp R z S.ob gs ps/\r=⟨decide (rs.length≠1),ps⟩
theorem Aa9{z:Bool}(hM:Mem0 G w0 ob C K w){im:NP}{vs0:LV}:∀{cs:LA} {ls:List RL} {us:LV},Qv (zR z im w0.heap.size) z ob cs ls->AV.RepL C (imm ob C) w cs us->RL.RepL w0.heap.size im vs0 w ls us []/\ls.length=us.length
 | [],ls,us,h,hr=>by obtain rfl:ls=[]:=h;exact ⟨⟨hr,rfl⟩,by rw[show us=[] from hr];rfl⟩
 | c :: cs,ls,us,⟨l,ls',e,h1,h2⟩,⟨u,us',e',r1,r2⟩=>by
  subst e e';have ⟨q1,q2⟩:=Aa9 hM (im:=im) (vs0:=vs0) h2 r2;refine ⟨?_,by simp[q2]⟩;rcases h1 with ⟨a1,rfl⟩|⟨d,rfl,a1,a2⟩
  ·exact ⟨u,us',rfl,(by cases c <;> first|exact r1|cases a1),a1,q1⟩
  ·have hr:=Atu hM (fun _ h=>Ayt h) a2 r1;cases z with
   | true=>exact ⟨u,us',rfl,P6 (fun b h=>h) _ a1 _ hr,a1,q1⟩
   | false=>exact ⟨u,us',rfl,P6 (fun b h=>h) _ a1 _ hr,a1,q1⟩
theorem All{lo:Nat}{im:NP}{vs:LV}{w:World}:∀{rs:List RL} {us:LV} {rs':List RL} {us':LV},(∀ l∈rs,(∃ c,l=.sc c)∨(∃ d,l=.frz d)∨∃ d,l=.imm d)->RL.RepL lo im vs w rs us []->RL.RepL lo im vs w rs' us' []->RL.RepL lo im vs w (rs++rs') (us++us') []
 | [],_,_,_,_,⟨e,_⟩,h=>by subst e;exact h
 | l :: rs,us,rs',us',hk,h,h'=>by
  have hk':=fun l hl=>hk l (mem_cons_of_mem _ hl)
  rcases hk l mem_cons_self with ⟨c,rfl⟩|⟨d,rfl⟩|⟨d,rfl⟩ <;> obtain ⟨u,us1,rfl,q1,q2,q3⟩:=h <;> exact ⟨u,us1++us',rfl,q1,q2,All hk' q3 h'⟩
theorem Xt{R:NP}{z:Bool}:∀{cs:LA} {ls:List RL},Qv R z ob cs ls->∀ l∈ls,(∃ c,l=.sc c)∨(∃ d,l=.frz d)∨∃ d,l=.imm d
 | [],ls,h,l,hl=>by rw[show ls=[] from h]at hl;cases hl
 | c :: cs,ls,⟨l0,ls',e,h1,h2⟩,l,hl=>by
  subst e;rcases mem_cons.1 hl with rfl|hl
  ·rcases h1 with ⟨_,rfl⟩|⟨d,rfl,_⟩
   ·exact .inl ⟨_,rfl⟩
   ·cases z with
    | true=>exact .inr (.inl ⟨_,rfl⟩)
    | false=>exact .inr (.inr ⟨_,rfl⟩)
  ·exact Xt h2 l hl
theorem Ac6{z:Bool}(hM:Mem0 G w0 ob C K w){im:NP}{vs0:LV}:∀{gs:List (Bool×LA)} {ps:List (Bool×List RL)} {us:LV},Rp (zR z im w0.heap.size) z ob gs ps->AV.RepL C (imm ob C) w (Auc gs) us->∃ vs,RL.RepL w0.heap.size im vs0 w (ps.flatMap (·.2)) vs []/\Jc ps vs=us
 | [],ps,us,h,hr=>by
  obtain rfl:ps=[]:=h;exact ⟨[],⟨rfl,rfl⟩,hr.symm⟩
 | (b,cs) :: gs,ps,us,⟨ls,ps',e,h1,h2,h3⟩,⟨u,us',e',r1,r2⟩=>by
  subst e e';have ⟨vs,q1,q2⟩:=Ac6 hM (im:=im) (vs0:=vs0) h3 r2
  have key:∀ ws:LV,AV.RepL C (imm ob C) w cs ws->(if b then Value.agg ws.toArray else ws.headD undef)=u->∃ vs,RL.RepL w0.heap.size im vs0 w (((b,ls) :: ps').flatMap (·.2)) vs []/\Jc ((b,ls) :: ps') vs=u :: us':=fun ws hw hu=>by
   have ⟨a1,a2⟩:=Aa9 hM (im:=im) (vs0:=vs0) h1 hw;refine ⟨ws++vs,All (Xt h1) a1 q1,?_⟩;simp only[Jc];rw[drop_left' a2.symm,q2,take_left' a2.symm];congr 1;cases b with
   | true=>exact hu
   | false=>
    have hl:=h2 rfl;rw[← hw.length]at hl;cases ws with
    | nil=>simp at hl
    | cons w0 ws=>exact hu
  cases b with
  | true=>
   have ⟨ws,e1,e2⟩:=r1;exact key ws e2 (by rw[e1];rfl)
  | false=>
   have hl:=h2 rfl;obtain ⟨c,rfl⟩:=length_eq_one_iff.1 hl;exact key [u] ⟨u,[],rfl,r1,rfl⟩ rfl
end
theorem Aln{P:Program}[IsP P]{G:WP}(hfol:P.follows .mixedOrders=true){g:FuncId}{fn:Func}(hf:P.funcs[g]? =some fn){ac:AC}{rs:List Res}(hc0:C2 P fn=some (ac,rs)){args:LA}{args':(NP)->LA}{r:RV}{n:Nat}(z:Bool)(hN:fn.ntmps=n)(hn:∀ R,(args' R).length<=n){tl:(NP)->TL}(htl:∀ R,tmL 0 (args' R)=tl R)(ha:∀(R im:NP) (w:World) (us:LV),(∀ b,im b->z=false->R b)->AV.RepL (fun _=>none) im w args us->AV.RepL (fun _=>none) im w (args' R) us)
  (h:∀(n:Nat) (R:NP),(∀ b,n<=b->R b)->awp P (GN G n) ac (fun e S=>∃ S',WeakG (GN G n) S S'/\(e=.normal∨e=.ret)/\Aqr R z rs S' r) ⟨Ap (tl R),Am [],1⟩):Da P G g args r:=by
 subst hN
 have h0:∃ c,fn.body=some c/\AC.of P fn.ntmps c=some ac/\Res.ofL P fn.results.toList=some rs:=by
  unfold C2 at hc0;split at hc0
  ·rename_i c hb;split at hc0
   next ac' rs' h1 h2=>obtain ⟨rfl,rfl⟩:=Prod.mk.inj<|osj hc0;exact ⟨c,hb,h1,h2⟩
   ·cases hc0
  ·cases hc0
 have ⟨c,hb,hc,hrs⟩:=h0;intro w im vs hG hargs
 replace h:=h w.heap.size (zR z im w.heap.size) fun _ h=>Ayt h
 replace hn:=hn<|zR z im w.heap.size
 rw[← htl,← St.init_eq]at h
 replace hargs:=ha (zR z im w.heap.size) im w vs (fun b hb e=>by subst e;exact .inl hb) hargs
 generalize args' (zR z im w.heap.size)=args at h hn hargs;have hlen:vs.length=args.length:=hargs.length
 have hany:∀(cs:LA) (us:LV),AV.RepL (fun _=>none) im w cs us->AV.RepL (fun _=>none) (imm (fun _=>none) fun _=>none) w cs us:=fun cs us h' =>
  AV.RepL.later ⟨fun _ _ h=>h,(fun _ _ _ _ _ _ _ h=>by cases h),fun _ _ _=>rfl,fQ _⟩ cs us h'
 have hreps:Ug (GN G w.heap.size) w ⟨fun _=>none,fun _=>False,w,fun _ _ h=>nomatch h⟩ fn.ntmps (St.init args) { tmps:=vs.toArray++Array.replicate (fn.ntmps - vs.toArray.size) undef,defers:=[] } w:=by
  refine ⟨⟨fun _=>none,⟨Below.refl _ _,fun w' hb=>⟨hG w' hb,hb.size⟩,(fun _ _ h=>by cases h),(fun _ _ _ _ h=>by cases h),(fun _ _ _ _ h=>by cases h),(fun _ _ _ _ _ _ _ _ _ h=>by cases h),(fun _ _ _ h=>by cases h)⟩,fun t=>?_,⟨fun _ _ h=>h,fun _ _ h=>h.elim,fun _ _ h=>h.elim,fQ _⟩⟩,by simp;omega,rfl,fun i h=>absurd rfl h⟩;simp only[St.init,gDg];cases ht:args[t]? with
  | none=>trivial
  | some c=>
   have ⟨v,hv,hr⟩:=(hany _ _ hargs).get ht;have hlt:t<vs.length:=(gSi.1 hv).1
   have e:(vs.toArray++Array.replicate (fn.ntmps - vs.toArray.size) undef).getD t undef=v:=by
    rw[Array.getD_eq_getD_getElem?,Array.getElem?_append_left (by simpa using hlt)];simp[hv]
   rw[e];exact hr
 refine calls_of_wp hf hb<|Code.wp_mono (fun e a' w' hq=>?_)<|Zx hfol c ac _ _ _ w hc h hreps;obtain ⟨e',S0,rfl,⟨S',hweak,hend,gs,ps,h1,h2,h4⟩,hr⟩:=hq
 replace hr:=hweak _ _ _ _ _ hr
 have ⟨C,hM,hF,_⟩:=hr.ex
 have hrun:∀(vars:List ResultVar) (rs:List Res) (avs:LA),Res.ofL P vars=some rs->Res.evL S'.tm S'.ob rs=some avs ->
   ∃ us,(vars.mapM<|Aj7 a'.tmps).run P w'=.ok us w'/\AV.RepL C (imm S'.ob C) w' avs us/\us.length=vars.length/\rs.length=vars.length:=by
  intro vars
  induction vars with
  | nil=>
   intro rs avs q1 q2;obtain rfl:[]=rs:=osj q1;obtain rfl:[]=avs:=osj q2;exact ⟨[],rfl,rfl,rfl,rfl⟩
  | cons v vars ih=>
   intro rs avs q1 q2;simp only[Res.ofL]at q1;split at q1
   ·rename_i x xs p1 p2;cases q1;simp only[Res.evL]at q2;split at q2
    next y ys p3 p4=>cases q2;have ⟨u,r1,r2⟩:=Res.run hM hF p1 p3;have ⟨us,r3,r4,r5,r6⟩:=ih _ _ p2 p4;refine ⟨u :: us,?_,⟨u,us,rfl,r2,r4⟩,by simp[r5],by simp[r6]⟩;rw[mapM_cons,Sem.run_bind,r1];simp only[Result.andThen_ok,Sem.run_bind,r3,Sem.run_pure]
    ·cases q2
   ·cases q1
 have ⟨us,u1,u2,u3,u4⟩:=hrun fn.results.toList rs _ hrs h1;have ⟨vs',f1,f3⟩:=Ac6 (im:=im) (vs0:=vs) hM h2 u2;have hres:(results fn a'.tmps).run P w'=.ok (if fn.results.size=1 then us.headD undef else .tuple us.toArray) w':=Ui u1 (by rw[u3];simp)
 have hrv:r.Rep w.heap.size im vs w' (if fn.results.size=1 then us.headD undef else .tuple us.toArray):=by
  subst h4;refine ⟨vs',[],f1,⟨trivial,fun _=>rfl⟩,?_⟩;simp only[f3];have:rs.length=fn.results.size:=by rw[u4];simp
  rw[this];by_cases h1:fn.results.size=1 <;> simp[h1]
 have fin:∃ u,(results fn a'.tmps).run P w'=.ok u w'/\∃ v,Ending.returned u=.returned v/\Below w.heap.size w w'/\r.Rep w.heap.size im vs w' v:=⟨_,hres,_,rfl,hM.below,hrv⟩
 rcases hend with rfl|rfl
 ·exact ⟨hr.defers,fin⟩
 ·exact ⟨hr.defers,fin⟩
theorem Atj{P:Program}[IsP P]{G:WP}(hfol:P.follows .mixedOrders=true){g:FuncId}{fn:Func}(hf:P.funcs[g]? =some fn){ac:AC}{rs:List Res}(hc0:C2 P fn=some (ac,rs)){args:LA}{r:RV}{n:Nat}(hN:fn.ntmps=n)(hn:args.length<=n){tl:TL}(htl:tmL 0 args=tl)
  (h:∀(n:Nat) (R:NP),(∀ b,n<=b->R b)->awp P (GN G n) ac (fun e S=>∃ S',WeakG (GN G n) S S'/\(e=.normal∨e=.ret)/\Aqr R true rs S' r) ⟨Ap tl,Am [],1⟩):Da P G g args r:=
 Aln hfol hf hc0 (args':=fun _=>args) true hN (fun _=>hn) (tl:=fun _=>tl) (fun _=>htl) (fun _ _ _ _ _ h=>h) h
mutual
theorem As8{R im:NP}{w:World}(hR:∀ b,im b->R b):∀(c d:AV) (u:Value),AV.unR R c d->AV.Rep (fun _=>none) im w c u->AV.Rep (fun _=>none) im w d u
 | .tree t xs,d,u,h,⟨A,c,l,e,hs⟩=>by
  have h:d=.ftr R t xs:=h;subst h;exact ⟨A,c,l,e,Cc (fun b _ hb=>⟨hb,hR b hb⟩) hs⟩
 | .agg cs,d,u,⟨ds,e,h⟩,hr=>by
  subst e;have ⟨us,e,hr⟩:=hr;exact ⟨us,e,Aaz hR cs ds us h hr⟩
 | .int ..,d,u,⟨_,e⟩,hr=>by subst e;exact hr
 | .bool ..,d,u,⟨_,e⟩,hr=>by subst e;exact hr
 | .str ..,d,u,⟨_,e⟩,hr=>by subst e;exact hr
 | .err ..,d,u,⟨h,e⟩,hr=>by first|(cases h;done)|(subst e;exact hr)
 | .nils,d,u,⟨_,e⟩,hr=>by subst e;exact hr
 | .any,d,u,⟨h,_⟩,_=>by cases h
 | .mtree ..,d,u,⟨h,_⟩,_=>by cases h
 | .ftr ..,d,u,⟨h,_⟩,_=>by cases h
 | .mp _,d,u,⟨h,_⟩,_=>by cases h
 | .tup _,d,u,⟨h,_⟩,_=>by cases h
 | .fn ..,d,u,⟨h,_⟩,_=>by cases h
 | .ref _,d,u,⟨h,_⟩,_=>by cases h
 | .own ..,d,u,⟨h,_⟩,_=>by cases h
 | .box ..,d,u,⟨h,_⟩,_=>by cases h
 | .elt ..,d,u,⟨h,_⟩,_=>by cases h
 | .sla ..,d,u,⟨h,_⟩,_=>by cases h
 | .telt ..,d,u,⟨h,_⟩,_=>by cases h
 | .giv ..,d,u,⟨h,_⟩,_=>by cases h
 | .abool ..,d,u,⟨h,_⟩,_=>by cases h
theorem Aaz{R im:NP}{w:World}(hR:∀ b,im b->R b):∀(cs ds:LA) (us:LV),AV.unRL R cs ds->AV.RepL (fun _=>none) im w cs us->AV.RepL (fun _=>none) im w ds us
 | [],ds,us,h,hr=>by obtain rfl:ds=[]:=h;exact hr
 | c :: cs,ds,us,⟨d,ds',e,h1,h2⟩,hr=>by
  subst e;have ⟨u,us',e,r1,r2⟩:=hr;exact ⟨u,us',e,As8 hR c d u h1 r1,Aaz hR cs ds' us' h2 r2⟩
end
theorem Aeb{P:Program}[IsP P]{G:WP}(hfol:P.follows .mixedOrders=true){g:FuncId}{fn:Func}(hf:P.funcs[g]? =some fn){ac:AC}{rs:List Res}(hc0:C2 P fn=some (ac,rs)){args:LA}(args':(NP)->LA){r:RV}{n:Nat}(hN:fn.ntmps=n)(hn:∀ R,(args' R).length<=n)(hu:∀ R,AV.unRL R args (args' R)){tl:(NP)->TL}(htl:∀ R,tmL 0 (args' R)=tl R)
  (h:∀(n:Nat) (R:NP),(∀ b,n<=b->R b)->awp P (GN G n) ac (fun e S=>∃ S',WeakG (GN G n) S S'/\(e=.normal∨e=.ret)/\Aqr R false rs S' r) ⟨Ap (tl R),Am [],1⟩):Da P G g args r:=
 Aln hfol hf hc0 false hN hn htl (fun R im w us hR hr=>Aaz (fun b hb=>hR b hb rfl) _ _ _ (hu R) hr) h
theorem A0l{G:WP}{R:NP}{z:Bool}{rs:List Res}{tm:TF}{ob:OF}{g:Nat}{r:RV}(gs:List (Bool×LA)){e:AE}(h2:Rp R z ob gs r.ps)(he:e=.normal∨e=.ret:=by simp)(h1:Res.evL tm ob rs=some (Auc gs):=by kernel_rfl)(h4:r.tup=decide (rs.length≠1):=by kernel_rfl):∃ S',WeakG G ⟨tm,ob,g⟩ S'/\(e=.normal∨e=.ret)/\Aqr R z rs S' r:=
 ⟨_,WeakG.refl _,he,gs,r.ps,h1,h2,by cases r;cases h4;rfl⟩
section
variable{R:NP}{z:Bool}{ob:OF}
theorem Cs:Rp R z ob [] []:=rfl
theorem Ek{cs:LA}{r:List (Bool×LA)}{ls:List RL}{ps:List (Bool×List RL)}(h1:Qv R z ob cs ls)(h2:Rp R z ob r ps):Rp R z ob ((true,cs) :: r) ((true,ls) :: ps):=⟨ls,ps,rfl,h1,(fun h=>by cases h),h2⟩
theorem Lu{c:AV}{r:List (Bool×LA)}{l:RL}{ps:List (Bool×List RL)}(h1:Ahq R z ob c l)(h2:Rp R z ob r ps):Rp R z ob ((false,[c]) :: r) ((false,[l]) :: ps):=⟨[l],ps,rfl,⟨l,[],rfl,h1,rfl⟩,fun _=>rfl,h2⟩
theorem Ei:Qv R z ob [] []:=rfl
theorem Aw{c:AV}{cs:LA}{l:RL}{ls:List RL}(h1:Ahq R z ob c l)(h2:Qv R z ob cs ls):Qv R z ob (c :: cs) (l :: ls):=⟨l,ls,rfl,h1,h2⟩
theorem Cd{c:AV}(h:c.scal=true:=by kernel_rfl):Ahq R z ob c (.sc c):=.inl ⟨h,rfl⟩
theorem A03{c:AV}{F:FuncId}{cs:LA}(h:Agr R ob c (.fn F cs))(hg:AV.gndBL cs=true:=by rfl):Ahq R z ob c (.zl z (.fn F cs)):=.inr ⟨_,rfl,hg,h⟩
theorem B0{c:AV}{t:Ty}{xs:List t.D}(h:Agr R ob c (.tree t xs)):Ahq R z ob c (.zl z (.tree t xs)):=.inr ⟨_,rfl,rfl,h⟩
end
section
variable{P:Program}{G:WP}{g k d:Nat}{gd:Option (Nat×Bool)}{xs:List X}{tl:TL}{ol:OL}{bad:List (Nat×Nat)}{ra:List Rec}{da:List (List Oid)}{Kf:List (Nat×AV)->List (Oid×Option Ob)->Prop}
variable{fo:Opd}{ys:List Opd}{tys:List (List (Option Ty))}{F:FuncId}{caps:LA}{rv:RV}
theorem Aga(v:AV)(us:OL)(zs args:LA)(hgd:Sq gd (Ap tl))(hc:Da P G F args rv)(hb:C4 P F=true)(h3:XD P G bad g (k+1) xs ((d,v) :: tl) (us.reverseAux ol) ((1,v,us) :: ra) ((rdX (Ap tl) (Am ol) ⟨some d,gd,.call fo ys tys⟩) :: da) Kf)(m:Nat:=0)(hg:AV.gndBL zs=true:=by kernel_rfl)(hfo:fo.ev (Ap tl)=.fn (F+m) caps:=by kernel_rfl)(hz:(Dt (F+m) ys (caps.map Opd.cst)).map (Opd.ev (Ap tl))=zs:=by kernel_rfl)(hn:Pa tys zs=args:=by kernel_rfl)(hr:rv.out (C3 ((d,0),g+k)) zs=(v,us):=by kernel_rfl)(hF:Rc (F+m)=F:=by kernel_rfl)(hx:Eo us=true:=by rfl):XD P G bad g k (⟨some d,gd,.call fo ys tys⟩ :: xs) tl ol ra da Kf:=by
 subst hz;exact Aba 1 v us (Aw3 (P:=P) (G:=G) (p:=false) (n:=g+k) (d:=some d) hgd hfo hF hg hn hb hc hr) h3 hx
end
end
end Go.Proofs.YthlpchhhinipaaaGreatDoor
