/- Lemmas on the program and on partial functions that stand in place of its code (part 6); no condition beyond those that each one states. -/
import Derived.Test.YtlaebfbpgeegcaaGreatDoorZ5
import Derived.Laws.Strings
import Derived.KernelRfl
import Derived.Deep.RegionHeld3
namespace Go.Proofs.YtlaebfbpgeegcaaGreatDoor
section
open Go.RowKit Go.Deep
def Laid1 (lo:Nat) (w:World) (ls:List Loc) (m:List Addr):Prop:=m.Nodup/\∀ p∈m,lo<=p.block/\p.block<w.heap.size/\w.frozen? p=false/\∃ c s,Loc.at_ p.block c s∈ls
section
variable {w:World} {lo:Nat} {e:TypeId} {t:Ty}
theorem Sz {xs:List t.D} {l:Loc} (hfl:t.flat=true) (h:ownsV w lo e t.size (l.val xs.length) xs.length (t.cells xs)):∃ A c m,l.val xs.length=.slice A xs.length c/\Sl (Ic lo) w t A c xs m/\Laid1 lo w [l] m:=by
 cases l with
 | nil =>
  have h0:xs.length=0:=by
   rcases h.2 with ⟨_,h⟩|⟨g,cap,cur,h,_⟩
   ·exact h
   ·simp [Loc.val] at h
  refine ⟨none,0,[],by simp [Loc.val,h0],⟨by omega,by simp [maxLen],fun _=>[],by simp,fun h=>absurd h oM⟩,List.nodup_nil,fun p hp=>by cases hp⟩
 | at_ b cap s =>
  have h':=h;rcases h.2 with ⟨h,_⟩|⟨g,cap',cur,hv,hlo,hb,h1,h2,h3,h4⟩
  ·simp [Loc.val] at h
  simp only [Loc.val,Value.slice.injEq,Option.some.injEq,Addr.mk.injEq,true_and,and_true] at hv;obtain ⟨rfl,rfl⟩:=hv;refine ⟨some ⟨b,0,none⟩,cap,(List.range xs.length).flatMap fun i=>(List.range t.size).map (((⟨b,0,none⟩:Addr).add (i*t.size)).add ·),rfl,⟨h1,h2,fun i=>(List.range t.size).map (((⟨b,0,none⟩:Addr).add (i*t.size)).add ·),rfl,fun _=>⟨_,rfl,hlo,fun i hi=>?_⟩⟩,?_⟩
  ·refine Ty.mem_flat hfl fun j hj=>?_
   have hx:(t.enc xs[i])[j]? =some ((t.enc xs[i])[j]'(by rw [Ty.enc_length _ hfl];exact hj)):=gEg _;rw [hx,Bd,Bd,Nat.zero_add];exact Pd hfl h' (gEg _) hx
  rw [Ad4];refine ⟨?_,?_⟩
  ·exact List.pairwise_map.2 (List.nodup_range.imp fun hne e=>hne (by injection e))
  ·intro p hp;obtain ⟨j,_,rfl⟩:=List.mem_map.1 hp;exact ⟨hlo,(Array.getElem?_eq_some_iff.1 hb).1,by simp [World.frozen?,hb],cap,s,by simp⟩
theorem X1:∀ (ms:List (List Addr)),(List.range ms.length).flatMap (fun i=>ms.getD i [])=ms.flatten:=by
 intro ms;rw [List.flatMap_def];congr 1;refine List.ext_getElem (by simp) fun i h1 h2=>?_
 simp [gDg,h2]
theorem Aca {e':TypeId} (hfl:t.flat=true):∀ {xss:List (List t.D)} {kl:List Loc} {ks:List Value},kl.length=xss.length->(∀ (k:Nat) (xs:List t.D) (l:Loc),xss[k]? =some xs->kl[k]? =some l->ks[k]? =some (l.val xs.length)/\ownsV w lo e' t.size (l.val xs.length) xs.length (t.cells xs))->Ho kl ->
  ∃ ms:List (List Addr),ms.length=xss.length/\(∀ (k:Nat) (xs:List t.D) (m:List Addr),xss[k]? =some xs->ms[k]? =some m->∃ A c,ks[k]? =some (.slice A xs.length c)/\Sl (Ic lo) w t A c xs m)/\Laid1 lo w kl ms.flatten
 | [],_,_,_,_,_=>⟨[],rfl,fun k xs m h=>by simp at h,List.nodup_nil,fun p hp=>by simp at hp⟩
 | _ :: _,[],_,h,_,_=>by simp at h
 | xs :: xss,l :: kl,ks,h,hk,hap=>by
  obtain ⟨k0,o0⟩:=hk 0 xs l rfl rfl;obtain ⟨A,c,m,e1,e2,n1,e3⟩:=Sz hfl o0
  obtain ⟨ms,q1,q2,n2,q3⟩:=Aca (ks:=ks.drop 1) hfl (xss:=xss) (kl:=kl) (by simpa using h) (fun k ys l' hy hl=>by
   have:=hk (k+1) ys l' (by simpa using hy) (by simpa using hl);exact ⟨by rw [List.getElem?_drop,Nat.add_comm];exact this.1,this.2⟩) hap.2
  refine ⟨m :: ms,by simp [q1],fun k ys m' hy hm=>?_,?_,fun p hp=>?_⟩
  ·cases k with
   | zero =>
    simp at hy hm;subst hy hm;exact ⟨A,c,by rw [k0,e1],e2⟩
   | succ k =>
    obtain ⟨A',c',h1,h2⟩:=q2 k ys m' (by simpa using hy) (by simpa using hm);rw [List.getElem?_drop,Nat.add_comm] at h1;exact ⟨A',c',h1,h2⟩
  ·rw [List.flatten_cons];refine List.nodup_append.2 ⟨n1,n2,fun a ha b hb e=>?_⟩;subst e;obtain ⟨_,_,_,c1,s1,g1⟩:=e3 a ha;obtain ⟨_,_,_,c2,s2,g2⟩:=q3 a hb;exact hap.1 _ _ _ (List.mem_singleton.1 g1).symm c2 s2 g2
  ·rw [List.flatten_cons] at hp;rcases List.mem_append.1 hp with h|h
   ·obtain ⟨a1,a2,a3,c1,s1,g1⟩:=e3 p h;exact ⟨a1,a2,a3,c1,s1,by rw [List.mem_singleton.1 g1];exact List.mem_cons_self⟩
   ·obtain ⟨a1,a2,a3,c1,s1,g1⟩:=q3 p h;exact ⟨a1,a2,a3,c1,s1,List.mem_cons_of_mem _ g1⟩
theorem Alv {e':TypeId} {xss:List (List t.D)} {l:Loc} {kl:List Loc} {ks:List Value} (hfl:t.flat=true) (hl:kl.length=xss.length) (ho:ownsV w lo e 1 (l.val xss.length) xss.length ks) (hk:∀ (k:Nat) (xs:List t.D) (l:Loc),xss[k]? =some xs->kl[k]? =some l->ks[k]? =some (l.val xs.length)/\ownsV w lo e' t.size (l.val xs.length) xs.length (t.cells xs)) (hap:Ho (l :: kl)) :
  ∃ A c m,l.val xss.length=.slice A xss.length c/\Sl (Ic lo) w (.slice t) A c xss m/\Laid1 lo w (l :: kl) m:=by
 obtain ⟨ms,q1,q2,n2,q3⟩:=Aca hfl hl hk hap.2
 have hLd:Laid1 lo w (l :: kl) ((List.range xss.length).flatMap fun i=>ms.getD i []):=by
  rw [← q1,X1]
  exact ⟨n2,fun p hp=>by
   obtain ⟨a1,a2,a3,c1,s1,g1⟩:=q3 p hp;exact ⟨a1,a2,a3,c1,s1,List.mem_cons_of_mem _ g1⟩⟩
 rcases ho.2 with ⟨hv,h0⟩|⟨g,cap,cur,hv,hlo,hb,h1,h2,h3,h4⟩
 ·refine ⟨none,0,_,by rw [hv,h0],⟨by omega,by simp [maxLen],fun i=>ms.getD i [],rfl,fun h=>absurd h oM⟩,hLd⟩
 ·refine ⟨_,cap,_,hv,⟨h1,h2,fun i=>ms.getD i [],rfl,fun _=>⟨_,rfl,hlo,fun i hi=>?_⟩⟩,hLd⟩;obtain ⟨m,hm⟩:∃ m,ms[i]? =some m:=⟨_,gEg oM⟩
  obtain ⟨A,c,hks,hs⟩:=q2 i _ m (gEg hi) hm;have hgd:ms.getD i []=m:=by rw [gDg,hm];rfl
  show Ty.Mem _ _ _ _ _ (ms.getD i []);rw [hgd];refine ⟨A,c,?_,hs⟩;have hc:=ho.cells (g:=g) (by rw [hv];rfl) i _ hks
  simpa [Ty.size] using hc
end
def RL.Out (lo:Nat) (w:World):List RL->List Value->List Addr->Prop
 | [],us,l=>us=[]/\l=[]
 | .sc c :: r,us,l=>∃ u us',us=u :: us'/\AV.Rep (fun _=>none) (fun _=>True) w c u/\RL.Out lo w r us' l
 | .new _ t xs :: r,us,l=>∃ A c m us' l',us=.slice A xs.length c :: us'/\l=m++l'/\Sl (Ic lo) w t A c xs m/\RL.Out lo w r us' l'
 | .newM _ _ u xss :: r,us,l=>∃ A c m us' l',us=.slice A xss.length c :: us'/\l=m++l'/\Sl (Ic lo) w (.slice u) A c xss m/\RL.Out lo w r us' l'
 | .frz c :: r,us,l=>∃ u us',us=u :: us'/\AV.Rep (fun _=>none) (fun b=>lo<=b) w c u/\RL.Out lo w r us' l
 | _ :: _,_,_=>False
def RL.plain:RL->Bool
 | .sc _ | .new .. | .newM .. | .frz _=>true
 | _=>false
theorem Q5:∀ {a b:List Loc},Ho (a++b)->Ho b
 | [],_,h=>h
 | _ :: a,_,h=>Q5 (a:=a) h.2
theorem Tm:∀ {a b:List Loc},Ho (a++b)->Ho a
 | [],_,_=>trivial
 | _ :: a,_,h=>⟨fun b c s e c' s' hm=>h.1 b c s e c' s' (List.mem_append_left _ hm),Tm (a:=a) h.2⟩
theorem Rh:∀ {a b:List Loc},Ho (a++b)->∀ n c s c' s',Loc.at_ n c s∈a->Loc.at_ n c' s'∉b
 | l :: a,_,h,n,c,s,c',s',hm=>by
  rcases List.mem_cons.1 hm with e|hm
  ·exact fun hb=>h.1 n c s e.symm c' s' (List.mem_append_right _ hb)
  ·exact Rh (a:=a) h.2 n c s c' s' hm
theorem Laid1.append {lo:Nat} {w:World} {a b:List Loc} {l m:List Addr} (h1:Laid1 lo w a l) (h2:Laid1 lo w b m) (hap:Ho (a++b)):Laid1 lo w (a++b) (l++m):=by
 refine ⟨List.nodup_append.2 ⟨h1.1,h2.1,fun x hx y hy e=>?_⟩,fun p hp=>?_⟩
 ·subst e;obtain ⟨_,_,_,c1,s1,g1⟩:=h1.2 x hx;obtain ⟨_,_,_,c2,s2,g2⟩:=h2.2 x hy;exact Rh hap _ _ _ _ _ g1 g2
 ·rcases List.mem_append.1 hp with h|h
  ·obtain ⟨a1,a2,a3,c1,s1,g1⟩:=h1.2 p h;exact ⟨a1,a2,a3,c1,s1,List.mem_append_left _ g1⟩
  ·obtain ⟨a1,a2,a3,c1,s1,g1⟩:=h2.2 p h;exact ⟨a1,a2,a3,c1,s1,List.mem_append_right _ g1⟩
theorem RL.out_of {lo:Nat} {im:Nat->Prop} {vs:List Value} {w:World}:∀ {rs:List RL} {us:List Value} {ls:List Loc},rs.all RL.plain=true->RL.RepL lo im vs w rs us ls->Ho ls->∃ l,RL.Out lo w rs us l/\Laid1 lo w ls l
 | [],us,ls,_,⟨h,_⟩,_=>⟨[],⟨h,rfl⟩,List.nodup_nil,fun p hp=>by cases hp⟩
 | .sc c :: r,us,ls,hp,⟨u,us',e,h1,h2,h3⟩,hap=>by
  obtain ⟨l,q1,q2⟩:=RL.out_of (rs:=r) (by simpa [RL.plain] using hp) h3 hap;exact ⟨l,⟨u,us',e,(by cases c <;> first|exact h1|cases h2),q1⟩,q2⟩
 | .new e t xs :: r,us,ls,hp,⟨l,ls',us',e1,e2,h1,h2,_,h3⟩,hap=>by
  subst e1 e2;obtain ⟨m,q1,q2⟩:=RL.out_of (rs:=r) (by simpa [RL.plain] using hp) h3 hap.2;obtain ⟨A,c,k,e3,e4,e5⟩:=Sz h1 h2;exact ⟨k++m,⟨A,c,k,us',m,by rw [e3],rfl,e4,q1⟩,e5.append (a:=[l]) q2 hap⟩
 | .newM e e' u xss :: r,us,ls,hp,⟨l,kl,ls',us',ks,e1,e2,⟨⟨h0,h1⟩,⟨h2,_⟩,h3⟩,h4⟩,hap=>by
  subst e1 e2;obtain ⟨m,q1,q2⟩:=RL.out_of (rs:=r) (by simpa [RL.plain] using hp) h4 (Q5 (a:=l :: kl) hap);obtain ⟨A,c,k,e3,e4,e5⟩:=Alv h1 h0 h2 (fun k xs l hx hl=>⟨(h3 k xs l hx hl).1,(h3 k xs l hx hl).2.1⟩) (Tm (a:=l :: kl) hap);exact ⟨k++m,⟨A,c,k,us',m,by rw [e3],rfl,e4,q1⟩,e5.append (a:=l :: kl) q2 hap⟩
 | .frz c :: r,us,ls,hp,⟨u,us',e,h1,h2,h3⟩,hap=>by
  obtain ⟨l,q1,q2⟩:=RL.out_of (rs:=r) (by simpa [RL.plain] using hp) h3 hap;exact ⟨l,⟨u,us',e,h1,q1⟩,q2⟩
 | .arg .. :: _,_,_,hp,_,_=>by simp [RL.plain] at hp
 | .argS .. :: _,_,_,hp,_,_=>by simp [RL.plain] at hp
 | .imm _ :: _,_,_,hp,_,_=>by simp [RL.plain] at hp
theorem RV.out_of {lo:Nat} {im:Nat->Prop} {vs:List Value} {w:World} {r:RV} {u:Value} (h:r.Rep lo im vs w u) (hp:r.leaves.all RL.plain=true) :
  ∃ us l,RL.Out lo w r.leaves us l/\Fresh w lo l/\u=(if r.tup then .tuple (Fp r.ps us).toArray else (Fp r.ps us).headD undef):=by
 obtain ⟨us,ls,h1,⟨h2,_⟩,rfl⟩:=h;obtain ⟨l,q1,q2,q3⟩:=RL.out_of hp h1 h2;exact ⟨us,l,q1,⟨q2,fun p hp=>⟨(q3 p hp).1,(q3 p hp).2.1,(q3 p hp).2.2.1⟩⟩,rfl⟩
end
section
open Go.RowKit Go.Deep
section
variable {P:Program} {G:World->Prop} {w0 w:World} {ob:Oid->Option Ob} {σ:Oid->Option Loc} {K:Nat->Prop} {im:Nat->Prop}
theorem Aeb (hG:∀ w',Below w.heap.size w w'->G w'):Mem0 G w (fun _=>none) (fun _=>none) (fun _=>False) w :=
 ⟨Below.refl _ _,hG,fun _ _ h=>(by cases h),fun _ _ _ _ h=>(by cases h),fun _ _ _ _ h=>(by cases h),fun _ _ _ _ _ _ _ _ _ h=>(by cases h),fun _ _ _ h=>by cases h⟩
abbrev nwN:Oid->Oid:=Bs (A8 []) ((0,0),1)
theorem S4 {g:FuncId} {args:List AV} {v:AV} {us:List (Oid×Ob)} {vs:List Value} (h:Gj P G g args [] v us) (hG:∀ w',Below w.heap.size w w'->G w') (hr:AV.RepL (fun _=>none) (fun _=>True) w args vs) (hn:AV.renL (A8 []) args=args:=by rfl) (hB:Xc [] [] us 1 []=true:=by kernel_rfl) (hv:v.ren nwN=v:=by kernel_rfl) (hu:Ms nwN us=us:=by kernel_rfl) :
  Calls P g vs.toArray w fun e w'=>∃ u,e=.returned u/\Below w.heap.size w w'/\∃ σ',Mem0 G w (Ag (Bm us)) σ' (fun n=>False∨n=1) w'/\AV.Rep σ' (imm (Ag (Bm us)) σ') w' v u:=by
 refine (h (A8 []) ((0,0),1) w _ _ _ w vs (Aeb hG) (fun h=>h) (fun q hq=>by cases hq) (fun j k hj=>by cases hj) (fun j hj=>by cases hj) ?_).mono ?_
 ·rw [hn]
  have e:Xq (A8 []) [] (fun _=>none)=fun _=>True:=by
   funext b;simp [Xq,exL]
  rw [e];exact hr
 ·rintro e w' ⟨u,rfl,σ',_,h2,h3⟩;have e:=(Xb hB trivial).2.2.2 ((0,0),1) rfl;have e':(fun _=>none)=Ag []:=rfl;rw [e',e] at h2 h3;have e2:Id (A8 []) []++[]=([]:List (Oid×Option Ob)):=rfl;rw [e2,List.append_nil,hu] at h2 h3;rw [hv] at h3;exact ⟨u,rfl,h2.below,σ',h2,h3⟩
def Spots (w0:World) (ob:Oid->Option Ob) (σ:Oid->Option Loc) (w:World) (S:Oid->Prop) (m:List Addr):Prop :=
 m.Nodup/\∀ p∈m,w0.heap.size<=p.block/\p.block<w.heap.size/\w.frozen? p=false/\∃ j o c s,S j/\ob j=some o/\σ j=some (.at_ p.block c s)
theorem Spots.fresh {S:Oid->Prop} {m:List Addr} (h:Spots w0 ob σ w S m):Fresh w w0.heap.size m:=⟨h.1,fun p hp=>⟨(h.2 p hp).1,(h.2 p hp).2.1,(h.2 p hp).2.2.1⟩⟩
theorem Spots.append {S T:Oid->Prop} {l m:List Addr} (hm:Mem0 G w0 ob σ K w) (h1:Spots w0 ob σ w S l) (h2:Spots w0 ob σ w T m) (hd:∀ i,S i->T i->False):Spots w0 ob σ w (fun i=>S i∨T i) (l++m):=by
 refine ⟨List.nodup_append.2 ⟨h1.1,h2.1,fun x hx y hy e=>?_⟩,fun p hp=>?_⟩
 ·subst e;obtain ⟨_,_,_,i,o,c,s,g1,g2,g3⟩:=h1.2 x hx;obtain ⟨_,_,_,j,o',c',s',k1,k2,k3⟩:=h2.2 x hy;have:=hm.inj i j _ _ _ _ _ _ _ g2 k2 g3 k3;subst this;exact hd i g1 k1
 ·rcases List.mem_append.1 hp with h|h
  ·obtain ⟨a1,a2,a3,i,o,c,s,g1,g2⟩:=h1.2 p h;exact ⟨a1,a2,a3,i,o,c,s,.inl g1,g2⟩
  ·obtain ⟨a1,a2,a3,i,o,c,s,g1,g2⟩:=h2.2 p h;exact ⟨a1,a2,a3,i,o,c,s,.inr g1,g2⟩
theorem Abi {ol:List (Oid×Option Ob)} {p:Oid} {e:TypeId} {t:Ty} {xss:List (List t.D)} {k:Nat} {xs:List t.D} (hx:xss[k]? =some xs) (h:Dq ol p=some (.pool e t xss)):Ag ol (kid p k)=some (.arr e t xs):=by
 rw [K8,Il h,hx];rfl
theorem R8 (hm:Mem0 G w0 ob σ K w) {a:Oid} {e:TypeId} {t:Ty} {xs:List t.D} {v:Value} (ho:ob a=some (.arr e t xs)) (hv:AV.Rep σ im w (.own a t 0 xs.length) v) :
  ∃ A c m,v=.slice A xs.length c/\Sl (Ic w0.heap.size) w t A c xs m/\Spots w0 ob σ w (fun i=>i=a) m:=by
 obtain ⟨l,hl,rfl,_⟩:=Rl hv;obtain ⟨hfl,hw,_⟩:=hm.obs a _ l ho hl;obtain ⟨A,c,m,e1,e2,n1,e3⟩:=Sz hfl hw;refine ⟨A,c,m,e1,e2,n1,fun p hp=>?_⟩;obtain ⟨a1,a2,a3,c,s,h⟩:=e3 p hp;exact ⟨a1,a2,a3,a,_,c,s,rfl,ho,by rw [hl,← List.mem_singleton.1 h]⟩
theorem Age:∀ {cs:List AV} {vs:List Value} {k:Nat} {c:AV},AV.RepL σ im w cs vs->cs[k]? =some c->∃ v,vs[k]? =some v/\AV.Rep σ im w c v
 | [],_,_,_,_,h=>by simp at h
 | c :: cs,_,0,_,⟨u,us,rfl,h1,_⟩,h=>by obtain rfl:=osj h;exact ⟨u,rfl,h1⟩
 | c :: cs,_,k+1,d,⟨u,us,rfl,_,h2⟩,h=>by
  obtain ⟨v,e,hv⟩:=Age (k:=k) h2 (by simpa using h);exact ⟨v,by simpa using e,hv⟩
theorem Yr (hm:Mem0 G w0 ob σ K w) {a p:Oid} {e e':TypeId} {t:Ty} {xss:List (List t.D)} {v:Value} (ho:ob a=some (.vec e 1 xss.length (hdL p t xss))) (hk:∀ (k:Nat) (xs:List t.D),xss[k]? =some xs->ob (kid p k)=some (.arr e' t xs)) (hv:AV.Rep σ im w (.own a (.slice t) 0 xss.length) v) :
  ∃ A c m,v=.slice A xss.length c/\Sl (Ic w0.heap.size) w (.slice t) A c xss m/\Spots w0 ob σ w (fun i=>∃ k,i=kid p k) m:=by
 obtain ⟨l,hl,rfl,_⟩:=Rl hv;obtain ⟨vs,hw,hrep,_⟩:=hm.obs a _ l ho hl
 have hkid:∀ (k:Nat) (xs:List t.D),xss[k]? =some xs->∃ v,vs[k]? =some v/\∃ A c m,v=.slice A xs.length c/\Sl (Ic w0.heap.size) w t A c xs m/\Spots w0 ob σ w (fun i=>i=kid p k) m:=by
  intro k xs hx
  obtain ⟨v,e1,e2⟩:=Age (k:=k) hrep (show (hdL p t xss)[k]? =some (.own (kid p k) t 0 xs.length) by
   unfold hdL;rw [List.getElem?_map,List.getElem?_zipIdx,hx];simp)
  exact ⟨v,e1,R8 hm (hk k xs hx) e2⟩
 have hall:∀ n,n<=xss.length->∃ f:Nat->List Addr,(∀ (k:Nat) (xs:List t.D),k<n->xss[k]? =some xs->∃ A c,vs[k]? =some (.slice A xs.length c)/\Sl (Ic w0.heap.size) w t A c xs (f k))/\Spots w0 ob σ w (fun i=>∃ k,k<n/\i=kid p k) ((List.range n).flatMap f):=by
  intro n
  induction n with
  | zero=>exact fun _=>⟨fun _=>[],fun _ _ h=>absurd h oM,List.nodup_nil,fun p hp=>by cases hp⟩
  | succ n ih =>
   intro hn;obtain ⟨f,q1,q2⟩:=ih oM;obtain ⟨v,e1,A,c,m,e2,e3,e4⟩:=hkid n _ (gEg oM);refine ⟨fun j=>if j=n then m else f j,fun k xs hk hx=>?_,?_⟩
   ·by_cases e:k=n
    ·subst e;rw [gEg oM] at hx;obtain rfl:=osj hx;exact ⟨A,c,by rw [e1,e2],by simpa using e3⟩
    ·obtain ⟨A',c',h1,h2⟩:=q1 k xs oM hx;exact ⟨A',c',h1,by simpa [e] using h2⟩
   ·rw [Et]
    have e1:(List.range n).flatMap (fun j=>if j=n then m else f j)=(List.range n).flatMap f:=by
     rw [List.flatMap_def,List.flatMap_def];congr 1;exact List.map_congr_left fun j hj=>if_neg (by have:=List.mem_range.1 hj;omega)
    rw [e1];simp only [if_true];have:=q2.append hm e4 (fun i ⟨k,hk,e⟩ e'=>by have:=E4 (e.symm.trans e');omega)
    exact ⟨this.1,fun x hx=>by
     obtain ⟨a1,a2,a3,j,o,c,s,g1,g2⟩:=this.2 x hx;refine ⟨a1,a2,a3,j,o,c,s,?_,g2⟩;rcases g1 with ⟨k,hk,e⟩|e
     ·exact ⟨k,by omega,e⟩
     ·exact ⟨n,by omega,e⟩⟩
 obtain ⟨f,q1,q2⟩:=hall _ (Nat.le_refl _)
 have hS:Spots w0 ob σ w (fun i=>∃ k,i=kid p k) ((List.range xss.length).flatMap f):=⟨q2.1,fun x hx=>by
  obtain ⟨a1,a2,a3,j,o,c,s,⟨k,_,e⟩,g2⟩:=q2.2 x hx;exact ⟨a1,a2,a3,j,o,c,s,⟨k,e⟩,g2⟩⟩
 rcases hw.2 with ⟨hv,h0⟩|⟨g,cap,cur,hv,hlo,hb,h1,h2,h3,h4⟩
 ·exact ⟨none,0,_,by rw [hv,h0],⟨by omega,by simp [maxLen],f,rfl,fun h=>absurd h oM⟩,hS⟩
 ·refine ⟨_,cap,_,hv,⟨h1,h2,f,rfl,fun _=>⟨_,rfl,hlo,fun i hi=>?_⟩⟩,hS⟩;obtain ⟨A,c,hks,hs⟩:=q1 i _ hi (gEg hi);refine ⟨A,c,?_,hs⟩;have hc:=hw.cells (g:=g) (by rw [hv];rfl) i _ hks
  simpa [Ty.size] using hc
end
end
section
section
variable {α β σ ρ:Type}
theorem Yj {body:σ->Option (Ctl σ ρ)} {Post:ρ->Prop} (n:Nat) (I:Nat->σ->Prop)
  (hs:∀ i s,i<n->I i s->(∃ s',body s=some (.next s')/\I (i+1) s')∨∃ r,body s=some (.out r)/\Post r) (he:∀ s,I n s->∃ r,body s=some (.out r)/\Post r) :
  ∀ (F k:Nat) (s:σ),k<=n->n - k<F->I k s->∃ r,Aq body F s=some r/\Post r
 | 0,_,_,_,h,_=>by omega
 | F+1,k,s,hk,h,hi=>by
  have key:(∃ r,body s=some (.out r)/\Post r)->∃ r,Aq body (F+1) s=some r/\Post r:=by
   rintro ⟨r,h1,h2⟩;exact ⟨r,by simp only [Aq,h1,obs,Ctl.then],h2⟩
  rcases Nat.lt_or_ge k n with hlt|hge
  ·rcases hs k s hlt hi with ⟨s',h1,h2⟩|h
   ·obtain ⟨r,h3,h4⟩:=Yj n I hs he F (k+1) s' hlt oM h2;exact ⟨r,by simp only [Aq,h1,obs,Ctl.then];exact h3,h4⟩
   ·exact key h
  ·obtain rfl:k=n:=by omega
   exact key (he s hi)
theorem Ee {body:σ->Option (Ctl σ ρ)} {Post:ρ->Prop} (n:Nat) (I:Nat->σ->Prop) {F:Nat} (hn:n<F) {s0:σ} (h0:I 0 s0)
  (hs:∀ i s,i<n->I i s->(∃ s',body s=some (.next s')/\I (i+1) s')∨∃ r,body s=some (.out r)/\Post r) (he:∀ s,I n s->∃ r,body s=some (.out r)/\Post r):∃ r,Aq body F s0=some r/\Post r :=
 Yj n I hs he F 0 s0 (Nat.zero_le _) oM h0
theorem Er {body:σ->Option (Ctl σ ρ)} (n:Nat) (I:Nat->σ->Prop) {F:Nat} (hn:n<F) {s0:σ} (r:ρ) (h0:I 0 s0)
  (hs:∀ i s,i<n->I i s->(∃ s',body s=some (.next s')/\I (i+1) s')∨body s=some (.out r)) (he:∀ s,I n s->body s=some (.out r)):Aq body F s0=some r:=by
 obtain ⟨r',h1,rfl⟩:=Ee (Post:=fun r'=>r'=r) n I hn h0 (fun i s hi hI=>(hs i s hi hI).imp id fun h=>⟨r,h,rfl⟩) (fun s h=>⟨r,he s h,rfl⟩);exact h1
theorem Bo {body:σ->Option (Ctl σ ρ)} (n:Nat) (S:Nat->σ) {F:Nat} (hn:n<F) {s0:σ} (r:ρ) (h0:s0=S 0) (hs:∀ i,i<n->body (S i)=some (.next (S (i+1)))) (he:body (S n)=some (.out r)):Aq body F s0=some r:=by
 subst h0;refine Er n (fun i s=>s=S i) hn r rfl (fun i s hi e=>.inl ?_) (fun s e=>by subst e;exact he);subst e;exact ⟨_,hs i hi,rfl⟩
theorem D1 {body:Nat->Option (Ctl Nat ρ)} (xs:List α) (q:α->Bool) (good bad:ρ) {F:Nat} (hn:xs.length<F) (hs:∀ i x,xs[i]? =some x->body i=some (if q x then .next (i+1) else .out bad)) (he:body xs.length=some (.out good)):Aq body F 0=some (if xs.all q then good else bad):=by
 refine Er xs.length (fun i s=>s=i/\(xs.take i).all q=true) hn _ ⟨rfl,by simp⟩ ?_ ?_
 ·rintro i s hi ⟨hsi,hq⟩;subst s;have hx:=gEg hi;rw [hs i _ hx];cases hc:q xs[i]
  ·refine .inr ?_
   have:xs.all q=false:=by
    rw [Bool.eq_false_iff];intro ha;rw [List.all_eq_true] at ha;rw [ha _ (List.getElem_mem hi)] at hc;cases hc
   rw [this];rfl
  ·refine .inl ⟨i+1,rfl,rfl,?_⟩;rw [List.take_add_one,List.all_append,hq,hx];simp [hc]
 ·rintro s ⟨rfl,hq⟩;rw [List.take_length] at hq;rw [he,hq];rfl
theorem Tc {body:Nat->Option (Ctl Nat ρ)} (xs:List α) (q:α->Bool) (none_:ρ) (g:Nat->ρ) {F:Nat} (hn:xs.length<F) (hs:∀ i x,xs[i]? =some x->body i=some (if q x then .out (g i) else .next (i+1))) (he:body xs.length=some (.out none_)) :
  (xs.any q=true/\∃ i,i<xs.length/\Aq body F 0=some (g i))∨(xs.any q=false/\Aq body F 0=some none_):=by
 have key:∃ r,Aq body F 0=some r/\((xs.any q=true/\∃ i,i<xs.length/\r=g i)∨(xs.any q=false/\r=none_)):=by
  refine Ee xs.length (fun i s=>s=i/\(xs.take i).any q=false) hn ⟨rfl,by simp⟩ ?_ ?_
  ·rintro i s hi ⟨hsi,hq⟩;subst s;have hx:=gEg hi;rw [hs i _ hx];cases hc:q xs[i]
   ·refine .inl ⟨i+1,rfl,rfl,?_⟩;rw [List.take_add_one,List.any_append,hq,hx];simp [hc]
   ·exact .inr ⟨_,rfl,.inl ⟨List.any_eq_true.2 ⟨_,List.getElem_mem hi,hc⟩,i,hi,rfl⟩⟩
  ·rintro s ⟨hsi,hq⟩;subst hsi;rw [List.take_length] at hq;exact ⟨_,he,.inr ⟨hq,rfl⟩⟩
 obtain ⟨r,h,⟨h1,i,hi,rfl⟩|⟨h1,rfl⟩⟩:=key
 ·exact .inl ⟨h1,i,hi,h⟩
 ·exact .inr ⟨h1,h⟩
theorem Mo {body:Nat×List β->Option (Ctl (Nat×List β) ρ)} (xs:List α) (f:α->β) (ys:List β) {F:Nat} (hn:xs.length<F) (r:ρ) (hs:∀ i x,xs[i]? =some x->body (i,ys++(xs.take i).map f)=some (.next (i+1,(ys++(xs.take i).map f)++[f x]))) (he:body (xs.length,ys++xs.map f)=some (.out r)):Aq body F (0,ys)=some r:=by
 refine Bo xs.length (fun i=>(i,ys++(xs.take i).map f)) hn r (by simp) (fun i hi=>?_) (by rw [List.take_length];exact he);have hx:=gEg hi;rw [hs i _ hx,List.take_add_one,hx];simp only [List.map_append,Option.toList,List.map_cons,List.map_nil,List.append_assoc]
theorem Sj {xs:List α} {d:α} {i:Nat} (h:i<xs.length):(xs.take i++List.replicate (xs.length - i) d)[i]? =some d:=by
 have h1:(xs.take i).length=i:=by rw [List.length_take];omega
 rw [List.getElem?_append_right oM,h1,Nat.sub_self,List.getElem?_replicate,if_pos oM]
theorem Sy {xs:List α} {d x:α} {i:Nat} (h:xs[i]? =some x):(xs.take i++List.replicate (xs.length - i) d).set i x=xs.take (i+1)++List.replicate (xs.length - (i+1)) d:=by
 have hi:=(gSi.1 h).1;have e:xs.length - i=(xs.length - (i+1))+1:=by omega
 rw [List.take_add_one,h,e,List.replicate_succ,List.set_append,if_neg (by simp;omega)];simp [Nat.min_eq_left (Nat.le_of_lt hi)]
theorem Mu {xs ys:List α} {i:Nat} (h:i<xs.length) (hl:ys.length=i):(ys++xs.drop i)[i]? =some xs[i]:=by
 rw [List.getElem?_append_right oM,hl];simp [List.getElem?_drop,h]
theorem Mm {xs ys:List α} {y:α} {i:Nat} (h:i<xs.length) (hl:ys.length=i):(ys++xs.drop i).set i y=(ys++[y])++xs.drop (i+1):=by
 rw [List.set_append,if_neg oM,hl,Nat.sub_self,List.drop_eq_getElem_cons h,List.append_assoc];rfl
end
theorem Bk {n:Int} (h1: -9223372036854775808<=n) (h2:n<9223372036854775808):wI n=n:=Go.IntWalk.i64_in _ oM
theorem Ay {p:Prop} [Decidable p] (h:p):decide p=true:=decide_eq_true h
theorem Av {p:Prop} [Decidable p] (h:¬ p):decide p=false:=decide_eq_false h
end
section
open Go.RowKit Go.Deep
theorem Api:∀ d:Fin 10,strOfNums [IntKind.u8.wrap (wI (48+((d.val:Nat):Int)))]=⟨#[UInt8.ofNat (48+d.val)]⟩:=by
 intro d;apply ByteArray.ext
 revert d
 decide +kernel
theorem Ae9 {k:Int} (h:0<=k/\k<=9223372036854775807):Jq k=some (Vl k):=by
 unfold Jq Vl;by_cases h0:k<=0
 ·rw [Ay h0,if_pos h0];rfl
 rw [Av h0,cond_false,if_neg h0]
 obtain ⟨r,hr,rfl,hs⟩:=Ee (F:=4611686018427387904) (body:=fun s_:Int×ByteArray=>Ej s_.1 s_.2) (s0:=((k,(⟨#[]⟩:ByteArray)):Int×ByteArray)) (Post:=fun r:ByteArray=>r=⟨(Adg k.toNat []).toArray⟩/\r.size<=64) 63 (fun (i:Nat) (s:Int×ByteArray)=>0<=s.1/\s.1.toNat*2 ^ i<=k.toNat/\s.2.size<=i/\∃ l:List UInt8,s.2=⟨l.toArray⟩/\Adg s.1.toNat l=Adg k.toNat []) oM ⟨h.1,by simp,Nat.le_refl _,[],rfl,rfl⟩ (by
  rintro i ⟨v,t⟩ hi ⟨h1,h2,h3,l,h4,h5⟩;dsimp only at h1 h2 h3 h4 h5
  try dsimp only
  unfold Ej;by_cases hv:0<v
  ·obtain ⟨n,rfl⟩:∃ n:Nat,v=n:=⟨v.toNat,by omega⟩
   have hd:Int.tdiv (n:Int) 10=((n / 10:Nat):Int):=by rw [Int.tdiv_eq_ediv_of_nonneg h1];omega
   have hm:Int.tmod (n:Int) 10=((n % 10:Nat):Int):=by rw [Int.tmod_eq_emod_of_nonneg h1];omega
   have hF:=Api ⟨n % 10,Nat.mod_lt _ oM⟩;simp only at hF
   have hn:n<=9223372036854775807:=by
    have:n*1<=n*2 ^ i:=Nat.mul_le_mul_left _ (Nat.one_le_two_pow);simp only [Int.toNat_natCast] at h2;omega
   rw [Ay hv,cond_true,hm,hF,Ah (by show 1+t.size<=_;omega),hd,Bk (n:=((n / 10:Nat):Int)) oM oM];refine .inl ⟨_,rfl,by dsimp only;omega,?_,?_,UInt8.ofNat (48+n % 10) :: l,?_,?_⟩
   ·dsimp only;simp only [Int.toNat_natCast] at h2 ⊢;rw [Nat.pow_succ]
    have:(n / 10)*(2 ^ i*2)<=n*2 ^ i:=by
     rw [Nat.mul_comm (2 ^ i) 2,← Nat.mul_assoc];exact Nat.mul_le_mul_right _ oM
    omega
   ·dsimp only;rw [ByteArray.size_append];show 1+t.size<=i+1;omega
   ·dsimp only;rw [h4];apply ByteArray.ext;simp
   ·dsimp only;rw [← h5];simp only [Int.toNat_natCast];rw [Adg.eq_def n l,dif_neg oM]
  ·obtain rfl:v=0:=by omega
   rw [Av hv];refine .inr ⟨_,rfl,?_,by omega⟩;rw [h4,← h5,Adg.eq_def];rfl) (by
  rintro ⟨v,t⟩ ⟨h1,h2,h3,l,h4,h5⟩;dsimp only at h1 h2 h3 h4 h5
  try dsimp only
  unfold Ej;obtain rfl:v=0:=by omega
  rw [Av oM];refine ⟨_,rfl,?_,by omega⟩;rw [h4,← h5,Adg.eq_def];rfl)
 rw [hr,obs,Ah (by show 1+ByteArray.size _<=_;omega)];rfl
theorem J1 (k:Int) (hk:0<=k/\k<=9223372036854775807) (w:World) (tab:Tab w):Calls Tryz.prog 31 #[.int .i64 k] w fun e w'=>e=.returned (.string (Vl k))/\Below w.heap.size w w':=by
 refine (S4 (vs:=[.int .i64 k]) (Sg (Ae9 hk)) (fun w' hb=>tab.below hb) ⟨_,_,rfl,rfl,rfl⟩).mono ?_;rintro e w' ⟨u,rfl,hb,σ',hm,hv⟩;obtain rfl:u=.string (Vl k):=hv;exact ⟨rfl,hb⟩
end
section
open Go.RowKit Go.Deep
theorem Pn {R:Nat->Prop} (xs:List (Int×Int×ByteArray)) (A:Option Addr) (c:Nat) (l:List Addr) (k:Int) (lo:Nat) (w:World) (h:Sl R w (.pair .int (.pair .int .str)) A c xs l) (hf:Fresh w lo l) (hk:0<=k/\k+l.length<=9223372036854775807) {w0:World} (tab:Tab w0) (hb0:Below w0.heap.size w0 w) (hlo:w0.heap.size<=lo) :
  Calls Tryz.prog 32 #[.slice A xs.length c,.int .i64 k] w fun e w'=>e=.returned (.int .i64 (k+l.length))/\MarkedAs l k w w':=by
 have hn:=(Hl h).2;have hlen:=Jj (t:=.pair .int (.pair .int .str)) rfl h;simp only [Ty.size,Nat.reduceAdd] at hlen
 go_enter Tryz.func32,Tryz.ntmps32
 go_wp2
 go_loopw [1,5] (fun m i wr=>∃ j:Nat,j<=xs.length/\i=.int .i64 j/\m=.int .i64 (k+(j:Int)*3)/\MarkedAs (l.take (j*3)) k w wr) (fun _ i _=>xs.length - (intOf i).toNat)
 case atStart=>exact ⟨0,by omega,rfl,by simp,by simpa using MarkedAs.nil w k⟩
 case round =>
  obtain ⟨j,hj,rfl,rfl,hm⟩:=hrel;by_cases hlt:j<xs.length
  ·obtain ⟨b,o,rfl,hl,hcell⟩:=Iv (t:=.pair .int (.pair .int .str)) rfl h oM;have c0:=hcell j hlt 0 (by decide);have c1:=hcell j hlt 1 (by decide);have c2:=hcell j hlt 2 (by decide);obtain ⟨⟨x0,x1,x2⟩,hx⟩:∃ x,x=xs[j]:=⟨_,rfl⟩
   rw [← hx] at c0 c1 c2
   replace c0:w.cell? ⟨b,o+j*3,none⟩=some (.int .i64 x0):=c0
   replace c1:w.cell? ⟨b,o+j*3+1,none⟩=some (.int .i64 x1):=by rw [Nat.add_assoc];exact c1
   replace c2:w.cell? ⟨b,o+j*3+2,none⟩=some (.string x2):=by rw [Nat.add_assoc];exact c2
   have p0:l[j*3]'oM=⟨b,o+j*3,none⟩:=by simp [hl,Ty.size]
   have p1:l[j*3+1]'oM=⟨b,o+j*3+1,none⟩:=by simp [hl,Ty.size,Nat.add_assoc]
   have p2:l[j*3+2]'oM=⟨b,o+j*3+2,none⟩:=by simp [hl,Ty.size,Nat.add_assoc]
   have d0:=hm.cellOf hf (show j*3<=j*3 by omega) oM (by rw [p0];exact c0);have z0:=hm.thaw hf (p:=l[j*3]'oM) (List.getElem_mem _);rw [p0] at d0 z0;have d1:=hm.cellOf hf (show j*3<=j*3+1 by omega) oM (by rw [p1];exact c1);have z1:=hm.thaw hf (p:=l[j*3+1]'oM) (List.getElem_mem _);rw [p1] at d1 z1;have d2:=hm.cellOf hf (show j*3<=j*3+2 by omega) oM (by rw [p2];exact c2);have z2:=hm.thaw hf (p:=l[j*3+2]'oM) (List.getElem_mem _);rw [p2] at d2 z2;have m0:=hm.step hf (show j*3<l.length by omega) (u:=.int .i64 x0) (by rw [p0];exact c0) trivial p0.symm (v:=.int .i64 (k+(j:Int)*3)) (by simp only [Jz] <;> (congr 1 <;> omega));have m1:=m0.step hf (show j*3+1<l.length by omega) (u:=.int .i64 x1) (by rw [p1];exact c1) trivial p1.symm (v:=.int .i64 (k+(j:Int)*3+1)) (by simp only [Jz] <;> (congr 1 <;> omega));have hM1:=Lib.hid m1;have hTb:∀ w':World,MarkedAs (l.take (j*3+1+1)) k w w'->Tab w':=fun w' m=>tab.below (hb0.trans (m.belowAt (fun p hp=>Nat.le_trans hlo (hf.2 p (List.mem_of_mem_take hp)).1) (Nat.le_trans hb0.size (Nat.le_refl _))))
   clear hcell hx hm m0 m1
   go_wp2_with fail
   refine (J1 (k+(j:Int)*3+1+1) oM _ (hTb _ hM1.out)).mono ?_;rintro e w1 ⟨rfl,hb1⟩;have m2:=hM1.out.below (by simpa using hb1);have d3:=m2.cellOf hf (show j*3+1+1<=j*3+2 by omega) oM (by rw [p2];exact c2);have z3:=m2.thaw hf (p:=l[j*3+2]'oM) (List.getElem_mem _);rw [p2] at d3 z3;have hM2:=Lib.hid (m2.step hf (show j*3+1+1<l.length by omega) (u:=.string x2) (by simp only [show j*3+1+1=j*3+2 from rfl];rw [p2];exact c2) trivial (by simp only [show j*3+1+1=j*3+2 from rfl];exact p2.symm) (v:=.string (Vl (k+(j:Int)*3+1+1))) (by simp only [Jz] <;> (congr 2 <;> omega)))
   clear m2 hb1 d0 d1 d2 z0 z1 z2
   go_wp2_with fail
   go_roundw
   case rel=>exact ⟨j+1,by omega,by go_num,by congr 1;omega,by simpa [Nat.add_mul,Int.add_assoc] using hM2.out⟩
   case measure=>simp [intOf];omega
  ·obtain rfl:j=xs.length:=by omega
   go_wp2
   go_ret
   rw [List.take_of_length_le oM] at hm;exact ⟨Lb (by rw [hlen];omega),hm⟩
end
section
open Go.RowKit Go.Deep
section
variable {R:Nat->Prop} {w w1 w2:World} {k:Int} {lo:Nat} {F l r:List Addr} {p:Addr} {u:Value}
theorem MarkedAs.spot (h:MarkedAs F k w w1) (hf:Fresh w lo (F++p :: r)) (hu:w.cell? p=some u):w1.cell? p=some u/\w1.frozen? p=false:=by
 have e:(F++p :: r).take F.length=F:=by simp
 have h':MarkedAs ((F++p :: r).take F.length) k w w1:=by rw [e];exact h
 have hi:F.length<(F++p :: r).length:=by simp
 have hg:(F++p :: r)[F.length]'hi=p:=by simp
 have hc:=h'.cellOf hf (Nat.le_refl _) hi (by rw [hg];exact hu);rw [hg] at hc;exact ⟨hc,h'.thaw hf (by simp)⟩
theorem MarkedAs.spotM (h:MarkedAs F k w w1) (hf:Fresh w lo (F++r)) (hp:p∈r) (hu:w.cell? p=some u):w1.cell? p=some u/\w1.frozen? p=false :=
 have hlt:=(hf.2 p (List.mem_append_right _ hp)).2
 ⟨(h.frame.cell p hlt.1 fun hq=>(List.nodup_append.1 hf.1).2.2 _ hq _ hp rfl).trans hu,(h.frame.frozen p hlt.1).trans hlt.2⟩
theorem MarkedAs.put {v:Value} (h:MarkedAs F k w w1) (hf:Fresh w lo (F++p :: r)) (hu:w.cell? p=some u) (hl:Py u) (hv:v=Jz u (k+F.length)):MarkedAs (F++[p]) k w (w1.setCell p v):=by
 have e:(F++p :: r).take F.length=F:=by simp
 have h':MarkedAs ((F++p :: r).take F.length) k w w1:=by rw [e];exact h
 have hi:F.length<(F++p :: r).length:=by simp
 have hg:(F++p :: r)[F.length]'hi=p:=by simp
 have:=h'.step hf hi (u:=u) (by rw [hg];exact hu) hl (p:=p) hg.symm hv
 rwa [List.take_succ_eq_append_getElem hi,e,hg] at this
theorem MarkedAs.rest (h:MarkedAs F k w w1) (hf:Fresh w lo (F++(l++r))):Fresh w1 lo l:=by
 rw [← List.append_assoc] at hf;exact hf.sub1.sub2.marked h.frame
theorem MarkedAs.sl_ {t:Ty} {A:Option Addr} {c:Nat} {xs:List t.D} (h:MarkedAs F k w w1) (hf:Fresh w lo (F++(l++r))) (hs:Sl R w t A c xs l):Sl R w1 t A c xs l :=
 h.keepSl hs fun p hp hq=>(List.nodup_append.1 hf.1).2.2 _ hq _ (List.mem_append_left _ hp) rfl
theorem MarkedAs.then_ (h:MarkedAs F k w w1) (hf:Fresh w lo (F++(l++r))) {k':Int} (hk:k'=k+F.length) (h2:MarkedAs l k' w1 w2):MarkedAs (F++l) k w w2:=by
 subst hk;rw [← List.append_assoc] at hf;exact h.append h2 hf.sub1
theorem Fresh.next (hf:Fresh w lo (F++(l++r))):Fresh w lo ((F++l)++r):=by rwa [List.append_assoc]
theorem Fresh.next1 (hf:Fresh w lo (F++(p :: r))):Fresh w lo ((F++[p])++r):=by simpa using hf
end
end
section
theorem It (b:Bool):Ce (some (if b then Ctl.next () else Ctl.out false)) (fun _:Unit=>some true)=some b:=by cases b <;> rfl
theorem Lt (x lo hi:Int):Bu x lo hi=some (inR x lo hi):=by
 unfold Bu inR;by_cases h:lo<=x <;> simp [h]
theorem Kv (x lo hi:Int):Br x lo hi=some (inR x lo hi):=by
 unfold Br inR;by_cases h:lo<=x <;> simp [h]
theorem Anh (xs:List Int) (lo hi:Int) (hx:xs.length<=1099511627776):J8 xs lo hi=some (xs.all fun x=>inR x lo hi):=by
 unfold J8;rw [D1 xs (fun x=>inR x lo hi) (.next ()) (.out false) oM (fun i x h=>?_) ?_,It]
 ·unfold Jo;rw [Av oM,cond_false]
 ·have:=An h;unfold Jo;rw [Ay oM,cond_true,h,obs,Lt,obs,Ah oM];cases inR x lo hi <;> rfl
theorem Amg {p:Int} (h:inR p 2 97=false):isF p=false:=by rcases Ahw.1 h with h|h <;> simp [isF] <;> omega
theorem Vr (p:Int):Ev p=some (isF p):=by
 unfold Ev;rw [Lt,obs];cases hr:inR p 2 97
 ·rw [Amg hr];rfl
 rw [Bool.not_true,cond_false];obtain ⟨h1,h2⟩:=Ct.1 hr;obtain ⟨n,rfl⟩:=Int.eq_ofNat_of_zero_le (show 0<=p by omega)
 have h:Aq (fun s_:Nat=>F4 n s_) 4611686018427387904 2=some (if isF n then .next () else .out false):=by
  refine Er 8 (fun i s=>s=i+2/\Yo n s=true) oM _ ⟨rfl,by simp [Yo,List.range_succ]⟩ ?_ ?_
  ·rintro i s hi ⟨hs,hd⟩;unfold F4;have hm:((s:Int)*(s:Int))=((s*s:Nat):Int):=by simp
   have hss:s*s<=9*9:=Nat.mul_le_mul oM oM;rw [hm,Bk oM oM];by_cases hle:s*s<=n
   ·rw [Ay oM,cond_true,Ah oM,show Int.tmod (n:Int) (s:Int)=((n % s:Nat):Int) from by rw [Int.tmod_eq_emod_of_nonneg oM];rfl];by_cases h0:n % s=0
    ·refine .inr ?_;rw [h0,Alq n oM s oM oM hle h0];rfl
    ·refine .inl ⟨s+1,?_,by omega,Ae5 hd h0⟩;rw [show (((n % s:Nat):Int)==0)=false from by rw [beq_eq_false_iff_ne];omega,cond_false,Ah oM]
   ·refine .inr ?_;rw [Av oM,cond_false,Yx n oM oM s oM hd oM];rfl
  ·rintro s ⟨hs,hd⟩;obtain rfl:s=10:=by omega
   unfold F4;rw [show wI (((10:Nat):Int)*((10:Nat):Int))=100 from Bk oM oM,Av oM,cond_false,Yx n oM oM 10 oM hd oM];rfl
 rw [h,It]
theorem Abx (p x:Int):F9 p x=some (inR x 0 (p - 1)):=by
 unfold F9 inR;by_cases h:0<=x
 ·simp [h,show (x<p↔x<=p - 1) by omega]
 ·simp [h]
theorem An9 (p:Int) (xs:List Int) (hp:2<=p/\p<=97) (hx:xs.length<=1099511627776):Li p xs=some (xs.all fun x=>inR x 0 (p - 1)):=by
 unfold Li;rw [Bk oM oM,Anh _ _ _ hx];rfl
theorem Adz (p:Int) (xs:List Int) (n:Int) (hx:xs.length<=1099511627776):G5 p xs n=some (((xs.length:Nat):Int)==n&&xs.all fun x=>inR x 0 (p - 1)):=by
 unfold G5;cases hn:((xs.length:Nat):Int)==n
 ·rw [show (((xs.length:Nat):Int) !=n)=true by simp only [bne,hn,Bool.not_false]];rfl
 rw [show (((xs.length:Nat):Int) !=n)=false by simp only [bne,hn,Bool.not_true],cond_false];rw [D1 xs (fun x=>inR x 0 (p - 1)) (.next ()) (.out false) oM (fun i x h=>?_) ?_,It,Bool.true_and]
 ·unfold Ha;rw [Av oM,cond_false]
 ·have:=An h;unfold Ha;rw [Ay oM,cond_true,h,obs,Abx,obs,Ah oM];cases inR x 0 (p - 1) <;> rfl
theorem Ap2 {p x:Int} (hp:2<=p/\p<=97):Nc p x=some (x % p):=by
 unfold Nc;rw [Ah oM]
 have e1:x.tmod p=if 0<=x∨x % p=0 then x % p else x % p - p:=by
  simp only [Int.tmod_eq_emod,Int.dvd_iff_emod_eq_zero];split <;> simp <;> omega
 have h1:=Int.emod_nonneg x (show p≠0 by omega);have h2:=Int.emod_lt_of_pos x (show 0<p by omega);by_cases h:x.tmod p<0
 ·rw [Ay h,cond_true,obs,Bk oM oM];congr 1;split at e1 <;> omega
 ·rw [Av h,cond_false,obs];congr 1;split at e1 <;> omega
theorem Af0 (xs:List Int) (h:xs.length<=1000000):Hs xs=some xs:=by
 unfold Hs;rw [Ah oM]
theorem Af7 (xs:List Int) (h:xs.length<=1000000):H2 xs=some xs:=by
 unfold H2;rw [Ah oM]
theorem Aao {p x y:Int} (hp:2<=p/\p<=97) (hx:0<=x/\x<p) (hy:0<=y/\y<p):0<=x*y/\x*y<=10000:=by
 refine ⟨Int.mul_nonneg hx.1 hy.1,?_⟩;have h1:x*y<=97*y:=Int.mul_le_mul_of_nonneg_right oM hy.1;omega
theorem Agv {p x y:Int} (hp:2<=p/\p<=97) (hx:0<=x/\x<p) (hy:0<=y/\y<p):Hj p x y=some ((x*y) % p):=by
 have:=Aao hp hx hy;unfold Hj;rw [Ah oM,Bk oM oM,Int.tmod_eq_emod_of_nonneg oM]
end
section
theorem An2 (a b:ByteArray):(a.toList==b.toList)=(a.data.toList==b.data.toList):=by rw [ByteArray.toList_eq,ByteArray.toList_eq]
theorem Aew (s:ByteArray) (i:Nat):s[i]? =s.data.toList[i]?:=by
 by_cases h:i<s.size
 ·rw [getElem?_pos s i h];have h':i<s.data.toList.length:=by simpa using h
  rw [gEg h'];rfl
 ·rw [getElem?_neg s i h,List.getElem?_eq_none (by simp;exact Nat.le_of_not_lt h)]
theorem Alp (s:ByteArray):s.size=s.data.toList.length:=by
 show s.data.size=_;exact Array.length_toList.symm
def loB (c:UInt8):Bool:=decide (97<=((c.toNat:Nat):Int))&&decide (((c.toNat:Nat):Int)<=122)
def dgB (c:UInt8):Bool:=decide (48<=((c.toNat:Nat):Int))&&decide (((c.toNat:Nat):Int)<=57)
theorem Yg (c:UInt8):Fj ((c.toNat:Nat):Int)=some (loB c):=by
 unfold Fj loB;cases decide (97<=((c.toNat:Nat):Int)) <;> rfl
theorem Aho (c:UInt8):Hz ((c.toNat:Nat):Int)=some (dgB c):=by
 unfold Hz dgB;cases decide (48<=((c.toNat:Nat):Int)) <;> rfl
def Qs:List ByteArray:=[(⟨#[105,100]⟩:ByteArray),(⟨#[115,119,97,112]⟩:ByteArray),(⟨#[99,111,112,121]⟩:ByteArray),(⟨#[100,105,115,99,97,114,100]⟩:ByteArray),(⟨#[97,100,100]⟩:ByteArray),(⟨#[122,101,114,111]⟩:ByteArray),(⟨#[115,99,97,108,101]⟩:ByteArray),(⟨#[100,101,108,97,121]⟩:ByteArray),(⟨#[99,111,99,111,112,121]⟩:ByteArray),(⟨#[99,111,100,105,115,99,97,114,100]⟩:ByteArray),(⟨#[99,111,97,100,100]⟩:ByteArray),(⟨#[99,111,122,101,114,111]⟩:ByteArray),(⟨#[99,111,115,99,97,108,101]⟩:ByteArray),(⟨#[99,111,100,101,108,97,121]⟩:ByteArray)]
theorem Afb:Hn=some Qs:=rfl
theorem Ada:Ip=some ((⟨#[]⟩:ByteArray) :: Qs):=rfl
theorem Aoy (l:List ByteArray) (hl:l.length<=1000) (s:ByteArray):Ja l s=some (l.any fun x=>x.toList==s.toList):=by
 unfold Ja
 have hs:∀ i x,l[i]? =some x->C2 l s i=some (if x.toList==s.toList then Ctl.out (Ctl.out true) else Ctl.next (i+1)):=fun i x h=>by
  have:=An h;unfold C2;rw [Ay oM,cond_true,h,obs,Ah oM];cases x.toList==s.toList <;> rfl
 have he:C2 l s l.length=some (Ctl.out (Ctl.next ())):=by
  unfold C2;rw [Av oM,cond_false]
 rcases Tc (body:=fun s_:Nat=>C2 l s s_) l (fun x=>x.toList==s.toList) (Ctl.next ()) (fun i=>Ctl.out true) (F:=4611686018427387904) oM hs he with ⟨h1,i,hi,h2⟩|⟨h1,h2⟩
 ·rw [h2,h1];rfl
 ·rw [h2,h1];rfl
theorem Ajs (s:ByteArray):∃ k:Int,I7 s=some k/\(k !=17)=(((⟨#[]⟩:ByteArray) :: Qs).any fun x=>x.toList==s.toList):=by
 unfold I7;rw [Ada,obs];have hl:((⟨#[]⟩:ByteArray) :: Qs).length=15:=rfl;generalize ((⟨#[]⟩:ByteArray) :: Qs)=l at hl ⊢
 have hs:∀ i x,l[i]? =some x->C0 l s i=some (if x.toList==s.toList then Ctl.out (Ctl.out (i:Int)) else Ctl.next (i+1)):=fun i x h=>by
  have:=An h;unfold C0;rw [Ay oM,cond_true,h,obs,Ah oM];cases x.toList==s.toList <;> rfl
 have he:C0 l s l.length=some (Ctl.out (Ctl.next ())):=by
  unfold C0;rw [Av oM,cond_false]
 rcases Tc (body:=fun s_:Nat=>C0 l s s_) l (fun x=>x.toList==s.toList) (Ctl.next ()) (fun i=>Ctl.out (i:Int)) (F:=4611686018427387904) oM hs he with ⟨h1,i,hi,h2⟩|⟨h1,h2⟩
 ·rw [h2,h1];exact ⟨_,rfl,by rw [bne_iff_ne];omega⟩
 ·rw [h2,h1];exact ⟨_,rfl,rfl⟩
theorem Aj1 (s:ByteArray):∃ b,Iz s=some b/\I3 s=some b:=by
 unfold Iz I3 Lw;rw [Kv,Lt];cases hr:inR ((s.size:Nat):Int) 1 8
 ·exact ⟨false,rfl,rfl⟩
 have hb:=Ct.1 hr;have hsz:=Alp s;obtain ⟨c,hc⟩:∃ c,s[0]? =some c:=⟨_,getElem?_pos s 0 oM⟩
 have hcl:s.data.toList[0]? =some c:=by rw [← Aew];exact hc
 rw [obs,obs,Bool.not_true,cond_false,cond_false,hc,obs,obs,Yg,obs,obs];cases hlo:loB c
 ·refine ⟨false,rfl,?_⟩
  have:(decide (((c.toNat:Nat):Int)<97))=true∨decide (122<((c.toNat:Nat):Int))=true:=by
   simp only [decide_eq_true_eq];simp only [loB,Bool.and_eq_false_iff,decide_eq_false_iff_not] at hlo;omega
  rcases this with h|h
  ·rw [h];rfl
  ·rw [h];cases decide (((c.toNat:Nat):Int)<97) <;> rfl
 have hlo':=hlo;simp only [loB,Bool.and_eq_true,decide_eq_true_eq] at hlo';obtain ⟨k,hk,hk2⟩:=Ajs s;rw [hk,obs,Bool.not_true,cond_false,obs,hk2,Av (show ¬ ((c.toNat:Nat):Int)<97 by omega),cond_false,Av (show ¬ 122<((c.toNat:Nat):Int) by omega),obs,cond_false]
 have hne:((⟨#[]⟩:ByteArray).toList==s.toList)=false:=by
  rw [An2,beq_eq_false_iff_ne];intro e;rw [← e] at hcl;simp at hcl
 rw [List.any_cons,hne,Bool.false_or]
 -- the rest of the letters
 have hI:Aq (fun s_:Nat=>F5 s s_) 4611686018427387904 0=some (if s.data.toList.all (fun x=>loB x||dgB x) then Ctl.next () else Ctl.out false):=by
  refine D1 s.data.toList (fun x=>loB x||dgB x) (Ctl.next ()) (Ctl.out false) oM (fun i x h=>?_) ?_
  ·have:=An h;unfold F5;rw [Ay oM,cond_true,Aew,h,obs,Yg,obs,obs,Aho,obs,Ah oM];cases loB x <;> cases dgB x <;> rfl
  ·unfold F5;rw [Av oM,cond_false]
 have hstep:∀ i x,s.data.toList[i]? =some x->Bg s i=some (if loB x||dgB x then Ctl.next (i+1) else Ctl.out (Ctl.out false)):=fun i x h=>by
  have:=An h;unfold Bg;rw [Ay oM,cond_true,Aew,h];simp only [obs];rw [Ah oM]
  have e:∀ n:Int,(cond (decide (n<97)) (cond (decide (n<48)) (some true) (some (decide (57<n)))) (cond (decide (122<n)) (cond (decide (n<48)) (some true) (some (decide (57<n)))) (some false)):Option Bool)=some (!((decide (97<=n)&&decide (n<=122))||(decide (48<=n)&&decide (n<=57)))):=by
   intro n;by_cases h1:n<97
   ·by_cases h2:n<48
    ·rw [Ay h1,Ay h2,Av (show ¬ 97<=n by omega),Av (show ¬ 48<=n by omega)];rfl
    ·by_cases h3:57<n
     ·rw [Ay h1,Av h2,Ay h3,Av (show ¬ 97<=n by omega),Av (show ¬ n<=57 by omega),Bool.and_false];rfl
     ·rw [Ay h1,Av h2,Av h3,Av (show ¬ 97<=n by omega),Ay (show 48<=n by omega),Ay (show n<=57 by omega)];rfl
   ·by_cases h2:122<n
    ·rw [Av h1,Ay h2,Av (show ¬ n<48 by omega),Ay (show 57<n by omega),Av (show ¬ n<=122 by omega),Av (show ¬ n<=57 by omega),Bool.and_false,Bool.and_false];rfl
    ·rw [Av h1,Av h2,Ay (show 97<=n by omega),Ay (show n<=122 by omega)];rfl
  have e':=e ((x.toNat:Nat):Int);rw [e',obs];show cond (!(loB x||dgB x)) _ _=_;cases loB x||dgB x <;> rfl
 have hS0:Aq (fun s_:Nat=>Bg s s_) (4611686018427387904+1) 0=some (if s.data.toList.all (fun x=>loB x||dgB x) then Ctl.next () else Ctl.out false):=by
  refine D1 s.data.toList (fun x=>loB x||dgB x) (Ctl.next ()) (Ctl.out false) oM hstep ?_;unfold Bg;rw [Av oM,cond_false]
 have hS:Aq (fun s_:Nat=>Bg s s_) 4611686018427387904 1=some (if s.data.toList.all (fun x=>loB x||dgB x) then Ctl.next () else Ctl.out false):=by
  rw [← hS0];have h0:Bg s 0=some (Ctl.next 1):=by rw [hstep 0 c hcl,hlo];rfl
  have hu:∀ n,Aq (fun s_:Nat=>Bg s s_) (n+1) 0=Aq (fun s_:Nat=>Bg s s_) n 1:=fun n=>by
   show (Bg s 0).bind _=_;rw [h0];rfl
  exact (hu _).symm
 rw [hI,hS,Afb,obs,Aoy Qs (by decide) s];generalize (Qs.any fun x=>x.toList==s.toList)=u;cases s.data.toList.all (fun x=>loB x||dgB x) <;> cases u <;> exact ⟨_,rfl,rfl⟩
end
section
abbrev Nd:=Int×Int×ByteArray
abbrev Oh (s:ByteArray):Bool:=s.toList==(⟨#[]⟩:ByteArray).toList
def Ai4 (k v:Int):Bool:=if k=7∨k=13 then inR v 0 96 else v==0
def lfW (n:Nd):Option (Int×Int) :=
 if Oh n.2.2=true then
  if n.1=1 then (if 0<=n.2.1/\n.2.1<=12 then some (n.2.1,n.2.1) else none)
  else if n.1=2 then (if n.2.1=0 then some (2,2) else none)
  else if 3<=n.1/\n.1<=14 then (if Ai4 n.1 n.2.1=true then some (gwV n.1) else none)
  else none
 else none
def okW (w:Int×Int):Prop:=(0<=w.1/\w.1<=12)/\(0<=w.2/\w.2<=12)
theorem An5 (k:Int):okW (gwV k):=by
 unfold gwV
 repeat' split
 all_goals exact ⟨⟨by decide,by decide⟩,⟨by decide,by decide⟩⟩
theorem Aj9 {n:Nd} {w:Int×Int} (h:lfW n=some w):okW w:=by
 unfold lfW at h;split at h
 ·split at h
  ·split at h
   ·rename_i h1;obtain rfl:=osj h;exact ⟨h1,h1⟩
   ·cases h
  ·split at h
   ·split at h
    ·obtain rfl:=osj h;exact ⟨⟨by decide,by decide⟩,⟨by decide,by decide⟩⟩
    ·cases h
   ·split at h
    ·split at h
     ·obtain rfl:=osj h;exact An5 _
     ·cases h
    ·cases h
 ·cases h
theorem Rw {n:Nd} {w:Int×Int} (h:lfW n=some w):1<=n.1/\n.1<=14:=by
 unfold lfW at h;split at h
 ·split at h
  ·omega
  ·split at h
   ·omega
   ·split at h
    ·omega
    ·cases h
 ·cases h
def lfL (lib:List (ByteArray×Int×Int×List Nd)) (n:Nd):Option (Int×Int) :=
 if n.1=17 then (if n.2.1=0 then (lib.find? fun d=>d.1.toList==n.2.2.toList).map fun d=>(d.2.1,d.2.2.1) else none) else lfW n
theorem Alw:lfL []=lfW:=by
 funext n;unfold lfL;by_cases h:n.1=17
 ·rw [if_pos h];cases hw:lfW n with
  | some w=>have:=Rw hw;omega
  | none=>split <;> rfl
 ·rw [if_neg h]
theorem Ad1 {lib:List (ByteArray×Int×Int×List Nd)} (hl:∀ d∈lib,okW (d.2.1,d.2.2.1)) (n:Nd) (w:Int×Int) (h:lfL lib n=some w):okW w:=by
 unfold lfL at h;split at h
 ·split at h
  ·obtain ⟨d,hd,rfl⟩:=oms.1 h;exact hl d (List.mem_of_find?_eq_some hd)
  ·cases h
 ·exact Aj9 h
section
variable (lf:Nd->Option (Int×Int))
def Gi (n:Nd) (T:List (Int×Int)):Option (List (Int×Int)) :=
 if n.1=15∨n.1=16 then
  if n.2.1=0/\Oh n.2.2=true then
   match T with
   | b :: a :: r=>if n.1=15 then (if a.2=b.1 then some ((a.1,b.2) :: r) else none) else (if a.1+b.1<=12/\a.2+b.2<=12 then some ((a.1+b.1,a.2+b.2) :: r) else none)
   | _=>none
  else none
 else (lf n).map (· :: T)
def Jf:List Nd->List (Int×Int)->Option (List (Int×Int))
 | [],T=>some T
 | n :: r,T=>(Gi lf n T).bind (Jf r)
end
section
variable {lf:Nd->Option (Int×Int)}
def okT (T:List (Int×Int)):Prop:=∀ w∈T,okW w
theorem N6 (hlf:∀ n w,lf n=some w->okW w) {n:Nd} {T T':List (Int×Int)} (h:Gi lf n T=some T') (hT:okT T):okT T':=by
 unfold Gi at h;split at h
 ·split at h
  ·split at h
   ·rename_i b a r;have ha:=hT a (by simp);have hb:=hT b (by simp);have hr:okT r:=fun w hw=>hT w (by simp [hw])
    split at h
    ·split at h
     ·obtain rfl:=osj h;intro w hw;rcases List.mem_cons.1 hw with rfl|hw
      ·exact ⟨ha.1,hb.2⟩
      ·exact hr w hw
     ·cases h
    ·split at h
     ·rename_i h1;obtain rfl:=osj h;intro w hw;rcases List.mem_cons.1 hw with rfl|hw
      ·have:=ha.1;have:=hb.1;have:=ha.2;have:=hb.2;refine ⟨⟨?_,h1.1⟩,⟨?_,h1.2⟩⟩ <;> (try show (0:Int)<=_+_) <;> omega
      ·exact hr w hw
     ·cases h
   ·cases h
  ·cases h
 ·obtain ⟨w,hw,rfl⟩:=oms.1 h;intro v hv;rcases List.mem_cons.1 hv with rfl|hv
  ·exact hlf _ _ hw
  ·exact hT v hv
theorem Vs:∀ (xs ys:List Nd) (T:List (Int×Int)),Jf lf (xs++ys) T=(Jf lf xs T).bind (Jf lf ys)
 | [],_,_=>rfl
 | n :: r,ys,T=>by
  show (Gi lf n T).bind (Jf lf (r++ys))=((Gi lf n T).bind (Jf lf r)).bind (Jf lf ys);cases Gi lf n T with
  | none=>rfl
  | some T'=>exact Vs r ys T'
theorem Tb {xs:List Nd} {k:Nat} {n:Nd} {T:List (Int×Int)} (h:xs[k]? =some n) (hT:Jf lf (xs.take k) []=some T):Jf lf (xs.take (k+1)) []=Gi lf n T:=by
 rw [List.take_add_one,h,Vs,hT,obs];show (Gi lf n T).bind (Jf lf [])=_;cases Gi lf n T <;> rfl
theorem Te {xs:List Nd} {k:Nat} (h:Jf lf (xs.take k) []=none):Jf lf xs []=none:=by
 rw [← List.take_append_drop k xs,Vs,h];rfl
theorem Afn {xs:List Nd} {T:List (Int×Int)} (hx:xs≠[]) (h:Jf lf xs []=some T):T≠[]:=by
 obtain ⟨k,hk⟩:∃ k,xs.length=k+1:=⟨xs.length - 1,by have:=List.length_pos_iff.2 hx;omega⟩
 have hl:xs.take xs.length=xs:=List.take_length;have hn:=gEg (show k<xs.length by omega);cases hp:Jf lf (xs.take k) [] with
 | none=>rw [Te hp] at h;cases h
 | some T0 =>
  have h2:=Tb hn hp;rw [← hk,hl,h] at h2;intro e;subst e;unfold Gi at h2;split at h2
  ·split at h2
   ·split at h2
    ·split at h2 <;> split at h2 <;> cases h2
    ·cases h2
   ·cases h2
  ·cases hw:lf (xs[k]'oM) with
   | none=>rw [hw] at h2;cases h2
   | some w=>rw [hw] at h2;cases h2
end
def tyG (lf:Nd->Option (Int×Int)) (xs:List Nd):Option (Int×Int) :=
 if 1<=xs.length/\xs.length<=400 then (match Jf lf xs [] with|some [w]=>some w|_=>none) else none
def tyV (xs:List Nd):Option (Int×Int):=tyG lfW xs
-- leaves on both sides
theorem Aog (n:Nd):∃ r:Int×Int×Bool,D3 n.1 n.2.1 n.2.2=some r/\match lfW n with|some w=>r=(w.1,w.2,true)|none=>r.2.2=false:=by
 obtain ⟨k,v,s⟩:=n;dsimp only;unfold D3 lfW;dsimp only;cases hs:Oh s
 ·have hs':(s.toList==(⟨#[]⟩:ByteArray).toList)=false:=hs;rw [hs'];exact ⟨_,rfl,rfl⟩
 have hs':(s.toList==(⟨#[]⟩:ByteArray).toList)=true:=hs;rw [hs',if_pos rfl,Bool.not_true,cond_false];by_cases h1:k=1
 ·subst h1;rw [beq_self_eq_true,cond_true,Kv,if_pos rfl];by_cases h2:0<=v/\v<=12
  ·rw [if_pos h2,Ct.2 h2];exact ⟨_,rfl,rfl⟩
  ·rw [if_neg h2,show inR v 0 12=false by rw [Bool.eq_false_iff];intro e;exact h2 (Ct.1 e)];exact ⟨_,rfl,rfl⟩
 rw [beq_eq_false_iff_ne.2 h1,cond_false,if_neg h1];by_cases h2:k=2
 ·subst h2;rw [beq_self_eq_true,cond_true,if_pos rfl];by_cases h3:v=0
  ·subst h3;exact ⟨_,rfl,rfl⟩
  ·rw [if_neg h3,beq_eq_false_iff_ne.2 h3];exact ⟨_,rfl,rfl⟩
 rw [beq_eq_false_iff_ne.2 h2,cond_false,if_neg h2];unfold Hc;rw [Kv];by_cases h3:3<=k/\k<=14
 ·rw [if_pos h3,Ct.2 h3,obs,obs,cond_true];unfold Ex Dy Em;rw [Ah h3,obs];by_cases h7:k=7∨k=13
  ·have e:cond (k==7) (some true) (some (k==13))=some true:=by
    rcases h7 with rfl|rfl <;> rfl
   rw [e,obs,obs,cond_true,Kv,show Ai4 k v=inR v 0 96 from if_pos h7];cases inR v 0 96 <;> exact ⟨_,rfl,rfl⟩
  ·have e:cond (k==7) (some true) (some (k==13))=some false:=by
    rw [beq_eq_false_iff_ne.2 (fun e=>h7 (.inl e)),beq_eq_false_iff_ne.2 (fun e=>h7 (.inr e))];rfl
   rw [e,obs,obs,cond_false,show Ai4 k v=(v==0) from if_neg h7];cases v==0 <;> exact ⟨_,rfl,rfl⟩
 ·rw [if_neg h3,show inR k 3 14=false by rw [Bool.eq_false_iff];intro e;exact h3 (Ct.1 e)];exact ⟨_,rfl,rfl⟩
theorem Ai9 (n:Nd):I4 n.1 n.2.1 n.2.2=some (lfW n).isSome:=by
 obtain ⟨k,v,s⟩:=n;dsimp only;unfold I4 lfW;dsimp only;cases hs:Oh s
 ·have hs':(s.toList==(⟨#[]⟩:ByteArray).toList)=false:=hs;rw [hs'];rfl
 have hs':(s.toList==(⟨#[]⟩:ByteArray).toList)=true:=hs;rw [hs',if_pos rfl,Bool.not_true,cond_false,Lt,obs];by_cases h0:1<=k/\k<=14
 ·rw [Ct.2 h0,obs,Bool.not_true,cond_false];by_cases h1:k=1
  ·subst h1;rw [beq_self_eq_true,cond_true,Lt,if_pos rfl];by_cases h2:0<=v/\v<=12
   ·rw [if_pos h2,Ct.2 h2];rfl
   ·rw [if_neg h2,show inR v 0 12=false by rw [Bool.eq_false_iff];intro e;exact h2 (Ct.1 e)];rfl
  rw [beq_eq_false_iff_ne.2 h1,cond_false,if_neg h1];by_cases h7:k=7∨k=13
  ·have e:cond (k==7) (some (k==7)) (some (k==13))=some true:=by
    rcases h7 with rfl|rfl <;> rfl
   rw [e,obs,cond_true,Lt,if_neg oM,if_pos oM,show Ai4 k v=inR v 0 96 from if_pos h7];cases inR v 0 96 <;> rfl
  ·have e:cond (k==7) (some (k==7)) (some (k==13))=some false:=by
    rw [beq_eq_false_iff_ne.2 (fun e=>h7 (.inl e)),beq_eq_false_iff_ne.2 (fun e=>h7 (.inr e))];rfl
   rw [e,obs,cond_false];by_cases h2:k=2
   ·rw [if_pos h2];by_cases h3:v=0
    ·rw [if_pos h3,beq_iff_eq.2 h3];rfl
    ·rw [if_neg h3,beq_eq_false_iff_ne.2 h3];rfl
   ·rw [if_neg h2,if_pos oM,show Ai4 k v=(v==0) from if_neg h7];cases v==0 <;> rfl
 ·rw [show inR k 1 14=false by rw [Bool.eq_false_iff];intro e;exact h0 (Ct.1 e),if_neg oM,if_neg oM,if_neg oM];rfl
theorem Alk {n:Nd} {w:Int×Int} (h:lfW n=some w):D0 n.1 n.2.1 n.2.2=some w:=by
 have hk:=Rw h;obtain ⟨k,v,s⟩:=n;dsimp only at hk ⊢;unfold lfW at h;dsimp only at h;unfold D0 I8;split at h
 ·split at h
  ·rename_i h1;subst h1;split at h
   ·obtain rfl:=osj h;rfl
   ·cases h
  ·rename_i h1;rw [beq_eq_false_iff_ne.2 h1,cond_false];split at h
   ·rename_i h2;subst h2;split at h
    ·obtain rfl:=osj h;rfl
    ·cases h
   ·split at h
    ·split at h
     ·obtain rfl:=osj h;have hk':k=3∨k=4∨k=5∨k=6∨k=7∨k=8∨k=9∨k=10∨k=11∨k=12∨k=13∨k=14:=by omega
      rcases hk' with rfl|rfl|rfl|rfl|rfl|rfl|rfl|rfl|rfl|rfl|rfl|rfl <;> rfl
     ·cases h
    ·cases h
 ·cases h
end
section
theorem Ap9 {a b:Int×Int} {r:List (Int×Int)}:(b :: a :: r).reverse=r.reverse++[a,b]:=by simp
theorem Alg {a b:Int×Int} {r:List (Int×Int)}:(r.reverse++[a,b])[r.length]? =some a/\(r.reverse++[a,b])[r.length+1]? =some b:=by
 constructor
 ·rw [List.getElem?_append_right (by simp),List.length_reverse,Nat.sub_self];rfl
 ·rw [List.getElem?_append_right (by simp),List.length_reverse,Nat.add_sub_cancel_left];rfl
theorem Aoi {k:Int} {a b:Int×Int} (ha:okW a) (hb:okW b):Dx k a.1 a.2 b.1 b.2=some (if k=15 then (a.1,b.2,a.2==b.1) else (a.1+b.1,a.2+b.2,decide (a.1+b.1<=12)&&decide (a.2+b.2<=12))):=by
 obtain ⟨⟨a1,a2⟩,a3,a4⟩:=ha;obtain ⟨⟨b1,b2⟩,b3,b4⟩:=hb;unfold Dx Ig;by_cases h:k=15
 ·rw [if_pos h,beq_iff_eq.2 h];rfl
 ·rw [if_neg h,beq_eq_false_iff_ne.2 h,cond_false,Bk (n:=a.1+b.1) oM oM,Bk (n:=a.2+b.2) oM oM];cases decide (a.1+b.1<=12) <;> rfl
def Amf (leaf:Int->Int->ByteArray->Option (Int×Int×Bool)) (a0:List (Int×Int×ByteArray)) (l10_m22:Nat) (l10_m6:List (Int×Int)):Option (Ctl (Nat×(List (Int×Int))) (Ctl (List (Int×Int)) (Int×Int×Bool))) :=
 cond (decide (((l10_m22:Nat):Int)<((a0.length:Nat):Int)))
 (Ce (Option.bind (a0[l10_m22]?) fun x16 =>
  Option.bind (cond (x16.1 !=15)
   (some (x16.1 !=16))
   (some false)) fun l18_m33 =>
  cond l18_m33
   (Option.bind (leaf x16.1 x16.2.1 x16.2.2) fun y22 =>
   cond (!y22.2.2)
    (some (Ctl.out (Ctl.out (Ctl.out (0,0,false)))))
    (og (l10_m6.length+1<=1073741824/\(l10_m6.length+1)*16<=140737488355328) <|
    some (Ctl.next (l10_m6++([(y22.1,y22.2.1)])))))
   (Option.bind (cond (x16.2.1 !=0)
    (some true)
    (cond (!(x16.2.2.toList==(⟨#[]⟩:ByteArray).toList))
     (some true)
     (some (decide (((l10_m6.length:Nat):Int)<2))))) fun l30_m59 =>
   cond l30_m59
    (some (Ctl.out (Ctl.out (Ctl.out (0,0,false)))))
    (Option.bind (Dn l10_m6 (wI ((wI (((l10_m6.length:Nat):Int) - 1)) - 1))) fun x37 =>
    Option.bind (Dn l10_m6 (wI ((wI (((l10_m6.length:Nat):Int) - 1)) - 1))) fun x38 =>
    Option.bind (Dn l10_m6 (wI (((l10_m6.length:Nat):Int) - 1))) fun x39 =>
    Option.bind (Dn l10_m6 (wI (((l10_m6.length:Nat):Int) - 1))) fun x40 =>
    Option.bind (Dx x16.1 x38.1 x38.2 x40.1 x40.2) fun y41 =>
    cond (!y41.2.2)
     (some (Ctl.out (Ctl.out (Ctl.out (0,0,false)))))
     (og ((0:Int)<=0/\0<=wI ((wI (((l10_m6.length:Nat):Int) - 1)) - 1)/\wI ((wI (((l10_m6.length:Nat):Int) - 1)) - 1)<=((l10_m6.length:Nat):Int)) <|
     og (((l10_m6.take ((wI ((wI (((l10_m6.length:Nat):Int) - 1)) - 1)).toNat)).length)+1<=1073741824/\(((l10_m6.take ((wI ((wI (((l10_m6.length:Nat):Int) - 1)) - 1)).toNat)).length)+1)*16<=140737488355328) <|
     some (Ctl.next ((l10_m6.take ((wI ((wI (((l10_m6.length:Nat):Int) - 1)) - 1)).toNat))++([(y41.1,y41.2.1)]))))))) fun l14_m6 =>
 og (l10_m22+1<4611686018427387904) <|
 some (Ctl.next (l10_m22+1,l14_m6)))
 (some (Ctl.out (Ctl.next l10_m6)))
section
variable {lf:Nd->Option (Int×Int)} {leaf:Int->Int->ByteArray->Option (Int×Int×Bool)}
theorem An7 (hlf:∀ n w,lf n=some w->okW w) {xs:List Nd} (hleaf:∀ n∈xs,n.1≠15->n.1≠16->∃ r:Int×Int×Bool,leaf n.1 n.2.1 n.2.2=some r/\match lf n with|some w=>r=(w.1,w.2,true)|none=>r.2.2=false) (hx:1<=xs.length/\xs.length<=400):Aq (fun s_:Nat×List (Int×Int)=>Amf leaf xs s_.1 s_.2) 4611686018427387904 (0,[])=some (match Jf lf xs [] with|some T=>Ctl.next T.reverse|none=>Ctl.out (0,0,false)):=by
 refine Er xs.length (fun k s=>∃ T,s=(k,T.reverse)/\Jf lf (xs.take k) []=some T/\okT T/\T.length<=k) oM _ ⟨[],rfl,rfl,(fun _ h=>by cases h),Nat.le_refl _⟩ ?_ ?_
 ·rintro k s hk ⟨T,rfl,hT,hok,hlen⟩;have hn:=gEg hk;generalize xs[k]=n at hn;have hnext:=Tb hn hT;have hfail:Gi lf n T=none->Jf lf xs []=none:=fun h=>Te (k:=k+1) (by rw [hnext,h])
  have hlr:T.reverse.length=T.length:=by simp
  try dsimp only
  unfold Amf;rw [Ay oM,cond_true,hn,obs];by_cases hj:n.1=15∨n.1=16
  ·have e:(cond (n.1 !=15) (some (n.1 !=16)) (some false):Option Bool)=some false:=by
    rcases hj with h|h <;> rw [h] <;> rfl
   rw [e,obs,cond_false];by_cases hv:n.2.1=0/\Oh n.2.2=true
   ·have hs':(n.2.2.toList==(⟨#[]⟩:ByteArray).toList)=true:=hv.2;rw [hv.1,hs',show ((0:Int) !=0)=false from rfl,cond_false,Bool.not_true,cond_false,obs,hlr]
    match T,hT,hok,hlen,hnext,hfail with
    | [],hT,hok,hlen,hnext,hfail =>
     refine .inr ?_;rw [hfail (by unfold Gi;rw [if_pos hj,if_pos hv]),Ay (by simp),cond_true];rfl
    | [b],hT,hok,hlen,hnext,hfail =>
     refine .inr ?_;rw [hfail (by unfold Gi;rw [if_pos hj,if_pos hv]),Ay (by simp),cond_true];rfl
    | b :: a :: r,hT,hok,hlen,hnext,hfail =>
     have hb:=hok b (by simp);have ha:=hok a (by simp);have hl2:(b :: a :: r).length=r.length+2:=by simp
     have w1:wI (((r.length+2:Nat):Int) - 1)=((r.length+1:Nat):Int):=by rw [Bk oM oM];omega
     have w2:wI (((r.length+1:Nat):Int) - 1)=((r.length:Nat):Int):=by rw [Bk oM oM];omega
     obtain ⟨g1,g2⟩:=Alg (a:=a) (b:=b) (r:=r);rw [hl2,Av oM,cond_false,w1,w2,Ap9,Cf oM,Int.toNat_natCast,g1,obs,obs,Cf oM,Int.toNat_natCast,g2,obs,obs,Aoi ha hb,obs];have htake:(r.reverse++[a,b]).take r.length=r.reverse:=List.take_left' (by simp)
     have hst:Gi lf n (b :: a :: r)=if n.1=15 then (if a.2=b.1 then some ((a.1,b.2) :: r) else none) else (if a.1+b.1<=12/\a.2+b.2<=12 then some ((a.1+b.1,a.2+b.2) :: r) else none):=by
      unfold Gi;rw [if_pos hj,if_pos hv]
     have hfin:∀ w:Int×Int,Gi lf n (b :: a :: r)=some (w :: r)->∃ s',(Ce (og ((0:Int)<=0/\0<=((r.length:Nat):Int)/\((r.length:Nat):Int)<=((r.length+2:Nat):Int)) (og ((((r.reverse++[a,b]).take r.length).length)+1<=1073741824/\((((r.reverse++[a,b]).take r.length).length)+1)*16<=140737488355328) (some (Ctl.next (((r.reverse++[a,b]).take r.length)++([(w.1,w.2)])):Ctl (List (Int×Int)) (Ctl (Nat×(List (Int×Int))) (Ctl (List (Int×Int)) (Int×Int×Bool))))))) fun l14_m6=>og (k+1<4611686018427387904) (some (Ctl.next (k+1,l14_m6))))=some (.next s')/\∃ T,s'=(k+1,T.reverse)/\Jf lf (xs.take (k+1)) []=some T/\okT T/\T.length<=k+1:=fun w hw=>by
      refine ⟨(k+1,r.reverse++[w]),?_,w :: r,by simp,by rw [hnext,hw],N6 hlf hw hok,by simp at hlen ⊢;omega⟩;rw [Ah oM,htake,Ah (by simp at hlen ⊢;omega)];simp only [Ce,obs,Ctl.then];rw [Ah oM]
     by_cases h15:n.1=15
     ·rw [if_pos h15];rw [if_pos h15] at hst;dsimp only;by_cases hab:a.2=b.1
      ·rw [if_pos hab] at hst;rw [beq_iff_eq.2 hab,Bool.not_true,cond_false];exact .inl (hfin (a.1,b.2) hst)
      ·rw [if_neg hab] at hst;rw [beq_eq_false_iff_ne.2 hab,hfail hst];exact .inr rfl
     ·rw [if_neg h15];rw [if_neg h15] at hst;dsimp only;by_cases hab:a.1+b.1<=12/\a.2+b.2<=12
      ·rw [if_pos hab] at hst;rw [Ay hab.1,Ay hab.2,Bool.and_true,Bool.not_true,cond_false];exact .inl (hfin (a.1+b.1,a.2+b.2) hst)
      ·rw [if_neg hab] at hst
       have e:(decide (a.1+b.1<=12)&&decide (a.2+b.2<=12))=false:=by
        rw [Bool.eq_false_iff];intro h;simp only [Bool.and_eq_true,decide_eq_true_eq] at h;exact hab h
       rw [e,hfail hst];exact .inr rfl
   ·refine .inr ?_;rw [hfail (by unfold Gi;rw [if_pos hj,if_neg hv])];by_cases h0:n.2.1=0
    ·have hs':(n.2.2.toList==(⟨#[]⟩:ByteArray).toList)=false:=by
      rw [Bool.eq_false_iff];intro h;exact hv ⟨h0,h⟩
     rw [h0,hs'];rfl
    ·rw [show (n.2.1 !=0)=true by rw [bne_iff_ne];exact h0];rfl
  ·have h15:n.1≠15:=fun e=>hj (.inl e)
   have h16:n.1≠16:=fun e=>hj (.inr e)
   have e:(cond (n.1 !=15) (some (n.1 !=16)) (some false):Option Bool)=some true:=by
    rw [bne_iff_ne.2 h15,cond_true,bne_iff_ne.2 h16]
   rw [e,obs,cond_true];have hst:Gi lf n T=(lf n).map (· :: T):=if_neg hj;obtain ⟨r,hr,hm⟩:=hleaf n (List.mem_of_getElem? hn) h15 h16;rw [hr,obs];cases hw:lf n with
   | none =>
    rw [hw] at hm hst;dsimp only at hm;rw [hm,hfail hst];exact .inr rfl
   | some w =>
    rw [hw] at hm hst;dsimp only at hm;subst hm;refine .inl ⟨(k+1,T.reverse++[w]),?_,w :: T,by simp,by rw [hnext,hst];rfl,N6 hlf hst hok,by simp;omega⟩;rw [Bool.not_true,cond_false,Ah (by rw [hlr];omega)];simp only [Ce,obs,Ctl.then];rw [Ah oM]
 ·rintro s ⟨T,rfl,hT,hok,hlen⟩;rw [List.take_length] at hT;rw [hT]
  try dsimp only
  unfold Amf;rw [Av oM,cond_false]
theorem Apx (hlf:∀ n w,lf n=some w->okW w) {xs:List Nd} (hleaf:∀ n∈xs,n.1≠15->n.1≠16->∃ r:Int×Int×Bool,leaf n.1 n.2.1 n.2.2=some r/\match lf n with|some w=>r=(w.1,w.2,true)|none=>r.2.2=false) :
  ∃ r:Int×Int×Bool,(Option.bind (Br ((xs.length:Nat):Int) 1 400) fun y4=>cond (!y4) (some (0,0,false)) (Ce (Aq (fun s_:Nat×(List (Int×Int))=>Amf leaf xs s_.1 s_.2) 4611686018427387904 (0,[])) fun l8_m6=>Option.bind (l8_m6[0]?) fun x50=>some (x50.1,x50.2,((l8_m6.length:Nat):Int)==1)))=some r/\match tyG lf xs with|some w=>r=(w.1,w.2,true)|none=>r.2.2=false:=by
 unfold tyG;rw [Kv];by_cases hx:1<=xs.length/\xs.length<=400
 ·rw [Ct.2 (show (1:Int)<=((xs.length:Nat):Int)/\((xs.length:Nat):Int)<=400 by omega),obs,Bool.not_true,cond_false,if_pos hx,An7 hlf hleaf hx];cases hr:Jf lf xs [] with
  | none=>exact ⟨_,rfl,rfl⟩
  | some T =>
   have hne:=Afn (fun e=>by subst e;simp at hx) hr;dsimp only [Ce,obs,Ctl.then]
   match T,hne with
   | [w],_=>exact ⟨_,rfl,rfl⟩
   | a :: b :: r,_ =>
    obtain ⟨c,hc⟩:∃ c,(a :: b :: r).reverse[0]? =some c:=⟨_,gEg (by simp)⟩
    rw [hc];refine ⟨_,rfl,?_⟩;show ((((a :: b :: r).reverse.length:Nat):Int)==1)=false;rw [beq_eq_false_iff_ne];simp;omega
 ·rw [if_neg hx,show inR ((xs.length:Nat):Int) 1 400=false by rw [Bool.eq_false_iff];intro e;have:=Ct.1 e;exact hx oM];exact ⟨_,rfl,rfl⟩
end
theorem Af2 (xs:List Nd):∃ r:Int×Int×Bool,Dl xs=some r/\match tyV xs with|some w=>r=(w.1,w.2,true)|none=>r.2.2=false:=by
 obtain ⟨r,h,hm⟩:=Apx (lf:=lfW) (leaf:=D3) (xs:=xs) (fun _ _ h=>Aj9 h) fun n _ _ _=>Aog n
 refine ⟨r,?_,hm⟩;unfold Dl;rw [show B7 xs=some r from h];rfl
end
section
def SRel (F I O:List Int):Nat->List (Int×Int)->Prop
 | k,[]=>k=0
 | k,w :: T=>∃ j:Nat,j<k/\F[k - 1]? =some (j:Int)/\I[k - 1]? =some w.1/\O[k - 1]? =some w.2/\SRel F I O j T
theorem Aar {l:List Int} {k:Nat} {x y:Int} (h:l[k]? =some x):(l++[y])[k]? =some x:=by
 rw [List.getElem?_append_left (gSi.1 h).1];exact h
theorem SRel.app {F I O:List Int} {x y z:Int}:∀ {T:List (Int×Int)} {k:Nat},SRel F I O k T->SRel (F++[x]) (I++[y]) (O++[z]) k T
 | [],_,h=>h
 | _ :: _,_,⟨j,h1,h2,h3,h4,h5⟩=>⟨j,h1,Aar h2,Aar h3,Aar h4,h5.app⟩
theorem Hv {l:List Int} {k:Nat} {y:Int} (h:l.length=k):(l++[y])[k+1 - 1]? =some y:=by
 subst h;rw [Nat.add_sub_cancel,List.getElem?_append_right (Nat.le_refl _),Nat.sub_self];rfl
abbrev ScR:=List Int×List Int×List Int×Bool
def Anu (n:Nat) (t:Option (List (Int×Int))) (r:Ctl (List Int×List Int×List Int) ScR):Prop :=
 match t with
 | some T=>∃ F I O,r=Ctl.next (F,I,O)/\F.length=n/\I.length=n/\O.length=n/\okT T/\SRel F I O n T
 | none=>∃ F I O,r=Ctl.out (F,I,O,false)
theorem Ak0 (l:List (ByteArray×Int×Int×List Nd)) (hl:l.length<=1048576) (s:ByteArray):(∃ (i:Nat) (d:ByteArray×Int×Int×List Nd),Bl l s=some (i:Int)/\l[i]? =some d/\l.find? (fun d=>d.1.toList==s.toList)=some d)∨(Bl l s=some (-1)/\l.find? (fun d=>d.1.toList==s.toList)=none):=by
 unfold Bl
 have key:∀ i,i<=l.length->(∀ k (hk:k<l.length),k<i->(l[k].1.toList==s.toList)=false)->(∃ (i:Nat) (d:ByteArray×Int×Int×List Nd),l[i]? =some d/\l.find? (fun d=>d.1.toList==s.toList)=some d)∨l.find? (fun d=>d.1.toList==s.toList)=none:=fun i _ _=>by
  cases h:l.find? (fun d=>d.1.toList==s.toList) with
  | none=>exact .inr rfl
  | some d =>
   obtain ⟨k,hk⟩:=List.mem_iff_getElem?.1 (List.mem_of_find?_eq_some h);exact .inl ⟨k,d,hk,rfl⟩
 have hP:∃ r,Aq (fun s_:Nat=>Ba l s s_) 4611686018427387904 0=some r/\((∃ (i:Nat) (d:ByteArray×Int×Int×List Nd),r=Ctl.out (i:Int)/\l[i]? =some d/\l.find? (fun d=>d.1.toList==s.toList)=some d)∨(r=Ctl.next ()/\l.find? (fun d=>d.1.toList==s.toList)=none)):=by
  refine Ee (Post:=fun r=>(∃ (i:Nat) (d:ByteArray×Int×Int×List Nd),r=Ctl.out (i:Int)/\l[i]? =some d/\l.find? (fun d=>d.1.toList==s.toList)=some d)∨(r=Ctl.next ()/\l.find? (fun d=>d.1.toList==s.toList)=none)) l.length (fun i st=>st=i/\(l.take i).find? (fun d=>d.1.toList==s.toList)=none) oM ⟨rfl,by simp⟩ ?_ ?_
  ·rintro i st hi ⟨rfl,hI⟩;have hx:=gEg hi;unfold Ba;rw [Ay oM,cond_true,hx,obs];have e:l.take (st+1)=l.take st++[l[st]]:=by rw [List.take_add_one,hx];rfl
   cases hb:(l[st].1.toList==s.toList)
   ·rw [cond_false,Ah oM];exact .inl ⟨_,rfl,rfl,by rw [e,List.find?_append,hI];simp [hb]⟩
   ·refine .inr ⟨_,rfl,.inl ⟨st,l[st],rfl,hx,?_⟩⟩;have e2:l=l.take (st+1)++l.drop (st+1):=(List.take_append_drop _ _).symm
    conv=>lhs;rw [e2,e]
    rw [List.find?_append,List.find?_append,hI];simp [hb]
  ·rintro st ⟨rfl,hI⟩;unfold Ba;rw [Av oM,cond_false];rw [List.take_length] at hI;exact ⟨_,rfl,.inr ⟨rfl,hI⟩⟩
 obtain ⟨r,hr,⟨i,d,rfl,h1,h2⟩|⟨rfl,h1⟩⟩:=hP
 ·rw [hr];exact .inl ⟨i,d,rfl,h1,h2⟩
 ·rw [hr];exact .inr ⟨rfl,h1⟩
theorem Aoq {lib:List (ByteArray×Int×Int×List Nd)} (hll:lib.length<=1048576) (hlb:∀ d∈lib,okW (d.2.1,d.2.2.1)) {xs:List Nd} (hx:1<=xs.length/\xs.length<=400):∃ r,Aq (fun s_:Nat×List Int×List Int×List Int=>Fy xs lib s_.1 s_.2.1 s_.2.2.1 s_.2.2.2) 4611686018427387904 (0,[],[],[])=some r/\Anu xs.length (Jf (lfL lib) xs []) r:=by
 refine Ee (Post:=Anu xs.length (Jf (lfL lib) xs [])) xs.length (fun k s=>∃ F I O T,s=(k,F,I,O)/\F.length=k/\I.length=k/\O.length=k/\Jf (lfL lib) (xs.take k) []=some T/\okT T/\SRel F I O k T) oM ⟨[],[],[],[],rfl,rfl,rfl,rfl,rfl,(fun _ h=>by cases h),rfl⟩ ?_ ?_
 ·rintro k s hk ⟨F,I,O,T,rfl,lF,lI,lO,hT,hok,hS⟩;have hn:=gEg hk;generalize xs[k]=n at hn;have hnext:=Tb hn hT;have hfail:Gi (lfL lib) n T=none->Jf (lfL lib) xs []=none:=fun h=>Te (k:=k+1) (by rw [hnext,h])
  try dsimp only
  unfold Fy;rw [Ay oM,cond_true,hn,obs,Ai9,obs];by_cases hj:n.1=15∨n.1=16
  ·have hnl:lfW n=none:=by
    cases hw:lfW n with
    | none=>rfl
    | some w=>have:=Rw hw;omega
   rw [hnl];have e17:(n.1==17)=false:=by rw [beq_eq_false_iff_ne];omega
   rw [Option.isSome_none,cond_false,e17,obs,cond_false]
   have hst0:Gi (lfL lib) n T=if n.2.1=0/\Oh n.2.2=true then (match T with
     | b :: a :: r=>if n.1=15 then (if a.2=b.1 then some ((a.1,b.2) :: r) else none) else (if a.1+b.1<=12/\a.2+b.2<=12 then some ((a.1+b.1,a.2+b.2) :: r) else none)
     | _=>none) else none:=if_pos hj
   have hcond:∀ q:Option Bool,(cond (n.1 !=15) (cond (n.1 !=16) (some true) q) q:Option Bool)=q:=fun q=>by
    rcases hj with h|h <;> rw [h] <;> rfl
   rw [hcond];by_cases hv:n.2.1=0/\Oh n.2.2=true
   ·have hs':(n.2.2.toList==(⟨#[]⟩:ByteArray).toList)=true:=hv.2;rw [if_pos hv] at hst0;rw [hv.1,hs',Bool.not_true,cond_false,show ((0:Int) !=0)=false from rfl,cond_false]
    match T,hT,hok,hS,hnext,hfail,hst0 with
    | [],hT,hok,hS,hnext,hfail,hst0 =>
     refine .inr ⟨Ctl.out (F,I,O,false),?_,?_⟩
     ·have:k=0:=hS;rw [Ay oM];rfl
     ·rw [hfail hst0];exact ⟨_,_,_,rfl⟩
    | [b],hT,hok,hS,hnext,hfail,hst0 =>
     refine .inr ⟨Ctl.out (F,I,O,false),?_,?_⟩
     ·obtain ⟨j,h1,h2,h3,h4,h5⟩:=hS;have h5:j=0:=h5;subst h5;by_cases h:k<2
      ·rw [Ay oM];rfl
      ·have w1:wI ((k:Int) - 1)=((k - 1:Nat):Int):=by rw [Bk oM oM];omega
       rw [Av oM,cond_false,w1,Cf oM,Int.toNat_natCast,h2];rfl
     ·rw [hfail hst0];exact ⟨_,_,_,rfl⟩
    | b :: a :: r,hT,hok,hS,hnext,hfail,hst0 =>
     have hb:=hok b (by simp);have ha:=hok a (by simp);obtain ⟨⟨b1,b2⟩,b3,b4⟩:=hb;obtain ⟨⟨a1,a2⟩,a3,a4⟩:=ha;obtain ⟨j,h1,h2,h3,h4,j0,g1,g2,g3,g4,g5⟩:=hS;have w1:wI ((k:Int) - 1)=((k - 1:Nat):Int):=by rw [Bk oM oM];omega
     have w2:wI ((j:Int) - 1)=((j - 1:Nat):Int):=by rw [Bk oM oM];omega
     have G:∀ (l:List Int) (m:Nat),Dn l ((m:Nat):Int)=l[m]?:=fun l m=>by rw [Cf oM,Int.toNat_natCast]
     rw [Av oM,cond_false,w1];simp only [G,h2,h3,h4,obs,w2,g2,g3,g4];rw [Av (show ¬ ((j:Nat):Int)<1 by omega),cond_false];dsimp only at hst0
     have hfin:∀ w:Int×Int,Gi (lfL lib) n (b :: a :: r)=some (w :: r)->∃ s',(Ce (some (Ctl.next (F++([(j0:Int)]),I++([w.1]),O++([w.2])):Ctl (List Int×List Int×List Int) (Ctl (Nat×List Int×List Int×List Int) (Ctl (List Int×List Int×List Int) ScR)))) fun q=>og (k+1<4611686018427387904) (some (Ctl.next (k+1,q.1,q.2.1,q.2.2))))=some (.next s')/\∃ F I O T,s'=(k+1,F,I,O)/\F.length=k+1/\I.length=k+1/\O.length=k+1/\Jf (lfL lib) (xs.take (k+1)) []=some T/\okT T/\SRel F I O (k+1) T:=fun w hw=>by
      refine ⟨_,?_,F++[(j0:Int)],I++[w.1],O++[w.2],w :: r,rfl,by simp [lF],by simp [lI],by simp [lO],by rw [hnext,hw],N6 (Ad1 hlb) hw hok,j0,by omega,Hv lF,Hv lI,Hv lO,g5.app⟩;simp only [Ce,obs,Ctl.then];rw [Ah oM]
     by_cases h15:n.1=15
     ·rw [if_pos h15] at hst0;rw [beq_iff_eq.2 h15,cond_true];by_cases hab:a.2=b.1
      ·rw [if_pos hab] at hst0;rw [show (a.2 !=b.1)=false by rw [hab];exact bne_self_eq_false _,cond_false];simp only [Ce,obs,Ctl.then];rw [Av (show ¬ 12<a.1 by omega),Av (show ¬ 12<b.2 by omega),cond_false,obs,cond_false,Ah oM,Ah oM,Ah oM];exact .inl (hfin (a.1,b.2) hst0)
      ·rw [if_neg hab] at hst0;rw [bne_iff_ne.2 hab,hfail hst0];exact .inr ⟨_,rfl,_,_,_,rfl⟩
     ·rw [if_neg h15] at hst0;rw [beq_eq_false_iff_ne.2 h15,cond_false,Bk (n:=a.1+b.1) oM oM,Bk (n:=a.2+b.2) oM oM];simp only [Ce,obs,Ctl.then];by_cases hab:a.1+b.1<=12/\a.2+b.2<=12
      ·rw [if_pos hab] at hst0;rw [Av (show ¬ 12<a.1+b.1 by omega),Av (show ¬ 12<a.2+b.2 by omega),cond_false,obs,cond_false,Ah oM,Ah oM,Ah oM];exact .inl (hfin (a.1+b.1,a.2+b.2) hst0)
      ·rw [if_neg hab] at hst0;rw [hfail hst0];refine .inr ⟨Ctl.out (F,I,O,false),?_,_,_,_,rfl⟩;by_cases h1:12<a.1+b.1
       ·rw [Ay h1];rfl
       ·rw [Av h1,Ay (show 12<a.2+b.2 by omega)];rfl
   ·rw [if_neg hv] at hst0;refine .inr ⟨Ctl.out (F,I,O,false),?_,?_⟩
    ·by_cases hn0:Oh n.2.2=true
     ·have hs':(n.2.2.toList==(⟨#[]⟩:ByteArray).toList)=true:=hn0;rw [hs',show (n.2.1 !=0)=true by rw [bne_iff_ne];exact fun e=>hv ⟨e,hn0⟩];rfl
     ·have hs':(n.2.2.toList==(⟨#[]⟩:ByteArray).toList)=false:=by simpa using hn0
      rw [hs'];rfl
    ·rw [hfail hst0];exact ⟨_,_,_,rfl⟩
  ·have hst:Gi (lfL lib) n T=(lfL lib n).map (· :: T):=if_neg hj;by_cases h17:n.1=17
   ·have hnl:lfW n=none:=by
     cases hw:lfW n with
     | none=>rfl
     | some w=>have:=Rw hw;omega
    have har:D0 n.1 n.2.1 n.2.2=some (1,1):=by
     unfold D0 I8;rw [h17];rfl
    rw [hnl,Option.isSome_none,cond_false,beq_iff_eq.2 h17,obs,cond_true,har,obs,cond_true];have hlf:lfL lib n=if n.2.1=0 then (lib.find? fun d=>d.1.toList==n.2.2.toList).map fun d=>(d.2.1,d.2.2.1) else none:=if_pos h17
    rcases Ak0 lib hll n.2.2 with ⟨i,d,h1,h2,h3⟩|⟨h1,h3⟩
    ·have hi:=An h2;rw [h1,obs,Av oM,cond_false,obs];by_cases hv:n.2.1=0
     ·rw [if_pos hv,h3] at hlf;have hlf:lfL lib n=some (d.2.1,d.2.2.1):=hlf;rw [hlf] at hst;rw [hv,show ((0:Int) !=0)=false from rfl,cond_false,Cf oM,Int.toNat_natCast,h2,obs];simp only [Ce,obs,Ctl.then];rw [Ah oM,Ah oM,Ah oM];simp only [obs,Ctl.then];rw [Ah oM];exact .inl ⟨_,rfl,F++[(k:Int)],I++[d.2.1],O++[d.2.2.1],(d.2.1,d.2.2.1) :: T,rfl,by simp [lF],by simp [lI],by simp [lO],by rw [hnext,hst];rfl,N6 (Ad1 hlb) hst hok,k,by omega,Hv lF,Hv lI,Hv lO,hS.app⟩
     ·rw [if_neg hv] at hlf;rw [hlf] at hst;rw [bne_iff_ne.2 hv,cond_true,hfail hst];exact .inr ⟨_,rfl,_,_,_,rfl⟩
    ·have hlf:lfL lib n=none:=by rw [hlf,h3];split <;> rfl
     rw [hlf] at hst;rw [h1,obs,Ay oM,cond_true,obs,cond_true,hfail hst];exact .inr ⟨_,rfl,_,_,_,rfl⟩
   have hlw:lfL lib n=lfW n:=if_neg h17;rw [hlw] at hst;have e17:(n.1==17)=false:=beq_eq_false_iff_ne.2 h17;cases hw:lfW n with
   | some w =>
    rw [hw] at hst;rw [Option.isSome_some,cond_true,obs,cond_true,Alk hw,obs,e17,cond_false];simp only [Ce,obs,Ctl.then];rw [Ah oM,Ah oM,Ah oM];simp only [obs,Ctl.then];rw [Ah oM];exact .inl ⟨_,rfl,F++[(k:Int)],I++[w.1],O++[w.2],w :: T,rfl,by simp [lF],by simp [lI],by simp [lO],by rw [hnext,hst];rfl,N6 (Ad1 hlb) hst hok,k,by omega,Hv lF,Hv lI,Hv lO,hS.app⟩
   | none =>
    rw [hw] at hst;rw [Option.isSome_none,cond_false];refine .inr ⟨Ctl.out (F,I,O,false),?_,?_⟩
    ·have h15:n.1≠15:=fun e=>hj (.inl e)
     have h16:n.1≠16:=fun e=>hj (.inr e)
     rw [e17,obs,cond_false,bne_iff_ne.2 h15,cond_true,bne_iff_ne.2 h16];rfl
    ·rw [hfail hst];exact ⟨_,_,_,rfl⟩
 ·rintro s ⟨F,I,O,T,rfl,lF,lI,lO,hT,hok,hS⟩;rw [List.take_length] at hT;rw [hT]
  try dsimp only
  unfold Fy;rw [Av oM,cond_false];exact ⟨_,rfl,_,_,_,rfl,lF,lI,lO,hok,hS⟩
theorem Ajq {lib:List (ByteArray×Int×Int×List Nd)} (hll:lib.length<=1048576) (hlb:∀ d∈lib,okW (d.2.1,d.2.2.1)) (xs:List Nd):∃ F I O b,Ir lib xs=some (F,I,O,b)/\match tyG (lfL lib) xs with|some w=>b=true/\I[xs.length - 1]? =some w.1/\O[xs.length - 1]? =some w.2|none=>b=false:=by
 unfold Ir tyG;rw [Lt];by_cases hx:1<=xs.length/\xs.length<=400
 ·rw [Ct.2 (show (1:Int)<=((xs.length:Nat):Int)/\((xs.length:Nat):Int)<=400 by omega),obs,Bool.not_true,cond_false,if_pos hx];obtain ⟨r,hr,hP⟩:=Aoq hll hlb hx;rw [hr];cases ht:Jf (lfL lib) xs [] with
  | none =>
   rw [ht] at hP;obtain ⟨F,I,O,rfl⟩:=hP;exact ⟨_,_,_,_,rfl,rfl⟩
  | some T =>
   rw [ht] at hP;obtain ⟨F,I,O,rfl,lF,lI,lO,hok,hS⟩:=hP;have hne:=Afn (fun e=>by subst e;simp at hx) ht;have w1:wI (((xs.length:Nat):Int) - 1)=((xs.length - 1:Nat):Int):=by rw [Bk oM oM];omega
   simp only [Ce,obs,Ctl.then]
   match T,hne,hS with
   | w :: T,_,⟨j,h1,h2,h3,h4,h5⟩ =>
    rw [w1,Cf oM,Int.toNat_natCast,h2,obs,obs];refine ⟨F,I,O,_,rfl,?_⟩;cases T with
    | nil =>
     have h5:j=0:=h5;subst h5;exact ⟨rfl,h3,h4⟩
    | cons v T =>
     obtain ⟨j',h',_⟩:=h5;show ((j:Int)==0)=false;rw [beq_eq_false_iff_ne];omega
 ·rw [if_neg hx,show inR ((xs.length:Nat):Int) 1 400=false by rw [Bool.eq_false_iff];intro e;have:=Ct.1 e;exact hx oM];exact ⟨_,_,_,_,rfl,rfl⟩
theorem Aa9 (xs:List Nd):∃ F I O b,Gv xs=some (F,I,O,b)/\match tyV xs with|some w=>b=true/\I[xs.length - 1]? =some w.1/\O[xs.length - 1]? =some w.2|none=>b=false:=by
 obtain ⟨F,I,O,b,h1,h2⟩:=Ajq (lib:=[]) (by simp) (fun d hd=>by cases hd) xs;rw [Alw] at h2;refine ⟨F,I,O,b,?_,h2⟩;unfold Gv;rw [h1];rfl
theorem Ach (xs:List Nd):I5 xs=some (match tyV xs with|some w=>(w.1,w.2,true)|none=>(0,0,false)):=by
 unfold I5;obtain ⟨F,I,O,b,h,hm⟩:=Aa9 xs;rw [h,obs];cases ht:tyV xs with
 | none=>rw [ht] at hm;dsimp only at hm;subst hm;rfl
 | some w =>
  rw [ht] at hm;obtain ⟨rfl,h1,h2⟩:=hm
  have hx:1<=xs.length/\xs.length<=400:=by
   unfold tyV tyG at ht;split at ht
   ·assumption
   ·cases ht
  have w1:wI (((xs.length:Nat):Int) - 1)=((xs.length - 1:Nat):Int):=by rw [Bk oM oM];omega
  dsimp only;rw [Bool.not_true,cond_false,w1,Cf oM,Int.toNat_natCast,h1,obs,obs,Cf oM,Int.toNat_natCast,h2];rfl
end
section
def szV (v:Int) (n:Nat):Int:=if v<n then -1 else v - n
theorem Aiy (xs:List Int) {v:Int} (hv:0<=v/\v<=1048576) (hx:xs.length<=9223372036854775807):Iw xs v=some (szV v xs.length):=by
 unfold Iw szV;rw [Bk oM oM];by_cases h:v<xs.length
 ·rw [Ay oM,if_pos h];rfl
 ·rw [Av oM,if_neg h];rfl
theorem Ajf (xs:List Int) (hx:xs.length<=1073741824):Iq xs=some xs:=by
 unfold Iq;rw [Ah oM]
 have h:Aq (fun s_:Nat×List Int=>Gd xs s_.1 s_.2) 4611686018427387904 (0,List.replicate xs.length (0:Int))=some xs:=by
  refine Bo xs.length (fun i=>(i,xs.take i++List.replicate (xs.length - i) 0)) oM xs (by simp) (fun i hi=>?_) ?_
  ·have hx:=gEg hi
   try dsimp only
   unfold Gd;rw [Ay oM,cond_true,hx,obs,Sj hi,obs,Ah oM,Sy hx]
  ·try dsimp only
   unfold Gd;rw [Av oM,cond_false];simp
 rw [h];rfl
theorem Ake (xs:List Int) (hx:xs.length<=1073741824):I2 xs xs=some true:=by
 unfold I2
 have h:Aq (fun s_:Nat=>Fz xs xs s_) 4611686018427387904 0=some (.next ()):=by
  refine Bo xs.length (fun i=>i) oM _ rfl (fun i hi=>?_) ?_
  ·have hx:=gEg hi
   try dsimp only
   unfold Fz;rw [Ay oM,cond_true,hx,obs,obs,bne_self_eq_false,cond_false,Ah oM]
  ·try dsimp only
   unfold Fz;rw [Av oM,cond_false]
 rw [h,bne_self_eq_false,cond_false];rfl
end
section
section
variable {σ ρ:Type}
end
def Gh (b:Nat) (xss:List (List Int)):Prop:=∀ x∈xss,x.length<=b
def Jh (xss:List (List Int)):Nat:=(xss.map List.length).sum
theorem Aie {xss:List (List Int)} {i:Nat} (h:i<xss.length):Jh (xss.take (i+1))=Jh (xss.take i)+xss[i].length:=by
 unfold Jh;rw [List.take_add_one,gEg h];simp only [Option.toList,List.map_append,List.map_cons,List.map_nil,List.sum_append,List.sum_cons,List.sum_nil,Nat.add_zero]
theorem Ahf (xss:List (List Int)) (hn:xss.length<=1048576) (hb:Gh 1048576 xss):Hw xss xss=some true:=by
 unfold Hw
 have h:Aq (fun s_:Nat=>Fc xss xss s_) 4611686018427387904 0=some (.next ()):=by
  refine Bo xss.length (fun i=>i) oM _ rfl (fun i hi=>?_) ?_
  ·have hx:=gEg hi;have:=hb _ (List.getElem_mem hi)
   try dsimp only
   unfold Fc;rw [Ay oM,cond_true,hx,obs,obs,Ake _ oM,obs,Bool.not_true,cond_false,Ah oM]
  ·try dsimp only
   unfold Fc;rw [Av oM,cond_false]
 rw [h,bne_self_eq_false,cond_false];rfl
def szW (v:Int) (xss:List (List Int)):Int:=if v<xss.length+Jh xss then -1 else v - (xss.length+Jh xss)
theorem Apa {v:Int} {xss:List (List Int)} (hv:v<=1048576) (h:¬ szW v xss<0):xss.length+Jh xss<=1048576/\Gh 1048576 xss/\szW v xss=v - (xss.length+Jh xss):=by
 unfold szW at h ⊢;split at h
 ·omega
 rename_i h1;have h2:xss.length+Jh xss<=1048576:=by omega
 refine ⟨h2,fun x hx=>?_,if_neg h1⟩
 have:∀ {l:List (List Int)},x∈l->x.length<=Jh l:=by
  intro l
  induction l with
  | nil=>intro h;cases h
  | cons y r ih =>
   intro h;simp only [Jh,List.map_cons,List.sum_cons] at ih ⊢;rcases List.mem_cons.1 h with rfl|h
   ·omega
   ·have:=ih h;omega
 have:=this hx;omega
theorem Ah6 (xss:List (List Int)) {v:Int} (hv:0<=v/\v<=1048576) (hn:xss.length<=9223372036854775807) (hb:Gh 9223372036854775807 xss):Hu xss v=some (szW v xss):=by
 unfold Hu;rw [Bk oM oM];by_cases h0:v<xss.length
 ·rw [Ay oM,szW,if_pos oM];rfl
 rw [Av oM,cond_false]
 have h:Aq (fun s_:Int×Nat=>Fg xss s_.1 s_.2) 4611686018427387904 (v - xss.length,0)=some (if v<xss.length+Jh xss then .out (-1) else .next (v - (xss.length+Jh xss))):=by
  have hm:∀ i,Jh (xss.take i)<=Jh xss:=fun i=>by
   have:Jh xss=Jh (xss.take i)+Jh (xss.drop i):=by
    conv=>lhs;rw [← List.take_append_drop i xss]
    rw [Jh,List.map_append,List.sum_append];rfl
   omega
  refine Er xss.length (fun i s=>s=(v - xss.length - Jh (xss.take i),i)/\(xss.length:Int)+Jh (xss.take i)<=v) oM _ ⟨by simp [Jh],by simp [Jh];omega⟩ ?_ ?_
  ·rintro i s hi ⟨rfl,h1⟩;have hx:=gEg hi;have hr:=hb _ (List.getElem_mem hi);have hs:=Aie hi;have hm1:=hm (i+1)
   try dsimp only
   unfold Fg;rw [Ay oM,cond_true,hx,obs,Aiy _ oM hr,obs,szV];by_cases h2:v - xss.length - Jh (xss.take i)<xss[i].length
   ·refine .inr ?_;rw [if_pos h2,if_pos oM];rfl
   ·refine .inl ⟨(v - xss.length - Jh (xss.take (i+1)),i+1),?_,rfl,by omega⟩;rw [if_neg h2,Av oM,cond_false,Ah oM,hs,show v - ↑xss.length - ↑(Jh (List.take i xss)) - ↑xss[i].length=v - ↑xss.length - ↑(Jh (List.take i xss)+xss[i].length) by omega]
  ·rintro s ⟨rfl,h1⟩;rw [List.take_length] at h1 ⊢
   try dsimp only
   unfold Fg;rw [Av oM,cond_false,if_neg oM];simp [Int.sub_sub]
 rw [h,szW];split <;> rfl
theorem Aht (xss:List (List Int)) (hn:xss.length<=1048576) (hb:Gh 1048576 xss):Hm xss=some xss:=by
 unfold Hm;rw [Ah oM]
 have h:Aq (fun s_:Nat×List (List Int)=>E1 xss s_.1 s_.2) 4611686018427387904 (0,List.replicate xss.length ([]:List Int))=some xss:=by
  refine Bo xss.length (fun i=>(i,xss.take i++List.replicate (xss.length - i) [])) oM xss (by simp) (fun i hi=>?_) ?_
  ·have hx:=gEg hi;have hr:=hb _ (List.getElem_mem hi)
   try dsimp only
   unfold E1;rw [Ay oM,cond_true,hx,obs,Ajf _ oM,obs,Sj hi,obs,Ah oM,Sy hx]
  ·try dsimp only
   unfold E1;rw [Av oM,cond_false];simp
 rw [h];rfl
theorem Af4 {R:Nat->Prop} {w:World} {t:Ty} {A:Option Addr} {c:Nat} {xss:List (List t.D)} {l:List Addr} (h:Sl R w (.slice t) A c xss l):∀ x∈xss,x.length<=9223372036854775807:=by
 obtain ⟨_,_,f,_,h4⟩:=h;intro x hx;obtain ⟨i,hi,rfl⟩:=List.getElem_of_mem hx;obtain ⟨_,_,_,h5⟩:=h4 oM;obtain ⟨A',c',_,h6⟩:=h5 i hi;exact (Hl (xs:=xss[i]) h6).2
end
section
def inV (p:Int) (x:List Int):Prop:=∀ a,a∈x->0<=a/\a<p
def VecW (p:Int) (w:Nat) (x:List Int):Prop:=x.length=w/\inV p x
def MatW (p:Int) (w:Nat) (m:List (List Int)):Prop:=∀ x,x∈m->VecW p w x
def Cz (p k:Int) (v:List Int):List Int:=v.map fun a=>a*k % p
def B8 (p f:Int) (x v:List Int):List Int:=List.zipWith (fun a b=>(a - f*b) % p) x v
def Cj (m:List (List Int)) (c r:Nat):Nat:=r+(m.drop r).findIdx fun x=>x.getD c 0 !=0
def Ib (m:List (List Int)) (r k:Nat):List (List Int):=(m.set r (m.getD k [])).set k (m.getD r [])
def Ey (p:Int) (c r:Nat) (pr:List Int) (m:List (List Int)):List (List Int):=m.mapIdx fun i x=>if i=r then pr else B8 p (x.getD c 0) x pr
def K0 (p a:Int):Int:=(((List.range p.toNat).find? fun (x:Nat)=>a*(x:Int) % p==1).getD 0:Nat)
def prV (p:Int) (c:Nat) (x:List Int):List Int:=Cz p (K0 p (x.getD c 0)) x
def gjS (p:Int) (c:Nat) (s:Nat×List (List Int)):Nat×List (List Int) :=
 if s.1<s.2.length then
  if Cj s.2 c s.1=s.2.length then s
  else (s.1+1,Ey p c s.1 (prV p c (s.2.getD (Cj s.2 c s.1) [])) (Ib s.2 s.1 (Cj s.2 c s.1)))
 else s
def gjT (p:Int) (m:List (List Int)):Nat->Nat×List (List Int)
 | 0=>(0,m)
 | c+1=>gjS p c (gjT p m c)
def gj (p:Int) (n:Nat) (m:List (List Int)):List (List Int):=(gjT p m n).2.take (gjT p m n).1
theorem Aal {p x:Int} (hp:2<=p):0<=x % p/\x % p<p:=⟨Int.emod_nonneg x oM,Int.emod_lt_of_pos x oM⟩
theorem Ow {p k:Int} {w:Nat} {x:List Int} (hp:2<=p) (h:x.length=w):VecW p w (Cz p k x) :=
 ⟨by simp [Cz,h],fun a ha=>by obtain ⟨b,_,rfl⟩:=List.mem_map.1 ha;exact Aal hp⟩
theorem Aem {α β γ:Type} {f:α->β->γ}:∀ {x:List α} {v:List β} {c:γ},c∈List.zipWith f x v->∃ a b,c=f a b
 | [],_,_,h=>by simp at h
 | _ :: _,[],_,h=>by simp at h
 | a :: x,b :: v,c,h=>by
  rw [List.zipWith_cons_cons,List.mem_cons] at h;rcases h with h|h
  ·exact ⟨a,b,h⟩
  ·exact Aem h
theorem Abl {p f:Int} {w:Nat} {x v:List Int} (hp:2<=p) (hx:x.length=w) (hv:v.length=w):VecW p w (B8 p f x v) :=
 ⟨by simp [B8,hx,hv],fun a ha=>by obtain ⟨b,c,rfl⟩:=Aem ha;exact Aal hp⟩
theorem Td {p:Int} {x v:List Int} (hx:inV p x) (hl:x.length<=v.length):B8 p 0 x v=x:=by
 apply List.ext_getElem
 ·simp [B8];omega
 ·intro i h1 h2;have:=hx x[i] (List.getElem_mem h2);simp only [B8,List.getElem_zipWith,Int.zero_mul,Int.sub_zero];exact Int.emod_eq_of_lt this.1 this.2
theorem Bi {α:Type} {m:List α} {i:Nat} {d x:α} (h:m[i]? =some x):m.getD i d=x:=by rw [gDg,h];rfl
theorem Js {α:Type} {m:List α} {i:Nat} (h:i<m.length):∃ x,m[i]? =some x:=⟨_,gEg h⟩
theorem Oq {m:List (List Int)} {c r:Nat} (h:r<=m.length):Cj m c r<=m.length:=by
 have:=List.findIdx_le_length (xs:=m.drop r) (p:=fun x=>x.getD c 0 !=0);rw [List.length_drop] at this;unfold Cj;omega
theorem Aov (m:List (List Int)) (c r:Nat):r<=Cj m c r:=by unfold Cj;omega
theorem Wl {m:List (List Int)} {c r i:Nat} (h1:r<=i) (h2:i<Cj m c r) (hr:r<=m.length):(m.getD i []).getD c 0=0:=by
 have hl:=Oq (c:=c) hr;have h3:i - r<(m.drop r).findIdx fun x=>x.getD c 0 !=0:=by unfold Cj at h2;omega
 have h4:i - r<(m.drop r).length:=by rw [List.length_drop];omega
 have h5:=List.not_of_lt_findIdx h3;rw [List.getElem_drop] at h5
 have e:m[r+(i - r)]'(by rw [List.length_drop] at h4;omega)=m.getD i []:=by
  rw [gDg,gEg oM];simp only [show r+(i - r)=i by omega,Option.getD_some]
 rw [e] at h5
 simpa using h5
theorem Uw {m:List (List Int)} {c r:Nat} (h:Cj m c r≠m.length) (hr:r<=m.length):(m.getD (Cj m c r) []).getD c 0≠0:=by
 have hl:=Oq (c:=c) hr;have h4:(m.drop r).findIdx (fun x=>x.getD c 0 !=0)<(m.drop r).length:=by rw [List.length_drop];unfold Cj at h hl;omega
 have h5:=List.findIdx_getElem (w:=h4);rw [List.getElem_drop] at h5
 have e:m[r+(m.drop r).findIdx (fun x=>x.getD c 0 !=0)]'(by rw [List.length_drop] at h4;omega)=m.getD (Cj m c r) []:=by
  rw [gDg,gEg oM];rfl
 rw [e] at h5
 simpa using h5
theorem M8 (m:List (List Int)) (r k:Nat):(Ib m r k).length=m.length:=by simp [Ib]
theorem Ll (p:Int) (c r:Nat) (pr:List Int) (m:List (List Int)):(Ey p c r pr m).length=m.length:=by simp [Ey]
theorem Gr {m:List (List Int)} {i:Nat} (h:i<m.length):m.getD i []∈m:=by
 rw [gDg,gEg h];exact List.getElem_mem h
theorem Uh {p:Int} {w:Nat} {m:List (List Int)} {r k:Nat} (h:MatW p w m) (hr:r<m.length) (hk:k<m.length):MatW p w (Ib m r k):=by
 intro x hx;unfold Ib at hx;rcases List.mem_or_eq_of_mem_set hx with hx|rfl
 ·rcases List.mem_or_eq_of_mem_set hx with hx|rfl
  ·exact h x hx
  ·exact h _ (Gr hk)
 ·exact h _ (Gr hr)
theorem Am4 {p:Int} {w c r:Nat} {m:List (List Int)} {pr:List Int} (hp:2<=p) (h:MatW p w m) (hpr:VecW p w pr):MatW p w (Ey p c r pr m):=by
 intro x hx;unfold Ey at hx;obtain ⟨i,hi,rfl⟩:=List.mem_mapIdx.1 hx;split
 ·exact hpr
 ·exact Abl hp (h _ (List.getElem_mem hi)).1 hpr.1
theorem Aof {p:Int} {w c:Nat} {s:Nat×List (List Int)} (hp:2<=p) (h:MatW p w s.2) (hr:s.1<=s.2.length):MatW p w (gjS p c s).2/\(gjS p c s).1<=(gjS p c s).2.length/\(gjS p c s).2.length=s.2.length:=by
 unfold gjS;split
 ·rename_i h1;split
  ·exact ⟨h,hr,rfl⟩
  ·rename_i h2;have h3:=Oq (c:=c) hr;have hk:Cj s.2 c s.1<s.2.length:=by omega
   refine ⟨Am4 hp (Uh h h1 hk) (Ow hp (h _ (Gr hk)).1),?_,?_⟩
   ·simp only [Ll,M8];omega
   ·simp only [Ll,M8]
 ·exact ⟨h,hr,rfl⟩
theorem L6 {p:Int} {w:Nat} {m:List (List Int)} (hp:2<=p) (h:MatW p w m):∀ c,MatW p w (gjT p m c).2/\(gjT p m c).1<=(gjT p m c).2.length/\(gjT p m c).2.length=m.length
 | 0=>⟨h,Nat.zero_le _,rfl⟩
 | c+1=>by
  obtain ⟨h1,h2,h3⟩:=L6 hp h c;obtain ⟨k1,k2,k3⟩:=Aof (c:=c) hp h1 h2;exact ⟨k1,k2,k3.trans h3⟩
theorem Xf {p:Int} {m:List (List Int)} {c:Nat} (h:¬ (gjT p m c).1<(gjT p m c).2.length):∀ d,c<=d->gjT p m d=gjT p m c
 | 0, h0 => by obtain rfl : c = 0 := by omega
               rfl
 | d+1,h0=>by
  by_cases e:c=d+1
  ·rw [e]
  ·have ih:=Xf h d oM;show gjS p d (gjT p m d)=_;rw [ih];unfold gjS;rw [if_neg h]
theorem Afc {p:Int} {n w:Nat} {m:List (List Int)} (hp:2<=p) (h:MatW p w m):(gj p n m).length=(gjT p m n).1:=by
 obtain ⟨_,h2,_⟩:=L6 hp h n;unfold gj;rw [List.length_take];omega
theorem Aj5 {p:Int} {n w:Nat} {m:List (List Int)} (hp:2<=p) (h:MatW p w m):MatW p w (gj p n m):=fun x hx=>(L6 hp h n).1 x (List.mem_of_mem_take hx)
end
section
def Aor (p a:Int):Bool:=match J2 p a with
 | some v=>(v==K0 p a)&&((H4 p a==some v)&&((decide (0<=v)&&decide (v<p))&&(a*v % p==1)))
 | none=>false
def ivB:Bool:=(List.range 98).all fun p=> !(isF p)||(List.range p).all fun a=>a==0||Aor (p:Int) (a:Int)
theorem Ala:ivB=true:=by kernel_rfl
theorem Ado {p a:Int} (hp:isF p=true) (ha:1<=a/\a<p):J2 p a=some (K0 p a)/\H4 p a=some (K0 p a)/\0<=K0 p a/\K0 p a<p/\a*K0 p a % p=1:=by
 have hb:=Ik hp;obtain ⟨q,rfl⟩:=Int.eq_ofNat_of_zero_le (show 0<=p by omega);obtain ⟨b,rfl⟩:=Int.eq_ofNat_of_zero_le (show 0<=a by omega);have h1:=List.all_eq_true.1 Ala q (List.mem_range.2 oM);rw [hp,Bool.not_true,Bool.false_or] at h1;have h2:=List.all_eq_true.1 h1 b (List.mem_range.2 oM)
 have h3:Aor (q:Int) (b:Int)=true:=by
  rcases (Bool.or_eq_true _ _).mp h2 with h|h
  ·have:b=0:=by simpa using h
   omega
  ·exact h
 unfold Aor at h3;split at h3
 ·rename_i v hv;simp only [Bool.and_eq_true,beq_iff_eq,decide_eq_true_eq] at h3;obtain ⟨h4,h5,⟨h6,h7⟩,h8⟩:=h3;subst h4;exact ⟨hv,h5,h6,h7,h8⟩
 ·cases h3
end
section
theorem Amd {p x y:Int} (hp:2<=p/\p<=97) (hx:0<=x/\x<p) (hy:0<=y/\y<p):J6 p x y=some ((x - y) % p):=by
 unfold J6;rw [Ah oM,Bk (n:=x+p) oM oM,Bk oM oM,Int.tmod_eq_emod_of_nonneg oM,show x+p - y=x - y+p by omega,Int.add_emod_right]
theorem Z1 {ρ:Type} {body:Nat×List (List Int)->Option (Ctl (Nat×List (List Int)) ρ)} {M:List (List Int)} {r:Nat} {x y:List Int} {o:ρ} (hx:M[r]? =some x) (hl:y.length=x.length) (hb:x.length<4611686018427387904)
  (hs:∀ j (h:j<x.length) (z:List Int),z[j]? =some x[j]->body (j,M.set r z)=some (.next (j+1,M.set r (z.set j (y[j]'oM))))) (he:body (x.length,M.set r y)=some (.out o)) :
  Aq body 4611686018427387904 (0,M)=some o:=by
 refine Bo x.length (fun j=>(j,M.set r (y.take j++x.drop j))) hb _ ?_ (fun j hj=>?_) ?_
 ·obtain ⟨h1,h2⟩:=gSi.1 hx;simp only [List.take_zero,List.nil_append,List.drop_zero];rw [← h2,List.set_getElem_self]
 ·have h1:(y.take j).length=j:=by rw [List.length_take];omega
  rw [hs j hj _ (Mu hj h1),Mm hj h1,List.take_add_one,gEg oM];rfl
 ·rw [List.drop_length,List.append_nil,← hl,List.take_length,hl];exact he
theorem Aga {ρ:Type} {body:Nat×List Int->Option (Ctl (Nat×List Int) ρ)} {x y:List Int} {o:ρ} (hl:y.length=x.length) (hb:x.length<4611686018427387904)
  (hs:∀ j (h:j<x.length) (z:List Int),z[j]? =some x[j]->body (j,z)=some (.next (j+1,z.set j (y[j]'oM)))) (he:body (x.length,y)=some (.out o)) :
  Aq body 4611686018427387904 (0,x)=some o:=by
 refine Bo x.length (fun j=>(j,y.take j++x.drop j)) hb _ rfl (fun j hj=>?_) ?_
 ·have h1:(y.take j).length=j:=by rw [List.length_take];omega
  rw [hs j hj _ (Mu hj h1),Mm hj h1,List.take_add_one,gEg oM];rfl
 ·rw [List.drop_length,List.append_nil,← hl,List.take_length,hl];exact he
theorem Alx {ρ:Type} {body:Nat×List (List Int)->Option (Ctl (Nat×List (List Int)) ρ)} {M E:List (List Int)} {r:Nat} {pr:List Int} {o:ρ} (hl:E.length=M.length) (hM:M[r]? =some pr) (hE:E[r]? =some pr)
  (hb:M.length<4611686018427387904) (hs:∀ i (h:i<M.length) (s:List (List Int)),s.length=M.length->s[i]? =some M[i]->s[r]? =some pr->body (i,s)=some (.next (i+1,s.set i (E[i]'oM)))) (he:body (M.length,E)=some (.out o)) :
  Aq body 4611686018427387904 (0,M)=some o:=by
 refine Bo M.length (fun j=>(j,E.take j++M.drop j)) hb _ rfl (fun j hj=>?_) ?_
 ·have h1:(E.take j).length=j:=by rw [List.length_take];omega
  rw [hs j hj _ (by simp;omega) (Mu hj h1) ?_,Mm hj h1,List.take_add_one,gEg oM];rfl;by_cases h2:r<j
  ·rw [List.getElem?_append_left oM,List.getElem?_take,if_pos h2];exact hE
  ·rw [List.getElem?_append_right oM,h1,List.getElem?_drop,show j+(r - j)=r by omega];exact hM
 ·rw [List.drop_length,List.append_nil,← hl,List.take_length,hl];exact he
theorem Pa {α:Type} {m:List α} {i:Nat} {x z:α} (h:m[i]? =some x):(m.set i z)[i]? =some z:=by
 rw [List.getElem?_set_self (An h)]
theorem Ks {α:Type} {m:List α} {i:Nat} {x:α} (h:m[i]? =some x):m.set i x=m:=by
 obtain ⟨h1,h2⟩:=gSi.1 h;rw [← h2,List.set_getElem_self]
theorem Ady {α:Type} {m:List α} {i j:Nat} {z:α} (h:i≠j):(m.set i z)[j]? =m[j]?:=List.getElem?_set_ne h
theorem Ac4 {p k:Int} {x:List Int} {j:Nat} (h:j<(Cz p k x).length):(Cz p k x)[j]=x[j]'(by simpa [Cz] using h)*k % p:=by simp [Cz]
theorem Acx {p f:Int} {x v:List Int} {j:Nat} (h:j<(B8 p f x v).length):(B8 p f x v)[j]=(x[j]'(by simp [B8] at h;omega) - f*v[j]'(by simp [B8] at h;omega)) % p:=by simp [B8]
theorem Lo {p:Int} {c r:Nat} {pr:List Int} {m:List (List Int)} {i:Nat} (h:i<(Ey p c r pr m).length) :
  (Ey p c r pr m)[i]=if i=r then pr else B8 p ((m[i]'(by simpa [Ey] using h)).getD c 0) (m[i]'(by simpa [Ey] using h)) pr:=by simp [Ey]
theorem Nz {p:Int} {w j:Nat} {x:List Int} (hx:VecW p w x) (hj:j<x.length):0<=x[j]/\x[j]<p:=hx.2 _ (List.getElem_mem hj)
theorem De {p:Int} {w j:Nat} {x:List Int} (hx:VecW p w x) (hj:j<w):0<=x.getD j 0/\x.getD j 0<p/\x[j]? =some (x.getD j 0):=by
 have h:j<x.length:=by rw [hx.1];exact hj
 have e:x[j]? =some x[j]:=gEg h;rw [Bi e];exact ⟨(Nz hx h).1,(Nz hx h).2,e⟩
theorem Am8 {p f a b:Int}:(a - f*b % p) % p=(a - f*b) % p:=by rw [Int.sub_emod_emod]
section
variable {p:Int} {w:Nat} {m:List (List Int)}
theorem Ah9 {r:Nat} {x:List Int} {k:Int} (hp:2<=p/\p<=97) (hx:VecW p w x) (hw:w<=100000) (hr:m[r]? =some x) (hk:0<=k/\k<p) :
  Aq (fun s_:Nat×List (List Int)=>Eh x r p k s_.1 s_.2) 4611686018427387904 (0,m)=some (m.set r (Cz p k x)):=by
 have hl:=hx.1;refine Z1 hr (y:=Cz p k x) (by simp [Cz]) oM (fun j hj z hz=>?_) ?_
 ·have hv:=Nz hx hj
  try dsimp only
  unfold Eh;rw [Ay oM,cond_true,Pa hr,obs,hz,obs,Agv hp hv hk,obs,Ah oM,List.set_set,Ac4]
 ·try dsimp only
  unfold Eh;rw [Av oM,cond_false]
theorem Akf {i r:Nat} {x v:List Int} {f:Int} (hp:2<=p/\p<=97) (hx:VecW p w x) (hv:VecW p w v) (hw:w<=100000) (hi:m[i]? =some x) (hr:m[r]? =some v) (hn:i≠r) (hf:0<=f/\f<p) :
  Aq (fun s_:Nat×List (List Int)=>Eb x i r p f s_.1 s_.2) 4611686018427387904 (0,m)=some (m.set i (B8 p f x v)):=by
 have hl:=hx.1;have hl':=hv.1;refine Z1 hi (y:=B8 p f x v) (by simp [B8];omega) oM (fun j hj z hz=>?_) ?_
 ·have h1:=Nz hx hj;have h2:=Nz hv (j:=j) oM
  try dsimp only
  unfold Eb
  rw [Ay oM,cond_true,Pa hi,obs,hz,obs,Ady hn,hr,obs,gEg (show j<v.length by omega),obs,Agv hp hf h2,obs,
   Amd hp h1 (Aal hp.1),obs,Ah oM,List.set_set,Acx,Am8]
 ·try dsimp only
  unfold Eb;rw [Av oM,cond_false]
theorem Ac2 {c r:Nat} {pr:List Int} (h:r<m.length):(Ey p c r pr m)[r]? =some pr:=by
 rw [gEg (by rw [Ll];exact h),Lo,if_pos rfl]
theorem Akq {M0:List (List Int)} {c r:Nat} {pr:List Int} (hp:2<=p/\p<=97) (hm:MatW p w m) (hw:w<=100000) (hl:m.length<=100000) (hr:m[r]? =some pr) (hc:c<w) (h0:M0.length=m.length) :
  Aq (fun s_:Nat×List (List Int)=>Eg M0 r c p s_.1 s_.2) 4611686018427387904 (0,m)=some (Ey p c r pr m):=by
 refine Alx (E:=Ey p c r pr m) (Ll ..) hr (Ac2 (An hr)) oM (fun i hi s hs h1 h2=>?_) ?_
 ·have hx:=hm _ (List.getElem_mem hi);have hv:=hm _ (List.mem_of_getElem? hr);obtain ⟨g1,g2,g3⟩:=De hx hc;generalize hxe:m[i]=x at *
  try dsimp only
  unfold Eg;rw [Ay oM,cond_true,Lo,hxe];by_cases hir:i=r
  ·subst hir;rw [if_pos rfl,show (((i:Nat):Int)==((i:Nat):Int))=true from beq_self_eq_true _,cond_true,obs,cond_true,obs,Ah oM,Ks h2]
  ·rw [if_neg hir,show (((i:Nat):Int)==((r:Nat):Int))=false from by rw [beq_eq_false_iff_ne];omega,cond_false,h1,obs,g3,obs,obs];by_cases h0:x.getD c 0=0
   ·rw [h0,show ((0:Int)==0)=true from rfl,cond_true,obs,Ah oM,Td hx.2 (by rw [hx.1,hv.1];exact Nat.le_refl _),Ks h1]
   ·rw [show (x.getD c 0==0)=false from beq_eq_false_iff_ne.2 h0,cond_false,obs,g3,obs,Akf hp hx hv hw h1 h2 hir ⟨g1,g2⟩,obs,Ah oM]
 ·try dsimp only
  unfold Eg;rw [Av oM,cond_false]
theorem Afl {c r:Nat} {pr y:List Int}:Ey p c r pr (m.set r y)=Ey p c r pr m:=by
 apply List.ext_getElem
 ·rw [Ll,Ll,List.length_set]
 ·intro i h1 h2;rw [Lo,Lo];by_cases h:i=r
  ·rw [if_pos h,if_pos h]
  ·rw [if_neg h,if_neg h];simp only [List.getElem_set,if_neg (fun e=>h (Eq.symm e))]
theorem Ams {c r:Nat} (hm:MatW p w m) (hc:c<w) (hl:m.length<=100000) (hr:r<=m.length) :
  Aq (fun s_:Nat=>C7 m c s_) 4611686018427387904 r=some (Cj m c r):=by
 have hle:=Oq (c:=c) hr;refine Bo ((m.drop r).findIdx fun x=>x.getD c 0 !=0) (fun t=>r+t) (by unfold Cj at hle;omega) _ rfl (fun t ht=>?_) ?_
 ·have h1:r+t<Cj m c r:=by unfold Cj;omega
  have h0:=Wl (i:=r+t) oM h1 hr;obtain ⟨x,hx⟩:=Js (show r+t<m.length by omega);obtain ⟨g1,g2,g3⟩:=De (hm _ (List.mem_of_getElem? hx)) hc;rw [Bi hx] at h0
  try dsimp only
  unfold C7;rw [Ay oM,cond_true,hx,obs,g3,obs,obs,h0,show ((0:Int)==0)=true from rfl,cond_true,Ah oM,Nat.add_assoc]
 ·show C7 m c (Cj m c r)=_;unfold C7;by_cases h:Cj m c r=m.length
  ·rw [Av oM,cond_false,obs,cond_false]
  ·have h0:=Uw h hr;obtain ⟨x,hx⟩:=Js (show Cj m c r<m.length by omega);obtain ⟨g1,g2,g3⟩:=De (hm _ (List.mem_of_getElem? hx)) hc;rw [Bi hx] at h0;rw [Ay oM,cond_true,hx,obs,g3,obs,obs,beq_eq_false_iff_ne.2 h0,cond_false]
theorem Ako {r k:Nat} (hr:r<m.length) (hk:k<m.length):(Ib m r k)[r]? =some (m.getD k []):=by
 unfold Ib;by_cases h:r=k
 ·subst h;rw [List.getElem?_set_self (by rw [List.length_set];exact hr)]
 ·rw [List.getElem?_set_ne (Ne.symm h),List.getElem?_set_self hr]
theorem Ak7 {n:Nat} (hp:isF p=true) (hm:MatW p w m) (hn:n<=w) (hw:w<=100000) (hl:m.length<=100000) :
  Aq (fun s_:Nat×Nat×List (List Int)=>Cb (n:Int) p s_.1 s_.2.1 s_.2.2) 4611686018427387904 (0,0,m)=some (gjT p m n):=by
 have hb:=Ik hp;refine Er n (fun c s=>s=((gjT p m c).1,c,(gjT p m c).2)) oM _ rfl (fun c s hc hI=>?_) (fun s hI=>?_)
 ·subst hI;obtain ⟨hm',hr,hl'⟩:=L6 hb.1 hm c;by_cases hlt:(gjT p m c).1<(gjT p m c).2.length
  ·refine .inl ?_;refine ⟨_,?_,rfl⟩;show Cb _ _ _ _ _=some (Ctl.next ((gjS p c (gjT p m c)).1,c+1,(gjS p c (gjT p m c)).2));generalize gjT p m c=s at *;obtain ⟨r,M⟩:=s
   try dsimp only at *
   unfold Cb gjS;rw [Ay oM,cond_true,obs,Ay oM,cond_true,Ams hm' oM oM hr,obs,if_pos hlt];by_cases hk:Cj M c r=M.length
   ·rw [hk,beq_self_eq_true,cond_true,obs,if_pos rfl];exact Ah oM _
   ·have hle:=Oq (c:=c) hr;have hkl:Cj M c r<M.length:=by omega
    rw [show (((Cj M c r:Nat):Int)==((M.length:Nat):Int))=false from by rw [beq_eq_false_iff_ne];omega,cond_false,if_neg hk];have hnz:=Uw hk hr;obtain ⟨x,hx⟩:=Js hlt;obtain ⟨y,hy⟩:=Js hkl;have hyM:=hm' _ (List.mem_of_getElem? hy);obtain ⟨g1,g2,g3⟩:=De hyM (show c<w by omega);rw [Bi hy] at hnz;obtain ⟨i1,_,i2,i3,_⟩:=Ado hp (a:=y.getD c 0) oM;have hs:=Ako hlt hkl;have hpm:=Uh hm' hlt hkl;have hsl:=M8 M r (Cj M c r);have hsw:(M.set r y).set (Cj M c r) x=Ib M r (Cj M c r):=by unfold Ib;rw [Bi hx,Bi hy]
    rw [hx,obs,hy,obs,hsw,Bi hy];rw [Bi hy] at hs;generalize Ib M r (Cj M c r)=W at *;have hpr:VecW p w (Cz p (K0 p (y.getD c 0)) y):=Ow hb.1 hyM.1
    rw [hs,obs,g3,obs,i1,obs,Ah9 hb hyM hw hs ⟨i2,i3⟩,obs,
     Akq hb (w:=w) (m:=W.set r (Cz p (K0 p (y.getD c 0)) y)) (pr:=Cz p (K0 p (y.getD c 0)) y) (fun z hz=>?_) hw (by rw [List.length_set];omega) (Pa hs) oM rfl,obs,Ah oM,obs,Afl]
    ·exact Ah oM _
    ·rcases List.mem_or_eq_of_mem_set hz with hz|rfl
     ·exact hpm _ hz
     ·exact hpr
  ·refine .inr ?_;rw [Xf hlt n oM];generalize gjT p m c=s at *
   try dsimp only
   unfold Cb;rw [Ay oM,cond_true,obs,Av oM,cond_false]
 ·subst hI
  try dsimp only
  unfold Cb;rw [Av oM,cond_false,obs,cond_false]
theorem Amb (hm:MatW p w m) (hw:w<=100000) (hl:m.length<=100000) :
  Aq (fun s_:Nat×List (List Int)=>Da m s_.1 s_.2) 4611686018427387904 (0,([]:List (List Int)))=some m:=by
 have h:=Mo (body:=fun s_:Nat×List (List Int)=>Da m s_.1 s_.2) m id [] (F:=4611686018427387904) oM m (fun i x h=>?_) ?_
 ·simpa using h
 ·have:=An h;have hx:=(hm x (List.mem_of_getElem? h)).1
  try dsimp only
  unfold Da;rw [Ay oM,cond_true,h,obs,Af7 _ oM,obs,Ah (by simp;omega),Ah oM];rfl
 ·try dsimp only
  unfold Da;rw [Av oM,cond_false,List.map_id,List.nil_append]
theorem Aea {n:Nat} (hp:isF p=true) (hm:MatW p w m) (hn:n<=w) (hw:w<=100000) (hl:m.length<=100000):G0 p (n:Int) m=some (gj p n m):=by
 have hb:=Ik hp;obtain ⟨_,h2,h3⟩:=L6 hb.1 hm n;unfold G0;rw [Amb hm hw hl,obs,Ak7 hp hm hn hw hl,obs];exact Ah oM _
end
end
section
theorem Ajo {ρ:Type} {body:Nat×List (List Int)×List (List Int)->Option (Ctl (Nat×List (List Int)×List (List Int)) ρ)} {M E A B:List (List Int)} {r:Nat} {pr pa:List Int} {o:ρ}
  (hl:E.length=M.length) (hA:A.length=M.length) (hB:B.length=M.length) (hM:M[r]? =some pr) (hE:E[r]? =some pr) (hM':A[r]? =some pa) (hE':B[r]? =some pa) (hb:M.length<4611686018427387904)
  (hs:∀ i (h:i<M.length) (s t:List (List Int)),s.length=M.length->t.length=M.length->s[i]? =some M[i]->t[i]? =some (A[i]'oM)->s[r]? =some pr->t[r]? =some pa ->
   body (i,s,t)=some (.next (i+1,s.set i (E[i]'oM),t.set i (B[i]'oM)))) (he:body (M.length,E,B)=some (.out o)) :
  Aq body 4611686018427387904 (0,M,A)=some o:=by
 have hr:∀ {M E:List (List Int)} {pr:List Int} {j:Nat},(E.take j).length=j->M[r]? =some pr->E[r]? =some pr->(E.take j++M.drop j)[r]? =some pr:=by
  intro M E pr j h1 hM hE;by_cases h2:r<j
  ·rw [List.getElem?_append_left oM,List.getElem?_take,if_pos h2];exact hE
  ·rw [List.getElem?_append_right oM,h1,List.getElem?_drop,show j+(r - j)=r by omega];exact hM
 refine Bo M.length (fun j=>(j,E.take j++M.drop j,B.take j++A.drop j)) hb _ rfl (fun j hj=>?_) ?_
 ·have h1:(E.take j).length=j:=by rw [List.length_take];omega
  have h2:(B.take j).length=j:=by rw [List.length_take];omega
  rw [hs j hj _ _ (by simp;omega) (by simp;omega) (Mu hj h1) (Mu oM h2) (hr h1 hM hE) (hr h2 hM' hE'),Mm hj h1,Mm oM h2,List.take_add_one,gEg oM,List.take_add_one,gEg oM];rfl
 ·rw [List.drop_length,List.append_nil,← hl,List.take_length,hl,← hA,List.drop_length,List.append_nil,hA,← hB,List.take_length,hB];exact he
theorem VecW.tk {p:Int} {w u:Nat} {x:List Int} (h:VecW p w x) (hu:u<=w):VecW p u (x.take u):=⟨by rw [List.length_take,h.1];omega,fun a ha=>h.2 a (List.mem_of_mem_take ha)⟩
theorem VecW.dr {p:Int} {w u:Nat} {x:List Int} (h:VecW p w x):VecW p (w - u) (x.drop u):=⟨by rw [List.length_drop,h.1],fun a ha=>h.2 a (List.mem_of_mem_drop ha)⟩
theorem MatW.tk {p:Int} {w u:Nat} {m:List (List Int)} (h:MatW p w m) (hu:u<=w):MatW p u (m.map (·.take u)):=fun x hx=>by
 obtain ⟨y,hy,rfl⟩:=List.mem_map.1 hx;exact (h y hy).tk hu
theorem MatW.dr {p:Int} {w u:Nat} {m:List (List Int)} (h:MatW p w m):MatW p (w - u) (m.map (·.drop u)):=fun x hx=>by
 obtain ⟨y,hy,rfl⟩:=List.mem_map.1 hx;exact (h y hy).dr
section
variable {p:Int} {w:Nat} {m:List (List Int)}
theorem Ur {x v:List Int} {f:Int} (hp:2<=p/\p<=97) (hx:VecW p w x) (hv:VecW p w v) (hw:w<=100000) (hf:0<=f/\f<p) :
  Ep p x (wI (0 - f)) v=some (B8 p f x v):=by
 have hl:=hx.1;have hl':=hv.1;unfold Ep;refine Aga (y:=B8 p f x v) (by simp [B8];omega) oM (fun j hj z hz=>?_) ?_
 ·have h1:=Nz hx hj;have h2:=Nz hv (j:=j) oM;have h3:=Aao hp hf h2;have e:(0 - f)*v[j]= -(f*v[j]):=by rw [Int.zero_sub,Int.neg_mul]
  try dsimp only
  unfold Hd;rw [Ay oM,cond_true,gEg (show j<v.length by omega),obs,hz,obs,Bk (n:=0 - f) oM oM,e,Bk (n:= -(f*v[j])) oM oM,Bk oM oM,Ap2 hp,obs,Ah oM,Acx];rfl
 ·try dsimp only
  unfold Hd;rw [Av oM,cond_false]
theorem Ab1 {r k:Nat} {x y:List Int} {b:Int} (hr:m[r]? =some x) (hk:m[k]? =some y):A9 0 (r:Int) (k:Int) b p m=some (Ib m r k):=by
 unfold A9 Ib;rw [show ((0:Int)==0)=true from rfl,cond_true,Cf oM,Int.toNat_natCast,hk,obs,Cf oM,Int.toNat_natCast,hr,obs,Bi hr,Bi hk]
theorem Abh {r:Nat} {x:List Int} {a b:Int} (hp:isF p=true) (hx:VecW p w x) (hw:w<=100000) (hr:m[r]? =some x) (ha:1<=a/\a<p) :
  A9 1 (r:Int) b a p m=some (m.set r (Cz p (K0 p a) x)):=by
 obtain ⟨_,i1,i2,i3,_⟩:=Ado hp ha;have hb:=Ik hp;have hl:=hx.1;unfold A9;rw [show ((1:Int)==0)=false from rfl,cond_false,show ((1:Int)==1)=true from rfl,cond_true,i1,obs,Cf oM,Int.toNat_natCast,hr,obs];refine Z1 hr (y:=Cz p (K0 p a) x) (by simp [Cz]) oM (fun j hj z hz=>?_) ?_
 ·have hv:=Nz hx hj;have h3:=Aao hb hv ⟨i2,i3⟩
  try dsimp only
  unfold Cq;rw [Ay oM,cond_true,Cf oM,Int.toNat_natCast,Pa hr,obs,Ah oM,hz,obs,Ah oM,Ah oM,List.set_set,Ac4,Bk oM oM,Int.tmod_eq_emod_of_nonneg oM]
 ·try dsimp only
  unfold Cq;rw [Av oM,cond_false]
theorem Acd {i r:Nat} {x v:List Int} {f:Int} (hp:2<=p/\p<=97) (hx:VecW p w x) (hv:VecW p w v) (hw:w<=100000) (hi:m[i]? =some x) (hr:m[r]? =some v) (hn:i≠r) (hf:0<=f/\f<p) :
  A9 2 (i:Int) (r:Int) f p m=some (m.set i (B8 p f x v)):=by
 have hl:=hx.1;have hl':=hv.1;unfold A9
 rw [show ((2:Int)==0)=false from rfl,cond_false,show ((2:Int)==1)=false from rfl,cond_false,show ((2:Int)==2)=true from rfl,cond_true,Cf oM,Int.toNat_natCast,hi,obs,Cf oM,Int.toNat_natCast,hr,obs,
  Ah hn,Ur hp hx hv hw hf,obs,Ah (by simp [B8];omega)]
theorem Abd {r:Nat} (hr:r<m.length):Ib m r r=m:=by
 obtain ⟨x,hx⟩:=Js hr;unfold Ib;rw [Bi hx,List.set_set,Ks hx]
theorem Amo {A:List (List Int)} {r k:Nat} (hA:A.length=m.length) (hr:r<m.length) (hk:k<m.length):Bc 0 (r:Int) (k:Int) 0 p m A=some (Ib m r k,Ib A r k):=by
 unfold Bc;by_cases h:r=k
 ·subst h;rw [beq_self_eq_true,cond_true,Abd hr,Abd oM]
 ·obtain ⟨x,hx⟩:=Js hr;obtain ⟨y,hy⟩:=Js hk;obtain ⟨x',hx'⟩:=Js (show r<A.length by omega);obtain ⟨y',hy'⟩:=Js (show k<A.length by omega);rw [show ([(0:Int),(r:Int),(k:Int),0]==[0,(r:Int),(r:Int),0])=false from by rw [beq_eq_false_iff_ne];intro e;simp at e;omega,cond_false,Ab1 hx hy,obs,Ah (M8 ..),Ab1 hx' hy',obs,Ah (M8 ..)]
theorem Ang {A:List (List Int)} {w' r:Nat} {x y:List Int} {a:Int} (hp:isF p=true) (hx:VecW p w x) (hy:VecW p w' y) (hw:w<=100000) (hw':w'<=100000) (hr:m[r]? =some x) (hA:A[r]? =some y) (ha:1<=a/\a<p) :
  Bc 1 (r:Int) 0 a p m A=some (m.set r (Cz p (K0 p a) x),A.set r (Cz p (K0 p a) y)):=by
 unfold Bc;rw [show ([(1:Int),(r:Int),0,a]==[0,(r:Int),(r:Int),0])=false from by rw [beq_eq_false_iff_ne];intro e;simp at e,cond_false,Abh hp hx hw hr ha,obs,Ah (List.length_set ..),Abh hp hy hw' hA ha,obs,Ah (List.length_set ..)]
theorem Amx {A:List (List Int)} {w' i r:Nat} {x v y u:List Int} {f:Int} (hp:2<=p/\p<=97) (hx:VecW p w x) (hv:VecW p w v) (hy:VecW p w' y) (hu:VecW p w' u) (hw:w<=100000) (hw':w'<=100000)
  (hi:m[i]? =some x) (hr:m[r]? =some v) (hi':A[i]? =some y) (hr':A[r]? =some u) (hn:i≠r) (hf:0<=f/\f<p) :
  Bc 2 (i:Int) (r:Int) f p m A=some (m.set i (B8 p f x v),A.set i (B8 p f y u)):=by
 unfold Bc;rw [show ([(2:Int),(i:Int),(r:Int),f]==[0,(i:Int),(i:Int),0])=false from by rw [beq_eq_false_iff_ne];intro e;simp at e,cond_false,Acd hp hx hv hw hi hr hn hf,obs,Ah (List.length_set ..),Acd hp hy hu hw' hi' hr' hn hf,obs,Ah (List.length_set ..)]
def Qx (p:Int) (c r:Nat) (pa:List Int) (M A:List (List Int)):List (List Int):=A.mapIdx fun i x=>if i=r then pa else B8 p ((M.getD i []).getD c 0) x pa
theorem On {c r:Nat} {pa:List Int} {M A:List (List Int)} {i:Nat} (h:i<(Qx p c r pa M A).length) :
  (Qx p c r pa M A)[i]=if i=r then pa else B8 p ((M.getD i []).getD c 0) (A[i]'(by simpa [Qx] using h)) pa:=by simp [Qx]
theorem Ajx {M0:List (List Int)×List (List Int)} {A:List (List Int)} {w' c r:Nat} {pr pa:List Int} (hp:2<=p/\p<=97) (hm:MatW p w m) (hA:MatW p w' A) (hlA:A.length=m.length) (hw:w<=100000) (hw':w'<=100000) (hl:m.length<=100000)
  (hr:m[r]? =some pr) (hr':A[r]? =some pa) (hc:c<w) (h0:M0.1.length=m.length) :
  Aq (fun s_:Nat×List (List Int)×List (List Int)=>Du M0 r c p s_.1 s_.2.1 s_.2.2) 4611686018427387904 (0,m,A)=some (Ey p c r pr m,Qx p c r pa m A):=by
 have hla:(Qx p c r pa m A).length=m.length:=by simp [Qx,hlA]
 have hr2:=An hr;refine Ajo (E:=Ey p c r pr m) (B:=Qx p c r pa m A) (Ll ..) hlA hla hr (Ac2 hr2) hr' ?_ oM (fun i hi s t hs ht h1 k1 h2 k2=>?_) ?_
 ·rw [gEg oM,On,if_pos rfl]
 ·have hx:=hm _ (List.getElem_mem hi);have hy:=hA _ (List.getElem_mem (show i<A.length by omega));have hv:=hm _ (List.mem_of_getElem? hr);have hu:=hA _ (List.mem_of_getElem? hr');obtain ⟨g1,g2,g3⟩:=De hx hc;have hD:m.getD i []=m[i]:=Bi (gEg hi)
  try dsimp only
  unfold Du;rw [Ay oM,cond_true,Lo,On,hD];generalize m[i]=x at *;generalize A[i]=y at *;by_cases hir:i=r
  ·subst hir;rw [if_pos rfl,if_pos rfl,show (((i:Nat):Int) !=((i:Nat):Int))=false from bne_self_eq_false _,cond_false,obs,cond_false,obs,Ks h2,Ks k2];exact Ah oM _
  ·rw [if_neg hir,if_neg hir,show (((i:Nat):Int) !=((r:Nat):Int))=true from by rw [bne_iff_ne];omega,cond_true,h1,obs,g3,obs,obs];by_cases h0:x.getD c 0=0
   ·rw [h0,show ((0:Int) !=0)=false from rfl,cond_false,obs,Td hx.2 (by rw [hx.1,hv.1];exact Nat.le_refl _),Td hy.2 (by rw [hy.1,hu.1];exact Nat.le_refl _),Ks h1,Ks k1];exact Ah oM _
   ·rw [show (x.getD c 0 !=0)=true from bne_iff_ne.2 h0,cond_true,obs,g3,obs,Amx hp hx hv hy hu hw hw' h1 h2 k1 k2 hir ⟨g1,g2⟩,obs,obs];exact Ah oM _
 ·try dsimp only
  unfold Du;rw [Av oM,cond_false]
theorem Ama {c r:Nat} (hm:MatW p w m) (hc:c<w) (hl:m.length<=100000) (hr:r<=m.length) :
  Aq (fun s_:Nat=>Cu m c s_) 4611686018427387904 r=some (Cj m c r):=by
 have hle:=Oq (c:=c) hr;refine Bo ((m.drop r).findIdx fun x=>x.getD c 0 !=0) (fun t=>r+t) (by unfold Cj at hle;omega) _ rfl (fun t ht=>?_) ?_
 ·have h1:r+t<Cj m c r:=by unfold Cj;omega
  have h0:=Wl (i:=r+t) oM h1 hr;obtain ⟨x,hx⟩:=Js (show r+t<m.length by omega);obtain ⟨g1,g2,g3⟩:=De (hm _ (List.mem_of_getElem? hx)) hc;rw [Bi hx] at h0
  try dsimp only
  unfold Cu;rw [Ay oM,cond_true,hx,obs,g3,obs,obs,h0,show ((0:Int)==0)=true from rfl,cond_true,Ah oM,Nat.add_assoc]
 ·show Cu m c (Cj m c r)=_;unfold Cu;by_cases h:Cj m c r=m.length
  ·rw [Av oM,cond_false,obs,cond_false]
  ·have h0:=Uw h hr;obtain ⟨x,hx⟩:=Js (show Cj m c r<m.length by omega);obtain ⟨g1,g2,g3⟩:=De (hm _ (List.mem_of_getElem? hx)) hc;rw [Bi hx] at h0;rw [Ay oM,cond_true,hx,obs,g3,obs,obs,beq_eq_false_iff_ne.2 h0,cond_false]
theorem O7 {x:List Int} {u c:Nat} (h:c<u):(x.take u).getD c 0=x.getD c 0:=by
 rw [gDg,List.getElem?_take,if_pos h,gDg]
theorem Akt {u c r:Nat} (h:c<u):Cj (m.map (·.take u)) c r=Cj m c r:=by
 unfold Cj;rw [← List.map_drop,List.findIdx_map];congr 2;funext x;exact congrArg (· !=0) (O7 h)
theorem Ux {f:List Int->List Int} (hf:f []=[]) {i:Nat}:(m.map f).getD i []=f (m.getD i []):=by
 rw [gDg,List.getElem?_map,gDg];cases m[i]? with
 | none=>exact hf.symm
 | some x=>rfl
theorem Af3 {f:List Int->List Int} (hf:f []=[]) {r k:Nat}:(Ib m r k).map f=Ib (m.map f) r k:=by
 unfold Ib;rw [List.map_set,List.map_set,Ux hf,Ux hf]
theorem Ahr {k:Int} {x:List Int} {u:Nat}:(Cz p k x).take u=Cz p k (x.take u):=by simp [Cz,List.map_take]
theorem Ag2 {k:Int} {x:List Int} {u:Nat}:(Cz p k x).drop u=Cz p k (x.drop u):=by simp [Cz,List.map_drop]
theorem Ag5 {k:Int} {x v:List Int} {u:Nat}:(B8 p k x v).take u=B8 p k (x.take u) (v.take u):=by simp [B8,List.take_zipWith]
theorem Ahh {k:Int} {x v:List Int} {u:Nat}:(B8 p k x v).drop u=B8 p k (x.drop u) (v.drop u):=by simp [B8,List.drop_zipWith]
theorem Aim {c r u:Nat} {pr:List Int} (h:c<u):(Ey p c r pr m).map (·.take u)=Ey p c r (pr.take u) (m.map (·.take u)):=by
 apply List.ext_getElem
 ·simp [Ey]
 ·intro i h1 h2;rw [List.getElem_map,Lo,Lo,List.getElem_map,O7 h];split
  ·rfl
  ·exact Ag5
theorem Aih {c r u:Nat} {pr:List Int} (h:c<u):(Ey p c r pr m).map (·.drop u)=Qx p c r (pr.drop u) (m.map (·.take u)) (m.map (·.drop u)):=by
 apply List.ext_getElem
 ·simp [Ey,Qx]
 ·intro i h1 h2;rw [List.getElem_map,Lo,On,List.getElem_map,Ux (f:=(·.take u)) List.take_nil,O7 h,show m.getD i []=m[i]'(by simpa [Ey] using h1) from Bi (gEg (by simpa [Ey] using h1))];split
  ·rfl
  ·exact Ahh
theorem Aky {c r:Nat} {pa y z:List Int} {M A:List (List Int)}:Qx p c r pa (M.set r z) (A.set r y)=Qx p c r pa M A:=by
 apply List.ext_getElem
 ·simp [Qx]
 ·intro i h1 h2;rw [On,On];by_cases h:i=r
  ·rw [if_pos h,if_pos h]
  ·rw [if_neg h,if_neg h];simp only [List.getElem_set,if_neg (fun e=>h (Eq.symm e)),gDg,List.getElem?_set_ne (Ne.symm h)]
def rdW (u:Nat) (W:List (List Int)):List (List Int):=W.map (·.take u)
def alW (u:Nat) (W:List (List Int)):List (List Int):=W.map (·.drop u)
theorem Aik {n u:Nat} (hp:isF p=true) (hm:MatW p w m) (hn:n<=u) (hu:u<=w) (hw:w<=100000) (hl:m.length<=100000) :
  Aq (fun s_:Nat×Nat×List (List Int)×List (List Int)=>B5 (n:Int) p s_.1 s_.2.1 s_.2.2.1 s_.2.2.2) 4611686018427387904 (0,0,rdW u m,alW u m)=some ((gjT p m n).1,rdW u (gjT p m n).2,alW u (gjT p m n).2):=by
 have hb:=Ik hp;refine Er n (fun c s=>s=((gjT p m c).1,c,rdW u (gjT p m c).2,alW u (gjT p m c).2)) oM _ rfl (fun c s hc hI=>?_) (fun s hI=>?_)
 ·subst hI;obtain ⟨hm',hr,hl'⟩:=L6 hb.1 hm c;have hlr:(rdW u (gjT p m c).2).length=(gjT p m c).2.length:=List.length_map ..;have hla:(alW u (gjT p m c).2).length=(gjT p m c).2.length:=List.length_map ..;by_cases hlt:(gjT p m c).1<(gjT p m c).2.length
  ·refine .inl ?_;refine ⟨_,?_,rfl⟩;show B5 _ _ _ _ _ _=some (Ctl.next ((gjS p c (gjT p m c)).1,c+1,rdW u (gjS p c (gjT p m c)).2,alW u (gjS p c (gjT p m c)).2));generalize gjT p m c=s at *;obtain ⟨r,M⟩:=s
   try dsimp only at *
   have hR:MatW p u (rdW u M):=hm'.tk hu;have hA:MatW p (w - u) (alW u M):=hm'.dr;have hpv:Cj (rdW u M) c r=Cj M c r:=Akt oM;unfold B5 gjS;rw [Ay oM,cond_true,obs,Ay oM,cond_true,Ama hR oM oM oM,obs,if_pos hlt,hlr,hpv];by_cases hk:Cj M c r=M.length
   ·rw [hk,beq_self_eq_true,cond_true,obs,if_pos rfl];exact Ah oM _
   ·have hle:=Oq (c:=c) hr;have hkl:Cj M c r<M.length:=by omega
    rw [show (((Cj M c r:Nat):Int)==((M.length:Nat):Int))=false from by rw [beq_eq_false_iff_ne];omega,cond_false,if_neg hk];have hnz:=Uw hk hr;obtain ⟨y,hy⟩:=Js hkl;have hyM:=hm' _ (List.mem_of_getElem? hy);obtain ⟨g1,g2,_⟩:=De hyM (show c<w by omega);rw [Bi hy] at hnz;have hs:=Ako hlt hkl;rw [Bi hy] at hs;have hpm:=Uh hm' hlt hkl;have hsl:=M8 M r (Cj M c r);have e1:Ib (rdW u M) r (Cj M c r)=rdW u (Ib M r (Cj M c r)):=(Af3 List.take_nil).symm;have e2:Ib (alW u M) r (Cj M c r)=alW u (Ib M r (Cj M c r)):=(Af3 List.drop_nil).symm;rw [Amo oM oM oM,obs,e1,e2,Bi hy];generalize Ib M r (Cj M c r)=W at *;have hs1:(rdW u W)[r]? =some (y.take u):=by simp [rdW,hs]
    have hs2:(alW u W)[r]? =some (y.drop u):=by simp [alW,hs]
    have g4:(y.take u)[c]? =some (y.getD c 0):=by rw [(De (hyM.tk hu) (show c<u by omega)).2.2,O7 oM]
    have q1:VecW p u (Cz p (K0 p (y.getD c 0)) (y.take u)):=Ow hb.1 (hyM.tk hu).1;have q2:VecW p (w - u) (Cz p (K0 p (y.getD c 0)) (y.drop u)):=Ow hb.1 hyM.dr.1;have l1:(rdW u W).length=W.length:=List.length_map ..;have l2:(alW u W).length=W.length:=List.length_map ..
    try dsimp only
    rw [hs1,obs,g4,obs,Ang hp (hyM.tk hu) hyM.dr oM oM hs1 hs2 oM,obs]
    try dsimp only
    rw [Ajx hb (w:=u) (w':=w - u) (pr:=Cz p (K0 p (y.getD c 0)) (y.take u)) (pa:=Cz p (K0 p (y.getD c 0)) (y.drop u)) (fun z hz=>?_) (fun z hz=>?_) (by simp only [List.length_set];omega) oM oM (by simp only [List.length_set];omega) (Pa hs1) (Pa hs2) oM rfl,obs]
    ·have e3:rdW u (Ey p c r (prV p c y) W)=Ey p c r (Cz p (K0 p (y.getD c 0)) (y.take u)) (rdW u W):=by
      unfold rdW prV;rw [Aim oM,Ahr]
     have e4:alW u (Ey p c r (prV p c y) W)=Qx p c r (Cz p (K0 p (y.getD c 0)) (y.drop u)) (rdW u W) (alW u W):=by
      unfold rdW alW prV;rw [Aih oM,Ag2]
     try dsimp only
     rw [Ah oM,obs,Afl,Aky,e3,e4];exact Ah oM _
    ·rcases List.mem_or_eq_of_mem_set hz with hz|rfl
     ·exact hpm.tk hu _ hz
     ·exact q1
    ·rcases List.mem_or_eq_of_mem_set hz with hz|rfl
     ·exact hpm.dr _ hz
     ·exact q2
  ·refine .inr ?_;rw [Xf hlt n oM];generalize gjT p m c=s at *
   try dsimp only
   unfold B5;rw [Ay oM,cond_true,obs,hlr,Av oM,cond_false]
 ·subst hI
  try dsimp only
  unfold B5;rw [Av oM,cond_false,obs,cond_false]
theorem Acu {n u:Nat} (hp:isF p=true) (hm:MatW p w m) (hn:n<=u) (hu:u<=w) (hw:w<=100000) (hl:m.length<=100000):Ga p (rdW u m) (n:Int) (alW u m)=some (rdW u (gjT p m n).2,alW u (gjT p m n).2,(gjT p m n).1):=by
 unfold Ga;rw [Aik hp hm hn hu hw hl,obs]
theorem Abg (hm:MatW p w m) (hw:w<=100000) (hl:m.length<=100000):Gu m=some m:=by
 unfold Gu;have h:=Mo (body:=fun s_:Nat×List (List Int)=>D2 m s_.1 s_.2) m id [] (F:=4611686018427387904) oM m (fun i x h=>?_) ?_
 ·rw [Ah oM,show List.replicate 0 ([]:List Int)=[] from rfl,show Aq (fun s_:Nat×List (List Int)=>D2 m s_.1 s_.2) 4611686018427387904 (0,[])=some m by simpa using h];rfl
 ·have:=An h;have hx:=(hm x (List.mem_of_getElem? h)).1
  try dsimp only
  unfold D2;rw [Ay oM,cond_true,h,obs,Af0 _ oM,obs,Ah (by simp;omega),Ah oM];rfl
 ·try dsimp only
  unfold D2;rw [Av oM,cond_false,List.map_id,List.nil_append]
end
end
section
def U2 (p n:Int) (b:List (List Int)):Bool:=b.all fun x=>((x.length:Nat):Int)==n&&x.all fun a=>inR a 0 (p - 1)
theorem G9 {a lo hi:Int}:inR a lo hi=true↔lo<=a/\a<=hi:=by simp [inR]
theorem Sf {p:Int} {n:Nat} {b:List (List Int)} (h:U2 p n b=true):MatW p n b:=by
 intro x hx;have h1:=List.all_eq_true.1 h x hx;simp only [Bool.and_eq_true,beq_iff_eq,List.all_eq_true,G9] at h1;exact ⟨by omega,fun a ha=>by have:=h1.2 a ha;omega⟩
theorem Aj6 (p n:Int) (b:List (List Int)) (hp:2<=p/\p<=97) (hb:b.length<=1048576) (hr:Gh 1048576 b):Is p n b=some (U2 p n b):=by
 unfold Is;rw [D1 b (fun x=>((x.length:Nat):Int)==n&&x.all fun a=>inR a 0 (p - 1)) (.next ()) (.out false) oM (fun i x h=>?_) ?_,It];rfl
 ·unfold Ie;rw [Av oM,cond_false]
 ·have:=An h;have hx:=hr x (List.mem_of_getElem? h);unfold Ie;rw [Ay oM,cond_true,h,obs];cases hc:((x.length:Nat):Int)==n
  ·rw [show (((x.length:Nat):Int) !=n)=true by simp only [bne,hc,Bool.not_false],cond_true,obs,cond_true,Bool.false_and];rfl
  ·rw [show (((x.length:Nat):Int) !=n)=false by simp only [bne,hc,Bool.not_true],cond_false,An9 p x hp oM,obs,obs,Bool.true_and,Ah oM];cases x.all fun a=>inR a 0 (p - 1) <;> rfl
theorem Z3 (p n:Int) (b:List (List Int)) (hb:b.length<=1048576) (hr:Gh 1048576 b):Fe p b n=some (U2 p n b):=by
 unfold Fe;rw [D1 b (fun x=>((x.length:Nat):Int)==n&&x.all fun a=>inR a 0 (p - 1)) (.next ()) (.out false) oM (fun i x h=>?_) ?_,It];rfl
 ·unfold Fi;rw [Av oM,cond_false]
 ·have:=An h;have hx:=hr x (List.mem_of_getElem? h);unfold Fi;rw [Ay oM,cond_true,h,obs,Adz p x n oM,obs,Ah oM];cases ((x.length:Nat):Int)==n&&x.all fun a=>inR a 0 (p - 1) <;> rfl
theorem Ade (x y:List Int) (hx:x.length<=1048576):Gt x y=some (x==y):=by
 unfold Gt;by_cases h:x.length=y.length
 ·rw [show (((x.length:Nat):Int) !=((y.length:Nat):Int))=false by rw [h];exact bne_self_eq_false _,cond_false]
  have key:Aq (fun s_:Nat=>F2 x y s_) 4611686018427387904 0=some (if x==y then .next () else .out false):=by
   refine Er x.length (fun i s=>s=i/\x.take i=y.take i) oM _ ⟨rfl,by simp⟩ ?_ ?_
   ·rintro i s hi ⟨hsi,ht⟩;subst hsi;unfold F2;rw [Ay oM,cond_true,gEg hi,obs,gEg (show s<y.length by omega),obs];by_cases he:x[s]=y[s]'oM
    ·refine .inl ⟨s+1,?_,rfl,?_⟩
     ·rw [show (x[s] !=y[s]'oM)=false by rw [he];exact bne_self_eq_false _,cond_false,Ah oM]
     ·rw [List.take_add_one,List.take_add_one,ht,gEg hi,gEg (show s<y.length by omega),he]
    ·refine .inr ?_;rw [bne_iff_ne.2 he,cond_true,show (x==y)=false from by rw [beq_eq_false_iff_ne];intro e;subst e;exact he rfl];rfl
   ·rintro s ⟨hs,ht⟩;subst hs;rw [List.take_length,h,List.take_length] at ht;subst ht;unfold F2;rw [Av oM,cond_false,beq_self_eq_true];rfl
  rw [key];cases x==y <;> rfl
 ·rw [show (((x.length:Nat):Int) !=((y.length:Nat):Int))=true by rw [bne_iff_ne];omega,cond_true,show (x==y)=false from by rw [beq_eq_false_iff_ne];intro e;subst e;exact h rfl]
theorem Ai0 (x y:List (List Int)) (hx:x.length<=1048576) (hr:Gh 1048576 x):Iu x y=some (x==y):=by
 unfold Iu;by_cases h:x.length=y.length
 ·rw [show (((x.length:Nat):Int) !=((y.length:Nat):Int))=false by rw [h];exact bne_self_eq_false _,cond_false]
  have key:Aq (fun s_:Nat=>Gc x y s_) 4611686018427387904 0=some (if x==y then .next () else .out false):=by
   refine Er x.length (fun i s=>s=i/\x.take i=y.take i) oM _ ⟨rfl,by simp⟩ ?_ ?_
   ·rintro i s hi ⟨hsi,ht⟩;subst hsi;unfold Gc;rw [Ay oM,cond_true,gEg hi,obs,gEg (show s<y.length by omega),obs,Ade _ _ (hr _ (List.getElem_mem hi)),obs];by_cases he:x[s]=y[s]'oM
    ·refine .inl ⟨s+1,?_,rfl,?_⟩
     ·rw [show (x[s]==y[s]'oM)=true by rw [he];exact beq_self_eq_true _,Bool.not_true,cond_false,Ah oM]
     ·rw [List.take_add_one,List.take_add_one,ht,gEg hi,gEg (show s<y.length by omega),he]
    ·refine .inr ?_;rw [beq_eq_false_iff_ne.2 he,Bool.not_false,cond_true,show (x==y)=false from by rw [beq_eq_false_iff_ne];intro e;subst e;exact he rfl];rfl
   ·rintro s ⟨hs,ht⟩;subst hs;rw [List.take_length,h,List.take_length] at ht;subst ht;unfold Gc;rw [Av oM,cond_false,beq_self_eq_true];rfl
  rw [key];cases x==y <;> rfl
 ·rw [show (((x.length:Nat):Int) !=((y.length:Nat):Int))=true by rw [bne_iff_ne];omega,cond_true,show (x==y)=false from by rw [beq_eq_false_iff_ne];intro e;subst e;exact h rfl]
theorem Ah3 {p:Int} {w:Nat} {m:List (List Int)} (hp:isF p=true) (hm:MatW p w m) (hw:w<=100000) (hl:m.length<=100000):Fm p m (w:Int)=some (gj p w m):=by
 have hb:=Ik hp;obtain ⟨k1,h2,h3⟩:=L6 hb.1 hm w
 have e1:∀ {m:List (List Int)},MatW p w m->rdW w m=m:=fun {m} hm=>by
  unfold rdW;exact (List.map_congr_left (g:=id) (fun x hx=>List.take_of_length_le (Nat.le_of_eq (hm x hx).1))).trans (List.map_id _)
 have e2:alW w m=List.replicate m.length []:=by
  unfold alW;rw [List.eq_replicate_iff];refine ⟨List.length_map ..,fun b hb=>?_⟩;obtain ⟨x,hx,rfl⟩:=List.mem_map.1 hb;exact List.drop_of_length_le (Nat.le_of_eq (hm x hx).1)
 have e3:(alW w (gjT p m w).2).length=m.length:=by rw [← h3];exact List.length_map ..
 have hR:=Acu hp hm (Nat.le_refl w) (Nat.le_refl w) hw hl;rw [e1 hm,e2] at hR;unfold Fm;rw [Abg hm hw hl,obs,Ah oM,hR,obs];rw [e1 k1];rw [Ah h3,Ah e3];exact Ah (by dsimp only;omega) _
theorem Anl (x:List Int):Ni x=some (x.take 48++(List.replicate 48 0).drop (x.take 48).length):=rfl
theorem Af1 (x:List Int):(x.take 48++(List.replicate 48 (0:Int)).drop (x.take 48).length).length=48:=by simp;omega
theorem Amy {x y:List Int} {n:Nat} (hx:x.length=n) (hy:y.length=n) (hn:n<=48) (h:x.take 48++(List.replicate 48 (0:Int)).drop (x.take 48).length=y.take 48++(List.replicate 48 (0:Int)).drop (y.take 48).length):x=y:=by
 rw [List.take_of_length_le oM,List.take_of_length_le (show y.length<=48 by omega)] at h;exact (List.append_inj h oM).1
theorem Acf {p:Int} {n:Nat} (b:List (List Int)) (hp:isF p=true) (hn:n<=48) (hb:b.length<=1048576) (hr:Gh 1048576 b) :
  Gf p b (n:Int)=some (decide (((b.length:Nat):Int)<=n)&&(U2 p n b&&gj p n b==b)):=by
 unfold Gf;by_cases h1:(n:Int)<b.length
 ·rw [Ay h1,cond_true,obs,cond_true,Av oM,Bool.false_and]
 rw [Av h1,cond_false,Ay (show ((b.length:Nat):Int)<=n by omega),Bool.true_and,Z3 p n b hb hr,obs,obs];cases hv:U2 p n b
 ·rw [Bool.not_false,cond_true,Bool.false_and]
 have hm:=Sf hv;have hp2:=Ik hp;have hl:=(L6 hp2.1 hm n).2;have hgl:=Afc (n:=n) hp2.1 hm;have hgm:=Aj5 (n:=n) hp2.1 hm;rw [Bool.not_true,cond_false,Ah3 hp hm oM oM,obs,obs,Bool.true_and]
 have key:Aq (fun s_:Nat=>Dt (gj p n b) b s_) 4611686018427387904 0=some (if gj p n b==b.take (gj p n b).length then .next () else .out false):=by
  generalize gj p n b=x at *;refine Er x.length (fun i s=>s=i/\x.take i=b.take i) oM _ ⟨rfl,by simp⟩ ?_ ?_
  ·rintro i s hi ⟨hsi,ht⟩;subst hsi;have hs:s<b.length:=by omega
   unfold Dt;rw [Ay oM,cond_true,gEg hi,obs,Anl,obs,gEg hs,obs,Anl,obs,Ah ⟨Af1 _,Af1 _⟩];by_cases he:x[s]=b[s]
   ·refine .inl ⟨s+1,?_,rfl,?_⟩
    ·rw [he,beq_self_eq_true,Bool.not_true,cond_false,Ah oM]
    ·rw [List.take_add_one,List.take_add_one,ht,gEg hi,gEg hs,he]
   ·refine .inr ?_;rw [beq_eq_false_iff_ne.2 (fun e=>he (Amy (hgm _ (List.getElem_mem hi)).1 (hm _ (List.getElem_mem hs)).1 hn e)),Bool.not_false,cond_true,show (x==b.take x.length)=false from ?_]
    ·rfl
    ·rw [beq_eq_false_iff_ne];intro e;refine he ?_;have e2:=congrArg (fun l=>l[s]?) e;simp only [List.getElem?_take,if_pos hi,gEg hi,gEg hs,Option.some.injEq] at e2;exact e2
  ·rintro s ⟨hs,ht⟩;subst hs;rw [List.take_length] at ht;unfold Dt;rw [Av oM,cond_false,← ht,beq_self_eq_true];rfl
 rw [key];by_cases he:gj p n b=b.take (gj p n b).length
 ·rw [show (gj p n b==b.take (gj p n b).length)=true from beq_iff_eq.2 he];show some _=_;congr 1;by_cases hll:(gj p n b).length=b.length
  ·rw [hll,List.take_length] at he;rw [he,beq_self_eq_true,beq_self_eq_true]
  ·rw [show (gj p n b==b)=false from by rw [beq_eq_false_iff_ne];exact fun e=>hll (congrArg List.length e),beq_eq_false_iff_ne];omega
 ·rw [beq_eq_false_iff_ne.2 he,show (gj p n b==b)=false from ?_]
  ·rfl
  ·rw [beq_eq_false_iff_ne];intro e;exact he (by rw [e,List.take_length])
def Q4 (p l r:Int) (b:List (List Int)):Bool:=isF p&&(inR l 0 24&&(inR r 0 (24 - l)&&(decide (((b.length:Nat):Int)<=l+r)&&(U2 p (l+r) b&&gj p (l+r).toNat b==b))))
theorem Aby (p l r:Int) (b:List (List Int)) (hb:b.length<=1048576) (hr:Gh 1048576 b):Iy p l r b=some (Q4 p l r b):=by
 unfold Iy Q4;rw [Lt,obs];cases h1:inR l 0 24
 ·rw [Bool.false_and,Bool.and_false];rfl
 have h1':=G9.1 h1;rw [cond_true,Bk (n:=24 - l) oM oM,Lt,obs];cases h2:inR r 0 (24 - l)
 ·rw [Bool.false_and,Bool.and_false,Bool.and_false];rfl
 have h2':=G9.1 h2;rw [cond_true,Bk oM oM];unfold L8;rw [Vr,obs];cases hp:isF p
 ·rfl
 rw [cond_true,Lt,obs,G9.2 (show 0<=l+r/\l+r<=24 by omega),cond_true];by_cases h3:((b.length:Nat):Int)<=l+r
 ·obtain ⟨n,hn⟩:=Int.eq_ofNat_of_zero_le (show 0<=l+r by omega);rw [Ay h3,cond_true,hn,Aj6 p n b (Ik hp) hb hr,obs];cases hv:U2 p (n:Int) b
  ·rfl
  have hm:=Sf hv;have hgl:=Afc (n:=n) (Ik hp).1 hm;have hgm:=Aj5 (n:=n) (Ik hp).1 hm;have hl:=(L6 (Ik hp).1 hm n).2;rw [cond_true,Aea hp hm (Nat.le_refl n) oM oM,obs,Ai0 _ _ oM (fun x hx=>by rw [(hgm x hx).1];omega),obs];rfl
 ·rw [Av h3];rfl
theorem Aab (p l r:Int) (b:List (List Int)) (hb:b.length<=1048576) (hr:Gh 1048576 b):Ez p l r b=some (Q4 p l r b):=by
 unfold Ez Q4;rw [show C5 p=some (isF p) from rfl,obs];cases hp:isF p
 ·rfl
 rw [cond_true,Bool.true_and]
 have hf:Lh l r=some (inR l 0 24&&inR r 0 (24 - l)):=by
  unfold Lh;rw [Kv,obs];cases h1:inR l 0 24
  ·rfl
  have h1':=G9.1 h1;rw [cond_true,Kv,obs,Bool.true_and];by_cases h2:0<=r/\r<=24
  ·rw [G9.2 h2,cond_true,obs,Bk oM oM];congr 1;rw [Bool.eq_iff_iff,G9];simp only [decide_eq_true_eq];omega
  ·rw [show inR r 0 24=false from by rw [Bool.eq_false_iff];exact fun h=>h2 (G9.1 h),cond_false,obs];congr 1;symm;rw [Bool.eq_false_iff];intro h;have:=G9.1 h;exact h2 oM
 rw [hf,obs];cases h1:inR l 0 24
 ·rfl
 have h1':=G9.1 h1;cases h2:inR r 0 (24 - l)
 ·rfl
 have h2':=G9.1 h2;obtain ⟨n,hn⟩:=Int.eq_ofNat_of_zero_le (show 0<=l+r by omega);rw [Bool.true_and,cond_true,Bk oM oM,hn,Acf b hp oM hb hr];rfl
structure Acz (p l r:Int) (b:List (List Int)):Prop where
 fp:isF p=true
 hl:0<=l
 hr:0<=r
 hs:l+r<=24
 lb:((b.length:Nat):Int)<=l+r
 mb:MatW p (l+r).toNat b
 rb:gj p (l+r).toNat b=b
theorem Ahe {p l r:Int} {b:List (List Int)} (h:Q4 p l r b=true):Acz p l r b:=by
 unfold Q4 at h;simp only [Bool.and_eq_true,G9,decide_eq_true_eq,beq_iff_eq] at h;obtain ⟨h1,h2,h3,h4,h5,h6⟩:=h;refine ⟨h1,h2.1,h3.1,by omega,h4,?_,h6⟩;obtain ⟨n,hn⟩:=Int.eq_ofNat_of_zero_le (show 0<=l+r by omega);rw [hn] at h5 ⊢;exact Sf h5
theorem Zw (l r:Int) (b:List (List Int)) {v:Int} (hv:0<=v/\v<=1048576) (hn:b.length<=9223372036854775807) (hb:Gh 9223372036854775807 b):Fa l r b v=some (szW v b):=by
 unfold Fa;rw [Ah6 b hv hn hb,obs];by_cases h:szW v b<0
 ·rw [Ay h,cond_true];congr 1;unfold szW at h ⊢;split at h <;> rename_i h'
  ·rw [if_pos h']
  ·omega
 ·rw [Av h,cond_false]
theorem Aah (l r:Int) (b:List (List Int)) (hn:b.length<=1048576) (hb:Gh 1048576 b):E5 l r b=some b:=by
 unfold E5;rw [Aht b hn hb,obs]
theorem Z6 (l r:Int) (b:List (List Int)) (hn:b.length<=1048576) (hb:Gh 1048576 b):E6 l r b l r b=some true:=by
 unfold E6;rw [bne_self_eq_false,cond_false,bne_self_eq_false,cond_false,Ahf b hn hb,obs,Bool.not_true,cond_false]
end
section
def Tp (p:Int) (xs:List Nd):Bool:=xs.all fun n=> !((n.1==7||n.1==13)&&decide (p<=n.2.1))
def Ah4 (xs:List Nd):Bool:=xs.all fun n=> !(n.1==8||n.1==14)
theorem Aks (xs:List Nd) (p:Int) (hx:xs.length<=1073741824):Ea xs p=some (isF p&&((tyV xs).isSome&&Tp p xs)):=by
 unfold Ea Gk;obtain ⟨r,hr,hm⟩:=Af2 xs;rw [show C5 p=some (isF p) from rfl,obs,hr];cases hp:isF p
 ·rfl
 have e:r.2.2=(tyV xs).isSome:=by
  cases ht:tyV xs with
  | none=>rw [ht] at hm;exact hm
  | some w=>rw [ht] at hm;dsimp only at hm;rw [hm];rfl
 rw [Bool.not_true,cond_false,obs,obs,obs,e,Bool.true_and];cases (tyV xs).isSome
 ·rfl
 rw [Bool.not_true,cond_false,Bool.true_and]
 have key:Aq (fun s_:Nat=>Dc xs p s_) 4611686018427387904 0=some (if Tp p xs then Ctl.next () else Ctl.out false):=by
  refine D1 xs (fun n=> !((n.1==7||n.1==13)&&decide (p<=n.2.1))) (Ctl.next ()) (Ctl.out false) oM (fun i n h=>?_) ?_
  ·have:=An h;unfold Dc Em;rw [Ay oM,cond_true,h,obs,Ah oM];cases n.1==7 <;> cases n.1==13 <;> cases decide (p<=n.2.1) <;> rfl
  ·unfold Dc;rw [Av oM,cond_false]
 rw [key,It]
theorem Afd (xs:List Nd) (p:Int) (hx:xs.length<=1073741824):Dp xs p=some ((isF p&&((tyV xs).isSome&&Tp p xs))&&Ah4 xs):=by
 unfold Dp;rw [Aks xs p hx,obs];cases isF p&&((tyV xs).isSome&&Tp p xs)
 ·rfl
 rw [Bool.not_true,cond_false,Bool.true_and]
 have key:Aq (fun s_:Nat=>Cm xs s_) 4611686018427387904 0=some (if Ah4 xs then Ctl.next () else Ctl.out false):=by
  refine D1 xs (fun n=> !(n.1==8||n.1==14)) (Ctl.next ()) (Ctl.out false) oM (fun i n h=>?_) ?_
  ·have:=An h;unfold Cm Ko;rw [Ay oM,cond_true,h,obs,Ah oM];cases n.1==8 <;> cases n.1==14 <;> rfl
  ·unfold Cm;rw [Av oM,cond_false]
 rw [key,It]
theorem Ab8 (xs:List Nd) (p:Int) (hx:xs.length<=1073741824):I0 p xs=some ((tyV xs).isSome&&(isF p&&Tp p xs)):=by
 unfold I0;obtain ⟨F,I,O,b,h,hm⟩:=Aa9 xs
 have e:b=(tyV xs).isSome:=by
  cases ht:tyV xs with
  | none=>rw [ht] at hm;exact hm
  | some w=>rw [ht] at hm;exact hm.1
 rw [h,obs,Vr,e];cases (tyV xs).isSome
 ·rfl
 rw [Bool.not_true,cond_false,obs,obs];cases hp:isF p
 ·rfl
 rw [Bool.not_true,cond_false,Bool.true_and,Bool.true_and]
 have key:Aq (fun s_:Nat=>F3 xs p s_) 4611686018427387904 0=some (if Tp p xs then Ctl.next () else Ctl.out false):=by
  refine D1 xs (fun n=> !((n.1==7||n.1==13)&&decide (p<=n.2.1))) (Ctl.next ()) (Ctl.out false) oM (fun i n h=>?_) ?_
  ·have:=An h;unfold F3;rw [Ay oM,cond_true,h,obs,Ah oM];cases n.1==7 <;> cases n.1==13 <;> cases decide (p<=n.2.1) <;> rfl
  ·unfold F3;rw [Av oM,cond_false]
 rw [key,It]
theorem Ut (xs:List Nd) (hx:xs.length<=1073741824):Fh xs=some (Ah4 xs):=by
 unfold Fh
 have key:Aq (fun s_:Nat=>Dj xs s_) 4611686018427387904 0=some (if Ah4 xs then Ctl.next () else Ctl.out false):=by
  refine D1 xs (fun n=> !(n.1==8||n.1==14)) (Ctl.next ()) (Ctl.out false) oM (fun i n h=>?_) ?_
  ·have:=An h;unfold Dj Hp;rw [Ay oM,cond_true,h,obs,Ah oM];rw [show (n.1 !=8)= !(n.1==8) from rfl,show (n.1 !=14)= !(n.1==14) from rfl];cases n.1==8 <;> cases n.1==14 <;> rfl
  ·unfold Dj;rw [Av oM,cond_false]
 rw [key,It]
theorem Aph (p:Int) (s:ByteArray) (xs:List Nd) (l r:Int) (b:List (List Int)) (hx:xs.length<=1073741824) (hb:b.length<=1048576) (hr:Gh 1048576 b):∃ v,Cc p s xs l r b=some v/\Ca p s xs l r b=some v:=by
 unfold Cc Ca;obtain ⟨nm,n1,n2⟩:=Aj1 s;obtain ⟨q,hq,hm⟩:=Af2 xs;rw [Ach,obs,n1,n2,obs,Afd xs p hx,Ab8 xs p hx,Ut xs hx,Aby p l r b hb hr,Aab p l r b hb hr,hq];cases ht:tyV xs with
 | none =>
  refine ⟨false,rfl,?_⟩;cases nm
  ·rfl
  rw [Option.isSome_none,Bool.false_and,Bool.and_false,Bool.false_and];rfl
 | some w =>
  rw [ht] at hm;dsimp only at hm;subst hm;rw [Option.isSome_some,Bool.true_and];dsimp only;cases nm
  ·exact ⟨false,rfl,rfl⟩
  generalize isF p=a1;generalize Tp p xs=a2;generalize Ah4 xs=a3;generalize Q4 p l r b=a4
  have e:([w.1,w.2]==[l,r])=cond (l==w.1) (r==w.2) false:=by
   have c1:(w.1==l)=(l==w.1):=Bool.beq_comm;have c2:(w.2==r)=(r==w.2):=Bool.beq_comm;show (w.1==l&&(w.2==r&&(([]:List Int)==[])))=_;rw [c1,c2];cases l==w.1 <;> cases r==w.2 <;> rfl
  simp only [obs,e];cases a1 <;> cases a2 <;> cases a3 <;> cases a4 <;> cases l==w.1 <;> cases r==w.2 <;> exact ⟨_,rfl,rfl⟩
-- copies and comparisons
theorem Ag4 (xs:List Nd) (hx:xs.length<=1073741824):Ht xs=some xs:=by
 unfold Ht;rw [Ah oM]
 have h:Aq (fun s_:Nat×List Nd=>E0 xs s_.1 s_.2) 4611686018427387904 (0,List.replicate xs.length ((0,0,(⟨#[]⟩:ByteArray)):Nd))=some xs:=by
  refine Bo xs.length (fun i=>(i,xs.take i++List.replicate (xs.length - i) ((0,0,(⟨#[]⟩:ByteArray)):Nd))) oM xs (by simp) (fun i hi=>?_) ?_
  ·have hx:=gEg hi
   try dsimp only
   unfold E0 L9;rw [Ay oM,cond_true,hx,obs,obs,Sj hi,obs,Ah oM,Sy hx]
  ·try dsimp only
   unfold E0;rw [Av oM,cond_false];simp
 rw [h];rfl
theorem Ahx (xs:List Nd) (hx:xs.length<=1073741824):Hq xs xs=some true:=by
 unfold Hq;rw [bne_self_eq_false,cond_false]
 have h:Aq (fun s_:Nat=>E9 xs xs s_) 4611686018427387904 0=some (Ctl.next ()):=by
  refine Bo xs.length (fun i=>i) oM _ rfl (fun i hi=>?_) ?_
  ·have hx:=gEg hi
   try dsimp only
   unfold E9 Lx;rw [Ay oM,cond_true,hx,obs,obs,bne_self_eq_false,cond_false,bne_self_eq_false,cond_false,beq_self_eq_true,Bool.not_true,cond_false,obs,Bool.not_true,cond_false,Ah oM]
  ·try dsimp only
   unfold E9;rw [Av oM,cond_false]
 rw [h];rfl
theorem Ag6 (xs:List Nd) {v:Int} (hv:0<=v/\v<=1048576) (hx:xs.length<=9223372036854775807) (hs:∀ n∈xs,n.2.2.size<=9223372036854775807):∃ y,H3 xs v=some y/\(y<0∨(0<=y/\y<=v/\((xs.length:Nat):Int)<=v)):=by
 unfold H3;rw [Bk (n:=v - ((xs.length:Nat):Int)) oM oM];by_cases h:v - ((xs.length:Nat):Int)<0
 ·rw [Ay h];exact ⟨_,rfl,.inl oM⟩
 rw [Av h,cond_false]
 have key:∃ c,Aq (fun s_:Int×Nat=>Fd xs s_.1 s_.2) 4611686018427387904 (v - ((xs.length:Nat):Int),0)=some c/\((∃ y,c=Ctl.next y/\0<=y/\y<=v)∨∃ y,c=Ctl.out y/\y<0):=by
  refine Ee (Post:=fun c=>(∃ y,c=Ctl.next y/\0<=y/\y<=v)∨∃ y,c=Ctl.out y/\y<0) xs.length (fun k s=>s.2=k/\0<=s.1/\s.1<=v) oM ⟨rfl,by dsimp only;omega,by dsimp only;omega⟩ ?_ ?_
  ·rintro k ⟨y,k'⟩ hk ⟨h1,h2,h3⟩;dsimp only at h1 h2 h3;subst h1;have hn:=gEg hk;have hz:=hs _ (List.getElem_mem hk)
   try dsimp only
   unfold Fd Lz;rw [Ay oM,cond_true,hn,obs,Bk (n:=y - ((xs[k'].2.2.size:Nat):Int)) oM oM];by_cases h4:y - ((xs[k'].2.2.size:Nat):Int)<0
   ·rw [Ay h4];exact .inr ⟨_,rfl,.inr ⟨_,rfl,by omega⟩⟩
   ·rw [Av h4,cond_false,obs,Av h4,cond_false,Ah oM];exact .inl ⟨_,rfl,rfl,by dsimp only;omega,by dsimp only;omega⟩
  ·rintro ⟨y,k'⟩ ⟨h1,h2,h3⟩;dsimp only at h1 h2 h3;subst h1
   try dsimp only
   unfold Fd;rw [Av oM,cond_false];exact ⟨_,rfl,.inl ⟨_,rfl,h2,h3⟩⟩
 obtain ⟨c,hc,⟨y,rfl,h1,h2⟩|⟨y,rfl,h1⟩⟩:=key
 ·rw [hc];exact ⟨_,rfl,.inr ⟨h1,h2,by omega⟩⟩
 ·rw [hc];exact ⟨_,rfl,.inl h1⟩
theorem Pz (s:ByteArray) (xs:List Nd) (l r:Int) (b:List (List Int)) {v:Int} (hv:0<=v/\v<=1048576) (h0:s.size<=9223372036854775807) (hx:xs.length<=9223372036854775807) (hs:∀ n∈xs,n.2.2.size<=9223372036854775807) (hb:b.length<=9223372036854775807) (hr:Gh 9223372036854775807 b) :
  ∃ y,C6 s xs l r b v=some y/\(y<0∨(0<=y/\y<=v/\xs.length<=1048576/\b.length<=1048576/\Gh 1048576 b)):=by
 unfold C6 Lq;rw [Bk (n:=v - ((s.size:Nat):Int)) oM oM];by_cases h:v - ((s.size:Nat):Int)<0
 ·rw [Ay h];exact ⟨_,rfl,.inl oM⟩
 rw [Av h,cond_false];obtain ⟨y,hy,h1|⟨h1,h2,h3⟩⟩:=Ag6 xs (v:=v - ((s.size:Nat):Int)) oM hx hs
 ·rw [hy,obs,Ay h1];exact ⟨_,rfl,.inl oM⟩
 ·rw [hy,obs,Av oM,cond_false,obs,Av oM,cond_false,Zw l r b oM hb hr,obs];by_cases h4:szW y b<0
  ·rw [Ay h4];exact ⟨_,rfl,.inl oM⟩
  ·obtain ⟨g1,g2,g3⟩:=Apa oM h4;rw [Av h4];exact ⟨_,rfl,.inr ⟨by omega,by omega,by omega,by omega,g2⟩⟩
theorem X4 (s:ByteArray) (xs:List Nd) (l r:Int) (b:List (List Int)) (hx:xs.length<=1048576) (hb:b.length<=1048576) (hr:Gh 1048576 b):Hb s xs l r b=some (xs,b):=by
 unfold Hb Mc;rw [Ag4 xs oM,Aah l r b hb hr];rfl
theorem P1 (s:ByteArray) (xs:List Nd) (l r:Int) (b:List (List Int)) (hx:xs.length<=1048576) (hb:b.length<=1048576) (hr:Gh 1048576 b):D9 s xs l r b s xs l r b=some true:=by
 unfold D9 Lu;rw [Ahx xs oM,Z6 l r b hb hr,beq_self_eq_true];rfl
end
section
open Go.RowKit Go.Deep
theorem Wk {G:World->Prop} {tl:List (Nat×AV)} {ol:List (Oid×Option Ob)} {g:Nat} (s:Nat) {p:Bool} {n:Nat} (hs:Al tl s=.abool p n) (hn:n≠0):WeakG G ⟨Al tl,Ag ol,g⟩ ⟨Al ((s,.bool (!p)) :: tl),Ag ol,g⟩ :=
 Aex s _ fun σ im w v h=>by
  rw [hs] at h;obtain ⟨b,e,hb⟩:=h;subst e;cases b <;> cases p <;> first|rfl|exact absurd (hb rfl) hn
end
section
open Go.RowKit Go.Deep
section
variable {n:Nat} {d:Option Nat} {f:Nat->AV} {ob:Oid->Option Ob}
end
end
section
open Go.RowKit Go.Deep
end
section
open Go.RowKit Go.Deep
section
variable {n:Nat} {d:Option Nat} {f:Nat->AV} {ob:Oid->Option Ob}
end
end
section
open Go.RowKit Go.Deep
section
variable {P:Program} {G:World->Prop} (hfol:P.follows .mixedOrders=true) {g:FuncId} {fn:Func} (hf:P.funcs[g]? =some fn) {ac:AC} {rs:List Res} (hc:B2 P fn=some (ac,rs)) {args:List AV} {r:RV} {n:Nat}
include hfol hf hc
end
section
variable {σ:Oid->Option Loc} {im:Nat->Prop} {w:World} {θ:Oid->Oid} {t:Ty} {xs:List t.D}
end
section
variable {ob:Oid->Option Ob} {n:Nat} {k:Oid} {c:AV} {cs:List AV}
end
end
section
open Go.RowKit Go.Deep
section
variable {G:World->Prop} {n:Nat} {R:Nat->Prop}
end
mutual
def AV.unS (R:Nat->Prop):AV->AV->Prop
 | .tree t xs,d=>d=.ftr R t xs
 | .agg cs,d=>∃ ds,d=.agg ds/\AV.unSL R cs ds
 | .ref cs,d=>∃ ds,d=.ref ds/\AV.unSL R cs ds
 | c,d=>c.scal=true/\d=c
def AV.unSL (R:Nat->Prop):List AV->List AV->Prop
 | [],ds=>ds=[]
 | c :: cs,ds=>∃ d ds',ds=d :: ds'/\AV.unS R c d/\AV.unSL R cs ds'
end
mutual
theorem Amp {R im:Nat->Prop} {w:World} (hR:∀ b,im b->R b):∀ (c d:AV) (u:Value),AV.unS R c d->AV.Rep (fun _=>none) im w c u->AV.Rep (fun _=>none) im w d u
 | .tree t xs,d,u,h,⟨A,c,l,e,hs⟩=>by
  have h:d=.ftr R t xs:=h;subst h;exact ⟨A,c,l,e,Bb (fun b _ hb=>⟨hb,hR b hb⟩) hs⟩
 | .agg cs,d,u,⟨ds,e,h⟩,hr=>by
  subst e;obtain ⟨us,e,hr⟩:=hr;exact ⟨us,e,U6 hR cs ds us h hr⟩
 | .ref cs,d,u,⟨ds,e,h⟩,hr=>by
  subst e;obtain ⟨b,k,vs,e1,e2,e3,hr⟩:=hr;exact ⟨b,k,vs,e1,e2,e3,U6 hR cs ds vs h hr⟩
 | .int ..,d,u,⟨_,e⟩,hr=>by subst e;exact hr
 | .bool ..,d,u,⟨_,e⟩,hr=>by subst e;exact hr
 | .str ..,d,u,⟨_,e⟩,hr=>by subst e;exact hr
 | .err ..,d,u,⟨h,e⟩,hr=>by first|(cases h;done)|(subst e;exact hr)
 | .nils,d,u,⟨_,e⟩,hr=>by subst e;exact hr
 | .any,d,u,⟨h,_⟩,_=>by cases h
 | .mtree ..,d,u,⟨h,_⟩,_=>by cases h
 | .ftr ..,d,u,⟨h,_⟩,_=>by cases h
 | .mp _,d,u,⟨h,_⟩,_=>by cases h
 | .tup _,d,u,⟨h,_⟩,_=>by cases h
 | .fn ..,d,u,⟨h,_⟩,_=>by cases h
 | .own ..,d,u,⟨h,_⟩,_=>by cases h
 | .box ..,d,u,⟨h,_⟩,_=>by cases h
 | .elt ..,d,u,⟨h,_⟩,_=>by cases h
 | .sla ..,d,u,⟨h,_⟩,_=>by cases h
 | .telt ..,d,u,⟨h,_⟩,_=>by cases h
 | .giv ..,d,u,⟨h,_⟩,_=>by cases h
 | .abool ..,d,u,⟨h,_⟩,_=>by cases h
theorem U6 {R im:Nat->Prop} {w:World} (hR:∀ b,im b->R b):∀ (cs ds:List AV) (us:List Value),AV.unSL R cs ds->AV.RepL (fun _=>none) im w cs us->AV.RepL (fun _=>none) im w ds us
 | [],ds,us,h,hr=>by obtain rfl:ds=[]:=h;exact hr
 | c :: cs,ds,us,⟨d,ds',e,h1,h2⟩,hr=>by
  subst e;obtain ⟨u,us',e,r1,r2⟩:=hr;exact ⟨u,us',e,Amp hR c d u h1 r1,U6 hR cs ds' us' h2 r2⟩
end
end
section
open Go.RowKit Go.Deep
set_option maxRecDepth 4000
set_option maxHeartbeats 4800000
variable {pA pB:List (ByteArray×(List (Int×Int×ByteArray))×Int×Int×LL)} {bA bB:Int} {cA:Bool} {nA:List (ByteArray×Int×Int×List (Int×Int×ByteArray))}
def Cy (a0:List (ByteArray×(List (Int×Int×ByteArray))×Int×Int×LL)) (u1:Int) (u0:Nat):Option (Ctl (Int×Nat) (Ctl Int Int)) :=
 cond (decide ((u0:Int)<(a0.length:Int)))
 ((a0[u0]?).bind fun x15 =>
 (C6 x15.1 x15.2.1 x15.2.2.1 x15.2.2.2.1 x15.2.2.2.2 u1).bind fun y16 =>
 cond (decide (y16<0))
  (some (Ctl.out (Ctl.out (-1))))
  (og (u0+1<4611686018427387904) <|
  some (Ctl.next (y16,u0+1))))
 (some (Ctl.out (Ctl.next u1)))
def Dv (a0:List (ByteArray×(List (Int×Int×ByteArray))×Int×Int×LL)) (a1:Int):Option Int :=
 cond (decide (wI (a1 - (a0.length:Int))<0))
 (some (-1))
 (Ce (Aq (fun s_:Int×Nat=>Cy a0 s_.1 s_.2) 4611686018427387904 (wI (a1 - (a0.length:Int)),0)) fun u0 =>
 some u0)
theorem Ox (h:Dv pA bA=some bB):cK 4 [.tree Yd pA,ai bA] (A7 bB):=by
 refine cO Tryz.func4 (Ae (Ae (Ab (Ae (kQ h (fun _ h=>Ae (Ac (tr_ (jS h)))) fun _ h=>skW (sqC h (fun u0=>sT [(1,ai u0)] []) ?_ fun u0 h=>Ae (Ac (jS h))))))));intro _ h hk7;refine Ae (Ad (lpF h (fun (u1,u2)=>sT [(0,.tree Yd pA),(1,ai u1),(5,an u2)] []) (Aj []) ?_));rintro n_ ⟨u1,u2⟩ c_ h hn9;exact Ab (Ae (kQ h (fun _ h=>skW (Ab (Ad (Ab (Aa 13 (rsT 2 (riH Yd h fun x15 _ h=>rsT 2 (rcH h J0 fun y16 h=>rsT 1 (rnW (Ae (kQ h (fun _ h=>Ae (Ac (br_ (tr_ (tr_ (br_ (tr_ (have h:=jO h hn9;(have h:=jO h hk7;jS h))))))))) fun _ h=>Aw (bn_ (tn_ (wr_ (Aa 18 (rsT 1 (raH h fun h=>rsT 1 (Ap (tn_ (jL [])))))))))))))))))))) fun _ h=>lxT (have h:=jO h hn9;jC [])))
def Cv (a0:List (ByteArray×(List (Int×Int×ByteArray))×Int×Int×LL)) (a1:List (ByteArray×(List (Int×Int×ByteArray))×Int×Int×LL)) (u0:Nat):Option (Ctl Nat (Ctl Unit Bool)) :=
 cond (decide ((u0:Int)<(a0.length:Int)))
 ((a0[u0]?).bind fun x14 =>
 (a1[u0]?).bind fun x15 =>
 (D9 x14.1 x14.2.1 x14.2.2.1 x14.2.2.2.1 x14.2.2.2.2 x15.1 x15.2.1 x15.2.2.1 x15.2.2.2.1 x15.2.2.2.2).bind fun y16 =>
 cond (!y16)
  (some (Ctl.out (Ctl.out false)))
  (og (u0+1<4611686018427387904) <|
  some (Ctl.next (u0+1))))
 (some (Ctl.out (Ctl.next ())))
def Gl (a0:List (ByteArray×(List (Int×Int×ByteArray))×Int×Int×LL)) (a1:List (ByteArray×(List (Int×Int×ByteArray))×Int×Int×LL)):Option Bool :=
 cond ((a0.length:Int) !=(a1.length:Int))
 (some false)
 (Ce (Aq (fun s_:Nat=>Cv a0 a1 s_) 4611686018427387904 0) fun _ =>
 some true)
theorem Oo (h:Gl pA pB=some cA):cK 10 [.tree Yd pA,.tree Yd pB] (Ai cA):=by
 exact cO Tryz.func10 (Ae (Ab (Ae (kQ h (fun _ h=>Ae (Ac (tr_ (jS h)))) fun _ h=>skW (sqC h (fun _=>sT [] []) (fun _ h hk6=>Ae (Ad (lpF h (fun u0=>sT [(0,.tree Yd pA),(1,.tree Yd pB),(5,an u0)] []) (Aj []) (fun n_ u0 c_ h hn8=>Ab (Ae (kQ h (fun _ h=>skW (Ab (Ad (Ab (As 16 (ds0 (.tree Yd pA) kr (ds0 (an u0) kr (diH Yd h fun x14 _ h=>dsT 3 (diH Yd h fun x15 _ h=>ds0 (.agg [.str x15.1,.tree Y6 x15.2.1,ai x15.2.2.1,ai x15.2.2.2.1,tS x15.2.2.2.2]) kr (dcH h Jx fun y16 h=>ds0 (.bool (!y16)) kr (D6 (A0 kr) (tn_ (wr_ (kQ h (fun _ h=>Ae (Ac (br_ (tr_ (tr_ (br_ (tr_ (have h:=jO h hn8;(have h:=jO h hk6;jS h))))))))) fun _ h=>Aw (bn_ (tn_ (wr_ (Aa 19 (rsT 1 (raH h fun h=>rsT 1 (Ap (tn_ (jL []))))))))))))))))))))))) fun _ h=>lxT (have h:=jO h hn8;jC []))))))) fun _ h=>Ae (Ac (jS h)))))))
def Dw (a0:List (ByteArray×(List (Int×Int×ByteArray))×Int×Int×LL)) (u0:Nat) (u1:List (ByteArray×Int×Int×List (Int×Int×ByteArray))):Option (Ctl (Nat×(List (ByteArray×Int×Int×List (Int×Int×ByteArray)))) (List (ByteArray×Int×Int×List (Int×Int×ByteArray)))) :=
 cond (decide ((u0:Int)<(a0.length:Int)))
 ((a0[u0]?).bind fun x11 =>
 og (u1.length+1<=1073741824/\(u1.length+1)*56<=140737488355328) <|
 og (u0+1<4611686018427387904) <|
 some (Ctl.next (u0+1,u1++[(x11.1,x11.2.2.1,x11.2.2.2.1,x11.2.1)])))
 (some (Ctl.out u1))
def Dz (a0:List (ByteArray×(List (Int×Int×ByteArray))×Int×Int×LL)):Option (List (ByteArray×Int×Int×List (Int×Int×ByteArray))) :=
 (Aq (fun s_:Nat×(List (ByteArray×Int×Int×List (Int×Int×ByteArray)))=>Dw a0 s_.1 s_.2) 4611686018427387904 (0,[])).bind fun u0 =>
some u0
def Q9 (r:List (ByteArray×Int×Int×List (Int×Int×ByteArray))):RV:=⟨false,[(false,[.imm (.tree Yb r)])]⟩
theorem Lj (h:Dz pA=some nA):cK 20 [.tree Yd pA] (Q9 nA):=by
 refine Abb kr Tryz.func20 (Ei kr) (fun nz_=>[.ftr nz_ Yd pA]) (n:=28) kr (fun _=>by simp) (fun _=>⟨_,_,rfl,rfl,rfl⟩) (tl:=fun nz_=>[(0,.ftr nz_ Yd pA)]) (fun _=>rfl) fun zn_ nz_ hz_=>Ae (Ae (sqF h (fun u1=>sT [(3,.own (oi 0 1) Yb 0 u1.length)] [(oi 0 1,.tv 76 (some nz_) Yb u1)]) ?_ fun u1 h=>Ae (Ac (jZ h [(false,[.own (oi 0 1) Yb 0 u1.length])] (L4 (Me (.tv (e:=76) kr rfl)) L3)))))
 intro _ h;refine Ae (Ad (lpF h (fun (u2,u0)=>sT [(3,.own (oi 0 1) Yb 0 u0.length),(6,.ftr nz_ Yd pA),(7,an pA.length),(8,an u2)] [(oi 0 1,.tv 76 (some nz_) Yb u0)]) ((Tk 3 76 (some nz_) Yb kr).trans (Aj [(oi 0 1,oi 3 6)])) ?_));rintro n_ ⟨u2,u0⟩ c_ h hn5;refine Ae (Ab (kQ h (fun _ h=>skW (Ab (Ad (Ab (Aa 7 (riH Yd h fun x11 _ h=>rsB 3 (rnW (Aa 22 (rsT 12 (Aha (.own (oi 24 19) Yb 0 1) (oi 24 19) (.vec 76 4 1 (tvC (some nz_) Yb ([(x11.1,x11.2.2.1,x11.2.2.2.1,x11.2.1)]))) trivial (Zb kr) ?_)))))))))) fun _ h=>lxT (have h:=jO h hn5;jE [])));obtain ⟨g12,h⟩:=Au h;refine rs2 (.own (oi 0 20) Yb 0 (u0.length+1)) (oi 0 1) (oi 0 20) (.vec 76 4 (u0.length+1) (tvC (some nz_) Yb (u0++[(x11.1,x11.2.2.1,x11.2.2.2.1,x11.2.1)]))) (Agm (t':=Yb) (t:=Yb) (t2:=Yb) (e2:=76) (q:=oi 24 19) (m:=some nz_) (z:=(x11.1,x11.2.2.1,x11.2.2.2.1,x11.2.1)) (o:=oi 0 1) (xs:=u0) (len:=u0.length) kr kr rfl kr kr g12) (rsT 1 (Ap (bn_ (tn_ ⟨_,Ac6 (N:=u0.length+1) (oi 0 20) 76 (some nz_) Yb (u0++[(x11.1,x11.2.2.1,x11.2.2.2.1,x11.2.1)]) kr (by simp),Aa 24 (raH h fun h=>rsT 1 (Ap (tn_ ?_)))⟩))));obtain rfl:=zj h;exact jLw hn5 ((wL 3 ((by simp):u0.length+1=(u0++[(x11.1,x11.2.2.1,x11.2.2.2.1,x11.2.1)]).length)).trans (Aj [(oi 0 1,oi 0 20)]))
def Gz (a1:List (ByteArray×(List (Int×Int×ByteArray))×Int×Int×LL)) (a0:Int) (u0:Nat):Option (Ctl Nat (Ctl Unit Bool)) :=
 cond (decide ((u0:Int)<(a1.length:Int)))
 ((a1[u0]?).bind fun x10 =>
 ((Cc a0 x10.1 x10.2.1 x10.2.2.1 x10.2.2.2.1 x10.2.2.2.2).bind fun y12 =>
  cond (!y12)
   (some true)
   (og ((0:Int)<=0/\0<=(u0:Int)/\(u0:Int)<=(a1.length:Int)/\(a1.length:Int)<=(a1.length:Int)) <|
   (Dz (a1.take u0)).bind fun y15 =>
   (Bl y15 x10.1).bind fun y16 =>
   some (decide (0<=y16)))).bind fun u1 =>
 cond u1
  (some (Ctl.out (Ctl.out false)))
  (og (u0+1<4611686018427387904) <|
  some (Ctl.next (u0+1))))
 (some (Ctl.out (Ctl.next ())))
def Ka (a0:Int) (a1:List (ByteArray×(List (Int×Int×ByteArray))×Int×Int×LL)):Option Bool :=
 Ce (Aq (fun s_:Nat=>Gz a1 a0 s_) 4611686018427387904 0) fun _ =>
((Ev a0).bind fun y21 =>
 cond y21
  (some (decide ((a1.length:Int)<=12)))
  (some false)).bind fun u0 =>
some u0
theorem Xt (h:Ka bA pA=some cA):cK 17 [ai bA,.tree Yd pA] (Ai cA):=by
 refine cO Tryz.func17 (Ae (sqC h (fun _=>sT [(0,ai bA),(1,.tree Yd pA)] []) ?_ fun _ h=>sqF h (fun u1=>sT [(4,.bool u1)] []) (fun _ h=>Aa 10 (rsT 1 (rcH h Kx fun y21 h=>rsT 1 (kR h 31 (fun _ h=>rsT 5 (Ap (tn_ (jE [])))) fun _ h=>rsT 5 (Ap (tn_ (jE []))))))) fun u1 h=>Ac (jS h)));intro _ h hk2;refine Ae (Ad (lpF h (fun u0=>sT [(0,ai bA),(1,.tree Yd pA),(7,.tree Yd pA),(8,an pA.length),(9,an u0)] []) (Aj []) ?_));intro n_ u0 c_ h hn4;refine Ae (Ab (kQ h (fun _ h=>skW (Ab (Ad (Ab (Aa 9 (rsT 1 (riH Yd h fun x10 _ h=>rsB 4 (rnW (sqF h (fun u2=>sT [(0,ai bA),(1,.tree Yd pA),(7,.tree Yd pA),(8,an pA.length),(9,an u0),(27,.bool u2)] []) ?_ fun u2 h=>kQ h (fun _ h=>Ae (Ac (br_ (tr_ (tr_ (br_ (tr_ (have h:=jO h hn4;(have h:=jO h hk2;jS h))))))))) fun _ h=>Aw (bn_ (tn_ (wr_ (Aa 4 (raH h fun h=>rsT 1 (Ap (tn_ (jL []))))))))))))))))) fun _ h=>lxT (have h:=jO h hn4;jC [])));intro _ h;refine As 23 (dz0 (ai bA) (dzl (.agg [.str x10.1,.tree Y6 x10.2.1,ai x10.2.2.1,ai x10.2.2.2.1,tS x10.2.2.2.2]) (dcH h Ot fun y12 h=>dz0 (.bool (!y12)) (dz0 (.bool (!y12)) ?_))));rcases Ax h with ⟨q13,h⟩|⟨q13,h⟩
 ·exact dq 18 q13 (dsT 9 (D6 (A0 kr) (tn_ (jE []))))
 refine dq 18 q13 (dz0 (.tree Yd pA) (dz0 (an u0) ?_));obtain ⟨g14,h⟩:=Au h;obtain ⟨y15,h15,h⟩:=Am h;obtain ⟨y16,h16,h⟩:=Am h;exact ds0 (.tree Yd (pA.take u0)) (Aip (t:=Yd) (xs:=pA) (zs:=pA.take u0) (l:=0) (h:=(u0:Int)) (m:=(pA.length:Int)) kr kr kr kr rfl g14 rfl) (Ai2 (.tree Yb y15) [] [.tree Yd (pA.take u0)] _ (caps:=[]) (Uz kr) (Lj h15) kr (dz0 (.box (oi 6 6) 0) (dzl (.str x10.1) (Akm (ai y16) [] [.tree Yb y15,.str x10.1] _ (caps:=[]) (args0:=[.tree Yb y15,.str x10.1]) (Uz kr) kr (Kq h16) kr (dz0 (.bool (decide (0<=y16))) (dz0 (.bool (decide (0<=y16))) (D6 (A0 kr) (tn_ (jE [])))))))))
def Ck (a1:List (ByteArray×(List (Int×Int×ByteArray))×Int×Int×LL)) (a0:Int) (u0:Nat) (u1:List (Int×Bool)):Option (Ctl (Nat×(List (Int×Bool))) (Ctl Unit Bool)) :=
 cond (decide ((u0:Int)<(a1.length:Int)))
 ((a1[u0]?).bind fun x17 =>
 ((Ca a0 x17.1 x17.2.1 x17.2.2.1 x17.2.2.2.1 x17.2.2.2.2).bind fun y20 =>
  cond (!y20)
   (some true)
   (og (x17.1.size<=maxLen) <|
   some ((D5 u1 (M1 x17.1)).getD false))).bind fun u2 =>
 cond u2
  (some (Ctl.out (Ctl.out false)))
  (og (x17.1.size<=maxLen/\u1.length<1073741824) <|
  og (u0+1<4611686018427387904) <|
  some (Ctl.next (u0+1,Nt u1 (M1 x17.1) true))))
 (some (Ctl.out (Ctl.next ())))
def Di (a0:Int) (a1:List (ByteArray×(List (Int×Int×ByteArray))×Int×Int×LL)):Option Bool :=
 ((C5 a0).bind fun y4 =>
 cond (!y4)
  (some true)
  (some (decide (12<(a1.length:Int))))).bind fun u0 =>
cond u0
 (some false)
 (Ce (Aq (fun s_:Nat×(List (Int×Bool))=>Ck a1 a0 s_.1 s_.2) 4611686018427387904 (0,[])) fun _ =>
 some true)
theorem Ns (h:Di bA pA=some cA):cK 25 [ai bA,.tree Yd pA] (Ai cA):=by
 refine cO Tryz.func25 (Ae (Ab (sqF h (fun u2=>sT [(0,ai bA),(1,.tree Yd pA),(15,.bool u2)] []) (fun _ h=>Aa 10 (rsT 1 (rcH h Jt fun y4 h=>rsT 2 (kR h 11 (fun _ h=>rsT 4 (Ap (tn_ (jE [])))) fun _ h=>rsT 4 (Ap (tn_ (jE []))))))) ?_)));intro u2 h;refine kQ h (fun _ h=>Ae (Ac (tr_ (jS h)))) fun _ h=>skW (Ae (sqC h (fun _=>sT [] []) ?_ fun _ h=>Ae (Ac (jS h))))
 intro _ h hk9;refine Ae (Ad (lpF h (fun (u1,u0)=>sT [(0,ai bA),(5,.mp (oi 0 1)),(17,.tree Yd pA),(18,an pA.length),(19,an u1)] [(oi 0 1,.map 82 .bool u0)]) (Aj [(oi 0 1,oi 16 2)]) ?_));rintro n_ ⟨u1,u0⟩ c_ h hn11;refine Ae (Ab (kQ h (fun _ h=>skW (Ab (Ad (Ab (Aa 7 (riH Yd h fun x17 _ h=>rsB 3 (rnW (Ab (sqF h (fun u3=>sT [(0,ai bA),(5,.mp (oi 0 1)),(7,.box (oi 1 1) 0),(17,.tree Yd pA),(18,an pA.length),(19,an u1),(32,.bool u3)] [(oi 0 1,.map 82 .bool u0),(oi 1 1,.cells 42 [.str x17.1,.tree Y6 x17.2.1,ai x17.2.2.1,ai x17.2.2.2.1,tS x17.2.2.2.2])]) ?_ ?_))))))))) fun _ h=>lxT (have h:=jO h hn11;jC [])))
 ·intro _ h;refine Aa 17 (rsT 2 (rcH h Jv fun y20 h=>rsT 2 ?_));rcases Ax h with ⟨q21,h⟩|⟨q21,h⟩
  ·exact rq 27 q21 (rsT 5 (Ap (tn_ (jE [(oi 1 1,oi 7 5)]))))
  refine rq 27 q21 (rsT 3 ?_);obtain ⟨g22,h⟩:=Au h;exact rsl (.bool ((D5 u0 (M1 x17.1)).getD false)) (Aiq (oi 0 1) (t:=.bool) (es:=u0) (k:=x17.1) kr kr kr g22) (rsT 1 (Ap (tn_ (jE [(oi 1 1,oi 7 5)]))))
 intro u3 h;refine kQ h (fun _ h=>Ae (Ac (tr_ (br_ (tr_ (tr_ (br_ (tr_ (have h:=jO h hn11;(have h:=jO h hk9;jS h)))))))))) fun _ h=>skW (Aa 6 (rsT 3 ?_))
 obtain ⟨g25,h⟩:=Au h;exact Ae0 (oi 0 1) (oi 0 1) (.map 82 .bool (Nt u0 (M1 x17.1) true)) (Amw (es:=u0) (k:=x17.1) (nv:=true) kr kr kr kr g25) (Ap (bn_ (tn_ (wr_ (Aa 8 (raH h fun h=>rsT 1 (Ap (tn_ (jL [])))))))))
end


section
abbrev Cp:=ByteArray×List Nd×Int×Int×List (List Int)
abbrev Df:=ByteArray×Int×Int×List Nd
def Lv (x:Cp):Prop:=x.2.1.length<=1048576/\x.2.2.2.2.length<=1048576/\Gh 1048576 x.2.2.2.2
noncomputable def Mn (p:Int) (x:Cp):Bool:=(Cc p x.1 x.2.1 x.2.2.1 x.2.2.2.1 x.2.2.2.2).getD false
theorem Aa2 {p:Int} {x:Cp} (h:Lv x):Cc p x.1 x.2.1 x.2.2.1 x.2.2.2.1 x.2.2.2.2=some (Mn p x)/\Ca p x.1 x.2.1 x.2.2.1 x.2.2.2.1 x.2.2.2.2=some (Mn p x):=by
 obtain ⟨v,h1,h2⟩:=Aph p x.1 x.2.1 x.2.2.1 x.2.2.2.1 x.2.2.2.2 (by have:=h.1;omega) h.2.1 h.2.2;have e:Mn p x=v:=by unfold Mn;rw [h1];rfl
 rw [e];exact ⟨h1,h2⟩
theorem Zd (l:List Cp) (hl:l.length<=1048576):Dz l=some (l.map fun x=>((x.1,x.2.2.1,x.2.2.2.1,x.2.1):Df)):=by
 unfold Dz
 have key:Aq (fun s_:Nat×List Df=>Dw l s_.1 s_.2) 4611686018427387904 (0,[])=some ([]++l.map fun x=>((x.1,x.2.2.1,x.2.2.2.1,x.2.1):Df)):=by
  refine Mo l (fun x=>((x.1,x.2.2.1,x.2.2.2.1,x.2.1):Df)) [] oM _ (fun j x h=>?_) ?_
  ·have:=An h
   try dsimp only
   unfold Dw;rw [Ay oM,cond_true,h,obs,Ah (by simp;omega),Ah oM]
  ·try dsimp only
   unfold Dw;rw [Av oM,cond_false]
 rw [key];rfl
theorem Aob (l:List Df) (hl:l.length<=1048576) (s:ByteArray):∃ k:Int,Bl l s=some k/\decide (0<=k)=l.any fun d=>d.1.toList==s.toList:=by
 unfold Bl
 have hs:∀ i x,l[i]? =some x->Ba l s i=some (if x.1.toList==s.toList then Ctl.out (Ctl.out (i:Int)) else Ctl.next (i+1)):=fun i x h=>by
  have:=An h;unfold Ba;rw [Ay oM,cond_true,h,obs,Ah oM];cases x.1.toList==s.toList <;> rfl
 have he:Ba l s l.length=some (Ctl.out (Ctl.next ())):=by
  unfold Ba;rw [Av oM,cond_false]
 rcases Tc (body:=fun s_:Nat=>Ba l s s_) l (fun x=>x.1.toList==s.toList) (Ctl.next ()) (fun i=>Ctl.out (i:Int)) (F:=4611686018427387904) oM hs he with ⟨h1,i,hi,h2⟩|⟨h1,h2⟩
 ·rw [h2,h1];exact ⟨_,rfl,Ay oM⟩
 ·rw [h2,h1];exact ⟨_,rfl,rfl⟩
noncomputable def okL (p:Int):List ByteArray->List Cp->Bool
 | _,[]=>true
 | seen,x :: r=>(Mn p x&& !(seen.any fun n=>n.toList==x.1.toList))&&okL p (seen++[x.1]) r
theorem Rs {p:Int} {l:List Cp} {k:Nat} {x:Cp} (h:l[k]? =some x):okL p ((l.take k).map (·.1)) (l.drop k)=((Mn p x&& !(((l.take k).map (·.1)).any fun n=>n.toList==x.1.toList))&&okL p ((l.take (k+1)).map (·.1)) (l.drop (k+1))):=by
 obtain ⟨hk,e⟩:=gSi.1 h;rw [List.drop_eq_getElem_cons hk,List.take_add_one,h,e,List.map_append];rfl
theorem Al8 {p:Int} {l:List Cp} (hl:l.length<=1048576) (hc:∀ x∈l,Lv x):Ka p l=some (okL p [] l&&(isF p&&decide (((l.length:Nat):Int)<=12))):=by
 unfold Ka
 have key:Aq (fun s_:Nat=>Gz l p s_) 4611686018427387904 0=some (if okL p [] l then Ctl.next () else Ctl.out false):=by
  refine Er l.length (fun k s=>s=k/\okL p [] l=okL p ((l.take k).map (·.1)) (l.drop k)) oM _ ⟨rfl,rfl⟩ ?_ ?_
  ·rintro k s hk ⟨hs,he⟩;subst hs;have hx:=gEg hk;have hst:=Rs (p:=p) hx;obtain ⟨g,_⟩:=Aa2 (p:=p) (hc _ (List.getElem_mem hk));obtain ⟨j,hj,hj2⟩:=Aob ((l.take s).map fun x=>((x.1,x.2.2.1,x.2.2.2.1,x.2.1):Df)) (by simp;omega) l[s].1
   have e2:((l.take s).map fun x=>((x.1,x.2.2.1,x.2.2.2.1,x.2.1):Df)).any (fun d=>d.1.toList==l[s].1.toList)=(((l.take s).map (·.1)).any fun n=>n.toList==l[s].1.toList):=by
    rw [List.any_map,List.any_map];rfl
   unfold Gz;rw [Ay oM,cond_true,hx,obs,g,obs];rw [hst] at he;cases hg:Mn p l[s]
   ·refine .inr ?_;rw [he,hg];rfl
   rw [Bool.not_true,cond_false,Ah oM,Zd _ (by simp;omega),obs,hj,obs,obs,hj2,e2,Ah oM];rw [hg,Bool.true_and] at he;cases hd:((l.take s).map (·.1)).any fun n=>n.toList==l[s].1.toList
   ·refine .inl ⟨s+1,rfl,rfl,?_⟩;rw [he,hd];rfl
   ·refine .inr ?_;rw [he,hd];rfl
  ·rintro s ⟨hs,he⟩;subst hs;rw [List.drop_length] at he;rw [he];unfold Gz;rw [Av oM,cond_false];rfl
 rw [key,Vr];cases okL p [] l
 ·rfl
 ·cases isF p <;> rfl
theorem Akh {es:List (Int×Bool)} {k:Int} {v:Bool}:(Nt es k v).length<=es.length+1:=by
 unfold Nt M2;rw [List.length_cons];have:=List.length_filter_le (fun e:Int×Bool=> !(e.1==k)) es;omega
theorem Ajk {p:Int} {l:List Cp} (hl:l.length<=1048576) (hc:∀ x∈l,Lv x) (hn:∀ x∈l,x.1.size<=maxLen):Di p l=some (okL p [] l&&(isF p&&decide (((l.length:Nat):Int)<=12))):=by
 unfold Di;rw [show C5 p=some (isF p) from rfl,obs];cases isF p
 ·rw [Bool.false_and,Bool.and_false];rfl
 rw [Bool.not_true,cond_false,obs,Bool.true_and];by_cases h12:((l.length:Nat):Int)<=12
 ·rw [Av (show ¬ 12<((l.length:Nat):Int) by omega),cond_false,Ay h12,Bool.and_true]
  have key:Aq (fun s_:Nat×List (Int×Bool)=>Ck l p s_.1 s_.2) 4611686018427387904 (0,[])=some (if okL p [] l then Ctl.next () else Ctl.out false):=by
   refine Er l.length (fun k s=>∃ es,s=(k,es)/\okL p [] l=okL p ((l.take k).map (·.1)) (l.drop k)/\es.length<=k/\∀ s:ByteArray,(D5 es (M1 s)).getD false=((l.take k).map (·.1)).any fun n=>n.toList==s.toList) oM _ ⟨[],rfl,rfl,Nat.le_refl _,fun _=>rfl⟩ ?_ ?_
   ·rintro k s hk ⟨es,rfl,he,hes,hm⟩;have hx:=gEg hk;have hst:=Rs (p:=p) hx;have hmem:=List.getElem_mem hk;obtain ⟨_,g⟩:=Aa2 (p:=p) (hc _ hmem);have hsz:=hn _ hmem;generalize l[k]=x at *
    try dsimp only
    unfold Ck;rw [Ay oM,cond_true,hx,obs,g,obs];rw [hst] at he;cases hg:Mn p x
    ·refine .inr ?_;rw [he,hg];rfl
    rw [Bool.not_true,cond_false,Ah hsz,obs,hm,Ah ⟨hsz,by omega⟩,Ah oM];rw [hg,Bool.true_and] at he;cases hd:((l.take k).map (·.1)).any fun n=>n.toList==x.1.toList
    ·refine .inl ⟨(k+1,Nt es (M1 x.1) true),rfl,_,rfl,by rw [he,hd];rfl,Nat.le_trans Akh oM,fun s=>?_⟩;rw [List.take_add_one,hx,List.map_append,List.any_append];by_cases e:s=x.1
     ·subst e;rw [L0];show true=_;simp
     ·have e':M1 s≠M1 x.1:=fun h=>e (Abw h)
      rw [Kr e',hm]
      have:(x.1.toList==s.toList)=false:=by
       rw [An2,beq_eq_false_iff_ne];intro h
       exact e (by
        have:=Array.toList_inj.1 h;cases s;cases hx1:x.1;rw [hx1] at this;exact congrArg ByteArray.mk this.symm)
      simp [this]
    ·refine .inr ?_;rw [he,hd];rfl
   ·rintro s ⟨es,rfl,he,_,_⟩;rw [List.drop_length] at he;rw [he]
    try dsimp only
    unfold Ck;rw [Av oM,cond_false];rfl
  rw [key];cases okL p [] l <;> rfl
 ·rw [Ay (show 12<((l.length:Nat):Int) by omega),Av h12,Bool.and_false];rfl
-- copies, sizes, comparisons
theorem Alr (l:List Cp) (hl:l.length<=1048576) (hc:∀ x∈l,Lv x):Gl l l=some true:=by
 unfold Gl;rw [bne_self_eq_false,cond_false]
 have h:Aq (fun s_:Nat=>Cv l l s_) 4611686018427387904 0=some (Ctl.next ()):=by
  refine Bo l.length (fun i=>i) oM _ rfl (fun i hi=>?_) ?_
  ·have hx:=gEg hi;have hk:=hc _ (List.getElem_mem hi)
   try dsimp only
   unfold Cv;rw [Ay oM,cond_true,hx,obs,obs,P1 _ _ _ _ _ hk.1 hk.2.1 hk.2.2,obs,Bool.not_true,cond_false,Ah oM]
  ·try dsimp only
   unfold Cv;rw [Av oM,cond_false]
 rw [h];rfl
def Aps (x:Cp):Prop:=x.1.size<=9223372036854775807/\x.2.1.length<=9223372036854775807/\(∀ n∈x.2.1,n.2.2.size<=9223372036854775807)/\x.2.2.2.2.length<=9223372036854775807/\Gh 9223372036854775807 x.2.2.2.2
theorem Amn (l:List Cp) {v:Int} (hv:0<=v/\v<=1048576) (hl:l.length<=9223372036854775807) (hi:∀ x∈l,Aps x):∃ y,Dv l v=some y/\(y<0∨(0<=y/\y<=v/\l.length<=1048576/\∀ x∈l,Lv x)):=by
 unfold Dv;rw [Bk (n:=v - ((l.length:Nat):Int)) oM oM];by_cases h:v - ((l.length:Nat):Int)<0
 ·rw [Ay h];exact ⟨_,rfl,.inl oM⟩
 rw [Av h,cond_false]
 have key:∃ c,Aq (fun s_:Int×Nat=>Cy l s_.1 s_.2) 4611686018427387904 (v - ((l.length:Nat):Int),0)=some c/\((∃ y,c=Ctl.next y/\0<=y/\y<=v/\∀ x∈l,Lv x)∨∃ y,c=Ctl.out y/\y<0):=by
  refine Ee (Post:=fun c=>(∃ y,c=Ctl.next y/\0<=y/\y<=v/\∀ x∈l,Lv x)∨∃ y,c=Ctl.out y/\y<0) l.length (fun k s=>s.2=k/\0<=s.1/\s.1<=v/\∀ x∈l.take k,Lv x) oM ⟨rfl,by dsimp only;omega,by dsimp only;omega,by simp⟩ ?_ ?_
  ·rintro k ⟨y,k'⟩ hk ⟨h1,h2,h3,h4⟩;dsimp only at h1 h2 h3;subst h1;have hn:=gEg hk;obtain ⟨z1,z2,z3,z4,z5⟩:=hi _ (List.getElem_mem hk);obtain ⟨y',hy,hq⟩:=Pz l[k'].1 l[k'].2.1 l[k'].2.2.1 l[k'].2.2.2.1 l[k'].2.2.2.2 (v:=y) oM z1 z2 z3 z4 z5
   try dsimp only
   unfold Cy;rw [Ay oM,cond_true,hn,obs,hy,obs];rcases hq with hq|⟨q1,q2,q3,q4,q5⟩
   ·rw [Ay hq];exact .inr ⟨_,rfl,.inr ⟨_,rfl,by omega⟩⟩
   ·rw [Av oM,cond_false,Ah oM];refine .inl ⟨_,rfl,rfl,by dsimp only;omega,by dsimp only;omega,fun x hx=>?_⟩;rw [List.take_add_one,hn] at hx;rcases List.mem_append.1 hx with hx|hx
    ·exact h4 x hx
    ·obtain rfl:=List.mem_singleton.1 hx;exact ⟨q3,q4,q5⟩
  ·rintro ⟨y,k'⟩ ⟨h1,h2,h3,h4⟩;dsimp only at h1 h2 h3;subst h1;rw [List.take_length] at h4
   try dsimp only
   unfold Cy;rw [Av oM,cond_false];exact ⟨_,rfl,.inl ⟨_,rfl,h2,h3,h4⟩⟩
 obtain ⟨c,hc,⟨y,rfl,h1,h2,h3⟩|⟨y,rfl,h1⟩⟩:=key
 ·rw [hc];exact ⟨_,rfl,.inr ⟨h1,h2,by omega,h3⟩⟩
 ·rw [hc];exact ⟨_,rfl,.inl h1⟩
theorem Alt {R:Nat->Prop} {w:World} {t:Ty} {A:Option Addr} {c:Nat} {xs:List t.D} {l:List Addr} (h:Sl R w t A c xs l):∀ x∈xs,∃ a l',Ty.Mem R w t a x l':=by
 obtain ⟨_,_,f,_,h4⟩:=h;intro x hx;obtain ⟨i,hi,rfl⟩:=List.getElem_of_mem hx;obtain ⟨_,_,_,h5⟩:=h4 oM;exact ⟨_,_,h5 i hi⟩
theorem Anf {R:Nat->Prop} {w:World} {A:Option Addr} {c:Nat} {xs:List Cp} {l:List Addr} (h:Sl R w (.pair .str (.pair (.slice (.pair .int (.pair .int .str))) (.pair .int (.pair .int (.slice (.slice .int)))))) A c xs l) (hi:Ty.In (.slice (.pair .str (.pair (.slice (.pair .int (.pair .int .str))) (.pair .int (.pair .int (.slice (.slice .int))))))) xs):∀ x∈xs,Aps x:=by
 intro x hx;obtain ⟨a,l',_,_,_,⟨_,_,⟨A1,c1,_,h1⟩,⟨_,_,_,⟨_,_,_,⟨A2,c2,_,h2⟩,_⟩,_⟩,_⟩,_⟩:=Alt h x hx;have i0:=hi x hx;exact ⟨Nat.le_trans i0.1 (by decide),(Hl h1).2,fun n hn=>Nat.le_trans (i0.2.1 n hn).2.2 (by decide),(Hl h2).2,Af4 h2⟩
end
section
open Go.RowKit Go.Deep
abbrev Mg:Ty:=.pair .int (.pair .int .str)
abbrev Mi:Ty:=.pair .str (.pair (.slice Mg) (.pair .int (.pair .int (.slice (.slice .int)))))
theorem Eo {R R':Nat->Prop} (x0:ByteArray) (x1:List Nd) (A1:Option Addr) (c1:Nat) (l1:List Addr) (x2 x3:Int) (x4:List (List Int)) (A4:Option Addr) (c4:Nat) (l4:List Addr) (w:World) (s1:Sl R w Mg A1 c1 x1 l1) (s4:Sl R' w (.slice .int) A4 c4 x4 l4) (hc:Lv (x0,x1,x2,x3,x4)) (tab:Tab w) :
  Calls Tryz.prog 8 #[.agg #[.string x0,.slice A1 x1.length c1,.int .i64 x2,.int .i64 x3,.slice A4 x4.length c4]] w fun e w'=>∃ B1 d1 m1 B4 d4 m4,e=.returned (.agg #[.string x0,.slice B1 x1.length d1,.int .i64 x2,.int .i64 x3,.slice B4 x4.length d4])/\Sl (Ic w.heap.size) w' Mg B1 d1 x1 m1/\Sl (Ic w.heap.size) w' (.slice .int) B4 d4 x4 m4/\Fresh w' w.heap.size (m1++m4)/\Below w.heap.size w w':=by
 refine (S4 (vs:=[.agg #[.string x0,.slice A1 x1.length c1,.int .i64 x2,.int .i64 x3,.slice A4 x4.length c4]]) (Pj (X4 x0 x1 x2 x3 x4 hc.1 hc.2.1 hc.2.2)) (fun w' hb=>tab.below hb) ⟨_,_,rfl,⟨_,rfl,⟨_,_,rfl,rfl,⟨_,_,rfl,⟨A1,c1,l1,rfl,Nb s1⟩,⟨_,_,rfl,rfl,⟨_,_,rfl,rfl,⟨_,_,rfl,⟨A4,c4,l4,rfl,Nb s4⟩,rfl⟩⟩⟩⟩⟩⟩,rfl⟩).mono ?_;rintro e w' ⟨u,rfl,hb,σ',hm,hv⟩;obtain ⟨vs,rfl,v0,_,rfl,rfl,v1,_,rfl,h1,v2,_,rfl,rfl,v3,_,rfl,rfl,v4,_,rfl,h4,rfl⟩:=hv;obtain ⟨B1,d1,m1,rfl,t1,f1⟩:=R8 hm rfl h1;obtain ⟨B4,d4,m4,rfl,t4,f4⟩:=Yr hm rfl (fun k xs hx=>Abi hx rfl) h4;exact ⟨B1,d1,m1,B4,d4,m4,rfl,t1,t4,(f1.append hm f4 (by rintro i rfl ⟨k,e⟩;cases e)).fresh,hb⟩
theorem Aay {R:Nat->Prop} {w:World} {A:Option Addr} {c:Nat} {xs:List Cp} {l:List Addr} (h:Sl R w Mi A c xs l) (h0:0<xs.length) :
  ∃ (b o:Nat) (f:Nat->List Addr),A=some ⟨b,o,none⟩/\l=(List.range xs.length).flatMap f/\∀ (k:Nat) (hk:k<xs.length),∃ A1 c1 l1 A4 c4 l4,
   w.cell? ⟨b,o+k*5,none⟩=some (.string xs[k].1)/\w.cell? ⟨b,o+k*5+1,none⟩=some (.slice A1 xs[k].2.1.length c1)/\w.cell? ⟨b,o+k*5+2,none⟩=some (.int .i64 xs[k].2.2.1)/\w.cell? ⟨b,o+k*5+3,none⟩=some (.int .i64 xs[k].2.2.2.1)/\w.cell? ⟨b,o+k*5+4,none⟩=some (.slice A4 xs[k].2.2.2.2.length c4) /\
   Sl R w Mg A1 c1 xs[k].2.1 l1/\Sl R w (.slice .int) A4 c4 xs[k].2.2.2.2 l4/\f k=⟨b,o+k*5,none⟩ :: (l1++⟨b,o+k*5+2,none⟩ :: ⟨b,o+k*5+3,none⟩ :: l4):=by
 obtain ⟨b,o,f,rfl,hr,_,e,hf⟩:=Akl h h0;refine ⟨b,o,f,rfl,e,fun k hk=>?_⟩;obtain ⟨_,_,⟨h0,rfl⟩,⟨l1,_,⟨A1,c1,h1,s1⟩,⟨_,_,⟨h2,rfl⟩,⟨_,l4,⟨h3,rfl⟩,⟨A4,c4,h4,s4⟩,rfl⟩,rfl⟩,rfl⟩,e⟩:=hf k hk;simp only [Bd,Ty.size,Nat.reduceAdd] at h0 h1 h2 h3 h4 e;exact ⟨A1,c1,l1,A4,c4,l4,h0,h1,by simpa [Nat.add_assoc] using h2,by simpa [Nat.add_assoc] using h3,by simpa [Nat.add_assoc] using h4,s1,s4,by simpa [Nat.add_assoc] using e⟩
set_option maxHeartbeats 1000000 in
theorem Fx {R:Nat->Prop} (xs:List Cp) (A:Option Addr) (c:Nat) (l:List Addr) (w:World) (h:Sl R w Mi A c xs l) (hn:xs.length<=1048576) (hc:∀ x∈xs,Lv x) (tab:Tab w) :
  Calls Tryz.prog 7 #[.slice A xs.length c] w fun e w'=>∃ g c' l',e=.returned (.slice (some ⟨g,0,none⟩) xs.length c')/\Sl (Ic w.heap.size) w' Mi (some ⟨g,0,none⟩) c' xs l'/\Fresh w' w.heap.size l'/\Below w.heap.size w w':=by
 have hmk:=fun W=>Xj (P:=Tryz.prog) 33 42 #[.string ⟨#[]⟩,.slice none 0 0,.int .i64 0,.int .i64 0,.slice none 0 0] 5 80 Tryz.underlying33 (by kernel_rfl) .i64 .i64 xs.length oM oM W
 go_enter Tryz.func7,Tryz.ntmps7
 go_wp2
 go_loopw [4] (fun i wr=>∃ k:Nat,k<=xs.length/\i=.int .i64 k/\LaidV w.heap.size 42 Mi xs.length k xs wr/\Below w.heap.size w wr) (fun i _=>xs.length - (intOf i).toNat)
 case atStart=>exact ⟨0,by omega,rfl,LaidV.start (Abj w #[.string ⟨#[]⟩,.slice none 0 0,.int .i64 0,.int .i64 0,.slice none 0 0] (xs.length*5) 42),by repeat (first|with_reducible exact Below.refl _ _|((with_reducible refine Below.setCell ?_ ?_ _);rotate_left;focus (first|(simp;done)|omega|(simp;omega)))|((with_reducible refine Below.alloc ?_ ?_ _);rotate_left;focus (first|(simp;done)|omega|(simp;omega)))|(with_reducible refine Below.drew ?_)|(with_reducible refine below_draws_ ?_ _))⟩
 case round =>
  obtain ⟨k,hk,rfl,hL,hbl⟩:=hrel;by_cases hlt:k<xs.length
  ·obtain ⟨b,o,f,rfl,_,hs⟩:=Aay h oM;obtain ⟨A1,c1,l1,A4,c4,l4,e0,e1,e2,e3,e4,s1,s4,_⟩:=hs k hlt;have hok:=hc xs[k] (List.getElem_mem hlt);obtain ⟨⟨x0,x1,x2,x3,x4⟩,hx⟩:∃ x,x=xs[k]:=⟨_,rfl⟩
   rw [← hx] at e0 e1 e2 e3 e4 s1 s4 hok;have d0:=Af hbl e0;have d1:=Af hbl e1;have d2:=Af hbl e2;have d3:=Af hbl e3;have d4:=Af hbl e4;have hg:=hL.lt;have hX:=Lib.hid hx;have hH:=Lib.hid hL
   clear hs e0 e1 e2 e3 e4 hx hL
   dsimp only at s1 s4 d0 d1 d2 d3 d4
   go_wp2_with fail
   refine (Eo x0 x1 A1 c1 l1 x2 x3 x4 A4 c4 l4 _ (by exact Ao s1 hbl) (by exact Ao s4 hbl) hok (by exact tab.below hbl)).mono ?_;rintro e w1 ⟨B1,q1,m1,B4,q4,m4,rfl,t1,t4,f1,hb1⟩;have hL1:=hH.out.below hb1;obtain ⟨F,hrow⟩:=hL1.row;simp only [Ty.size,Nat.reduceAdd] at hrow;obtain ⟨v0,c0⟩:∃ v,w1.cell? ⟨w.heap.size,k*5,none⟩=some v:=⟨_,hrow.cell oM⟩
   have f0:=hrow.frozen (k*5);obtain ⟨v1,c1'⟩:∃ v,w1.cell? ⟨w.heap.size,k*5+1,none⟩=some v:=⟨_,hrow.cell oM⟩
   have f1':=hrow.frozen (k*5+1);obtain ⟨v2,c2'⟩:∃ v,w1.cell? ⟨w.heap.size,k*5+2,none⟩=some v:=⟨_,hrow.cell oM⟩
   have f2':=hrow.frozen (k*5+2);obtain ⟨v3,c3'⟩:∃ v,w1.cell? ⟨w.heap.size,k*5+3,none⟩=some v:=⟨_,hrow.cell oM⟩
   have f3':=hrow.frozen (k*5+3);obtain ⟨v4,c4'⟩:∃ v,w1.cell? ⟨w.heap.size,k*5+4,none⟩=some v:=⟨_,hrow.cell oM⟩
   have f4':=hrow.frozen (k*5+4)
   have hS:=Lib.hid (hH.out.step (cs:=[.string x0,.slice B1 x1.length q1,.int .i64 x2,.int .i64 x3,.slice B4 x4.length q4]) (l:=m1++m4) hb1 hlt (by
    rw [← hX.out];exact ⟨[_],_,[],_,rfl,⟨rfl,rfl⟩,⟨[_],_,m1,_,rfl,⟨B1,q1,rfl,t1⟩,⟨[_],_,[],_,rfl,⟨rfl,rfl⟩,⟨[_],_,[],_,rfl,⟨rfl,rfl⟩,⟨B4,q4,rfl,t4⟩,rfl⟩,rfl⟩,rfl⟩,rfl⟩) f1)
   clear hrow hL1 t1 t4 f1
   go_wp2
   go_roundw
   case rel =>
    refine ⟨k+1,by omega,by go_num,hS.out,?_⟩;exact Ry (Nat.le_refl _) (vs:=[.string x0,.slice B1 x1.length q1,.int .i64 x2,.int .i64 x3,.slice B4 x4.length q4]) (o:=k*5) (hbl.trans (hb1.mono hbl.size))
   case measure=>simp [intOf];omega
  ·obtain rfl:k=xs.length:=by omega
   go_wp2
   go_ret
   obtain ⟨l',hs,hf⟩:=hL.done rfl (by simp only [maxLen];omega) (lo:=w.heap.size) (Nat.le_refl _);exact ⟨_,_,l',rfl,hs,hf,hbl⟩
end
section
open Go.RowKit Go.Deep
set_option maxRecDepth 100000 in
set_option maxHeartbeats 1000000 in
theorem Kp {R:Nat->Prop} (xs:List Cp) (A:Option Addr) (c:Nat) (l:List Addr) (k:Int) (lo:Nat) (w:World) (h:Sl R w Mi A c xs l) (hf:Fresh w lo l) (hk:0<=k/\k+l.length<=9223372036854775807) {w0:World} (tab:Tab w0) (hb0:Below w0.heap.size w0 w) (hlo:w0.heap.size<=lo) :
  Calls Tryz.prog 12 #[.slice A xs.length c,.int .i64 k] w fun e w'=>e=.returned (.int .i64 (k+l.length))/\MarkedAs l k w w':=by
 have hn:=(Hl h).2;have hTb:∀ (F:List Addr) (w':World),(∀ p∈F,lo<=p.block)->MarkedAs F k w w'->Below w0.heap.size w0 w':=fun F w' hF m=>hb0.trans (m.belowAt (fun p hp=>Nat.le_trans hlo (hF p hp)) hb0.size)
 rcases Nat.eq_zero_or_pos xs.length with h0|h0
 ·obtain rfl:xs=[]:=List.length_eq_zero_iff.1 h0;obtain ⟨_,_,f,rfl,_⟩:=h
  go_enter Tryz.func12,Tryz.ntmps12
  go_wp2
  go_loopw [1,5] (fun m i wr=>i=.int .i64 0/\m=.int .i64 k/\wr=w) (fun _ i _=>0)
  case atStart=>exact ⟨rfl,rfl,rfl⟩
  case round =>
   obtain ⟨rfl,rfl,rfl⟩:=hrel
   go_wp2
   go_ret
   exact ⟨Lb (by simp),MarkedAs.nil _ k⟩
 obtain ⟨b,o,f,rfl,rfl,hs⟩:=Aay h h0
 go_enter Tryz.func12,Tryz.ntmps12
 go_wp2
 go_loopw [1,5] (fun m i wr=>∃ (j:Nat) (F:List Addr),Hid (F=(List.range j).flatMap f)/\j<=xs.length/\i=.int .i64 j/\m=.int .i64 (k+F.length)/\MarkedAs F k w wr) (fun _ i _=>xs.length - (intOf i).toNat)
 case atStart=>exact ⟨0,[],rfl,by omega,rfl,by simp,MarkedAs.nil w k⟩
 case round =>
  obtain ⟨j,F,hFe,hj,rfl,rfl,hm⟩:=hrel;by_cases hlt:j<xs.length
  ·obtain ⟨A1,c1,l1,A4,c4,l4,e0,e1,e2,e3,e4,s1,s4,hfj⟩:=hs j hlt;obtain ⟨r,hr⟩:=Lc f hlt;rw [← hFe.out,hfj] at hr;have hk2:=hk;have g0:=hf;rw [hr] at g0 hk2;simp only [List.length_append,List.length_cons] at hk2;simp only [List.cons_append,List.append_assoc] at g0;have hlob:∀ p∈F,lo<=p.block:=fun p hp=>(g0.2 p (List.mem_append_left _ hp)).1
   have d1:=hm.header e1;obtain ⟨x,hx⟩:∃ x,x=xs[j]:=⟨_,rfl⟩
   rw [← hx] at e0 e1 e2 e3 e4 s1 s4 d1;have HS:=Lib.hid hs;have HG:=Lib.hid g0;have HM:=Lib.hid hm
   clear hs hm g0 hr hx hf hk h
   go_wp2_with fail
   refine (J1 (k+F.length) oM _ (tab.below (hTb _ _ hlob HM.out))).mono ?_;rintro e w1 ⟨rfl,hb1⟩;have m1:=HM.out.below hb1;obtain ⟨z0,y0⟩:=m1.spot HG.out e0;have m2:=m1.put HG.out e0 trivial (v:=.string (Vl (k+F.length))) rfl;have G1:=HG.out.next1;have d2:=m2.header e1;have t1:=m2.sl_ G1 s1;have f1:=m2.rest G1;have HM2:=Lib.hid m2
   clear m1 m2
   go_wp2_with fail
   refine (Pn x.2.1 A1 c1 l1 (k+F.length+1) lo _ t1 f1 oM tab (hTb _ _ (fun p hp=>(G1.2 p (List.mem_append_left _ hp)).1) HM2.out) hlo).mono ?_;rintro e w2 ⟨rfl,m3⟩;have m4:=HM2.out.then_ G1 (by simp;omega) m3;have G2:=G1.next;obtain ⟨z2,y2⟩:=m4.spot G2 e2;have m5:=m4.put G2 e2 trivial (v:=.int .i64 (k+F.length+1+l1.length)) (by simp only [Jz,List.length_append,List.length_cons,List.length_nil];congr 1;omega);have G3:=G2.next1;obtain ⟨z3,y3⟩:=m5.spot G3 e3;have m6:=m5.put G3 e3 trivial (v:=.int .i64 (k+F.length+1+l1.length+1)) (by simp only [Jz,List.length_append,List.length_cons,List.length_nil];congr 1;omega);have G4:=G3.next1;obtain ⟨z3',y3'⟩:=m4.spotM G2 (by simp) e3;have d4:=m6.header e4;have t4:=m6.sl_ G4 s4;have f4:=m6.rest G4;have HM6:=Lib.hid m6
   clear m3 m4 m5 m6
   go_wp2_with fail
   refine (Pu x.2.2.2.2 A4 c4 l4 (k+F.length+1+l1.length+1+1) lo _ t4 f4 oM).mono ?_;rintro e w3 ⟨rfl,m7⟩;have hM:=Lib.hid (HM6.out.then_ G4 (by simp only [List.length_append,List.length_cons,List.length_nil];omega) m7)
   clear m7 HM6
   go_wp2_with fail
   go_roundw
   case rel=>exact ⟨j+1,_,Lib.hid (by rw [Hy,← hFe.out,hfj];simp),by omega,by go_num,by simp only [List.length_append,List.length_cons,List.length_nil];congr 1;omega,hM.out⟩
   case measure=>simp [intOf];omega
  ·obtain rfl:j=xs.length:=by omega
   go_wp2
   go_ret
   rw [← hFe.out];exact ⟨rfl,hm⟩
end
section
open Go.RowKit Go.Deep
theorem om {p:Prop} (h:p:=by first|(simp;done)|omega|(simp;omega)):p:=h
theorem ol {p:Prop} (h:p:=by first|omega|(simp;omega)|(simp;done)):p:=h
theorem bw {p:Prop} (h:p:=by repeat (first|with_reducible exact Below.refl _ _|((with_reducible refine Below.setCell ?_ ?_ _);rotate_left;focus (first|(simp;done)|omega|(simp;omega)))|((with_reducible refine Below.alloc ?_ ?_ _);rotate_left;focus (first|(simp;done)|omega|(simp;omega)))|(with_reducible refine Below.drew ?_)|(with_reducible refine below_draws_ ?_ _)|((with_reducible refine Below.trans ?_ (Below.mono hb_w1 ?_));rotate_left;focus (first|(simp;done)|omega|(simp;omega)))|((with_reducible refine Below.trans ?_ (Below.mono hb_w2 ?_));rotate_left;focus (first|(simp;done)|omega|(simp;omega)))|((with_reducible refine Below.trans ?_ (Below.mono hb_w3 ?_));rotate_left;focus (first|(simp;done)|omega|(simp;omega)))|((with_reducible refine Below.trans ?_ (Below.mono hb_w4 ?_));rotate_left;focus (first|(simp;done)|omega|(simp;omega)))|((with_reducible refine Below.trans ?_ (Below.mono hb_w5 ?_));rotate_left;focus (first|(simp;done)|omega|(simp;omega)))|((with_reducible refine Below.trans ?_ (Below.mono hb_w6 ?_));rotate_left;focus (first|(simp;done)|omega|(simp;omega)))|((with_reducible refine Below.trans ?_ (Below.mono hb_w7 ?_));rotate_left;focus (first|(simp;done)|omega|(simp;omega)))|((with_reducible refine Below.trans ?_ (Below.mono hb_w8 ?_));rotate_left;focus (first|(simp;done)|omega|(simp;omega)))|((with_reducible refine Below.trans ?_ (Below.mono hb_w9 ?_));rotate_left;focus (first|(simp;done)|omega|(simp;omega)))|((with_reducible refine Below.trans ?_ (Below.mono hb_w10 ?_));rotate_left;focus (first|(simp;done)|omega|(simp;omega)))|((with_reducible refine Below.trans ?_ (Below.mono hb_w11 ?_));rotate_left;focus (first|(simp;done)|omega|(simp;omega)))|((with_reducible refine Below.trans ?_ (Below.mono hb_w12 ?_));rotate_left;focus (first|(simp;done)|omega|(simp;omega)))|((with_reducible refine Below.trans ?_ (Below.mono hb_w13 ?_));rotate_left;focus (first|(simp;done)|omega|(simp;omega)))|((with_reducible refine Below.trans ?_ (Below.mono hb_w14 ?_));rotate_left;focus (first|(simp;done)|omega|(simp;omega)))|((with_reducible refine Below.trans ?_ (Below.mono hb_w15 ?_));rotate_left;focus (first|(simp;done)|omega|(simp;omega)))|((with_reducible refine Below.trans ?_ (Below.mono hb_w16 ?_));rotate_left;focus (first|(simp;done)|omega|(simp;omega)))|((with_reducible refine Below.trans ?_ (Below.mono hb_w17 ?_));rotate_left;focus (first|(simp;done)|omega|(simp;omega)))|((with_reducible refine Below.trans ?_ (Below.mono hb_w18 ?_));rotate_left;focus (first|(simp;done)|omega|(simp;omega)))|((with_reducible refine Below.trans ?_ (Below.mono hb_w19 ?_));rotate_left;focus (first|(simp;done)|omega|(simp;omega)))|((with_reducible refine Below.trans ?_ (Below.mono hb_w20 ?_));rotate_left;focus (first|(simp;done)|omega|(simp;omega)))|((with_reducible refine Below.trans ?_ (Below.mono hb_w21 ?_));rotate_left;focus (first|(simp;done)|omega|(simp;omega)))|((with_reducible refine Below.trans ?_ (Below.mono hb_w22 ?_));rotate_left;focus (first|(simp;done)|omega|(simp;omega)))|((with_reducible refine Below.trans ?_ (Below.mono hb_w23 ?_));rotate_left;focus (first|(simp;done)|omega|(simp;omega)))|((with_reducible refine Below.trans ?_ (Below.mono hb_w24 ?_));rotate_left;focus (first|(simp;done)|omega|(simp;omega)))|((with_reducible refine Below.trans ?_ (Below.mono hb_w25 ?_));rotate_left;focus (first|(simp;done)|omega|(simp;omega)))|((with_reducible refine Below.trans ?_ (Below.mono hb_w26 ?_));rotate_left;focus (first|(simp;done)|omega|(simp;omega)))|((with_reducible refine Below.trans ?_ (Below.mono hb_w27 ?_));rotate_left;focus (first|(simp;done)|omega|(simp;omega)))|((with_reducible refine Below.trans ?_ (Below.mono hb_w28 ?_));rotate_left;focus (first|(simp;done)|omega|(simp;omega)))|((with_reducible refine Below.trans ?_ (Below.mono hb_w29 ?_));rotate_left;focus (first|(simp;done)|omega|(simp;omega)))|((with_reducible refine Below.trans ?_ (Below.mono hb_w30 ?_));rotate_left;focus (first|(simp;done)|omega|(simp;omega))))):p:=h
theorem Ahq {w:World} {vs:Array Value} {T:TypeId} {i:Nat} {v:Value} (h:vs[i]? =some v):(w.alloc (.cells vs T)).cell? ⟨w.heap.size,i,none⟩=some v:=by
 simp [World.cell?_alloc_new,h]
theorem Wo {P:Program} {G:World->Prop} {g:FuncId} {args:List AV} {n:Int} {vs:List Value} {w:World} (h:B3 P G g args ⟨false,[(false,[.sc (.int .i64 n)])]⟩) (hG:∀ w',Below w.heap.size w w'->G w') (hr:AV.RepL (fun _=>none) (fun _=>True) w args vs):Calls P g vs.toArray w fun e w'=>e=.returned (.int .i64 n)/\Below w.heap.size w w':=by
 refine (h w (fun _=>True) vs hG hr).mono ?_;rintro e w' ⟨u,rfl,hb,us,ls,h1,_,rfl⟩;obtain ⟨u1,us1,rfl,h2,_,rfl,rfl⟩:=h1;obtain rfl:u1=.int .i64 n:=h2;exact ⟨rfl,hb⟩
theorem Hh {P:Program} {G:World->Prop} {g:FuncId} {args:List AV} {b:Bool} {vs:List Value} {w:World} (h:B3 P G g args ⟨false,[(false,[.sc (.bool b)])]⟩) (hG:∀ w',Below w.heap.size w w'->G w') (hr:AV.RepL (fun _=>none) (fun _=>True) w args vs):Calls P g vs.toArray w fun e w'=>e=.returned (.bool b)/\Below w.heap.size w w':=by
 refine (h w (fun _=>True) vs hG hr).mono ?_;rintro e w' ⟨u,rfl,hb,us,ls,h1,_,rfl⟩;obtain ⟨u1,us1,rfl,h2,_,rfl,rfl⟩:=h1;obtain rfl:u1=.bool b:=h2;exact ⟨rfl,hb⟩
section
variable {R R':Nat->Prop} {w:World}
theorem Io (l:List Cp) (A:Option Addr) (c:Nat) (ll:List Addr) {v y:Int} (h:Dv l v=some y) (w:World) (s:Sl R w Mi A c l ll) (tab:Tab w) :
  Calls Tryz.prog 4 #[.slice A l.length c,.int .i64 v] w fun e w'=>e=.returned (.int .i64 y)/\Below w.heap.size w w' :=
 Wo (vs:=[.slice A l.length c,.int .i64 v]) (Ox h) (fun _ hb=>tab.below hb) ⟨_,_,rfl,⟨A,c,ll,rfl,Nb s⟩,⟨_,_,rfl,rfl,rfl⟩⟩
theorem Ff (l:List Cp) (A:Option Addr) (c:Nat) (ll:List Addr) (B:Option Addr) (d:Nat) (m:List Addr) (w:World) (s:Sl R w Mi A c l ll) (t:Sl R' w Mi B d l m) (hn:l.length<=1048576) (hc:∀ x∈l,Lv x) (tab:Tab w) :
  Calls Tryz.prog 10 #[.slice A l.length c,.slice B l.length d] w fun e w'=>e=.returned (.bool true)/\Below w.heap.size w w' :=
 Hh (vs:=[.slice A l.length c,.slice B l.length d]) (Oo (Alr l hn hc)) (fun _ hb=>tab.below hb) ⟨_,_,rfl,⟨A,c,ll,rfl,Nb s⟩,⟨_,_,rfl,⟨B,d,m,rfl,Nb t⟩,rfl⟩⟩
end
theorem Xh {α:Type} (f:α->Nat) (M:Nat):∀ (xs:List α),(∀ x∈xs,f x<=M)->(xs.map f).sum<=xs.length*M
 | [],_=>by simp
 | x :: xs,h=>by
  simp only [List.map_cons,List.sum_cons,List.length_cons,Nat.succ_mul];have:=Xh f M xs fun y hy=>h y (List.mem_cons_of_mem _ hy)
  have:=h x List.mem_cons_self;omega
theorem Abu (x:List Int):(Ty.slice Ty.int).cnt x=x.length:=by
 show (x.map fun _=>1).sum=_;rw [List.map_const',List.sum_replicate_nat];omega
theorem Am3 {R:Nat->Prop} {w:World} {A:Option Addr} {c:Nat} {xs:List Nd} {l:List Addr} (h:Sl R w Mg A c xs l) (h1:xs.length<=1048576):l.length<=3145728:=by
 have:=Jj (t:=Mg) rfl h;simp only [Ty.size,Nat.reduceAdd] at this;omega
theorem Afv {R:Nat->Prop} {w:World} {A:Option Addr} {c:Nat} {xs:List Cp} {l:List Addr} (h:Sl R w Mi A c xs l) (h1:xs.length<=1048576) (h2:∀ x∈xs,Lv x):l.length<=1200000000000000000:=by
 rw [Afg h];refine Nat.le_trans (Xh _ 1099514777603 xs fun x hx=>?_) (Nat.le_trans (Nat.mul_le_mul_right _ h1) (by decide));obtain ⟨q1,q2,q3⟩:=h2 x hx
 have e1:(Ty.slice Mg).cnt x.2.1<=3145728:=by
  show (x.2.1.map _).sum<=_;refine Nat.le_trans (Xh _ 3 x.2.1 fun y _=>Nat.le_of_eq (Ty.cnt_flat (t:=Mg) y rfl)) ?_;omega
 have e2:(Ty.slice (.slice .int)).cnt x.2.2.2.2<=1099511627776:=by
  show (x.2.2.2.2.map _).sum<=_;refine Nat.le_trans (Xh _ 1048576 x.2.2.2.2 fun y hy=>?_) (Nat.mul_le_mul_right 1048576 q2);rw [Abu];exact q3 y hy
 show 1+((Ty.slice Mg).cnt x.2.1+(1+(1+(Ty.slice (.slice .int)).cnt x.2.2.2.2)))<=_;omega
end
section
open Go.RowKit Go.Deep
set_option maxHeartbeats 1000000 in
theorem S9 {R2:Nat->Prop} (x0:Int) (x1:Int) (x2:List (List Int)) (A2:Option Addr) (c2:Nat) (l2:List Addr) (k:Int) (lo:Nat) (w:World) (s2:Sl R2 w (.slice .int) A2 c2 x2 l2) (hf:Fresh w lo (l2)) (hk:0<=k/\k+(l2).length<=9223372036854775807) :
  Calls Tryz.prog 35 #[.agg #[.int .i64 x0,.int .i64 x1,.slice A2 x2.length c2],.int .i64 k] w fun e w'=>e=.returned (.int .i64 (k+(l2).length))/\MarkedAs (l2) k w w':=by
 have hb0:Below w.heap.size w (w.alloc (.cells #[.int .i64 x0,.int .i64 x1,.slice A2 x2.length c2] 40)):=(by repeat (first|with_reducible exact Below.refl _ _|((with_reducible refine Below.setCell ?_ ?_ _);rotate_left;focus (first|(simp;done)|omega|(simp;omega)))|((with_reducible refine Below.alloc ?_ ?_ _);rotate_left;focus (first|(simp;done)|omega|(simp;omega)))|(with_reducible refine Below.drew ?_)|(with_reducible refine below_draws_ ?_ _)))
 have f0:=hf.below hb0;have hbx:w.heap.size<(w.alloc (.cells #[.int .i64 x0,.int .i64 x1,.slice A2 x2.length c2] 40)).heap.size:=by simp
 have s2_0:=Ao s2 hb0;have g0:∀ p∈(l2),p.block<w.heap.size:=fun p hp=>(hf.2 p hp).2.1
 go_enter Tryz.func35,Tryz.ntmps35
 go_wp2_with fail
 refine (Pu x2 A2 c2 l2 (k) lo _ s2_0 f0 oM).mono ?_;rintro e w1 ⟨rfl,m1⟩;have hz1:=m1.size
 go_wp2_with fail
 go_ret
 exact ⟨Lb (by rfl),MarkedAs.after hb0 m1 g0⟩
end
section
open Go.RowKit Go.Deep
theorem L5 {R R':Nat->Prop} {w:World} (x0:ByteArray) (x1:List Nd) (A1:Option Addr) (c1:Nat) (l1:List Addr) (x2 x3:Int) (x4:List (List Int)) (A4:Option Addr) (c4:Nat) (l4:List Addr) (s1:Sl R w Mg A1 c1 x1 l1) (s4:Sl R' w (.slice .int) A4 c4 x4 l4) :
  AV.Rep (fun _=>none) (fun _=>True) w (.agg [.str x0,.tree Mg x1,.int .i64 x2,.int .i64 x3,.tree (.slice .int) x4]) (.agg #[.string x0,.slice A1 x1.length c1,.int .i64 x2,.int .i64 x3,.slice A4 x4.length c4]) :=
 ⟨_,rfl,⟨_,_,rfl,rfl,⟨_,_,rfl,⟨A1,c1,l1,rfl,Nb s1⟩,⟨_,_,rfl,rfl,⟨_,_,rfl,rfl,⟨_,_,rfl,⟨A4,c4,l4,rfl,Nb s4⟩,rfl⟩⟩⟩⟩⟩⟩
section
variable {R R' S S':Nat->Prop} {w:World}
theorem Nn (x0:ByteArray) (x1:List Nd) (A1:Option Addr) (c1:Nat) (l1:List Addr) (x2 x3:Int) (x4:List (List Int)) (A4:Option Addr) (c4:Nat) (l4:List Addr) {v y:Int} (h:C6 x0 x1 x2 x3 x4 v=some y) (w:World) (s1:Sl R w Mg A1 c1 x1 l1) (s4:Sl R' w (.slice .int) A4 c4 x4 l4) (tab:Tab w) :
  Calls Tryz.prog 5 #[.agg #[.string x0,.slice A1 x1.length c1,.int .i64 x2,.int .i64 x3,.slice A4 x4.length c4],.int .i64 v] w fun e w'=>e=.returned (.int .i64 y)/\Below w.heap.size w w' :=
 Wo (vs:=[.agg #[.string x0,.slice A1 x1.length c1,.int .i64 x2,.int .i64 x3,.slice A4 x4.length c4],.int .i64 v]) (J0 h) (fun _ hb=>tab.below hb) ⟨_,_,rfl,L5 x0 x1 A1 c1 l1 x2 x3 x4 A4 c4 l4 s1 s4,⟨_,_,rfl,rfl,rfl⟩⟩
theorem Sk (x0:ByteArray) (x1:List Nd) (A1:Option Addr) (c1:Nat) (l1:List Addr) (x2 x3:Int) (x4:List (List Int)) (A4:Option Addr) (c4:Nat) (l4:List Addr) (B1:Option Addr) (d1:Nat) (m1:List Addr) (B4:Option Addr) (d4:Nat) (m4:List Addr) (w:World) (s1:Sl R w Mg A1 c1 x1 l1) (s4:Sl R' w (.slice .int) A4 c4 x4 l4) (t1:Sl S w Mg B1 d1 x1 m1) (t4:Sl S' w (.slice .int) B4 d4 x4 m4) (hc:Lv (x0,x1,x2,x3,x4)) (tab:Tab w) :
  Calls Tryz.prog 11 #[.agg #[.string x0,.slice A1 x1.length c1,.int .i64 x2,.int .i64 x3,.slice A4 x4.length c4],.agg #[.string x0,.slice B1 x1.length d1,.int .i64 x2,.int .i64 x3,.slice B4 x4.length d4]] w fun e w'=>e=.returned (.bool true)/\Below w.heap.size w w' :=
 Hh (vs:=[.agg #[.string x0,.slice A1 x1.length c1,.int .i64 x2,.int .i64 x3,.slice A4 x4.length c4],.agg #[.string x0,.slice B1 x1.length d1,.int .i64 x2,.int .i64 x3,.slice B4 x4.length d4]]) (Jx (P1 x0 x1 x2 x3 x4 hc.1 hc.2.1 hc.2.2)) (fun _ hb=>tab.below hb)
  ⟨_,_,rfl,L5 x0 x1 A1 c1 l1 x2 x3 x4 A4 c4 l4 s1 s4,⟨_,_,rfl,L5 x0 x1 B1 d1 m1 x2 x3 x4 B4 d4 m4 t1 t4,rfl⟩⟩
end
theorem Aaa {R:Nat->Prop} (xs:List Nd) (A:Option Addr) (c:Nat) (l:List Addr) (k:Int) (lo:Nat) (w:World) (s:Sl R w Mg A c xs l) (hf:Fresh w lo l) (hk:0<=k/\k+l.length<=9223372036854775807) {w0:World} (tab:Tab w0) (hb0:Below w0.heap.size w0 w) (hlo:w0.heap.size<=lo) :
  Calls Tryz.prog 34 #[.agg #[.slice A xs.length c],.int .i64 k] w fun e w'=>e=.returned (.int .i64 (k+l.length))/\MarkedAs l k w w':=by
 have hb1:Below w.heap.size w (w.alloc (.cells #[.slice A xs.length c] 39)):=(by repeat (first|with_reducible exact Below.refl _ _|((with_reducible refine Below.setCell ?_ ?_ _);rotate_left;focus (first|(simp;done)|omega|(simp;omega)))|((with_reducible refine Below.alloc ?_ ?_ _);rotate_left;focus (first|(simp;done)|omega|(simp;omega)))|(with_reducible refine Below.drew ?_)|(with_reducible refine below_draws_ ?_ _)))
 have f0:=hf.below hb1;have hbx:w.heap.size<(w.alloc (.cells #[.slice A xs.length c] 39)).heap.size:=by simp
 have s0:=Ao s hb1;have g0:∀ p∈l,p.block<w.heap.size:=fun p hp=>(hf.2 p hp).2.1
 have hb2:Below w0.heap.size w0 (w.alloc (.cells #[.slice A xs.length c] 39)):=hb0.trans (hb1.mono hb0.size)
 go_enter Tryz.func34,Tryz.ntmps34
 go_wp2_with fail
 refine (Pn xs A c l k lo _ s0 f0 hk tab hb2 hlo).mono ?_;rintro e w1 ⟨rfl,m1⟩;have hz1:=m1.size
 go_wp2_with fail
 go_ret
 exact ⟨rfl,MarkedAs.after hb1 m1 g0⟩
set_option maxRecDepth 100000 in
set_option maxHeartbeats 4000000 in
theorem Rk {R R':Nat->Prop} (x0:ByteArray) (x1:List Nd) (A1:Option Addr) (c1:Nat) (l1:List Addr) (x2 x3:Int) (x4:List (List Int)) (A4:Option Addr) (c4:Nat) (l4:List Addr) (k:Int) (lo:Nat) (w:World) (s1:Sl R w Mg A1 c1 x1 l1) (s4:Sl R' w (.slice .int) A4 c4 x4 l4) (hf:Fresh w lo (l1++l4)) (hk:0<=k/\k+(l1++l4).length<=9223372036854775807) {w0:World} (tab:Tab w0) (hb0:Below w0.heap.size w0 w) (hlo:w0.heap.size<=lo) :
  Calls Tryz.prog 13 #[.agg #[.string x0,.slice A1 x1.length c1,.int .i64 x2,.int .i64 x3,.slice A4 x4.length c4],.int .i64 k] w fun e w'=>e=.returned (.int .i64 (k+(l1++l4).length))/\MarkedAs (l1++l4) k w w':=by
 rw [List.length_append] at hk;have hb1:Below w.heap.size w (w.alloc (.cells #[.string x0,.slice A1 x1.length c1,.int .i64 x2,.int .i64 x3,.slice A4 x4.length c4] 42)):=(by repeat (first|with_reducible exact Below.refl _ _|((with_reducible refine Below.setCell ?_ ?_ _);rotate_left;focus (first|(simp;done)|omega|(simp;omega)))|((with_reducible refine Below.alloc ?_ ?_ _);rotate_left;focus (first|(simp;done)|omega|(simp;omega)))|(with_reducible refine Below.drew ?_)|(with_reducible refine below_draws_ ?_ _)))
 have f0:=hf.below hb1;have hbx:w.heap.size<(w.alloc (.cells #[.string x0,.slice A1 x1.length c1,.int .i64 x2,.int .i64 x3,.slice A4 x4.length c4] 42)).heap.size:=by simp
 have t1:=Ao s1 hb1;have t4:=Ao s4 hb1;have g0:∀ p∈l1++l4,p.block<w.heap.size:=fun p hp=>(hf.2 p hp).2.1
 have hb2:Below w0.heap.size w0 (w.alloc (.cells #[.string x0,.slice A1 x1.length c1,.int .i64 x2,.int .i64 x3,.slice A4 x4.length c4] 42)):=hb0.trans (hb1.mono hb0.size);have b2:(w.alloc (.cells #[.string x0,.slice A1 x1.length c1,.int .i64 x2,.int .i64 x3,.slice A4 x4.length c4] 42)).cell? ⟨w.heap.size,2,none⟩=some (.int .i64 x2):=by simp
 have b3:(w.alloc (.cells #[.string x0,.slice A1 x1.length c1,.int .i64 x2,.int .i64 x3,.slice A4 x4.length c4] 42)).cell? ⟨w.heap.size,3,none⟩=some (.int .i64 x3):=by simp
 have b4:(w.alloc (.cells #[.string x0,.slice A1 x1.length c1,.int .i64 x2,.int .i64 x3,.slice A4 x4.length c4] 42)).cell? ⟨w.heap.size,4,none⟩=some (.slice A4 x4.length c4):=by simp
 go_enter Tryz.func13,Tryz.ntmps13
 go_wp2_with fail
 refine (Aaa x1 A1 c1 l1 k lo _ t1 f0.sub1 oM tab hb2 hlo).mono ?_;rintro e w1 ⟨rfl,m1⟩;have hz1:=m1.size;have hne:∀ i,(⟨w.heap.size,i,none⟩:Addr)∉l1:=fun i hp=>by have:=g0 _ (List.mem_append_left _ hp);simp at this
 have d2:=(m1.frame.cell _ hbx (hne 2)).trans b2;have d3:=(m1.frame.cell _ hbx (hne 3)).trans b3;have d4:=(m1.frame.cell _ hbx (hne 4)).trans b4;have f1:Fresh w1 lo l4:=f0.sub2.marked m1.frame;have q4:Sl R' w1 (.slice .int) A4 c4 x4 l4:=m1.keepSl t4 fun p hp hq=>(List.nodup_append.1 hf.1).2.2 _ hq _ hp rfl
 go_wp2_with fail
 refine (S9 x2 x3 x4 A4 c4 l4 (k+l1.length) lo _ q4 f1 oM).mono ?_;rintro e w2 ⟨rfl,m2⟩
 go_wp2_with fail
 go_ret
 exact ⟨Lb (by rw [List.length_append];omega),(MarkedAs.append m1 m2 f0).after hb1 g0⟩
theorem Amu {R:Nat->Prop} {w:World} {A:Option Addr} {c:Nat} {xs:List (List Int)} {l:List Addr} (h:Sl R w (.slice .int) A c xs l) (h1:xs.length<=1048576) (h2:Gh 1048576 xs):l.length<=1099511627776:=by
 rw [Afg h];refine Nat.le_trans (Xh _ 1048576 xs fun x hx=>?_) (Nat.mul_le_mul_right 1048576 h1);rw [Abu];exact h2 x hx
end
end Go.Proofs.YtlaebfbpgeegcaaGreatDoor
