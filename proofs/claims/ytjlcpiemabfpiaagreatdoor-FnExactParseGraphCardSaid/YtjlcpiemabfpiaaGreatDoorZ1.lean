/- Lemmas on the program and on partial functions that stand in place of its code (part 1); no condition beyond those that each one states. -/
import Derived.Test.YtjlcpiemabfpiaaGreatDoorRows
import Derived.WalkKit
import Derived.ProofKit
import Derived.OpenShut
import Derived.Deep.Slices
import Derived.Deep.Fields
import Derived.Lib.Hide
import Derived.Deep.OwnRows
import Derived.Deep.Draws
import Derived.ChangeSame
import Derived.ChangeOld
import Derived.WalkSpells
import Derived.WalkLawsBesides
import Derived.RegionTactic
import Derived.BigRegion
import Derived.Deep.QuietTactic
import Derived.BigQuiet
import Derived.Laws.AppendOwnNone
import Derived.Laws.OwnMore
import Derived.OwnWalk
import Derived.Deep.RegionLaw
import Derived.Maps.OwnSet
import Derived.DeepKeys4
import Derived.ChangeKeysEq
import Derived.Laws.Rows
import Derived.Laws.Cells
import Derived.Laws.BytesArg
import Derived.WideLaws
import Derived.Laws.CopyRow
namespace Go.Proofs.YtjlcpiemabfpiaaGreatDoor
section
theorem osj {α:Type _} {a b:α} (h:some a=some b):a=b:=Option.some.inj h
theorem obs {α:Type _} {β:Type _} (x:α) (f:α→Option β):(some x).bind f=f x:=rfl
theorem gEg {α:Type _} {l:List α} {i:Nat} (h:i<l.length):l[i]? =some l[i]:=List.getElem?_eq_getElem h
abbrev wI (n:Int):Int:=IntKind.i64.wrap n
theorem gDg {α:Type _} {l:List α} {i:Nat} {a:α}:l.getD i a=l[i]?.getD a:=List.getD_eq_getElem?_getD
theorem oms {α:Type _} {β:Type _} {x:Option α} {f:α→β} {b:β}:x.map f=some b↔∃ a,x=some a/\f a=b:=Option.map_eq_some_iff
theorem gSi {α:Type _} {l:List α} {i:Nat} {a:α}:l[i]? =some a↔∃ h:i<l.length,l[i]=a:=List.getElem?_eq_some_iff
theorem oM {p:Prop} (h:p:=by omega):p:=h
open Go.ChangeShapes Go.WideShapes Go.ChangeAt Go.RowKit
theorem Bl (a:Addr) (n:Nat):(a.add n).block=a.block:=by unfold Addr.add;split <;> rfl
theorem Bt (a:Addr) (i j:Nat):(a.add i).add j=a.add (i+j):=by
 unfold Addr.add;by_cases hi:i=0 <;> by_cases hj:j=0 <;> simp [hi,hj,Nat.add_assoc]
inductive Ty where
 | int|bool|str
 | slice (t:Ty)
 | pair (a b:Ty)
@[reducible] def Ty.D:Ty->Type
 | .int=>Int
 | .bool=>Bool
 | .str=>ByteArray
 | .slice t=>List t.D
 | .pair a b=>a.D×b.D
def Ty.dflt:(t:Ty)->t.D
 | .int=>(0:Int)
 | .bool=>false
 | .str=>ByteArray.empty
 | .slice _=>[]
 | .pair a b=>(a.dflt,b.dflt)
def Ty.size:Ty->Nat
 | .int | .bool | .str | .slice _=>1
 | .pair a b=>a.size+b.size
def Elems {α:Type} (R:Nat->Prop) (M:Addr->α->List Addr->Prop) (sz:Nat) (A:Option Addr) (c:Nat) (xs:List α) (ls:List Addr):Prop :=
 xs.length<=c/\c<=maxLen/\∃ f:Nat->List Addr,ls=(List.range xs.length).flatMap f /\
  (0<xs.length->∃ ad,A=some ad/\R ad.block/\∀ (i:Nat) (h:i<xs.length),M (ad.add (i*sz)) xs[i] (f i))
def Ty.Mem (R:Nat->Prop) (w:World):(t:Ty)->Addr->t.D->List Addr->Prop
 | .int,a,n,ls=>w.cell? a=some (.int .i64 n)/\ls=[a]
 | .bool,a,b,ls=>w.cell? a=some (.bool b)/\ls=[a]
 | .str,a,s,ls=>w.cell? a=some (.string s)/\ls=[a]
 | .slice t,a,xs,ls=>∃ A c,w.cell? a=some (.slice A xs.length c)/\Elems R (Ty.Mem R w t) t.size A c xs ls
 | .pair t u,a,x,ls=>∃ l1 l2,Ty.Mem R w t a x.1 l1/\Ty.Mem R w u (a.add t.size) x.2 l2/\ls=l1++l2
def Ty.Val (R:Nat->Prop) (w:World):(t:Ty)->List Value->t.D->List Addr->Prop
 | .int,cs,n,ls=>cs=[.int .i64 n]/\ls=[]
 | .bool,cs,b,ls=>cs=[.bool b]/\ls=[]
 | .str,cs,s,ls=>cs=[.string s]/\ls=[]
 | .slice t,cs,xs,ls=>∃ A c,cs=[.slice A xs.length c]/\Elems R (Ty.Mem R w t) t.size A c xs ls
 | .pair t u,cs,x,ls=>∃ c1 c2 l1 l2,cs=c1++c2/\Ty.Val R w t c1 x.1 l1/\Ty.Val R w u c2 x.2 l2/\ls=l1++l2
abbrev Sl (R:Nat->Prop) (w:World) (t:Ty) (A:Option Addr) (c:Nat) (xs:List t.D) (ls:List Addr):Prop:=Elems R (Ty.Mem R w t) t.size A c xs ls
theorem Ty.Val.length {R:Nat->Prop} {w:World}:∀ {t:Ty} {cs:List Value} {x:t.D} {ls:List Addr},Ty.Val R w t cs x ls->cs.length=t.size
 | .int,_,_,_,h=>by rw [h.1];rfl
 | .bool,_,_,_,h=>by rw [h.1];rfl
 | .str,_,_,_,h=>by rw [h.1];rfl
 | .slice _,_,_,_,⟨_,_,h,_⟩=>by rw [h];rfl
 | .pair _ _,_,_,_,⟨_,_,_,_,h,h1,h2,_⟩=>by
  rw [h,List.length_append,Ty.Val.length h1,Ty.Val.length h2];rfl
theorem Ty.Val.mem {R:Nat->Prop} {w:World}:∀ {t:Ty} {cs:List Value} {x:t.D} {ls:List Addr} {a:Addr},Ty.Val R w t cs x ls->(∀ j,j<cs.length->w.cell? (a.add j)=cs[j]?)->∃ bs,Ty.Mem R w t a x bs
 | .int,_,_,_,a,h,hc=>by
  obtain ⟨rfl,_⟩:=h;exact ⟨_,by simpa [Addr.add] using hc 0 (by simp),rfl⟩
 | .bool,_,_,_,a,h,hc=>by
  obtain ⟨rfl,_⟩:=h;exact ⟨_,by simpa [Addr.add] using hc 0 (by simp),rfl⟩
 | .str,_,_,_,a,h,hc=>by
  obtain ⟨rfl,_⟩:=h;exact ⟨_,by simpa [Addr.add] using hc 0 (by simp),rfl⟩
 | .slice t,_,_,ls,a,h,hc=>by
  obtain ⟨A,c,rfl,he⟩:=h;exact ⟨ls,A,c,by simpa [Addr.add] using hc 0 (by simp),he⟩
 | .pair t u,_,x,_,a,h,hc=>by
  obtain ⟨c1,c2,l1,l2,rfl,h1,h2,_⟩:=h
  obtain ⟨b1,m1⟩:=Ty.Val.mem (a:=a) h1 (fun j hj=>by
   rw [hc j (by rw [List.length_append];omega),List.getElem?_append_left hj])
  obtain ⟨b2,m2⟩:=Ty.Val.mem (a:=a.add t.size) h2 (fun j hj=>by
   rw [Bt,hc _ (by rw [List.length_append,h1.length];omega),List.getElem?_append_right (by rw [h1.length];omega),h1.length];congr 1;omega)
  exact ⟨_,b1,b2,m1,m2,rfl⟩
section
variable {H:Type} {enc:TypeId×Value->H} {P:Program} {w:World} {base:Nat} {spare:Nat->Bool} {held:Bool}
end
end
section
open Go.ChangeShapes Go.WideShapes Go.ChangeAt Go.RowKit
theorem Kc {k:IntKind} {a b:Int} (h:a=b):Ending.returned (.int k a)=.returned (.int k b):=by rw [h]
theorem A6 {W w1:World} (hb:Below W.heap.size W w1):(∀ b o,b<W.heap.size->w1.cell? ⟨b,o,none⟩=W.cell? ⟨b,o,none⟩)/\(∀ b o,b<W.heap.size->w1.frozen? ⟨b,o,none⟩=W.frozen? ⟨b,o,none⟩) :=
 ⟨fun b o h=>hb.cell (p:=⟨b,o,none⟩) h,fun b o h=>hb.frozen (p:=⟨b,o,none⟩) h⟩
theorem Ac {w w':World} (h:Below w.heap.size w w') {p:Addr} {u:Value} (hu:w.cell? p=some u):w'.cell? p=some u :=
 (h.cell (World.block_lt_of_cell? w p hu)).trans hu
section
variable {R R':Nat->Prop} {w w':World}
def Stays (R:Nat->Prop) (w w':World) (l:List Addr):Prop :=
 ∀ (p:Addr) (u:Value),R p.block->w.cell? p=some u->(p∈l∨∃ A n c,u=.slice A n c)->w'.cell? p=some u
theorem Stays.sub {l l':List Addr} (h:Stays R w w' l) (hl:∀ p∈l',p∈l):Stays R w w' l' :=
 fun p u hr hc hp=>h p u hr hc (hp.imp (hl p) id)
theorem Stays.below (h:Below w.heap.size w w') (l:List Addr):Stays R w w' l:=fun _ _ _ hc _=>Ac h hc
theorem Elems.keep {α:Type} {M M':Addr->α->List Addr->Prop} {sz:Nat} {A:Option Addr} {c:Nat} {xs:List α} {l:List Addr} (h:Elems R M sz A c xs l)
  (hM:∀ a x k,R a.block->(∀ p∈k,p∈l)->M a x k->M' a x k):Elems R M' sz A c xs l:=by
 obtain ⟨h1,h2,f,rfl,hf⟩:=h;refine ⟨h1,h2,f,rfl,fun h0=>?_⟩;obtain ⟨ad,rfl,hr,hi⟩:=hf h0;exact ⟨ad,rfl,hr,fun i hlt=>hM _ _ _ (by rw [Bl];exact hr) (fun p hp=>List.mem_flatMap.2 ⟨i,by simpa using hlt,hp⟩) (hi i hlt)⟩
theorem Ty.Mem.keep:∀ {t:Ty} {a:Addr} {x:t.D} {l:List Addr},R a.block->Stays R w w' l->Ty.Mem R w t a x l->Ty.Mem R w' t a x l
 | .int,_,_,_,ha,hs,⟨h,e⟩=>⟨hs _ _ ha h (.inl (by rw [e];simp)),e⟩
 | .bool,_,_,_,ha,hs,⟨h,e⟩=>⟨hs _ _ ha h (.inl (by rw [e];simp)),e⟩
 | .str,_,_,_,ha,hs,⟨h,e⟩=>⟨hs _ _ ha h (.inl (by rw [e];simp)),e⟩
 | .slice t,_,_,_,ha,hs,⟨A,c,h,he⟩=>⟨A,c,hs _ _ ha h (.inr ⟨_,_,_,rfl⟩),he.keep fun _ _ _ hr hk hm=>Ty.Mem.keep hr (hs.sub hk) hm⟩
 | .pair t u,a,_,_,ha,hs,⟨l1,l2,h1,h2,e⟩ =>
  ⟨l1,l2,Ty.Mem.keep ha (hs.sub fun p hp=>by rw [e];simp [hp]) h1,Ty.Mem.keep (a:=a.add t.size) (by rw [Bl];exact ha) (hs.sub fun p hp=>by rw [e];simp [hp]) h2,e⟩
theorem Ty.Val.keep:∀ {t:Ty} {cs:List Value} {x:t.D} {l:List Addr},Stays R w w' l->Ty.Val R w t cs x l->Ty.Val R w' t cs x l
 | .int,_,_,_,_,h=>h
 | .bool,_,_,_,_,h=>h
 | .str,_,_,_,_,h=>h
 | .slice t,_,_,_,hs,⟨A,c,h,he⟩=>⟨A,c,h,he.keep fun _ _ _ hr hk hm=>Ty.Mem.keep hr (hs.sub hk) hm⟩
 | .pair t u,_,_,_,hs,⟨c1,c2,l1,l2,hc,h1,h2,e⟩ =>
  ⟨c1,c2,l1,l2,hc,Ty.Val.keep (hs.sub fun p hp=>by rw [e];simp [hp]) h1,Ty.Val.keep (hs.sub fun p hp=>by rw [e];simp [hp]) h2,e⟩
theorem Lx {t:Ty} {A:Option Addr} {c:Nat} {xs:List t.D} {l:List Addr} (h:Sl R w t A c xs l) (hs:Stays R w w' l):Sl R w' t A c xs l :=
 h.keep fun _ _ _ hr hk hm=>Ty.Mem.keep hr (hs.sub hk) hm
theorem Ad {t:Ty} {A:Option Addr} {c:Nat} {xs:List t.D} {l:List Addr} (h:Sl R w t A c xs l) (hb:Below w.heap.size w w'):Sl R w' t A c xs l :=
 Lx h (Stays.below hb l)
theorem J6 {t:Ty} {cs:List Value} {x:t.D} {l:List Addr} (h:Ty.Val R w t cs x l) (hb:Below w.heap.size w w'):Ty.Val R w' t cs x l :=
 h.keep (Stays.below hb l)
theorem Ty.Mem.mono (hR:∀ b,b<w.heap.size->R b->R' b):∀ {t:Ty} {a:Addr} {x:t.D} {l:List Addr},Ty.Mem R w t a x l->Ty.Mem R' w t a x l
 | .int,_,_,_,h=>h
 | .bool,_,_,_,h=>h
 | .str,_,_,_,h=>h
 | .slice t,_,_,_,⟨A,c,h,h1,h2,f,e,hf⟩=>⟨A,c,h,h1,h2,f,e,fun h0=>by
  obtain ⟨ad,e',hr,hi⟩:=hf h0
  have hlt:ad.block<w.heap.size:=by
   have:∀ {t:Ty} {a:Addr} {x:t.D} {l:List Addr},Ty.Mem R w t a x l->a.block<w.heap.size:=by
    intro t
    induction t with
    | int=>exact fun h=>World.block_lt_of_cell? w _ h.1
    | bool=>exact fun h=>World.block_lt_of_cell? w _ h.1
    | str=>exact fun h=>World.block_lt_of_cell? w _ h.1
    | slice t _=>exact fun ⟨_,_,h,_⟩=>World.block_lt_of_cell? w _ h
    | pair a b ha _=>exact fun ⟨_,_,h,_⟩=>ha h
   have:=this (hi 0 h0)
   rwa [Bl] at this
  exact ⟨ad,e',hR _ hlt hr,fun i hlt'=>Ty.Mem.mono hR (hi i hlt')⟩⟩
 | .pair _ _,_,_,_,⟨l1,l2,h1,h2,e⟩=>⟨l1,l2,Ty.Mem.mono hR h1,Ty.Mem.mono hR h2,e⟩
theorem Ty.Mem.lt {t:Ty} {a:Addr} {x:t.D} {l:List Addr} (h:Ty.Mem R w t a x l):a.block<w.heap.size:=by
 induction t generalizing a l with
 | int=>exact World.block_lt_of_cell? w _ h.1
 | bool=>exact World.block_lt_of_cell? w _ h.1
 | str=>exact World.block_lt_of_cell? w _ h.1
 | slice t _=>obtain ⟨_,_,h,_⟩:=h;exact World.block_lt_of_cell? w _ h
 | pair a b ha _=>obtain ⟨_,_,h,_⟩:=h;exact ha h
theorem Ty.Mem.spot {t:Ty} {a:Addr} {x:t.D} {l:List Addr} (h:Ty.Mem R w t a x l):a.spot=none:=by
 induction t generalizing a l with
 | int=>exact World.cell?_spot h.1
 | bool=>exact World.cell?_spot h.1
 | str=>exact World.cell?_spot h.1
 | slice t _=>obtain ⟨_,_,h,_⟩:=h;exact World.cell?_spot h
 | pair a b ha _=>obtain ⟨_,_,h,_⟩:=h;exact ha h
theorem A4 (b o k:Nat):(⟨b,o,none⟩:Addr).add k=⟨b,o+k,none⟩:=by unfold Addr.add;split <;> simp_all
theorem Ab6 {t:Ty} {A:Option Addr} {c:Nat} {xs:List t.D} {l:List Addr} (h:Sl R w t A c xs l) (h0:0<xs.length) :
  ∃ (b o:Nat) (f:Nat->List Addr),A=some ⟨b,o,none⟩/\R b/\b<w.heap.size/\l=(List.range xs.length).flatMap f/\∀ (i:Nat) (hi:i<xs.length),Ty.Mem R w t ⟨b,o+i*t.size,none⟩ xs[i] (f i):=by
 obtain ⟨_,_,f,e,hf⟩:=h;obtain ⟨⟨b,o,s⟩,rfl,hr,hi⟩:=hf h0;obtain rfl:s=none:=by simpa [Addr.add] using (hi 0 h0).spot
 exact ⟨b,o,f,rfl,hr,by simpa [Addr.add] using (hi 0 h0).lt,e,fun i hlt=>by rw [← A4];exact hi i hlt⟩
theorem Al {t:Ty} {A:Option Addr} {c:Nat} {xs:List t.D} {l:List Addr} (hR:∀ b,b<w.heap.size->R b->R' b) (h:Sl R w t A c xs l):Sl R' w t A c xs l:=by
 obtain ⟨h1,h2,f,e,hf⟩:=h;refine ⟨h1,h2,f,e,fun h0=>?_⟩;obtain ⟨ad,e',hr,hi⟩:=hf h0;have hlt:ad.block<w.heap.size:=by have:=(hi 0 h0).lt;rwa [Bl] at this
 exact ⟨ad,e',hR _ hlt hr,fun i hlt'=>(hi i hlt').mono hR⟩
theorem Wp {t:Ty} {A:Option Addr} {c:Nat} {xs:List t.D} {l:List Addr} (h:Sl R w t A c xs l):Sl (fun _=>True) w t A c xs l:=Al (fun _ _ _=>trivial) h
def Kl:Value->Prop
 | .int _ _ | .bool _ | .string _=>True
 | _=>False
theorem Ty.Mem.leaf:∀ {t:Ty} {a:Addr} {x:t.D} {l:List Addr},R a.block->Ty.Mem R w t a x l->∀ p∈l,R p.block/\∃ u,w.cell? p=some u/\Kl u
 | .int,_,_,_,ha,⟨h,e⟩,p,hp=>by subst e;obtain rfl:=List.mem_singleton.1 hp;exact ⟨ha,_,h,trivial⟩
 | .bool,_,_,_,ha,⟨h,e⟩,p,hp=>by subst e;obtain rfl:=List.mem_singleton.1 hp;exact ⟨ha,_,h,trivial⟩
 | .str,_,_,_,ha,⟨h,e⟩,p,hp=>by subst e;obtain rfl:=List.mem_singleton.1 hp;exact ⟨ha,_,h,trivial⟩
 | .slice t,_,_,_,_,⟨A,c,_,h1,h2,f,e,hf⟩,p,hp=>by
  subst e;obtain ⟨i,hi,hpi⟩:=List.mem_flatMap.1 hp;have hi':=List.mem_range.1 hi;obtain ⟨ad,_,hr,hm⟩:=hf oM;exact Ty.Mem.leaf (by rw [Bl];exact hr) (hm i hi') p hpi
 | .pair t u,a,_,_,ha,⟨l1,l2,h1,h2,e⟩,p,hp=>by
  subst e;rcases List.mem_append.1 hp with h|h
  ·exact Ty.Mem.leaf ha h1 p h
  ·exact Ty.Mem.leaf (by rw [Bl];exact ha) h2 p h
theorem Ip {t:Ty} {A:Option Addr} {c:Nat} {xs:List t.D} {l:List Addr} (h:Sl R w t A c xs l):∀ p∈l,R p.block/\∃ u,w.cell? p=some u/\Kl u:=by
 obtain ⟨h1,h2,f,rfl,hf⟩:=h;intro p hp;obtain ⟨i,hi,hpi⟩:=List.mem_flatMap.1 hp;have hi':=List.mem_range.1 hi;obtain ⟨ad,_,hr,hm⟩:=hf oM;exact Ty.Mem.leaf (by rw [Bl];exact hr) (hm i hi') p hpi
theorem Ty.Val.leaf:∀ {t:Ty} {cs:List Value} {x:t.D} {l:List Addr},Ty.Val R w t cs x l->∀ p∈l,R p.block/\∃ u,w.cell? p=some u/\Kl u
 | .int,_,_,_,⟨_,e⟩,p,hp=>by subst e;cases hp
 | .bool,_,_,_,⟨_,e⟩,p,hp=>by subst e;cases hp
 | .str,_,_,_,⟨_,e⟩,p,hp=>by subst e;cases hp
 | .slice t,_,_,_,⟨A,c,_,h⟩,p,hp=>Ip h p hp
 | .pair t u,_,_,_,⟨_,_,l1,l2,_,h1,h2,e⟩,p,hp=>by
  subst e;rcases List.mem_append.1 hp with h|h
  ·exact Ty.Val.leaf h1 p h
  ·exact Ty.Val.leaf h2 p h
end
def Fresh (w:World) (lo:Nat) (l:List Addr):Prop:=l.Nodup/\∀ p∈l,lo<=p.block/\p.block<w.heap.size/\w.frozen? p=false
section
variable {w w':World} {lo mid:Nat} {l l1 l2:List Addr}
theorem Fresh.nil (w:World) (lo:Nat):Fresh w lo []:=⟨List.nodup_nil,fun _ h=>by cases h⟩
theorem Fresh.below (h:Fresh w lo l) (hb:Below w.heap.size w w'):Fresh w' lo l :=
 ⟨h.1,fun p hp=>⟨(h.2 p hp).1,Nat.lt_of_lt_of_le (h.2 p hp).2.1 hb.size,(hb.frozen (h.2 p hp).2.1).trans (h.2 p hp).2.2⟩⟩
theorem Fresh.le (h:Fresh w mid l) (hl:lo<=mid):Fresh w lo l:=⟨h.1,fun p hp=>⟨Nat.le_trans hl (h.2 p hp).1,(h.2 p hp).2⟩⟩
theorem Fresh.append (h1:Fresh w lo l1) (hb:Below w.heap.size w w') (h2:Fresh w' w.heap.size l2) (hlo:lo<=w.heap.size):Fresh w' lo (l1++l2):=by
 refine ⟨List.nodup_append.2 ⟨h1.1,h2.1,fun a ha b hb' e=>?_⟩,fun p hp=>?_⟩
 ·subst e;have:=(h1.2 a ha).2.1;have:=(h2.2 a hb').1;omega
 ·rcases List.mem_append.1 hp with h|h
  ·exact (h1.below hb).2 p h
  ·exact ⟨Nat.le_trans hlo (h2.2 p h).1,(h2.2 p h).2⟩
theorem Fresh.sub1 (h:Fresh w lo (l1++l2)):Fresh w lo l1:=⟨(List.nodup_append.1 h.1).1,fun p hp=>h.2 p (List.mem_append_left _ hp)⟩
theorem Fresh.sub2 (h:Fresh w lo (l1++l2)):Fresh w lo l2:=⟨(List.nodup_append.1 h.1).2.1,fun p hp=>h.2 p (List.mem_append_right _ hp)⟩
end
def Bu (lo:Nat) (b:Nat):Prop:=lo<=b
section
variable {lo mid:Nat} {a w w':World} {l l1 l2:List Addr}
end
structure Marked (S:List Addr) (w w':World):Prop where
 os:w'.os=w.os
 tape:w'.tape=w.tape
 output:w'.output=w.output
 size:w.heap.size<=w'.heap.size
 cell:∀ p,p.block<w.heap.size->p∉S->w'.cell? p=w.cell? p
 frozen:∀ p,p.block<w.heap.size->w'.frozen? p=w.frozen? p
 block:∀ k,k<w.heap.size->(∀ p∈S,p.block≠k)->w'.heap[k]? =w.heap[k]?
section
variable {w w' w'':World} {S S' l:List Addr} {R:Nat->Prop}
theorem Marked.of_below (h:Below w.heap.size w w'):Marked [] w w' :=
 ⟨h.os,h.tape,h.output,h.size,fun _ hp _=>h.cell hp,fun _ hp=>h.frozen hp,fun k hk _=>h.block k hk⟩
theorem Marked.trans (h:Marked S w w') (k:Marked S' w' w''):Marked (S++S') w w'' :=
 ⟨k.os.trans h.os,k.tape.trans h.tape,k.output.trans h.output,Nat.le_trans h.size k.size,
  fun p hp hn=>(k.cell p (Nat.lt_of_lt_of_le hp h.size) (fun hm=>hn (List.mem_append_right _ hm))).trans (h.cell p hp (fun hm=>hn (List.mem_append_left _ hm))),
  fun p hp=>(k.frozen p (Nat.lt_of_lt_of_le hp h.size)).trans (h.frozen p hp),
  fun b hb hn=>(k.block b (Nat.lt_of_lt_of_le hb h.size) (fun p hm=>hn p (List.mem_append_right _ hm))).trans (h.block b hb (fun p hm=>hn p (List.mem_append_left _ hm)))⟩
theorem Marked.setCell (w:World) (p:Addr) (v:Value):Marked [p] w (w.setCell p v) :=
 ⟨rfl,rfl,rfl,by simp [World.setCell],fun q _ hq=>World.cell?_setCell_other _ _ _ _ (fun e=>hq (by rw [e];simp)),fun q _=>World.frozen?_setCell _ _ _ _,
  fun k _ hk=>Below.heap_setCell w p v k (fun e=>hk p (by simp) e.symm)⟩
theorem Marked.stays (h:Marked S w w') (hS:∀ p∈S,∃ u,w.cell? p=some u/\Kl u) (hd:∀ p∈l,p∉S):Stays R w w' l:=by
 intro p u _ hc hp;refine (h.cell p (World.block_lt_of_cell? w p hc) ?_).trans hc;rcases hp with hp|⟨A,n,c,rfl⟩
 ·exact hd p hp
 ·intro hm;obtain ⟨u,hu,hl⟩:=hS p hm;rw [hc] at hu;obtain rfl:=osj hu;exact hl
theorem Marked.below {B:Nat} (h:Marked S w w') (hS:∀ p∈S,B<=p.block) (hB:B<=w.heap.size):Below B w w' :=
 ⟨h.os,h.tape,h.output,h.size,fun k hk=>h.block k oM (fun p hp=>by have:=hS p hp;omega)⟩
theorem Fresh.marked {lo:Nat} (h:Fresh w lo l) (hm:Marked S w w'):Fresh w' lo l :=
 ⟨h.1,fun p hp=>⟨(h.2 p hp).1,Nat.lt_of_lt_of_le (h.2 p hp).2.1 hm.size,(hm.frozen p (h.2 p hp).2.1).trans (h.2 p hp).2.2⟩⟩
end
end
section
open Go.ChangeShapes Go.WideShapes Go.ChangeAt Go.RowKit
section
variable {H:Type} {enc:TypeId×Value->H} {P:Program} {W W':World}
theorem P8 (hl:laidOutB P=true) (hb:Below W.heap.size W W') {sp:Nat->Bool}:∀ {ts:List TypeId} {vs:List Value} {ds:List (DataW H)} {ps:List MemPlace},
  (∀ t∈ts,P.readableRec t=true/\t<P.types.size)->DataW.TrodAll enc P W 0 (fun _=>true) true ts vs ds ps->(∀ x∈ps,x.block<W.heap.size)->(∀ x∈ps,sp x.block=true)->DataW.TrodAll enc P W' 0 sp true ts vs ds ps
 | [],vs,ds,ps,_,h,_,_=>by
  obtain ⟨rfl,rfl,rfl⟩:=trodAll_nil h;exact trodAll_mk0
 | t :: ts,vs,ds,ps,hr,h,hlt,hsp=>by
  cases vs with
  | nil=>cases ds <;> simp [DataW.TrodAll] at h
  | cons v vs =>
   cases ds with
   | nil=>simp [DataW.TrodAll] at h
   | cons d ds =>
    obtain ⟨p,q,h1,h2,rfl⟩:=h;obtain ⟨hrt,htt⟩:=hr t (by simp)
    exact ⟨p,q,WideElems.Trod_stays hl hrt htt h1 (fun x hx=>hb.same (hlt x (List.mem_append_left _ hx))) (fun x hx=>hsp x (List.mem_append_left _ hx)),
     P8 hl hb (fun t ht=>hr t (List.mem_cons_of_mem _ ht)) h2 (fun x hx=>hlt x (List.mem_append_right _ hx)) (fun x hx=>hsp x (List.mem_append_right _ hx)),rfl⟩
theorem Ph (hl:laidOutB P=true) (hb:Below W.heap.size W W') {sp:Nat->Bool}:∀ {ns:List String} {ds:List (DataW H)} {ps:List MemPlace},
  (∀ n∈ns,∀ g t,P.globalNamed n=some g->(P.globals[g]?).map (·.type)=some t->P.readableRec t=true/\t<P.types.size)->DataW.TrodVars enc P W (fun _=>true) ns ds ps->(∀ x∈ps,x.block<W.heap.size)->(∀ x∈ps,sp x.block=true)->DataW.TrodVars enc P W' sp ns ds ps
 | [],ds,ps,_,h,_,_=>by
  obtain ⟨rfl,rfl⟩:=trodVars_none h;rfl
 | n :: ns,ds,ps,hr,h,hlt,hsp=>by
  cases ds with
  | nil=>simp [DataW.TrodVars] at h
  | cons d ds =>
   obtain ⟨g,t,cs,fuel,p,q,h1,h2,h3,h4,h5,rfl⟩:=h;obtain ⟨hrt,htt⟩:=hr n (by simp) g t h1 h2
   have hg:g<W.heap.size:=by
    unfold World.var? at h3;simp only [h1,obs] at h3;rcases Nat.lt_or_ge g W.heap.size with h|h
    ·exact h
    ·rw [Array.getElem?_eq_none h] at h3;simp at h3
   have h3':W'.var? P n=some cs:=by
    unfold World.var? at h3 ⊢;simp only [h1,obs] at h3 ⊢;rw [hb.block g hg];exact h3
   have hlt':∀ x∈p,x.block<W.heap.size:=fun x hx=>hlt x (by simp [hx])
   have hsp':∀ x∈p,sp x.block=true:=fun x hx=>hsp x (by simp [hx])
   have h4':=DataW.trod_stays (kids_book hl hrt) (book_sized hrt) (fun h=>by cases h) ⟨htt,book_self t⟩ h4 (fun x hx=>hb.same (hlt' x hx)) hsp';exact ⟨g,t,cs,fuel,p,q,h1,h2,h3',h4',Ph hl hb (fun n hn=>hr n (List.mem_cons_of_mem _ hn)) h5 (fun x hx=>hlt x (by simp [hx])) (fun x hx=>hsp x (by simp [hx])),rfl⟩
theorem law_post {f:Func} {s:ChangeSpec} {args:Array Value} {ds gs:List (DataW H)} {before:List MemPlace} {tb:TypeId} (hl:laidOutB P=true)
  (hW:DataW.Whole enc P f.params.toList s.vars false W args.toList ds gs before) (hb:Below W.heap.size W W')
  (hs:s.fn H (ds++gs)={ results:=[.lit (.bool true)],args:=ds,vars:=gs }) (hrt:f.resultTypes= #[tb]) (htb:P.underlying tb=some .bool)
  (hp:∀ t∈f.params.toList,P.readableRec t=true/\t<P.types.size)
  (hv:∀ n∈s.vars,∀ g t,P.globalNamed n=some g->(P.globals[g]?).map (·.type)=some t->P.readableRec t=true/\t<P.types.size) :
  s.post enc P f false true false false W args (.bool true) W':=by
 have hlt:∀ p∈before,p.block<W.heap.size:=fun p hp=>hW.lt p hp
 have hold:∀ p∈before,(fun b=>decide (b<W.heap.size)) p.block=true:=fun p hp=>by simpa using hlt p hp
 have hW':=hW;obtain ⟨p,q,hA,hV,rfl,_,_⟩:=hW';refine ⟨ds,gs,p++q,[],p,q,hW,?_,?_,?_,World.keptBut_mono (fun x hx=>⟨hx,?_⟩) (hb.frame (·∈p++q)),fun h=>by cases h⟩
 ·rw [hs,hrt];exact trodAll_mk1 (shut_bool htb _)
 ·rw [hs];exact P8 hl hb hp hA (fun x hx=>hlt x (List.mem_append_left _ hx)) (fun x hx=>hold x (List.mem_append_left _ hx))
 ·rw [hs];exact Ph hl hb hv hV (fun x hx=>hlt x (List.mem_append_right _ hx)) (fun x hx=>hold x (List.mem_append_right _ hx))
 ·exact Or.inr (List.mem_append.1 hx)
end
end
section
open Go.RowKit Go.Deep
theorem My {R:Nat->Prop} {w:World} {t:Ty} {A:Option Addr} {c:Nat} {xs:List t.D} {l:List Addr} (h:Sl R w t A c xs l):xs.length<=c/\xs.length<=9223372036854775807 :=
 ⟨h.1,by have:=h.2.1;have:=h.1;simp only [maxLen] at *;omega⟩
end
section
open Go.RowKit Go.Deep
def Ty.flat:Ty->Bool
 | .int | .bool | .str=>true
 | .slice _=>false
 | .pair a b=>a.flat&&b.flat
def Ty.enc:(t:Ty)->t.D->List Value
 | .int,n=>[.int .i64 n]
 | .bool,b=>[.bool b]
 | .str,s=>[.string s]
 | .slice _,_=>[]
 | .pair a b,x=>a.enc x.1++b.enc x.2
theorem Ty.enc_length:∀ {t:Ty} (x:t.D),t.flat=true->(t.enc x).length=t.size
 | .int,_,_=>rfl
 | .bool,_,_=>rfl
 | .str,_,_=>rfl
 | .slice _,_,h=>by simp [Ty.flat] at h
 | .pair a b,x,h=>by
  simp only [Ty.flat,Bool.and_eq_true] at h;simp only [Ty.enc,List.length_append,Ty.enc_length _ h.1,Ty.enc_length _ h.2,Ty.size]
theorem Ll (a b:Nat) (ad:Addr):(List.range (a+b)).map (ad.add ·)=(List.range a).map (ad.add ·)++(List.range b).map ((ad.add a).add ·):=by
 rw [List.range_add,List.map_append,List.map_map];congr 1;exact List.map_congr_left fun j _=>by simp [Bt]
theorem Ty.mem_flat {R:Nat->Prop} {w:World}:∀ {t:Ty} {a:Addr} {x:t.D},t.flat=true->(∀ j,j<t.size->w.cell? (a.add j)=(t.enc x)[j]?)->Ty.Mem R w t a x ((List.range t.size).map (a.add ·))
 | .int,a,x,_,h=>⟨by simpa [Ty.enc,Addr.add] using h 0 (by simp [Ty.size]),by simp [Ty.size,Addr.add,List.range_succ]⟩
 | .bool,a,x,_,h=>⟨by simpa [Ty.enc,Addr.add] using h 0 (by simp [Ty.size]),by simp [Ty.size,Addr.add,List.range_succ]⟩
 | .str,a,x,_,h=>⟨by simpa [Ty.enc,Addr.add] using h 0 (by simp [Ty.size]),by simp [Ty.size,Addr.add,List.range_succ]⟩
 | .slice _,_,_,hf,_=>by simp [Ty.flat] at hf
 | .pair t u,a,x,hf,h=>by
  simp only [Ty.flat,Bool.and_eq_true] at hf;refine ⟨_,_,Ty.mem_flat hf.1 (fun j hj=>?_),Ty.mem_flat (a:=a.add t.size) hf.2 (fun j hj=>?_),Ll _ _ _⟩
  ·rw [h j (by simp only [Ty.size];omega)];simp only [Ty.enc];rw [List.getElem?_append_left (by rw [Ty.enc_length _ hf.1];exact hj)]
  ·rw [Bt,h _ (by simp only [Ty.size];omega)];simp only [Ty.enc];rw [List.getElem?_append_right (by rw [Ty.enc_length _ hf.1];omega),Ty.enc_length _ hf.1];congr 1;omega
theorem Ty.Mem.flat {R:Nat->Prop} {w:World}:∀ {t:Ty} {a:Addr} {x:t.D} {l:List Addr},t.flat=true->Ty.Mem R w t a x l->(∀ j,j<t.size->w.cell? (a.add j)=(t.enc x)[j]?)/\l=(List.range t.size).map (a.add ·)
 | .int, a, x, l, _, ⟨h, e⟩ => ⟨fun j hj => by obtain rfl : j = 0 := by simp [Ty.size] at hj; omega
                                               simpa [Ty.enc,Addr.add] using h,by simp [e,Ty.size,Addr.add,List.range_succ]⟩
 | .bool, a, x, l, _, ⟨h, e⟩ => ⟨fun j hj => by obtain rfl : j = 0 := by simp [Ty.size] at hj; omega
                                                simpa [Ty.enc,Addr.add] using h,by simp [e,Ty.size,Addr.add,List.range_succ]⟩
 | .str, a, x, l, _, ⟨h, e⟩ => ⟨fun j hj => by obtain rfl : j = 0 := by simp [Ty.size] at hj; omega
                                               simpa [Ty.enc,Addr.add] using h,by simp [e,Ty.size,Addr.add,List.range_succ]⟩
 | .slice _,_,_,_,hf,_=>by simp [Ty.flat] at hf
 | .pair t u,a,x,l,hf,⟨l1,l2,h1,h2,e⟩=>by
  simp only [Ty.flat,Bool.and_eq_true] at hf;obtain ⟨c1,rfl⟩:=Ty.Mem.flat hf.1 h1;obtain ⟨c2,rfl⟩:=Ty.Mem.flat hf.2 h2;refine ⟨fun j hj=>?_,e.trans (Ll _ _ _).symm⟩;simp only [Ty.enc];by_cases h:j<t.size
  ·rw [c1 j h,List.getElem?_append_left (by rw [Ty.enc_length _ hf.1];exact h)]
  ·rw [List.getElem?_append_right (by rw [Ty.enc_length _ hf.1];omega),Ty.enc_length _ hf.1,← c2 (j - t.size) (by simp only [Ty.size] at hj;omega),Bt];congr 2;omega
section
variable {R:Nat->Prop} {w:World} {t:Ty} {A:Option Addr} {c:Nat} {xs:List t.D} {l:List Addr}
theorem We (g n c:Nat):(List.range n).flatMap (fun i=>(List.range c).map (((⟨g,0,none⟩:Addr).add (i*c)).add ·))=(List.range (n*c)).map fun j=>(⟨g,j,none⟩:Addr):=by
 induction n with
 | zero=>simp
 | succ n ih =>
  rw [List.range_succ,List.flatMap_append,ih,Nat.succ_mul,List.range_add,List.map_append,List.map_map];congr 1;simp only [List.flatMap_cons,List.flatMap_nil,List.append_nil];refine List.map_congr_left fun j _=>?_
  rw [Bt];simp only [Function.comp_apply,Addr.add];split <;> simp_all
end
end
section
open Go.RowKit Go.Deep
def Agg (n:Nat) (acc:List UInt8):List UInt8:=if h:n=0 then acc else Agg (n / 10) (UInt8.ofNat (48+n % 10) :: acc)
termination_by n
decreasing_by omega
def Agz (k:Int):ByteArray:=⟨(109 :: if k<=0 then [48] else Agg k.toNat []).toArray⟩
def Nu:Value->Int->Value
 | .int ik _,n=>.int ik n
 | .bool _,n=>.bool (decide (n % 3=0))
 | .string _,n=>.string (Agz n)
 | v,_=>v
theorem Ox {P:Program} {f:FuncId} {args args':Array Value} {w:World} {Q:Ending->World->Prop} (h:args'=args) (H:Calls P f args w Q):Calls P f args' w Q:=h▸H
structure MarkedAs (l:List Addr) (k:Int) (w w':World):Prop where
 frame:Marked l w w'
 val:∀ (i:Nat) (h:i<l.length),∃ u,w.cell? l[i]=some u/\Kl u/\w'.cell? l[i]=some (Nu u (k+i))
def HeldAs (l:List Addr) (k:Int) (w:World):Prop:=∀ (i:Nat) (h:i<l.length),∃ u,Kl u/\w.cell? l[i]=some (Nu u (k+i))
section
variable {R:Nat->Prop} {w w1 w2 w':World} {k:Int} {lo:Nat} {l l1 l2:List Addr}
theorem MarkedAs.nil (w:World) (k:Int):MarkedAs [] k w w:=⟨Marked.of_below (Below.refl _ _),fun i h=>absurd h (by simp)⟩
theorem MarkedAs.held (h:MarkedAs l k w w'):HeldAs l k w':=fun i hi=>by
 obtain ⟨u,_,hl,hc⟩:=h.val i hi;exact ⟨u,hl,hc⟩
theorem HeldAs.below (h:HeldAs l k w) (hb:Below w.heap.size w w'):HeldAs l k w':=fun i hi=>by
 obtain ⟨u,hl,hc⟩:=h i hi;exact ⟨u,hl,Ac hb hc⟩
theorem HeldAs.left (h:HeldAs (l1++l2) k w):HeldAs l1 k w:=fun i hi=>by
 have:=h i (by rw [List.length_append];omega)
 rwa [List.getElem_append_left hi] at this
theorem HeldAs.right (h:HeldAs (l1++l2) k w):HeldAs l2 (k+l1.length) w:=fun i hi=>by
 have:=h (l1.length+i) (by rw [List.length_append];omega);rw [List.getElem_append_right oM] at this;simp only [Nat.add_sub_cancel_left,Int.natCast_add] at this
 rwa [← Int.add_assoc] at this
theorem MarkedAs.after (hb:Below w.heap.size w w1) (h:MarkedAs l k w1 w2) (hl:∀ p∈l,p.block<w.heap.size):MarkedAs l k w w2:=by
 refine ⟨by simpa using (Marked.of_below hb).trans h.frame,fun i hi=>?_⟩;obtain ⟨u,hc,hu,hm⟩:=h.val i hi;exact ⟨u,(hb.cell (hl _ (List.getElem_mem hi))).symm.trans hc,hu,hm⟩
theorem MarkedAs.append (h1:MarkedAs l1 k w w1) (h2:MarkedAs l2 (k+l1.length) w1 w2) (hf:Fresh w lo (l1++l2)):MarkedAs (l1++l2) k w w2:=by
 have hd:=(List.nodup_append.1 hf.1).2.2;refine ⟨h1.frame.trans h2.frame,fun i hi=>?_⟩;by_cases h:i<l1.length
 ·rw [List.getElem_append_left h];obtain ⟨u,hc,hl,hm⟩:=h1.val i h;refine ⟨u,hc,hl,(h2.frame.cell _ (World.block_lt_of_cell? w1 _ hm) fun hp=>?_).trans hm⟩;exact hd _ (List.getElem_mem h) _ hp rfl
 ·rw [List.getElem_append_right oM];have hi2:i - l1.length<l2.length:=by rw [List.length_append] at hi;omega
  obtain ⟨u,hc,hl,hm⟩:=h2.val (i - l1.length) hi2;have hp:l2[i - l1.length]∈l2:=List.getElem_mem hi2;refine ⟨u,(h1.frame.cell _ (hf.2 _ (List.mem_append_right _ hp)).2.1 fun hq=>hd _ hq _ hp rfl).symm.trans hc,hl,?_⟩;rw [hm];congr 2;omega
theorem MarkedAs.cellOf {j i:Nat} {u:Value} (h:MarkedAs (l.take j) k w w1) (hf:Fresh w lo l) (hj:j<=i) (hi:i<l.length) (hu:w.cell? l[i]=some u):w1.cell? l[i]=some u:=by
 refine (h.frame.cell _ (World.block_lt_of_cell? w _ hu) fun hp=>?_).trans hu;obtain ⟨q,hq,he⟩:=List.mem_take_iff_getElem.1 hp;have:=(List.getElem_inj hf.1).1 he;omega
theorem MarkedAs.thaw (h:MarkedAs l1 k w w1) (hf:Fresh w lo l) {p:Addr} (hp:p∈l):w1.frozen? p=false :=
 (h.frame.frozen _ (hf.2 _ hp).2.1).trans (hf.2 _ hp).2.2
theorem MarkedAs.step {j:Nat} {u:Value} (h:MarkedAs (l.take j) k w w1) (hf:Fresh w lo l) (hj:j<l.length) (hu:w.cell? l[j]=some u) (hl:Kl u) {p:Addr} {v:Value} (hp:p=l[j]) (hv:v=Nu u (k+j)) :
  MarkedAs (l.take (j+1)) k w (w1.setCell p v):=by
 subst hp hv;have hc:=h.cellOf hf (Nat.le_refl j) hj hu;rw [List.take_succ_eq_append_getElem hj];refine h.append (lo:=lo) ⟨Marked.setCell w1 l[j] _,fun i hi=>?_⟩ ?_
 ·obtain rfl:i=0:=by simp at hi;omega
  refine ⟨u,hc,hl,?_⟩;have hlen:(l.take j).length=j:=by rw [List.length_take];omega
  simp only [List.getElem_singleton,hlen];rw [World.cell?_setCell_same _ _ _ hc];simp
 ·rw [← List.take_succ_eq_append_getElem hj];exact ⟨hf.1.sublist (List.take_sublist _ _),fun p hp=>hf.2 p (List.mem_of_mem_take hp)⟩
theorem MarkedAs.size (h:MarkedAs l k w w'):w.heap.size<=w'.heap.size:=h.frame.size
theorem MarkedAs.belowAt {B:Nat} (h:MarkedAs l k w w') (hl:∀ p∈l,B<=p.block) (hB:B<=w.heap.size):Below B w w':=h.frame.below hl hB
theorem Ty.Mem.remark (hk:∀ p u,w.cell? p=some u->(¬ Kl u->w'.cell? p=some u)/\(∀ k n,u=.int k n->∃ m,w'.cell? p=some (.int k m))/\(∀ b,u=.bool b->∃ c,w'.cell? p=some (.bool c))/\(∀ s,u=.string s->∃ t,w'.cell? p=some (.string t))) :
  ∀ {t:Ty} {a:Addr} {x:t.D} {l:List Addr},Ty.Mem R w t a x l->∃ y:t.D,Ty.Mem R w' t a y l/\(∀ (u:Ty) (e:t=.slice u) ,(cast (by rw [e]) y:(Ty.slice u).D).length=(cast (by rw [e]) x:(Ty.slice u).D).length)
 | .int,a,x,l,⟨h,e⟩=>by
  obtain ⟨m,hm⟩:=(hk _ _ h).2.1 _ _ rfl;exact ⟨m,⟨hm,e⟩,fun u e=>by cases e⟩
 | .bool,a,x,l,⟨h,e⟩=>by
  obtain ⟨m,hm⟩:=(hk _ _ h).2.2.1 _ rfl;exact ⟨m,⟨hm,e⟩,fun u e=>by cases e⟩
 | .str,a,x,l,⟨h,e⟩=>by
  obtain ⟨m,hm⟩:=(hk _ _ h).2.2.2 _ rfl;exact ⟨m,⟨hm,e⟩,fun u e=>by cases e⟩
 | .slice t,a,x,l,⟨A,c,h,h1,h2,f,e,hf⟩=>by
  have hc:=(hk _ _ h).1 (fun hl=>hl)
  have hex:∀ i,i<x.length->∃ d:t.D,Ty.Mem R w' t ((A.getD default).add (i*t.size)) d (f i):=by
   intro i hi;obtain ⟨ad,rfl,hr,hm⟩:=hf oM;obtain ⟨d,hd,_⟩:=Ty.Mem.remark hk (hm i hi);exact ⟨d,hd⟩
  have hg:∃ g:Nat->t.D,∀ i,i<x.length->Ty.Mem R w' t ((A.getD default).add (i*t.size)) (g i) (f i):=by
   rcases Nat.eq_zero_or_pos x.length with h0|h0
   ·exact ⟨fun _=>Ty.dflt t,fun i hi'=>absurd hi' oM⟩
   ·have:Inhabited t.D:=⟨(hex 0 h0).choose⟩
    exact Deep.choose_lt hex
  obtain ⟨g,hg⟩:=hg;have hlen:((List.range x.length).map g).length=x.length:=by simp
  refine ⟨((List.range x.length).map g:List t.D),⟨A,c,by rw [hlen];exact hc,by rw [hlen];exact h1,h2,f,by rw [hlen];exact e,fun h0=>?_⟩,fun u e=>by cases e;simp⟩;rw [hlen] at h0;obtain ⟨ad,rfl,hr,hm⟩:=hf h0;refine ⟨ad,rfl,hr,fun i hi=>?_⟩;rw [hlen] at hi
  simpa using hg i hi
 | .pair t u,a,x,l,⟨l1,l2,h1,h2,e⟩=>by
  obtain ⟨y1,m1,_⟩:=Ty.Mem.remark hk h1;obtain ⟨y2,m2,_⟩:=Ty.Mem.remark hk h2;exact ⟨(y1,y2),⟨l1,l2,m1,m2,e⟩,fun u e=>by cases e⟩
theorem MarkedAs.kinds (h:MarkedAs l k w w'):∀ p u,w.cell? p=some u->(¬ Kl u->w'.cell? p=some u)/\(∀ k n,u=.int k n->∃ m,w'.cell? p=some (.int k m))/\(∀ b,u=.bool b->∃ c,w'.cell? p=some (.bool c))/\(∀ s,u=.string s->∃ t,w'.cell? p=some (.string t)):=by
 intro p u hc;have hlt:=World.block_lt_of_cell? w p hc;by_cases hp:p∈l
 ·obtain ⟨i,hi,rfl⟩:=List.mem_iff_getElem.1 hp;obtain ⟨u',hu',hl,hm⟩:=h.val i hi;rw [hc] at hu';obtain rfl:=osj hu';refine ⟨fun hn=>absurd hl hn,?_,?_,?_⟩
  ·rintro q n rfl;exact ⟨_,hm⟩
  ·rintro b rfl;exact ⟨_,hm⟩
  ·rintro b rfl;exact ⟨_,hm⟩
 ·have hs:=(h.frame.cell p hlt hp).trans hc;refine ⟨fun _=>hs,?_,?_,?_⟩
  ·rintro q n rfl;exact ⟨_,hs⟩
  ·rintro b rfl;exact ⟨_,hs⟩
  ·rintro b rfl;exact ⟨_,hs⟩
theorem MarkedAs.keepSl {t:Ty} {A:Option Addr} {c:Nat} {xs:List t.D} {l':List Addr} (h:MarkedAs l k w w') (hs:Sl R w t A c xs l') (hd:∀ p∈l',p∉l):Sl R w' t A c xs l' :=
 Lx hs (h.frame.stays (fun p hp=>by
  obtain ⟨i,hi,rfl⟩:=List.mem_iff_getElem.1 hp;obtain ⟨u,hu,hl,_⟩:=h.val i hi;exact ⟨u,hu,hl⟩) hd)
theorem MarkedAs.sl {t:Ty} {A:Option Addr} {c:Nat} {xs:List t.D} {l':List Addr} (h:MarkedAs l k w w') (hs:Sl R w t A c xs l'):∃ ys:List t.D,ys.length=xs.length/\Sl R w' t A c ys l':=by
 obtain ⟨h1,h2,f,e,hf⟩:=hs
 have hex:∀ i,i<xs.length->∃ d:t.D,Ty.Mem R w' t ((A.getD default).add (i*t.size)) d (f i):=by
  intro i hi;obtain ⟨ad,rfl,hr,hm⟩:=hf oM;obtain ⟨d,hd,_⟩:=Ty.Mem.remark h.kinds (hm i hi);exact ⟨d,hd⟩
 have hg:∃ g:Nat->t.D,∀ i,i<xs.length->Ty.Mem R w' t ((A.getD default).add (i*t.size)) (g i) (f i):=by
  rcases Nat.eq_zero_or_pos xs.length with h0|h0
  ·exact ⟨fun _=>Ty.dflt t,fun i hi'=>absurd hi' oM⟩
  ·have:Inhabited t.D:=⟨(hex 0 h0).choose⟩
   exact Deep.choose_lt hex
 obtain ⟨g,hg⟩:=hg;have hlen:((List.range xs.length).map g).length=xs.length:=by simp
 refine ⟨(List.range xs.length).map g,hlen,by rw [hlen];exact h1,h2,f,by rw [hlen];exact e,fun h0=>?_⟩;rw [hlen] at h0;obtain ⟨ad,rfl,hr,hm⟩:=hf h0;refine ⟨ad,rfl,hr,fun i hi=>?_⟩;rw [hlen] at hi
 simpa using hg i hi
end
def Ty.cnt:(t:Ty)->t.D->Nat
 | .int,_ | .bool,_ | .str,_=>1
 | .slice t,xs=>(xs.map (Ty.cnt t)).sum
 | .pair a b,x=>Ty.cnt a x.1+Ty.cnt b x.2
theorem Nh {α:Type} (f:Nat->List Addr) (g:α->Nat) (xs:List α) (h:∀ (i:Nat) (hi:i<xs.length),(f i).length=g xs[i]):((List.range xs.length).flatMap f).length=(xs.map g).sum:=by
 have:(List.range xs.length).map (fun i=>(f i).length)=xs.map g:=by
  refine List.ext_getElem (by simp) fun i h1 h2=>?_
  simp only [List.length_map,List.length_range] at h1
  simpa using h i h1
 rw [List.length_flatMap,this]
theorem Ty.Mem.cnt {R:Nat->Prop} {w:World}:∀ {t:Ty} {a:Addr} {x:t.D} {l:List Addr},Ty.Mem R w t a x l->l.length=t.cnt x
 | .int,_,_,_,⟨_,e⟩=>by rw [e];rfl
 | .bool,_,_,_,⟨_,e⟩=>by rw [e];rfl
 | .str,_,_,_,⟨_,e⟩=>by rw [e];rfl
 | .slice t,_,x,_,⟨A,c,_,_,_,f,e,hf⟩=>by
  rw [e]
  exact Nh f _ x fun i hi=>by
   obtain ⟨ad,_,_,hm⟩:=hf oM;exact Ty.Mem.cnt (hm i hi)
 | .pair a b,_,x,_,⟨l1,l2,h1,h2,e⟩=>by
  rw [e,List.length_append,Ty.Mem.cnt h1,Ty.Mem.cnt h2];rfl
theorem Xd {R:Nat->Prop} {w:World} {t:Ty} {A:Option Addr} {c:Nat} {xs:List t.D} {l:List Addr} (h:Sl R w t A c xs l):l.length=(xs.map t.cnt).sum:=by
 obtain ⟨_,_,f,e,hf⟩:=h;rw [e]
 exact Nh f _ xs fun i hi=>by
  obtain ⟨ad,_,_,hm⟩:=hf oM;exact (hm i hi).cnt
theorem Ty.cnt_flat:∀ {t:Ty} (x:t.D),t.flat=true->t.cnt x=t.size
 | .int,_,_=>rfl
 | .bool,_,_=>rfl
 | .str,_,_=>rfl
 | .slice _,_,h=>by simp [Ty.flat] at h
 | .pair a b,x,h=>by
  simp only [Ty.flat,Bool.and_eq_true] at h;simp only [Ty.cnt,Ty.cnt_flat _ h.1,Ty.cnt_flat _ h.2,Ty.size]
theorem Kn {R:Nat->Prop} {w:World} {t:Ty} {A:Option Addr} {c:Nat} {xs:List t.D} {l:List Addr} (hfl:t.flat=true) (h:Sl R w t A c xs l) (h0:0<xs.length) :
  ∃ b o,A=some ⟨b,o,none⟩/\l=(List.range (xs.length*t.size)).map (fun j=>(⟨b,o+j,none⟩:Addr))/\∀ (i:Nat) (hi:i<xs.length) (j:Nat),j<t.size->w.cell? ⟨b,o+(i*t.size+j),none⟩=(t.enc xs[i])[j]?:=by
 obtain ⟨b,o,f,rfl,hr,_,e,hf⟩:=Ab6 h h0;refine ⟨b,o,rfl,?_,fun i hi j hj=>?_⟩
 ·rw [e]
  have:∀ n,n<=xs.length->(List.range n).flatMap f=(List.range (n*t.size)).map (fun j=>(⟨b,o+j,none⟩:Addr)):=by
   intro n
   induction n with
   | zero=>intro _;simp
   | succ n ih =>
    intro hn;rw [List.range_succ,List.flatMap_append,ih oM,Nat.succ_mul,List.range_add,List.map_append,List.map_map];congr 1;simp only [List.flatMap_cons,List.flatMap_nil,List.append_nil];rw [((hf n oM).flat hfl).2];refine List.map_congr_left fun j _=>?_
    rw [A4];simp [Nat.add_assoc]
  exact this _ (Nat.le_refl _)
 ·have:=((hf i hi).flat hfl).1 j hj
  rwa [A4,Nat.add_assoc] at this
theorem Nd {R:Nat->Prop} {w:World} {t:Ty} {A:Option Addr} {c:Nat} {xs:List t.D} {l:List Addr} (hfl:t.flat=true) (h:Sl R w t A c xs l):l.length=xs.length*t.size:=by
 rw [Xd h];have:xs.map t.cnt=xs.map (fun _=>t.size):=List.map_congr_left fun x _=>Ty.cnt_flat x hfl
 rw [this,List.map_const',List.sum_replicate_nat]
end
section
open Go.RowKit Go.Deep
def Ty.cells (t:Ty) (xs:List t.D):List Value:=xs.flatMap t.enc
theorem Ty.cells_length {t:Ty} (hfl:t.flat=true) (xs:List t.D):(t.cells xs).length=xs.length*t.size:=by
 unfold Ty.cells;rw [List.length_flatMap];have:xs.map (fun x=>(t.enc x).length)=xs.map (fun _=>t.size):=List.map_congr_left fun x _=>Ty.enc_length x hfl
 rw [this,List.map_const',List.sum_replicate_nat]
theorem Ty.cells_append (t:Ty) (xs ys:List t.D):t.cells (xs++ys)=t.cells xs++t.cells ys:=by simp [Ty.cells]
theorem Ty.cells_get {t:Ty} (hfl:t.flat=true):∀ (xs:List t.D) (i:Nat) (hi:i<xs.length) (j:Nat),j<t.size->(t.cells xs)[i*t.size+j]? =(t.enc xs[i])[j]?
 | [],i,hi,_,_=>absurd hi (by simp)
 | x :: r,0,_,j,hj=>by
  simp only [Ty.cells,List.flatMap_cons,Nat.zero_mul,Nat.zero_add,List.getElem_cons_zero];rw [List.getElem?_append_left (by rw [Ty.enc_length _ hfl];exact hj)]
 | x :: r,i+1,hi,j,hj=>by
  simp only [Ty.cells,List.flatMap_cons,List.getElem_cons_succ];rw [List.getElem?_append_right (by rw [Ty.enc_length _ hfl,Nat.succ_mul];omega),Ty.enc_length _ hfl];rw [show (i+1)*t.size+j - t.size=i*t.size+j by rw [Nat.succ_mul];omega];exact Ty.cells_get hfl r i (by simpa using hi) j hj
theorem Ty.enc_one:∀ {t:Ty} (x:t.D),∀ u∈t.enc x,u.oneCell'=true
 | .int,_,u,h=>by obtain rfl:=List.mem_singleton.1 h;rfl
 | .bool,_,u,h=>by obtain rfl:=List.mem_singleton.1 h;rfl
 | .str,_,u,h=>by obtain rfl:=List.mem_singleton.1 h;rfl
 | .slice _,_,u,h=>by cases h
 | .pair a b,x,u,h=>by
  rcases List.mem_append.1 h with h|h
  ·exact Ty.enc_one _ u h
  ·exact Ty.enc_one _ u h
theorem Ty.cells_one {t:Ty} (xs:List t.D):∀ u∈t.cells xs,u.oneCell'=true:=fun u h=>by
 obtain ⟨x,_,hu⟩:=List.mem_flatMap.1 h;exact Ty.enc_one x u hu
theorem Bh {w:World} {p:Addr} {u:Value} (o:Obj) (h:w.cell? p=some u):(w.alloc o).cell? p=some u:=(World.cell?_alloc_lt _ _ _ (World.block_lt_of_cell? w p h)).trans h
section
variable {w:World} {lo:Nat} {e:TypeId} {t:Ty} {v:Value} {n:Nat} {xs:List t.D}
variable {P:Program} {ops:Array Oper} {rest:List Oper} {o:Oper} {a:Act} {Q:Exit->Act->World->Prop}
end
end
section
open Go.RowKit Go.Deep Go.ChangeMaps Go.MapKept
section
variable {V:Type}
def Dv (es:List (Int×V)) (k:Int):Option V:=(es.find? fun e=>e.1==k).map (·.2)
def I5 (es:List (Int×V)) (k:Int):List (Int×V):=es.filter fun e=> !(e.1==k)
def Nv (es:List (Int×V)) (k:Int) (v:V):List (Int×V):=(k,v) :: I5 es k
theorem Ko (es:List (Int×V)) (k:Int) (v:V):Dv (Nv es k v) k=some v:=by simp [Dv,Nv]
theorem Hc {es:List (Int×V)} {k k':Int} (h:k'≠k):Dv (I5 es k) k'=Dv es k':=by
 unfold Dv I5;rw [List.find?_filter];congr 1;refine congrArg (fun f=>es.find? f) (funext fun e=>?_);by_cases he:e.1=k'
 ·have:(e.1==k)=false:=beq_eq_false_iff_ne.2 (by rw [he];exact h);simp [he,h]
 ·simp [he]
theorem Jr {es:List (Int×V)} {k k':Int} {v:V} (h:k'≠k):Dv (Nv es k v) k'=Dv es k':=by
 have h1:=Hc (es:=es) h;unfold Nv;rw [← h1];unfold Dv;rw [List.find?_cons_of_neg (by simpa using fun e=>h e.symm)]
theorem Kp (es:List (Int×V)) (k:Int):Dv (I5 es k) k=none:=by
 unfold Dv I5;rw [Option.map_eq_none_iff,List.find?_eq_none];intro e he;have:=(List.mem_filter.1 he).2
 simpa using this
theorem Rv (es:List (Int×V)) (k:Int):(I5 es k).map (·.1)=(es.map (·.1)).filter fun x=> !(x==k):=by
 unfold I5;rw [List.filter_map];rfl
theorem Yu {es:List (Int×V)} (h:(es.map (·.1)).Nodup) (k:Int):((I5 es k).map (·.1)).Nodup:=by
 rw [Rv];exact h.filter _
theorem Adx {es:List (Int×V)} (h:(es.map (·.1)).Nodup) (k:Int) (v:V):((Nv es k v).map (·.1)).Nodup:=by
 unfold Nv;rw [List.map_cons,List.nodup_cons];refine ⟨fun hm=>?_,Yu h k⟩;rw [Rv] at hm;have:=(List.mem_filter.1 hm).2;simp at this
theorem Qw:∀ {es:List (Int×V)} (k:Int),(es.map (·.1)).Nodup->(I5 es k).length+(if (Dv es k).isSome then 1 else 0)=es.length
 | [],k,_=>rfl
 | (x,v) :: r,k,h=>by
  rw [List.map_cons,List.nodup_cons] at h;have ih:=Qw k h.2;by_cases hx:x=k
  ·subst hx
   have hn:Dv r x=none:=by
    unfold Dv;rw [Option.map_eq_none_iff,List.find?_eq_none];intro e he hb;rw [beq_iff_eq] at hb;exact h.1 (List.mem_map.2 ⟨e,he,hb⟩)
   rw [hn] at ih;have h1:Dv ((x,v) :: r) x=some v:=by simp [Dv]
   have h2:I5 ((x,v) :: r) x=I5 r x:=by simp [I5]
   rw [h1,h2];simp at ih ⊢;omega
  ·have h1:Dv ((x,v) :: r) k=Dv r k:=by
    unfold Dv;rw [List.find?_cons_of_neg (by simpa using hx)]
   have h2:I5 ((x,v) :: r) k=(x,v) :: I5 r k:=by
    unfold I5;rw [List.filter_cons_of_pos (by simpa using hx)]
   rw [h1,h2,List.length_cons,List.length_cons];omega
end
def Jo:(t:Ty)->t.D->DataW Unit
 | .int,n=>.lit (.int .i64 n)
 | .bool,b=>.lit (.bool b)
 | .pair .int .int,x=>.agg [.lit (.int .i64 x.1),.lit (.int .i64 x.2)]
 | _,_=>.agg []
theorem Ub:∀ {x y x' y':Nat},2 ^ x*(2*y+1)=2 ^ x'*(2*y'+1)->x=x'/\y=y'
 | 0,y,0,y',h=>by simp at h;omega
 | 0,y,x'+1,y',h=>by
  have e:2 ^ (x'+1)*(2*y'+1)=2*(2 ^ x'*(2*y'+1)):=by rw [Nat.pow_succ,Nat.mul_comm (2 ^ x') 2,Nat.mul_assoc]
  rw [e] at h;generalize 2 ^ x'*(2*y'+1)=z at h;simp at h;omega
 | x+1,y,0,y',h=>by
  have e:2 ^ (x+1)*(2*y+1)=2*(2 ^ x*(2*y+1)):=by rw [Nat.pow_succ,Nat.mul_comm (2 ^ x) 2,Nat.mul_assoc]
  rw [e] at h;generalize 2 ^ x*(2*y+1)=z at h;simp at h;omega
 | x+1,y,x'+1,y',h=>by
  have e:∀ x y,2 ^ (x+1)*(2*y+1)=2*(2 ^ x*(2*y+1)):=fun x y=>by rw [Nat.pow_succ,Nat.mul_comm (2 ^ x) 2,Nat.mul_assoc]
  rw [e,e] at h;have:=Ub (Nat.eq_of_mul_eq_mul_left (by decide) h);exact ⟨by omega,this.2⟩
def zig:Int->Nat
 | .ofNat n=>2*n
 | .negSucc n=>2*n+1
theorem S8:∀ {x y:Int},zig x=zig y->x=y
 | .ofNat _,.ofNat _,h=>by simp only [zig] at h;congr 1;omega
 | .ofNat _,.negSucc _,h=>by simp only [zig] at h;omega
 | .negSucc _,.ofNat _,h=>by simp only [zig] at h;omega
 | .negSucc _,.negSucc _,h=>by simp only [zig] at h;congr 1;omega
def Aaf (x:Int×Int×Int):Int:=((2 ^ zig x.1*(2*(2 ^ zig x.2.1*(2*zig x.2.2+1))+1):Nat):Int)
theorem Aan {x y:Int×Int×Int} (h:Aaf x=Aaf y):x=y:=by
 have h1:=Ub (Int.ofNat.inj h);have h2:=Ub h1.2;obtain ⟨a,b,c⟩:=x;obtain ⟨a',b',c'⟩:=y;have e1:a=a':=S8 h1.1;have e2:b=b':=S8 h2.1;have e3:c=c':=S8 h2.2;rw [e1,e2,e3]
def Zw (a b c:Int):Int:=Aaf (a,b,c)
open Classical in
noncomputable def Abg (k:Int):Int×Int×Int:=if h:∃ x,Aaf x=k then Classical.choose h else (0,0,0)
theorem P7 (a b c:Int):Abg (Zw a b c)=(a,b,c):=by
 have h:∃ x,Aaf x=Zw a b c:=⟨(a,b,c),rfl⟩
 rw [Abg,dif_pos h];exact Aan (Classical.choose_spec h)
def H4 (n:Int):Prop:= -9223372036854775808<=n/\n<=9223372036854775807
instance (n:Int):Decidable (H4 n):=inferInstanceAs (Decidable (_/\_))
theorem Td {n:Int} (h:H4 n):(Lit.int .i64 n).wf=true:=by
 obtain ⟨h1,h2⟩:=h;simp [Lit.wf,IntKind.min,IntKind.max,IntKind.signed,IntKind.bits];omega
def Su:List UInt8->Nat
 | []=>0
 | c :: l=>257*Su l+(c.toNat+1)
theorem Uc:∀ {l m:List UInt8},Su l=Su m->l=m
 | [],[],_=>rfl
 | [],c :: m,h=>by simp only [Su] at h;omega
 | c :: l,[],h=>by simp only [Su] at h;omega
 | c :: l,d :: m,h=>by
  simp only [Su] at h;have hc:=c.toNat_lt;have hd:=d.toNat_lt;have h1:Su l=Su m:=by omega
  have h2:c.toNat=d.toNat:=by omega
  rw [Uc h1,UInt8.toNat_inj.1 h2]
def Th (s:ByteArray):Int:=((Su s.data.toList:Nat):Int)
theorem Aa1 {s u:ByteArray} (h:Th s=Th u):s=u:=by
 have:=Uc (Int.ofNat.inj h);cases s;cases u
 simpa using this
open Classical in
noncomputable def Afc (k:Int):ByteArray:=if h:∃ x,Th x=k then Classical.choose h else ByteArray.empty
theorem P3 (s:ByteArray):Afc (Th s)=s:=by
 have h:∃ x,Th x=Th s:=⟨s,rfl⟩
 rw [Afc,dif_pos h];exact Aa1 (Classical.choose_spec h)
def KG (s:Option Bool) (k:Int):Prop :=
 match s with
 | none=>∃ x:ByteArray,x.size<=maxLen/\k=Th x
 | some true=>∃ a b c,H4 a/\H4 b/\H4 c/\k=Zw a b c
 | some false=>H4 k
noncomputable def kv (s:Option Bool) (k:Int):Value :=
 match s with
 | none=>.string (Afc k)
 | some true=>.agg #[.int .i64 (Abg k).1,.int .i64 (Abg k).2.1,.int .i64 (Abg k).2.2]
 | some false=>.int .i64 k
theorem Afx {s:Option Bool} {k k':Int} (h:KG s k) (h':KG s k') (he:kv s k=kv s k'):k=k':=by
 match s,h,h',he with
 | none,⟨x,_,e⟩,⟨y,_,e'⟩,he =>
  subst e e';simp only [kv,P3,Value.string.injEq] at he;rw [he]
 | some false,_,_,he=>simp only [kv,Value.int.injEq,true_and] at he;exact he
 | some true,⟨a,b,c,_,_,_,e⟩,⟨a',b',c',_,_,_,e'⟩,he =>
  subst e e';simp only [kv,P7] at he;simp at he;obtain ⟨rfl,rfl,rfl⟩:=he;rfl
structure KeyTy (P:Program) (kt:TypeId) (s:Option Bool):Prop where
 keyed:Maps.Keyed P kt
 lit:∀ k,KG s k->∃ l,keyOf P kt (kv s k)=some l
noncomputable def kl (P:Program) (kt:TypeId) (s:Option Bool) (k:Int):Lit:=(keyOf P kt (kv s k)).getD .nil
section
variable {P:Program} {kt:TypeId} {s:Option Bool}
theorem KeyTy.at (h:KeyTy P kt s) {k:Int} (hk:KG s k):keyOf P kt (kv s k)=some (kl P kt s k):=by
 obtain ⟨l,hl⟩:=h.lit k hk;rw [kl,hl];rfl
theorem KeyTy.ne (h:KeyTy P kt s) {k k':Int} (hk:KG s k) (hk':KG s k') (hne:k'≠k):kl P kt s k'≠kl P kt s k:=fun e =>
 hne (Afx hk' hk (h.keyed.inj (h.at hk') (e▸h.at hk)))
theorem KeyTy.isKey (h:KeyTy P kt s) {k:Int} (hk:KG s k):WideAt.IsKeyLit (kl P kt s k):=h.keyed.key (h.at hk)
theorem Ad3 (h:P.underlying kt=some (.int .i64)):KeyTy P kt (some false) :=
 ⟨Maps.int_keyed h,fun k hk=>⟨_,Maps.keyOf_int_mk h (Td (by simpa [KG] using hk))⟩⟩
theorem Aem (h:P.underlying kt=some .string):KeyTy P kt none :=
 ⟨Maps.string_keyed h,fun k ⟨x,hx,e⟩=>⟨.string x.data.toList,by subst e;simp only [kv,P3];simp [keyOf,h,mapKey,hx]⟩⟩
def Abk (P:Program) (t:TypeId):Bool :=
 match P.underlying t with
 | some (.int .i64)=>P.cellsOf t==1
 | _=>false
def st3 (P:Program) (kt:TypeId):Bool :=
 match P.underlying kt with
 | some (.struct fs)=>match fs.toList with
  | [f,g,h]=>(f.offset==0&&(g.offset==1&&h.offset==2))&&((Abk P f.type&&(Abk P g.type&&Abk P h.type))&&((f.name != "_" && (g.name != "_" && h.name != "_"))&&(P.cellsOf kt==3&&(P.keyType kt&&(P.keyTypeAt 2 kt&&decide (kt<P.types.size))))))
  | _=>false
 | _=>false
theorem Mn {t:TypeId} (h:Abk P t=true):P.underlying t=some (.int .i64)/\P.cellsOf t=1:=by
 unfold Abk at h;split at h
 ·rename_i e;exact ⟨e,by simpa using h⟩
 ·cases h
theorem Ael (hl:laidOutB P=true) (h:st3 P kt=true):KeyTy P kt (some true):=by
 unfold st3 at h;split at h
 ·rename_i fs hu;split at h
  ·rename_i f g h' hfs;simp only [Bool.and_eq_true,beq_iff_eq,decide_eq_true_eq] at h;obtain ⟨⟨o1,o2,o3⟩,⟨t1,t2,t3⟩,⟨n1,n2,n3⟩,c3,k1,k2,k3⟩:=h;obtain ⟨u1,c1⟩:=Mn t1;obtain ⟨u2,c2⟩:=Mn t2;obtain ⟨u3,c4⟩:=Mn t3;refine ⟨Maps.Keyed.of_law (deep_law_laid hl (m:=2) (by decide) k3 k2 (by rw [hu])),fun k hk=>?_⟩;obtain ⟨a,b,c,ha,hb,hc,rfl⟩:∃ a b c,H4 a/\H4 b/\H4 c/\k=Zw a b c:=by simpa [KG] using hk
   have hfs':fs= #[f,g,h']:=by
    have:=congrArg List.toArray hfs
    simpa using this
   obtain ⟨d,hd⟩:∃ d,P.types.size=d+1:=⟨P.types.size - 1,(Nat.sub_add_cancel (Nat.lt_of_le_of_lt (Nat.zero_le _) k3)).symm⟩
   have key:∀ (t:TypeId) (x:Int),P.underlying t=some (.int .i64)->H4 x->P.keyLits (d+1) t [.int .i64 x]=some [.int .i64 x]:=fun t x ht hx=>by
    simp [Program.keyLits,ht,Td hx]
   have hall:(fs.all (·.name != "_"))=true:=by rw [hfs'];simp [n1,n2,n3]
   have hlits:P.keyLits (d+1+1) kt [.int .i64 a,.int .i64 b,.int .i64 c]=some [.int .i64 a,.int .i64 b,.int .i64 c]:=by
    unfold Program.keyLits;simp only [hu,c3,hall,List.length_cons,List.length_nil,and_self,if_true,hfs,List.mapM_cons,List.mapM_nil,o1,o2,o3,c1,c2,c4];simp [key _ _ u1 ha,key _ _ u2 hb,key _ _ u3 hc]
   refine ⟨.string (keyBytes [.int .i64 a,.int .i64 b,.int .i64 c]),?_⟩
   ·simp only [kv,P7];unfold keyOf;rw [hu];simp only [k1,Value.formed,hu,c3,Value.cells,hd,hlits];simp
  ·cases h
 ·cases h
end
structure MapIs (P:Program) (kt:TypeId) (s:Option Bool) (t:Ty) (es:List (Int×t.D)) (D:DataW Unit):Prop where
 tidy:Maps.Tidy D
 nd:(es.map (·.1)).Nodup
 get:∀ k z,KG s k->D.atKey (kl P kt s k) z=((Dv es k).map (Jo t)).getD z
 has:∀ k,KG s k->Maps.has D (kl P kt s k)=(Dv es k).isSome
 size:Maps.size D=es.length
section
variable {P:Program} {kt:TypeId} {s:Option Bool}
theorem MapIs.nil (t:Ty):MapIs P kt s t [] (.map []):=⟨Maps.tidy_empty,.nil,fun _ _ _=>rfl,fun _ _=>rfl,rfl⟩
theorem MapIs.put {t:Ty} {es:List (Int×t.D)} {D:DataW Unit} (h:MapIs P kt s t es D) (K:KeyTy P kt s) {k:Int} (hk:KG s k) (v:t.D):MapIs P kt s t (Nv es k v) (D.put (kl P kt s k) (Jo t v)):=by
 refine ⟨h.tidy.put (K.isKey hk) _,Adx h.nd k v,fun k' z hk'=>?_,fun k' hk'=>?_,?_⟩
 ·by_cases e:k'=k
  ·subst e;rw [Maps.atKey_put_same h.tidy.isMap (K.isKey hk),Ko];rfl
  ·rw [Maps.atKey_put_other (K.ne hk hk' e),Jr e,h.get _ _ hk']
 ·by_cases e:k'=k
  ·subst e;rw [Maps.has_put_same h.tidy.isMap (K.isKey hk),Ko];rfl
  ·rw [Maps.has_put_other (K.ne hk hk' e),Jr e,h.has _ hk']
 ·rw [Maps.size_put h.tidy,h.has _ hk,h.size];have:=Qw (es:=es) k h.nd;unfold Nv;rw [List.length_cons];split <;> rename_i hh <;> simp [hh] at this <;> omega
theorem MapIs.del {t:Ty} {es:List (Int×t.D)} {D:DataW Unit} (h:MapIs P kt s t es D) (K:KeyTy P kt s) {k:Int} (hk:KG s k):MapIs P kt s t (I5 es k) (D.del (kl P kt s k)):=by
 refine ⟨h.tidy.del _,Yu h.nd k,fun k' z hk'=>?_,fun k' hk'=>?_,?_⟩
 ·by_cases e:k'=k
  ·subst e;rw [Maps.atKey_del_same,Kp];rfl
  ·rw [Maps.atKey_del_other (K.ne hk hk' e),Hc e,h.get _ _ hk']
 ·by_cases e:k'=k
  ·subst e;rw [Maps.has_del_same,Kp];rfl
  ·rw [Maps.has_del_other (K.ne hk hk' e),Hc e,h.has _ hk']
 ·have h1:=Maps.size_del (k:=kl P kt s k) h.tidy;have h2:=Qw (es:=es) k h.nd;rw [h.has _ hk,h.size] at h1;omega
end
def Mc (P:Program) (e:TypeId) (v:Value):Option (DataW Unit×List MemPlace) :=
 match v with
 | .agg cs=>match cs.toList with
  | [.int .i64 a,.int .i64 b]=>some (.agg [.lit (.int .i64 a),.lit (.int .i64 b)],[])
  | _=>none
 | v=>plainElem P e v
def Ae2:List Value->Bool
 | [.int .i64 a,.int .i64 b]=>a==0&&b==0
 | _=>false
def F3 (P:Program) (e:TypeId) (t:Ty):Bool :=
 match t,P.underlying e,(P.info? e).bind (·.zero) with
 | .int,some (.int .i64),some (.int .i64 n)=>n==0
 | .bool,some .bool,some (.bool b)=> !b
 | .pair .int .int,some (.struct _),some (.agg z)=>Ae2 z.toList
 | _,_,_=>false
def Mu (P:Program) (kt:TypeId):Bool :=
 match P.underlying kt with
 | some .string=>true
 | _=>false
theorem V3 {P:Program} {kt:TypeId} (h:Mu P kt=true):P.underlying kt=some .string:=by
 unfold Mu at h;split at h
 ·assumption
 ·cases h
def k3 (P:Program) (mt:TypeId):Option Bool :=
 match P.underlying mt with
 | some (.map kt _)=>if Mu P kt then none else some (st3 P kt)
 | _=>some false
def Ac2 (P:Program) (mt:TypeId) (t:Ty) (kt et:TypeId):Prop:=P.underlying mt=some (.map kt et)/\KeyTy P kt (k3 P mt)/\F3 P et t=true
def MapRep (P:Program) (mt:TypeId) (t:Ty) (es:List (Int×t.D)) (w:World) (b:Nat):Prop :=
 ∃ kt et D,Ac2 P mt t kt et/\w.ownsMap P kt (Mc P et) b es.length D/\MapIs P kt (k3 P mt) t es D
section
variable {P:Program} {mt:TypeId} {t:Ty} {es:List (Int×t.D)} {w w':World} {b:Nat}
theorem MapRep.lt (h:MapRep P mt t es w b):b<w.heap.size:=by
 obtain ⟨_,_,_,_,h,_⟩:=h;exact h.lt
theorem MapRep.same (h:MapRep P mt t es w b) (he:w'.heap[b]? =w.heap[b]?):MapRep P mt t es w' b:=by
 obtain ⟨kt,et,D,ht,⟨ms,clock,h1,h2⟩,hi⟩:=h;exact ⟨kt,et,D,ht,⟨ms,clock,he.trans h1,h2⟩,hi⟩
theorem Nk {H:Type} {P:Program} {w:World} {k:TypeId} {R:Value->Option (DataW H×List MemPlace)} {b n:Nat} {D:DataW H} (h:w.ownsMap P k R b n D):w.ownsMap P k R b (Maps.size D) D:=by
 obtain ⟨ms,clock,h1,h2,_,h4⟩:=h;refine ⟨ms,clock,h1,h2,?_,h4⟩;subst h4;simp [Maps.size,length_sorted]
def I7:(t:Ty)->t.D->Value
 | .int,n=>.int .i64 n
 | .bool,b=>.bool b
 | .pair .int .int,x=>.agg #[.int .i64 x.1,.int .i64 x.2]
 | _,_=>undef
def Agh:(t:Ty)->t.D->Prop
 | .int,n=>H4 n
 | .pair .int .int,x=>H4 x.1/\H4 x.2
 | _,_=>True
theorem K9 {H:Type} {P:Program} {e:TypeId} (he:P.underlying e=some .bool) {v:Value} {z:DataW H×List MemPlace} (h:plainElem P e v=some z):∃ b,v=.bool b/\z=(.lit (.bool b),[]):=by
 unfold plainElem at h;rw [he] at h;cases v <;> simp at h;exact ⟨_,rfl,h.symm⟩
theorem Lz {e:TypeId} (h:F3 P e t=true):((t=.int/\P.underlying e=some (.int .i64))∨(t=.bool/\P.underlying e=some .bool)∨t=.pair .int .int)/\(∀ w,(zeroValue e).run P w=.ok (I7 t t.dflt) w) /\
  (∀ d,Mc P e (I7 t t.dflt)=d->d=some (Jo t t.dflt,[]))/\∀ v z ps,Mc P e v=some (z,ps)->(∃ x:t.D,z=Jo t x)->∃ x:t.D,v=I7 t x/\z=Jo t x:=by
 unfold F3 at h;split at h
 ·rename_i n hu hz;have hn:n=0:=by simpa using h
  subst hn;obtain ⟨i,hi,hz⟩:=Option.bind_eq_some_iff.1 hz;refine ⟨.inl ⟨rfl,hu⟩,fun w=>by simp [zeroValue,typeInfo,hi,hz,I7,Ty.dflt],fun d hd=>?_,fun v z ps hv hx=>?_⟩
  ·rw [← hd];exact plainElem_int hu (by decide)
  ·have hv':plainElem P e v=some (z,ps):=by
    cases v with
    | agg cs =>
     exfalso;obtain ⟨x,rfl⟩:=hx;unfold Mc at hv;dsimp only at hv;split at hv
     ·simp [Jo] at hv
     ·cases hv
    | _=>exact hv
   obtain ⟨a,h1,h2,_⟩:=plainElem_int_inv hu hv';exact ⟨a,h1,(Prod.mk.inj h2).1⟩
 ·rename_i b hu hz;have hb:b=false:=by simpa using h
  subst hb;obtain ⟨i,hi,hz⟩:=Option.bind_eq_some_iff.1 hz;refine ⟨.inr (.inl ⟨rfl,hu⟩),fun w=>by simp [zeroValue,typeInfo,hi,hz,I7,Ty.dflt],fun d hd=>?_,fun v z ps hv hx=>?_⟩
  ·rw [← hd];exact plainElem_bool hu _
  ·have hv':plainElem P e v=some (z,ps):=by
    cases v with
    | agg cs =>
     exfalso;obtain ⟨x,rfl⟩:=hx;unfold Mc at hv;dsimp only at hv;split at hv
     ·simp [Jo] at hv
     ·cases hv
    | _=>exact hv
   obtain ⟨x,h1,h2⟩:=K9 hu hv';exact ⟨x,h1,(Prod.mk.inj h2).1⟩
 ·rename_i fs z hu hz;obtain ⟨i,hi,hz⟩:=Option.bind_eq_some_iff.1 hz
  have hz2:z= #[.int .i64 0,.int .i64 0]:=by
   unfold Ae2 at h;split at h
   ·rename_i a b e;simp only [Bool.and_eq_true,beq_iff_eq] at h;rw [h.1,h.2] at e;rw [← Array.toArray_toList (xs:=z),e]
   ·cases h
  refine ⟨.inr (.inr rfl),fun w=>by simp [zeroValue,typeInfo,hi,hz,hz2,I7,Ty.dflt],fun d hd=>?_,fun v z ps hv hx=>?_⟩
  ·rw [← hd];rfl
  ·obtain ⟨x,rfl⟩:=hx;cases v with
   | agg cs =>
    unfold Mc at hv;dsimp only at hv;split at hv
    ·rename_i a b e;refine ⟨(a,b),?_,(Prod.mk.inj (osj hv)).1.symm⟩;show Value.agg cs=.agg #[.int .i64 a,.int .i64 b];rw [← Array.toArray_toList (xs:=cs),e]
    ·cases hv
   | _ =>
    exfalso;have hv':plainElem P e _=some (Jo (.pair .int .int) x,ps):=hv;unfold plainElem at hv';rw [hu] at hv';cases hv'
 ·cases h
theorem Abj {x y:t.D} (hm:t=.int∨t=.bool∨t=.pair .int .int) (h:Jo t x=Jo t y):x=y:=by
 rcases hm with rfl|rfl|rfl
 ·simp only [Jo,DataW.lit.injEq,Lit.int.injEq,true_and] at h;exact h
 ·simp only [Jo,DataW.lit.injEq,Lit.bool.injEq] at h;exact h
 ·simp only [Jo,DataW.agg.injEq,List.cons.injEq,DataW.lit.injEq,Lit.int.injEq,true_and,and_true] at h;exact Prod.ext h.1 h.2
theorem MapRep.look (h:MapRep P mt t es w b) {k:Int} (hk:KG (k3 P mt) k) (ok:Bool):(Instr.lookup mt (.map (some b)) (kv (k3 P mt) k) ok).run P w=.ok (if ok then .tuple #[I7 t ((Dv es k).getD t.dflt),.bool (Dv es k).isSome] else I7 t ((Dv es k).getD t.dflt)) w:=by
 obtain ⟨kt,et,D,⟨h1,h2,h3⟩,ho,hi⟩:=h;obtain ⟨hm,hz,hd,hinv⟩:=Lz h3
 have hm':t=.int∨t=.bool∨t=.pair .int .int:=by
  rcases hm with ⟨e,_⟩|⟨e,_⟩|e
  ·exact .inl e
  ·exact .inr (.inl e)
  ·exact .inr (.inr e)
 have hkey:=h2.at hk;have K:=h2.keyed
 have key:∀ v ps,Mc P et v=some (D.atKey (kl P kt (k3 P mt) k) (Jo t t.dflt),ps)->v=I7 t ((Dv es k).getD t.dflt):=fun v ps hv=>by
  have e0:D.atKey (kl P kt (k3 P mt) k) (Jo t t.dflt)=Jo t ((Dv es k).getD t.dflt):=by
   rw [hi.get _ _ hk];cases Dv es k <;> rfl
  obtain ⟨x,rfl,e1⟩:=hinv v _ ps hv ⟨_,e0⟩;rw [e0] at e1;rw [Abj hm' e1]
 cases ok
 ·obtain ⟨v,ps,hrun,hv⟩:=ho.lookup K h1 (hz w) (hd _ rfl) hkey;rw [hrun,key v ps hv];rfl
 ·obtain ⟨v,ps,hrun,hv⟩:=ho.look_ok K h1 (hz w) (hd _ rfl) hkey;rw [hrun,key v ps hv,hi.has _ hk];rfl
theorem MapRep.len (h:MapRep P mt t es w b) (ty:TypeId):(Builtin.len_ #[mt] ty #[.map (some b)]).run P w=.ok (.int .i64 es.length) w:=by
 obtain ⟨kt,et,D,⟨h1,h2,h3⟩,ho,hi⟩:=h;rw [ho.len h1,hi.size]
theorem T0 {b:Nat} (h:w.mapTurned w' b):w'.os=w.os/\w'.tape=w.tape/\w'.output=w.output/\w'.heap.size=w.heap.size/\∀ k,k≠b->w'.heap[k]? =w.heap[k]?:=by
 obtain ⟨ms,c,ms',c',h1,rfl⟩:=h;refine ⟨rfl,rfl,rfl,by simp [setBlock],fun k hk=>?_⟩;exact heap_setBlock_other h1 _ hk
theorem MapRep.put (h:MapRep P mt t es w b) {k:Int} (hk:KG (k3 P mt) k) {x:t.D} (hx:Agh t x) (hl:es.length<maxLen):∃ w',(Instr.mapUpdate mt (.map (some b)) (kv (k3 P mt) k) (I7 t x)).run P w=.ok () w'/\MapRep P mt t (Nv es k x) w' b/\w.mapTurned w' b:=by
 obtain ⟨kt,et,D,⟨h1,h2,h3⟩,ho,hi⟩:=h;obtain ⟨hm,hz,hd,hinv⟩:=Lz h3;have hkey:=h2.at hk;have K:=h2.keyed
 have hv:Mc P et (I7 t x)=some (Jo t x,[]):=by
  rcases hm with ⟨rfl,hu⟩|⟨rfl,hu⟩|rfl
  ·exact plainElem_int hu (Td hx)
  ·exact plainElem_bool hu x
  ·rfl
 obtain ⟨w',hrun,ho',hg⟩:=ho.store K h1 hl hkey hv;have hi':=hi.put h2 hk x;refine ⟨w',hrun,⟨kt,et,_,⟨h1,h2,h3⟩,?_,hi'⟩,hg⟩;rw [← hi'.size];exact Nk ho'
theorem MapRep.del (h:MapRep P mt t es w b) {k:Int} (hk:KG (k3 P mt) k) (kt':TypeId) (hkt:∀ kt et,P.underlying mt=some (.map kt et)->kt=kt') (ty:TypeId):∃ w',(Builtin.delete_ #[mt,kt'] ty #[.map (some b),kv (k3 P mt) k]).run P w=.ok (.tuple #[]) w'/\MapRep P mt t (I5 es k) w' b/\w.mapTurned w' b:=by
 obtain ⟨kt,et,D,⟨h1,h2,h3⟩,ho,hi⟩:=h;obtain rfl:=hkt _ _ h1;have hkey:=h2.at hk;have K:=h2.keyed;obtain ⟨w',hrun,ho',hg⟩:=ho.drop K h1 hkey ty;have hi':=hi.del h2 hk;refine ⟨w',hrun,⟨kt,et,_,⟨h1,h2,h3⟩,?_,hi'⟩,hg⟩;rw [← hi'.size];exact Nk ho'
theorem MapRep.made {kt et:TypeId} (ht:Ac2 P mt t kt et) (w:World):MapRep P mt t [] (w.alloc (.map #[] 0)) w.heap.size :=
 ⟨kt,et,_,ht,World.ownsMap_made w P kt (Mc P et),MapIs.nil t⟩
end
attribute [irreducible] k3 Zw Th kv
end
section
open Go.RowKit Go.Deep
def ownsV (w:World) (lo:Nat) (e:TypeId) (sz:Nat) (v:Value) (n:Nat) (xs:List Value):Prop :=
 xs.length=n*sz /\
 ((v=.slice none 0 0/\n=0) ∨
  ∃ g cap cur,v=.slice (some ⟨g,0,none⟩) n cap/\lo<=g/\w.heap[g]? =some (.cells cur e (0,0))/\n<=cap/\cap<=maxLen/\cap*sz<=cur.size/\cur.toList.take (n*sz)=xs)
section
variable {w w':World} {lo lo':Nat} {e:TypeId} {sz:Nat} {v:Value} {n:Nat} {xs:List Value}
theorem Ie (w:World) (lo:Nat) (e:TypeId) (sz:Nat):ownsV w lo e sz (.slice none 0 0) 0 []:=⟨by simp,.inl ⟨rfl,rfl⟩⟩
theorem ownsV.lt (h:ownsV w lo e sz v n xs):∀ k,v.ownBlock=some k->lo<=k/\k<w.heap.size:=by
 intro k hk;rcases h.2 with ⟨rfl,_⟩|⟨g,cap,cur,rfl,hb,hg,_⟩
 ·cases hk
 ·cases hk;exact ⟨hb,(Array.getElem?_eq_some_iff.1 hg).1⟩
theorem ownsV.low (h:ownsV w lo e sz v n xs) (hl:lo'<=lo):ownsV w lo' e sz v n xs:=by
 refine ⟨h.1,?_⟩;rcases h.2 with hn|⟨g,cap,cur,e1,hb,rest⟩
 ·exact .inl hn
 ·exact .inr ⟨g,cap,cur,e1,Nat.le_trans hl hb,rest⟩
theorem ownsV.block (h:ownsV w lo e sz v n xs) (hb:∀ k,v.ownBlock=some k->w'.heap[k]? =w.heap[k]?):ownsV w' lo e sz v n xs:=by
 refine ⟨h.1,?_⟩;rcases h.2 with hn|⟨g,cap,cur,e1,hb',hg,rest⟩
 ·exact .inl hn
 ·subst e1;exact .inr ⟨g,cap,cur,rfl,hb',(hb g rfl).trans hg,rest⟩
theorem ownsV.cells (h:ownsV w lo e sz v n xs) {g:Nat} (hg:v.ownBlock=some g):∀ j u,xs[j]? =some u->w.cell? ((⟨g,0,none⟩:Addr).add j)=some u:=by
 intro j u hj;rcases h.2 with ⟨rfl,_⟩|⟨g',cap,cur,rfl,hb,hgg,_,_,_,ht⟩
 ·cases hg
 ·cases hg;rw [← ht,List.getElem?_take] at hj;split at hj
  ·have e1:(⟨g',0,none⟩:Addr).add j=⟨g',j,none⟩:=by
    unfold Addr.add;split <;> simp_all
   rw [e1];simp only [World.cell?,hgg]
   simpa using hj
  ·cases hj
theorem ownsV.take {k:Nat} (h:ownsV w lo e sz v n xs) (hk:k<=n) {v':Value} (hv:∀ g cap,v=.slice (some ⟨g,0,none⟩) n cap->v'=.slice (some ⟨g,0,none⟩) k cap) (hn:v=.slice none 0 0->v'=.slice none 0 0):ownsV w lo e sz v' k (xs.take (k*sz)):=by
 have hkn:k*sz<=n*sz:=Nat.mul_le_mul_right _ hk;refine ⟨by rw [List.length_take,h.1];omega,?_⟩;rcases h.2 with ⟨e1,rfl⟩|⟨g,cap,cur,e1,hb,hg,h1,h2,h3,ht⟩
 ·exact .inl ⟨hn e1,by omega⟩
 ·refine .inr ⟨g,cap,cur,hv g cap e1,hb,hg,by omega,h2,h3,?_⟩;rw [← ht,List.take_take,Nat.min_eq_left hkn]
end
end
section
open Go.RowKit Go.Deep
class IsP (P:Program):Prop where
 eq:P=Tryz.prog
instance:IsP Tryz.prog:=⟨rfl⟩
abbrev Oid:=(Nat×Nat)×Nat
def kid (p:Oid) (r:Nat):Oid:=((p.1.1,r+1),p.2)
theorem N8 {p:Oid} {r s:Nat} (h:kid p r=kid p s):r=s:=by
 have:=congrArg (fun i:Oid=>i.1.2) h;simp only [kid] at this;omega
def mtd:Nat:=1000000
def Kz (g:FuncId):FuncId:=if g<mtd then g else g - mtd
def Ct {α:Type} (g:FuncId) (xs caps:List α):List α:=if g<mtd then xs++caps else caps++xs
def fnV (g:FuncId) (vs:List Value):Value:=if g<mtd then .func (.func g) #[] vs.toArray else .func (.func (g - mtd)) vs.toArray #[]
theorem Adr (g:FuncId) (vs:List Value):(fnV g vs).oneCell'=true:=by unfold fnV;split <;> rfl
theorem Ry {α β:Type} (f:α->β) (g:FuncId) (xs caps:List α):(Ct g xs caps).map f=Ct g (xs.map f) (caps.map f):=by unfold Ct;split <;> rw [List.map_append]
def mR (m:Option (Nat->Prop)) (im:Nat->Prop):Nat->Prop :=
 match m with
 | none=>im
 | some R=>fun b=>im b/\R b
theorem Ys {m:Option (Nat->Prop)} {im im':Nat->Prop} (hi:∀ b,im b->im' b) {b:Nat} (h:mR m im b):mR m im' b:=by
 cases m with
 | none=>exact hi b h
 | some R=>exact ⟨hi b h.1,h.2⟩
inductive AV where
 | any
 | int (k:IntKind) (n:Int)
 | bool (b:Bool)
 | str (s:ByteArray)
 | nils
 | tree (t:Ty) (xs:List t.D)
 | own (i:Oid) (t:Ty) (off len:Nat)
 | box (i:Oid) (k:Nat)
 | elt (i:Oid) (j k:Nat)
 | telt (m:Option (Nat->Prop)) (t:Ty) (x:t.D) (k:Nat)
 | sla (i:Oid) (j n:Nat)
 | agg (cs:List AV)
 | tup (vs:List AV)
 | fn (f:FuncId) (caps:List AV)
 | ref (cs:List AV)
 | giv (v:Value) (t:Ty) (xs:List t.D)
 | ftr (R:Nat->Prop) (t:Ty) (xs:List t.D)
 | abool (pos:Bool) (n:Nat)
 | err (b:Bool) (o:Option (TypeId×(Nat ⊕ List Int)))
 | mp (i:Oid)
 | mtree (mt:TypeId) (t:Ty) (es:List (Int×t.D))
inductive Ob where
 | cells (ty:TypeId) (cs:List AV)
 | arr (e:TypeId) (t:Ty) (xs:List t.D)
 | map (mt:TypeId) (t:Ty) (es:List (Int×t.D))
 | vec (e:TypeId) (sz n:Nat) (cs:List AV)
 | pool (e:TypeId) (t:Ty) (xss:List (List t.D))
 | mat (e:TypeId) (p:Oid) (t:Ty) (xss:List (List t.D))
 | tv (e:TypeId) (m:Option (Nat->Prop)) (t:Ty) (xs:List t.D)
inductive Loc where
 | nil
 | at_ (b cap sz:Nat)
def Loc.val:Loc->Nat->Value
 | .nil,_=>.slice none 0 0
 | .at_ b cap _,n=>.slice (some ⟨b,0,none⟩) n cap
mutual
def AV.Rep (σ:Oid->Option Loc) (im:Nat->Prop) (w:World):AV->Value->Prop
 | .any,_=>True
 | .int k n,v=>v=.int k n
 | .bool b,v=>v=.bool b
 | .str s,v=>v=.string s
 | .nils,v=>v=.slice none 0 0
 | .tree t xs,v=>∃ A c l,v=.slice A xs.length c/\Sl im w t A c xs l
 | .ftr R t xs,v=>∃ A c l,v=.slice A xs.length c/\Sl (fun b=>im b/\R b) w t A c xs l
 | .abool pos n,v=>∃ b,v=.bool b/\(b=pos->n=0)
 | .err b o,v=>(b=false/\v=.nilIface)∨(b=true/\∃ t u,v=.iface t u/\∀ T xs,o=some (T,xs)->t=T/\(∀ n,xs=.inl n->∃ us:List Value,us.length=n/\u=.agg us.toArray)/\∀ l,xs=.inr l->u=.agg (l.map (Value.int .i64)).toArray)
 | .giv u t xs,v=>v=u/\∃ A c l,v=.slice A xs.length c/\Sl im w t A c xs l
 | .own i t off len,v=>(σ i=some .nil/\off=0/\len=0/\v=.slice none 0 0)∨(∃ b cap,σ i=some (.at_ b cap t.size)/\off+len<=cap/\v=.slice (some ⟨b,off*t.size,none⟩) len (cap - off))∨∃ lc,σ i=some lc/\off≠0/\len=0/\∃ A c,v=.slice A 0 c/\c<=maxLen
 | .box i k,v=>∃ b cap sz,σ i=some (.at_ b cap sz)/\v=.pointer (some ⟨b,k,none⟩)
 | .elt i j k,v=>∃ b cap sz,σ i=some (.at_ b cap sz)/\v=.pointer (some ⟨b,j*sz+k,none⟩)
 | .sla i j n,v=>∃ b cap,σ i=some (.at_ b cap n)/\v=.slice (some ⟨b,j*n,none⟩) n n
 | .mp i,v=>∃ b cap sz,σ i=some (.at_ b cap sz)/\v=.map (some b)
 | .mtree mt t es,v=>∃ b,v=.map (some b)/\im b/\MapRep Tryz.prog mt t es w b
 | .telt m t x k,v=>∃ a l,v=.pointer (some (a.add k))/\Ty.Mem (mR m im) w t a x l/\mR m im a.block
 | .agg cs,v=>∃ vs:List Value,v=.agg vs.toArray/\AV.RepL σ im w cs vs
 | .tup cs,v=>∃ vs:List Value,v=.tuple vs.toArray/\AV.RepL σ im w cs vs
 | .fn f caps,v=>∃ vs:List Value,v=fnV f vs/\AV.RepL σ im w caps vs
 | .ref cs,v=>∃ (b k:Nat) (vs:List Value),v=.pointer (some ⟨b,k,none⟩)/\(b<w.heap.size/\im b)/\(∀ (j:Nat) (u:Value),vs[j]? =some u->w.cell? ⟨b,k+j,none⟩=some u)/\AV.RepL σ im w cs vs
def AV.RepL (σ:Oid->Option Loc) (im:Nat->Prop) (w:World):List AV->List Value->Prop
 | [],vs=>vs=[]
 | c :: cs,vs=>∃ u us,vs=u :: us/\AV.Rep σ im w c u/\AV.RepL σ im w cs us
end
structure Later (σ σ':Oid->Option Loc) (im im':Nat->Prop) (w w':World):Prop where
 loc:∀ i l,σ i=some l->σ' i=some l
 im_:∀ b,b<w.heap.size->im b->im' b
 blk:∀ b,b<w.heap.size->im b->w'.heap[b]? =w.heap[b]?
 size:w.heap.size<=w'.heap.size
theorem Later.cell {σ σ':Oid->Option Loc} {im im':Nat->Prop} {w w':World} (h:Later σ σ' im im' w w') (p:Addr) (u:Value) (hp:im p.block) (hc:w.cell? p=some u):w'.cell? p=some u :=
 (World.cell?_of_block (h.blk _ (World.block_lt_of_cell? w p hc) hp)).trans hc
section
variable {σ σ' σ'':Oid->Option Loc} {im im' im'':Nat->Prop} {w w' w'':World}
theorem Later.mem (h:Later σ σ' im im' w w') {t:Ty} {a:Addr} {x:t.D} {l:List Addr} (ha:im a.block) (hm:Ty.Mem im w t a x l):im' a.block/\Ty.Mem im' w' t a x l:=by
 have hlt:=hm.lt;refine ⟨h.im_ _ hlt ha,?_⟩;have h1:Ty.Mem (fun b=>im b/\b<w.heap.size) w t a x l:=hm.mono fun b hb hi=>⟨hi,hb⟩
 have h2:Ty.Mem (fun b=>im b/\b<w.heap.size) w' t a x l:=h1.keep (R:=fun b=>im b/\b<w.heap.size) ⟨ha,hlt⟩ (fun p u hr hc _=>h.cell p u hr.1 hc);exact h2.mono fun b _ hb=>h.im_ b hb.2 hb.1
theorem Later.sl (h:Later σ σ' im im' w w') {t:Ty} {A:Option Addr} {c:Nat} {xs:List t.D} {l:List Addr} (hs:Sl im w t A c xs l):Sl im' w' t A c xs l:=by
 obtain ⟨h1,h2,f,e2,hf⟩:=hs;refine ⟨h1,h2,f,e2,fun h0=>?_⟩;obtain ⟨ad,e',hr,hm⟩:=hf h0;have hb:=(h.mem (by rw [Bl];exact hr) (hm 0 h0)).1;rw [Bl] at hb;exact ⟨ad,e',hb,fun i hlt=>(h.mem (by rw [Bl];exact hr) (hm i hlt)).2⟩
theorem Later.mR (h:Later σ σ' im im' w w') (m:Option (Nat->Prop)):Later σ σ' (mR m im) (mR m im') w w':=by
 cases m with
 | none=>exact h
 | some R=>exact ⟨h.loc,fun b hb hi=>⟨h.im_ b hb hi.1,hi.2⟩,fun b hb hi=>h.blk b hb hi.1,h.size⟩
theorem Later.slN (h:Later σ σ' im im' w w') {R:Nat->Prop} {t:Ty} {A:Option Addr} {c:Nat} {xs:List t.D} {l:List Addr} (hs:Sl (fun b=>im b/\R b) w t A c xs l):Sl (fun b=>im' b/\R b) w' t A c xs l :=
 Later.sl (σ:=σ) (σ':=σ') (im:=fun b=>im b/\R b) (im':=fun b=>im' b/\R b) ⟨h.loc,fun b hb hi=>⟨h.im_ b hb hi.1,hi.2⟩,fun b hb hi=>h.blk b hb hi.1,h.size⟩ hs
mutual
theorem AV.Rep.later (h:Later σ σ' im im' w w'):∀ (c:AV) (v:Value),AV.Rep σ im w c v->AV.Rep σ' im' w' c v
 | .any,_,_=>trivial
 | .int _ _,_,h=>h
 | .bool _,_,h=>h
 | .str _,_,h=>h
 | .nils,_,h=>h
 | .tree _ _,_,⟨A,c,l,e,hs⟩=>⟨A,c,l,e,h.sl hs⟩
 | .giv _ _ _,_,⟨h0,A,c,l,e,hs⟩=>⟨h0,A,c,l,e,h.sl hs⟩
 | .ftr _ _ _,_,⟨A,c,l,e,hs⟩=>⟨A,c,l,e,h.slN hs⟩
 | .abool _ _,_,h=>h
 | .err _ _,_,h=>h
 | .own _ _ _ _,_,hv=>by
   rcases hv with ⟨h1,h2⟩|⟨b,cap,h1,h2⟩|⟨lc,h1,h2⟩
   ·exact .inl ⟨h.loc _ _ h1,h2⟩
   ·exact .inr (.inl ⟨b,cap,h.loc _ _ h1,h2⟩)
   ·exact .inr (.inr ⟨lc,h.loc _ _ h1,h2⟩)
 | .box _ _,_,⟨b,cap,sz,h1,h2⟩=>⟨b,cap,sz,h.loc _ _ h1,h2⟩
 | .elt _ _ _,_,⟨b,cap,sz,h1,h2⟩=>⟨b,cap,sz,h.loc _ _ h1,h2⟩
 | .sla _ _ _,_,⟨b,cap,h1,h2⟩=>⟨b,cap,h.loc _ _ h1,h2⟩
 | .mp _,_,⟨b,cap,sz,h1,h2⟩=>⟨b,cap,sz,h.loc _ _ h1,h2⟩
 | .mtree _ _ _,_,⟨b,e,h1,h2⟩=>⟨b,e,h.im_ _ h2.lt h1,h2.same (h.blk _ h2.lt h1)⟩
 | .telt m _ _ _,_,⟨a,l,e,h1,h2⟩=>⟨a,l,e,((h.mR m).mem h2 h1).2,((h.mR m).mem h2 h1).1⟩
 | .agg cs,_,⟨vs,e,hl⟩=>⟨vs,e,AV.RepL.later h cs vs hl⟩
 | .tup cs,_,⟨vs,e,hl⟩=>⟨vs,e,AV.RepL.later h cs vs hl⟩
 | .fn _ cs,_,⟨vs,e,hl⟩=>⟨vs,e,AV.RepL.later h cs vs hl⟩
 | .ref cs,_,⟨b,k,vs,e,hb,hc,hl⟩=>⟨b,k,vs,e,⟨Nat.lt_of_lt_of_le hb.1 h.size,h.im_ _ hb.1 hb.2⟩,fun j u hu=>h.cell _ _ hb.2 (hc j u hu),AV.RepL.later h cs vs hl⟩
theorem AV.RepL.later (h:Later σ σ' im im' w w'):∀ (cs:List AV) (vs:List Value),AV.RepL σ im w cs vs->AV.RepL σ' im' w' cs vs
 | [],_,h=>h
 | c :: cs,_,⟨u,us,e,h1,h2⟩=>⟨u,us,e,AV.Rep.later h c u h1,AV.RepL.later h cs us h2⟩
end
theorem Later.refl (σ:Oid->Option Loc) (im:Nat->Prop) (w:World):Later σ σ im im w w:=⟨fun _ _ h=>h,fun _ _ h=>h,fun _ _ _=>rfl,Nat.le_refl _⟩
theorem AV.RepL.length:∀ {cs:List AV} {vs:List Value},AV.RepL σ im w cs vs->vs.length=cs.length
 | [],_,h=>by rw [show _=[] from h];rfl
 | _ :: _,_,⟨_,_,e,_,h⟩=>by subst e;simp [AV.RepL.length h]
theorem AV.RepL.get:∀ {cs:List AV} {vs:List Value} {k:Nat} {c:AV},AV.RepL σ im w cs vs->cs[k]? =some c->∃ v,vs[k]? =some v/\AV.Rep σ im w c v
 | [],_,_,_,_,hk=>by simp at hk
 | _ :: _,_,0,_,⟨u,_,e,h1,_⟩,hk=>by subst e;simp at hk;subst hk;exact ⟨u,by simp,h1⟩
 | _ :: _,_,k+1,_,⟨_,_,e,_,h2⟩,hk=>by
  subst e;obtain ⟨v,hv,hr⟩:=AV.RepL.get h2 (by simpa using hk);exact ⟨v,by simpa using hv,hr⟩
theorem AV.RepL.of_get:∀ {cs:List AV} {vs:List Value},vs.length=cs.length->(∀ (k:Nat) (c:AV) (v:Value),cs[k]? =some c->vs[k]? =some v->AV.Rep σ im w c v)->AV.RepL σ im w cs vs
 | [],_,hl,_=>List.length_eq_zero_iff.1 (by simpa using hl)
 | _ :: _,[],hl,_=>by simp at hl
 | c :: _,v :: vs,hl,h=>⟨v,vs,rfl,h 0 c v (by simp) (by simp),AV.RepL.of_get (by simpa using hl) (fun k c' v' h1 h2=>h (k+1) c' v' (by simpa using h1) (by simpa using h2))⟩
theorem AV.RepL.set {cs:List AV} {vs:List Value} {k:Nat} {c:AV} {v:Value} (h:AV.RepL σ im w cs vs) (hv:AV.Rep σ im w c v):AV.RepL σ im w (cs.set k c) (vs.set k v):=by
 refine AV.RepL.of_get (by simp [h.length]) (fun j c' v' h1 h2=>?_);rw [List.getElem?_set] at h1 h2;by_cases hj:k=j
 ·subst hj;simp at h1 h2;obtain ⟨_,rfl⟩:=h1;obtain ⟨_,rfl⟩:=h2;exact hv
 ·simp [hj] at h1 h2;obtain ⟨u,hu,hr⟩:=h.get h1;rw [h2] at hu;obtain rfl:=osj hu;exact hr
theorem AV.RepL.append {cs ds:List AV} {vs us:List Value} (h:AV.RepL σ im w cs vs) (h':AV.RepL σ im w ds us):AV.RepL σ im w (cs++ds) (vs++us):=by
 induction cs generalizing vs with
 | nil=>rw [show vs=[] from h];exact h'
 | cons c cs ih=>obtain ⟨u,ws,rfl,h1,h2⟩:=h;exact ⟨u,_,rfl,h1,ih h2⟩
theorem AV.RepL.take {cs:List AV} {vs:List Value} (h:AV.RepL σ im w cs vs) (n:Nat):AV.RepL σ im w (cs.take n) (vs.take n):=by
 refine AV.RepL.of_get (by simp [h.length]) (fun j c' v' h1 h2=>?_);rw [List.getElem?_take] at h1 h2;split at h1 <;> simp_all;obtain ⟨u,hu,hr⟩:=h.get h1;rw [h2] at hu;obtain rfl:=osj hu;exact hr
theorem AV.RepL.drop {cs:List AV} {vs:List Value} (h:AV.RepL σ im w cs vs) (n:Nat):AV.RepL σ im w (cs.drop n) (vs.drop n):=by
 refine AV.RepL.of_get (by simp [h.length]) (fun j c' v' h1 h2=>?_);rw [List.getElem?_drop] at h1 h2;obtain ⟨u,hu,hr⟩:=h.get h1;rw [h2] at hu;obtain rfl:=osj hu;exact hr
end
def AV.one:AV->Bool
 | .any | .agg _ | .tup _=>false
 | _=>true
theorem AV.one_rep {σ:Oid->Option Loc} {im:Nat->Prop} {w:World} {c:AV} {v:Value} (h:c.one=true) (hr:AV.Rep σ im w c v):v.oneCell'=true:=by
 cases c with
 | any=>cases h
 | agg _=>cases h
 | tup _=>cases h
 | int k n=>rw [show v=.int k n from hr];rfl
 | bool b=>rw [show v=.bool b from hr];rfl
 | str s=>rw [show v=.string s from hr];rfl
 | nils=>rw [show v=.slice none 0 0 from hr];rfl
 | tree t xs=>obtain ⟨_,_,_,e,_⟩:=hr;subst e;rfl
 | ftr n t xs=>obtain ⟨_,_,_,e,_⟩:=hr;subst e;rfl
 | abool _ _=>obtain ⟨_,e,_⟩:=hr;subst e;rfl
 | err _ _=>rcases hr with ⟨_,e⟩|⟨_,_,_,e,_⟩ <;> subst e <;> rfl
 | giv _ _ _=>obtain ⟨_,_,_,_,e,_⟩:=hr;subst e;rfl
 | own i t off len=>rcases hr with ⟨_,_,_,e⟩|⟨_,_,_,_,e⟩|⟨_,_,_,_,_,_,e,_⟩ <;> subst e <;> rfl
 | box i k=>obtain ⟨_,_,_,_,e⟩:=hr;subst e;rfl
 | elt i j k=>obtain ⟨_,_,_,_,e⟩:=hr;subst e;rfl
 | telt m t x k=>obtain ⟨_,_,e,_⟩:=hr;subst e;rfl
 | mp i=>obtain ⟨_,_,_,_,e⟩:=hr;subst e;rfl
 | sla i j n=>obtain ⟨_,_,_,e⟩:=hr;subst e;rfl
 | mtree mt t es=>obtain ⟨_,e,_⟩:=hr;subst e;rfl
 | fn f caps=>obtain ⟨_,e,_⟩:=hr;subst e;exact Adr _ _
 | ref cs=>obtain ⟨_,_,_,e,_⟩:=hr;subst e;rfl
theorem AV.one_repL {σ:Oid->Option Loc} {im:Nat->Prop} {w:World}:∀ {cs:List AV} {vs:List Value},cs.all AV.one=true->AV.RepL σ im w cs vs->∀ v∈vs,v.oneCell'=true
 | [],_,_,h,v,hv=>by rw [show _=[] from h] at hv;cases hv
 | c :: cs,_,hc,⟨u,us,e,h1,h2⟩,v,hv=>by
  subst e;simp only [List.all_cons,Bool.and_eq_true] at hc;rcases List.mem_cons.1 hv with rfl|hv
  ·exact AV.one_rep hc.1 h1
  ·exact AV.one_repL hc.2 h2 v hv
def AV.un:AV->AV
 | .giv _ t xs=>.tree t xs
 | .ftr _ t xs=>.tree t xs
 | c=>c
def AV.tag:AV->Option (Nat->Prop)
 | .ftr R _ _=>some R
 | _=>none
theorem Yy {σ:Oid->Option Loc} {im:Nat->Prop} {w:World} {c:AV} {v:Value} {t:Ty} {xs:List t.D} (h:AV.Rep σ im w c v) (hu:c.un=.tree t xs):∃ A cp l,v=.slice A xs.length cp/\Sl (mR c.tag im) w t A cp xs l:=by
 cases c <;> simp only [AV.un] at hu <;> first|(cases hu;done)|skip
 ·cases hu;exact h
 ·cases hu;exact h.2
 ·cases hu;exact h
theorem Sr {σ:Oid->Option Loc} {im:Nat->Prop} {w:World} {c:AV} {v:Value} (h:AV.Rep σ im w c v):AV.Rep σ im w c.un v:=by
 cases c with
 | giv _ _ _=>exact h.2
 | ftr _ _ _=>obtain ⟨A,c,l,e,hs⟩:=h;exact ⟨A,c,l,e,Al (fun b _ hb=>hb.1) hs⟩
 | _=>exact h
def Ob.Rep (lo:Nat) (σ:Oid->Option Loc) (im:Nat->Prop) (w:World):Ob->Loc->Prop
 | .cells ty cs,.at_ b _ _=>∃ vs:List Value,w.heap[b]? =some (.cells vs.toArray ty (0,0))/\AV.RepL σ im w cs vs/\∀ v∈vs,v.oneCell'=true
 | .cells _ _,.nil=>False
 | .map mt t es,.at_ b _ _=>MapRep Tryz.prog mt t es w b
 | .map _ _ _,.nil=>False
 | .arr e t xs,l=>t.flat=true/\ownsV w lo e t.size (l.val xs.length) xs.length (t.cells xs)/\∀ b c s,l=.at_ b c s->s=t.size
 | .vec e sz n cs,l=>∃ vs:List Value,ownsV w lo e sz (l.val n) n vs/\AV.RepL σ im w cs vs/\(∀ v∈vs,v.oneCell'=true)/\∀ b c s,l=.at_ b c s->s=sz
 | .pool _ _ _,_=>False
 | .mat _ _ _ _,_=>False
 | .tv _ _ _ _,_=>False
def imm (ob:Oid->Option Ob) (σ:Oid->Option Loc) (b:Nat):Prop:=∀ i o c s,ob i=some o->σ i≠some (.at_ b c s)
structure Mem0 (G:World->Prop) (w0:World) (ob:Oid->Option Ob) (σ:Oid->Option Loc) (K:Nat->Prop) (w:World):Prop where
 below:Below w0.heap.size w0 w
 inv:∀ w',Below w0.heap.size w0 w'->G w'
 gen:∀ i l,σ i=some l->K i.2
 lt:∀ i b c s,σ i=some (.at_ b c s)->w0.heap.size<=b/\b<w.heap.size
 cap:∀ i b c s,σ i=some (.at_ b c s)->c<=maxLen
 inj:∀ i j b c s c' s' o o',ob i=some o->ob j=some o'->σ i=some (.at_ b c s)->σ j=some (.at_ b c' s')->i=j
 obs:∀ i o l,ob i=some o->σ i=some l->o.Rep w0.heap.size σ (imm ob σ) w l
end
section
open Go.RowKit Go.Deep
def upd {ι α:Type} [DecidableEq ι] (f:ι->α) (i:ι) (v:α) (j:ι):α:=if j=i then v else f j
section
variable {ι α:Type} [DecidableEq ι] (f:ι->α) (i j:ι) (v:α)
theorem Ar:upd f i v i=v:=by simp [upd]
theorem Aq (h:j≠i):upd f i v j=f j:=by simp [upd,h]
end
section
variable {G:World->Prop} {w0 w w':World} {ob ob':Oid->Option Ob} {σ σ':Oid->Option Loc} {K K':Nat->Prop} {lo:Nat}
theorem Ly {base:Nat} {e:TypeId} {sz:Nat} {l:Loc} {n:Nat} {cells:List Value} (h:ownsV w base e sz (l.val n) n cells) (hb:∀ b c s,l=.at_ b c s->w'.heap[b]? =w.heap[b]?):ownsV w' base e sz (l.val n) n cells:=by
 refine h.block fun k hk=>?_
 cases l with
 | nil=>cases hk
 | at_ b c s=>cases hk;exact hb _ _ _ rfl
theorem Ob.Rep.later {im im':Nat->Prop} (h:Later σ σ' im im' w w'):∀ {o:Ob} {l:Loc},o.Rep lo σ im w l->(∀ b c s,l=.at_ b c s->w'.heap[b]? =w.heap[b]?)->o.Rep lo σ' im' w' l
 | .cells _ _,.at_ b c s,⟨vs,h1,h2,h3⟩,hb=>⟨vs,(hb b c s rfl).trans h1,AV.RepL.later h _ _ h2,h3⟩
 | .cells _ _,.nil,hh,_=>hh
 | .map _ _ _,.at_ b c s,hh,hb=>MapRep.same hh (hb b c s rfl)
 | .map _ _ _,.nil,hh,_=>hh
 | .arr _ _ _,_,⟨h1,h2,h3⟩,hb=>⟨h1,Ly h2 hb,h3⟩
 | .vec _ _ _ _,_,⟨vs,h1,h2,h3,h4⟩,hb=>⟨vs,Ly h1 hb,AV.RepL.later h _ _ h2,h3,h4⟩
 | .pool _ _ _,_,hh,_=>hh
 | .mat _ _ _ _,_,hh,_=>hh
 | .tv _ _ _ _,_,hh,_=>hh
theorem Later.below (hb:Below w.heap.size w w'):Later σ σ (imm ob σ) (imm ob σ) w w' :=
 ⟨fun _ _ h=>h,fun _ _ h=>h,fun b hlt _=>hb.block b hlt,hb.size⟩
theorem Mem0.grow (h:Mem0 G w0 ob σ K w) (hb:Below w.heap.size w w') (hK:∀ n,K n->K' n):Mem0 G w0 ob σ K' w' where
 below:=h.below.trans (hb.mono h.below.size)
 inv:=h.inv
 gen i l hi:=hK _ (h.gen i l hi)
 lt i b c s hi:=⟨(h.lt i b c s hi).1,Nat.lt_of_lt_of_le (h.lt i b c s hi).2 hb.size⟩
 cap:=h.cap
 inj:=h.inj
 obs i o l ho hi:=(h.obs i o l ho hi).later (Later.below hb) fun b c s e=>hb.block b (h.lt i b c s (e▸hi)).2
theorem Later.new {i:Oid} {l:Loc} {o:Ob} (hi:σ i=none) (hb:Below w.heap.size w w') (hl:∀ b c s,l=.at_ b c s->w.heap.size<=b) :
  Later σ (upd σ i (some l)) (imm ob σ) (imm (upd ob i (some o)) (upd σ i (some l))) w w':=by
 refine ⟨fun j k hj=>?_,fun b hlt him j o' c s ho hs=>?_,fun b hlt _=>hb.block b hlt,hb.size⟩
 ·have:j≠i:=fun e=>by rw [e,hi] at hj;cases hj
  rw [Aq _ _ _ _ this];exact hj
 ·by_cases e:j=i
  ·subst e;rw [Ar] at hs;have:=hl b c s (osj hs);omega
  ·rw [Aq _ _ _ _ e] at ho hs;exact him j o' c s ho hs
theorem Mem0.new (h:Mem0 G w0 ob σ K w) {i:Oid} {l:Loc} {o:Ob} (hi:σ i=none) (hb:Below w.heap.size w w') (hl:∀ b c s,l=.at_ b c s->w.heap.size<=b/\b<w'.heap.size/\c<=maxLen)
  (hK:∀ n,K n->K' n) (hi':K' i.2) (ho:o.Rep w0.heap.size (upd σ i (some l)) (imm (upd ob i (some o)) (upd σ i (some l))) w' l):Mem0 G w0 (upd ob i (some o)) (upd σ i (some l)) K' w':=by
 have hL:=Later.new (ob:=ob) (o:=o) hi hb (fun b c s e=>(hl b c s e).1);refine ⟨h.below.trans (hb.mono h.below.size),h.inv,fun j k hj=>?_,fun j b c s hj=>?_,fun j b c s hj=>?_,fun j k b c s c' s' oj ok hoj hok hj hk=>?_,fun j oj lj hoj hj=>?_⟩
 ·by_cases e:j=i
  ·subst e;exact hi'
  ·rw [Aq _ _ _ _ e] at hj;exact hK _ (h.gen j k hj)
 ·by_cases e:j=i
  ·subst e;rw [Ar] at hj;have:=hl b c s (osj hj);exact ⟨Nat.le_trans h.below.size this.1,this.2.1⟩
  ·rw [Aq _ _ _ _ e] at hj;exact ⟨(h.lt j b c s hj).1,Nat.lt_of_lt_of_le (h.lt j b c s hj).2 hb.size⟩
 ·by_cases e:j=i
  ·subst e;rw [Ar] at hj;exact (hl b c s (osj hj)).2.2
  ·rw [Aq _ _ _ _ e] at hj;exact h.cap j b c s hj
 ·by_cases e:j=i <;> by_cases e':k=i
  ·rw [e,e']
  ·subst e;rw [Ar] at hj;rw [Aq _ _ _ _ e'] at hk;have:=(hl b c s (osj hj)).1;have:=(h.lt k b c' s' hk).2;omega
  ·subst e';rw [Ar] at hk;rw [Aq _ _ _ _ e] at hj;have:=(hl b c' s' (osj hk)).1;have:=(h.lt j b c s hj).2;omega
  ·rw [Aq _ _ _ _ e] at hj hoj;rw [Aq _ _ _ _ e'] at hk hok;exact h.inj j k b c s c' s' oj ok hoj hok hj hk
 ·by_cases e:j=i
  ·subst e;rw [Ar] at hj hoj;obtain rfl:=osj hj;obtain rfl:=osj hoj;exact ho
  ·rw [Aq _ _ _ _ e] at hj hoj;exact (h.obs j oj lj hoj hj).later hL fun b c s e'=>hb.block b (h.lt j b c s (e'▸hj)).2
structure Only (b:Nat) (w w':World):Prop where
 os:w'.os=w.os
 tape:w'.tape=w.tape
 output:w'.output=w.output
 size:w.heap.size<=w'.heap.size
 block:∀ k,k<w.heap.size->k≠b->w'.heap[k]? =w.heap[k]?
theorem Only.below {b:Nat} (h:Only b w w') (hB:lo<=b) (hl:lo<=w.heap.size):Below lo w w':=⟨h.os,h.tape,h.output,h.size,fun k hk=>h.block k oM oM⟩
theorem Only.of_below {b:Nat} (h:Below w.heap.size w w'):Only b w w':=⟨h.os,h.tape,h.output,h.size,fun k hk _=>h.block k hk⟩
theorem Later.swap {i i':Oid} {b c s c' s':Nat} {o o':Ob} (ho:ob i=some o) (hi:σ i=some (.at_ b c s)) (hi':i'=i/\c'=c/\s'=s∨σ i'=none) (hb:Only b w w') :
  Later σ (upd σ i' (some (.at_ b c' s'))) (imm ob σ) (imm (upd (upd ob i none) i' (some o')) (upd σ i' (some (.at_ b c' s')))) w w':=by
 refine ⟨fun j k hj=>?_,fun b' hlt him j oj cj sj hoj hj=>?_,fun b' hlt hp=>?_,hb.size⟩
 ·by_cases e:j=i'
  ·subst e;rcases hi' with ⟨rfl,rfl,rfl⟩|hn
   ·rw [Ar,← hi];exact hj
   ·rw [hn] at hj;cases hj
  ·rw [Aq _ _ _ _ e];exact hj
 ·by_cases e:j=i'
  ·subst e;rw [Ar] at hj;obtain ⟨rfl,_⟩:=Loc.at_.inj (osj hj);exact him i o c s ho hi
  ·rw [Aq _ _ _ _ e] at hoj hj;by_cases e2:j=i
   ·subst e2;rw [Ar] at hoj;cases hoj
   ·rw [Aq _ _ _ _ e2] at hoj;exact him j oj cj sj hoj hj
 ·exact hb.block b' hlt fun e=>hp i o c s ho (by rw [e];exact hi)
theorem Mem0.swap (h:Mem0 G w0 ob σ K w) {i i':Oid} {b c s c' s':Nat} {o o':Ob} (ho:ob i=some o) (hi:σ i=some (.at_ b c s)) (hi':i'=i/\c'=c/\s'=s∨σ i'=none) (hb:Only b w w')
  (hK:∀ n,K n->K' n) (hk:K' i'.2) (hcap:c'<=maxLen) (hr:o'.Rep w0.heap.size (upd σ i' (some (.at_ b c' s'))) (imm (upd (upd ob i none) i' (some o')) (upd σ i' (some (.at_ b c' s')))) w' (.at_ b c' s')) :
  Mem0 G w0 (upd (upd ob i none) i' (some o')) (upd σ i' (some (.at_ b c' s'))) K' w':=by
 have hL:=Later.swap (o':=o') ho hi hi' hb;have hbl:=h.lt i b c s hi;refine ⟨h.below.trans (hb.below hbl.1 h.below.size),h.inv,fun j k hj=>?_,fun j b' cj sj hj=>?_,fun j b' cj sj hj=>?_,fun j k b' cj sj ck sk oj ok hoj hok hj hk'=>?_,fun j oj lj hoj hj=>?_⟩
 ·by_cases e:j=i'
  ·subst e;exact hk
  ·rw [Aq _ _ _ _ e] at hj;exact hK _ (h.gen j k hj)
 ·by_cases e:j=i'
  ·subst e;rw [Ar] at hj;obtain ⟨rfl,_⟩:=Loc.at_.inj (osj hj);exact ⟨hbl.1,Nat.lt_of_lt_of_le hbl.2 hb.size⟩
  ·rw [Aq _ _ _ _ e] at hj;exact ⟨(h.lt j b' cj sj hj).1,Nat.lt_of_lt_of_le (h.lt j b' cj sj hj).2 hb.size⟩
 ·by_cases e:j=i'
  ·subst e;rw [Ar] at hj;obtain ⟨_,rfl,_⟩:=Loc.at_.inj (osj hj);exact hcap
  ·rw [Aq _ _ _ _ e] at hj;exact h.cap j b' cj sj hj
 ·have key:∀ j b' cj sj oj,upd (upd ob i none) i' (some o') j=some oj->upd σ i' (some (.at_ b c' s')) j=some (.at_ b' cj sj)->(j=i'/\b'=b)∨(j≠i'/\j≠i/\ob j=some oj/\σ j=some (.at_ b' cj sj)):=by
   intro j b' cj sj oj hoj hj;by_cases e:j=i'
   ·subst e;rw [Ar] at hj;exact .inl ⟨rfl,(Loc.at_.inj (osj hj)).1.symm⟩
   ·rw [Aq _ _ _ _ e] at hoj hj;by_cases e2:j=i
    ·subst e2;rw [Ar] at hoj;cases hoj
    ·rw [Aq _ _ _ _ e2] at hoj;exact .inr ⟨e,e2,hoj,hj⟩
  rcases key j b' cj sj oj hoj hj with ⟨rfl,rfl⟩|⟨n1,n2,a1,a2⟩ <;> rcases key k b' ck sk ok hok hk' with ⟨rfl,e⟩|⟨m1,m2,c1,c2⟩
  ·rfl
  ·exact absurd (h.inj k i b' ck sk c s ok o c1 ho c2 hi) m2
  ·subst e;exact absurd (h.inj j i b' cj sj c s oj o a1 ho a2 hi) n2
  ·exact h.inj j k b' cj sj ck sk oj ok a1 c1 a2 c2
 ·by_cases e:j=i'
  ·subst e;rw [Ar] at hoj hj;obtain rfl:=osj hoj;obtain rfl:=osj hj;exact hr
  ·rw [Aq _ _ _ _ e] at hoj hj;by_cases e2:j=i
   ·subst e2;rw [Ar] at hoj;cases hoj
   ·rw [Aq _ _ _ _ e2] at hoj;refine (h.obs j oj lj hoj hj).later hL fun b' cj sj el=>?_
    subst el;refine hb.block b' (h.lt j b' cj sj hj).2 fun eb=>e2 ?_
    subst eb;exact h.inj j i b' cj sj c s oj o hoj ho hj hi
end
end
section
open Go.RowKit Go.Deep
inductive Opd where
 | tmp (n:Nat)
 | cst (v:AV)
def AV.of1:Value->AV
 | .int k n=>.int k n
 | .bool b=>.bool b
 | .string s=>.str s
 | .slice none 0 0=>.nils
 | .nilIface=>.err false none
 | _=>.any
def AV.of:Value->AV
 | .agg cs=>.agg (cs.toList.map AV.of1)
 | v=>AV.of1 v
def Opd.of:Operand->Option Opd
 | .tmp t=>some (.tmp t)
 | .const v=>some (.cst (AV.of v))
 | .func f=>if f<mtd then some (.cst (.fn f [])) else none
 | .global _=>none
def Opd.ofL:List Operand->Option (List Opd)
 | []=>some []
 | x :: xs=>match Opd.of x,Opd.ofL xs with
  | some y,some ys=>some (y :: ys)
  | _,_=>none
def Opd.ev (f:Nat->AV):Opd->AV
 | .tmp n=>f n
 | .cst v=>v
section
variable {σ:Oid->Option Loc} {im:Nat->Prop} {w:World}
theorem AV.of1_rep (v:Value):AV.Rep σ im w (AV.of1 v) v:=by
 unfold AV.of1;split <;> first|rfl|trivial|exact .inl ⟨rfl,rfl⟩
theorem AV.of1_repL:∀ (l:List Value),AV.RepL σ im w (l.map AV.of1) l
 | []=>rfl
 | v :: l=>⟨v,l,rfl,AV.of1_rep v,AV.of1_repL l⟩
theorem AV.of_rep (v:Value):AV.Rep σ im w (AV.of v) v:=by
 unfold AV.of;split
 ·exact ⟨_,rfl,AV.of1_repL _⟩
 ·exact AV.of1_rep v
def TmRep (σ:Oid->Option Loc) (im:Nat->Prop) (w:World) (f:Nat->AV) (a:Act):Prop:=∀ t,AV.Rep σ im w (f t) (a.tmps.getD t undef)
theorem Opd.rep {f:Nat->AV} {a:Act} {x:Operand} {y:Opd} (h:Opd.of x=some y) (hf:∀ t,y=.tmp t->AV.Rep σ im w (f t) (a.tmps.getD t undef)):AV.Rep σ im w (y.ev f) (a.eval x):=by
 cases x <;> simp [Opd.of] at h
 ·subst h;exact hf _ rfl
 ·subst h;exact AV.of_rep _
 ·obtain ⟨h0,rfl⟩:=h;exact ⟨[],by unfold fnV;rw [if_pos h0];rfl,rfl⟩
end
def Oper.does (P:Program) (o:Oper) (a:Act) (w:World) (post:Value->World->Prop):Prop :=
 ∀ (next:Act->World->Prop) (Q:Exit->Act->World->Prop),(∀ v w',post v w'->next (a.put o.dst v) w')->o.wp P a w next Q
section
variable {P:Program} {o:Oper} {a:Act} {w w':World} {post:Value->World->Prop}
theorem Oper.does_value {v:Value} (h:(execOp a.eval o).run P w=.ok (.value v) w') (hp:post v w'):Oper.does P o a w post:=fun next Q hn=>by
 unfold Oper.wp;rw [h];exact hn v w' hp
theorem Oper.does_skip (h:(execOp a.eval o).run P w=.ok .skip w') (hp:post undef w'):Oper.does P o a w post:=fun next Q hn=>by
 unfold Oper.wp;rw [h];exact hn _ w' hp
theorem Oper.does_enter {f:FuncId} {args:Array Value} (h:(execOp a.eval o).run P w=.ok (.enter f args) w') (hp:Calls P f args w' fun e w''=>∃ v,e=.returned v/\post v w''):Oper.does P o a w post:=fun next Q hn=>by
 unfold Oper.wp;rw [h];refine Calls.mono hp ?_;rintro e w'' ⟨v,rfl,h⟩;exact hn v w'' h
end
inductive I where
 | mov (x:Opd)
 | pick (c x y:Opd)
 | alloc (ty:TypeId) (z:List AV)
 | box (ty:TypeId) (x:Opd)
 | fld (k:Nat) (x:Opd)
 | idx (sz:Nat) (x i:Opd)
 | ld (one:Bool) (m:Nat) (x:Opd)
 | bin (op:BinOp) (x y:Opd)
 | cmp (neg:Bool) (k:Nat) (x y:Opd)
 | not (x:Opd)
 | neg (x:Opd)
 | conv (k:IntKind) (x:Opd)
 | len (x:Opd)
 | lenS (x:Opd)
 | extr (k:Nat) (x:Opd)
 | char (x i:Opd)
 | mkfn (f:FuncId) (caps:List Opd)
 | idxA (t:TypeId) (n:Nat) (x i:Opd)
 | idxV (n:Nat) (x i:Opd)
 | look (mt:TypeId) (ok:Bool) (x i:Opd)
 | lenM (mt:TypeId) (x:Opd)
 | ofld (one:Bool) (m k:Nat) (x:Opd)
 | b2s (x:Opd)
 | isnil (neg:Bool) (x:Opd)
 | toI (T:TypeId) (x:Opd)
def Nm (op:BinOp) (x y:AV):Option AV :=
 match x,y with
 | .int k a,.int k' b=>if k=k' then
   match op with
   | .add=>some (.int k (k.wrap (a+b)))
   | .sub=>some (.int k (k.wrap (a - b)))
   | .mul=>some (.int k (k.wrap (a*b)))
   | .quo=>if b=0 then none else some (.int k (k.wrap (a.tdiv b)))
   | .rem=>if b=0 then none else some (.int k (a.tmod b))
   | .eql=>some (.bool (a==b))
   | .neq=>some (.bool (a !=b))
   | .lss=>some (.bool (decide (a<b)))
   | .leq=>some (.bool (decide (a<=b)))
   | .gtr=>some (.bool (decide (b<a)))
   | .geq=>some (.bool (decide (b<=a)))
   | _=>none
  else none
 | .str a,.str b =>
   match op with
   | .add=>if (a.size+b.size:Nat)<=9223372036854775807 then some (.str (a++b)) else none
   | .eql=>some (.bool (a.toList==b.toList))
   | .neq=>some (.bool (!(a.toList==b.toList)))
   | _=>none
 | _,_=>none
def Wz (neg:Bool) (x y:AV):Option AV :=
 match x,y with
 | .bool a,.bool b=>some (.bool (if neg then a !=b else a==b))
 | _,_=>none
def Xi (neg:Bool) (x y:AV):Option AV :=
 match x,y with
 | .nils,.nils=>some (.bool (!neg))
 | .tree _ xs,.nils=>some (.abool (!neg) xs.length)
 | .own _ _ _ len,.nils=>some (.abool (!neg) len)
 | _,_=>none
def Mt:List AV->Option (List Int)
 | []=>some []
 | .int .i64 n :: r=>match Mt r with
  | some l=>some (n :: l)
  | none=>none
 | _=>none
def Xg (neg:Bool) (x y:AV):Option AV :=
 match x,y with
 | .agg cs,.agg ds=>match Mt cs,Mt ds with
  | some a,some b=>if a.length=b.length then some (.bool (if neg then !(a==b) else a==b)) else none
  | _,_=>none
 | _,_=>none
def Ov (neg:Bool) (k:Nat) (x y:AV):Option AV :=
 match k with
 | 0=>Wz neg x y
 | 1=>Xi neg x y
 | 2=>none
 | n+3=>match x with
  | .agg cs=>if cs.length=n then Xg neg x y else none
  | _=>none
def J4 (P:Program):Nat->List Field->Bool
 | _,[]=>true
 | k,f :: fs=>(f.name != "_")&&((f.offset==k)&&((match P.underlying f.type with|some (.int .i64)=>true|_=>false)&&J4 P (k+1) fs))
def Ka (P:Program) (t:TypeId):Bool:=J4 P 0 (P.fieldsOf t).toList&&(!P.stoodInHeld t&& !P.eqGuardType P.depth t)
def Sx (P:Program) (t e:TypeId):Bool:=(match P.underlying e with|some (.int .i64)=>true|_=>false)&&((P.info? e).isSome&&(P.cellsOf e==1&& !P.eqGuardType P.depth t))
def Abd (P:Program) (op:BinOp) (t:TypeId):Option (Bool×Nat) :=
 match op,P.underlying t with
 | .eql,some .bool=>some (false,0)
 | .neq,some .bool=>some (true,0)
 | .eql,some (.slice _)=>some (false,1)
 | .neq,some (.slice _)=>some (true,1)
 | .eql,some (.struct fs)=>if Ka P t then some (false,fs.size+3) else none
 | .neq,some (.struct fs)=>if Ka P t then some (true,fs.size+3) else none
 | .eql,some (.array n e)=>if Sx P t e then some (false,n+3) else none
 | .neq,some (.array n e)=>if Sx P t e then some (true,n+3) else none
 | _,_=>none
def Wm (P:Program) (op:BinOp) (t:TypeId) (y:Operand):Option Bool :=
 match y,P.underlying t,op with
 | .const .nilIface,some (.interface _),.eql=>some false
 | .const .nilIface,some (.interface _),.neq=>some true
 | _,_,_=>none
def Ty.av:(t:Ty)->t.D->List AV
 | .int,n=>[.int .i64 n]
 | .bool,b=>[.bool b]
 | .str,s=>[.str s]
 | .slice t,xs=>[.tree t xs]
 | .pair a b,x=>a.av x.1++b.av x.2
def trM (m:Option (Nat->Prop)) (t:Ty) (xs:List t.D):AV :=
 match m with
 | none=>.tree t xs
 | some n=>.ftr n t xs
def Ty.avM (m:Option (Nat->Prop)):(t:Ty)->t.D->List AV
 | .int,n=>[.int .i64 n]
 | .bool,b=>[.bool b]
 | .str,s=>[.str s]
 | .slice t,xs=>[trM m t xs]
 | .pair a b,x=>a.avM m x.1++b.avM m x.2
def Cz (one:Bool) (m k:Nat) (cs:List AV):Option AV :=
 if one then cs[k]? else if k+m<=cs.length then some (.agg ((cs.drop k).take m)) else none
def Aft:(t:Ty)->t.D->AV
 | .int,n=>.int .i64 n
 | .bool,b=>.bool b
 | .pair .int .int,x=>.agg [.int .i64 x.1,.int .i64 x.2]
 | _,_=>.any
def Tt (ok:Bool) (t:Ty) (es:List (Int×t.D)) (k:Int):AV :=
 if ok then .tup [Aft t ((Dv es k).getD t.dflt),.bool (Dv es k).isSome] else Aft t ((Dv es k).getD t.dflt)
def AV.n64:AV->Option Int
 | .int .i64 n=>some n
 | _=>none
noncomputable def Wo (mt:TypeId) (c:AV):Option Int :=
 match c with
 | .int .i64 k=>if H4 k/\k3 Tryz.prog mt=some false then some k else none
 | .str s=>if s.size<=maxLen/\k3 Tryz.prog mt=none then some (Th s) else none
 | .agg cs=>match cs with
  | [x,y,z]=>match x.n64,y.n64,z.n64 with
   | some a,some b,some c=>if (H4 a/\H4 b/\H4 c)/\k3 Tryz.prog mt=some true then some (Zw a b c) else none
   | _,_,_=>none
  | _=>none
 | _=>none
theorem Sy {σ:Oid->Option Loc} {im:Nat->Prop} {w:World} {c:AV} {v:Value} {n:Int} (hr:AV.Rep σ im w c v) (h:c.n64=some n):v=.int .i64 n:=by
 unfold AV.n64 at h;split at h
 ·obtain rfl:=osj h;exact hr
 ·cases h
theorem Gi {σ:Oid->Option Loc} {im:Nat->Prop} {w:World} {mt:TypeId} {c:AV} {v:Value} {k:Int} (hr:AV.Rep σ im w c v) (h:Wo mt c=some k):KG (k3 Tryz.prog mt) k/\v=kv (k3 Tryz.prog mt) k:=by
 unfold Wo at h;split at h
 ·split at h
  ·rename_i k' hc;obtain rfl:=osj h;rw [hc.2];exact ⟨hc.1,by unfold kv;exact hr⟩
  ·cases h
 ·split at h
  ·rename_i s hc;obtain rfl:=osj h;rw [hc.2];exact ⟨⟨s,hc.1,rfl⟩,by simp only [kv,P3];exact hr⟩
  ·cases h
 ·split at h
  ·split at h
   ·rename_i a b c' q1 q2 q3;split at h
    ·rename_i hc;obtain rfl:=osj h;rw [hc.2];obtain ⟨us,rfl,_,_,rfl,h1,_,_,rfl,h2,_,_,rfl,h3,rfl⟩:=hr;refine ⟨⟨a,b,c',hc.1.1,hc.1.2.1,hc.1.2.2,rfl⟩,?_⟩;obtain rfl:=Sy h1 q1;obtain rfl:=Sy h2 q2;obtain rfl:=Sy h3 q3;simp [kv,P7]
    ·cases h
   ·cases h
  ·cases h
 ·cases h
attribute [irreducible] Wo
noncomputable def evN (f:Nat->AV) (i:Oid):I->Option (AV×List (Oid×Option Ob))
 | .mov x=>some (x.ev f,[])
 | .pick c x y=>match c.ev f with
  | .bool b=>some (if b then x.ev f else y.ev f,[])
  | _=>none
 | .alloc ty z=>some (.box i 0,[(i,some (.cells ty z))])
 | .box ty x=>match x.ev f with
  | .agg cs=>if cs.all AV.one then some (.box i 0,[(i,some (.cells ty cs))]) else none
  | c=>if c.one then some (.box i 0,[(i,some (.cells ty [c]))]) else none
 | .fld k x=>match x.ev f with
  | .box j n=>some (.box j (n+k),[])
  | .elt j e n=>some (.elt j e (n+k),[])
  | .telt m t y n=>some (.telt m t y (n+k),[])
  | .ref cs=>some (.ref (cs.drop k),[])
  | _=>none
 | .idx sz x n=>match (x.ev f).un,n.ev f with
  | .tree t xs,.int _ n=>if sz=t.size then if 0<=n then (xs[n.toNat]?).map fun y=>(.telt (x.ev f).tag t y 0,[]) else none else none
  | .own j t off len,.int _ n=>if sz=t.size then if 0<=n/\n<len then some (.elt j (off+n.toNat) 0,[]) else none else none
  | _,_=>none
 | .ld one m x=>match x.ev f with
  | .telt g t y k=>(Cz one m k (t.avM g y)).map fun v=>(v,[])
  | .ref cs=>(Cz one m 0 cs).map fun v=>(v,[])
  | _=>none
 | .bin op x y=>(Nm op (x.ev f) (y.ev f)).map fun v=>(v,[])
 | .cmp neg k x y=>(Ov neg k (x.ev f).un (y.ev f)).map fun v=>(v,[])
 | .not x=>match x.ev f with
  | .bool b=>some (.bool (!b),[])
  | _=>none
 | .neg x=>match x.ev f with
  | .int k n=>some (.int k (k.wrap (0 - n)),[])
  | _=>none
 | .conv k x=>match x.ev f with
  | .int _ n=>some (.int k (k.wrap n),[])
  | _=>none
 | .len x=>match (x.ev f).un with
  | .tree _ xs=>some (.int .i64 xs.length,[])
  | .own _ _ _ n=>some (.int .i64 n,[])
  | .nils=>some (.int .i64 (0:Nat),[])
  | _=>none
 | .lenS x=>match x.ev f with
  | .str s=>some (.int .i64 s.size,[])
  | _=>none
 | .extr k x=>match x.ev f with
  | .tup vs=>(vs[k]?).map fun v=>(v,[])
  | _=>none
 | .char x n=>match x.ev f,n.ev f with
  | .str s,.int _ n=>if 0<=n then (s[n.toNat]?).map fun b=>(.int .u8 b.toNat,[]) else none
  | _,_=>none
 | .mkfn g caps=>some (.fn g (caps.map (Opd.ev f)),[])
 | .idxA _ m0 x n=>match x.ev f,n.ev f with
  | .box j k,.int _ m=>if 0<=m/\m<(m0:Int) then some (.box j (k+m.toNat),[]) else none
  | .elt j e k,.int _ m=>if 0<=m/\m<(m0:Int) then some (.elt j e (k+m.toNat),[]) else none
  | _,_=>none
 | .look mt ok x n=>match x.ev f,Wo mt (n.ev f) with
  | .mtree mt' t es,some k=>if mt=mt' then some (Tt ok t es k,[]) else none
  | _,_=>none
 | .lenM mt x=>match x.ev f with
  | .mtree mt' _ es=>if mt=mt' then some (.int .i64 es.length,[]) else none
  | _=>none
 | .idxV m0 x n=>match x.ev f,n.ev f with
  | .agg cs,.int _ m=>if 0<=m/\m<(m0:Int) then (cs[m.toNat]?).map fun v=>(v,[]) else none
  | _,_=>none
 | .ofld one m k x=>match x.ev f with
  | .agg cs=>(Cz one m k cs).map fun v=>(v,[])
  | _=>none
 | .b2s _=>none
 | .isnil neg x=>match x.ev f with
  | .err b _=>some (.bool (if neg then b else !b),[])
  | _=>none
 | .toI T x=>match x.ev f with
  | .agg cs=>some (.err true (some (T,match Mt cs with|some l=>.inr l|none=>.inl cs.length)),[])
  | _=>none
def N7:List AV->Option (List Int)
 | []=>some []
 | .int .u8 n :: r=>match N7 r with
  | some l=>some (n :: l)
  | none=>none
 | _=>none
noncomputable def evR (f:Nat->AV) (ob:Oid->Option Ob):I->Option AV
 | .ld one m x=>match x.ev f with
  | .box j k=>match ob j with
   | some (.cells _ cs)=>Cz one m k cs
   | _=>none
  | .elt j e k=>match ob j with
   | some (.arr _ t xs)=>match xs[e]? with
    | some y=>Cz one m k (t.av y)
    | none=>none
   | some (.vec _ sz _ cs)=>Cz one m (e*sz+k) cs
   | _=>none
  | _=>none
 | .look mt ok x n=>match x.ev f,Wo mt (n.ev f) with
  | .mp j,some k=>match ob j with
   | some (.map mt' t es)=>if mt=mt' then some (Tt ok t es k) else none
   | _=>none
  | _,_=>none
 | .lenM mt x=>match x.ev f with
  | .mp j=>match ob j with
   | some (.map mt' _ es)=>if mt=mt' then some (.int .i64 es.length) else none
   | _=>none
  | _=>none
 | .b2s x=>match x.ev f with
  | .own j t off len=>match ob j with
   | some (.vec _ sz n cs)=>if sz=1/\t.size=1/\off=0/\len=n/\0<n then (N7 cs).map fun l=>.str (strOfNums l) else none
   | _=>none
  | _=>none
 | _=>none
theorem U0 {σ:Oid->Option Loc} {im:Nat->Prop} {w:World}:∀ (t:Ty) (x:t.D),AV.Rep σ im w (Aft t x) (I7 t x)
 | .int,_=>rfl
 | .bool,_=>rfl
 | .str,_=>trivial
 | .slice _,_=>trivial
 | .pair a b,x=>by
  cases a with
  | int=>cases b with
   | int=>exact ⟨[_,_],rfl,_,_,rfl,rfl,_,_,rfl,rfl,rfl⟩
   | _=>trivial
  | _=>trivial
theorem Pa {σ:Oid->Option Loc} {im:Nat->Prop} {w:World} (ok:Bool) (t:Ty) (es:List (Int×t.D)) (k:Int):AV.Rep σ im w (Tt ok t es k) (if ok then .tuple #[I7 t ((Dv es k).getD t.dflt),.bool (Dv es k).isSome] else I7 t ((Dv es k).getD t.dflt)):=by
 cases ok
 ·exact U0 _ _
 ·exact ⟨[_,_],rfl,_,_,rfl,U0 _ _,_,_,rfl,rfl,rfl⟩
def Id (P:Program) (t:TypeId):Option (Bool×Nat) :=
 match P.underlying t,P.info? t with
 | some (.struct _),some i|some (.array _ _),some i=>some (false,i.size)
 | some _,some i=>if i.size=1 then some (true,1) else none
 | _,_=>none
def V6 (P:Program) (s:TypeId) (k:Nat):Option Nat :=
 match P.underlying s with
 | some (.struct fs)=>match fs[k]? with
  | some g=>match P.info? g.type with
   | some i=>if i.size=0 then none else some g.offset
   | none=>none
  | none=>none
 | _=>none
def Ae6 (P:Program) (s:TypeId) (k:Nat):Option ((Bool×Nat)×Nat) :=
 match P.underlying s with
 | some (.struct fs)=>match fs[k]? with
  | some g=>(Id P g.type).map fun q=>(q,g.offset)
  | none=>none
 | _=>none
def Ga (P:Program) (t:TypeId):Option Nat :=
 match P.underlying t with
 | some (.slice e)=>(P.info? e).map (·.size)
 | _=>none
def La (P:Program) (t:TypeId):Option Nat :=
 match P.underlying t with
 | some (.array m0 e)=>match (P.info? e).map (·.size),P.underlying e with
  | some 1,some (.int .i64)=>some m0
  | _,_=>none
 | _=>none
def I.of (P:Program) (o:Oper):Option I :=
 match o.op with
 | .move x=>(Opd.of x).map .mov
 | .assign x=>(Opd.of x).map .mov
 | .pick c x y=>match Opd.of c,Opd.of x,Opd.of y with
  | some c,some x,some y=>some (.pick c x y)
  | _,_,_=>none
 | .alloc e=>if (La P e).isSome then none else match P.info? e with
  | some i=>match i.zero with
   | some z=>if z.cells.toList.all (·.oneCell') then some (.alloc e (z.cells.toList.map AV.of1)) else none
   | none=>none
  | none=>none
 | .box e x=>(Opd.of x).map (.box e)
 | .fieldAddr s x k=>match V6 P s k,Opd.of x with
  | some n,some x=>some (.fld n x)
  | _,_=>none
 | .indexAddr t x n=>match La P t with
  | some m0=>match Opd.of x,Opd.of n with
   | some x,some n=>some (.idxA t m0 x n)
   | _,_=>none
  | none=>match Ga P t,Opd.of x,Opd.of n with
   | some sz,some x,some n=>some (.idx sz x n)
   | _,_,_=>none
 | .load t x=>match Id P t,Opd.of x with
  | some (one,m),some x=>some (.ld one m x)
  | _,_=>none
 | .binOp op t x y _=>match Wm P op t y with
  | some ng=>(Opd.of x).map (.isnil ng)
  | none=>match Opd.of x,Opd.of y with
   | some x,some y=>match Abd P op t with
    | some (ng,k)=>some (.cmp ng k x y)
    | none=>some (.bin op x y)
   | _,_=>none
 | .unOp .not _ x=>(Opd.of x).map .not
 | .unOp .neg _ x=>(Opd.of x).map .neg
 | .convert s d x=>match P.underlying s,P.underlying d,Opd.of x with
  | some (.int _),some (.int k),some x=>some (.conv k x)
  | some (.slice e),some .string,some x=>match P.underlying e with
   | some (.int .u8)=>some (.b2s x)
   | _=>none
  | _,_,_=>none
 | .call c=>match c.callee,c.args.toList,c.argTypes.toList with
  | .builtin .len,[x],[t]=>match P.underlying t,Opd.of x with
   | some (.slice _),some x=>some (.len x)
   | some .string,some x=>some (.lenS x)
   | some (.map _ _),some x=>some (.lenM t x)
   | _,_=>none
  | _,_,_=>none
 | .extract x k=>(Opd.of x).map (.extr k)
 | .lookup t x n ok=>match P.underlying t,Opd.of x,Opd.of n with
  | some (.map _ _),some x,some n=>some (.look t ok x n)
  | _,_,_=>none
 | .index t x n=>match La P t with
  | some m0=>match Opd.of x,Opd.of n with
   | some x,some n=>some (.idxV m0 x n)
   | _,_=>none
  | none=>match P.underlying t,Opd.of x,Opd.of n with
   | some .string,some x,some n=>some (.char x n)
   | _,_,_=>none
 | .makeFunc (.func g) first caps=>if g<mtd then (if first.toList.isEmpty then (Opd.ofL caps.toList).map (.mkfn g) else if caps.toList.isEmpty then (Opd.ofL first.toList).map (.mkfn (g+mtd)) else none) else none
 | .field s x k=>match Ae6 P s k,Opd.of x with
  | some q,some x=>some (.ofld q.1.1 q.1.2 q.2 x)
  | _,_=>none
 | .makeInterface T x=>match P.underlying T with
  | some (.struct _)=>(Opd.of x).map (.toI T)
  | _=>none
 | _=>none
end
section
open Go.RowKit Go.Deep
def Ae (us:List (Oid×Option Ob)) (ob:Oid->Option Ob):Oid->Option Ob:=us.foldl (fun ob u=>upd ob u.1 u.2) ob
def Goes (G:World->Prop) (w0:World) (ob':Oid->Option Ob) (K':Nat->Prop) (σ:Oid->Option Loc) (im:Nat->Prop) (w:World) (v:AV) (u:Value) (w':World):Prop :=
 ∃ σ',Later σ σ' im (imm ob' σ') w w'/\Mem0 G w0 ob' σ' K' w'/\AV.Rep σ' (imm ob' σ') w' v u
section
variable {P:Program} {G:World->Prop} {w0 w w':World} {ob:Oid->Option Ob} {σ:Oid->Option Loc} {K K':Nat->Prop}
theorem Mem0.wide (h:Mem0 G w0 ob σ K w) (hK:∀ n,K n->K' n):Mem0 G w0 ob σ K' w:=h.grow (Below.refl _ _) hK
theorem Goes.same (h:Mem0 G w0 ob σ K w) (hK:∀ n,K n->K' n) {v:AV} {u:Value} (hr:AV.Rep σ (imm ob σ) w v u):Goes G w0 ob K' σ (imm ob σ) w v u w :=
 ⟨σ,Later.refl _ _ _,h.wide hK,hr⟩
theorem Goes.fresh (h:Mem0 G w0 ob σ K w) {i:Oid} (hi:¬ K i.2):σ i=none:=by
 cases hs:σ i with
 | none=>rfl
 | some l=>exact absurd (h.gen i l hs) hi
theorem Goes.box (h:Mem0 G w0 ob σ K w) (hK:∀ n,K n->K' n) {i:Oid} (hi:¬ K i.2) (hi':K' i.2) {ty:TypeId} {cs:List AV} {vs:List Value} (hr:AV.RepL σ (imm ob σ) w cs vs) (h1:∀ v∈vs,v.oneCell'=true) :
  Goes G w0 (upd ob i (some (.cells ty cs))) K' σ (imm ob σ) w (.box i 0) (.pointer (some ⟨w.heap.size,0,none⟩)) (w.alloc (.cells vs.toArray ty)):=by
 have hs:=Goes.fresh h hi;have hb:Below w.heap.size w (w.alloc (.cells vs.toArray ty)):=(Below.refl _ _).alloc (Nat.le_refl _) _;have hL:=Later.new (ob:=ob) (i:=i) (l:=.at_ w.heap.size 0 0) (o:=.cells ty cs) hs hb (fun b c s e=>by cases e;exact Nat.le_refl _);refine ⟨_,hL,h.new hs hb (fun b c s e=>by cases e;exact ⟨Nat.le_refl _,by simp,Nat.zero_le _⟩) hK hi' ?_,⟨w.heap.size,0,0,Ar _ _ _,rfl⟩⟩;exact ⟨vs,by show (w.heap.push _)[w.heap.size]? =_;simp,AV.RepL.later hL _ _ hr,h1⟩
theorem Ty.av_rep {im:Nat->Prop}:∀ {t:Ty} {a:Addr} {x:t.D} {l:List Addr},Ty.Mem im w t a x l ->
  (t.av x).length=t.size/\∀ j,j<t.size->∃ v c,w.cell? (a.add j)=some v/\(t.av x)[j]? =some c/\AV.Rep σ im w c v
 | .int,a,_,_,⟨h,_⟩=>⟨rfl,fun j hj=>by
   obtain rfl:j=0:=by simp [Ty.size] at hj;omega
   exact ⟨_,_,by rw [Addr.add_zero'];exact h,rfl,rfl⟩⟩
 | .bool,a,_,_,⟨h,_⟩=>⟨rfl,fun j hj=>by
   obtain rfl:j=0:=by simp [Ty.size] at hj;omega
   exact ⟨_,_,by rw [Addr.add_zero'];exact h,rfl,rfl⟩⟩
 | .str,a,_,_,⟨h,_⟩=>⟨rfl,fun j hj=>by
   obtain rfl:j=0:=by simp [Ty.size] at hj;omega
   exact ⟨_,_,by rw [Addr.add_zero'];exact h,rfl,rfl⟩⟩
 | .slice t,a,_,l,⟨A,c,h,he⟩=>⟨rfl,fun j hj=>by
   obtain rfl:j=0:=by simp [Ty.size] at hj;omega
   exact ⟨_,_,by rw [Addr.add_zero'];exact h,rfl,A,c,l,rfl,he⟩⟩
 | .pair t u,a,x,_,⟨l1,l2,h1,h2,_⟩=>by
   obtain ⟨n1,c1⟩:=Ty.av_rep h1;obtain ⟨n2,c2⟩:=Ty.av_rep (a:=a.add t.size) h2;refine ⟨by simp [Ty.av,n1,n2,Ty.size],fun j hj=>?_⟩;simp only [Ty.av];by_cases hlt:j<t.size
   ·rw [List.getElem?_append_left oM];exact c1 j hlt
   ·rw [List.getElem?_append_right oM,n1];obtain ⟨v,c,e1,e2,e3⟩:=c2 (j - t.size) (by simp only [Ty.size] at hj;omega);rw [Bt,show t.size+(j - t.size)=j by omega] at e1;exact ⟨v,c,e1,e2,e3⟩
theorem Ty.avM_rep {im:Nat->Prop} (g:Option (Nat->Prop)):∀ {t:Ty} {a:Addr} {x:t.D} {l:List Addr},Ty.Mem (mR g im) w t a x l ->
  (t.avM g x).length=t.size/\∀ j,j<t.size->∃ v c,w.cell? (a.add j)=some v/\(t.avM g x)[j]? =some c/\AV.Rep σ im w c v
 | .int,a,_,_,⟨h,_⟩=>⟨rfl,fun j hj=>by
   obtain rfl:j=0:=by simp [Ty.size] at hj;omega
   exact ⟨_,_,by rw [Addr.add_zero'];exact h,rfl,rfl⟩⟩
 | .bool,a,_,_,⟨h,_⟩=>⟨rfl,fun j hj=>by
   obtain rfl:j=0:=by simp [Ty.size] at hj;omega
   exact ⟨_,_,by rw [Addr.add_zero'];exact h,rfl,rfl⟩⟩
 | .str,a,_,_,⟨h,_⟩=>⟨rfl,fun j hj=>by
   obtain rfl:j=0:=by simp [Ty.size] at hj;omega
   exact ⟨_,_,by rw [Addr.add_zero'];exact h,rfl,rfl⟩⟩
 | .slice t,a,_,l,⟨A,c,h,he⟩=>⟨rfl,fun j hj=>by
   obtain rfl:j=0:=by simp [Ty.size] at hj;omega
   refine ⟨_,_,by rw [Addr.add_zero'];exact h,rfl,?_⟩;cases g with
   | none=>exact ⟨A,c,l,rfl,he⟩
   | some R=>exact ⟨A,c,l,rfl,he⟩⟩
 | .pair t u,a,x,_,⟨l1,l2,h1,h2,_⟩=>by
   obtain ⟨n1,c1⟩:=Ty.avM_rep g h1;obtain ⟨n2,c2⟩:=Ty.avM_rep g (a:=a.add t.size) h2;refine ⟨by simp [Ty.avM,n1,n2,Ty.size],fun j hj=>?_⟩;simp only [Ty.avM];by_cases hlt:j<t.size
   ·rw [List.getElem?_append_left oM];exact c1 j hlt
   ·rw [List.getElem?_append_right oM,n1];obtain ⟨v,c,e1,e2,e3⟩:=c2 (j - t.size) (by simp only [Ty.size] at hj;omega);rw [Bt,show t.size+(j - t.size)=j by omega] at e1;exact ⟨v,c,e1,e2,e3⟩
theorem Ks {im:Nat->Prop} {t:TypeId} {one:Bool} {m k:Nat} {cs:List AV} {c:AV} {ad:Addr} (ht:Id P t=some (one,m)) (hl:Cz one m k cs=some c)
  (hc:∀ j d,cs[k+j]? =some d->∃ v,w.cell? (ad.add j)=some v/\AV.Rep σ im w d v):∃ v,(Instr.loadAt t (.pointer (some ad))).run P w=.ok v w/\AV.Rep σ im w c v:=by
 unfold Id at ht
 have agg:∀ i,P.info? t=some i->(isAgg t).run P w=.ok true w->Cz false i.size k cs=some c->∃ v,(Instr.loadAt t (.pointer (some ad))).run P w=.ok v w/\AV.Rep σ im w c v:=by
  intro i hi ha hl;simp only [Cz] at hl;simp at hl;obtain ⟨hle,rfl⟩:=hl
  have hex:∀ j,j<i.size->∃ v,w.cell? (ad.add j)=some v/\∀ d,cs[k+j]? =some d->AV.Rep σ im w d v:=by
   intro j hj;obtain ⟨v,h1,h2⟩:=hc j (cs[k+j]'oM) (gEg oM);exact ⟨v,h1,fun d hd=>by rw [gEg oM] at hd;obtain rfl:=osj hd;exact h2⟩
  have hg:∃ g:Nat->Value,∀ j,j<i.size->w.cell? (ad.add j)=some (g j)/\∀ d,cs[k+j]? =some d->AV.Rep σ im w d (g j):=Deep.choose_lt hex;obtain ⟨g,hg⟩:=hg;refine ⟨.agg ((List.range i.size).map g).toArray,?_,⟨_,rfl,AV.RepL.of_get (by simp;omega) (fun j d v h1 h2=>?_)⟩⟩
  ·have:=run_loadCells (P:=P) (w:=w) ad i.size g (fun j hj=>(hg j hj).1);simp only [Instr.loadAt,Instr.sureAddr,loadVar,Sem.run_bind,Sem.run_pure,Result.andThen_ok,ha,if_true,sizeOf,typeInfo,run_program,hi,this]
  ·rw [List.getElem?_take] at h1;split at h1
   ·rename_i hj;rw [List.getElem?_drop] at h1;rw [List.getElem?_map,List.getElem?_range hj] at h2;simp at h2;subst h2;exact (hg j hj).2 d h1
   ·cases h1
 split at ht
 ·rename_i fs i hu hi;simp at ht;obtain ⟨rfl,rfl⟩:=ht;exact agg i hi (by simp [isAgg,run_underlying hu]) hl
 ·rename_i n e i hu hi;simp at ht;obtain ⟨rfl,rfl⟩:=ht;exact agg i hi (by simp [isAgg,run_underlying hu]) hl
 ·rename_i d i h1 h2 hu hi;split at ht
  ·simp at ht;obtain ⟨rfl,rfl⟩:=ht;simp only [Cz,if_true] at hl;obtain ⟨v,hv,hr⟩:=hc 0 c (by simpa using hl);refine ⟨v,?_,hr⟩;rw [Addr.add_zero'] at hv
   have ha:(isAgg t).run P w=.ok false w:=by
    unfold isAgg;rw [Sem.run_bind,run_underlying hu];cases d <;> first|rfl|(exact absurd rfl (h1 _))|(exact absurd rfl (h2 _ _))
   simp [Instr.loadAt,Instr.sureAddr,loadVar,ha,hv]
  ·cases ht
 ·cases ht
theorem Zy {im:Nat->Prop} {t:TypeId} {one:Bool} {m k:Nat} {cs:List AV} {c:AV} {us:List Value} (ht:Id P t=some (one,m)) (hl:Cz one m k cs=some c) (hr:AV.RepL σ im w cs us) :
  ∃ v,(part t us.toArray k).run P w=.ok v w/\AV.Rep σ im w c v:=by
 unfold Id at ht
 have agg:∀ i,P.info? t=some i->(isAgg t).run P w=.ok true w->Cz false i.size k cs=some c->∃ v,(part t us.toArray k).run P w=.ok v w/\AV.Rep σ im w c v:=by
  intro i hi ha hl;simp only [Cz] at hl;simp at hl;obtain ⟨hle,rfl⟩:=hl;have hln:=hr.length;refine ⟨.agg ((us.drop k).take i.size).toArray,?_,⟨_,rfl,AV.RepL.of_get (by simp;omega) (fun j d v h1 h2=>?_)⟩⟩
  ·have e:us.toArray.extract k (k+i.size)=((us.drop k).take i.size).toArray:=by
    simp only [List.extract_toArray,List.extract_eq_take_drop,Nat.add_sub_cancel_left]
   simp only [part,Sem.run_bind,ha,Result.andThen_ok,if_true,sizeOf,typeInfo,run_program,hi,Sem.run_pure,e]
  ·rw [List.getElem?_take] at h1 h2;split at h1
   ·rename_i hj;rw [if_pos hj] at h2;rw [List.getElem?_drop] at h1 h2;obtain ⟨v',e1,e2⟩:=hr.get h1;rw [h2] at e1;obtain rfl:=osj e1;exact e2
   ·cases h1
 split at ht
 ·rename_i fs i hu hi;simp at ht;obtain ⟨rfl,rfl⟩:=ht;exact agg i hi (by simp [isAgg,run_underlying hu]) hl
 ·rename_i n e i hu hi;simp at ht;obtain ⟨rfl,rfl⟩:=ht;exact agg i hi (by simp [isAgg,run_underlying hu]) hl
 ·rename_i d i h1 h2 hu hi;split at ht
  ·simp at ht;obtain ⟨rfl,rfl⟩:=ht;simp only [Cz,if_true] at hl;obtain ⟨v,hv,hr⟩:=hr.get hl;refine ⟨v,?_,hr⟩
   have ha:(isAgg t).run P w=.ok false w:=by
    unfold isAgg;rw [Sem.run_bind,run_underlying hu];cases d <;> first|rfl|(exact absurd rfl (h1 _))|(exact absurd rfl (h2 _ _))
   simp [part,ha,hv]
  ·cases ht
 ·cases ht
theorem O0 {o:Oper} {a:Act} {x:Operand} (h:o.op=.move x∨o.op=.assign x):(execOp a.eval o).run P w=.ok (.value (a.eval x)) w:=by
 rcases h with h|h <;> simp [execOp,h]
theorem It {s:TypeId} {k n:Nat} (h:V6 P s k=some n) (ad:Addr):(Instr.fieldAt s (.pointer (some ad)) k).run P w=.ok (.pointer (some (ad.add n))) w:=by
 unfold V6 at h;split at h
 ·rename_i fs hs;split at h
  ·rename_i g hg;split at h
   ·rename_i i hi;split at h
    ·cases h
    ·rename_i hsz;obtain rfl:=osj h;simp [Instr.fieldAt,run_underlying hs,hg,Instr.sureAddr,fieldPlace,sizeOf,typeInfo,hi,hsz]
   ·cases h
  ·cases h
 ·cases h
theorem Lq {t:TypeId} {sz:Nat} (h:Ga P t=some sz) (ad:Addr) (len cap:Nat) (k:IntKind) (n:Int) (hn:0<=n/\n<len) :
  (Instr.indexAt t (.slice (some ad) len cap) (.int k n)).run P w=.ok (.pointer (some (ad.add (n.toNat*sz)))) w:=by
 unfold Ga at h;split at h
 ·rename_i e he;obtain ⟨i,hi,rfl⟩:=oms.1 h;simp [Instr.indexAt,run_underlying he,asIntOf,hn,sizeOf,typeInfo,hi]
 ·cases h
theorem Qp {t:TypeId} {len:Nat} (h:La P t=some len) (ad:Addr) (k:IntKind) (n:Int) (hn:0<=n/\n<len) :
  (Instr.indexAt t (.pointer (some ad)) (.int k n)).run P w=.ok (.pointer (some (ad.add n.toNat))) w:=by
 unfold La at h;split at h
 ·rename_i len' e he;split at h
  ·rename_i hi _;obtain rfl:=osj h;obtain ⟨i,hi,hs⟩:=oms.1 hi;simp [Instr.indexAt,run_underlying he,asIntOf,hn,sizeOf,typeInfo,hi,hs,Instr.sureAddr]
  ·cases h
 ·cases h
theorem Tr {t:TypeId} {len:Nat} (h:La P t=some len) (cs:Array Value) (k:IntKind) (n:Int) (hn:0<=n/\n<len) {v:Value} (hv:cs[n.toNat]? =some v) :
  (Instr.index t (.agg cs) (.int k n)).run P w=.ok v w:=by
 unfold La at h;split at h
 ·rename_i len' e he;split at h
  ·rename_i hi hu;obtain rfl:=osj h;obtain ⟨i,hi,hs⟩:=oms.1 hi;simp [Instr.index,run_underlying he,run_underlying hu,asIntOf,hn,sizeOf,typeInfo,hi,hs,part,isAgg,hv]
  ·cases h
 ·cases h
theorem Z3 {op:BinOp} {t:TypeId} {x y:Operand} {u v:AV} {c:AV} {ux vy:Value} {im:Nat->Prop} (h:Nm op u v=some c) (hu:AV.Rep σ im w u ux) (hv:AV.Rep σ im w v vy) :
  ∃ r,((do eqGuard op t x y ux vy;binOp op t ux vy:Sem Value)).run P w=.ok r w/\AV.Rep σ im w c r:=by
 unfold Nm at h;split at h
 ·rename_i k a k' b;have hu':ux=.int k a:=hu;have hv':vy=.int k' b:=hv;subst hu' hv';split at h
  ·rename_i hk;subst hk
   split at h <;> first
    | (obtain rfl:=osj h;refine ⟨_,?_,rfl⟩;simp [eqGuard_at_int,binOp,Op.intArith,Op.intCmp];done)
    | skip
   ·split at h
    ·cases h
    ·rename_i hb;obtain rfl:=osj h;exact ⟨_,by simp [eqGuard_at_int,binOp,Op.intDiv,hb],rfl⟩
   ·split at h
    ·cases h
    ·rename_i hb;obtain rfl:=osj h;exact ⟨_,by simp [eqGuard_at_int,binOp,Op.intDiv,hb],rfl⟩
   ·cases h
  ·cases h
 ·rename_i a b;have hu':ux=.string a:=hu;have hv':vy=.string b:=hv;subst hu' hv';split at h
  ·split at h
   ·rename_i hs;obtain rfl:=osj h;have hs':¬ (9223372036854775807:Int)<(a.size:Int)+(b.size:Int):=by omega
    exact ⟨_,by simp [eqGuard_at_string,binOp,Op.stringOp,hs'],rfl⟩
   ·cases h
  ·obtain rfl:=osj h;exact ⟨_,by simp [eqGuard_at_string,binOp,Op.stringOp],rfl⟩
  ·obtain rfl:=osj h;exact ⟨_,by simp [eqGuard_at_string,binOp,Op.stringOp],rfl⟩
  ·cases h
 ·cases h
theorem Tz {t e:TypeId} (d:Nat) (ht:P.underlying t=some (.slice e)) (A:Option Addr) (n c:Nat):(Op.equalIn (d+1) t (.slice A n c) (.slice none 0 0)).run P w=.ok A.isNone w:=by
 cases A <;> simp [Op.equalIn,run_underlying ht]
theorem Uu {t e:TypeId} (ht:P.underlying t=some (.slice e)) (A:Option Addr) (n c:Nat):(Op.equal t (.slice A n c) (.slice none 0 0)).run P w=.ok A.isNone w:=Tz 9999 ht A n c
theorem Q3 {t:TypeId} (d:Nat) (ht:P.underlying t=some .bool) (a b:Bool):(Op.equalIn (d+1) t (.bool a) (.bool b)).run P w=.ok (a==b) w:=by
 simp [Op.equalIn,run_underlying ht]
theorem Ln {t:TypeId} (ht:P.underlying t=some .bool) (a b:Bool):(Op.equal t (.bool a) (.bool b)).run P w=.ok (a==b) w:=Q3 9999 ht a b
theorem Fx {im:Nat->Prop}:∀ {cs:List AV} {vs:List Value} {a:List Int},AV.RepL σ im w cs vs->Mt cs=some a->vs=a.map (Value.int .i64)
 | [],_,_,hr,h=>by
  obtain rfl:=osj h;exact hr
 | c :: cs,_,a,⟨u,us,e,h1,h2⟩,h=>by
  subst e;unfold Mt at h;split at h
  ·rename_i he;cases he
  ·rename_i n r he;obtain ⟨rfl,rfl⟩:=List.cons.inj he;split at h
   ·rename_i l hl;obtain rfl:=osj h;rw [show u=.int .i64 n from h1,Fx h2 hl];rfl
   ·cases h
  ·cases h
theorem Lw (d:Nat):∀ (fs:List Field) (k:Nat) (a b:List Int),J4 P k fs=true->a.length=k+fs.length->b.length=k+fs.length->(Op.eqFields (d+1) (a.map (Value.int .i64)).toArray (b.map (Value.int .i64)).toArray fs).run P w=.ok (a.drop k==b.drop k) w
 | [],k,a,b,_,h1,h2=>by
  rw [List.drop_of_length_le (by simp at h1;omega),List.drop_of_length_le (by simp at h2;omega)];simp [Op.eqFields]
 | f :: fs,k,a,b,h,h1,h2=>by
  simp only [J4,Bool.and_eq_true] at h;obtain ⟨n1,n2,n3,n4⟩:=h;have n2:f.offset=k:=by simpa using n2
  have hn:f.name ≠ "_" := by simpa using n1
  have ht:P.underlying f.type=some (.int .i64):=by split at n3;assumption;cases n3
  rw [List.length_cons] at h1 h2;have ka:k<a.length:=by omega
  have kb:k<b.length:=by omega
  have p1:∀ (l:List Int) (hk:k<l.length),(part f.type (l.map (Value.int .i64)).toArray f.offset).run P w=.ok (.int .i64 l[k]) w:=fun l hk=>by
   simp [part,isAgg,run_underlying ht,n2,hk]
  have ih:=Lw d fs (k+1) a b n4 oM oM;rw [List.drop_eq_getElem_cons ka,List.drop_eq_getElem_cons kb];simp only [Op.eqFields,if_pos hn,Sem.run_bind,p1 a ka,p1 b kb,Result.andThen_ok,run_equalIn_int w d f.type .i64 .i64 a[k] b[k] ht,Sem.run_ite,Sem.run_pure,ih];cases hab:a[k]==b[k]
  ·have:(a[k] :: a.drop (k+1)==b[k] :: b.drop (k+1))=false:=by rw [List.cons_beq_cons,hab,Bool.false_and]
   rw [this];simp
  ·have:(a[k] :: a.drop (k+1)==b[k] :: b.drop (k+1))=(a.drop (k+1)==b.drop (k+1)):=by rw [List.cons_beq_cons,hab,Bool.true_and]
   rw [this];simp
theorem Nf (d:Nat) {e:TypeId} (he:P.underlying e=some (.int .i64)) (a b:List Int):∀ is:List Nat,(∀ i∈is,i<a.length/\i<b.length)->(Op.eqItems (d+1) e 1 (a.map (Value.int .i64)).toArray (b.map (Value.int .i64)).toArray is).run P w=.ok (is.all fun i=>a[i]? ==b[i]?) w
 | [],_=>by simp [Op.eqItems]
 | i :: is,h=>by
  have ih:=Nf d he a b is (fun j hj=>h j (List.mem_cons_of_mem _ hj));obtain ⟨ha,hb⟩:=h i (List.mem_cons_self ..)
  have p1:∀ (l:List Int) (hi:i<l.length),(part e (l.map (Value.int .i64)).toArray (i*1)).run P w=.ok (.int .i64 l[i]) w:=fun l hi=>by
   simp [part,isAgg,run_underlying he,hi]
  simp only [Op.eqItems,Sem.run_bind,p1 a ha,p1 b hb,Result.andThen_ok,run_equalIn_int w d e .i64 .i64 a[i] b[i] he];rw [List.all_cons,gEg ha,gEg hb];have hq:(some a[i]==some b[i])=(a[i]==b[i]):=rfl;rw [hq];cases hab:a[i]==b[i]
  ·simp
  ·simpa using ih
theorem Ta {a b:List Int} {n:Nat} (h1:a.length=n) (h2:b.length=n):((List.range n).all fun i=>a[i]? ==b[i]?)=(a==b):=by
 rw [Bool.eq_iff_iff,List.all_eq_true,beq_iff_eq];constructor
 ·intro h;apply List.ext_getElem?;intro i;by_cases hi:i<n
  ·exact beq_iff_eq.1 (h i (List.mem_range.2 hi))
  ·rw [List.getElem?_eq_none oM,List.getElem?_eq_none oM]
 ·intro h i _;rw [h];simp
theorem Y8 {op:BinOp} {t:TypeId} {neg:Bool} {k:Nat} {x y:Operand} {u v:AV} {c:AV} {ux vy:Value} {im:Nat->Prop} (ho:Abd P op t=some (neg,k)) (h0:Ov neg k u v=some c) (hu:AV.Rep σ im w u ux) (hv:AV.Rep σ im w v vy) :
  ∃ r,((do eqGuard op t x y ux vy;binOp op t ux vy:Sem Value)).run P w=.ok r w/\AV.Rep σ im w c r:=by
 have hb:∀ {op':BinOp},P.underlying t=some .bool->Wz neg u v=some c->(op'=if neg then .neq else .eql)->∃ r,((do eqGuard op' t x y ux vy;binOp op' t ux vy:Sem Value)).run P w=.ok r w/\AV.Rep σ im w c r:=by
  intro op' ht h hop;subst hop
  clear h0
  unfold Wz at h;split at h
  ·rename_i a a';have e1:ux=.bool a:=hu;have e2:vy=.bool a':=hv;subst e1 e2;obtain rfl:=osj h;cases neg
   ·exact ⟨.bool (a==a'),by simp [eqGuard,binOp,Ln ht],rfl⟩
   ·exact ⟨.bool (a !=a'),by simp [eqGuard,binOp,Ln ht,bne],rfl⟩
  ·cases h
 have hs:∀ {op':BinOp} {e:TypeId},P.underlying t=some (.slice e)->Xi neg u v=some c->(op'=if neg then .neq else .eql)->∃ r,((do eqGuard op' t x y ux vy;binOp op' t ux vy:Sem Value)).run P w=.ok r w/\AV.Rep σ im w c r:=by
  intro op' e ht h hop;subst hop
  have key:∀ A n cp,ux=.slice A n cp->vy=.slice none 0 0->((do eqGuard (if neg then .neq else .eql) t x y ux vy;binOp (if neg then .neq else .eql) t ux vy:Sem Value)).run P w=.ok (.bool (if neg then !A.isNone else A.isNone)) w:=by
   intro A n cp h1 h2;subst h1 h2;cases neg <;> simp [eqGuard,binOp,Uu ht]
  clear h0
  unfold Xi at h;split at h
  ·obtain rfl:=osj h;have:=key none 0 0 hu hv;refine ⟨_,this,?_⟩;cases neg <;> rfl
  ·obtain rfl:=osj h;obtain ⟨A,cp,l,e1,hsl⟩:=hu;refine ⟨_,key A _ cp e1 hv,_,rfl,fun hb=>?_⟩;have hn:A=none:=by cases neg <;> cases A <;> simp_all
   subst hn
   have h0:∀ (u:Ty) (zs:List u.D),Sl im w u none cp zs l->zs.length=0:=by
    intro u zs hs;rcases Nat.eq_zero_or_pos zs.length with h0|h0
    ·exact h0
    ·obtain ⟨_,_,_,_,hf⟩:=hs;obtain ⟨ad,he,_⟩:=hf h0;cases he
   exact h0 _ _ hsl
  ·obtain rfl:=osj h;rcases hu with ⟨_,_,_,e1⟩|⟨b,cap,_,_,e1⟩|⟨_,_,_,h00,_,_,e1,_⟩
   ·exact ⟨_,key _ _ _ e1 hv,_,rfl,fun _=>by assumption⟩
   ·exact ⟨_,key _ _ _ e1 hv,_,rfl,fun hb=>by cases neg <;> simp at hb⟩
   ·subst h00;exact ⟨_,key _ _ _ e1 hv,_,rfl,fun _=>rfl⟩
  ·cases h
 have hst:∀ {op':BinOp} {fs:Array Field},P.underlying t=some (.struct fs)->Ka P t=true->Ov neg (fs.size+3) u v=some c->(op'=if neg then .neq else .eql)->∃ r,((do eqGuard op' t x y ux vy;binOp op' t ux vy:Sem Value)).run P w=.ok r w/\AV.Rep σ im w c r:=by
  intro op' fs hfs hI h hop;subst hop
  clear h0
  have hfo:P.fieldsOf t=fs:=by simp [Program.fieldsOf,hfs]
  unfold Ka at hI;rw [hfo] at hI;simp only [Bool.and_eq_true,Bool.not_eq_true'] at hI;obtain ⟨i1,i2,i3⟩:=hI;simp only [Ov] at h;cases u <;> simp only at h <;> try (cases h;done)
  rename_i cs;split at h
  ·rename_i hlen;unfold Xg at h;split at h
   ·rename_i cs' ds hcs;obtain rfl:=AV.agg.inj hcs;split at h
    ·rename_i a b ha hb';split at h
     ·rename_i hab;obtain rfl:=osj h;obtain ⟨vs,e1,r1⟩:=hu;obtain ⟨us,e2,r2⟩:=hv;have hvs:=Fx r1 ha;have hus:=Fx r2 hb';subst hvs hus e1 e2;have l1:a.length=0+fs.toList.length:=by have:=r1.length;simp at this ⊢;omega
      have l2:b.length=0+fs.toList.length:=by omega
      have hrun:=Lw (P:=P) (w:=w) 9998 fs.toList 0 a b i1 l1 l2;have hst:=run_equalIn_struct (P:=P) w 9999 t (a.map (Value.int .i64)).toArray (b.map (Value.int .i64)).toArray (by rw [hfs,hfo]) i2;rw [hfo,hrun] at hst;simp only [List.drop_zero] at hst;cases neg
      ·refine ⟨.bool (a==b),?_,rfl⟩;simp only [Sem.run_bind,run_eqGuard_agg w _ t x y _ _ i3,Result.andThen_ok,Bool.false_eq_true,if_false,run_eql_struct,hst]
      ·refine ⟨.bool (!(a==b)),?_,rfl⟩;simp only [Sem.run_bind,run_eqGuard_agg w _ t x y _ _ i3,Result.andThen_ok,if_true,run_neq_struct,hst]
     ·cases h
    ·cases h
   ·cases h
  ·cases h
 have har:∀ {op':BinOp} {n:Nat} {e:TypeId},P.underlying t=some (.array n e)->Sx P t e=true->Ov neg (n+3) u v=some c->(op'=if neg then .neq else .eql)->∃ r,((do eqGuard op' t x y ux vy;binOp op' t ux vy:Sem Value)).run P w=.ok r w/\AV.Rep σ im w c r:=by
  intro op' n e hfs hI h hop;subst hop
  clear h0
  unfold Sx at hI;simp only [Bool.and_eq_true,Bool.not_eq_true',beq_iff_eq] at hI;obtain ⟨i1,i2,i3,i4⟩:=hI;have he:P.underlying e=some (.int .i64):=by split at i1;assumption;cases i1
  obtain ⟨inf,hinf⟩:=Option.isSome_iff_exists.1 i2;simp only [Ov] at h;cases u <;> simp only at h <;> try (cases h;done)
  rename_i cs;split at h
  ·rename_i hlen;unfold Xg at h;split at h
   ·rename_i cs' ds hcs;obtain rfl:=AV.agg.inj hcs;split at h
    ·rename_i a b ha hb';split at h
     ·rename_i hab;obtain rfl:=osj h;obtain ⟨vs,e1,r1⟩:=hu;obtain ⟨us,e2,r2⟩:=hv;have hvs:=Fx r1 ha;have hus:=Fx r2 hb';subst hvs hus e1 e2;have l1:a.length=n:=by have:=r1.length;simp at this ⊢;omega
      have l2:b.length=n:=by omega
      have har:(Op.equalIn 10000 t (.agg (a.map (Value.int .i64)).toArray) (.agg (b.map (Value.int .i64)).toArray)).run P w=.ok (a==b) w:=by
       refine (run_equalIn_array (P:=P) w 9999 (a.map (Value.int .i64)).toArray (b.map (Value.int .i64)).toArray hfs hinf).trans ?_;rw [i3];refine (Nf 9998 he a b (List.range n) (fun i hi=>by have:=List.mem_range.1 hi;omega)).trans ?_;rw [Ta l1 l2]
      cases neg
      ·refine ⟨.bool (a==b),?_,rfl⟩;simp only [Sem.run_bind,run_eqGuard_agg w _ t x y _ _ i4,Result.andThen_ok,Bool.false_eq_true,if_false,run_eql_struct,har]
      ·refine ⟨.bool (!(a==b)),?_,rfl⟩;simp only [Sem.run_bind,run_eqGuard_agg w _ t x y _ _ i4,Result.andThen_ok,if_true,run_neq_struct,har]
     ·cases h
    ·cases h
   ·cases h
  ·cases h
 unfold Abd at ho;split at ho
 ·obtain ⟨rfl,rfl⟩:=Prod.mk.inj (osj ho);exact hb (by assumption) h0 rfl
 ·obtain ⟨rfl,rfl⟩:=Prod.mk.inj (osj ho);exact hb (by assumption) h0 rfl
 ·obtain ⟨rfl,rfl⟩:=Prod.mk.inj (osj ho);exact hs (by assumption) h0 rfl
 ·obtain ⟨rfl,rfl⟩:=Prod.mk.inj (osj ho);exact hs (by assumption) h0 rfl
 ·rename_i fs hfs;split at ho
  ·rename_i hI;obtain ⟨rfl,rfl⟩:=Prod.mk.inj (osj ho);exact hst hfs hI h0 rfl
  ·cases ho
 ·rename_i fs hfs;split at ho
  ·rename_i hI;obtain ⟨rfl,rfl⟩:=Prod.mk.inj (osj ho);exact hst hfs hI h0 rfl
  ·cases ho
 ·rename_i n e hfs;split at ho
  ·rename_i hI;obtain ⟨rfl,rfl⟩:=Prod.mk.inj (osj ho);exact har hfs hI h0 rfl
  ·cases ho
 ·rename_i n e hfs;split at ho
  ·rename_i hI;obtain ⟨rfl,rfl⟩:=Prod.mk.inj (osj ho);exact har hfs hI h0 rfl
  ·cases ho
 ·cases ho
theorem Lj {im:Nat->Prop} {f:Nat->AV} {a:Act}:∀ {xs:List Operand} {ys:List Opd},Opd.ofL xs=some ys->(∀ x∈xs,∀ y,Opd.of x=some y->AV.Rep σ im w (y.ev f) (a.eval x))->AV.RepL σ im w (ys.map (Opd.ev f)) (xs.map a.eval)
 | [],ys,h,_=>by
  obtain rfl:[]=ys:=osj h;rfl
 | x :: xs,ys,h,hf=>by
  simp only [Opd.ofL] at h;split at h
  ·rename_i y zs h1 h2;obtain rfl:=osj h;exact ⟨_,_,rfl,hf x (by simp) y h1,Lj h2 (fun z hz=>hf z (by simp [hz]))⟩
  ·cases h
set_option maxHeartbeats 1000000 in
theorem U5 {P:Program} {op:BinOp} {t:TypeId} {y:Operand} {ng:Bool} (h:Wm P op t y=some ng):y=.const .nilIface/\∃ ms,P.underlying t=some (.interface ms)/\((op=.eql/\ng=false)∨(op=.neq/\ng=true)):=by
 unfold Wm at h;split at h
 ·rename_i ms ht;obtain rfl:=osj h;exact ⟨rfl,ms,ht,.inl ⟨rfl,rfl⟩⟩
 ·rename_i ms ht;obtain rfl:=osj h;exact ⟨rfl,ms,ht,.inr ⟨rfl,rfl⟩⟩
 ·cases h
theorem Aap [IsP P] {o:Oper} {a:Act} {q:I} {f:Nat->AV} {i:Oid} {v:AV} {us:List (Oid×Option Ob)} (hc:I.of P o=some q) (he:evN f i q=some (v,us)) (hm:Mem0 G w0 ob σ K w) (hK:∀ n,K n->K' n) (hi:¬ K i.2) (hi':K' i.2)
  (hf:∀ x∈o.op.operands,∀ y,Opd.of x=some y->AV.Rep σ (imm ob σ) w (y.ev f) (a.eval x)):Oper.does P o a w (Goes G w0 (Ae us ob) K' σ (imm ob σ) w v):=by
 have same:∀ {c:AV} {r:Value},(execOp a.eval o).run P w=.ok (.value r) w->some (c,([]:List (Oid×Option Ob)))=some (v,us)->AV.Rep σ (imm ob σ) w c r->Oper.does P o a w (Goes G w0 (Ae us ob) K' σ (imm ob σ) w v):=by
  intro c r hr hs hrep;obtain ⟨rfl,rfl⟩:=Prod.mk.inj (osj hs);exact Oper.does_value hr (Goes.same hm hK hrep)
 unfold I.of at hc;split at hc
 ·-- move
  rename_i x ho;obtain ⟨y,hy,rfl⟩:=oms.1 hc;exact same (O0 (.inl ho)) he (hf x (by simp [ho,Op.operands]) y hy)
 ·rename_i x ho;obtain ⟨y,hy,rfl⟩:=oms.1 hc;exact same (O0 (.inr ho)) he (hf x (by simp [ho,Op.operands]) y hy)
 ·-- pick
  rename_i c x y ho;split at hc
  ·rename_i c' x' y' h1 h2 h3;obtain rfl:=osj hc;have r1:=hf c (by simp [ho,Op.operands]) c' h1;have r2:=hf x (by simp [ho,Op.operands]) x' h2;have r3:=hf y (by simp [ho,Op.operands]) y' h3;simp only [evN] at he;split at he
   ·rename_i b hb;rw [hb] at r1;have r1':a.eval c=.bool b:=r1;refine same (r:=if b then a.eval x else a.eval y) (by simp [execOp,ho,asBool,r1']) he ?_;cases b
    ·exact r3
    ·exact r2
   ·cases he
  ·cases hc
 ·-- alloc
  rename_i e ho;split at hc
  ·cases hc
  ·skip
   split at hc
   ·rename_i inf hinf;split at hc
    ·rename_i z hz;split at hc
     ·rename_i hone;obtain rfl:=osj hc;obtain ⟨rfl,rfl⟩:=Prod.mk.inj (osj he);refine Oper.does_value (v:=.pointer (some ⟨w.heap.size,0,none⟩)) (w':=w.alloc (.cells z.cells.toList.toArray e)) ?_ (Goes.box hm hK hi hi' (AV.of1_repL _) (fun u hu=>?_))
      ·simp [execOp,ho,Instr.alloc,zeroValue,typeInfo,hinf,hz,newVar,newRow]
      ·rw [List.all_eq_true] at hone;exact hone u (by simpa using hu)
     ·cases hc
    ·cases hc
   ·cases hc
 ·-- box
  rename_i e x ho;obtain ⟨x',h1,rfl⟩:=oms.1 hc;have r1:=hf x (by simp [ho,Op.operands]) x' h1;simp only [evN] at he;split at he
  ·rename_i cs hcs;rw [hcs] at r1;obtain ⟨vs,e1,hl⟩:=r1;split at he
   ·rename_i hone;obtain ⟨rfl,rfl⟩:=Prod.mk.inj (osj he);refine Oper.does_value (v:=.pointer (some ⟨w.heap.size,0,none⟩)) (w':=w.alloc (.cells vs.toArray e)) ?_ (Goes.box hm hK hi hi' hl (AV.one_repL hone hl));simp [execOp,ho,Instr.box,newVar,newRow,e1,Value.cells]
   ·cases he
  ·split at he
   ·rename_i hone;obtain ⟨rfl,rfl⟩:=Prod.mk.inj (osj he);have h1c:=AV.one_rep hone r1;have hcells:(a.eval x).cells= #[a.eval x]:=by cases hq:a.eval x <;> first|rfl|(rw [hq] at h1c;cases h1c)
    refine Oper.does_value (v:=.pointer (some ⟨w.heap.size,0,none⟩)) (w':=w.alloc (.cells [a.eval x].toArray e)) ?_ (Goes.box hm hK hi hi' ⟨_,[],rfl,r1,rfl⟩ (fun u hu=>by obtain rfl:=List.mem_singleton.1 hu;exact h1c));simp [execOp,ho,Instr.box,newVar,newRow,hcells]
   ·cases he
 ·-- fieldAddr
  rename_i s x k ho;split at hc
  ·rename_i n x' h1 h2;obtain rfl:=osj hc;have r1:=hf x (by simp [ho,Op.operands]) x' h2;simp only [evN] at he;split at he
   ·rename_i j m hx;rw [hx] at r1;obtain ⟨b,cap,sz,e1,e2⟩:=r1;refine same (r:=.pointer (some ⟨b,m+n,none⟩)) ?_ he ⟨b,cap,sz,e1,rfl⟩;simp [execOp,ho,e2,It h1,A4]
   ·rename_i j m m2 hx;rw [hx] at r1;obtain ⟨b,cap,sz,e1,e2⟩:=r1;refine same (r:=.pointer (some ⟨b,m*sz+(m2+n),none⟩)) ?_ he ⟨b,cap,sz,e1,rfl⟩;simp [execOp,ho,e2,It h1,A4,Nat.add_assoc]
   ·rename_i t y m hx;rw [hx] at r1;obtain ⟨ad,l,e1,e2,e3⟩:=r1;refine same (r:=.pointer (some (ad.add (m+n)))) ?_ he ⟨ad,l,rfl,e2,e3⟩;simp [execOp,ho,e1,It h1,Bt]
   ·rename_i cs hx;rw [hx] at r1;obtain ⟨b,m,vs,e1,e2,e3,e4⟩:=r1;refine same (r:=.pointer (some ⟨b,m+n,none⟩)) ?_ he ⟨b,m+n,vs.drop n,rfl,e2,fun j u hu=>?_,e4.drop n⟩
    ·simp [execOp,ho,e1,It h1,A4]
    ·rw [List.getElem?_drop] at hu;rw [Nat.add_assoc];exact e3 _ _ hu
   ·cases he
  ·cases hc
 ·-- indexAddr
  rename_i t x n ho;split at hc
  ·rename_i len hlen;split at hc
   ·rename_i x' n' h2 h3;obtain rfl:=osj hc;have r1:=hf x (by simp [ho,Op.operands]) x' h2;have r2:=hf n (by simp [ho,Op.operands]) n' h3;simp only [evN] at he;split at he
    ·rename_i j k q m hx hn;rw [hx] at r1;rw [hn] at r2;obtain ⟨b,cap,sz,e1,e2⟩:=r1;have e3:a.eval n=.int q m:=r2;split at he
     ·rename_i h0;refine same (r:=.pointer (some ⟨b,k+m.toNat,none⟩)) ?_ he ⟨b,cap,sz,e1,rfl⟩;have:=Qp (P:=P) (w:=w) hlen ⟨b,k,none⟩ q m h0;simp [execOp,ho,e2,e3,this,A4]
     ·cases he
    ·rename_i j e k q m hx hn;rw [hx] at r1;rw [hn] at r2;obtain ⟨b,cap,sz,e1,e2⟩:=r1;have e3:a.eval n=.int q m:=r2;split at he
     ·rename_i h0;refine same (r:=.pointer (some ⟨b,e*sz+(k+m.toNat),none⟩)) ?_ he ⟨b,cap,sz,e1,rfl⟩;have:=Qp (P:=P) (w:=w) hlen ⟨b,e*sz+k,none⟩ q m h0;simp [execOp,ho,e2,e3,this,A4,Nat.add_assoc]
     ·cases he
    ·cases he
   ·cases hc
  ·skip
   split at hc
   ·rename_i sz x' n' h1 h2 h3;obtain rfl:=osj hc;have r0:=hf x (by simp [ho,Op.operands]) x' h2;have r1:=Sr r0;have r2:=hf n (by simp [ho,Op.operands]) n' h3;simp only [evN] at he;split at he
    ·rename_i ty xs k m hx hn;rw [hn] at r2;obtain ⟨A,c,l,e1,e2⟩:=Yy r0 hx;have e3:a.eval n=.int k m:=r2;split at he
     ·rename_i hsz;split at he
      ·rename_i h0;obtain ⟨y,hy,hh⟩:=oms.1 he;obtain ⟨hlt,rfl⟩:=gSi.1 hy;obtain ⟨_,_,g,_,hg⟩:=e2;obtain ⟨ad,rfl,hr,hmem⟩:=hg oM;refine same (c:=.telt (x'.ev f).tag ty xs[m.toNat] 0) (r:=.pointer (some (ad.add (m.toNat*sz)))) ?_ (by rw [hh]) ⟨ad.add (m.toNat*ty.size),_,by rw [Bt,Nat.add_zero,hsz],hmem _ hlt,by rw [Bl];exact hr⟩;have:=Lq (P:=P) (w:=w) h1 ad xs.length c k m ⟨h0,by omega⟩;simp [execOp,ho,e1,e3,this]
      ·cases he
     ·cases he
    ·rename_i j ty off len k m hx hn;rw [hx] at r1;rw [hn] at r2;have e3:a.eval n=.int k m:=r2;split at he
     ·rename_i hsz;split at he
      ·rename_i h0;rcases r1 with ⟨_,_,rfl,_⟩|⟨b,cap,e1,e2,e4⟩|⟨_,_,_,rfl,_⟩
       ·omega
       rotate_left
       ·omega
       ·refine same (r:=.pointer (some ⟨b,(off+m.toNat)*ty.size+0,none⟩)) ?_ he ⟨b,cap,ty.size,e1,rfl⟩;have:=Lq (P:=P) (w:=w) h1 ⟨b,off*ty.size,none⟩ len (cap - off) k m h0;simp [execOp,ho,e4,e3,this,A4,hsz,Nat.add_mul]
      ·cases he
     ·cases he
    ·cases he
   ·cases hc
 ·-- load
  rename_i t x ho;split at hc
  ·rename_i one m x' h1 h2;obtain rfl:=osj hc;have r1:=hf x (by simp [ho,Op.operands]) x' h2;simp only [evN] at he;split at he
   ·rename_i g ty y k hx;rw [hx] at r1;obtain ⟨ad,l,e1,e2,e3⟩:=r1;obtain ⟨c,hc',hh⟩:=oms.1 he
    obtain ⟨u,hu,hr⟩:=Ks (P:=P) (w:=w) (σ:=σ) (im:=imm ob σ) (ad:=ad.add k) h1 hc' (fun j d hd=>by
     have hlt:k+j<ty.size:=by
      have:=(Ty.avM_rep (σ:=σ) g e2).1;have:=(gSi.1 hd).1;omega
     obtain ⟨u,c,q1,q2,q3⟩:=(Ty.avM_rep (σ:=σ) g e2).2 _ hlt;rw [hd] at q2;obtain rfl:=osj q2;exact ⟨u,by rw [Bt];exact q1,q3⟩)
    exact same (r:=u) (by simp [execOp,ho,e1,hu]) (by rw [hh]) hr
   ·rename_i cs hx;rw [hx] at r1;obtain ⟨b,k,vs,e1,e2,e3,e4⟩:=r1;obtain ⟨c,hc',hh⟩:=oms.1 he
    obtain ⟨u,hu,hr⟩:=Ks (P:=P) (w:=w) (σ:=σ) (im:=imm ob σ) (ad:=⟨b,k,none⟩) h1 hc' (fun j d hd=>by
     rw [Nat.zero_add] at hd;obtain ⟨u,q1,q2⟩:=e4.get hd;exact ⟨u,by rw [A4];exact e3 _ _ q1,q2⟩)
    exact same (r:=u) (by simp [execOp,ho,e1,hu]) (by rw [hh]) hr
   ·cases he
  ·cases hc
 ·-- binOp
  rename_i op t x y t' ho;split at hc
  ·rename_i ng hng;obtain ⟨x',h1,rfl⟩:=oms.1 hc;have r1:=hf x (by simp [ho,Op.operands]) x' h1;simp only [evN] at he;split at he
   ·rename_i b _ hb;rw [hb] at r1;obtain ⟨hy,ms,ht,hop⟩:=U5 hng;have hm':P.underlying t=some (.interface (P.methodsAt t)):=by simp [Program.methodsAt,ht]
    subst hy;have e2:a.eval (.const .nilIface)=.nilIface:=rfl;rcases r1 with ⟨rfl,e1⟩|⟨rfl,tu,u,e1,_⟩
    ·refine same (r:=.bool (if ng then false else !false)) ?_ he rfl;rcases hop with ⟨rfl,rfl⟩|⟨rfl,rfl⟩
     ·simp [execOp,ho,e1,e2,eqGuard_nil_constR,run_eql_nil_nil w t hm']
     ·simp [execOp,ho,e1,e2,eqGuard_nil_constR,run_neq_nil_nil w t hm']
    ·refine same (r:=.bool (if ng then true else !true)) ?_ he rfl;rcases hop with ⟨rfl,rfl⟩|⟨rfl,rfl⟩
     ·simp [execOp,ho,e1,e2,eqGuard_at_iface,run_eql_held_nil w t tu u hm']
     ·simp [execOp,ho,e1,e2,eqGuard_at_iface,run_neq_held_nil w t tu u hm']
   ·cases he
  ·split at hc
   ·rename_i x' y' h1 h2;have r1:=hf x (by simp [ho,Op.operands]) x' h1;have r2:=hf y (by simp [ho,Op.operands]) y' h2;split at hc
    ·rename_i neg k hcmp;obtain rfl:=osj hc;obtain ⟨c,hc',hh⟩:=oms.1 (show (Ov neg k (x'.ev f).un (y'.ev f)).map (fun v=>(v,[]))=some (v,us) from he);obtain ⟨r,hr,hrep⟩:=Y8 (P:=P) (t:=t) (x:=x) (y:=y) hcmp hc' (Sr r1) r2;refine same (r:=r) ?_ (by rw [hh]) hrep;rw [Sem.run_bind] at hr;simp only [execOp,ho,Sem.run_bind,hr,Result.andThen_ok,Sem.run_pure]
    obtain rfl:=osj hc;obtain ⟨c,hc',hh⟩:=oms.1 (show (Nm op (x'.ev f) (y'.ev f)).map (fun v=>(v,[]))=some (v,us) from he);obtain ⟨r,hr,hrep⟩:=Z3 (P:=P) (t:=t) (x:=x) (y:=y) hc' r1 r2;refine same (r:=r) ?_ (by rw [hh]) hrep;rw [Sem.run_bind] at hr;simp only [execOp,ho,Sem.run_bind,hr,Result.andThen_ok,Sem.run_pure]
   ·cases hc
 ·-- not
  rename_i t x ho;obtain ⟨x',h1,rfl⟩:=oms.1 hc;have r1:=hf x (by simp [ho,Op.operands]) x' h1;simp only [evN] at he;split at he
  ·rename_i b hb;rw [hb] at r1;have e1:a.eval x=.bool b:=r1;exact same (r:=.bool (!b)) (by simp [execOp,ho,e1,Op.unary]) he rfl
  ·cases he
 ·-- neg
  rename_i t x ho;obtain ⟨x',h1,rfl⟩:=oms.1 hc;have r1:=hf x (by simp [ho,Op.operands]) x' h1;simp only [evN] at he;split at he
  ·rename_i k n hb;rw [hb] at r1;have e1:a.eval x=.int k n:=r1;exact same (r:=.int k (k.wrap (0 - n))) (by simp [execOp,ho,e1,Op.unary,Op.intArith]) he rfl
  ·cases he
 ·-- convert
  rename_i s d x ho;split at hc
  ·rename_i k0 k x' h1 h2 h3;obtain rfl:=osj hc;have r1:=hf x (by simp [ho,Op.operands]) x' h3;simp only [evN] at he;split at he
   ·rename_i k' n hb;rw [hb] at r1;have e1:a.eval x=.int k' n:=r1;exact same (r:=.int k (k.wrap n)) (by simp [execOp,ho,e1,convert,run_underlying h1,run_underlying h2,Conv.intToInt]) he rfl
   ·cases he
  ·split at hc
   ·obtain rfl:=osj hc;simp only [evN] at he;cases he
   ·cases hc
  ·cases hc
 ·-- call
  rename_i c ho;split at hc
  ·rename_i x t hca hcb hcc;have hargs:c.args= #[x]:=by rw [← Array.toArray_toList (xs:=c.args),hcb]
   have htys:c.argTypes= #[t]:=by rw [← Array.toArray_toList (xs:=c.argTypes),hcc]
   split at hc
   ·rename_i e x' hu h1;obtain rfl:=osj hc;have r1:=Sr (hf x (by simp [ho,Op.operands,Call.operands,hca,hargs]) x' h1)
    have sl:∀ A (n c:Nat),a.eval x=.slice A n c->(execOp a.eval o).run P w=.ok (.value (.int .i64 n)) w:=by
     intro A n c e;simp [execOp,ho,resolve,hca,hargs,htys,invoke,builtin,Builtin.len_,e,run_underlying hu,goInt]
    simp only [evN] at he;split at he
    ·rename_i ty xs hx;rw [hx] at r1;obtain ⟨A,c',l,e1,_⟩:=r1;exact same (sl _ _ _ e1) he rfl
    ·rename_i j ty off n hx;rw [hx] at r1;rcases r1 with ⟨_,_,rfl,e1⟩|⟨b,cap,_,_,e1⟩|⟨_,_,_,rfl,_,_,e1,_⟩
     ·exact same (sl _ _ _ e1) he rfl
     ·exact same (sl _ _ _ e1) he rfl
     ·exact same (sl _ _ _ e1) he rfl
    ·rename_i hx;rw [hx] at r1;exact same (sl _ _ _ (show a.eval x=.slice none 0 0 from r1)) he rfl
    ·cases he
   ·rename_i x' hu h1;obtain rfl:=osj hc;have r1:=hf x (by simp [ho,Op.operands,Call.operands,hca,hargs]) x' h1;simp only [evN] at he;split at he
    ·rename_i s hx;rw [hx] at r1;have e1:a.eval x=.string s:=r1;refine same (r:=.int .i64 s.size) ?_ he rfl;simp [execOp,ho,resolve,hca,hargs,htys,invoke,builtin,Builtin.len_,e1,run_underlying hu,goInt]
    ·cases he
   ·rename_i x' hu h1;obtain rfl:=osj hc;have r1:=hf x (by simp [ho,Op.operands,Call.operands,hca,hargs]) x' h1;simp only [evN] at he;split at he
    ·rename_i mt' ty es hx;rw [hx] at r1;obtain ⟨b,e1,_,hr⟩:=r1;split at he
     ·rename_i hmt;subst hmt;have hP:=IsP.eq (P:=P);subst hP;have hrun:=hr.len o.type;refine same (r:=.int .i64 es.length) ?_ he rfl;simp [execOp,ho,resolve,hca,hargs,htys,invoke,builtin,e1,hrun,Result.andThen]
     ·cases he
    ·cases he
   ·cases hc
  ·cases hc
 ·-- extract
  rename_i x k ho;obtain ⟨x',h1,rfl⟩:=oms.1 hc;have r1:=hf x (by simp [ho,Op.operands]) x' h1;simp only [evN] at he;split at he
  ·rename_i vs hb;rw [hb] at r1;obtain ⟨us',e1,hl⟩:=r1;obtain ⟨c,hc',hh⟩:=oms.1 he;obtain ⟨r,hr,hrep⟩:=hl.get hc';exact same (r:=r) (by simp [execOp,ho,e1,Instr.extract,hr]) (by rw [hh]) hrep
  ·cases he
 ·-- lookup
  rename_i t x n ok ho;split at hc
  ·rename_i x' n' hu h1 h2;obtain rfl:=osj hc;have r1:=hf x (by simp [ho,Op.operands]) x' h1;have r2:=hf n (by simp [ho,Op.operands]) n' h2;simp only [evN] at he;split at he
   ·rename_i mt' ty es k hx hn;rw [hx] at r1;have hk:=(Gi r2 hn).1;have e2:=(Gi r2 hn).2;obtain ⟨b,e1,_,hr⟩:=r1;split at he
    ·rename_i hmt;subst hmt;have hP:=IsP.eq (P:=P);subst hP;have hrun:=hr.look hk ok;refine same (c:=Tt ok ty es k) (r:=if ok then .tuple #[I7 ty ((Dv es k).getD ty.dflt),.bool (Dv es k).isSome] else I7 ty ((Dv es k).getD ty.dflt)) ?_ he (Pa _ _ _ _);simp [execOp,ho,e1,e2,hrun,Result.andThen]
    ·cases he
   ·cases he
  ·cases hc
 ·-- index
  rename_i t x n ho;split at hc
  ·rename_i len hlen;split at hc
   ·rename_i x' n' h2 h3;obtain rfl:=osj hc;have r1:=hf x (by simp [ho,Op.operands]) x' h2;have r2:=hf n (by simp [ho,Op.operands]) n' h3;simp only [evN] at he;split at he
    ·rename_i cs k m hx hn;rw [hx] at r1;rw [hn] at r2;obtain ⟨vs,e1,hl⟩:=r1;have e2:a.eval n=.int k m:=r2;split at he
     ·rename_i h0;obtain ⟨c,hcc,hh⟩:=oms.1 he;obtain ⟨v',hv',hr⟩:=hl.get hcc;have:=Tr (P:=P) (w:=w) hlen vs.toArray k m h0 (v:=v') (by simpa using hv');refine same (c:=c) (r:=v') (by simp [execOp,ho,e1,e2,this]) (by rw [hh]) hr
     ·cases he
    ·cases he
   ·cases hc
  ·skip
   split at hc
   ·rename_i x' n' h1 h2 h3;obtain rfl:=osj hc;have r1:=hf x (by simp [ho,Op.operands]) x' h2;have r2:=hf n (by simp [ho,Op.operands]) n' h3;simp only [evN] at he;split at he
    ·rename_i s k m hx hn;rw [hx] at r1;rw [hn] at r2;have e1:a.eval x=.string s:=r1;have e2:a.eval n=.int k m:=r2;split at he
     ·rename_i h0;obtain ⟨b,hb,hh⟩:=oms.1 he;exact same (r:=.int .u8 b.toNat) (by simp [execOp,ho,e1,e2,Instr.index,asIntOf,run_underlying h1,h0,hb]) (c:=.int .u8 b.toNat) (by rw [hh]) rfl
     ·cases he
    ·cases he
   ·cases hc
 ·-- makeFunc
  rename_i g first caps ho
  split at hc
  ·rename_i hg
   have e0:∀ xs:Array Operand,xs.toList.isEmpty=true->xs= #[]:=fun xs h=>by
    have:xs.toList=[]:=by simpa using h
    rw [← Array.toArray_toList (xs:=xs),this]
   split at hc
   ·rename_i h0;obtain ⟨ys,h1,rfl⟩:=oms.1 hc;have hfst:=e0 _ h0;have hl:=Lj (σ:=σ) (w:=w) (im:=imm ob σ) (f:=f) (a:=a) h1 (fun x hx=>hf x (by simp [ho,Op.operands];exact .inr (by simpa using hx)));refine same (r:=.func (.func g) #[] (caps.map a.eval)) (by simp [execOp,ho,hfst,Instr.makeFunc]) he ⟨_,?_,hl⟩;unfold fnV;rw [if_pos hg,← Array.toArray_toList (xs:=caps.map a.eval),Array.toList_map]
   ·split at hc
    ·rename_i h0;obtain ⟨ys,h1,rfl⟩:=oms.1 hc;have hcap:=e0 _ h0;have hl:=Lj (σ:=σ) (w:=w) (im:=imm ob σ) (f:=f) (a:=a) h1 (fun x hx=>hf x (by simp [ho,Op.operands];exact .inl (by simpa using hx)));refine same (r:=.func (.func g) (first.map a.eval) #[]) (by simp [execOp,ho,hcap,Instr.makeFunc]) he ⟨_,?_,hl⟩;unfold fnV;rw [if_neg (Nat.not_lt.2 (Nat.le_add_left _ _)),Nat.add_sub_cancel,← Array.toArray_toList (xs:=first.map a.eval),Array.toList_map]
    ·cases hc
  ·cases hc
 ·-- field
  rename_i s x k ho;split at hc
  ·rename_i q x' h1 h2;obtain rfl:=osj hc;have r1:=hf x (by simp [ho,Op.operands]) x' h2;simp only [evN] at he;split at he
   ·rename_i cs hx;rw [hx] at r1;obtain ⟨vs,e1,hl⟩:=r1;obtain ⟨c,hcc,hh⟩:=oms.1 he;unfold Ae6 at h1;split at h1
    ·rename_i fs hs;split at h1
     ·rename_i g hg;obtain ⟨q',hq,rfl⟩:=oms.1 h1;obtain ⟨v',hv',hr⟩:=Zy (P:=P) hq hcc hl;refine same (c:=c) (r:=v') ?_ (by rw [hh]) hr;simp [execOp,ho,e1,Instr.field,run_underlying hs,hg,asAgg,hv']
     ·cases h1
    ·cases h1
   ·cases he
  ·cases hc
 ·-- makeInterface
  rename_i T x ho;split at hc
  ·rename_i fs hu;obtain ⟨y,hy,rfl⟩:=oms.1 hc;have r1:=hf x (by simp [ho,Op.operands]) y hy;simp only [evN] at he;split at he
   ·rename_i cs hcs;rw [hcs] at r1;obtain ⟨vs,e1,hl⟩:=r1;refine same (r:=.iface T (a.eval x)) ?_ he (.inr ⟨rfl,T,_,rfl,fun T' xs e=>?_⟩)
    ·simp [execOp,ho,Instr.makeInterface,run_underlying hu]
    ·obtain ⟨rfl,rfl⟩:=Prod.mk.inj (osj e);refine ⟨rfl,fun n hn=>⟨vs,?_,e1⟩,fun l hl'=>?_⟩
     ·split at hn
      ·cases hn
      ·cases hn;exact hl.length
     ·split at hl'
      ·rename_i hi;cases hl';rw [e1,Fx hl hi]
      ·cases hl'
   ·cases he
  ·cases hc
 ·cases hc
end
end
section
open Go.RowKit Go.Deep
def ofI:List AV->Option Int
 | [.int .i64 n]=>some n
 | _=>none
def ofB:List AV->Option Bool
 | [.bool b]=>some b
 | _=>none
def ofS:List AV->Option ByteArray
 | [.str s]=>some s
 | _=>none
def Ty.ofAV:(t:Ty)->List AV->Option t.D
 | .int,cs=>ofI cs
 | .bool,cs=>ofB cs
 | .str,cs=>ofS cs
 | .slice _,_=>none
 | .pair a b,cs=>match a.ofAV (cs.take a.size),b.ofAV (cs.drop a.size) with
  | some x,some y=>some (x,y)
  | _,_=>none
def Iz (one:Bool) (m k:Nat) (cs:List AV) (v:AV):Option (List AV) :=
 if one then (if k<cs.length/\v.one=true then some (cs.set k v) else none) else
  match v with
  | .agg ds=>if ds.length=m/\k+m<=cs.length/\ds.all AV.one=true then some (cs.take k++(ds++cs.drop (k+m))) else none
  | _=>none
def U7 (f:Nat->AV) (ob:Oid->Option Ob) (one:Bool) (m:Nat) (x y:Opd):Option (AV×List (Oid×Option Ob)) :=
 match x.ev f with
 | .box j k=>match ob j with
  | some (.cells ty cs)=>(Iz one m k cs (y.ev f)).map fun ds=>(.any,[(j,none),(j,some (.cells ty ds))])
  | _=>none
 | .elt j e k=>match ob j with
  | some (.arr et t xs)=>match xs[e]? with
   | some d=>match Iz one m k (t.av d) (y.ev f) with
    | some ds=>match t.ofAV ds with
     | some d'=>some (.any,[(j,none),(j,some (.arr et t (xs.set e d')))])
     | none=>none
    | none=>none
   | none=>none
  | some (.vec et sz n cs)=>(Iz one m (e*sz+k) cs (y.ev f)).map fun ds=>(.any,[(j,none),(j,some (.vec et sz n ds))])
  | _=>none
 | _=>none
section
variable {P:Program} {G:World->Prop} {w0 w w':World} {ob:Oid->Option Ob} {σ:Oid->Option Loc} {K K':Nat->Prop} {im:Nat->Prop}
theorem Ty.enc_rep:∀ {t:Ty} (x:t.D),t.flat=true->AV.RepL σ im w (t.av x) (t.enc x)
 | .int,_,_=>⟨_,_,rfl,rfl,rfl⟩
 | .bool,_,_=>⟨_,_,rfl,rfl,rfl⟩
 | .str,_,_=>⟨_,_,rfl,rfl,rfl⟩
 | .slice _,_,h=>by cases h
 | .pair a b,x,h=>by
  simp only [Ty.flat,Bool.and_eq_true] at h;exact AV.RepL.append (Ty.enc_rep x.1 h.1) (Ty.enc_rep x.2 h.2)
theorem Ty.ofAV_enc:∀ {t:Ty} {cs:List AV} {vs:List Value} {x:t.D},t.flat=true->AV.RepL σ im w cs vs->t.ofAV cs=some x->vs=t.enc x
 | .int,cs,vs,x,_,h,he=>by
  have he':ofI cs=some x:=he;unfold ofI at he';split at he'
  ·obtain ⟨_,_,rfl,h1,h2⟩:=h;obtain rfl:=osj he';rw [h1,h2];rfl
  ·cases he'
 | .bool,cs,vs,x,_,h,he=>by
  have he':ofB cs=some x:=he;unfold ofB at he';split at he'
  ·obtain ⟨_,_,rfl,h1,h2⟩:=h;obtain rfl:=osj he';rw [h1,h2];rfl
  ·cases he'
 | .str,cs,vs,x,_,h,he=>by
  have he':ofS cs=some x:=he;unfold ofS at he';split at he'
  ·obtain ⟨_,_,rfl,h1,h2⟩:=h;obtain rfl:=osj he';rw [h1,h2];rfl
  ·cases he'
 | .slice _,_,_,_,h,_,_=>by cases h
 | .pair a b,cs,vs,x,hf,h,he=>by
  simp only [Ty.flat,Bool.and_eq_true] at hf;simp only [Ty.ofAV] at he;split at he
  ·rename_i y z h1 h2;obtain rfl:=osj he;have e1:=Ty.ofAV_enc hf.1 (h.take a.size) h1;have e2:=Ty.ofAV_enc hf.2 (h.drop a.size) h2;rw [← List.take_append_drop a.size vs,e1,e2];rfl
  ·cases he
theorem J9 {e:TypeId} {t:Ty} {xs:List t.D} {b cap n base:Nat} (hfl:t.flat=true) (h:ownsV w base e t.size (.slice (some ⟨b,0,none⟩) n cap) n (t.cells xs)) {i k:Nat} {x:t.D} (hx:xs[i]? =some x) {u:Value} (hu:(t.enc x)[k]? =some u) :
  w.cell? ⟨b,i*t.size+k,none⟩=some u:=by
 obtain ⟨hlt,rfl⟩:=gSi.1 hx;have hk:k<t.size:=by have:=(gSi.1 hu).1;rwa [Ty.enc_length _ hfl] at this
 have hc:=h.cells (g:=b) rfl (i*t.size+k) u (by rw [Ty.cells_get hfl xs i hlt k hk];exact hu)
 rwa [A4,Nat.zero_add] at hc
theorem Sg {σ:Oid->Option Loc} {im:Nat->Prop} {w:World}:∀ {cs:List AV} {l:List Int} {vs:List Value},N7 cs=some l->AV.RepL σ im w cs vs->vs=l.map (Value.int .u8)
 | [],l,vs,h,hr=>by
  obtain rfl:=osj h;exact hr
 | c :: cs,l,vs,h,hr=>by
  obtain ⟨v,vs',rfl,h1,h2⟩:=hr;unfold N7 at h;split at h
  ·rename_i heq;cases heq
  ·rename_i n r heq;obtain ⟨rfl,rfl⟩:=List.cons.inj heq;split at h
   ·rename_i l' hl;obtain rfl:=osj h;rw [List.map_cons,← Sg hl h2];exact congrArg (· :: vs') h1
   ·cases h
  ·cases h
theorem Aa3 [IsP P] {o:Oper} {a:Act} {q:I} {f:Nat->AV} {v:AV} {obL:Oid->Option Ob} (hc:I.of P o=some q) (he:evR f obL q=some v) (hm:Mem0 G w0 ob σ K w) (hK:∀ n,K n->K' n)
  (hob:∀ i o l,obL i=some o->σ i=some l->o.Rep w0.heap.size σ (imm ob σ) w l)
  (hf:∀ x∈o.op.operands,∀ y,Opd.of x=some y->AV.Rep σ (imm ob σ) w (y.ev f) (a.eval x)):Oper.does P o a w (Goes G w0 ob K' σ (imm ob σ) w v):=by
 unfold I.of at hc
 split at hc <;> try (first
  | (obtain ⟨_,_,rfl⟩:=oms.1 hc;simp only [evR] at he;cases he;done)
  | ((repeat' split at hc) <;> first|(cases hc;done)|(obtain rfl:=osj hc;simp only [evR] at he;cases he;done)|(obtain ⟨_,_,rfl⟩:=oms.1 hc;simp only [evR] at he;cases he;done)))
 ·skip
  rename_i t x ho;split at hc
  ·rename_i one m x' h1 h2;obtain rfl:=osj hc;have r1:=hf x (by simp [ho,Op.operands]) x' h2;simp only [evR] at he;split at he
   ·rename_i j k hx;rw [hx] at r1;obtain ⟨b,cap,sz,e1,e2⟩:=r1;split at he
    ·rename_i ty cs hj;obtain ⟨vs,g1,g2,_⟩:=hob j _ _ hj e1
     obtain ⟨u,hu,hr⟩:=Ks (P:=P) (w:=w) (σ:=σ) (im:=imm ob σ) (ad:=⟨b,k,none⟩) h1 he (fun j d hd=>by
      obtain ⟨u,hu,hr⟩:=g2.get hd;refine ⟨u,?_,hr⟩;rw [A4];simp only [World.cell?,g1]
      simpa using hu)
     exact Oper.does_value (by simp [execOp,ho,e2,hu]) (Goes.same hm hK hr)
    ·cases he
   ·rename_i j e k hx;rw [hx] at r1;obtain ⟨b,cap,sz,e1,e2⟩:=r1;split at he
    ·rename_i et t' xs hj;split at he
     ·rename_i y hy;obtain ⟨hfl,hown,hsz⟩:=hob j _ _ hj e1;obtain rfl:=hsz b cap sz rfl
      obtain ⟨u,hu,hr⟩:=Ks (P:=P) (w:=w) (σ:=σ) (im:=imm ob σ) (ad:=⟨b,e*t'.size+k,none⟩) h1 he (fun j d hd=>by
       obtain ⟨u,hu,hr⟩:=(Ty.enc_rep (σ:=σ) (im:=imm ob σ) (w:=w) y hfl).get hd;refine ⟨u,?_,hr⟩;rw [A4,Nat.add_assoc];exact J9 hfl hown hy hu)
      exact Oper.does_value (by simp [execOp,ho,e2,hu]) (Goes.same hm hK hr)
     ·cases he
    ·rename_i et sz' n cs hj;obtain ⟨vs,hown,g2,_,hsz⟩:=hob j _ _ hj e1;obtain rfl:=hsz b cap sz rfl
     obtain ⟨u,hu,hr⟩:=Ks (P:=P) (w:=w) (σ:=σ) (im:=imm ob σ) (ad:=⟨b,e*sz+k,none⟩) h1 he (fun j d hd=>by
      obtain ⟨u,hu,hr⟩:=g2.get hd;refine ⟨u,?_,hr⟩;have:=hown.cells (g:=b) rfl _ _ hu;rw [A4,Nat.zero_add] at this;rw [A4];exact this)
     exact Oper.does_value (by simp [execOp,ho,e2,hu]) (Goes.same hm hK hr)
    ·cases he
   ·cases he
  ·cases hc
 ·-- bytes to a string
  rename_i s d x ho;split at hc
  ·obtain rfl:=osj hc;simp only [evR] at he;cases he
  ·rename_i e x' hs hd h1;split at hc
   ·rename_i he8;obtain rfl:=osj hc;have r1:=hf x (by simp [ho,Op.operands]) x' h1;simp only [evR] at he;split at he
    ·rename_i j t off len hx;rw [hx] at r1;split at he
     ·rename_i e0 sz n cs hj;split at he
      ·rename_i hcc;obtain ⟨rfl,ht1,rfl,rfl,hn⟩:=hcc;obtain ⟨l,hl,rfl⟩:=oms.1 he;rcases r1 with ⟨_,_,h0,_⟩|⟨b,cap,e1,hcap,e2⟩|⟨_,_,h0,_⟩
       ·omega
       ·obtain ⟨vs,hown,g2,_,_⟩:=hob j _ _ hj e1;have hv:=Sg hl g2
        have hlen:l.length=len:=by
         have:=hown.1;rw [hv,List.length_map] at this;omega
        rw [Nat.zero_mul,Nat.sub_zero] at e2
        have hcv:=run_convert_bytes_arg (P:=P) w s e hs he8 b 0 len cap l hlen (fun i hi=>by
         have:=hown.cells (g:=b) rfl i (.int .u8 (l.getD i 0)) (by rw [hv,List.getElem?_map,gEg oM];simp [List.getD,gEg (show i<l.length by omega)])
         rwa [A4] at this) d hd
        exact Oper.does_value (by simp [execOp,ho,e2,hcv,Result.andThen]) (Goes.same hm hK rfl)
       ·exact absurd rfl h0
      ·cases he
     ·cases he
    ·cases he
   ·cases hc
  ·cases hc
 ·-- len of a map
  rename_i c ho;split at hc
  ·rename_i x t hca hcb hcc;have hargs:c.args= #[x]:=by rw [← Array.toArray_toList (xs:=c.args),hcb]
   have htys:c.argTypes= #[t]:=by rw [← Array.toArray_toList (xs:=c.argTypes),hcc]
   split at hc
   ·obtain rfl:=osj hc;simp only [evR] at he;cases he
   ·obtain rfl:=osj hc;simp only [evR] at he;cases he
   ·rename_i x' hu h1;obtain rfl:=osj hc;have r1:=hf x (by simp [ho,Op.operands,Call.operands,hca,hargs]) x' h1;simp only [evR] at he;split at he
    ·rename_i j hx;rw [hx] at r1;obtain ⟨b,cap,sz,e1,e2⟩:=r1;split at he
     ·rename_i mt' ty es hj;split at he
      ·rename_i hmt;subst hmt;obtain rfl:=osj he;have hr:=hob j _ _ hj e1;have hP:=IsP.eq (P:=P);subst hP;have hrun:=MapRep.len hr o.type;exact Oper.does_value (v:=.int .i64 es.length) (by simp [execOp,ho,resolve,hca,hargs,htys,invoke,builtin,e2,hrun,Result.andThen]) (Goes.same hm hK rfl)
      ·cases he
     ·cases he
    ·cases he
   ·cases hc
  ·cases hc
 ·-- lookup
  rename_i t x n ok ho;split at hc
  ·rename_i x' n' hu h1 h2;obtain rfl:=osj hc;have r1:=hf x (by simp [ho,Op.operands]) x' h1;have r2:=hf n (by simp [ho,Op.operands]) n' h2;simp only [evR] at he;split at he
   ·rename_i j k hx hn;rw [hx] at r1;have hk:=(Gi r2 hn).1;have e3:=(Gi r2 hn).2;obtain ⟨b,cap,sz,e1,e2⟩:=r1;split at he
    ·rename_i mt' ty es hj;split at he
     ·rename_i hmt;subst hmt;obtain rfl:=osj he;have hr:=hob j _ _ hj e1;have hP:=IsP.eq (P:=P);subst hP;have hrun:=MapRep.look hr hk ok;exact Oper.does_value (v:=if ok then .tuple #[I7 ty ((Dv es k).getD ty.dflt),.bool (Dv es k).isSome] else I7 ty ((Dv es k).getD ty.dflt)) (by simp [execOp,ho,e2,e3,hrun,Result.andThen]) (Goes.same hm hK (Pa _ _ _ _))
     ·cases he
    ·cases he
   ·cases he
  ·cases hc
end
end
section
open Go.RowKit Go.Deep
theorem Aco {ι α:Type} [DecidableEq ι] (f:ι->α) (i:ι) (a:α) (h:f i=a):upd f i a=f:=by
 funext j;unfold upd;split <;> simp_all
section
variable {P:Program} {G:World->Prop} {w0 w w':World} {ob:Oid->Option Ob} {σ:Oid->Option Loc} {K K':Nat->Prop} {im:Nat->Prop}
theorem Only.setRow (w:World) (g:Nat) (cs:Array Value):Only g w (w.setRow g cs):=⟨rfl,rfl,rfl,by simp,fun k _ hk=>setRow_other w g k cs hk⟩
theorem Xq {t:TypeId} {one:Bool} {m:Nat} (ht:Id P t=some (one,m)) {g k:Nat} {cur:List Value} {e:TypeId} (hg:w.heap[g]? =some (.cells cur.toArray e (0,0))) {v:Value} {vs:List Value}
  (hv:v.cells=vs.toArray) (hm:vs.length=m) (hk:k+m<=cur.length) (h1:∀ u∈vs,u.oneCell'=true) :
  (Instr.storeAt t (.pointer (some ⟨g,k,none⟩)) v).run P w=.ok () (w.setRow g (cur.take k++(vs++cur.drop (k+m))).toArray):=by
 have hi:∃ i,P.info? t=some i/\i.size=m:=by
  unfold Id at ht;split at ht
  ·simp at ht;exact ⟨_,by assumption,ht.2⟩
  ·simp at ht;exact ⟨_,by assumption,ht.2⟩
  ·split at ht
   ·simp at ht;exact ⟨_,by assumption,by omega⟩
   ·cases ht
  ·cases ht
 obtain ⟨i,hi,hsz⟩:=hi;have hs:=run_storeCells_at P g k e vs 0 cur.toArray w hg (by simp;omega) h1;simp only [Nat.add_zero,List.append_assoc] at hs;simp [Instr.storeAt,Instr.sureAddr,storeVar,hv,sizeOf,typeInfo,hi,hsz,hm,hs]
theorem Hp {one:Bool} {m k:Nat} {cs ds:List AV} {v:AV} {u:Value} {vs:List Value} (h:Iz one m k cs v=some ds) (hm:one=true->m=1) (hv:AV.Rep σ im w v u) (hr:AV.RepL σ im w cs vs) :
  ∃ us:List Value,u.cells=us.toArray/\us.length=m/\k+m<=vs.length/\(∀ x∈us,x.oneCell'=true)/\AV.RepL σ im w ds (vs.take k++(us++vs.drop (k+m))):=by
 unfold Iz at h;split at h
 ·rename_i ho;split at h
  ·rename_i hc;obtain rfl:=osj h;obtain ⟨hk,h1⟩:=hc;have hu:=AV.one_rep h1 hv;have hm1:=hm ho;subst hm1;have hl:=hr.length;refine ⟨[u],?_,rfl,by omega,by simpa using hu,?_⟩
   ·cases u <;> first|rfl|cases hu
   ·have:=hr.set (k:=k) hv;rw [List.set_eq_take_append_cons_drop] at this;rw [List.set_eq_take_append_cons_drop] at this;rw [if_pos oM,if_pos oM] at this;rw [List.set_eq_take_append_cons_drop,if_pos oM];exact this
  ·cases h
 ·split at h
  ·rename_i ds';split at h
   ·rename_i hc;obtain rfl:=osj h;obtain ⟨h1,h2,h3⟩:=hc;obtain ⟨us,e,hl⟩:=hv;subst e;refine ⟨us,rfl,by rw [hl.length];exact h1,by rw [hr.length];exact h2,AV.one_repL h3 hl,(hr.take k).append (hl.append (hr.drop _))⟩
   ·cases h
  ·cases h
theorem Ty.cells_set {t:Ty} (hfl:t.flat=true):∀ (xs:List t.D) (i:Nat) (y:t.D) (hi:i<xs.length),t.cells (xs.set i y)=(t.cells xs).take (i*t.size)++(t.enc y++(t.cells xs).drop ((i+1)*t.size))
 | [],i,_,h=>absurd h (by simp)
 | x :: r,0,y,_=>by
  have h1:(t.cells (x :: r)).drop ((0+1)*t.size)=t.cells r:=by
   simp only [Ty.cells,List.flatMap_cons,Nat.zero_add,Nat.one_mul];rw [List.drop_left' (Ty.enc_length x hfl)]
  rw [h1];simp [Ty.cells]
 | x :: r,i+1,y,h=>by
  have ih:=Ty.cells_set hfl r i y (by simpa using h);have hx:=Ty.enc_length x hfl;have e1:t.cells (x :: r)=t.enc x++t.cells r:=by simp [Ty.cells]
  have e2:t.cells ((x :: r).set (i+1) y)=t.enc x++t.cells (r.set i y):=by simp [Ty.cells]
  have a1:(t.enc x++t.cells r).take ((i+1)*t.size)=t.enc x++(t.cells r).take (i*t.size):=by
   rw [Nat.succ_mul,List.take_append,hx,List.take_of_length_le oM,Nat.add_sub_cancel]
  have a2:(t.enc x++t.cells r).drop ((i+1+1)*t.size)=(t.cells r).drop ((i+1)*t.size):=by
   rw [Nat.succ_mul (i+1),List.drop_append,hx,List.drop_of_length_le oM,List.nil_append,Nat.add_sub_cancel]
  rw [e1,e2,ih,a1,a2,List.append_assoc]
theorem Ad7 {α:Type} (L us:List α) (A s k m N:Nat) (hm:us.length=m) (hk:k+m<=s) (hN:A+s<=N) (hL:N<=L.length) :
  (L.take (A+k)++(us++L.drop (A+k+m))).take N=(L.take N).take A++(((((L.take N).drop A).take s).take k++(us++(((L.take N).drop A).take s).drop (k+m)))++(L.take N).drop (A+s)):=by
 apply List.ext_getElem?;intro j;simp only [List.getElem?_append,List.getElem?_take,List.getElem?_drop,List.length_append,List.length_take,List.length_drop,hm]
 repeat' split
 all_goals first|rfl|(exfalso;omega)|(congr 1;omega)|(rw [List.getElem?_eq_none oM])
theorem Yh {e:TypeId} {t:Ty} {xs:List t.D} {b cap base i k m:Nat} {x y:t.D} {us:List Value} (hfl:t.flat=true) (hx:xs[i]? =some x)
  (h:ownsV w base e t.size (.slice (some ⟨b,0,none⟩) xs.length cap) xs.length (t.cells xs)) (hm:us.length=m) (hk:k+m<=t.size) (hy:t.enc y=(t.enc x).take k++(us++(t.enc x).drop (k+m))) :
  ∃ cur:List Value,w.heap[b]? =some (.cells cur.toArray e (0,0))/\i*t.size+k+m<=cur.length /\
   ownsV (w.setRow b (cur.take (i*t.size+k)++(us++cur.drop (i*t.size+k+m))).toArray) base e t.size (.slice (some ⟨b,0,none⟩) xs.length cap) xs.length (t.cells (xs.set i y)):=by
 obtain ⟨hlt,rfl⟩:=gSi.1 hx;rcases h.2 with ⟨h0,_⟩|⟨g,cap',cur,e1,hb,hg,hnc,hcm,hcs,ht⟩
 ·cases h0
 ·cases e1
  have hin:i*t.size+t.size<=xs.length*t.size:=by
   rw [← Nat.succ_mul];exact Nat.mul_le_mul_right _ hlt
  have hcap:xs.length*t.size<=cap*t.size:=Nat.mul_le_mul_right _ hnc;have hcl:cap*t.size<=cur.toList.length:=by simpa using hcs
  have hcl':cur.toList.length=cur.size:=Array.length_toList ..;refine ⟨cur.toList,by simpa using hg,by omega,?_,.inr ⟨b,cap,_,rfl,hb,setRow_heap w b cur _ e _ hg,hnc,hcm,?_,?_⟩⟩
  ·rw [Ty.cells_length hfl,List.length_set]
  ·simp only [List.size_toArray,List.length_append,List.length_take,List.length_drop,hm];omega
  ·have hcells:=Ty.cells_set hfl xs i y hlt;rw [hcells,hy,← ht]
   have hxe:t.enc xs[i]=((cur.toList.take (xs.length*t.size)).drop (i*t.size)).take t.size:=by
    apply List.ext_getElem?;intro j;rw [List.getElem?_take];split
    ·rename_i hj;rw [List.getElem?_drop,ht,Ty.cells_get hfl xs i hlt j hj]
    ·rw [List.getElem?_eq_none (by rw [Ty.enc_length _ hfl];omega)]
   rw [hxe];have:=Ad7 cur.toList us (i*t.size) t.size k m (xs.length*t.size) hm hk hin oM;rw [Nat.succ_mul i];exact this
theorem Uk {e:TypeId} {vs us:List Value} {b cap base n p m sz:Nat} (h:ownsV w base e sz (.slice (some ⟨b,0,none⟩) n cap) n vs) (hm:us.length=m) (hp:p+m<=vs.length) :
  ∃ cur:List Value,w.heap[b]? =some (.cells cur.toArray e (0,0))/\p+m<=cur.length /\
   ownsV (w.setRow b (cur.take p++(us++cur.drop (p+m))).toArray) base e sz (.slice (some ⟨b,0,none⟩) n cap) n (vs.take p++(us++vs.drop (p+m))):=by
 have hl:=h.1;rcases h.2 with ⟨h0,_⟩|⟨g,cap',cur,e1,hb,hg,hnc,hcm,hcs,ht⟩
 ·cases h0
 ·cases e1;have hcap:n*sz<=cap*sz:=Nat.mul_le_mul_right _ hnc;have hcl:cap*sz<=cur.toList.length:=by simpa using hcs
  have hcl':cur.toList.length=cur.size:=Array.length_toList ..;refine ⟨cur.toList,by simpa using hg,by omega,?_,.inr ⟨b,cap,_,rfl,hb,setRow_heap w b cur _ e _ hg,hnc,hcm,?_,?_⟩⟩
  ·simp only [List.length_append,List.length_take,List.length_drop];omega
  ·simp only [List.size_toArray,List.length_append,List.length_take,List.length_drop,hm];omega
  ·rw [← ht];apply List.ext_getElem?;intro j;simp only [List.getElem?_append,List.getElem?_take,List.getElem?_drop,List.length_append,List.length_take,List.length_drop,hm]
   repeat' split
   all_goals first|rfl|(exfalso;omega)|(congr 1;omega)|(rw [List.getElem?_eq_none oM])
theorem Mg {t:TypeId} {one:Bool} {m:Nat} (h:Id P t=some (one,m)) (ho:one=true):m=1:=by
 unfold Id at h;split at h
 ·simp at h;rw [h.1] at ho;cases ho
 ·simp at h;rw [h.1] at ho;cases ho
 ·split at h
  ·simp at h;exact h.2.symm
  ·cases h
 ·cases h
theorem Zz {o:Oper} {a:Act} {f:Nat->AV} {v:AV} {us:List (Oid×Option Ob)} {t:TypeId} {x y:Operand} {x' y':Opd} {one:Bool} {m:Nat} (ho:o.op=.store t x y) (h1:Id P t=some (one,m)) (h2:Opd.of x=some x') (h3:Opd.of y=some y')
  (he:U7 f ob one m x' y'=some (v,us)) (hm:Mem0 G w0 ob σ K w) (hK:∀ n,K n->K' n)
  (hf:∀ x∈o.op.operands,∀ y,Opd.of x=some y->AV.Rep σ (imm ob σ) w (y.ev f) (a.eval x)):Oper.does P o a w (Goes G w0 (Ae us ob) K' σ (imm ob σ) w v):=by
 have r1:=hf x (by simp [ho,Op.operands]) x' h2;have r2:=hf y (by simp [ho,Op.operands]) y' h3;unfold U7 at he;split at he
 ·rename_i j k hx;rw [hx] at r1;obtain ⟨b,cap,sz,e1,e2⟩:=r1;split at he
  ·rename_i ty cs hj;obtain ⟨ds,hds,hh⟩:=oms.1 he;obtain ⟨rfl,rfl⟩:=Prod.mk.inj hh;obtain ⟨vs,g1,g2,g3⟩:=hm.obs j _ _ hj e1;obtain ⟨ws,q1,q2,q3,q4,q5⟩:=Hp hds (Mg h1) r2 g2;have hrun:=Xq (P:=P) h1 g1 q1 q2 q3 q4;have hL:=Later.swap (o':=.cells ty ds) hj e1 (.inl ⟨rfl,rfl,rfl⟩) (Only.setRow w b (vs.take k++(ws++vs.drop (k+m))).toArray);refine Oper.does_skip (by simp [execOp,ho,e2,hrun]) ⟨_,hL,hm.swap hj e1 (.inl ⟨rfl,rfl,rfl⟩) (Only.setRow w b _) hK (hK _ (hm.gen _ _ e1)) (hm.cap _ _ _ _ e1) ⟨_,setRow_heap w b _ _ ty _ g1,AV.RepL.later hL _ _ q5,?_⟩,trivial⟩;intro u hu;rcases List.mem_append.1 hu with hu|hu
   ·exact g3 u (List.mem_of_mem_take hu)
   ·rcases List.mem_append.1 hu with hu|hu
    ·exact q4 u hu
    ·exact g3 u (List.mem_of_mem_drop hu)
  ·cases he
 ·rename_i j e k hx;rw [hx] at r1;obtain ⟨b,cap,sz,e1,e2⟩:=r1;split at he
  ·rename_i et ty xs hj;split at he
   ·rename_i d hd;split at he
    ·rename_i ds hds;split at he
     ·rename_i d' hd';obtain ⟨rfl,rfl⟩:=Prod.mk.inj (osj he);obtain ⟨hfl,hown,hsz⟩:=hm.obs j _ _ hj e1;obtain rfl:=hsz b cap sz rfl;obtain ⟨ws,q1,q2,q3,q4,q5⟩:=Hp hds (Mg h1) r2 (Ty.enc_rep (σ:=σ) (im:=imm ob σ) (w:=w) d hfl);rw [Ty.enc_length d hfl] at q3;obtain ⟨cur,c1,c2,c3⟩:=Yh hfl hd hown q2 q3 (Ty.ofAV_enc hfl q5 hd').symm;have hrun:=Xq (P:=P) (k:=e*ty.size+k) h1 c1 q1 q2 c2 q4;have hL:=Later.swap (o':=.arr et ty (xs.set e d')) hj e1 (.inl ⟨rfl,rfl,rfl⟩) (Only.setRow w b (cur.take (e*ty.size+k)++(ws++cur.drop (e*ty.size+k+m))).toArray);refine Oper.does_skip (by simp [execOp,ho,e2,hrun]) ⟨_,hL,hm.swap hj e1 (.inl ⟨rfl,rfl,rfl⟩) (Only.setRow w b _) hK (hK _ (hm.gen _ _ e1)) (hm.cap _ _ _ _ e1) ⟨hfl,?_,fun b c s h=>by cases h;rfl⟩,trivial⟩;rw [List.length_set];exact c3
     ·cases he
    ·cases he
   ·cases he
  ·rename_i et sz' n cs hj;obtain ⟨ds,hds,hh⟩:=oms.1 he;obtain ⟨rfl,rfl⟩:=Prod.mk.inj hh;obtain ⟨vs,hown,g2,g3,hsz⟩:=hm.obs j _ _ hj e1;obtain rfl:=hsz b cap sz rfl;obtain ⟨ws,q1,q2,q3,q4,q5⟩:=Hp hds (Mg h1) r2 g2;obtain ⟨cur,c1,c2,c3⟩:=Uk hown q2 q3;have hrun:=Xq (P:=P) (k:=e*sz+k) h1 c1 q1 q2 c2 q4;have hL:=Later.swap (o':=.vec et sz n ds) hj e1 (.inl ⟨rfl,rfl,rfl⟩) (Only.setRow w b (cur.take (e*sz+k)++(ws++cur.drop (e*sz+k+m))).toArray);refine Oper.does_skip (by simp [execOp,ho,e2,hrun]) ⟨_,hL,hm.swap hj e1 (.inl ⟨rfl,rfl,rfl⟩) (Only.setRow w b _) hK (hK _ (hm.gen _ _ e1)) (hm.cap _ _ _ _ e1) ⟨_,c3,AV.RepL.later hL _ _ q5,?_,fun b c s h=>by cases h;rfl⟩,trivial⟩;intro u hu;rcases List.mem_append.1 hu with hu|hu
   ·exact g3 u (List.mem_of_mem_take hu)
   ·rcases List.mem_append.1 hu with hu|hu
    ·exact q4 u hu
    ·exact g3 u (List.mem_of_mem_drop hu)
  ·cases he
 ·cases he
end
end
section
open Go.RowKit Go.Deep
def Ty.eq?:(a b:Ty)->Option (PLift (a=b))
 | .int,.int=>some ⟨rfl⟩
 | .bool,.bool=>some ⟨rfl⟩
 | .str,.str=>some ⟨rfl⟩
 | .slice a,.slice b=>match Ty.eq? a b with
  | some ⟨h⟩=>some ⟨congrArg Ty.slice h⟩
  | none=>none
 | .pair a b,.pair c d=>match Ty.eq? a c,Ty.eq? b d with
  | some ⟨h⟩,some ⟨k⟩=>some ⟨by rw [h,k]⟩
  | _,_=>none
 | _,_=>none
theorem Ty.eq?_self:∀ a:Ty,Ty.eq? a a=some ⟨rfl⟩
 | .int=>rfl
 | .bool=>rfl
 | .str=>rfl
 | .slice a=>by simp [Ty.eq?,Ty.eq?_self a]
 | .pair a b=>by simp [Ty.eq?,Ty.eq?_self a,Ty.eq?_self b]
def Km {a b:Ty} (h:PLift (a=b)) (xs:List a.D):List b.D:=h.down▸xs
theorem C5 {a:Ty} (h:PLift (a=a)) (xs:List a.D):Km h xs=xs:=rfl
def Wr:List (Option Ty)->Option Ty
 | []=>none
 | [x]=>x
 | x :: y :: r=>match x,Wr (y :: r) with
  | some a,some b=>some (.pair a b)
  | _,_=>none
def Ty.ofP (P:Program):Nat->TypeId->Option Ty
 | 0,_=>none
 | n+1,t=>match P.underlying t with
  | some (.int .i64)=>some .int
  | some .bool=>some .bool
  | some .string=>some .str
  | some (.slice e)=>(Ty.ofP P n e).map .slice
  | some (.struct fs)=>Wr (fs.toList.map fun f=>Ty.ofP P n f.type)
  | some (.array m e)=>Wr (List.replicate m (Ty.ofP P n e))
  | _=>none
def Ty.zeroB:Ty->List Value->Bool
 | .int,[.int .i64 n]=>n==0
 | .bool,[.bool b]=> !b
 | .str,[.string s]=>s.data.toList.isEmpty
 | .pair a b,vs=>a.zeroB (vs.take a.size)&&b.zeroB (vs.drop a.size)
 | _,_=>false
def L3 (P:Program) (e:TypeId) (t:Ty) (bytes:Nat):Bool :=
 match P.info? e with
 | some i=>match i.zero with
  | some z=>i.size==t.size&&(i.bytes==bytes&&(t.flat&&(t.zeroB z.cells.toList&&(decide (0<t.size)&&z.cells.size==t.size))))
  | none=>false
 | none=>false
theorem Ty.zeroB_eq:∀ {t:Ty} {vs:List Value},t.zeroB vs=true->vs=t.enc t.dflt
 | .int,vs,h=>by
  unfold Ty.zeroB at h;split at h <;> first|(cases h;done)|skip
  all_goals simp_all [Ty.enc,Ty.dflt]
 | .bool,vs,h=>by
  unfold Ty.zeroB at h;split at h <;> first|(cases h;done)|skip
  all_goals simp_all [Ty.enc,Ty.dflt]
 | .str,vs,h=>by
  unfold Ty.zeroB at h;split at h <;> first|(cases h;done)|skip
  all_goals simp_all [Ty.enc,Ty.dflt]
  exact ByteArray.ext h
 | .slice _,vs,h=>by
  unfold Ty.zeroB at h;cases h
 | .pair a b,vs,h=>by
  simp only [Ty.zeroB,Bool.and_eq_true] at h;have e1:=Ty.zeroB_eq h.1;have e2:=Ty.zeroB_eq h.2;rw [← List.take_append_drop a.size vs,e1,e2];rfl
theorem Hk {P:Program} {e:TypeId} {t:Ty} {bytes:Nat} (h:L3 P e t bytes=true):∃ i z,P.info? e=some i/\i.zero=some z/\i.size=t.size/\i.bytes=bytes/\t.flat=true/\z.cells.toList=t.enc t.dflt/\0<t.size/\z.cells.size=t.size:=by
 unfold L3 at h;split at h
 ·rename_i i hi;split at h
  ·rename_i z hz;simp only [Bool.and_eq_true,beq_iff_eq,decide_eq_true_eq] at h;obtain ⟨h1,h2,h3,h4,h5,h6⟩:=h;exact ⟨i,z,hi,hz,h1,h2,h3,Ty.zeroB_eq h4,h5,h6⟩
  ·cases h
 ·cases h
def D4 (ob:Oid->Option Ob) (t:Ty):AV->Option (List t.D)
 | .nils=>some []
 | .tree u xs=>match Ty.eq? u t with
  | some h=>some (Km h xs)
  | none=>none
 | .giv _ u xs=>match Ty.eq? u t with
  | some h=>some (Km h xs)
  | none=>none
 | .ftr _ u xs=>match Ty.eq? u t with
  | some h=>some (Km h xs)
  | none=>none
 | .own i _ off len=>match ob i with
  | some (.arr _ u xs)=>if off+len<=xs.length then match Ty.eq? u t with
   | some h=>some (((Km h xs).drop off).take len)
   | none=>none
   else none
  | _=>none
 | _=>none
section
variable {P:Program} {G:World->Prop} {w0 w w':World} {ob:Oid->Option Ob} {σ:Oid->Option Loc} {K K':Nat->Prop} {im:Nat->Prop}
theorem Rn {t:Ty} (hfl:t.flat=true) (xs:List t.D) (off len:Nat):t.cells ((xs.drop off).take len)=((t.cells xs).drop (off*t.size)).take (len*t.size):=by
 have hd:∀ (n:Nat) (xs:List t.D),t.cells (xs.drop n)=(t.cells xs).drop (n*t.size):=by
  intro n
  induction n with
  | zero=>simp
  | succ n ih =>
   intro xs;cases xs with
   | nil=>simp [Ty.cells]
   | cons x r =>
    have e1:t.cells (x :: r)=t.enc x++t.cells r:=by simp [Ty.cells]
    rw [List.drop_succ_cons,ih,e1,Nat.succ_mul,List.drop_append,Ty.enc_length x hfl,List.drop_of_length_le (l:=t.enc x) (by rw [Ty.enc_length x hfl];omega),List.nil_append,Nat.add_sub_cancel]
 have ht:∀ (n:Nat) (xs:List t.D),t.cells (xs.take n)=(t.cells xs).take (n*t.size):=by
  intro n
  induction n with
  | zero=>simp [Ty.cells]
  | succ n ih =>
   intro xs;cases xs with
   | nil=>simp [Ty.cells]
   | cons x r =>
    have e1:t.cells (x :: r)=t.enc x++t.cells r:=by simp [Ty.cells]
    have e2:t.cells (x :: r.take n)=t.enc x++t.cells (r.take n):=by simp [Ty.cells]
    rw [List.take_succ_cons,e2,ih,e1,Nat.succ_mul,List.take_append,Ty.enc_length x hfl,List.take_of_length_le (l:=t.enc x) (by rw [Ty.enc_length x hfl];omega),Nat.add_sub_cancel]
 rw [ht,hd]
theorem Pr {t:Ty} (hfl:t.flat=true) {R:Nat->Prop} {ad:Addr} {c:Nat} {ys:List t.D} {l:List Addr} (hy:Sl R w t (some ad) c ys l) {j:Nat} {u:Value} (hj:(t.cells ys)[j]? =some u):w.cell? (ad.add j)=some u:=by
 have hlt':=(gSi.1 hj).1;rw [Ty.cells_length hfl] at hlt'
 have hsz:0<t.size:=by
  rcases Nat.eq_zero_or_pos t.size with h|h
  ·rw [h] at hlt';omega
  ·exact h
 have hi':j / t.size<ys.length:=Nat.div_lt_of_lt_mul (by rw [Nat.mul_comm];exact hlt');have h0:0<ys.length:=Nat.lt_of_le_of_lt (Nat.zero_le _) hi';have hm:=Nat.mod_lt j hsz;have hj':j / t.size*t.size+j % t.size=j:=by rw [Nat.mul_comm];exact Nat.div_add_mod j t.size
 obtain ⟨_,_,f,_,hf⟩:=hy;obtain ⟨ad',he,_,hmem⟩:=hf h0;obtain rfl:=osj he;have:=((hmem _ hi').flat hfl).1 _ hm;rw [Bt,hj',← Ty.cells_get hfl ys _ hi' _ hm,hj'] at this;rw [this];exact hj
theorem M9 {t:Ty} {c:AV} {v:Value} {ys:List t.D} {obL:Oid->Option Ob} {lo:Nat} (hfl:t.flat=true) (h:D4 obL t c=some ys) (hob:∀ i o l,obL i=some o->σ i=some l->o.Rep lo σ im w l) (hr:AV.Rep σ im w c v) :
  ∃ A cp,v=.slice A ys.length cp/\(A=none->ys=[])/\∀ ad,A=some ad->∀ j u,(t.cells ys)[j]? =some u->w.cell? (ad.add j)=some u:=by
 unfold D4 at h;split at h
 ·obtain rfl:=osj h;exact ⟨none,0,hr,fun _=>rfl,fun _ e=>by cases e⟩
 ·rename_i u xs;split at h
  ·rename_i hh _;obtain rfl:=osj h;obtain ⟨hh⟩:=hh;subst hh;obtain ⟨A,cp,l,rfl,hs⟩:=hr;refine ⟨A,cp,rfl,fun e=>?_,fun ad e j u' hu=>?_⟩
   ·subst e;rcases Nat.eq_zero_or_pos xs.length with h0|h0
    ·exact List.length_eq_zero_iff.1 h0
    ·obtain ⟨_,_,_,_,hf⟩:=hs;obtain ⟨ad,he,_⟩:=hf h0;cases he
   ·subst e;exact Pr hfl hs hu
  ·cases h
 ·rename_i vg u xs;split at h
  ·rename_i hh _;obtain rfl:=osj h;obtain ⟨hh⟩:=hh;subst hh;obtain ⟨A,cp,l,rfl,hs⟩:=hr.2;refine ⟨A,cp,rfl,fun e=>?_,fun ad e j u' hu=>?_⟩
   ·subst e;rcases Nat.eq_zero_or_pos xs.length with h0|h0
    ·exact List.length_eq_zero_iff.1 h0
    ·obtain ⟨_,_,_,_,hf⟩:=hs;obtain ⟨ad,he,_⟩:=hf h0;cases he
   ·subst e;exact Pr hfl hs hu
  ·cases h
 ·rename_i vg u xs;split at h
  ·rename_i hh _;obtain rfl:=osj h;obtain ⟨hh⟩:=hh;subst hh;obtain ⟨A,cp,l,rfl,hs0⟩:=hr;have hs:Sl im w _ A cp xs l:=Al (fun b _ hb=>hb.1) hs0;refine ⟨A,cp,rfl,fun e=>?_,fun ad e j u' hu=>?_⟩
   ·subst e;rcases Nat.eq_zero_or_pos xs.length with h0|h0
    ·exact List.length_eq_zero_iff.1 h0
    ·obtain ⟨_,_,_,_,hf⟩:=hs;obtain ⟨ad,he,_⟩:=hf h0;cases he
   ·subst e;exact Pr hfl hs hu
  ·cases h
 ·rename_i i u0 off len;split at h
  ·rename_i e' u xs hj;split at h
   ·rename_i hle;split at h
    ·rename_i hh _;obtain rfl:=osj h;obtain ⟨hh⟩:=hh;subst hh
     have hlen:(((Km ⟨rfl⟩ xs:List u.D).drop off).take len).length=len:=by
      rw [C5,List.length_take,List.length_drop];omega
     rcases hr with ⟨e1,e2,e3,e4⟩|⟨b,cap,e1,e2,e3⟩|⟨lc,e1,e2,e3,A,c,e4,e5⟩
     rotate_left
     rotate_left
     ·subst e3;exact ⟨A,c,by rw [hlen];exact e4,fun _=>by simp,fun ad _ j u' hu=>by simp [C5,Ty.cells] at hu⟩
     ·subst e2 e3;exact ⟨none,0,by rw [hlen];exact e4,fun _=>by simp,fun _ e=>by cases e⟩
     ·obtain ⟨_,hown,hsz⟩:=hob i _ _ hj e1;have hs0:=hsz b cap _ rfl;refine ⟨some ⟨b,off*u0.size,none⟩,cap - off,by rw [hlen];exact e3,(fun e=>by cases e),fun ad e j u' hu=>?_⟩;obtain rfl:=osj e;rw [C5,Rn hfl,List.getElem?_take] at hu;split at hu
      ·rw [List.getElem?_drop] at hu;have:=hown.cells (g:=b) rfl _ _ hu;rw [A4,Nat.zero_add] at this;rw [A4,hs0];exact this
      ·cases hu
    ·cases h
   ·cases h
  ·cases h
 ·cases h
end
end
section
open Go.RowKit Go.Deep
def N9 (f:Nat->AV) (t:Ty):List Opd->Option (List t.D)
 | []=>some []
 | x :: xs=>match (match x.ev f with | .agg cs=>t.ofAV cs|c=>t.ofAV [c]),N9 f t xs with
  | some y,some ys=>some (y :: ys)
  | _,_=>none
def Yb (f:Nat->AV) (i:Oid) (e:TypeId) (t:Ty) (xs:List Opd):Option (AV×List (Oid×Option Ob)) :=
 match N9 f t xs with
 | some ys=>some (.own i t 0 ys.length,[(i,some (.arr e t ys))])
 | none=>none
def Pk (f:Nat->AV) (i:Oid) (e:TypeId) (t:Ty) (bytes:Nat) (len cap:Opd):Option (AV×List (Oid×Option Ob)) :=
 match len.ev f,cap.ev f with
 | .int _ n,.int _ c=>if 0<=n/\n<=c/\c<=1073741824/\(bytes:Int)*c<=140737488355328 then some (.own i t 0 n.toNat,[(i,some (.arr e t (List.replicate n.toNat t.dflt)))]) else none
 | _,_=>none
def F7 (f:Nat->AV) (ob:Oid->Option Ob) (i:Oid) (e:TypeId) (t:Ty) (bytes:Nat) (x y:Opd):Option (AV×List (Oid×Option Ob)) :=
 match D4 ob t (y.ev f) with
 | some ys=>match x.ev f with
  | .nils=>if ys.length<=1073741824/\ys.length*bytes<=140737488355328 then some (.own i t 0 ys.length,[(i,some (.arr e t ys))]) else none
  | .own j _ off len=>match ob j with
   | some (.arr e' u xs)=>match Ty.eq? u t with
    | some h=>if off=0/\len<=xs.length/\e'=e/\len+ys.length<=1073741824/\(len+ys.length)*bytes<=140737488355328 then
      some (.own (j.1,i.2) t 0 (len+ys.length),[(j,none),((j.1,i.2),some (.arr e t ((Km h xs).take len++ys)))]) else none
    | none=>none
   | _=>none
  | _=>none
 | none=>none
def Dn (f:Nat->AV) (d:Nat):Option Opd->Option Int
 | none=>some d
 | some x=>match x.ev f with
  | .int _ n=>some n
  | _=>none
def Tf (f:Nat->AV) (sz:Nat) (x:Opd) (lo hi mx:Option Opd):Option AV :=
 match (x.ev f).un with
 | .tree t xs=>match Dn f 0 lo,Dn f xs.length hi,Dn f xs.length mx with
  | some l,some h,some m=>if t.size=sz/\0<=l/\l<=h/\h<=m/\m<=xs.length then some (trM (x.ev f).tag t ((xs.take h.toNat).drop l.toNat)) else none
  | _,_,_=>none
 | .own i t off len=>match Dn f 0 lo,Dn f len hi,mx with
  | some l,some h,none=>if t.size=sz/\0<=l/\l<=h/\h<=len then some (.own i t (off+l.toNat) (h - l).toNat) else none
  | _,_,_=>none
 | _=>none
def Yx (f:Nat->AV) (x:Opd) (lo hi:Option Opd):Option AV :=
 match x.ev f with
 | .str s=>match Dn f 0 lo,Dn f s.size hi with
  | some l,some h=>if 0<=l/\l<=h/\h<=s.size then some (.str (s.extract l.toNat h.toNat)) else none
  | _,_=>none
 | _=>none
section
variable {P:Program} {G:World->Prop} {w0 w w':World} {ob:Oid->Option Ob} {σ:Oid->Option Loc} {K K':Nat->Prop} {im:Nat->Prop}
theorem Goes.row (h:Mem0 G w0 ob σ K w) (hK:∀ n,K n->K' n) {i:Oid} (hi:¬ K i.2) (hi':K' i.2) {e:TypeId} {t:Ty} {xs:List t.D} (hfl:t.flat=true) (hb:Below w.heap.size w w') {l:Loc} (hl:∀ b c s,l=.at_ b c s->s=t.size)
  (ho:ownsV w' w.heap.size e t.size (l.val xs.length) xs.length (t.cells xs)):Goes G w0 (upd ob i (some (.arr e t xs))) K' σ (imm ob σ) w (.own i t 0 xs.length) (l.val xs.length) w':=by
 have hs:=Goes.fresh h hi
 have hlt:∀ b c s,l=.at_ b c s->w.heap.size<=b/\b<w'.heap.size/\c<=maxLen:=by
  intro b c s e;subst e;refine ⟨(ho.lt b rfl).1,(ho.lt b rfl).2,?_⟩;rcases ho.2 with ⟨e1,_⟩|⟨_,_,_,e1,_,_,_,hm,_⟩
  ·cases e1
  ·cases e1;exact hm
 have hL:=Later.new (ob:=ob) (i:=i) (l:=l) (o:=.arr e t xs) hs hb (fun b c s e=>(hlt b c s e).1)
 have ho':ownsV w' w0.heap.size e t.size (l.val xs.length) xs.length (t.cells xs):=by
  refine ⟨ho.1,?_⟩;rcases ho.2 with hn|⟨g,cap,cur,e1,hb',rest⟩
  ·exact .inl hn
  ·exact .inr ⟨g,cap,cur,e1,Nat.le_trans h.below.size hb',rest⟩
 refine ⟨_,hL,h.new hs hb hlt hK hi' ⟨hfl,ho',hl⟩,?_⟩;cases l with
 | nil =>
  rcases ho.2 with ⟨_,h0⟩|⟨_,_,_,e1,_⟩
  ·rw [h0];exact .inl ⟨Ar _ _ _,rfl,rfl,rfl⟩
  ·cases e1
 | at_ b c s =>
  obtain rfl:=hl b c s rfl;rcases ho.2 with ⟨e1,_⟩|⟨g,cap,cur,e1,_,_,hc,_⟩
  ·cases e1
  ·cases e1;exact .inr (.inl ⟨b,c,Ar _ _ _,by omega,by simp [Loc.val]⟩)
theorem Zu {t:Ty} {z:Array Value} {n c:Int} {sz:Nat} (hfl:t.flat=true) (hz:z.size=t.size) (he:z.toList=t.enc t.dflt) (hnc:n<=c) (_h0:0<=n) (hs:sz=t.size) (hp:0<t.size) :
  (madeCells z (c.toNat*sz)).toList.take (n.toNat*t.size)=t.cells (List.replicate n.toNat t.dflt:List t.D):=by
 subst hs;have hle:n.toNat*t.size<=c.toNat*t.size:=Nat.mul_le_mul_right _ oM;apply List.ext_getElem?;intro j;rw [List.getElem?_take];split
 ·rename_i hj;have hi:j / t.size<n.toNat:=Nat.div_lt_of_lt_mul (by rw [Nat.mul_comm];exact hj);have hm:=Nat.mod_lt j hp;have hj':j / t.size*t.size+j % t.size=j:=by rw [Nat.mul_comm];exact Nat.div_add_mod j t.size
  have:=Ty.cells_get hfl (List.replicate n.toNat t.dflt:List t.D) (j / t.size) (by simpa using hi) (j % t.size) hm;rw [hj'] at this;rw [this,List.getElem_replicate,← he];have hlt:j<c.toNat*t.size:=by omega
  simp [madeCells,hlt,hz,hm]
 ·rename_i hj;rw [List.getElem?_eq_none (by rw [Ty.cells_length hfl];simp;omega)]
theorem Later.trans {σ1 σ2 σ3:Oid->Option Loc} {i1 i2 i3:Nat->Prop} {a b c:World} (h:Later σ1 σ2 i1 i2 a b) (k:Later σ2 σ3 i2 i3 b c):Later σ1 σ3 i1 i3 a c :=
 ⟨fun i l hi=>k.loc i l (h.loc i l hi),fun x hx hi=>k.im_ x (Nat.lt_of_lt_of_le hx h.size) (h.im_ x hx hi),fun x hx hi=>(k.blk x (Nat.lt_of_lt_of_le hx h.size) (h.im_ x hx hi)).trans (h.blk x hx hi),Nat.le_trans h.size k.size⟩
theorem Acr {i:Oid} {b:Nat} (h:imm ob σ b):imm (upd ob i none) σ b:=fun j o c s hj=>by
 by_cases e:j=i
 ·subst e;rw [Ar] at hj;cases hj
 ·rw [Aq _ _ _ _ e] at hj;exact h j o c s hj
theorem Later.kill (i:Oid):Later σ σ (imm ob σ) (imm (upd ob i none) σ) w w:=⟨fun _ _ h=>h,fun _ _ h=>Acr h,fun _ _ _=>rfl,Nat.le_refl _⟩
theorem Mem0.kill (h:Mem0 G w0 ob σ K w) (i:Oid):Mem0 G w0 (upd ob i none) σ K w:=by
 refine ⟨h.below,h.inv,h.gen,h.lt,h.cap,fun j k b c s c' s' o o' hj hk=>?_,fun j o l hj hl=>?_⟩
 ·have nj:j≠i:=fun e=>by subst e;rw [Ar] at hj;cases hj
  have nk:k≠i:=fun e=>by subst e;rw [Ar] at hk;cases hk
  rw [Aq _ _ _ _ nj] at hj;rw [Aq _ _ _ _ nk] at hk;exact h.inj j k b c s c' s' o o' hj hk
 ·have nj:j≠i:=fun e=>by subst e;rw [Ar] at hj;cases hj
  rw [Aq _ _ _ _ nj] at hj;exact (h.obs j o l hj hl).later (Later.kill i) fun _ _ _ _=>rfl
theorem Lp {e:TypeId} {t:Ty} {xs:List t.D} {base n:Nat} {l:Loc} (hfl:t.flat=true) (h:ownsV w base e t.size (l.val xs.length) xs.length (t.cells xs)) (hn:n<=xs.length) (hl:l=.nil->n=0) :
  ownsV w base e t.size (l.val n) n (t.cells (xs.take n)):=by
 have hc:t.cells (xs.take n)=(t.cells xs).take (n*t.size):=by simpa using Rn hfl xs 0 n
 have hlen:(xs.take n).length=n:=by rw [List.length_take];omega
 refine ⟨by rw [Ty.cells_length hfl,hlen],?_⟩;cases l with
 | nil=>exact .inl ⟨rfl,hl rfl⟩
 | at_ b c s =>
  rcases h.2 with ⟨e1,_⟩|⟨g,cap,cur,e1,hb,hg,hnc,hm,hs,ht⟩
  ·cases e1
  ·cases e1;refine .inr ⟨b,c,cur,rfl,hb,hg,by omega,hm,hs,?_⟩;rw [hc,← ht,List.take_take,Nat.min_eq_left (Nat.mul_le_mul_right _ hn)]
theorem Jk {ty e rt:TypeId} {inf:TypeInfo} {z:Value} {sz bytes:Nat} (ht:P.underlying ty=some (.slice e)) (q1:P.info? e=some inf) (q2:inf.zero=some z) (q3:inf.size=sz) (q4:inf.bytes=bytes) (q7:0<sz) (q8:z.cells.size=sz)
  {cs ds:List Value} {n m:Nat} {l:Loc} (hs:∀ b c s,l=.at_ b c s->s=sz) {base:Nat} (hown:ownsV w base e sz (l.val n) n cs) (hlen:ds.length=m*sz) (h1:∀ u∈ds,u.oneCell'=true)
  {A:Option Addr} {cp:Nat} (hA:A=none->m=0) (hsrc:∀ ad,A=some ad->∀ j u,ds[j]? =some u->w.cell? (ad.add j)=some u) (h63:n+m<=1073741824) (hby:(n+m)*bytes<=140737488355328) :
  ∃ (l':Loc) (w':World),(Builtin.append_ #[ty,ty] rt #[l.val n,.slice A m cp]).run P w=.ok (l'.val (n+m)) w'/\(∀ b c s,l'=.at_ b c s->s=sz) /\
   ((∃ b c,l=.at_ b c sz/\l'=.at_ b c sz/\Only b w w'/\ownsV w' base e sz (l'.val (n+m)) (n+m) (cs++ds)) ∨
    (Below w.heap.size w w'/\ownsV w' w.heap.size e sz (l'.val (n+m)) (n+m) (cs++ds))):=by
 subst q3
 have hzero:m=0->A=none->(Builtin.append_ #[ty,ty] rt #[l.val n,.slice A m cp]).run P w=.ok (l.val n) w:=by
  rintro rfl rfl;cases l with
  | nil =>
   have h0:n=0:=by
    rcases hown.2 with ⟨_,h⟩|⟨_,_,_,e1,_⟩
    ·exact h
    ·cases e1
   subst h0;simp [Builtin.append_,run_underlying ht,sizeOf,typeInfo,q1,Builtin.lenOf,Builtin.firstCells,Loc.val]
  | at_ b c s =>
   rcases hown.2 with ⟨e1,_⟩|⟨g,cap,cur,e1,_,_,hnc,_⟩
   ·cases e1
   ·cases e1;simp [Builtin.append_,run_underlying ht,sizeOf,typeInfo,q1,Builtin.lenOf,Builtin.firstCells,hnc,storeCells,Loc.val]
 have hnew:∀ cap,n+m<=cap->cap<=maxLen->cs.length=n*inf.size->ownsV (w.drew.alloc (.cells (cs.toArray++ds.toArray++Builtin.zeroCells z.cells (cap - (n+m))) e)) w.heap.size e inf.size (.slice (some ⟨w.heap.size,0,none⟩) (n+m) cap) (n+m) (cs++ds):=by
  intro cap h2 h3 h4;have hl:(cs++ds).length=(n+m)*inf.size:=by rw [List.length_append,h4,hlen,Nat.add_mul]
  refine ⟨hl,.inr ⟨w.heap.size,cap,_,rfl,Nat.le_refl _,heap_alloc_new w.drew _,h2,h3,?_,?_⟩⟩
  ·simp only [Array.size_append,List.size_toArray,size_zeroCells,q8,h4,hlen,← Nat.add_mul];exact Nat.mul_le_mul_right _ oM
  ·simp only [Array.toList_append];rw [← hl];exact List.take_left
 cases A with
 | none =>
  have h0:=hA rfl;have hr:=hzero h0 rfl;subst h0;obtain rfl:ds=[]:=List.eq_nil_of_length_eq_zero (by simpa using hlen);cases l with
  | nil =>
   have h0:n=0:=by
    rcases hown.2 with ⟨_,h⟩|⟨_,_,_,e1,_⟩
    ·exact h
    ·cases e1
   exact ⟨.nil,w,hr,hs,.inr ⟨Below.refl _ _,by simpa using hown.1,.inl ⟨rfl,by simpa using h0⟩⟩⟩
  | at_ b c s =>
   obtain rfl:=hs b c s rfl;exact ⟨.at_ b c inf.size,w,hr,hs,.inl ⟨b,c,rfl,rfl,Only.of_below (Below.refl _ _),by simpa using hown⟩⟩
 | some ad =>
  cases l with
  | nil =>
   have h0:n=0:=by
    rcases hown.2 with ⟨_,h⟩|⟨_,_,_,e1,_⟩
    ·exact h
    ·cases e1
   subst h0;obtain rfl:cs=[]:=List.eq_nil_of_length_eq_zero (by simpa using hown.1);obtain ⟨v',w',hr,ho,hg,_⟩:=run_append_own (P:=P) w w.heap.size ty rt e inf z inf.size bytes ht q1 q2 rfl q4 (by rw [q8]) q7 (Value.slice none 0 0) 0 [] (World.ownsRow_nil w _ e inf.size) ad m cp ds hlen (hsrc ad rfl) h1 (by simp only [maxLen];omega) hby (Nat.le_refl _);have hb:Below w.heap.size w w':=⟨hg.os,hg.tape,hg.output,hg.size,fun k hk=>hg.block k hk (by simp [Value.ownBlock])⟩
   have ho':ownsV w' w.heap.size e inf.size v' (0+m) ([]++ds):=by
    refine ⟨ho.1,?_⟩;rcases ho.2 with hn|⟨g,cap,cur,e1,a1,a2,a3,a4,a5,a6⟩
    ·exact .inl hn
    ·exact .inr ⟨g,cap,cur,e1,a1,a2,a3,a4,Nat.le_of_eq a5.symm,a6⟩
   rcases ho.2 with ⟨rfl,hn⟩|⟨g,cap,cur,rfl,_⟩
   ·exact ⟨.nil,w',hr,(fun _ _ _ e=>by cases e),.inr ⟨hb,ho'⟩⟩
   ·exact ⟨.at_ g cap inf.size,w',hr,(fun _ _ _ e=>by cases e;rfl),.inr ⟨hb,ho'⟩⟩
  | at_ b c s =>
   obtain rfl:=hs b c s rfl;have holds:=hown.cells (g:=b) rfl;have hown1:=hown.1;rcases hown.2 with ⟨e1,_⟩|⟨g,cap,cur,e1,hbg,hgg,hnc,hcm,hcs,htake⟩
   ·cases e1
   ·cases e1;by_cases hroom:n+m<=c
    ·have hfit:n*inf.size+ds.length<=cur.size:=by
      rw [hlen,← Nat.add_mul];exact Nat.le_trans (Nat.mul_le_mul_right _ hroom) hcs
     have hr2:=run_append_room (P:=P) w ty rt e inf ht q1 b n c cur hgg ad m cp ds hlen (hsrc ad rfl) h1 hroom hfit;refine ⟨.at_ b c inf.size,_,hr2,(fun _ _ _ e=>by cases e;rfl),.inl ⟨b,c,rfl,rfl,Only.setRow w b _,?_⟩⟩;refine ⟨by rw [List.length_append,hown1,hlen,Nat.add_mul],.inr ⟨b,c,_,rfl,hbg,setRow_heap w b cur _ e _ hgg,hroom,hcm,?_,?_⟩⟩
     ·have hct:(cur.toList.take (n*inf.size)).length=n*inf.size:=by rw [htake,hown1]
      have hcl:cur.toList.length=cur.size:=Array.length_toList ..;simp only [List.size_toArray,List.length_append,List.length_drop,hct,hcl];omega
     ·have hl:(cs++ds).length=(n+m)*inf.size:=by rw [List.length_append,hown1,hlen,Nat.add_mul]
      rw [htake,← hl];exact List.take_left
    ·have hr2:=run_append_grow (P:=P) w ty rt e inf z ht q1 q2 ⟨b,0,none⟩ n c cs hown1 holds ad m cp ds hlen (hsrc ad rfl) oM oM (growslice_fits oM (by rw [q4];exact hby));exact ⟨.at_ w.heap.size _ inf.size,_,hr2,(fun _ _ _ e=>by cases e;rfl),.inr ⟨((Below.refl _ _).drew).alloc (Nat.le_refl _) _,hnew _ (grownCap_ge w (n+m) c e) (grownCap_le_maxLen w (n+m) c e (by simp only [maxLen];omega)) hown1⟩⟩
theorem Qx {ty e rt:TypeId} {t:Ty} {bytes:Nat} (ht:P.underlying ty=some (.slice e)) (hel:L3 P e t bytes=true) {xs ys:List t.D} {l:Loc} (hs:∀ b c s,l=.at_ b c s->s=t.size) {base:Nat} (hown:ownsV w base e t.size (l.val xs.length) xs.length (t.cells xs))
  {A:Option Addr} {cp:Nat} (hA:A=none->ys=[]) (hsrc:∀ ad,A=some ad->∀ j u,(t.cells ys)[j]? =some u->w.cell? (ad.add j)=some u) (h63:xs.length+ys.length<=1073741824) (hby:(xs.length+ys.length)*bytes<=140737488355328) :
  ∃ (l':Loc) (w':World),(Builtin.append_ #[ty,ty] rt #[l.val xs.length,.slice A ys.length cp]).run P w=.ok (l'.val (xs.length+ys.length)) w'/\(∀ b c s,l'=.at_ b c s->s=t.size) /\
   ((∃ b c,l=.at_ b c t.size/\l'=.at_ b c t.size/\Only b w w'/\ownsV w' base e t.size (l'.val (xs.length+ys.length)) (xs.length+ys.length) (t.cells (xs++ys))) ∨
    (Below w.heap.size w w'/\ownsV w' w.heap.size e t.size (l'.val (xs.length+ys.length)) (xs.length+ys.length) (t.cells (xs++ys)))):=by
 obtain ⟨inf,z,q1,q2,q3,q4,q5,q6,q7,q8⟩:=Hk hel;rw [Ty.cells_append];exact Jk ht q1 q2 q3 q4 q7 q8 hs hown (Ty.cells_length q5 ys) (Ty.cells_one ys) (fun h=>by rw [hA h];rfl) hsrc h63 hby
theorem Ux {o:Oper} {a:Act} {f:Nat->AV} {i:Oid} {v:AV} {us:List (Oid×Option Ob)} {ty e:TypeId} {t:Ty} {bytes:Nat} {x y:Operand} {x' y':Opd} (ho:o.op=.makeSlice ty x y) (ht:P.underlying ty=some (.slice e)) (hel:L3 P e t bytes=true) (h2:Opd.of x=some x') (h3:Opd.of y=some y')
  (he:Pk f i e t bytes x' y'=some (v,us)) (hm:Mem0 G w0 ob σ K w) (hK:∀ n,K n->K' n) (hi:¬ K i.2) (hi':K' i.2)
  (hf:∀ x∈o.op.operands,∀ y,Opd.of x=some y->AV.Rep σ (imm ob σ) w (y.ev f) (a.eval x)):Oper.does P o a w (Goes G w0 (Ae us ob) K' σ (imm ob σ) w v):=by
 have r1:=hf x (by simp [ho,Op.operands]) x' h2;have r2:=hf y (by simp [ho,Op.operands]) y' h3;unfold Pk at he;split at he
 ·rename_i k n k' c hx hy;rw [hx] at r1;rw [hy] at r2;have e1:a.eval x=.int k n:=r1;have e2:a.eval y=.int k' c:=r2;split at he
  ·rename_i hc;obtain ⟨c1,c2,c3,c4⟩:=hc;obtain ⟨rfl,rfl⟩:=Prod.mk.inj (osj he);obtain ⟨inf,z,q1,q2,q3,q4,q5,q6,q7,q8⟩:=Hk hel;have hrun:=run_make (P:=P) w ty e inf z ht q1 q2 k k' n c c1 c2 (by rw [q4];omega) oM;have hlen:(List.replicate n.toNat t.dflt:List t.D).length=n.toNat:=List.length_replicate
   have hg:=Goes.row (w':=w.alloc (.cells (madeCells z.cells (c.toNat*inf.size)) e)) hm hK hi hi' (e:=e) (xs:=(List.replicate n.toNat t.dflt:List t.D)) q5 ((Below.refl _ _).alloc (Nat.le_refl _) _) (l:=.at_ w.heap.size c.toNat t.size) (fun b c s h=>by cases h;rfl) (by
    rw [hlen];refine ⟨by rw [Ty.cells_length q5,hlen],.inr ⟨w.heap.size,c.toNat,madeCells z.cells (c.toNat*inf.size),rfl,Nat.le_refl _,by show (w.heap.push _)[w.heap.size]? =_;simp,by omega,by simp only [maxLen];omega,by simp [madeCells,q3],?_⟩⟩;exact Zu q5 (by rw [q8]) q6 c2 c1 q3 q7)
   rw [hlen] at hg;exact Oper.does_value (by simp [execOp,ho,e1,e2,hrun,Loc.val]) hg
  ·cases he
 ·cases he
theorem Kk {o:Oper} {a:Act} {f:Nat->AV} {i:Oid} {v:AV} {us:List (Oid×Option Ob)} {ty e:TypeId} {t:Ty} {bytes:Nat} {x y:Operand} {x' y':Opd} {c:Call} (ho:o.op=.call c) (hcb:c.callee=.builtin .append) (hca:c.args= #[x,y]) (hct:c.argTypes= #[ty,ty])
  (ht:P.underlying ty=some (.slice e)) (hel:L3 P e t bytes=true) (h2:Opd.of x=some x') (h3:Opd.of y=some y')
  {obL:Oid->Option Ob} (he:F7 f obL i e t bytes x' y'=some (v,us)) (hob:∀ i o l,obL i=some o->σ i=some l->o.Rep w0.heap.size σ (imm ob σ) w l) (hE:x'.ev f≠.nils->obL=ob) (hm:Mem0 G w0 ob σ K w) (hK:∀ n,K n->K' n) (hi:¬ K i.2) (hi':K' i.2)
  (hf:∀ x∈o.op.operands,∀ y,Opd.of x=some y->AV.Rep σ (imm ob σ) w (y.ev f) (a.eval x)):Oper.does P o a w (Goes G w0 (Ae us ob) K' σ (imm ob σ) w v):=by
 have r1:=hf x (by simp [ho,Op.operands,Call.operands,hca]) x' h2;have r2:=hf y (by simp [ho,Op.operands,Call.operands,hca]) y' h3;have hfl:t.flat=true:=by obtain ⟨_,_,_,_,_,_,h,_⟩:=Hk hel;exact h
 have hex:∀ r w',(Builtin.append_ #[ty,ty] o.type #[a.eval x,a.eval y]).run P w=.ok r w'->(execOp a.eval o).run P w=.ok (.value r) w':=by
  intro r w' h;simp [execOp,ho,resolve,hcb,hca,hct,invoke,builtin,h]
 unfold F7 at he;split at he
 ·rename_i ys hys;obtain ⟨A,cp,e2,hA,hsrc⟩:=M9 hfl hys hob r2;split at he
  ·rename_i hx;rw [hx] at r1;have e1:a.eval x=.slice none 0 0:=r1;split at he
   ·rename_i hc;obtain ⟨rfl,rfl⟩:=Prod.mk.inj (osj he);obtain ⟨l',w',hr,hs,hcase⟩:=Qx (P:=P) (rt:=o.type) (w:=w) (xs:=([]:List t.D)) (l:=.nil) ht hel (fun _ _ _ e=>by cases e) (base:=w.heap.size) ⟨by simp [Ty.cells],.inl ⟨rfl,rfl⟩⟩ (ys:=ys) (cp:=cp) hA hsrc (by simpa using hc.1) (by simpa using hc.2);simp only [List.length_nil,Nat.zero_add,List.nil_append] at hr hcase
    have hb:Below w.heap.size w w'/\ownsV w' w.heap.size e t.size (l'.val ys.length) ys.length (t.cells ys):=by
     rcases hcase with ⟨_,_,h,_⟩|h
     ·cases h
     ·exact h
    refine Oper.does_value (hex _ _ (by rw [e1,e2];exact hr)) (Goes.row hm hK hi hi' hfl hb.1 hs hb.2)
   ·cases he
  ·rename_i j u0 off len hx;rw [hx] at r1;have hEE:obL=ob:=hE (by rw [hx];simp);subst hEE;split at he
   ·rename_i e' u xs hj;split at he
    ·rename_i hh _;split at he
     ·rename_i hc;obtain ⟨rfl,c2,rfl,c4,c5⟩:=hc;obtain ⟨rfl,rfl⟩:=Prod.mk.inj (osj he);obtain ⟨hh⟩:=hh;subst hh;rw [C5];have hlen:(xs.take len).length=len:=by rw [List.length_take];omega
      have hsl:∃ l,σ j=some l/\a.eval x=l.val len/\(l=.nil->len=0):=by
       rcases r1 with ⟨g1,_,g3,g4⟩|⟨b,cap,g1,_,g4⟩|⟨_,_,g,_⟩
       rotate_left
       rotate_left
       ·exact absurd rfl g
       ·exact ⟨.nil,g1,g4,fun _=>g3⟩
       ·exact ⟨.at_ b cap u0.size,g1,by simpa [Loc.val] using g4,fun h=>by cases h⟩
      obtain ⟨l,g1,g2,g3⟩:=hsl;obtain ⟨_,hown,hs⟩:=hm.obs j _ _ hj g1;have hown':=Lp hfl hown c2 g3;rw [← hlen] at hown';obtain ⟨l',w',hr,hs',hcase⟩:=Qx (P:=P) (rt:=o.type) (w:=w) (xs:=xs.take len) (l:=l) ht hel hs (base:=w0.heap.size) (by rw [hlen] at hown' ⊢;exact hown') (ys:=ys) (cp:=cp) hA hsrc (by rw [hlen];exact c4) (by rw [hlen];exact c5);rw [hlen] at hr hcase;have hfr:σ (j.1,i.2)=none:=Goes.fresh hm (i:=(j.1,i.2)) hi;refine Oper.does_value (hex _ _ (by rw [g2,e2];exact hr)) ?_;rcases hcase with ⟨b,c,rfl,rfl,hb,ho'⟩|⟨hb,ho'⟩
      ·have hL:=Later.swap (o':=.arr e' u (xs.take len++ys)) (c':=c) (s':=u.size) hj g1 (.inr hfr) hb;refine ⟨_,hL,hm.swap hj g1 (.inr hfr) hb hK hi' (hm.cap _ _ _ _ g1) ⟨hfl,?_,hs'⟩,.inr (.inl ⟨b,c,Ar _ _ _,?_,by simp [Loc.val]⟩)⟩
       ·rw [List.length_append,hlen];exact ho'
       ·rcases ho'.2 with ⟨e1,_⟩|⟨_,_,_,e1,_,_,hc',_⟩
        ·cases e1
        ·cases e1;omega
      ·have hg:=Goes.row (hm.kill j) hK (i:=(j.1,i.2)) hi hi' (xs:=xs.take len++ys) hfl hb hs' (by rw [List.length_append,hlen];exact ho');rw [List.length_append,hlen] at hg;obtain ⟨σ',hL,hM,hR⟩:=hg;exact ⟨σ',(Later.kill j).trans hL,hM,hR⟩
     ·cases he
    ·cases he
   ·cases he
  ·cases he
 ·cases he
end
end
end Go.Proofs.YtjlcpiemabfpiaaGreatDoor
