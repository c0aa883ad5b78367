/- Data in memory stay what they read as when only new blocks, or only the leaves of other data, have changed; the leaves of data that a call itself made; no condition. -/
import Derived.Test.YtefolocdfgelcaaDoorMem
import Derived.Deep.OwnRows
import Derived.Deep.Draws
namespace Go.Proofs.YtefolocdfgelcaaDoor
open Go.ChangeShapes Go.WideShapes Go.ChangeAt Go.RowKit

theorem ret_bool {a b : Bool} (h : a = b) : Ending.returned (.bool a) = .returned (.bool b) := by rw [h]
theorem ret_int {k : IntKind} {a b : Int} (h : a = b) : Ending.returned (.int k a) = .returned (.int k b) := by rw [h]
theorem bcell {W w1 : World} (hb : Below W.heap.size W w1) : (∀ b o, b < W.heap.size → w1.cell? ⟨b, o, none⟩ = W.cell? ⟨b, o, none⟩) ∧ (∀ b o, b < W.heap.size → w1.frozen? ⟨b, o, none⟩ = W.frozen? ⟨b, o, none⟩) :=
  ⟨fun b o h => hb.cell (p := ⟨b, o, none⟩) h, fun b o h => hb.frozen (p := ⟨b, o, none⟩) h⟩
theorem below_draws_ {B : Nat} {a w : World} (h : Below B a w) (n : Nat) : Below B a (w.drewN n) := h.trans ⟨rfl, rfl, rfl, Nat.le_refl _, fun _ _ => rfl⟩
theorem below_has {w w' : World} (h : Below w.heap.size w w') {p : Addr} {u : Value} (hu : w.cell? p = some u) : w'.cell? p = some u :=
  (h.cell (World.block_lt_of_cell? w p hu)).trans hu

section
variable {R R' : Nat → Prop} {w w' : World}

/-- What is read, in blocks of R: the leaves in l, and every slice. -/
def Stays (R : Nat → Prop) (w w' : World) (l : List Addr) : Prop :=
  ∀ (p : Addr) (u : Value), R p.block → w.cell? p = some u → (p ∈ l ∨ ∃ A n c, u = .slice A n c) → w'.cell? p = some u
theorem Stays.sub {l l' : List Addr} (h : Stays R w w' l) (hl : ∀ p ∈ l', p ∈ l) : Stays R w w' l' :=
  fun p u hr hc hp => h p u hr hc (hp.imp (hl p) id)
theorem Stays.below (h : Below w.heap.size w w') (l : List Addr) : Stays R w w' l := fun _ _ _ hc _ => below_has h hc

theorem Elems.keep {α : Type} {M M' : Addr → α → List Addr → Prop} {sz : Nat} {A : Option Addr} {c : Nat} {xs : List α} {l : List Addr} (h : Elems R M sz A c xs l)
    (hM : ∀ a x k, R a.block → (∀ p ∈ k, p ∈ l) → M a x k → M' a x k) : Elems R M' sz A c xs l := by
  obtain ⟨h1, h2, f, rfl, hf⟩ := h
  refine ⟨h1, h2, f, rfl, fun h0 => ?_⟩
  obtain ⟨ad, rfl, hr, hi⟩ := hf h0
  exact ⟨ad, rfl, hr, fun i hlt => hM _ _ _ (by rw [block_of_add]; exact hr) (fun p hp => List.mem_flatMap.2 ⟨i, by simpa using hlt, hp⟩) (hi i hlt)⟩

theorem Ty.Mem.keep : ∀ {t : Ty} {a : Addr} {x : t.D} {l : List Addr}, R a.block → Stays R w w' l → Ty.Mem R w t a x l → Ty.Mem R w' t a x l
  | .int, _, _, _, ha, hs, ⟨h, e⟩ => ⟨hs _ _ ha h (.inl (by rw [e]; simp)), e⟩
  | .bool, _, _, _, ha, hs, ⟨h, e⟩ => ⟨hs _ _ ha h (.inl (by rw [e]; simp)), e⟩
  | .str, _, _, _, ha, hs, ⟨h, e⟩ => ⟨hs _ _ ha h (.inl (by rw [e]; simp)), e⟩
  | .slice t, _, _, _, ha, hs, ⟨A, c, h, he⟩ => ⟨A, c, hs _ _ ha h (.inr ⟨_, _, _, rfl⟩), he.keep fun _ _ _ hr hk hm => Ty.Mem.keep hr (hs.sub hk) hm⟩
  | .pair t u, a, _, _, ha, hs, ⟨l1, l2, h1, h2, e⟩ =>
    ⟨l1, l2, Ty.Mem.keep ha (hs.sub fun p hp => by rw [e]; simp [hp]) h1, Ty.Mem.keep (a := a.add t.size) (by rw [block_of_add]; exact ha) (hs.sub fun p hp => by rw [e]; simp [hp]) h2, e⟩

theorem Ty.Val.keep : ∀ {t : Ty} {cs : List Value} {x : t.D} {l : List Addr}, Stays R w w' l → Ty.Val R w t cs x l → Ty.Val R w' t cs x l
  | .int, _, _, _, _, h => h
  | .bool, _, _, _, _, h => h
  | .str, _, _, _, _, h => h
  | .slice t, _, _, _, hs, ⟨A, c, h, he⟩ => ⟨A, c, h, he.keep fun _ _ _ hr hk hm => Ty.Mem.keep hr (hs.sub hk) hm⟩
  | .pair t u, _, _, _, hs, ⟨c1, c2, l1, l2, hc, h1, h2, e⟩ =>
    ⟨c1, c2, l1, l2, hc, Ty.Val.keep (hs.sub fun p hp => by rw [e]; simp [hp]) h1, Ty.Val.keep (hs.sub fun p hp => by rw [e]; simp [hp]) h2, e⟩

theorem sl_keep {t : Ty} {A : Option Addr} {c : Nat} {xs : List t.D} {l : List Addr} (h : Sl R w t A c xs l) (hs : Stays R w w' l) : Sl R w' t A c xs l :=
  h.keep fun _ _ _ hr hk hm => Ty.Mem.keep hr (hs.sub hk) hm
theorem sl_below {t : Ty} {A : Option Addr} {c : Nat} {xs : List t.D} {l : List Addr} (h : Sl R w t A c xs l) (hb : Below w.heap.size w w') : Sl R w' t A c xs l :=
  sl_keep h (Stays.below hb l)
theorem val_below {t : Ty} {cs : List Value} {x : t.D} {l : List Addr} (h : Ty.Val R w t cs x l) (hb : Below w.heap.size w w') : Ty.Val R w' t cs x l :=
  h.keep (Stays.below hb l)

/-- Blocks of R that exist are blocks of R'. -/
theorem Ty.Mem.mono (hR : ∀ b, b < w.heap.size → R b → R' b) : ∀ {t : Ty} {a : Addr} {x : t.D} {l : List Addr}, Ty.Mem R w t a x l → Ty.Mem R' w t a x l
  | .int, _, _, _, h => h
  | .bool, _, _, _, h => h
  | .str, _, _, _, h => h
  | .slice t, _, _, _, ⟨A, c, h, h1, h2, f, e, hf⟩ => ⟨A, c, h, h1, h2, f, e, fun h0 => by
    obtain ⟨ad, e', hr, hi⟩ := hf h0
    have hlt : ad.block < w.heap.size := by
      have : ∀ {t : Ty} {a : Addr} {x : t.D} {l : List Addr}, Ty.Mem R w t a x l → a.block < w.heap.size := by
        intro t
        induction t with
        | int => exact fun h => World.block_lt_of_cell? w _ h.1
        | bool => exact fun h => World.block_lt_of_cell? w _ h.1
        | str => exact fun h => World.block_lt_of_cell? w _ h.1
        | slice t _ => exact fun ⟨_, _, h, _⟩ => World.block_lt_of_cell? w _ h
        | pair a b ha _ => exact fun ⟨_, _, h, _⟩ => ha h
      have := this (hi 0 h0)
      rwa [block_of_add] at this
    exact ⟨ad, e', hR _ hlt hr, fun i hlt' => Ty.Mem.mono hR (hi i hlt')⟩⟩
  | .pair _ _, _, _, _, ⟨l1, l2, h1, h2, e⟩ => ⟨l1, l2, Ty.Mem.mono hR h1, Ty.Mem.mono hR h2, e⟩
theorem Ty.Mem.lt {t : Ty} {a : Addr} {x : t.D} {l : List Addr} (h : Ty.Mem R w t a x l) : a.block < w.heap.size := by
  induction t generalizing a l with
  | int => exact World.block_lt_of_cell? w _ h.1
  | bool => exact World.block_lt_of_cell? w _ h.1
  | str => exact World.block_lt_of_cell? w _ h.1
  | slice t _ => obtain ⟨_, _, h, _⟩ := h; exact World.block_lt_of_cell? w _ h
  | pair a b ha _ => obtain ⟨_, _, h, _⟩ := h; exact ha h
theorem Ty.Mem.spot {t : Ty} {a : Addr} {x : t.D} {l : List Addr} (h : Ty.Mem R w t a x l) : a.spot = none := by
  induction t generalizing a l with
  | int => exact World.cell?_spot h.1
  | bool => exact World.cell?_spot h.1
  | str => exact World.cell?_spot h.1
  | slice t _ => obtain ⟨_, _, h, _⟩ := h; exact World.cell?_spot h
  | pair a b ha _ => obtain ⟨_, _, h, _⟩ := h; exact ha h
theorem add_mk (b o k : Nat) : (⟨b, o, none⟩ : Addr).add k = ⟨b, o + k, none⟩ := by unfold Addr.add; split <;> simp_all
/-- The elements of a slice that is not empty, by the block and the offset at which they lie. -/
theorem sl_at {t : Ty} {A : Option Addr} {c : Nat} {xs : List t.D} {l : List Addr} (h : Sl R w t A c xs l) (h0 : 0 < xs.length) :
    ∃ (b o : Nat) (f : Nat → List Addr), A = some ⟨b, o, none⟩ ∧ R b ∧ b < w.heap.size ∧ l = (List.range xs.length).flatMap f ∧ ∀ (i : Nat) (hi : i < xs.length), Ty.Mem R w t ⟨b, o + i * t.size, none⟩ xs[i] (f i) := by
  obtain ⟨_, _, f, e, hf⟩ := h
  obtain ⟨⟨b, o, s⟩, rfl, hr, hi⟩ := hf h0
  obtain rfl : s = none := by simpa [Addr.add] using (hi 0 h0).spot
  exact ⟨b, o, f, rfl, hr, by simpa [Addr.add] using (hi 0 h0).lt, e, fun i hlt => by rw [← add_mk]; exact hi i hlt⟩
theorem sl_mono {t : Ty} {A : Option Addr} {c : Nat} {xs : List t.D} {l : List Addr} (hR : ∀ b, b < w.heap.size → R b → R' b) (h : Sl R w t A c xs l) : Sl R' w t A c xs l := by
  obtain ⟨h1, h2, f, e, hf⟩ := h
  refine ⟨h1, h2, f, e, fun h0 => ?_⟩
  obtain ⟨ad, e', hr, hi⟩ := hf h0
  have hlt : ad.block < w.heap.size := by have := (hi 0 h0).lt; rwa [block_of_add] at this
  exact ⟨ad, e', hR _ hlt hr, fun i hlt' => (hi i hlt').mono hR⟩
theorem sl_any {t : Ty} {A : Option Addr} {c : Nat} {xs : List t.D} {l : List Addr} (h : Sl R w t A c xs l) : Sl (fun _ => True) w t A c xs l := sl_mono (fun _ _ _ => trivial) h

/-- A leaf's value. -/
def Leafy : Value → Prop
  | .int _ _ | .bool _ | .string _ => True
  | _ => False

theorem Ty.Mem.leaf : ∀ {t : Ty} {a : Addr} {x : t.D} {l : List Addr}, R a.block → Ty.Mem R w t a x l → ∀ p ∈ l, R p.block ∧ ∃ u, w.cell? p = some u ∧ Leafy u
  | .int, _, _, _, ha, ⟨h, e⟩, p, hp => by subst e; obtain rfl := List.mem_singleton.1 hp; exact ⟨ha, _, h, trivial⟩
  | .bool, _, _, _, ha, ⟨h, e⟩, p, hp => by subst e; obtain rfl := List.mem_singleton.1 hp; exact ⟨ha, _, h, trivial⟩
  | .str, _, _, _, ha, ⟨h, e⟩, p, hp => by subst e; obtain rfl := List.mem_singleton.1 hp; exact ⟨ha, _, h, trivial⟩
  | .slice t, _, _, _, _, ⟨A, c, _, h1, h2, f, e, hf⟩, p, hp => by
    subst e
    obtain ⟨i, hi, hpi⟩ := List.mem_flatMap.1 hp
    have hi' := List.mem_range.1 hi
    obtain ⟨ad, _, hr, hm⟩ := hf (by omega)
    exact Ty.Mem.leaf (by rw [block_of_add]; exact hr) (hm i hi') p hpi
  | .pair t u, a, _, _, ha, ⟨l1, l2, h1, h2, e⟩, p, hp => by
    subst e
    rcases List.mem_append.1 hp with h | h
    · exact Ty.Mem.leaf ha h1 p h
    · exact Ty.Mem.leaf (by rw [block_of_add]; exact ha) h2 p h
theorem sl_leaf {t : Ty} {A : Option Addr} {c : Nat} {xs : List t.D} {l : List Addr} (h : Sl R w t A c xs l) : ∀ p ∈ l, R p.block ∧ ∃ u, w.cell? p = some u ∧ Leafy u := by
  obtain ⟨h1, h2, f, rfl, hf⟩ := h
  intro p hp
  obtain ⟨i, hi, hpi⟩ := List.mem_flatMap.1 hp
  have hi' := List.mem_range.1 hi
  obtain ⟨ad, _, hr, hm⟩ := hf (by omega)
  exact Ty.Mem.leaf (by rw [block_of_add]; exact hr) (hm i hi') p hpi
theorem Ty.Val.leaf : ∀ {t : Ty} {cs : List Value} {x : t.D} {l : List Addr}, Ty.Val R w t cs x l → ∀ p ∈ l, R p.block ∧ ∃ u, w.cell? p = some u ∧ Leafy u
  | .int, _, _, _, ⟨_, e⟩, p, hp => by subst e; cases hp
  | .bool, _, _, _, ⟨_, e⟩, p, hp => by subst e; cases hp
  | .str, _, _, _, ⟨_, e⟩, p, hp => by subst e; cases hp
  | .slice t, _, _, _, ⟨A, c, _, h⟩, p, hp => sl_leaf h p hp
  | .pair t u, _, _, _, ⟨_, _, l1, l2, _, h1, h2, e⟩, p, hp => by
    subst e
    rcases List.mem_append.1 hp with h | h
    · exact Ty.Val.leaf h1 p h
    · exact Ty.Val.leaf h2 p h
end

/-- The leaves of data that a call made: each is met once, none lies below block lo, all can be written. -/
def Fresh (w : World) (lo : Nat) (l : List Addr) : Prop := l.Nodup ∧ ∀ p ∈ l, lo ≤ p.block ∧ p.block < w.heap.size ∧ w.frozen? p = false

section
variable {w w' : World} {lo mid : Nat} {l l1 l2 : List Addr}
theorem Fresh.nil (w : World) (lo : Nat) : Fresh w lo [] := ⟨List.nodup_nil, fun _ h => by cases h⟩
theorem Fresh.below (h : Fresh w lo l) (hb : Below w.heap.size w w') : Fresh w' lo l :=
  ⟨h.1, fun p hp => ⟨(h.2 p hp).1, Nat.lt_of_lt_of_le (h.2 p hp).2.1 hb.size, (hb.frozen (h.2 p hp).2.1).trans (h.2 p hp).2.2⟩⟩
theorem Fresh.le (h : Fresh w mid l) (hl : lo ≤ mid) : Fresh w lo l := ⟨h.1, fun p hp => ⟨Nat.le_trans hl (h.2 p hp).1, (h.2 p hp).2⟩⟩
/-- What was made before, and what is made after. -/
theorem Fresh.append (h1 : Fresh w lo l1) (hb : Below w.heap.size w w') (h2 : Fresh w' w.heap.size l2) (hlo : lo ≤ w.heap.size) : Fresh w' lo (l1 ++ l2) := by
  refine ⟨List.nodup_append.2 ⟨h1.1, h2.1, fun a ha b hb' e => ?_⟩, fun p hp => ?_⟩
  · subst e
    have := (h1.2 a ha).2.1
    have := (h2.2 a hb').1
    omega
  · rcases List.mem_append.1 hp with h | h
    · exact (h1.below hb).2 p h
    · exact ⟨Nat.le_trans hlo (h2.2 p h).1, (h2.2 p h).2⟩
theorem Fresh.sub1 (h : Fresh w lo (l1 ++ l2)) : Fresh w lo l1 := ⟨(List.nodup_append.1 h.1).1, fun p hp => h.2 p (List.mem_append_left _ hp)⟩
theorem Fresh.sub2 (h : Fresh w lo (l1 ++ l2)) : Fresh w lo l2 := ⟨(List.nodup_append.1 h.1).2.1, fun p hp => h.2 p (List.mem_append_right _ hp)⟩
end

/-- The blocks from lo on. -/
def From (lo : Nat) (b : Nat) : Prop := lo ≤ b

/-- What lay from block lo on lies there unchanged. -/
structure Above (lo : Nat) (w w' : World) : Prop where
  size : w.heap.size ≤ w'.heap.size
  block : ∀ k, lo ≤ k → k < w.heap.size → w'.heap[k]? = w.heap[k]?

section
variable {lo mid : Nat} {a w w' : World} {l l1 l2 : List Addr}
theorem Above.refl (lo : Nat) (w : World) : Above lo w w := ⟨Nat.le_refl _, fun _ _ _ => rfl⟩
theorem Above.trans {w'' : World} (h : Above lo w w') (k : Above lo w' w'') : Above lo w w'' :=
  ⟨Nat.le_trans h.size k.size, fun i h1 h2 => (k.block i h1 (Nat.lt_of_lt_of_le h2 h.size)).trans (h.block i h1 h2)⟩
theorem Above.below (h : Above lo a w) (hb : Below w.heap.size w w') : Above lo a w' :=
  ⟨Nat.le_trans h.size hb.size, fun k h1 h2 => (hb.block k (Nat.lt_of_lt_of_le h2 h.size)).trans (h.block k h1 h2)⟩
theorem Above.setCell (h : Above lo a w) {p : Addr} (hp : p.block < lo) (v : Value) : Above lo a (w.setCell p v) :=
  ⟨by simpa [World.setCell] using h.size, fun k h1 h2 => (Below.heap_setCell w p v k (by omega)).trans (h.block k h1 h2)⟩
theorem Above.alloc (h : Above lo a w) (o : Obj) : Above lo a (w.alloc o) :=
  ⟨Nat.le_trans h.size (by simp), fun k h1 h2 => (Below.heap_alloc w o k (Nat.lt_of_lt_of_le h2 h.size)).trans (h.block k h1 h2)⟩
theorem Above.drew (h : Above lo a w) : Above lo a w.drew := ⟨h.size, h.block⟩
theorem Above.drewN (h : Above lo a w) (n : Nat) : Above lo a (w.drewN n) := ⟨h.size, h.block⟩
theorem Above.stays {R : Nat → Prop} (h : Above lo w w') (hR : ∀ b, R b → lo ≤ b) (l : List Addr) : Stays R w w' l :=
  fun p _ hr hc _ => (World.cell?_of_block (h.block p.block (hR _ hr) (World.block_lt_of_cell? w p hc))).trans hc
theorem sl_above {R : Nat → Prop} {t : Ty} {A : Option Addr} {c : Nat} {xs : List t.D} {l : List Addr} (h : Sl R w t A c xs l) (hb : Above lo w w') (hR : ∀ b, R b → lo ≤ b) : Sl R w' t A c xs l :=
  sl_keep h (hb.stays hR l)
theorem sl_up {lo' : Nat} {t : Ty} {A : Option Addr} {c : Nat} {xs : List t.D} {l : List Addr} (h : Sl (From lo) w t A c xs l) (hb : Above lo w w') (hl : lo' ≤ lo) : Sl (From lo') w' t A c xs l :=
  sl_mono (fun _ _ hr => Nat.le_trans hl hr) (sl_above h hb (fun _ hr => hr))
theorem Fresh.above (h : Fresh w lo l) (hb : Above lo w w') : Fresh w' lo l :=
  ⟨h.1, fun p hp => ⟨(h.2 p hp).1, Nat.lt_of_lt_of_le (h.2 p hp).2.1 hb.size, (World.frozen?_of_block (hb.block _ (h.2 p hp).1 (h.2 p hp).2.1)).trans (h.2 p hp).2.2⟩⟩
theorem Fresh.append' (h1 : Fresh w lo l1) (hb : Above lo w w') (h2 : Fresh w' mid l2) (hm : w.heap.size ≤ mid) (hl : lo ≤ mid) : Fresh w' lo (l1 ++ l2) := by
  refine ⟨List.nodup_append.2 ⟨h1.1, h2.1, fun a ha b hb' e => ?_⟩, fun p hp => ?_⟩
  · subst e
    have := (h1.2 a ha).2.1
    have := (h2.2 a hb').1
    omega
  · rcases List.mem_append.1 hp with h | h
    · exact (h1.above hb).2 p h
    · exact ⟨Nat.le_trans hl (h2.2 p h).1, (h2.2 p h).2⟩
end

/-- Only the cells in S, which are leaves, and what is new, have changed. -/
structure Marked (S : List Addr) (w w' : World) : Prop where
  os : w'.os = w.os
  tape : w'.tape = w.tape
  output : w'.output = w.output
  size : w.heap.size ≤ w'.heap.size
  cell : ∀ p, p.block < w.heap.size → p ∉ S → w'.cell? p = w.cell? p
  frozen : ∀ p, p.block < w.heap.size → w'.frozen? p = w.frozen? p
  block : ∀ k, k < w.heap.size → (∀ p ∈ S, p.block ≠ k) → w'.heap[k]? = w.heap[k]?

section
variable {w w' w'' : World} {S S' l : List Addr} {R : Nat → Prop}
theorem Marked.of_below (h : Below w.heap.size w w') : Marked [] w w' :=
  ⟨h.os, h.tape, h.output, h.size, fun _ hp _ => h.cell hp, fun _ hp => h.frozen hp, fun k hk _ => h.block k hk⟩
theorem Marked.trans (h : Marked S w w') (k : Marked S' w' w'') : Marked (S ++ S') w w'' :=
  ⟨k.os.trans h.os, k.tape.trans h.tape, k.output.trans h.output, Nat.le_trans h.size k.size,
    fun p hp hn => (k.cell p (Nat.lt_of_lt_of_le hp h.size) (fun hm => hn (List.mem_append_right _ hm))).trans (h.cell p hp (fun hm => hn (List.mem_append_left _ hm))),
    fun p hp => (k.frozen p (Nat.lt_of_lt_of_le hp h.size)).trans (h.frozen p hp),
    fun b hb hn => (k.block b (Nat.lt_of_lt_of_le hb h.size) (fun p hm => hn p (List.mem_append_right _ hm))).trans (h.block b hb (fun p hm => hn p (List.mem_append_left _ hm)))⟩
theorem Marked.setCell (w : World) (p : Addr) (v : Value) : Marked [p] w (w.setCell p v) :=
  ⟨rfl, rfl, rfl, by simp [World.setCell], fun q _ hq => World.cell?_setCell_other _ _ _ _ (fun e => hq (by rw [e]; simp)), fun q _ => World.frozen?_setCell _ _ _ _,
    fun k _ hk => Below.heap_setCell w p v k (fun e => hk p (by simp) e.symm)⟩
theorem Marked.more (h : Marked S w w') (hs : ∀ p ∈ S, p ∈ S') : Marked S' w w' :=
  ⟨h.os, h.tape, h.output, h.size, fun p hp hn => h.cell p hp (fun hm => hn (hs p hm)), h.frozen, fun k hk hn => h.block k hk (fun p hm => hn p (hs p hm))⟩
/-- Data whose leaves are not among those that were written stay. -/
theorem Marked.stays (h : Marked S w w') (hS : ∀ p ∈ S, ∃ u, w.cell? p = some u ∧ Leafy u) (hd : ∀ p ∈ l, p ∉ S) : Stays R w w' l := by
  intro p u _ hc hp
  refine (h.cell p (World.block_lt_of_cell? w p hc) ?_).trans hc
  rcases hp with hp | ⟨A, n, c, rfl⟩
  · exact hd p hp
  · intro hm
    obtain ⟨u, hu, hl⟩ := hS p hm
    rw [hc] at hu
    obtain rfl := Option.some.inj hu
    exact hl
theorem Marked.below {B : Nat} (h : Marked S w w') (hS : ∀ p ∈ S, B ≤ p.block) (hB : B ≤ w.heap.size) : Below B w w' :=
  ⟨h.os, h.tape, h.output, h.size, fun k hk => h.block k (by omega) (fun p hp => by have := hS p hp; omega)⟩
theorem Fresh.marked {lo : Nat} (h : Fresh w lo l) (hm : Marked S w w') : Fresh w' lo l :=
  ⟨h.1, fun p hp => ⟨(h.2 p hp).1, Nat.lt_of_lt_of_le (h.2 p hp).2.1 hm.size, (hm.frozen p (h.2 p hp).2.1).trans (h.2 p hp).2.2⟩⟩
/-- Leaves in other blocks, by the blocks' numbers. -/
theorem apart_of {lo hi : Nat} (h1 : ∀ p ∈ l, p.block < hi) (h2 : ∀ p ∈ S, lo ≤ p.block) (hh : hi ≤ lo) : ∀ p ∈ l, p ∉ S := fun p hp hs => by
  have := h1 p hp; have := h2 p hs; omega
end
end Go.Proofs.YtefolocdfgelcaaDoor
