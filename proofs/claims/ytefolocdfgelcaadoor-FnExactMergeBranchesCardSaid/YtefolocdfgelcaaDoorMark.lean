/- Leaves that are overwritten by counted marks, and what is read from them afterwards; no condition. -/
import Derived.Test.YtefolocdfgelcaaDoorFlat
namespace Go.Proofs.YtefolocdfgelcaaDoor
open Go.RowKit Go.Deep

def mdig (n : Nat) (acc : List UInt8) : List UInt8 := if h : n = 0 then acc else mdig (n / 10) (UInt8.ofNat (48 + n % 10) :: acc)
termination_by n
decreasing_by omega
/-- The text that marks a string. -/
def mtxt (k : Int) : ByteArray := ⟨(109 :: if k ≤ 0 then [48] else mdig k.toNat []).toArray⟩
/-- What a leaf is overwritten with. -/
def markV : Value → Int → Value
  | .int ik _, n => .int ik n
  | .bool _, n => .bool (decide (n % 3 = 0))
  | .string _, n => .string (mtxt n)
  | v, _ => v
theorem leafy_markV : ∀ {u : Value}, Leafy u → ∀ n, Leafy (markV u n)
  | .int _ _, _, _ => trivial
  | .bool _, _, _ => trivial
  | .string _, _, _ => trivial

theorem calls_cast {P : Program} {f : FuncId} {args args' : Array Value} {w : World} {Q : Ending → World → Prop} (h : args' = args) (H : Calls P f args w Q) : Calls P f args' w Q := h ▸ H

/-- The leaves l, in their order, bear the marks from k on; nothing else old has changed. -/
structure MarkedAs (l : List Addr) (k : Int) (w w' : World) : Prop where
  frame : Marked l w w'
  val : ∀ (i : Nat) (h : i < l.length), ∃ u, w.cell? l[i] = some u ∧ Leafy u ∧ w'.cell? l[i] = some (markV u (k + i))
def HeldAs (l : List Addr) (k : Int) (w : World) : Prop := ∀ (i : Nat) (h : i < l.length), ∃ u, Leafy u ∧ w.cell? l[i] = some (markV u (k + i))

section
variable {R : Nat → Prop} {w w1 w2 w' : World} {k : Int} {lo : Nat} {l l1 l2 : List Addr}
theorem MarkedAs.nil (w : World) (k : Int) : MarkedAs [] k w w := ⟨Marked.of_below (Below.refl _ _), fun i h => absurd h (by simp)⟩
theorem MarkedAs.held (h : MarkedAs l k w w') : HeldAs l k w' := fun i hi => by
  obtain ⟨u, _, hl, hc⟩ := h.val i hi
  exact ⟨u, hl, hc⟩
theorem HeldAs.below (h : HeldAs l k w) (hb : Below w.heap.size w w') : HeldAs l k w' := fun i hi => by
  obtain ⟨u, hl, hc⟩ := h i hi
  exact ⟨u, hl, below_has hb hc⟩
theorem HeldAs.above (h : HeldAs l k w) (hb : Above lo w w') (hl : ∀ p ∈ l, lo ≤ p.block) : HeldAs l k w' := fun i hi => by
  obtain ⟨u, hu, hc⟩ := h i hi
  exact ⟨u, hu, (World.cell?_of_block (hb.block _ (hl _ (List.getElem_mem hi)) (World.block_lt_of_cell? w _ hc))).trans hc⟩
theorem HeldAs.left (h : HeldAs (l1 ++ l2) k w) : HeldAs l1 k w := fun i hi => by
  have := h i (by rw [List.length_append]; omega)
  rwa [List.getElem_append_left hi] at this
theorem HeldAs.right (h : HeldAs (l1 ++ l2) k w) : HeldAs l2 (k + l1.length) w := fun i hi => by
  have := h (l1.length + i) (by rw [List.length_append]; omega)
  rw [List.getElem_append_right (by omega)] at this
  simp only [Nat.add_sub_cancel_left, Int.natCast_add] at this
  rwa [← Int.add_assoc] at this
theorem MarkedAs.below (h : MarkedAs l k w w1) (hb : Below w1.heap.size w1 w2) : MarkedAs l k w w2 := by
  refine ⟨by simpa using h.frame.trans (Marked.of_below hb), fun i hi => ?_⟩
  obtain ⟨u, hc, hl, hm⟩ := h.val i hi
  exact ⟨u, hc, hl, below_has hb hm⟩
theorem MarkedAs.after (hb : Below w.heap.size w w1) (h : MarkedAs l k w1 w2) (hl : ∀ p ∈ l, p.block < w.heap.size) : MarkedAs l k w w2 := by
  refine ⟨by simpa using (Marked.of_below hb).trans h.frame, fun i hi => ?_⟩
  obtain ⟨u, hc, hu, hm⟩ := h.val i hi
  exact ⟨u, (hb.cell (hl _ (List.getElem_mem hi))).symm.trans hc, hu, hm⟩
theorem MarkedAs.append (h1 : MarkedAs l1 k w w1) (h2 : MarkedAs l2 (k + l1.length) w1 w2) (hf : Fresh w lo (l1 ++ l2)) : MarkedAs (l1 ++ l2) k w w2 := by
  have hd := (List.nodup_append.1 hf.1).2.2
  refine ⟨h1.frame.trans h2.frame, fun i hi => ?_⟩
  by_cases h : i < l1.length
  · rw [List.getElem_append_left h]
    obtain ⟨u, hc, hl, hm⟩ := h1.val i h
    refine ⟨u, hc, hl, (h2.frame.cell _ (World.block_lt_of_cell? w1 _ hm) fun hp => ?_).trans hm⟩
    exact hd _ (List.getElem_mem h) _ hp rfl
  · rw [List.getElem_append_right (by omega)]
    have hi2 : i - l1.length < l2.length := by rw [List.length_append] at hi; omega
    obtain ⟨u, hc, hl, hm⟩ := h2.val (i - l1.length) hi2
    have hp : l2[i - l1.length] ∈ l2 := List.getElem_mem hi2
    refine ⟨u, (h1.frame.cell _ (hf.2 _ (List.mem_append_right _ hp)).2.1 fun hq => hd _ hq _ hp rfl).symm.trans hc, hl, ?_⟩
    rw [hm]
    congr 2
    omega
theorem MarkedAs.cellOf {j i : Nat} {u : Value} (h : MarkedAs (l.take j) k w w1) (hf : Fresh w lo l) (hj : j ≤ i) (hi : i < l.length) (hu : w.cell? l[i] = some u) : w1.cell? l[i] = some u := by
  refine (h.frame.cell _ (World.block_lt_of_cell? w _ hu) fun hp => ?_).trans hu
  obtain ⟨q, hq, he⟩ := List.mem_take_iff_getElem.1 hp
  have := (List.getElem_inj hf.1).1 he
  omega
theorem MarkedAs.thaw (h : MarkedAs l1 k w w1) (hf : Fresh w lo l) {p : Addr} (hp : p ∈ l) : w1.frozen? p = false :=
  (h.frame.frozen _ (hf.2 _ hp).2.1).trans (hf.2 _ hp).2.2
theorem MarkedAs.step {j : Nat} {u : Value} (h : MarkedAs (l.take j) k w w1) (hf : Fresh w lo l) (hj : j < l.length) (hu : w.cell? l[j] = some u) (hl : Leafy u) {p : Addr} {v : Value} (hp : p = l[j]) (hv : v = markV u (k + j)) :
    MarkedAs (l.take (j + 1)) k w (w1.setCell p v) := by
  subst hp hv
  have hc := h.cellOf hf (Nat.le_refl j) hj hu
  rw [List.take_succ_eq_append_getElem hj]
  refine h.append (lo := lo) ⟨Marked.setCell w1 l[j] _, fun i hi => ?_⟩ ?_
  · obtain rfl : i = 0 := by simp at hi; omega
    refine ⟨u, hc, hl, ?_⟩
    have hlen : (l.take j).length = j := by rw [List.length_take]; omega
    simp only [List.getElem_singleton, hlen]
    rw [World.cell?_setCell_same _ _ _ hc]
    simp
  · rw [← List.take_succ_eq_append_getElem hj]
    exact ⟨hf.1.sublist (List.take_sublist _ _), fun p hp => hf.2 p (List.mem_of_mem_take hp)⟩
theorem MarkedAs.size (h : MarkedAs l k w w') : w.heap.size ≤ w'.heap.size := h.frame.size
theorem MarkedAs.belowAt {B : Nat} (h : MarkedAs l k w w') (hl : ∀ p ∈ l, B ≤ p.block) (hB : B ≤ w.heap.size) : Below B w w' := h.frame.below hl hB
theorem MarkedAs.aboveAt {B : Nat} (h : MarkedAs l k w w') (hl : ∀ p ∈ l, p.block < B) : Above B w w' :=
  ⟨h.size, fun q hq hs => h.frame.block q hs (fun p hp e => by have := hl p hp; omega)⟩

/-- Data in memory keep their form when some of their leaves change and keep their kinds. -/
theorem Ty.Mem.remark (hk : ∀ p u, w.cell? p = some u → (¬ Leafy u → w'.cell? p = some u) ∧ (∀ k n, u = .int k n → ∃ m, w'.cell? p = some (.int k m)) ∧ (∀ b, u = .bool b → ∃ c, w'.cell? p = some (.bool c)) ∧ (∀ s, u = .string s → ∃ t, w'.cell? p = some (.string t))) :
    ∀ {t : Ty} {a : Addr} {x : t.D} {l : List Addr}, Ty.Mem R w t a x l → ∃ y : t.D, Ty.Mem R w' t a y l ∧ (∀ (u : Ty) (e : t = .slice u) , (cast (by rw [e]) y : (Ty.slice u).D).length = (cast (by rw [e]) x : (Ty.slice u).D).length)
  | .int, a, x, l, ⟨h, e⟩ => by
    obtain ⟨m, hm⟩ := (hk _ _ h).2.1 _ _ rfl
    exact ⟨m, ⟨hm, e⟩, fun u e => by cases e⟩
  | .bool, a, x, l, ⟨h, e⟩ => by
    obtain ⟨m, hm⟩ := (hk _ _ h).2.2.1 _ rfl
    exact ⟨m, ⟨hm, e⟩, fun u e => by cases e⟩
  | .str, a, x, l, ⟨h, e⟩ => by
    obtain ⟨m, hm⟩ := (hk _ _ h).2.2.2 _ rfl
    exact ⟨m, ⟨hm, e⟩, fun u e => by cases e⟩
  | .slice t, a, x, l, ⟨A, c, h, h1, h2, f, e, hf⟩ => by
    have hc := (hk _ _ h).1 (fun hl => hl)
    have hex : ∀ i, i < x.length → ∃ d : t.D, Ty.Mem R w' t ((A.getD default).add (i * t.size)) d (f i) := by
      intro i hi
      obtain ⟨ad, rfl, hr, hm⟩ := hf (by omega)
      obtain ⟨d, hd, _⟩ := Ty.Mem.remark hk (hm i hi)
      exact ⟨d, hd⟩
    have hg : ∃ g : Nat → t.D, ∀ i, i < x.length → Ty.Mem R w' t ((A.getD default).add (i * t.size)) (g i) (f i) := by
      rcases Nat.eq_zero_or_pos x.length with h0 | h0
      · exact ⟨fun _ => Ty.dflt t, fun i hi' => absurd hi' (by omega)⟩
      · have : Inhabited t.D := ⟨(hex 0 h0).choose⟩
        exact Deep.choose_lt hex
    obtain ⟨g, hg⟩ := hg
    have hlen : ((List.range x.length).map g).length = x.length := by simp
    refine ⟨((List.range x.length).map g : List t.D), ⟨A, c, by rw [hlen]; exact hc, by rw [hlen]; exact h1, h2, f, by rw [hlen]; exact e, fun h0 => ?_⟩, fun u e => by cases e; simp⟩
    rw [hlen] at h0
    obtain ⟨ad, rfl, hr, hm⟩ := hf h0
    refine ⟨ad, rfl, hr, fun i hi => ?_⟩
    rw [hlen] at hi
    simpa using hg i hi
  | .pair t u, a, x, l, ⟨l1, l2, h1, h2, e⟩ => by
    obtain ⟨y1, m1, _⟩ := Ty.Mem.remark hk h1
    obtain ⟨y2, m2, _⟩ := Ty.Mem.remark hk h2
    exact ⟨(y1, y2), ⟨l1, l2, m1, m2, e⟩, fun u e => by cases e⟩
theorem MarkedAs.kinds (h : MarkedAs l k w w') : ∀ p u, w.cell? p = some u → (¬ Leafy u → w'.cell? p = some u) ∧ (∀ k n, u = .int k n → ∃ m, w'.cell? p = some (.int k m)) ∧ (∀ b, u = .bool b → ∃ c, w'.cell? p = some (.bool c)) ∧ (∀ s, u = .string s → ∃ t, w'.cell? p = some (.string t)) := by
  intro p u hc
  have hlt := World.block_lt_of_cell? w p hc
  by_cases hp : p ∈ l
  · obtain ⟨i, hi, rfl⟩ := List.mem_iff_getElem.1 hp
    obtain ⟨u', hu', hl, hm⟩ := h.val i hi
    rw [hc] at hu'
    obtain rfl := Option.some.inj hu'
    refine ⟨fun hn => absurd hl hn, ?_, ?_, ?_⟩
    · rintro q n rfl; exact ⟨_, hm⟩
    · rintro b rfl; exact ⟨_, hm⟩
    · rintro b rfl; exact ⟨_, hm⟩
  · have hs := (h.frame.cell p hlt hp).trans hc
    refine ⟨fun _ => hs, ?_, ?_, ?_⟩
    · rintro q n rfl; exact ⟨_, hs⟩
    · rintro b rfl; exact ⟨_, hs⟩
    · rintro b rfl; exact ⟨_, hs⟩
theorem MarkedAs.keepSl {t : Ty} {A : Option Addr} {c : Nat} {xs : List t.D} {l' : List Addr} (h : MarkedAs l k w w') (hs : Sl R w t A c xs l') (hd : ∀ p ∈ l', p ∉ l) : Sl R w' t A c xs l' :=
  sl_keep hs (h.frame.stays (fun p hp => by
    obtain ⟨i, hi, rfl⟩ := List.mem_iff_getElem.1 hp
    obtain ⟨u, hu, hl, _⟩ := h.val i hi
    exact ⟨u, hu, hl⟩) hd)
theorem MarkedAs.sl {t : Ty} {A : Option Addr} {c : Nat} {xs : List t.D} {l' : List Addr} (h : MarkedAs l k w w') (hs : Sl R w t A c xs l') : ∃ ys : List t.D, ys.length = xs.length ∧ Sl R w' t A c ys l' := by
  obtain ⟨h1, h2, f, e, hf⟩ := hs
  have hex : ∀ i, i < xs.length → ∃ d : t.D, Ty.Mem R w' t ((A.getD default).add (i * t.size)) d (f i) := by
    intro i hi
    obtain ⟨ad, rfl, hr, hm⟩ := hf (by omega)
    obtain ⟨d, hd, _⟩ := Ty.Mem.remark h.kinds (hm i hi)
    exact ⟨d, hd⟩
  have hg : ∃ g : Nat → t.D, ∀ i, i < xs.length → Ty.Mem R w' t ((A.getD default).add (i * t.size)) (g i) (f i) := by
    rcases Nat.eq_zero_or_pos xs.length with h0 | h0
    · exact ⟨fun _ => Ty.dflt t, fun i hi' => absurd hi' (by omega)⟩
    · have : Inhabited t.D := ⟨(hex 0 h0).choose⟩
      exact Deep.choose_lt hex
  obtain ⟨g, hg⟩ := hg
  have hlen : ((List.range xs.length).map g).length = xs.length := by simp
  refine ⟨(List.range xs.length).map g, hlen, by rw [hlen]; exact h1, h2, f, by rw [hlen]; exact e, fun h0 => ?_⟩
  rw [hlen] at h0
  obtain ⟨ad, rfl, hr, hm⟩ := hf h0
  refine ⟨ad, rfl, hr, fun i hi => ?_⟩
  rw [hlen] at hi
  simpa using hg i hi
end

/-- How many leaves data have in memory. -/
def Ty.cnt : (t : Ty) → t.D → Nat
  | .int, _ | .bool, _ | .str, _ => 1
  | .slice t, xs => (xs.map (Ty.cnt t)).sum
  | .pair a b, x => Ty.cnt a x.1 + Ty.cnt b x.2
theorem flatMap_len {α : Type} (f : Nat → List Addr) (g : α → Nat) (xs : List α) (h : ∀ (i : Nat) (hi : i < xs.length), (f i).length = g xs[i]) : ((List.range xs.length).flatMap f).length = (xs.map g).sum := by
  have : (List.range xs.length).map (fun i => (f i).length) = xs.map g := by
    refine List.ext_getElem (by simp) fun i h1 h2 => ?_
    simp only [List.length_map, List.length_range] at h1
    simpa using h i h1
  rw [List.length_flatMap, this]
theorem Ty.Mem.cnt {R : Nat → Prop} {w : World} : ∀ {t : Ty} {a : Addr} {x : t.D} {l : List Addr}, Ty.Mem R w t a x l → l.length = t.cnt x
  | .int, _, _, _, ⟨_, e⟩ => by rw [e]; rfl
  | .bool, _, _, _, ⟨_, e⟩ => by rw [e]; rfl
  | .str, _, _, _, ⟨_, e⟩ => by rw [e]; rfl
  | .slice t, _, x, _, ⟨A, c, _, _, _, f, e, hf⟩ => by
    rw [e]
    exact flatMap_len f _ x fun i hi => by
      obtain ⟨ad, _, _, hm⟩ := hf (by omega)
      exact Ty.Mem.cnt (hm i hi)
  | .pair a b, _, x, _, ⟨l1, l2, h1, h2, e⟩ => by
    rw [e, List.length_append, Ty.Mem.cnt h1, Ty.Mem.cnt h2]; rfl
theorem sl_cnt {R : Nat → Prop} {w : World} {t : Ty} {A : Option Addr} {c : Nat} {xs : List t.D} {l : List Addr} (h : Sl R w t A c xs l) : l.length = (xs.map t.cnt).sum := by
  obtain ⟨_, _, f, e, hf⟩ := h
  rw [e]
  exact flatMap_len f _ xs fun i hi => by
    obtain ⟨ad, _, _, hm⟩ := hf (by omega)
    exact (hm i hi).cnt
theorem Ty.cnt_flat : ∀ {t : Ty} (x : t.D), t.flat = true → t.cnt x = t.size
  | .int, _, _ => rfl
  | .bool, _, _ => rfl
  | .str, _, _ => rfl
  | .slice _, _, h => by simp [Ty.flat] at h
  | .pair a b, x, h => by
    simp only [Ty.flat, Bool.and_eq_true] at h
    simp only [Ty.cnt, Ty.cnt_flat _ h.1, Ty.cnt_flat _ h.2, Ty.size]
/-- The leaves of a slice of flat data, by their offsets. -/
theorem sl_flat_cells {R : Nat → Prop} {w : World} {t : Ty} {A : Option Addr} {c : Nat} {xs : List t.D} {l : List Addr} (hfl : t.flat = true) (h : Sl R w t A c xs l) (h0 : 0 < xs.length) :
    ∃ b o, A = some ⟨b, o, none⟩ ∧ l = (List.range (xs.length * t.size)).map (fun j => (⟨b, o + j, none⟩ : Addr)) ∧ ∀ (i : Nat) (hi : i < xs.length) (j : Nat), j < t.size → w.cell? ⟨b, o + (i * t.size + j), none⟩ = (t.enc xs[i])[j]? := by
  obtain ⟨b, o, f, rfl, hr, _, e, hf⟩ := sl_at h h0
  refine ⟨b, o, rfl, ?_, fun i hi j hj => ?_⟩
  · rw [e]
    have : ∀ n, n ≤ xs.length → (List.range n).flatMap f = (List.range (n * t.size)).map (fun j => (⟨b, o + j, none⟩ : Addr)) := by
      intro n
      induction n with
      | zero => intro _; simp
      | succ n ih =>
        intro hn
        rw [List.range_succ, List.flatMap_append, ih (by omega), Nat.succ_mul, List.range_add, List.map_append, List.map_map]
        congr 1
        simp only [List.flatMap_cons, List.flatMap_nil, List.append_nil]
        rw [((hf n (by omega)).flat hfl).2]
        refine List.map_congr_left fun j _ => ?_
        rw [add_mk]; simp [Nat.add_assoc]
    exact this _ (Nat.le_refl _)
  · have := ((hf i hi).flat hfl).1 j hj
    rwa [add_mk, Nat.add_assoc] at this
theorem sl_flat_len {R : Nat → Prop} {w : World} {t : Ty} {A : Option Addr} {c : Nat} {xs : List t.D} {l : List Addr} (hfl : t.flat = true) (h : Sl R w t A c xs l) : l.length = xs.length * t.size := by
  rw [sl_cnt h]
  have : xs.map t.cnt = xs.map (fun _ => t.size) := List.map_congr_left fun x _ => Ty.cnt_flat x hfl
  rw [this, List.map_const', List.sum_replicate_nat]
end Go.Proofs.YtefolocdfgelcaaDoor
