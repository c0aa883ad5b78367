/- Classes of a forest, and the numbers of its roots; no condition. -/
import Derived.Test.YtefolocdfgelcaaDoorL2
namespace Go.Proofs.YtefolocdfgelcaaDoor

/-- Every element's father is not behind it. -/
structure Down (c : List Int) (m : Nat) : Prop where
  len : c.length = m
  le : ∀ (i : Nat) (x : Int), c[i]? = some x → 0 ≤ x ∧ x ≤ i
inductive RootI (c : List Int) : Int → Int → Prop
  | base {w : Int} (h : getI c w = some w) : RootI c w w
  | step {w v r : Int} (h : getI c w = some v) (hne : v ≠ w) (hr : RootI c v r) : RootI c w r
theorem Down.get {c : List Int} {m : Nat} (h : Down c m) {w : Int} (hw : 0 ≤ w ∧ w < m) : ∃ v, getI c w = some v ∧ 0 ≤ v ∧ v ≤ w := by
  have hl := h.len
  have hlt : w.toNat < c.length := by omega
  have hx := List.getElem?_eq_getElem hlt
  obtain ⟨h1, h2⟩ := h.le _ _ hx
  exact ⟨_, by rw [getI_nat hw.1, hx], h1, by omega⟩
theorem Down.getI_le {c : List Int} {m : Nat} (h : Down c m) {w v : Int} (hg : getI c w = some v) : 0 ≤ w ∧ w < m ∧ 0 ≤ v ∧ v ≤ w := by
  obtain ⟨h1, h2, h3⟩ := getI_some hg
  have hl := h.len
  obtain ⟨h4, h5⟩ := h.le _ _ h3
  omega
theorem RootI.bd {c : List Int} {m : Nat} (h : Down c m) {w r : Int} (hr : RootI c w r) : 0 ≤ r ∧ r ≤ w ∧ w < m ∧ getI c r = some r := by
  induction hr with
  | base hg => have := h.getI_le hg; exact ⟨by omega, by omega, by omega, hg⟩
  | step hg _ _ ih => have := h.getI_le hg; exact ⟨ih.1, by omega, by omega, ih.2.2.2⟩
theorem RootI.fn {c : List Int} {w r r' : Int} (h : RootI c w r) (h' : RootI c w r') : r = r' := by
  induction h with
  | base hg =>
    cases h' with
    | base _ => rfl
    | step hg' hne _ => rw [hg] at hg'; exact absurd (Option.some.inj hg').symm hne
  | step hg hne _ ih =>
    cases h' with
    | base hg' => rw [hg] at hg'; exact absurd (Option.some.inj hg') hne
    | step hg' _ hr' => rw [hg] at hg'; obtain rfl := Option.some.inj hg'; exact ih hr'
theorem Down.set {c : List Int} {m : Nat} (h : Down c m) {a b : Int} (hb : 0 ≤ b ∧ b ≤ a) (ha : a < m) : Down (c.set a.toNat b) m := by
  refine ⟨by rw [List.length_set]; exact h.len, fun i x hx => ?_⟩
  rw [List.getElem?_set] at hx
  split at hx
  · split at hx
    · obtain rfl := Option.some.inj hx; omega
    · cases hx
  · exact h.le i x hx
theorem getI_set {c : List Int} {a b w : Int} (ha : 0 ≤ a ∧ a < c.length) (hw : 0 ≤ w) : getI (c.set a.toNat b) w = if w = a then some b else getI c w := by
  rw [getI_nat hw, List.getElem?_set]
  by_cases e : w = a
  · subst e
    rw [if_pos rfl, if_pos rfl, if_pos (by omega)]
  · rw [if_neg (by omega), if_neg e, getI_nat hw]
/-- Two classes are made one. -/
theorem RootI.join {c : List Int} {m : Nat} (h : Down c m) {a b w r : Int} (ha : getI c a = some a) (hb : getI c b = some b) (hba : b ≤ a) (hr : RootI c w r) : RootI (c.set a.toNat b) w (if r = a then b else r) := by
  have h1 := h.getI_le ha
  have h2 := h.getI_le hb
  have hl := h.len
  have hset : ∀ w : Int, 0 ≤ w → getI (c.set a.toNat b) w = if w = a then some b else getI c w := fun w hw => getI_set (by omega) hw
  have hbb : RootI (c.set a.toNat b) b b := by
    refine .base ?_
    rw [hset b h2.1]
    split
    · rfl
    · exact hb
  have haa : RootI (c.set a.toNat b) a b := by
    by_cases e : a = b
    · rw [e] at hbb ⊢; exact hbb
    · exact .step (by rw [hset a h1.1, if_pos rfl]) (fun e' => e e'.symm) hbb
  induction hr with
  | @base w hg =>
    by_cases e : w = a
    · subst e; rw [if_pos rfl]; exact haa
    · rw [if_neg e]
      refine .base ?_
      rw [hset w (h.getI_le hg).1, if_neg e]; exact hg
  | @step w v r hg hne hr ih =>
    have e : w ≠ a := fun e => by subst e; rw [ha] at hg; exact hne (Option.some.inj hg).symm
    exact .step (by rw [hset w (h.getI_le hg).1, if_neg e]; exact hg) hne ih
/-- The roots of all. -/
structure Cls (c s : List Int) (m : Nat) : Prop where
  down : Down c m
  len : s.length = m
  root : ∀ (i : Nat) (x : Int), s[i]? = some x → RootI c i x
theorem Cls.le {c s : List Int} {m : Nat} (h : Cls c s m) (i : Nat) (x : Int) (hx : s[i]? = some x) : 0 ≤ x ∧ x ≤ i := by
  have := (h.root i x hx).bd h.down
  omega
theorem Cls.geti {c s : List Int} {m : Nat} (h : Cls c s m) {w : Int} (hw : 0 ≤ w ∧ w < m) : ∃ x, getI s w = some x ∧ RootI c w x := by
  have hl := h.len
  have hlt : w.toNat < s.length := by omega
  have hx := List.getElem?_eq_getElem hlt
  have := h.root _ _ hx
  rw [Int.toNat_of_nonneg hw.1] at this
  exact ⟨_, by rw [getI_nat hw.1, hx], this⟩
def joinS (s : List Int) (hi lo : Int) : List Int := s.map fun c => if c = hi then lo else c
theorem Cls.join {c s : List Int} {m : Nat} (h : Cls c s m) {a b : Int} (ha : getI c a = some a) (hb : getI c b = some b) (hba : b ≤ a) : Cls (c.set a.toNat b) (joinS s a b) m := by
  have h1 := h.down.getI_le ha
  have h2 := h.down.getI_le hb
  refine ⟨h.down.set (by omega) (by omega), by unfold joinS; rw [List.length_map]; exact h.len, fun i x hx => ?_⟩
  unfold joinS at hx
  rw [List.getElem?_map, Option.map_eq_some_iff] at hx
  obtain ⟨y, hy, rfl⟩ := hx
  exact (h.root i y hy).join h.down ha hb hba
def upN (m : Nat) : List Int := (List.range m).map fun j : Nat => (j : Int)
theorem upN_get {m i : Nat} (h : i < m) : (upN m)[i]? = some (i : Int) := by simp [upN, h]
theorem upN_len {m : Nat} : (upN m).length = m := by simp [upN]
theorem Cls.up (m : Nat) : Cls (upN m) (upN m) m := by
  have key : ∀ (i : Nat) (x : Int), (upN m)[i]? = some x → x = i := by
    intro i x hx
    have hlt := getN_lt hx
    rw [upN_len] at hlt
    rw [upN_get hlt] at hx
    exact (Option.some.inj hx).symm
  refine ⟨⟨upN_len, fun i x hx => ?_⟩, upN_len, fun i x hx => ?_⟩
  · have := key i x hx; omega
  · obtain rfl := key i x hx
    refine .base ?_
    rw [getI_nat (by omega), Int.toNat_natCast]
    exact hx
/-- The numbers of the classes, one element after another. -/
def numS (s : List Int) : Nat → Nat × List Int
  | 0 => (0, List.replicate s.length 0)
  | i + 1 => if s.getD i 0 = (i : Int) then ((numS s i).1 + 1, (numS s i).2.set i ((numS s i).1 : Int)) else ((numS s i).1, (numS s i).2.set i ((numS s i).2.getD (s.getD i 0).toNat 0))
theorem numS_succ (s : List Int) (i : Nat) : numS s (i + 1) = if s.getD i 0 = (i : Int) then ((numS s i).1 + 1, (numS s i).2.set i ((numS s i).1 : Int)) else ((numS s i).1, (numS s i).2.set i ((numS s i).2.getD (s.getD i 0).toNat 0)) := rfl
theorem numS_len (s : List Int) : ∀ i, (numS s i).2.length = s.length ∧ (numS s i).1 ≤ i
  | 0 => by simp [numS]
  | i + 1 => by
    have ih := numS_len s i
    unfold numS
    split
    · refine ⟨?_, ?_⟩
      · rw [List.length_set]; exact ih.1
      · show _ + 1 ≤ _; omega
    · refine ⟨?_, ?_⟩
      · rw [List.length_set]; exact ih.1
      · show _ ≤ _; exact Nat.le_succ_of_le ih.2
def toS (s : List Int) (x : Int) : Int := (numS s s.length).2.getD x.toNat 0
theorem toS_get {s : List Int} {x : Int} (h : 0 ≤ x ∧ x < s.length) : getI (numS s s.length).2 x = some (toS s x) := by
  have hl := (numS_len s s.length).1
  have hlt : x.toNat < (numS s s.length).2.length := by omega
  rw [getI_nat h.1, List.getElem?_eq_getElem hlt]
  unfold toS
  rw [List.getD_eq_getElem?_getD, List.getElem?_eq_getElem hlt]; rfl
theorem getD_of {s : List Int} {i : Nat} {x : Int} (h : s[i]? = some x) : s.getD i 0 = x := by rw [List.getD_eq_getElem?_getD, h]; rfl
end Go.Proofs.YtefolocdfgelcaaDoor
