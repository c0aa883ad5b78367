/- What the law's helpers for []int do: the size, the copy, the comparison, the marks; conditions: the lengths are at most 1048576. -/
import Derived.Test.YtefolocdfgelcaaDoorKeep
import Derived.WalkSpells
import Derived.WalkLawsBesides
import Derived.RegionTactic
import Derived.BigRegion
import Derived.Deep.QuietTactic
import Derived.BigQuiet
namespace Go.Proofs.YtefolocdfgelcaaDoor
open Go.RowKit Go.Deep

theorem sl_int_at {R : Nat → Prop} {w : World} {A : Option Addr} {c : Nat} {xs : List Int} {l : List Addr} (h : Sl R w .int A c xs l) {k : Nat} (hk : k < xs.length) :
    ∃ b o, A = some ⟨b, o, none⟩ ∧ R b ∧ w.cell? ⟨b, o + k, none⟩ = some (.int .i64 xs[k]) := by
  obtain ⟨b, o, f, rfl, hr, _, _, hf⟩ := sl_at h (by omega)
  exact ⟨b, o, rfl, hr, by simpa [Ty.size] using (hf k hk).1⟩
theorem sl_len {R : Nat → Prop} {w : World} {t : Ty} {A : Option Addr} {c : Nat} {xs : List t.D} {l : List Addr} (h : Sl R w t A c xs l) : xs.length ≤ c ∧ xs.length ≤ 9223372036854775807 :=
  ⟨h.1, by have := h.2.1; have := h.1; simp only [maxLen] at *; omega⟩
theorem sl_of_row {R : Nat → Prop} {w : World} {g n c : Nat} {t : TypeId} {f : Nat → Value} {xs : List Int} (h : w.rowIs g t n f) (hn : xs.length = n) (hc : n ≤ c) (hm : c ≤ maxLen) (hR : R g) (hf : ∀ (j : Nat) (hj : j < xs.length), f j = .int .i64 xs[j]) :
    Sl R w .int (some ⟨g, 0, none⟩) c xs ((List.range n).map fun j => (⟨g, j, none⟩ : Addr)) := by
  subst hn
  refine ⟨hc, hm, fun j => [⟨g, j, none⟩], by simp [List.map_eq_flatMap], fun _ => ⟨_, rfl, hR, fun i hi => ?_⟩⟩
  have ha : (⟨g, 0, none⟩ : Addr).add (i * Ty.size .int) = ⟨g, i, none⟩ := by simp [Ty.size, Addr.add]; intro h; omega
  rw [ha]
  exact ⟨by rw [h.cell hi, hf i hi], rfl⟩
theorem fresh_row {w : World} {g n lo : Nat} {t : TypeId} {f : Nat → Value} (h : w.rowIs g t n f) (hlo : lo ≤ g) : Fresh w lo ((List.range n).map fun j => (⟨g, j, none⟩ : Addr)) := by
  refine ⟨List.pairwise_map.2 (List.nodup_range.imp fun hne e => hne (by injection e)), fun p hp => ?_⟩
  obtain ⟨j, _, rfl⟩ := List.mem_map.1 hp
  exact ⟨hlo, h.lt, h.frozen j⟩

/-- What a size leaves of 'left'. -/
def szr (left : Int) (n : Nat) : Int := if (n : Int) ≤ left then left - n else -1

theorem szIntS_any (xs : List Int) (A : Option Addr) (c : Nat) (left : Int) (w : World) (hl : 0 ≤ left ∧ left ≤ 1048576) (hn : xs.length ≤ 9223372036854775807) :
    Calls Tryd.prog 41 #[.slice A xs.length c, .int .i64 left] w fun e w' => e = .returned (.int .i64 (szr left xs.length)) ∧ Below w.heap.size w w' := by
  by_cases h : (xs.length : Int) ≤ left
  all_goals
    go_enter Tryd.func41, Tryd.ntmps41
    go_wp2
    go_ret
    exact ⟨ret_int (by unfold szr; split <;> omega), (by repeat (first | with_reducible exact Below.refl _ _ | ((with_reducible refine Below.setCell ?_ ?_ _); rotate_left; focus (first | (simp; done) | omega | (simp; omega))) | ((with_reducible refine Below.alloc ?_ ?_ _); rotate_left; focus (first | (simp; done) | omega | (simp; omega))) | (with_reducible refine Below.drew ?_) | (with_reducible refine below_draws_ ?_ _)))⟩

theorem toIntS_any {R : Nat → Prop} (xs : List Int) (A : Option Addr) (c : Nat) (l : List Addr) (w : World) (h : Sl R w .int A c xs l) (hn : xs.length ≤ 1048576) :
    Calls Tryd.prog 18 #[.slice A xs.length c] w fun e w' => ∃ g c' l', e = .returned (.slice (some ⟨g, 0, none⟩) xs.length c') ∧ Sl (From w.heap.size) w' .int (some ⟨g, 0, none⟩) c' xs l' ∧ Fresh w' w.heap.size l' ∧ Below w.heap.size w w' := by
  have hmk := fun W => run_make_row' (P := Tryd.prog) 23 3 (.int .i64 0) 8 Tryd.underlying23 (by kernel_rfl) rfl .i64 .i64 xs.length (by omega) (by omega) W
  go_enter Tryd.func18, Tryd.ntmps18
  go_wp2
  go_loopw [4] (fun i wr => ∃ k : Nat, k ≤ xs.length ∧ i = .int .i64 k ∧ wr.rowIs w.heap.size 3 xs.length (fun j => if j < k then .int .i64 (xs.getD j 0) else .int .i64 0) ∧ Below w.heap.size w wr)
    (fun i _ => xs.length - (intOf i).toNat)
  case atStart => exact ⟨0, by omega, rfl, (World.rowIs_made w (.int .i64 0) xs.length 3).congr (fun i _ => by simp), (by repeat (first | with_reducible exact Below.refl _ _ | ((with_reducible refine Below.setCell ?_ ?_ _); rotate_left; focus (first | (simp; done) | omega | (simp; omega))) | ((with_reducible refine Below.alloc ?_ ?_ _); rotate_left; focus (first | (simp; done) | omega | (simp; omega))) | (with_reducible refine Below.drew ?_) | (with_reducible refine below_draws_ ?_ _)))⟩
  case round =>
    obtain ⟨k, hk, rfl, hrow, hbl⟩ := hrel
    by_cases hlt : k < xs.length
    · obtain ⟨b, o, rfl, _, hcell⟩ := sl_int_at h hlt
      have hc1 := below_has hbl hcell
      have hc2 := hrow.cell hlt
      have hc3 := hrow.frozen k
      obtain ⟨x, hx⟩ : ∃ x, x = xs[k] := ⟨_, rfl⟩
      rw [← hx] at hc1
      have hset := Lib.hid (hrow.set k (.int .i64 x))
      have hX := Lib.hid hx
      clear hrow hcell hx
      go_wp2
      go_roundw
      case rel =>
        refine ⟨k + 1, by omega, by go_num, hset.out.congr (fun i hi => ?_), by exact Below.setCell hbl (by simp) _⟩
        have hX' := hX.out
        by_cases h1 : i = k
        · subst h1; simp [hX', List.getD_eq_getElem?_getD, hlt]
        · by_cases h2 : i < k
          · simp [h1, h2, Nat.lt_succ_of_lt h2]
          · simp [h1, h2, show ¬ i < k + 1 by omega]
      case measure => simp [intOf]; omega
    · obtain rfl : k = xs.length := by omega
      go_wp2
      go_ret
      exact ⟨_, _, _, rfl, sl_of_row hrow rfl (Nat.le_refl _) (by simp only [maxLen]; omega) (Nat.le_refl _) (fun j hj => by simp [hj, List.getD_eq_getElem?_getD]), fresh_row hrow (Nat.le_refl _), hbl⟩

theorem eqIntS_same {R R' : Nat → Prop} (xs : List Int) (A A' : Option Addr) (c c' : Nat) (l l' : List Addr) (w : World) (h : Sl R w .int A c xs l) (h' : Sl R' w .int A' c' xs l') :
    Calls Tryd.prog 20 #[.slice A xs.length c, .slice A' xs.length c'] w fun e w' => e = .returned (.bool true) ∧ Below w.heap.size w w' := by
  have hn := (sl_len h).2
  go_enter Tryd.func20, Tryd.ntmps20
  go_wp2
  go_loopw [5] (fun i wr => ∃ k : Nat, k ≤ xs.length ∧ i = .int .i64 k ∧ Below w.heap.size w wr) (fun i _ => xs.length - (intOf i).toNat)
  case atStart => exact ⟨0, by omega, rfl, (by repeat (first | with_reducible exact Below.refl _ _ | ((with_reducible refine Below.setCell ?_ ?_ _); rotate_left; focus (first | (simp; done) | omega | (simp; omega))) | ((with_reducible refine Below.alloc ?_ ?_ _); rotate_left; focus (first | (simp; done) | omega | (simp; omega))) | (with_reducible refine Below.drew ?_) | (with_reducible refine below_draws_ ?_ _)))⟩
  case round =>
    obtain ⟨k, hk, rfl, hbl⟩ := hrel
    by_cases hlt : k < xs.length
    · obtain ⟨b, o, rfl, _, hcell⟩ := sl_int_at h hlt
      obtain ⟨b', o', rfl, _, hcell'⟩ := sl_int_at h' hlt
      have hc1 := below_has hbl hcell
      have hc2 := below_has hbl hcell'
      obtain ⟨x, hx⟩ : ∃ x, x = xs[k] := ⟨_, rfl⟩
      rw [← hx] at hc1 hc2
      have hk' : (k : Int) < (xs.length : Int) := by omega
      clear hcell hcell' hx
      go_wp2
      go_quiet (fail)
      go_wp2
      go_roundw
      case rel => exact ⟨k + 1, by omega, by go_num, below_draws_ hbl _⟩
      case measure => simp [intOf]; omega
    · go_wp2
      go_ret
      exact ⟨rfl, hbl⟩
end Go.Proofs.YtefolocdfgelcaaDoor
