/- What the law's helpers that mark []int, and that look for the marks, do; conditions: the leaves were made by the call and are met once. -/
import Derived.Test.YtefolocdfgelcaaDoorMark
namespace Go.Proofs.YtefolocdfgelcaaDoor
open Go.RowKit Go.Deep
theorem markIntS_any {R : Nat → Prop} (xs : List Int) (A : Option Addr) (c : Nat) (l : List Addr) (k : Int) (lo : Nat) (w : World) (h : Sl R w .int A c xs l) (hf : Fresh w lo l) (hk : 0 ≤ k ∧ k + l.length ≤ 9223372036854775807) :
    Calls Tryd.prog 56 #[.slice A xs.length c, .int .i64 k] w fun e w' => e = .returned (.int .i64 (k + l.length)) ∧ MarkedAs l k w w' := by
  have hn := (sl_len h).2
  have hlen := sl_flat_len rfl h
  simp only [Ty.size, Nat.mul_one] at hlen
  go_enter Tryd.func56, Tryd.ntmps56
  go_wp2
  go_loopw [1, 5] (fun m i wr => ∃ j : Nat, j ≤ xs.length ∧ i = .int .i64 j ∧ m = .int .i64 (k + j) ∧ MarkedAs (l.take j) k w wr) (fun _ i _ => xs.length - (intOf i).toNat)
  case atStart => exact ⟨0, by omega, rfl, by simp, MarkedAs.nil w k⟩
  case round =>
    obtain ⟨j, hj, rfl, rfl, hm⟩ := hrel
    by_cases hlt : j < xs.length
    · obtain ⟨b, o, rfl, hl, hcell⟩ := sl_flat_cells rfl h (by omega)
      have hc := hcell j hlt 0 (by decide)
      simp only [Ty.size, Nat.mul_one, Nat.add_zero, Ty.enc, List.getElem?_cons_zero] at hc
      have hp : l[j]'(by omega) = ⟨b, o + j, none⟩ := by simp [hl, Ty.size]
      have hc' := hm.cellOf hf (Nat.le_refl j) (by omega) (by rw [hp]; exact hc)
      have hz := hm.thaw hf (p := l[j]'(by omega)) (List.getElem_mem _)
      rw [hp] at hc' hz
      obtain ⟨x, hx⟩ : ∃ x, x = xs[j] := ⟨_, rfl⟩
      rw [← hx] at hc' hc
      have hM := Lib.hid (hm.step hf (by omega) (u := .int .i64 x) (by rw [hp]; exact hc) trivial hp.symm (v := .int .i64 (k + j)) rfl)
      clear hcell hx hm
      go_wp2
      go_roundw
      case rel => exact ⟨j + 1, by omega, by go_num, by congr 1; omega, hM.out⟩
      case measure => simp [intOf]; omega
    · obtain rfl : j = xs.length := by omega
      go_wp2
      go_ret
      rw [List.take_of_length_le (by omega)] at hm
      exact ⟨ret_int (by rw [hlen]), hm⟩
theorem heldIntS_any {R : Nat → Prop} (xs : List Int) (A : Option Addr) (c : Nat) (l : List Addr) (k : Int) (w : World) (h : Sl R w .int A c xs l) (hh : HeldAs l k w) (hk : 0 ≤ k ∧ k + l.length ≤ 9223372036854775807) :
    Calls Tryd.prog 58 #[.slice A xs.length c, .int .i64 k] w fun e w' => e = .returned (.int .i64 (k + l.length)) ∧ Below w.heap.size w w' := by
  have hn := (sl_len h).2
  have hlen := sl_flat_len rfl h
  simp only [Ty.size, Nat.mul_one] at hlen
  go_enter Tryd.func58, Tryd.ntmps58
  go_wp2
  go_loopw [1, 5] (fun m i wr => ∃ j : Nat, j ≤ xs.length ∧ i = .int .i64 j ∧ m = .int .i64 (k + j) ∧ Below w.heap.size w wr) (fun _ i _ => xs.length - (intOf i).toNat)
  case atStart => exact ⟨0, by omega, rfl, by simp, (by repeat (first | with_reducible exact Below.refl _ _ | ((with_reducible refine Below.setCell ?_ ?_ _); rotate_left; focus (first | (simp; done) | omega | (simp; omega))) | ((with_reducible refine Below.alloc ?_ ?_ _); rotate_left; focus (first | (simp; done) | omega | (simp; omega))) | (with_reducible refine Below.drew ?_) | (with_reducible refine below_draws_ ?_ _)))⟩
  case round =>
    obtain ⟨j, hj, rfl, rfl, hbl⟩ := hrel
    by_cases hlt : j < xs.length
    · obtain ⟨b, o, rfl, hl, hcell⟩ := sl_flat_cells rfl h (by omega)
      have hc := hcell j hlt 0 (by decide)
      simp only [Ty.size, Nat.mul_one, Nat.add_zero, Ty.enc, List.getElem?_cons_zero] at hc
      have hp : l[j]'(by omega) = ⟨b, o + j, none⟩ := by simp [hl, Ty.size]
      obtain ⟨u, hu, hm⟩ := hh j (by omega)
      rw [hp, hc] at hm
      have hx : xs[j] = k + j := by cases u <;> simp [markV] at hm; exact hm.2
      have hc1 := below_has hbl hc
      rw [hx] at hc1
      clear hcell hc hm hx
      go_wp2
      go_roundw
      case rel => exact ⟨j + 1, by omega, by go_num, by congr 1; omega, hbl⟩
      case measure => simp [intOf]; omega
    · obtain rfl : j = xs.length := by omega
      go_wp2
      go_ret
      exact ⟨ret_int (by rw [hlen]), hbl⟩
end Go.Proofs.YtefolocdfgelcaaDoor
