/- What the law's helpers that mark slices of Branch, and that look for the marks, do; conditions: the leaves were made by the call and are met once. -/
import Derived.Test.YtefolocdfgelcaaDoorMarkInt
import Derived.Test.YtefolocdfgelcaaDoorTyBranch
namespace Go.Proofs.YtefolocdfgelcaaDoor
open Go.RowKit Go.Deep
theorem markBranchS_any {R : Nat → Prop} (xs : List DBranch) (A : Option Addr) (c : Nat) (l : List Addr) (k : Int) (lo : Nat) (w : World) (h : Sl R w tyBranch A c xs l) (hf : Fresh w lo l) (hk : 0 ≤ k ∧ k + l.length ≤ 9223372036854775807) :
    Calls Tryd.prog 55 #[.slice A xs.length c, .int .i64 k] w fun e w' => e = .returned (.int .i64 (k + l.length)) ∧ MarkedAs l k w w' := by
  have hn := (sl_len h).2
  have hlen := sl_flat_len (t := tyBranch) rfl h
  simp only [tyBranch, Ty.size, Nat.reduceAdd] at hlen
  go_enter Tryd.func55, Tryd.ntmps55
  go_wp2
  go_loopw [1, 5] (fun m i wr => ∃ j : Nat, j ≤ xs.length ∧ i = .int .i64 j ∧ m = .int .i64 (k + (j : Int) * 3) ∧ MarkedAs (l.take (j * 3)) k w wr) (fun _ i _ => xs.length - (intOf i).toNat)
  case atStart => exact ⟨0, by omega, rfl, by simp, by simpa using MarkedAs.nil w k⟩
  case round =>
    obtain ⟨j, hj, rfl, rfl, hm⟩ := hrel
    by_cases hlt : j < xs.length
    · obtain ⟨b, o, rfl, hl, hcell⟩ := sl_flat_cells (t := tyBranch) rfl h (by omega)
      have c0 := hcell j hlt 0 (by decide)
      have c1 := hcell j hlt 1 (by decide)
      have c2 := hcell j hlt 2 (by decide)
      obtain ⟨⟨x0, x1, x2⟩, hx⟩ : ∃ x, x = xs[j] := ⟨_, rfl⟩
      rw [← hx] at c0 c1 c2
      replace c0 : w.cell? ⟨b, o + j * 3, none⟩ = some (.int .i64 x0) := c0
      replace c1 : w.cell? ⟨b, o + j * 3 + 1, none⟩ = some (.int .i64 x1) := by rw [Nat.add_assoc]; exact c1
      replace c2 : w.cell? ⟨b, o + j * 3 + 2, none⟩ = some (.int .i64 x2) := by rw [Nat.add_assoc]; exact c2
      have p0 : l[j * 3]'(by omega) = ⟨b, o + j * 3, none⟩ := by simp [hl, tyBranch, Ty.size]
      have p1 : l[j * 3 + 1]'(by omega) = ⟨b, o + j * 3 + 1, none⟩ := by simp [hl, tyBranch, Ty.size, Nat.add_assoc]
      have p2 : l[j * 3 + 2]'(by omega) = ⟨b, o + j * 3 + 2, none⟩ := by simp [hl, tyBranch, Ty.size, Nat.add_assoc]
      have d0 := hm.cellOf hf (show j * 3 ≤ j * 3 by omega) (by omega) (by rw [p0]; exact c0)
      have z0 := hm.thaw hf (p := l[j * 3]'(by omega)) (List.getElem_mem _)
      rw [p0] at d0 z0
      have d1 := hm.cellOf hf (show j * 3 ≤ j * 3 + 1 by omega) (by omega) (by rw [p1]; exact c1)
      have z1 := hm.thaw hf (p := l[j * 3 + 1]'(by omega)) (List.getElem_mem _)
      rw [p1] at d1 z1
      have d2 := hm.cellOf hf (show j * 3 ≤ j * 3 + 2 by omega) (by omega) (by rw [p2]; exact c2)
      have z2 := hm.thaw hf (p := l[j * 3 + 2]'(by omega)) (List.getElem_mem _)
      rw [p2] at d2 z2
      have m0 := hm.step hf (show j * 3 < l.length by omega) (u := .int .i64 x0) (by rw [p0]; exact c0) trivial p0.symm (v := .int .i64 (k + (j : Int) * 3)) (by simp only [markV] <;> (congr 1 <;> omega))
      have m1 := m0.step hf (show j * 3 + 1 < l.length by omega) (u := .int .i64 x1) (by rw [p1]; exact c1) trivial p1.symm (v := .int .i64 (k + (j : Int) * 3 + 1)) (by simp only [markV] <;> (congr 1 <;> omega))
      have m2 := m1.step hf (show j * 3 + 2 < l.length by omega) (u := .int .i64 x2) (by rw [p2]; exact c2) trivial p2.symm (v := .int .i64 (k + (j : Int) * 3 + 2)) (by simp only [markV] <;> (congr 1 <;> omega))
      have hM := Lib.hid m2
      clear hcell hx hm m0 c0 p0 m1 c1 p1 m2 c2 p2
      go_wp2
      go_roundw
      case rel => exact ⟨j + 1, by omega, by go_num, by congr 1; omega, by simpa [Nat.add_mul, Int.add_assoc] using hM.out⟩
      case measure => simp [intOf]; omega
    · obtain rfl : j = xs.length := by omega
      go_wp2
      go_ret
      rw [List.take_of_length_le (by omega)] at hm
      exact ⟨ret_int (by rw [hlen]; omega), hm⟩
theorem heldBranchS_any {R : Nat → Prop} (xs : List DBranch) (A : Option Addr) (c : Nat) (l : List Addr) (k : Int) (w : World) (h : Sl R w tyBranch A c xs l) (hh : HeldAs l k w) (hk : 0 ≤ k ∧ k + l.length ≤ 9223372036854775807) :
    Calls Tryd.prog 57 #[.slice A xs.length c, .int .i64 k] w fun e w' => e = .returned (.int .i64 (k + l.length)) ∧ Below w.heap.size w w' := by
  have hn := (sl_len h).2
  have hlen := sl_flat_len (t := tyBranch) rfl h
  simp only [tyBranch, Ty.size, Nat.reduceAdd] at hlen
  go_enter Tryd.func57, Tryd.ntmps57
  go_wp2
  go_loopw [1, 5] (fun m i wr => ∃ j : Nat, j ≤ xs.length ∧ i = .int .i64 j ∧ m = .int .i64 (k + (j : Int) * 3) ∧ Below w.heap.size w wr) (fun _ i _ => xs.length - (intOf i).toNat)
  case atStart => exact ⟨0, by omega, rfl, by simp, (by repeat (first | with_reducible exact Below.refl _ _ | ((with_reducible refine Below.setCell ?_ ?_ _); rotate_left; focus (first | (simp; done) | omega | (simp; omega))) | ((with_reducible refine Below.alloc ?_ ?_ _); rotate_left; focus (first | (simp; done) | omega | (simp; omega))) | (with_reducible refine Below.drew ?_) | (with_reducible refine below_draws_ ?_ _)))⟩
  case round =>
    obtain ⟨j, hj, rfl, rfl, hbl⟩ := hrel
    by_cases hlt : j < xs.length
    · obtain ⟨b, o, rfl, hl, hcell⟩ := sl_flat_cells (t := tyBranch) rfl h (by omega)
      have c0 := hcell j hlt 0 (by decide)
      have c1 := hcell j hlt 1 (by decide)
      have c2 := hcell j hlt 2 (by decide)
      obtain ⟨⟨x0, x1, x2⟩, hx⟩ : ∃ x, x = xs[j] := ⟨_, rfl⟩
      rw [← hx] at c0 c1 c2
      replace c0 : w.cell? ⟨b, o + j * 3, none⟩ = some (.int .i64 x0) := c0
      replace c1 : w.cell? ⟨b, o + j * 3 + 1, none⟩ = some (.int .i64 x1) := by rw [Nat.add_assoc]; exact c1
      replace c2 : w.cell? ⟨b, o + j * 3 + 2, none⟩ = some (.int .i64 x2) := by rw [Nat.add_assoc]; exact c2
      have p0 : l[j * 3]'(by omega) = ⟨b, o + j * 3, none⟩ := by simp [hl, tyBranch, Ty.size]
      have p1 : l[j * 3 + 1]'(by omega) = ⟨b, o + j * 3 + 1, none⟩ := by simp [hl, tyBranch, Ty.size, Nat.add_assoc]
      have p2 : l[j * 3 + 2]'(by omega) = ⟨b, o + j * 3 + 2, none⟩ := by simp [hl, tyBranch, Ty.size, Nat.add_assoc]
      obtain ⟨u0, _, hm0⟩ := hh (j * 3) (by omega)
      rw [p0, c0] at hm0
      have e0 : x0 = k + (j : Int) * 3 := by cases u0 <;> simp [markV] at hm0; omega
      have d0 := below_has hbl c0
      rw [e0] at d0
      obtain ⟨u1, _, hm1⟩ := hh (j * 3 + 1) (by omega)
      rw [p1, c1] at hm1
      have e1 : x1 = k + (j : Int) * 3 + 1 := by cases u1 <;> simp [markV] at hm1; omega
      have d1 := below_has hbl c1
      rw [e1] at d1
      obtain ⟨u2, _, hm2⟩ := hh (j * 3 + 2) (by omega)
      rw [p2, c2] at hm2
      have e2 : x2 = k + (j : Int) * 3 + 2 := by cases u2 <;> simp [markV] at hm2; omega
      have d2 := below_has hbl c2
      rw [e2] at d2
      clear hcell hx c0 p0 hm0 e0 c1 p1 hm1 e1 c2 p2 hm2 e2
      go_wp2
      go_roundw
      case rel => exact ⟨j + 1, by omega, by go_num, by congr 1; omega, hbl⟩
      case measure => simp [intOf]; omega
    · obtain rfl : j = xs.length := by omega
      go_wp2
      go_ret
      exact ⟨ret_int (by rw [hlen]; omega), hbl⟩
end Go.Proofs.YtefolocdfgelcaaDoor
