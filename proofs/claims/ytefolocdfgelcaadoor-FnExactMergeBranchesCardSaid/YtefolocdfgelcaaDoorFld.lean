/- Prime fields: what the program's and the reference's functions on numbers return; conditions: the numbers lie in the field where a theorem says so. -/
import Derived.Test.YtefolocdfgelcaaDoorKeep
import Derived.WalkSpells
import Derived.WalkLawsBesides
namespace Go.Proofs.YtefolocdfgelcaaDoor
open Go.RowKit

/-- The program's table of the four smallest primes. -/
def Tab (w : World) : Prop := w.cell? ⟨0, 0, none⟩ = some (.int .i64 2) ∧ w.cell? ⟨0, 1, none⟩ = some (.int .i64 3) ∧ w.cell? ⟨0, 2, none⟩ = some (.int .i64 5) ∧ w.cell? ⟨0, 3, none⟩ = some (.int .i64 7)
theorem Tab.below {w w' : World} (h : Tab w) (hb : Below w.heap.size w w') : Tab w' := ⟨below_has hb h.1, below_has hb h.2.1, below_has hb h.2.2.1, below_has hb h.2.2.2⟩

/-- lo <= n <= hi -/
def inR (n lo hi : Int) : Bool := decide (lo ≤ n) && decide (n ≤ hi)
theorem inR_true {n lo hi : Int} : inR n lo hi = true ↔ lo ≤ n ∧ n ≤ hi := by simp [inR]
theorem inR_false {n lo hi : Int} : inR n lo hi = false ↔ n < lo ∨ hi < n := by
  cases h : inR n lo hi
  · simp only [true_iff]
    have h1 : ¬ (lo ≤ n ∧ n ≤ hi) := fun h' => by rw [inR_true.2 h'] at h; cases h
    omega
  · simp only [Bool.true_eq_false, false_iff]
    have := inR_true.1 h
    omega

theorem within_any (n lo hi : Int) (w : World) : Calls Tryd.prog 89 #[.int .i64 n, .int .i64 lo, .int .i64 hi] w fun e w' => e = .returned (.bool (inR n lo hi)) ∧ w = w' := by
  cases h1 : decide (lo ≤ n)
  · skip
    go_enter Tryd.func89, Tryd.ntmps89
    go_wp2
    go_ret
    exact ⟨ret_bool (by simp [inR, h1]), rfl⟩
  · skip
    go_enter Tryd.func89, Tryd.ntmps89
    go_wp2
    go_ret
    exact ⟨ret_bool (by simp [inR, h1]), rfl⟩
theorem l1In_any (n lo hi : Int) (w : World) : Calls Tryd.prog 85 #[.int .i64 n, .int .i64 lo, .int .i64 hi] w fun e w' => e = .returned (.bool (inR n lo hi)) ∧ w = w' := by
  cases h1 : decide (lo ≤ n)
  · skip
    go_enter Tryd.func85, Tryd.ntmps85
    go_wp2
    go_ret
    exact ⟨ret_bool (by simp [inR, h1]), rfl⟩
  · skip
    go_enter Tryd.func85, Tryd.ntmps85
    go_wp2
    go_ret
    exact ⟨ret_bool (by simp [inR, h1]), rfl⟩

/-- p is one of the primes up to 97. -/
def isF (p : Int) : Bool := decide (2 ≤ p) && (decide (p ≤ 97) && ((p % 2 != 0 || p == 2) && ((p % 3 != 0 || p == 3) && ((p % 5 != 0 || p == 5) && (p % 7 != 0 || p == 7)))))
theorem isF_bd {p : Int} (h : isF p = true) : 2 ≤ p ∧ p ≤ 97 := by
  simp only [isF, Bool.and_eq_true, decide_eq_true_eq] at h
  exact ⟨h.1, h.2.1⟩

set_option maxHeartbeats 1000000 in
theorem isField_any (p : Int) (w : World) (tab : Tab w) : Calls Tryd.prog 88 #[.int .i64 p] w fun e w' => e = .returned (.bool (isF p)) ∧ w = w' := by
  obtain ⟨t0, t1, t2, t3⟩ := tab
  by_cases hlo : p < 2
  · have hf := Lib.hid (show isF p = false by simp [isF]; omega)
    go_enter Tryd.func88, Tryd.ntmps88
    go_wp2
    go_ret
    exact ⟨ret_bool hf.out.symm, rfl⟩
  · by_cases hhi : 97 < p
    · have hf := Lib.hid (show isF p = false by simp [isF]; omega)
      go_enter Tryd.func88, Tryd.ntmps88
      go_wp2
      go_ret
      exact ⟨ret_bool hf.out.symm, rfl⟩
    · have i0 : ∀ w, (Instr.index 100 (.agg #[.int .i64 2, .int .i64 3, .int .i64 5, .int .i64 7]) (.int .i64 0)).run Tryd.prog w = .ok (.int .i64 2) w := fun _ => by kernel_rfl
      have i1 : ∀ w, (Instr.index 100 (.agg #[.int .i64 2, .int .i64 3, .int .i64 5, .int .i64 7]) (.int .i64 1)).run Tryd.prog w = .ok (.int .i64 3) w := fun _ => by kernel_rfl
      have i2 : ∀ w, (Instr.index 100 (.agg #[.int .i64 2, .int .i64 3, .int .i64 5, .int .i64 7]) (.int .i64 2)).run Tryd.prog w = .ok (.int .i64 5) w := fun _ => by kernel_rfl
      have i3 : ∀ w, (Instr.index 100 (.agg #[.int .i64 2, .int .i64 3, .int .i64 5, .int .i64 7]) (.int .i64 3)).run Tryd.prog w = .ok (.int .i64 7) w := fun _ => by kernel_rfl
      go_enter Tryd.func88, Tryd.ntmps88
      go_wp2
      go_loop [2, 4, 12] (fun r _ i => r = .bool false ∧ ∃ k : Nat, k ≤ 4 ∧ i = .int .i64 k ∧ (0 < k → p % 2 ≠ 0 ∨ p = 2) ∧ (1 < k → p % 3 ≠ 0 ∨ p = 3) ∧ (2 < k → p % 5 ≠ 0 ∨ p = 5) ∧ (3 < k → p % 7 ≠ 0 ∨ p = 7)) (fun _ _ i => 4 - (intOf i).toNat)
      case atStart => exact ⟨rfl, 0, by omega, rfl, by omega, by omega, by omega, by omega⟩
      case round =>
        obtain ⟨rfl, k, hk, rfl, q0, q1, q2, q3⟩ := hrel
        rcases (show k = 0 ∨ k = 1 ∨ k = 2 ∨ k = 3 ∨ k = 4 by omega) with rfl | rfl | rfl | rfl | rfl
        · skip
          by_cases hz : p % 2 = 0
          · by_cases he : p = 2
            · subst he
              go_wp2
              go_round
              case rel => exact ⟨rfl, 1, by omega, rfl, by decide, by decide, by decide, by decide⟩
              case measure => simp [intOf]
            · have hf := Lib.hid (show isF p = false by simp [isF]; omega)
              go_wp2
              go_ret
              exact ⟨ret_bool hf.out.symm, rfl⟩
          · go_wp2
            go_round
            case rel => exact ⟨rfl, 1, by omega, rfl, by omega, by omega, by omega, by omega⟩
            case measure => simp [intOf]
        · skip
          by_cases hz : p % 3 = 0
          · by_cases he : p = 3
            · subst he
              go_wp2
              go_round
              case rel => exact ⟨rfl, 2, by omega, rfl, by decide, by decide, by decide, by decide⟩
              case measure => simp [intOf]
            · have hf := Lib.hid (show isF p = false by simp [isF]; omega)
              go_wp2
              go_ret
              exact ⟨ret_bool hf.out.symm, rfl⟩
          · go_wp2
            go_round
            case rel => exact ⟨rfl, 2, by omega, rfl, by omega, by omega, by omega, by omega⟩
            case measure => simp [intOf]
        · skip
          by_cases hz : p % 5 = 0
          · by_cases he : p = 5
            · subst he
              go_wp2
              go_round
              case rel => exact ⟨rfl, 3, by omega, rfl, by decide, by decide, by decide, by decide⟩
              case measure => simp [intOf]
            · have hf := Lib.hid (show isF p = false by simp [isF]; omega)
              go_wp2
              go_ret
              exact ⟨ret_bool hf.out.symm, rfl⟩
          · go_wp2
            go_round
            case rel => exact ⟨rfl, 3, by omega, rfl, by omega, by omega, by omega, by omega⟩
            case measure => simp [intOf]
        · skip
          by_cases hz : p % 7 = 0
          · by_cases he : p = 7
            · subst he
              go_wp2
              go_round
              case rel => exact ⟨rfl, 4, by omega, rfl, by decide, by decide, by decide, by decide⟩
              case measure => simp [intOf]
            · have hf := Lib.hid (show isF p = false by simp [isF]; omega)
              go_wp2
              go_ret
              exact ⟨ret_bool hf.out.symm, rfl⟩
          · go_wp2
            go_round
            case rel => exact ⟨rfl, 4, by omega, rfl, by omega, by omega, by omega, by omega⟩
            case measure => simp [intOf]
        · have hf := Lib.hid (show isF p = true by simp [isF]; omega)
          clear q0 q1 q2 q3
          go_wp2
          go_ret
          exact ⟨ret_bool hf.out.symm, rfl⟩
/-- No j with 2 <= j < k divides n. -/
def noDiv (n k : Nat) : Bool := (List.range k).all fun j => decide (j < 2) || n % j != 0
theorem noDiv_isF : ∀ n : Nat, n < 98 → 2 ≤ n → ∀ k : Nat, k < 11 → noDiv n k = true → n < k * k → isF (n : Int) = true := by decide +kernel
theorem div_isF : ∀ n : Nat, n < 98 → ∀ k : Nat, k < 10 → 2 ≤ k → k * k ≤ n → n % k = 0 → isF (n : Int) = false := by decide +kernel
theorem noDiv_succ {n k : Nat} (h : noDiv n k = true) (hk : n % k ≠ 0) : noDiv n (k + 1) = true := by
  unfold noDiv at *
  rw [List.range_succ, List.all_append, h]
  simp [hk]

end Go.Proofs.YtefolocdfgelcaaDoor
