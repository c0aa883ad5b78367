/- Copies by append to an empty literal: they read as what was copied; conditions: the lengths are small. -/
import Derived.Test.YtefolocdfgelcaaDoorOwn
import Derived.Test.YtefolocdfgelcaaDoorTyBranch
namespace Go.Proofs.YtefolocdfgelcaaDoor
open Go.RowKit Go.Deep
theorem run_equalIn_nil_ {P : Program} (d : Nat) (t e : TypeId) (ht : P.underlying t = some (.slice e)) (A : Option Addr) (n c : Nat) (w : World) : (Op.equalIn (d + 1) t (.slice A n c) (.slice none 0 0)).run P w = .ok A.isNone w := by
  cases A <;> simp [Op.equalIn, run_underlying ht]
theorem run_equal_nil_ {P : Program} (t e : TypeId) (ht : P.underlying t = some (.slice e)) (A : Option Addr) (n c : Nat) (w : World) : (Op.equal t (.slice A n c) (.slice none 0 0)).run P w = .ok A.isNone w := run_equalIn_nil_ 9999 t e ht A n c w
theorem run_eql_nil_ {P : Program} (t e : TypeId) (ht : P.underlying t = some (.slice e)) (A : Option Addr) (n c : Nat) (w : World) : (binOp .eql t (.slice A n c) (.slice none 0 0)).run P w = .ok (.bool A.isNone) w := by
  simp only [binOp]
  simp [run_equal_nil_ t e ht A n c w]
theorem sl_none {R : Nat → Prop} {w : World} {t : Ty} {c : Nat} {xs : List t.D} {l : List Addr} (h : Sl R w t none c xs l) : xs = [] := by
  rcases Nat.eq_zero_or_pos xs.length with h0 | h0
  · exact List.length_eq_zero_iff.1 h0
  · obtain ⟨_, _, _, _, hf⟩ := h
    obtain ⟨ad, he, _⟩ := hf h0
    cases he
theorem sl_nil (R : Nat → Prop) (w : World) (t : Ty) : Sl R w t none 0 [] [] := ⟨by simp, by simp [maxLen], fun _ => [], by simp, fun h => absurd h (by simp)⟩
theorem clone_any {R : Nat → Prop} (xs : List Int) (A : Option Addr) (c : Nat) (l : List Addr) (w : World) (h : Sl R w .int A c xs l) (hn : xs.length ≤ 1048576) :
    Calls Tryd.prog 54 #[.slice A xs.length c] w fun e w' => ∃ B d m, e = .returned (.slice B xs.length d) ∧ Sl (From w.heap.size) w' .int B d xs m ∧ Fresh w' w.heap.size m ∧ Below w.heap.size w w' := by
  go_enter Tryd.func54, Tryd.ntmps54
  go_wp2_with (at_builtin; refine wp_append_sl (t := .int) (z := .int .i64 0) (xs := []) rfl _ _ 23 rfl w.heap.size 8 Tryd.underlying23 (by kernel_rfl) rfl (by decide) rfl rfl (own_lit w _ .int (Nat.le_refl _)) rfl (sl_below h (by repeat (first | with_reducible exact Below.refl _ _ | ((with_reducible refine Below.setCell ?_ ?_ _); rotate_left; focus (first | (simp; done) | omega | (simp; omega))) | ((with_reducible refine Below.alloc ?_ ?_ _); rotate_left; focus (first | (simp; done) | omega | (simp; omega))) | (with_reducible refine Below.drew ?_) | (with_reducible refine below_draws_ ?_ _)))) rfl (by simp; omega) (by simp; omega) (by simp) ?_; intro v' w1 hown hb_w1)
  go_ret
  simp only [List.nil_append] at hown
  obtain ⟨B, d, m, rfl, hs, hf⟩ := sl_of_own rfl hown rfl
  exact ⟨B, d, m, rfl, hs, hf, (by repeat (first | with_reducible exact Below.refl _ _ | ((with_reducible refine Below.setCell ?_ ?_ _); rotate_left; focus (first | (simp; done) | omega | (simp; omega))) | ((with_reducible refine Below.alloc ?_ ?_ _); rotate_left; focus (first | (simp; done) | omega | (simp; omega))) | (with_reducible refine Below.drew ?_) | (with_reducible refine below_draws_ ?_ _) | ((with_reducible refine Below.trans ?_ (Below.mono hb_w1 ?_)); rotate_left; focus (first | (simp; done) | omega | (simp; omega)))))⟩
theorem l1Own_any {R : Nat → Prop} (xs : List Int) (A : Option Addr) (c : Nat) (l : List Addr) (w : World) (h : Sl R w .int A c xs l) (hn : xs.length ≤ 1048576) :
    Calls Tryd.prog 52 #[.slice A xs.length c] w fun e w' => ∃ B d m, e = .returned (.slice B xs.length d) ∧ Sl (From w.heap.size) w' .int B d xs m ∧ Fresh w' w.heap.size m ∧ Below w.heap.size w w' := by
  go_enter Tryd.func52, Tryd.ntmps52
  go_wp2_with (at_builtin; refine wp_append_sl (t := .int) (z := .int .i64 0) (xs := []) rfl _ _ 23 rfl w.heap.size 8 Tryd.underlying23 (by kernel_rfl) rfl (by decide) rfl rfl (own_lit w _ .int (Nat.le_refl _)) rfl (sl_below h (by repeat (first | with_reducible exact Below.refl _ _ | ((with_reducible refine Below.setCell ?_ ?_ _); rotate_left; focus (first | (simp; done) | omega | (simp; omega))) | ((with_reducible refine Below.alloc ?_ ?_ _); rotate_left; focus (first | (simp; done) | omega | (simp; omega))) | (with_reducible refine Below.drew ?_) | (with_reducible refine below_draws_ ?_ _)))) rfl (by simp; omega) (by simp; omega) (by simp) ?_; intro v' w1 hown hb_w1)
  go_ret
  simp only [List.nil_append] at hown
  obtain ⟨B, d, m, rfl, hs, hf⟩ := sl_of_own rfl hown rfl
  exact ⟨B, d, m, rfl, hs, hf, (by repeat (first | with_reducible exact Below.refl _ _ | ((with_reducible refine Below.setCell ?_ ?_ _); rotate_left; focus (first | (simp; done) | omega | (simp; omega))) | ((with_reducible refine Below.alloc ?_ ?_ _); rotate_left; focus (first | (simp; done) | omega | (simp; omega))) | (with_reducible refine Below.drew ?_) | (with_reducible refine below_draws_ ?_ _) | ((with_reducible refine Below.trans ?_ (Below.mono hb_w1 ?_)); rotate_left; focus (first | (simp; done) | omega | (simp; omega)))))⟩
set_option maxRecDepth 10000 in
theorem cloneBranch_any {R : Nat → Prop} (xs : List DBranch) (A : Option Addr) (c : Nat) (l : List Addr) (w : World) (h : Sl R w tyBranch A c xs l) (hn : xs.length ≤ 1048576) :
    Calls Tryd.prog 53 #[.slice A xs.length c] w fun e w' => ∃ B d m, e = .returned (.slice B xs.length d) ∧ Sl (From w.heap.size) w' tyBranch B d xs m ∧ Fresh w' w.heap.size m ∧ Below w.heap.size w w' := by
  have hq := fun A n c W => run_eql_nil_ (P := Tryd.prog) 28 _ Tryd.underlying28 A n c W
  cases A with
  | none =>
    obtain rfl := sl_none h
    go_enter Tryd.func53, Tryd.ntmps53
    go_wp2
    go_ret
    exact ⟨none, 0, [], rfl, sl_nil _ _ _, Fresh.nil _ _, (by repeat (first | with_reducible exact Below.refl _ _ | ((with_reducible refine Below.setCell ?_ ?_ _); rotate_left; focus (first | (simp; done) | omega | (simp; omega))) | ((with_reducible refine Below.alloc ?_ ?_ _); rotate_left; focus (first | (simp; done) | omega | (simp; omega))) | (with_reducible refine Below.drew ?_) | (with_reducible refine below_draws_ ?_ _)))⟩
  | some ad =>
    go_enter Tryd.func53, Tryd.ntmps53
    go_wp2_with (at_builtin; refine wp_append_sl (t := tyBranch) (z := .agg #[.int .i64 0, .int .i64 0, .int .i64 0]) (xs := []) rfl _ _ 28 rfl w.heap.size 24 Tryd.underlying28 (by kernel_rfl) rfl (by decide) rfl rfl (own_lit w _ tyBranch (Nat.le_refl _)) rfl (sl_below h (by repeat (first | with_reducible exact Below.refl _ _ | ((with_reducible refine Below.setCell ?_ ?_ _); rotate_left; focus (first | (simp; done) | omega | (simp; omega))) | ((with_reducible refine Below.alloc ?_ ?_ _); rotate_left; focus (first | (simp; done) | omega | (simp; omega))) | (with_reducible refine Below.drew ?_) | (with_reducible refine below_draws_ ?_ _)))) rfl (by simp; omega) (by simp; omega) (by simp) ?_; intro v' w1 hown hb_w1)
    go_ret
    simp only [List.nil_append] at hown
    obtain ⟨B, d, m, rfl, hs, hf⟩ := sl_of_own rfl hown rfl
    exact ⟨B, d, m, rfl, hs, hf, (by repeat (first | with_reducible exact Below.refl _ _ | ((with_reducible refine Below.setCell ?_ ?_ _); rotate_left; focus (first | (simp; done) | omega | (simp; omega))) | ((with_reducible refine Below.alloc ?_ ?_ _); rotate_left; focus (first | (simp; done) | omega | (simp; omega))) | (with_reducible refine Below.drew ?_) | (with_reducible refine below_draws_ ?_ _) | ((with_reducible refine Below.trans ?_ (Below.mono hb_w1 ?_)); rotate_left; focus (first | (simp; done) | omega | (simp; omega)))))⟩
end Go.Proofs.YtefolocdfgelcaaDoor
