/- What the law's helpers for Branch and for slices of it do; condition: a slice's length is at most 1048576. -/
import Derived.Test.YtefolocdfgelcaaDoorFlat
import Derived.StillTailTactics
namespace Go.Proofs.YtefolocdfgelcaaDoor
open Go.RowKit Go.Deep

abbrev tyBranch : Ty := (.pair .int (.pair .int .int))
abbrev DBranch : Type := Int × Int × Int
theorem toBranch_any (x0 : Int) (x1 : Int) (x2 : Int) (w : World) :
    Calls Tryd.prog 87 #[.agg #[.int .i64 x0, .int .i64 x1, .int .i64 x2]] w fun e w' => e = .returned (.agg #[.int .i64 x0, .int .i64 x1, .int .i64 x2]) ∧ Below w.heap.size w w' := by
  go_enter Tryd.func87, Tryd.ntmps87
  go_wp2
  refine bodyPost_ret (v := .agg #[.int .i64 x0, .int .i64 x1, .int .i64 x2]) (by simp [results, Tryd.results87, go_sem]) rfl ⟨rfl, ?_⟩
  exact (by repeat (first | with_reducible exact Below.refl _ _ | ((with_reducible refine Below.setCell ?_ ?_ _); rotate_left; focus (first | (simp; done) | omega | (simp; omega))) | ((with_reducible refine Below.alloc ?_ ?_ _); rotate_left; focus (first | (simp; done) | omega | (simp; omega))) | (with_reducible refine Below.drew ?_) | (with_reducible refine below_draws_ ?_ _)))

theorem toBranchS_any {R : Nat → Prop} (xs : List DBranch) (A : Option Addr) (c : Nat) (l : List Addr) (w : World) (h : Sl R w tyBranch A c xs l) (hn : xs.length ≤ 1048576) :
    Calls Tryd.prog 43 #[.slice A xs.length c] w fun e w' => ∃ g c' l', e = .returned (.slice (some ⟨g, 0, none⟩) xs.length c') ∧ Sl (From w.heap.size) w' tyBranch (some ⟨g, 0, none⟩) c' xs l' ∧ Fresh w' w.heap.size l' ∧ Below w.heap.size w w' := by
  have hmk := fun W => run_make_rowN (P := Tryd.prog) 28 59 #[.int .i64 0, .int .i64 0, .int .i64 0] 3 24 Tryd.underlying28 (by kernel_rfl) .i64 .i64 xs.length (by omega) (by omega) W
  go_enter Tryd.func43, Tryd.ntmps43
  go_wp2
  go_loopw [4] (fun i wr => ∃ k : Nat, k ≤ xs.length ∧ i = .int .i64 k ∧ wr.rowIs w.heap.size 59 (xs.length * 3) (fun j => if j < k * 3 then Ty.cellAt tyBranch 3 xs j else #[.int .i64 0, .int .i64 0, .int .i64 0][j % 3]!) ∧ Below w.heap.size w wr)
    (fun i _ => xs.length - (intOf i).toNat)
  case atStart => exact ⟨0, by omega, rfl, (rowIs_madeN w #[.int .i64 0, .int .i64 0, .int .i64 0] (xs.length * 3) 59).congr (fun i _ => by simp), (by repeat (first | with_reducible exact Below.refl _ _ | ((with_reducible refine Below.setCell ?_ ?_ _); rotate_left; focus (first | (simp; done) | omega | (simp; omega))) | ((with_reducible refine Below.alloc ?_ ?_ _); rotate_left; focus (first | (simp; done) | omega | (simp; omega))) | (with_reducible refine Below.drew ?_) | (with_reducible refine below_draws_ ?_ _)))⟩
  case round =>
    obtain ⟨k, hk, rfl, hrow, hbl⟩ := hrel
    by_cases hlt : k < xs.length
    · obtain ⟨b, o, rfl, _, hcell⟩ := sl_flat_at rfl h hlt
      obtain ⟨⟨x0, x1, x2⟩, hx⟩ : ∃ x, x = xs[k] := ⟨_, rfl⟩
      rw [← hx] at hcell
      have e0 := below_has hbl (show w.cell? ⟨b, o + k * 3, none⟩ = some (.int .i64 x0) from hcell 0 (by decide))
      have e1 := below_has hbl (show w.cell? ⟨b, o + k * 3 + 1, none⟩ = some (.int .i64 x1) from hcell 1 (by decide))
      have e2 := below_has hbl (show w.cell? ⟨b, o + k * 3 + 2, none⟩ = some (.int .i64 x2) from hcell 2 (by decide))
      have hX := Lib.hid hx
      clear hcell hx
      have hg := hrow.lt
      have hH := Lib.hid hrow
      clear hrow
      go_wp2_with fail
      refine (toBranch_any x0 x1 x2 _).mono ?_
      rintro e w1 ⟨rfl, hb1⟩
      have hrow1 := hH.out.of_block (hb1.block _ hg)
      obtain ⟨v0, c0⟩ : ∃ v, w1.cell? ⟨w.heap.size, k * 3, none⟩ = some v := ⟨_, hrow1.cell (by omega)⟩
      have f0 := hrow1.frozen (k * 3)
      obtain ⟨v1, c1⟩ : ∃ v, w1.cell? ⟨w.heap.size, k * 3 + 1, none⟩ = some v := ⟨_, hrow1.cell (by omega)⟩
      have f1 := hrow1.frozen (k * 3 + 1)
      obtain ⟨v2, c2⟩ : ∃ v, w1.cell? ⟨w.heap.size, k * 3 + 2, none⟩ = some v := ⟨_, hrow1.cell (by omega)⟩
      have f2 := hrow1.frozen (k * 3 + 2)
      have hset := Lib.hid (((hrow1.set (k * 3) (.int .i64 x0)).set (k * 3 + 1) (.int .i64 x1)).set (k * 3 + 2) (.int .i64 x2))
      clear hrow1
      go_wp2
      go_roundw
      case rel =>
        refine ⟨k + 1, by omega, by go_num, hset.out.congr (fun i hi => ?_), ?_⟩
        · by_cases h1 : i < k * 3
          · rw [if_neg (show ¬ i = k * 3 + 2 by omega), if_neg (show ¬ i = k * 3 + 1 by omega), if_neg (show ¬ i = k * 3 by omega), if_pos h1, if_pos (show i < (k + 1) * 3 by omega)]
          · by_cases h2 : i < (k + 1) * 3
            · rw [if_pos h2]
              rcases (show i = k * 3 ∨ i = k * 3 + 1 ∨ i = k * 3 + 2 by omega) with rfl | rfl | rfl
              · rw [if_neg (show ¬ k * 3 = k * 3 + 2 by omega), if_neg (show ¬ k * 3 = k * 3 + 1 by omega), if_pos (rfl : k * 3 = k * 3)]; have hE := Ty.cellAt_eq tyBranch 3 xs k 0 hlt (by decide); rw [← hX.out] at hE; exact hE.symm
              · rw [if_neg (show ¬ k * 3 + 1 = k * 3 + 2 by omega), if_pos (rfl : k * 3 + 1 = k * 3 + 1)]; have hE := Ty.cellAt_eq tyBranch 3 xs k 1 hlt (by decide); rw [← hX.out] at hE; exact hE.symm
              · rw [if_pos (rfl : k * 3 + 2 = k * 3 + 2)]; have hE := Ty.cellAt_eq tyBranch 3 xs k 2 hlt (by decide); rw [← hX.out] at hE; exact hE.symm
            · rw [if_neg (show ¬ i = k * 3 + 2 by omega), if_neg (show ¬ i = k * 3 + 1 by omega), if_neg (show ¬ i = k * 3 by omega), if_neg h1, if_neg h2]
        · exact Below.setCell (Below.setCell (Below.setCell (hbl.trans (hb1.mono hbl.size)) (by simp) _) (by simp) _) (by simp) _
      case measure => simp [intOf]; omega
    · obtain rfl : k = xs.length := by omega
      go_wp2
      go_ret
      obtain ⟨l', hs, hf⟩ := sl_of_cells (R := From w.heap.size) (t := tyBranch) (sz := 3) (lo := w.heap.size) rfl rfl hrow (Nat.le_refl _) (by simp only [maxLen]; omega) (Nat.le_refl _) (Nat.le_refl _) (fun j hj => by simp only [hj, if_true])
      exact ⟨_, _, l', rfl, hs, hf, hbl⟩

theorem szBranchS_any (xs : List DBranch) (A : Option Addr) (c : Nat) (left : Int) (w : World) (hl : 0 ≤ left ∧ left ≤ 1048576) (hn : xs.length ≤ 9223372036854775807) :
    Calls Tryd.prog 40 #[.slice A xs.length c, .int .i64 left] w fun e w' => e = .returned (.int .i64 (szr left xs.length)) ∧ Below w.heap.size w w' := by
  by_cases h : (xs.length : Int) ≤ left
  all_goals
    go_enter Tryd.func40, Tryd.ntmps40
    go_wp2
    go_ret
    exact ⟨ret_int (by unfold szr; split <;> omega), (by repeat (first | with_reducible exact Below.refl _ _ | ((with_reducible refine Below.setCell ?_ ?_ _); rotate_left; focus (first | (simp; done) | omega | (simp; omega))) | ((with_reducible refine Below.alloc ?_ ?_ _); rotate_left; focus (first | (simp; done) | omega | (simp; omega))) | (with_reducible refine Below.drew ?_) | (with_reducible refine below_draws_ ?_ _)))⟩

theorem eqBranch_same (x0 : Int) (x1 : Int) (x2 : Int) (w : World) :
    Calls Tryd.prog 94 #[.agg #[.int .i64 x0, .int .i64 x1, .int .i64 x2], .agg #[.int .i64 x0, .int .i64 x1, .int .i64 x2]] w fun e w' => e = .returned (.bool true) ∧ Below w.heap.size w w' := by
  go_enter Tryd.func94, Tryd.ntmps94
  go_wp2
  go_ret
  exact ⟨rfl, (by repeat (first | with_reducible exact Below.refl _ _ | ((with_reducible refine Below.setCell ?_ ?_ _); rotate_left; focus (first | (simp; done) | omega | (simp; omega))) | ((with_reducible refine Below.alloc ?_ ?_ _); rotate_left; focus (first | (simp; done) | omega | (simp; omega))) | (with_reducible refine Below.drew ?_) | (with_reducible refine below_draws_ ?_ _)))⟩

set_option maxRecDepth 100000 in
theorem eqBranchS_same {R R' : Nat → Prop} (xs : List DBranch) (A A' : Option Addr) (c c' : Nat) (l l' : List Addr) (w : World) (h : Sl R w tyBranch A c xs l) (h' : Sl R' w tyBranch A' c' xs l') :
    Calls Tryd.prog 45 #[.slice A xs.length c, .slice A' xs.length c'] w fun e w' => e = .returned (.bool true) ∧ Below w.heap.size w w' := by
  have hn := (sl_len h).2
  go_enter Tryd.func45, Tryd.ntmps45
  go_wp2
  go_loopw [5] (fun i wr => ∃ k : Nat, k ≤ xs.length ∧ i = .int .i64 k ∧ Below w.heap.size w wr) (fun i _ => xs.length - (intOf i).toNat)
  case atStart => exact ⟨0, by omega, rfl, (by repeat (first | with_reducible exact Below.refl _ _ | ((with_reducible refine Below.setCell ?_ ?_ _); rotate_left; focus (first | (simp; done) | omega | (simp; omega))) | ((with_reducible refine Below.alloc ?_ ?_ _); rotate_left; focus (first | (simp; done) | omega | (simp; omega))) | (with_reducible refine Below.drew ?_) | (with_reducible refine below_draws_ ?_ _)))⟩
  case round =>
    obtain ⟨k, hk, rfl, hbl⟩ := hrel
    by_cases hlt : k < xs.length
    · obtain ⟨b, o, rfl, _, hcell⟩ := sl_flat_at rfl h hlt
      obtain ⟨b2, o2, rfl, _, hcell2⟩ := sl_flat_at rfl h' hlt
      obtain ⟨⟨x0, x1, x2⟩, hx⟩ : ∃ x, x = xs[k] := ⟨_, rfl⟩
      rw [← hx] at hcell hcell2
      have e0 := below_has hbl (show w.cell? ⟨b, o + k * 3, none⟩ = some (.int .i64 x0) from hcell 0 (by decide))
      have e1 := below_has hbl (show w.cell? ⟨b, o + k * 3 + 1, none⟩ = some (.int .i64 x1) from hcell 1 (by decide))
      have e2 := below_has hbl (show w.cell? ⟨b, o + k * 3 + 2, none⟩ = some (.int .i64 x2) from hcell 2 (by decide))
      have d0 := below_has hbl (show w.cell? ⟨b2, o2 + k * 3, none⟩ = some (.int .i64 x0) from hcell2 0 (by decide))
      have d1 := below_has hbl (show w.cell? ⟨b2, o2 + k * 3 + 1, none⟩ = some (.int .i64 x1) from hcell2 1 (by decide))
      have d2 := below_has hbl (show w.cell? ⟨b2, o2 + k * 3 + 2, none⟩ = some (.int .i64 x2) from hcell2 2 (by decide))
      have hk' : (k : Int) < (xs.length : Int) := by omega
      clear hcell hcell2 hx
      go_wp2_with fail
      go_still_tail 8, (by kernel_rfl)
      change wpList _ _ _ _ _ wr.drew
      generalize hwd : wr.drew = wd
      have hbd : Below w.heap.size w wd := by rw [← hwd]; exact hbl.drew
      clear hwd
      go_wp2_with fail
      refine (eqBranch_same x0 x1 x2 _).mono ?_
      rintro e w1 ⟨rfl, hb1⟩
      go_wp2_with fail
      go_roundw
      case rel => exact ⟨k + 1, by omega, by go_num, hbd.trans (hb1.mono hbd.size)⟩
      case measure => simp [intOf]; omega
    · go_wp2
      go_ret
      exact ⟨rfl, hbl⟩

end Go.Proofs.YtefolocdfgelcaaDoor
