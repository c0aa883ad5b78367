/- Networks: the reference calls the same things networks; condition: the slices are no longer than the model's greatest length. -/
import Derived.Test.YtefolocdfgelcaaDoorNet2
namespace Go.Proofs.YtefolocdfgelcaaDoor
open Go.RowKit Go.Deep

set_option maxHeartbeats 2000000 in
theorem nwGood_any {R1 R2 R3 : Nat → Prop} (p nodes : Int) (bs : List DBranch) (A1 : Option Addr) (c1 : Nat) (l1 : List Addr) (left : List Int) (A2 : Option Addr) (c2 : Nat) (l2 : List Addr) (right : List Int) (A3 : Option Addr) (c3 : Nat) (l3 : List Addr) (w : World)
    (s1 : Sl R1 w tyBranch A1 c1 bs l1) (s2 : Sl R2 w .int A2 c2 left l2) (s3 : Sl R3 w .int A3 c3 right l3) :
    Calls Tryd.prog 42 #[.int .i64 p, .agg #[.int .i64 nodes, .slice A1 bs.length c1, .slice A2 left.length c2, .slice A3 right.length c3]] w fun e w' => e = .returned (.bool (goodNet p nodes bs left right)) ∧ Below w.heap.size w w' := by
  have hn1 := (sl_len s1).2
  have hn2 := (sl_len s2).2
  have hn3 := (sl_len s3).2
  cases h1 : isF p
  · have hG := Lib.hid (show goodNet p nodes bs left right = false by simp [goodNet, h1])
    go_enter Tryd.func42, Tryd.ntmps42
    go_wp2_with (go_at_call 84; refine (fdGood_any p _).mono ?_; rintro e w_ ⟨rfl, rfl⟩)
    go_ret
    exact ⟨ret_bool hG.out.symm, (by repeat (first | with_reducible exact Below.refl _ _ | ((with_reducible refine Below.setCell ?_ ?_ _); rotate_left; focus (first | (simp; done) | omega | (simp; omega))) | ((with_reducible refine Below.alloc ?_ ?_ _); rotate_left; focus (first | (simp; done) | omega | (simp; omega))) | (with_reducible refine Below.drew ?_) | (with_reducible refine below_draws_ ?_ _)))⟩
  · have hp := isF_bd h1
    cases h2 : inR nodes 1 20
    · have hG := Lib.hid (show goodNet p nodes bs left right = false by simp [goodNet, h2])
      go_enter Tryd.func42, Tryd.ntmps42
      go_wp2_with (first | (go_at_call 84; refine (fdGood_any p _).mono ?_; rintro e w_ ⟨rfl, rfl⟩) | (go_at_call 85; refine (l1In_any _ _ _ _).mono ?_; rintro e w_ ⟨rfl, rfl⟩))
      go_ret
      exact ⟨ret_bool hG.out.symm, (by repeat (first | with_reducible exact Below.refl _ _ | ((with_reducible refine Below.setCell ?_ ?_ _); rotate_left; focus (first | (simp; done) | omega | (simp; omega))) | ((with_reducible refine Below.alloc ?_ ?_ _); rotate_left; focus (first | (simp; done) | omega | (simp; omega))) | (with_reducible refine Below.drew ?_) | (with_reducible refine below_draws_ ?_ _)))⟩
    · have hn := inR_true.1 h2
      have hG := Lib.hid (show goodNet p nodes bs left right = (decide (bs.length ≤ 60) && (decide (left.length ≤ 6) && (decide (right.length ≤ 6) && (left.all (fun x => inR x 0 (nodes - 1)) && (right.all (fun x => inR x 0 (nodes - 1)) && bs.all fun b => isBr p nodes b.1 b.2.1 b.2.2))))) by simp only [goodNet, h1, h2, Bool.true_and])
      cases h3 : decide (bs.length ≤ 60)
      · skip
        (try have h3' := of_decide_eq_false h3)
        (try have h3' := of_decide_eq_true h3)
        (try have h4' := of_decide_eq_false h4)
        (try have h4' := of_decide_eq_true h4)
        (try have h5' := of_decide_eq_false h5)
        (try have h5' := of_decide_eq_true h5)
        go_enter Tryd.func42, Tryd.ntmps42
        go_wp2_with (first | (go_at_call 84; refine (fdGood_any p _).mono ?_; rintro e w_ ⟨rfl, rfl⟩) | (go_at_call 85; refine (l1In_any _ _ _ _).mono ?_; rintro e w_ ⟨rfl, rfl⟩) | (go_at_call 86; refine (l1All_any _ _ _ _ _ _ _ (by exact sl_below s2 (by repeat (first | with_reducible exact Below.refl _ _ | ((with_reducible refine Below.setCell ?_ ?_ _); rotate_left; focus (first | (simp; done) | omega | (simp; omega))) | ((with_reducible refine Below.alloc ?_ ?_ _); rotate_left; focus (first | (simp; done) | omega | (simp; omega))) | (with_reducible refine Below.drew ?_) | (with_reducible refine below_draws_ ?_ _))))).mono ?_; rintro e w_ ⟨rfl, rfl⟩) | (go_at_call 86; refine (l1All_any _ _ _ _ _ _ _ (by exact sl_below s3 (by repeat (first | with_reducible exact Below.refl _ _ | ((with_reducible refine Below.setCell ?_ ?_ _); rotate_left; focus (first | (simp; done) | omega | (simp; omega))) | ((with_reducible refine Below.alloc ?_ ?_ _); rotate_left; focus (first | (simp; done) | omega | (simp; omega))) | (with_reducible refine Below.drew ?_) | (with_reducible refine below_draws_ ?_ _))))).mono ?_; rintro e w_ ⟨rfl, rfl⟩))
        go_ret
        exact ⟨ret_bool (by rw [hG.out]; simp [*]), (by repeat (first | with_reducible exact Below.refl _ _ | ((with_reducible refine Below.setCell ?_ ?_ _); rotate_left; focus (first | (simp; done) | omega | (simp; omega))) | ((with_reducible refine Below.alloc ?_ ?_ _); rotate_left; focus (first | (simp; done) | omega | (simp; omega))) | (with_reducible refine Below.drew ?_) | (with_reducible refine below_draws_ ?_ _) | ((with_reducible refine Below.trans ?_ (Below.mono hb_w1 ?_)); rotate_left; focus (first | (simp; done) | omega | (simp; omega)))))⟩
      · skip
        cases h4 : decide (left.length ≤ 6)
        · skip
          (try have h3' := of_decide_eq_false h3)
          (try have h3' := of_decide_eq_true h3)
          (try have h4' := of_decide_eq_false h4)
          (try have h4' := of_decide_eq_true h4)
          (try have h5' := of_decide_eq_false h5)
          (try have h5' := of_decide_eq_true h5)
          go_enter Tryd.func42, Tryd.ntmps42
          go_wp2_with (first | (go_at_call 84; refine (fdGood_any p _).mono ?_; rintro e w_ ⟨rfl, rfl⟩) | (go_at_call 85; refine (l1In_any _ _ _ _).mono ?_; rintro e w_ ⟨rfl, rfl⟩) | (go_at_call 86; refine (l1All_any _ _ _ _ _ _ _ (by exact sl_below s2 (by repeat (first | with_reducible exact Below.refl _ _ | ((with_reducible refine Below.setCell ?_ ?_ _); rotate_left; focus (first | (simp; done) | omega | (simp; omega))) | ((with_reducible refine Below.alloc ?_ ?_ _); rotate_left; focus (first | (simp; done) | omega | (simp; omega))) | (with_reducible refine Below.drew ?_) | (with_reducible refine below_draws_ ?_ _))))).mono ?_; rintro e w_ ⟨rfl, rfl⟩) | (go_at_call 86; refine (l1All_any _ _ _ _ _ _ _ (by exact sl_below s3 (by repeat (first | with_reducible exact Below.refl _ _ | ((with_reducible refine Below.setCell ?_ ?_ _); rotate_left; focus (first | (simp; done) | omega | (simp; omega))) | ((with_reducible refine Below.alloc ?_ ?_ _); rotate_left; focus (first | (simp; done) | omega | (simp; omega))) | (with_reducible refine Below.drew ?_) | (with_reducible refine below_draws_ ?_ _))))).mono ?_; rintro e w_ ⟨rfl, rfl⟩))
          go_ret
          exact ⟨ret_bool (by rw [hG.out]; simp [*]), (by repeat (first | with_reducible exact Below.refl _ _ | ((with_reducible refine Below.setCell ?_ ?_ _); rotate_left; focus (first | (simp; done) | omega | (simp; omega))) | ((with_reducible refine Below.alloc ?_ ?_ _); rotate_left; focus (first | (simp; done) | omega | (simp; omega))) | (with_reducible refine Below.drew ?_) | (with_reducible refine below_draws_ ?_ _) | ((with_reducible refine Below.trans ?_ (Below.mono hb_w1 ?_)); rotate_left; focus (first | (simp; done) | omega | (simp; omega)))))⟩
        · skip
          cases h5 : decide (right.length ≤ 6)
          · skip
            (try have h3' := of_decide_eq_false h3)
            (try have h3' := of_decide_eq_true h3)
            (try have h4' := of_decide_eq_false h4)
            (try have h4' := of_decide_eq_true h4)
            (try have h5' := of_decide_eq_false h5)
            (try have h5' := of_decide_eq_true h5)
            go_enter Tryd.func42, Tryd.ntmps42
            go_wp2_with (first | (go_at_call 84; refine (fdGood_any p _).mono ?_; rintro e w_ ⟨rfl, rfl⟩) | (go_at_call 85; refine (l1In_any _ _ _ _).mono ?_; rintro e w_ ⟨rfl, rfl⟩) | (go_at_call 86; refine (l1All_any _ _ _ _ _ _ _ (by exact sl_below s2 (by repeat (first | with_reducible exact Below.refl _ _ | ((with_reducible refine Below.setCell ?_ ?_ _); rotate_left; focus (first | (simp; done) | omega | (simp; omega))) | ((with_reducible refine Below.alloc ?_ ?_ _); rotate_left; focus (first | (simp; done) | omega | (simp; omega))) | (with_reducible refine Below.drew ?_) | (with_reducible refine below_draws_ ?_ _))))).mono ?_; rintro e w_ ⟨rfl, rfl⟩) | (go_at_call 86; refine (l1All_any _ _ _ _ _ _ _ (by exact sl_below s3 (by repeat (first | with_reducible exact Below.refl _ _ | ((with_reducible refine Below.setCell ?_ ?_ _); rotate_left; focus (first | (simp; done) | omega | (simp; omega))) | ((with_reducible refine Below.alloc ?_ ?_ _); rotate_left; focus (first | (simp; done) | omega | (simp; omega))) | (with_reducible refine Below.drew ?_) | (with_reducible refine below_draws_ ?_ _))))).mono ?_; rintro e w_ ⟨rfl, rfl⟩))
            go_ret
            exact ⟨ret_bool (by rw [hG.out]; simp [*]), (by repeat (first | with_reducible exact Below.refl _ _ | ((with_reducible refine Below.setCell ?_ ?_ _); rotate_left; focus (first | (simp; done) | omega | (simp; omega))) | ((with_reducible refine Below.alloc ?_ ?_ _); rotate_left; focus (first | (simp; done) | omega | (simp; omega))) | (with_reducible refine Below.drew ?_) | (with_reducible refine below_draws_ ?_ _) | ((with_reducible refine Below.trans ?_ (Below.mono hb_w1 ?_)); rotate_left; focus (first | (simp; done) | omega | (simp; omega)))))⟩
          · skip
            cases h6 : left.all (fun x => inR x 0 (nodes - 1))
            · skip
              (try have h3' := of_decide_eq_false h3)
              (try have h3' := of_decide_eq_true h3)
              (try have h4' := of_decide_eq_false h4)
              (try have h4' := of_decide_eq_true h4)
              (try have h5' := of_decide_eq_false h5)
              (try have h5' := of_decide_eq_true h5)
              go_enter Tryd.func42, Tryd.ntmps42
              go_wp2_with (first | (go_at_call 84; refine (fdGood_any p _).mono ?_; rintro e w_ ⟨rfl, rfl⟩) | (go_at_call 85; refine (l1In_any _ _ _ _).mono ?_; rintro e w_ ⟨rfl, rfl⟩) | (go_at_call 86; refine (l1All_any _ _ _ _ _ _ _ (by exact sl_below s2 (by repeat (first | with_reducible exact Below.refl _ _ | ((with_reducible refine Below.setCell ?_ ?_ _); rotate_left; focus (first | (simp; done) | omega | (simp; omega))) | ((with_reducible refine Below.alloc ?_ ?_ _); rotate_left; focus (first | (simp; done) | omega | (simp; omega))) | (with_reducible refine Below.drew ?_) | (with_reducible refine below_draws_ ?_ _))))).mono ?_; rintro e w_ ⟨rfl, rfl⟩) | (go_at_call 86; refine (l1All_any _ _ _ _ _ _ _ (by exact sl_below s3 (by repeat (first | with_reducible exact Below.refl _ _ | ((with_reducible refine Below.setCell ?_ ?_ _); rotate_left; focus (first | (simp; done) | omega | (simp; omega))) | ((with_reducible refine Below.alloc ?_ ?_ _); rotate_left; focus (first | (simp; done) | omega | (simp; omega))) | (with_reducible refine Below.drew ?_) | (with_reducible refine below_draws_ ?_ _))))).mono ?_; rintro e w_ ⟨rfl, rfl⟩))
              go_ret
              exact ⟨ret_bool (by rw [hG.out]; simp [*]), (by repeat (first | with_reducible exact Below.refl _ _ | ((with_reducible refine Below.setCell ?_ ?_ _); rotate_left; focus (first | (simp; done) | omega | (simp; omega))) | ((with_reducible refine Below.alloc ?_ ?_ _); rotate_left; focus (first | (simp; done) | omega | (simp; omega))) | (with_reducible refine Below.drew ?_) | (with_reducible refine below_draws_ ?_ _) | ((with_reducible refine Below.trans ?_ (Below.mono hb_w1 ?_)); rotate_left; focus (first | (simp; done) | omega | (simp; omega)))))⟩
            · skip
              cases h7 : right.all (fun x => inR x 0 (nodes - 1))
              · skip
                (try have h3' := of_decide_eq_false h3)
                (try have h3' := of_decide_eq_true h3)
                (try have h4' := of_decide_eq_false h4)
                (try have h4' := of_decide_eq_true h4)
                (try have h5' := of_decide_eq_false h5)
                (try have h5' := of_decide_eq_true h5)
                go_enter Tryd.func42, Tryd.ntmps42
                go_wp2_with (first | (go_at_call 84; refine (fdGood_any p _).mono ?_; rintro e w_ ⟨rfl, rfl⟩) | (go_at_call 85; refine (l1In_any _ _ _ _).mono ?_; rintro e w_ ⟨rfl, rfl⟩) | (go_at_call 86; refine (l1All_any _ _ _ _ _ _ _ (by exact sl_below s2 (by repeat (first | with_reducible exact Below.refl _ _ | ((with_reducible refine Below.setCell ?_ ?_ _); rotate_left; focus (first | (simp; done) | omega | (simp; omega))) | ((with_reducible refine Below.alloc ?_ ?_ _); rotate_left; focus (first | (simp; done) | omega | (simp; omega))) | (with_reducible refine Below.drew ?_) | (with_reducible refine below_draws_ ?_ _))))).mono ?_; rintro e w_ ⟨rfl, rfl⟩) | (go_at_call 86; refine (l1All_any _ _ _ _ _ _ _ (by exact sl_below s3 (by repeat (first | with_reducible exact Below.refl _ _ | ((with_reducible refine Below.setCell ?_ ?_ _); rotate_left; focus (first | (simp; done) | omega | (simp; omega))) | ((with_reducible refine Below.alloc ?_ ?_ _); rotate_left; focus (first | (simp; done) | omega | (simp; omega))) | (with_reducible refine Below.drew ?_) | (with_reducible refine below_draws_ ?_ _))))).mono ?_; rintro e w_ ⟨rfl, rfl⟩))
                go_ret
                exact ⟨ret_bool (by rw [hG.out]; simp [*]), (by repeat (first | with_reducible exact Below.refl _ _ | ((with_reducible refine Below.setCell ?_ ?_ _); rotate_left; focus (first | (simp; done) | omega | (simp; omega))) | ((with_reducible refine Below.alloc ?_ ?_ _); rotate_left; focus (first | (simp; done) | omega | (simp; omega))) | (with_reducible refine Below.drew ?_) | (with_reducible refine below_draws_ ?_ _) | ((with_reducible refine Below.trans ?_ (Below.mono hb_w1 ?_)); rotate_left; focus (first | (simp; done) | omega | (simp; omega)))))⟩
              · skip
                (try have h3' := of_decide_eq_false h3)
                (try have h3' := of_decide_eq_true h3)
                (try have h4' := of_decide_eq_false h4)
                (try have h4' := of_decide_eq_true h4)
                (try have h5' := of_decide_eq_false h5)
                (try have h5' := of_decide_eq_true h5)
                go_enter Tryd.func42, Tryd.ntmps42
                go_wp2_with (first | (go_at_call 84; refine (fdGood_any p _).mono ?_; rintro e w_ ⟨rfl, rfl⟩) | (go_at_call 85; refine (l1In_any _ _ _ _).mono ?_; rintro e w_ ⟨rfl, rfl⟩) | (go_at_call 86; refine (l1All_any _ _ _ _ _ _ _ (by exact sl_below s2 (by repeat (first | with_reducible exact Below.refl _ _ | ((with_reducible refine Below.setCell ?_ ?_ _); rotate_left; focus (first | (simp; done) | omega | (simp; omega))) | ((with_reducible refine Below.alloc ?_ ?_ _); rotate_left; focus (first | (simp; done) | omega | (simp; omega))) | (with_reducible refine Below.drew ?_) | (with_reducible refine below_draws_ ?_ _))))).mono ?_; rintro e w_ ⟨rfl, rfl⟩) | (go_at_call 86; refine (l1All_any _ _ _ _ _ _ _ (by exact sl_below s3 (by repeat (first | with_reducible exact Below.refl _ _ | ((with_reducible refine Below.setCell ?_ ?_ _); rotate_left; focus (first | (simp; done) | omega | (simp; omega))) | ((with_reducible refine Below.alloc ?_ ?_ _); rotate_left; focus (first | (simp; done) | omega | (simp; omega))) | (with_reducible refine Below.drew ?_) | (with_reducible refine below_draws_ ?_ _))))).mono ?_; rintro e w_ ⟨rfl, rfl⟩))
                have hG2 := hG.out
                simp only [h3, h4, h5, h6, h7, Bool.true_and] at hG2
                have HG := Lib.hid hG2
                clear hG hG2 h3 h4 h5 h6 h7
                go_loopw [4, 6, 55] (fun r _ i wr => r = .bool false ∧ ∃ k : Nat, k ≤ bs.length ∧ i = .int .i64 k ∧ ((bs.drop k).all fun b => isBr p nodes b.1 b.2.1 b.2.2) = (bs.all fun b => isBr p nodes b.1 b.2.1 b.2.2) ∧ Below (w.alloc (.cells #[.int .i64 nodes, .slice A1 bs.length c1, .slice A2 left.length c2, .slice A3 right.length c3] 30)).heap.size (w.alloc (.cells #[.int .i64 nodes, .slice A1 bs.length c1, .slice A2 left.length c2, .slice A3 right.length c3] 30)) wr) (fun _ _ i _ => bs.length - (intOf i).toNat)
                case atStart => exact ⟨rfl, 0, by omega, rfl, rfl, (by repeat (first | with_reducible exact Below.refl _ _ | ((with_reducible refine Below.setCell ?_ ?_ _); rotate_left; focus (first | (simp; done) | omega | (simp; omega))) | ((with_reducible refine Below.alloc ?_ ?_ _); rotate_left; focus (first | (simp; done) | omega | (simp; omega))) | (with_reducible refine Below.drew ?_) | (with_reducible refine below_draws_ ?_ _)))⟩
                case round =>
                  obtain ⟨rfl, k, hk, rfl, hD, hbl⟩ := hrel
                  have hb_wr : Below w.heap.size w wr := ((Below.refl _ _).alloc (Nat.le_refl _) (.cells #[.int .i64 nodes, .slice A1 bs.length c1, .slice A2 left.length c2, .slice A3 right.length c3] 30)).trans (hbl.mono (by simp))
                  obtain ⟨hc0, hf0⟩ := bcell hbl
                  have hz0 := hbl.size
                  simp at hz0
                  have hl0 : w.heap.size < wr.heap.size := by omega
                  by_cases hlt : k < bs.length
                  · obtain ⟨b, o, rfl, _, hcell⟩ := sl_flat_at rfl (sl_below s1 ((Below.refl _ _).alloc (Nat.le_refl _) (.cells #[.int .i64 nodes, .slice A1 bs.length c1, .slice A2 left.length c2, .slice A3 right.length c3] 30))) hlt
                    rw [List.drop_eq_getElem_cons hlt, List.all_cons] at hD
                    obtain ⟨⟨x0, x1, x2⟩, hx⟩ : ∃ x, x = bs[k] := ⟨_, rfl⟩
                    rw [← hx] at hcell hD
                    have e0 := below_has hbl (show World.cell? _ ⟨b, o + k * 3, none⟩ = some (.int .i64 x0) from hcell 0 (by decide))
                    have e1 := below_has hbl (show World.cell? _ ⟨b, o + k * 3 + 1, none⟩ = some (.int .i64 x1) from hcell 1 (by decide))
                    have e2 := below_has hbl (show World.cell? _ ⟨b, o + k * 3 + 2, none⟩ = some (.int .i64 x2) from hcell 2 (by decide))
                    clear hx hcell
                    have H := Lib.hid hD
                    clear hD
                    cases q1 : inR x0 0 (nodes - 1)
                    · skip
                      (try have q3' : (x0 == x1) = true := by simpa using q3)
                      (try have q3' : (x0 == x1) = false := by simpa using q3)
                      go_wp2_with (go_at_call 85; refine (l1In_any _ _ _ _).mono ?_; rintro e w_ ⟨rfl, rfl⟩)
                      go_ret
                      have hE := H.out
                      have hB : isBr p nodes x0 x1 x2 = false := by simp [isBr, *]
                      simp only [hB, Bool.false_and] at hE
                      exact ⟨ret_bool (by rw [HG.out, ← hE]), (by repeat (first | with_reducible exact Below.refl _ _ | ((with_reducible refine Below.setCell ?_ ?_ _); rotate_left; focus (first | (simp; done) | omega | (simp; omega))) | ((with_reducible refine Below.alloc ?_ ?_ _); rotate_left; focus (first | (simp; done) | omega | (simp; omega))) | (with_reducible refine Below.drew ?_) | (with_reducible refine below_draws_ ?_ _) | ((with_reducible refine Below.trans ?_ (Below.mono hb_wr ?_)); rotate_left; focus (first | (simp; done) | omega | (simp; omega)))))⟩
                    · skip
                      cases q2 : inR x1 0 (nodes - 1)
                      · skip
                        (try have q3' : (x0 == x1) = true := by simpa using q3)
                        (try have q3' : (x0 == x1) = false := by simpa using q3)
                        go_wp2_with (go_at_call 85; refine (l1In_any _ _ _ _).mono ?_; rintro e w_ ⟨rfl, rfl⟩)
                        go_ret
                        have hE := H.out
                        have hB : isBr p nodes x0 x1 x2 = false := by simp [isBr, *]
                        simp only [hB, Bool.false_and] at hE
                        exact ⟨ret_bool (by rw [HG.out, ← hE]), (by repeat (first | with_reducible exact Below.refl _ _ | ((with_reducible refine Below.setCell ?_ ?_ _); rotate_left; focus (first | (simp; done) | omega | (simp; omega))) | ((with_reducible refine Below.alloc ?_ ?_ _); rotate_left; focus (first | (simp; done) | omega | (simp; omega))) | (with_reducible refine Below.drew ?_) | (with_reducible refine below_draws_ ?_ _) | ((with_reducible refine Below.trans ?_ (Below.mono hb_wr ?_)); rotate_left; focus (first | (simp; done) | omega | (simp; omega)))))⟩
                      · skip
                        cases q3 : x0 != x1
                        · skip
                          (try have q3' : (x0 == x1) = true := by simpa using q3)
                          (try have q3' : (x0 == x1) = false := by simpa using q3)
                          go_wp2_with (go_at_call 85; refine (l1In_any _ _ _ _).mono ?_; rintro e w_ ⟨rfl, rfl⟩)
                          go_ret
                          have hE := H.out
                          have hB : isBr p nodes x0 x1 x2 = false := by simp [isBr, *]
                          simp only [hB, Bool.false_and] at hE
                          exact ⟨ret_bool (by rw [HG.out, ← hE]), (by repeat (first | with_reducible exact Below.refl _ _ | ((with_reducible refine Below.setCell ?_ ?_ _); rotate_left; focus (first | (simp; done) | omega | (simp; omega))) | ((with_reducible refine Below.alloc ?_ ?_ _); rotate_left; focus (first | (simp; done) | omega | (simp; omega))) | (with_reducible refine Below.drew ?_) | (with_reducible refine below_draws_ ?_ _) | ((with_reducible refine Below.trans ?_ (Below.mono hb_wr ?_)); rotate_left; focus (first | (simp; done) | omega | (simp; omega)))))⟩
                        · skip
                          cases q4 : inR x2 1 (p - 1)
                          · skip
                            (try have q3' : (x0 == x1) = true := by simpa using q3)
                            (try have q3' : (x0 == x1) = false := by simpa using q3)
                            go_wp2_with (go_at_call 85; refine (l1In_any _ _ _ _).mono ?_; rintro e w_ ⟨rfl, rfl⟩)
                            go_ret
                            have hE := H.out
                            have hB : isBr p nodes x0 x1 x2 = false := by simp [isBr, *]
                            simp only [hB, Bool.false_and] at hE
                            exact ⟨ret_bool (by rw [HG.out, ← hE]), (by repeat (first | with_reducible exact Below.refl _ _ | ((with_reducible refine Below.setCell ?_ ?_ _); rotate_left; focus (first | (simp; done) | omega | (simp; omega))) | ((with_reducible refine Below.alloc ?_ ?_ _); rotate_left; focus (first | (simp; done) | omega | (simp; omega))) | (with_reducible refine Below.drew ?_) | (with_reducible refine below_draws_ ?_ _) | ((with_reducible refine Below.trans ?_ (Below.mono hb_wr ?_)); rotate_left; focus (first | (simp; done) | omega | (simp; omega)))))⟩
                          · skip
                            (try have q3' : (x0 == x1) = true := by simpa using q3)
                            (try have q3' : (x0 == x1) = false := by simpa using q3)
                            go_wp2_with (go_at_call 85; refine (l1In_any _ _ _ _).mono ?_; rintro e w_ ⟨rfl, rfl⟩)
                            go_roundw
                            have hE := H.out
                            have hB : isBr p nodes x0 x1 x2 = true := by simp [isBr, *]
                            simp only [hB, Bool.true_and] at hE
                            case rel => exact ⟨rfl, k + 1, by omega, by go_num, hE, by exact hbl.alloc hbl.size _⟩
                            case measure => simp [intOf]; omega
                  · rw [List.drop_of_length_le (by omega)] at hD
                    have H := Lib.hid hD
                    clear hD
                    go_wp2_with fail
                    go_ret
                    exact ⟨ret_bool (by rw [HG.out, ← H.out]; rfl), (by repeat (first | with_reducible exact Below.refl _ _ | ((with_reducible refine Below.setCell ?_ ?_ _); rotate_left; focus (first | (simp; done) | omega | (simp; omega))) | ((with_reducible refine Below.alloc ?_ ?_ _); rotate_left; focus (first | (simp; done) | omega | (simp; omega))) | (with_reducible refine Below.drew ?_) | (with_reducible refine below_draws_ ?_ _) | ((with_reducible refine Below.trans ?_ (Below.mono hb_wr ?_)); rotate_left; focus (first | (simp; done) | omega | (simp; omega)))))⟩
end Go.Proofs.YtefolocdfgelcaaDoor
