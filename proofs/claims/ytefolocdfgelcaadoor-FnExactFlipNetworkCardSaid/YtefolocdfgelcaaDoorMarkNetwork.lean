/- What the law's helpers that mark a Network, and that look for the marks, do; conditions: the leaves were made by the call and are met once. -/
import Derived.Test.YtefolocdfgelcaaDoorMarkBranch
import Derived.Test.YtefolocdfgelcaaDoorTyNetwork
namespace Go.Proofs.YtefolocdfgelcaaDoor
open Go.RowKit Go.Deep

set_option maxHeartbeats 1000000 in
theorem markNetwork_any {R1 : Nat → Prop} {R2 : Nat → Prop} {R3 : Nat → Prop} (x0 : Int) (x1 : List (Int × Int × Int)) (A1 : Option Addr) (c1 : Nat) (l1 : List Addr) (x2 : List (Int)) (A2 : Option Addr) (c2 : Nat) (l2 : List Addr) (x3 : List (Int)) (A3 : Option Addr) (c3 : Nat) (l3 : List Addr) (k : Int) (lo : Nat) (w : World) (s1 : Sl R1 w tyBranch A1 c1 x1 l1) (s2 : Sl R2 w .int A2 c2 x2 l2) (s3 : Sl R3 w .int A3 c3 x3 l3) (hf : Fresh w lo (l1 ++ (l2 ++ l3))) (hk : 0 ≤ k ∧ k + (l1 ++ (l2 ++ l3)).length ≤ 9223372036854775807) :
    Calls Tryd.prog 23 #[.agg #[.int .i64 x0, .slice A1 x1.length c1, .slice A2 x2.length c2, .slice A3 x3.length c3], .int .i64 k] w fun e w' => e = .returned (.int .i64 (k + (l1 ++ (l2 ++ l3)).length)) ∧ MarkedAs (l1 ++ (l2 ++ l3)) k w w' := by
  have hL : (l1 ++ (l2 ++ l3)).length = l1.length + l2.length + l3.length := by simp [Nat.add_assoc]
  have hb0 : Below w.heap.size w (w.alloc (.cells #[.int .i64 x0, .slice A1 x1.length c1, .slice A2 x2.length c2, .slice A3 x3.length c3] 30)) := (by repeat (first | with_reducible exact Below.refl _ _ | ((with_reducible refine Below.setCell ?_ ?_ _); rotate_left; focus (first | (simp; done) | omega | (simp; omega))) | ((with_reducible refine Below.alloc ?_ ?_ _); rotate_left; focus (first | (simp; done) | omega | (simp; omega))) | (with_reducible refine Below.drew ?_) | (with_reducible refine below_draws_ ?_ _)))
  have f0 := hf.below hb0
  have hbx : w.heap.size < (w.alloc (.cells #[.int .i64 x0, .slice A1 x1.length c1, .slice A2 x2.length c2, .slice A3 x3.length c3] 30)).heap.size := by simp
  have s1_0 := sl_below s1 hb0
  have s2_0 := sl_below s2 hb0
  have s3_0 := sl_below s3 hb0
  have b2_0 : (w.alloc (.cells #[.int .i64 x0, .slice A1 x1.length c1, .slice A2 x2.length c2, .slice A3 x3.length c3] 30)).cell? ⟨w.heap.size, 2, none⟩ = some (.slice A2 x2.length c2) := by simp
  have b3_0 : (w.alloc (.cells #[.int .i64 x0, .slice A1 x1.length c1, .slice A2 x2.length c2, .slice A3 x3.length c3] 30)).cell? ⟨w.heap.size, 3, none⟩ = some (.slice A3 x3.length c3) := by simp
  have g0 : ∀ p ∈ (l1 ++ (l2 ++ l3)), p.block < w.heap.size := fun p hp => (hf.2 p hp).2.1
  go_enter Tryd.func23, Tryd.ntmps23
  go_wp2_with fail
  refine (markBranchS_any x1 A1 c1 l1 (k) lo _ s1_0 f0.sub1 (by omega)).mono ?_
  rintro e w1 ⟨rfl, m1⟩
  have hz1 := m1.size
  have s2_1 := m1.keepSl s2_0 (fun p hp hq => (List.nodup_append.1 f0.1).2.2 _ hq _ (List.mem_append_left _ hp) rfl)
  have b2_1 : w1.cell? ⟨w.heap.size, 2, none⟩ = some (.slice A2 x2.length c2) := (m1.frame.cell _ (show w.heap.size < _ by omega) (fun hp => Nat.lt_irrefl w.heap.size (g0 _ (List.mem_append_left _ hp)))).trans b2_0
  have s3_1 := m1.keepSl s3_0 (fun p hp hq => (List.nodup_append.1 f0.1).2.2 _ hq _ (List.mem_append_right _ (hp)) rfl)
  have b3_1 : w1.cell? ⟨w.heap.size, 3, none⟩ = some (.slice A3 x3.length c3) := (m1.frame.cell _ (show w.heap.size < _ by omega) (fun hp => Nat.lt_irrefl w.heap.size (g0 _ (List.mem_append_left _ hp)))).trans b3_0
  have f1 := f0.sub2.marked m1.frame
  go_wp2_with fail
  refine (markIntS_any x2 A2 c2 l2 (k + l1.length) lo _ s2_1 f1.sub1 (by omega)).mono ?_
  rintro e w2 ⟨rfl, m2⟩
  have hz2 := m2.size
  have s3_2 := m2.keepSl s3_1 (fun p hp hq => (List.nodup_append.1 f1.1).2.2 _ hq _ (hp) rfl)
  have b3_2 : w2.cell? ⟨w.heap.size, 3, none⟩ = some (.slice A3 x3.length c3) := (m2.frame.cell _ (show w.heap.size < _ by omega) (fun hp => Nat.lt_irrefl w.heap.size (g0 _ (List.mem_append_right _ (List.mem_append_left _ hp))))).trans b3_1
  have f2 := f1.sub2.marked m2.frame
  go_wp2_with fail
  refine (markIntS_any x3 A3 c3 l3 (k + l1.length + l2.length) lo _ s3_2 f2 (by omega)).mono ?_
  rintro e w3 ⟨rfl, m3⟩
  have hz3 := m3.size
  go_wp2_with fail
  go_ret
  exact ⟨ret_int (by rw [hL]; omega), MarkedAs.after hb0 (m1.append (m2.append m3 f1) f0) g0⟩
set_option maxHeartbeats 1000000 in
theorem heldNetwork_any {R1 : Nat → Prop} {R2 : Nat → Prop} {R3 : Nat → Prop} (x0 : Int) (x1 : List (Int × Int × Int)) (A1 : Option Addr) (c1 : Nat) (l1 : List Addr) (x2 : List (Int)) (A2 : Option Addr) (c2 : Nat) (l2 : List Addr) (x3 : List (Int)) (A3 : Option Addr) (c3 : Nat) (l3 : List Addr) (k : Int) (w : World) (s1 : Sl R1 w tyBranch A1 c1 x1 l1) (s2 : Sl R2 w .int A2 c2 x2 l2) (s3 : Sl R3 w .int A3 c3 x3 l3) (hh : HeldAs (l1 ++ (l2 ++ l3)) k w) (hk : 0 ≤ k ∧ k + (l1 ++ (l2 ++ l3)).length ≤ 9223372036854775807) :
    Calls Tryd.prog 24 #[.agg #[.int .i64 x0, .slice A1 x1.length c1, .slice A2 x2.length c2, .slice A3 x3.length c3], .int .i64 k] w fun e w' => e = .returned (.int .i64 (k + (l1 ++ (l2 ++ l3)).length)) ∧ Below w.heap.size w w' := by
  have hL : (l1 ++ (l2 ++ l3)).length = l1.length + l2.length + l3.length := by simp [Nat.add_assoc]
  have h1 := hh.left
  have hr0 := hh.right
  have h2 := hr0.left
  have hr1 := hr0.right
  have h3 := hr1
  go_enter Tryd.func24, Tryd.ntmps24
  go_wp2_with fail
  (refine (heldBranchS_any x1 A1 c1 l1 (k) _ (by exact sl_below s1 (by repeat (first | with_reducible exact Below.refl _ _ | ((with_reducible refine Below.setCell ?_ ?_ _); rotate_left; focus (first | (simp; done) | omega | (simp; omega))) | ((with_reducible refine Below.alloc ?_ ?_ _); rotate_left; focus (first | (simp; done) | omega | (simp; omega))) | (with_reducible refine Below.drew ?_) | (with_reducible refine below_draws_ ?_ _)))) (by exact h1.below (by repeat (first | with_reducible exact Below.refl _ _ | ((with_reducible refine Below.setCell ?_ ?_ _); rotate_left; focus (first | (simp; done) | omega | (simp; omega))) | ((with_reducible refine Below.alloc ?_ ?_ _); rotate_left; focus (first | (simp; done) | omega | (simp; omega))) | (with_reducible refine Below.drew ?_) | (with_reducible refine below_draws_ ?_ _)))) (by omega)).mono ?_; rintro e w1 ⟨rfl, hb_w1⟩; obtain ⟨hc_w1, hf_w1⟩ := bcell hb_w1; have hz_w1 := hb_w1.size; (try simp at hz_w1); have hl_w1_0 : w.heap.size < w1.heap.size := (by omega)); go_wp2_with fail
  (refine (heldIntS_any x2 A2 c2 l2 (k + l1.length) _ (by exact sl_below s2 (by repeat (first | with_reducible exact Below.refl _ _ | ((with_reducible refine Below.setCell ?_ ?_ _); rotate_left; focus (first | (simp; done) | omega | (simp; omega))) | ((with_reducible refine Below.alloc ?_ ?_ _); rotate_left; focus (first | (simp; done) | omega | (simp; omega))) | (with_reducible refine Below.drew ?_) | (with_reducible refine below_draws_ ?_ _) | ((with_reducible refine Below.trans ?_ (Below.mono hb_w1 ?_)); rotate_left; focus (first | (simp; done) | omega | (simp; omega)))))) (by exact h2.below (by repeat (first | with_reducible exact Below.refl _ _ | ((with_reducible refine Below.setCell ?_ ?_ _); rotate_left; focus (first | (simp; done) | omega | (simp; omega))) | ((with_reducible refine Below.alloc ?_ ?_ _); rotate_left; focus (first | (simp; done) | omega | (simp; omega))) | (with_reducible refine Below.drew ?_) | (with_reducible refine below_draws_ ?_ _) | ((with_reducible refine Below.trans ?_ (Below.mono hb_w1 ?_)); rotate_left; focus (first | (simp; done) | omega | (simp; omega)))))) (by omega)).mono ?_; rintro e w2 ⟨rfl, hb_w2⟩; obtain ⟨hc_w2, hf_w2⟩ := bcell hb_w2; have hz_w2 := hb_w2.size; (try simp at hz_w2); have hl_w2_0 : w.heap.size < w2.heap.size := (by omega)); go_wp2_with fail
  (refine (heldIntS_any x3 A3 c3 l3 (k + l1.length + l2.length) _ (by exact sl_below s3 (by repeat (first | with_reducible exact Below.refl _ _ | ((with_reducible refine Below.setCell ?_ ?_ _); rotate_left; focus (first | (simp; done) | omega | (simp; omega))) | ((with_reducible refine Below.alloc ?_ ?_ _); rotate_left; focus (first | (simp; done) | omega | (simp; omega))) | (with_reducible refine Below.drew ?_) | (with_reducible refine below_draws_ ?_ _) | ((with_reducible refine Below.trans ?_ (Below.mono hb_w1 ?_)); rotate_left; focus (first | (simp; done) | omega | (simp; omega))) | ((with_reducible refine Below.trans ?_ (Below.mono hb_w2 ?_)); rotate_left; focus (first | (simp; done) | omega | (simp; omega)))))) (by exact h3.below (by repeat (first | with_reducible exact Below.refl _ _ | ((with_reducible refine Below.setCell ?_ ?_ _); rotate_left; focus (first | (simp; done) | omega | (simp; omega))) | ((with_reducible refine Below.alloc ?_ ?_ _); rotate_left; focus (first | (simp; done) | omega | (simp; omega))) | (with_reducible refine Below.drew ?_) | (with_reducible refine below_draws_ ?_ _) | ((with_reducible refine Below.trans ?_ (Below.mono hb_w1 ?_)); rotate_left; focus (first | (simp; done) | omega | (simp; omega))) | ((with_reducible refine Below.trans ?_ (Below.mono hb_w2 ?_)); rotate_left; focus (first | (simp; done) | omega | (simp; omega)))))) (by omega)).mono ?_; rintro e w3 ⟨rfl, hb_w3⟩; obtain ⟨hc_w3, hf_w3⟩ := bcell hb_w3; have hz_w3 := hb_w3.size; (try simp at hz_w3); have hl_w3_0 : w.heap.size < w3.heap.size := (by omega)); go_wp2_with fail
  go_ret
  exact ⟨ret_int (by rw [hL]; omega), (by repeat (first | with_reducible exact Below.refl _ _ | ((with_reducible refine Below.setCell ?_ ?_ _); rotate_left; focus (first | (simp; done) | omega | (simp; omega))) | ((with_reducible refine Below.alloc ?_ ?_ _); rotate_left; focus (first | (simp; done) | omega | (simp; omega))) | (with_reducible refine Below.drew ?_) | (with_reducible refine below_draws_ ?_ _) | ((with_reducible refine Below.trans ?_ (Below.mono hb_w1 ?_)); rotate_left; focus (first | (simp; done) | omega | (simp; omega))) | ((with_reducible refine Below.trans ?_ (Below.mono hb_w2 ?_)); rotate_left; focus (first | (simp; done) | omega | (simp; omega))) | ((with_reducible refine Below.trans ?_ (Below.mono hb_w3 ?_)); rotate_left; focus (first | (simp; done) | omega | (simp; omega)))))⟩
end Go.Proofs.YtefolocdfgelcaaDoor
