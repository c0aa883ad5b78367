/- The law FnExactSyncDisk returns true for every disk; condition: the two texts are no longer than the model's greatest length. -/
import Derived.Test.YtegnkfmjajaecaaDisk
namespace Go.Proofs.Ytegnkfmjajaecaa
open Go.RowKit
theorem syncDisk_walk (a : ByteArray) (b : ByteArray) (w : World) (ha : a.size ≤ maxLen) (hb : b.size ≤ maxLen) :
    Calls Try.prog 4 #[.agg #[.string a, .string b]] w fun e w' => e = .returned (.bool true) ∧ Below w.heap.size w w' := by
  by_cases hs : (a.size : Int) + b.size ≤ 1048576
  · by_cases h : (a.size : Int) + b.size ≤ 60000
    · go_enter Try.func4, Try.ntmps4
      go_wp2_with fail
      (refine (szDisk_ok a b _ _ (by omega) (by omega)).mono ?_; rintro e w1 ⟨rfl, hb_w1⟩; obtain ⟨hc_w1, hf_w1⟩ := bcell hb_w1; have hz_w1 := hb_w1.size; (try simp at hz_w1); have hl_w1_0 : w.heap.size < w1.heap.size := (by omega)); go_wp2_with fail
      (refine (toDisk_any a b _).mono ?_; rintro e w2 ⟨rfl, hb_w2⟩; obtain ⟨hc_w2, hf_w2⟩ := bcell hb_w2; have hz_w2 := hb_w2.size; (try simp at hz_w2); have hl_w2_0 : w.heap.size < w2.heap.size := (by omega)); go_wp2_with fail
      (refine (specSync_yes a b _ (by omega)).mono ?_; rintro e w3 ⟨rfl, hb_w3⟩; obtain ⟨hc_w3, hf_w3⟩ := bcell hb_w3; have hz_w3 := hb_w3.size; (try simp at hz_w3); have hl_w3_0 : w.heap.size < w3.heap.size := (by omega)); go_wp2_with fail
      (refine (toDisk_any a b _).mono ?_; rintro e w4 ⟨rfl, hb_w4⟩; obtain ⟨hc_w4, hf_w4⟩ := bcell hb_w4; have hz_w4 := hb_w4.size; (try simp at hz_w4); have hl_w4_0 : w.heap.size < w4.heap.size := (by omega); have hl_w4_1 : w3.heap.size < w4.heap.size := (by omega)); go_wp2_with fail
      (refine (implSync_yes a b _ (by omega)).mono ?_; rintro e w5 ⟨rfl, hb_w5⟩; obtain ⟨hc_w5, hf_w5⟩ := bcell hb_w5; have hz_w5 := hb_w5.size; (try simp at hz_w5); have hl_w5_0 : w.heap.size < w5.heap.size := (by omega); have hl_w5_1 : w3.heap.size < w5.heap.size := (by omega)); go_wp2_with fail
      (refine (eqDisk_same _ _ _).mono ?_; rintro e w6 ⟨rfl, hb_w6⟩; obtain ⟨hc_w6, hf_w6⟩ := bcell hb_w6; have hz_w6 := hb_w6.size; (try simp at hz_w6); have hl_w6_0 : w.heap.size < w6.heap.size := (by omega); have hl_w6_1 : w3.heap.size < w6.heap.size := (by omega); have hl_w6_2 : w5.heap.size < w6.heap.size := (by omega)); go_wp2_with fail
      go_ret
      exact ⟨rfl, (by repeat (first | exact Below.refl _ _ | refine Below.setCell ?_ (by first | (simp; done) | omega | (simp; omega)) _ | refine Below.alloc ?_ (by first | (simp; done) | omega | (simp; omega)) _ | refine Below.drew ?_ | refine Below.trans ?_ (Below.mono hb_w1 (by first | (simp; done) | omega | (simp; omega))) | refine Below.trans ?_ (Below.mono hb_w2 (by first | (simp; done) | omega | (simp; omega))) | refine Below.trans ?_ (Below.mono hb_w3 (by first | (simp; done) | omega | (simp; omega))) | refine Below.trans ?_ (Below.mono hb_w4 (by first | (simp; done) | omega | (simp; omega))) | refine Below.trans ?_ (Below.mono hb_w5 (by first | (simp; done) | omega | (simp; omega))) | refine Below.trans ?_ (Below.mono hb_w6 (by first | (simp; done) | omega | (simp; omega)))))⟩
    · have hd : 60000 < (a.size : Int) + b.size := by omega
      go_enter Try.func4, Try.ntmps4
      go_wp2_with fail
      (refine (szDisk_ok a b _ _ (by omega) (by omega)).mono ?_; rintro e w1 ⟨rfl, hb_w1⟩; obtain ⟨hc_w1, hf_w1⟩ := bcell hb_w1; have hz_w1 := hb_w1.size; (try simp at hz_w1); have hl_w1_0 : w.heap.size < w1.heap.size := (by omega)); go_wp2_with fail
      (refine (toDisk_any a b _).mono ?_; rintro e w2 ⟨rfl, hb_w2⟩; obtain ⟨hc_w2, hf_w2⟩ := bcell hb_w2; have hz_w2 := hb_w2.size; (try simp at hz_w2); have hl_w2_0 : w.heap.size < w2.heap.size := (by omega)); go_wp2_with fail
      (refine (specSync_no a b _ hd hs).mono ?_; rintro e w3 ⟨rfl, hb_w3⟩; obtain ⟨hc_w3, hf_w3⟩ := bcell hb_w3; have hz_w3 := hb_w3.size; (try simp at hz_w3); have hl_w3_0 : w.heap.size < w3.heap.size := (by omega)); go_wp2_with fail
      (refine (toDisk_any a b _).mono ?_; rintro e w4 ⟨rfl, hb_w4⟩; obtain ⟨hc_w4, hf_w4⟩ := bcell hb_w4; have hz_w4 := hb_w4.size; (try simp at hz_w4); have hl_w4_0 : w.heap.size < w4.heap.size := (by omega); have hl_w4_1 : w3.heap.size < w4.heap.size := (by omega)); go_wp2_with fail
      (refine (implSync_no a b _ hd hs).mono ?_; rintro e w5 ⟨rfl, hb_w5⟩; obtain ⟨hc_w5, hf_w5⟩ := bcell hb_w5; have hz_w5 := hb_w5.size; (try simp at hz_w5); have hl_w5_0 : w.heap.size < w5.heap.size := (by omega); have hl_w5_1 : w3.heap.size < w5.heap.size := (by omega)); go_wp2_with fail
      (refine (eqDisk_same _ _ _).mono ?_; rintro e w6 ⟨rfl, hb_w6⟩; obtain ⟨hc_w6, hf_w6⟩ := bcell hb_w6; have hz_w6 := hb_w6.size; (try simp at hz_w6); have hl_w6_0 : w.heap.size < w6.heap.size := (by omega); have hl_w6_1 : w3.heap.size < w6.heap.size := (by omega); have hl_w6_2 : w5.heap.size < w6.heap.size := (by omega)); go_wp2_with fail
      go_ret
      exact ⟨rfl, (by repeat (first | exact Below.refl _ _ | refine Below.setCell ?_ (by first | (simp; done) | omega | (simp; omega)) _ | refine Below.alloc ?_ (by first | (simp; done) | omega | (simp; omega)) _ | refine Below.drew ?_ | refine Below.trans ?_ (Below.mono hb_w1 (by first | (simp; done) | omega | (simp; omega))) | refine Below.trans ?_ (Below.mono hb_w2 (by first | (simp; done) | omega | (simp; omega))) | refine Below.trans ?_ (Below.mono hb_w3 (by first | (simp; done) | omega | (simp; omega))) | refine Below.trans ?_ (Below.mono hb_w4 (by first | (simp; done) | omega | (simp; omega))) | refine Below.trans ?_ (Below.mono hb_w5 (by first | (simp; done) | omega | (simp; omega))) | refine Below.trans ?_ (Below.mono hb_w6 (by first | (simp; done) | omega | (simp; omega)))))⟩
  · go_enter Try.func4, Try.ntmps4
    go_wp2_with (go_at_call 8; refine (szDisk_no a b _ _ (by omega) (by omega) ha hb).mono ?_; rintro e w1 ⟨rfl, hb_w1⟩; obtain ⟨hc_w1, hf_w1⟩ := bcell hb_w1; have hz_w1 := hb_w1.size; (try simp at hz_w1))
    go_ret
    exact ⟨rfl, (by repeat (first | exact Below.refl _ _ | refine Below.setCell ?_ (by first | (simp; done) | omega | (simp; omega)) _ | refine Below.alloc ?_ (by first | (simp; done) | omega | (simp; omega)) _ | refine Below.drew ?_ | refine Below.trans ?_ (Below.mono hb_w1 (by first | (simp; done) | omega | (simp; omega)))))⟩
end Go.Proofs.Ytegnkfmjajaecaa
