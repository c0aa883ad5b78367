/- The law FnExactCrashDisk returns true for every disk and number; condition: the two texts are no longer than the model's greatest length. -/
import Derived.Test.YtegnkfmjajaecaaDisk
import Derived.RegionTactic
import Derived.BigRegion
namespace Go.Proofs.Ytegnkfmjajaecaa
open Go.RowKit

theorem specCrash_yes (a b : ByteArray) (k : Nat) (w : World) (h : (a.size : Int) + b.size ≤ 60000) (hk : k ≤ b.size) :
    Calls Try.prog 13 #[.agg #[.string a, .string b], .int .i64 k] w fun e w' => e = .returned (.tuple #[.agg #[.string (a ++ b.extract 0 k), .string ⟨#[]⟩], .bool true]) ∧ Below w.heap.size w w' := by
  have hd : decide ((a.size : Int) + b.size ≤ 60000) = true := by simp; omega
  go_enter Try.func13, Try.ntmps13
  go_wp2_with (first | (go_at_call 17; refine (joValid_any a b _ (by omega)).mono ?_; rintro e w1 ⟨rfl, hb_w1⟩; obtain ⟨hc_w1, hf_w1⟩ := bcell hb_w1; have hz_w1 := hb_w1.size; (try simp at hz_w1); have hl_w1_0 : w.heap.size < w1.heap.size := (by omega); have hl_w1_1 : w.heap.size + 1 < w1.heap.size := (by omega)) | go_in)
  go_region
  go_wp2
  refine bodyPost_ret (v := .tuple #[.agg #[.string (a ++ b.extract 0 k), .string ⟨#[]⟩], .bool true]) (by simp [results, Try.results13, go_sem, hc_w1, hz_w1]) rfl ⟨rfl, ?_⟩
  exact (by repeat (first | exact Below.refl _ _ | refine Below.setCell ?_ (by first | (simp; done) | omega | (simp; omega)) _ | refine Below.alloc ?_ (by first | (simp; done) | omega | (simp; omega)) _ | refine Below.drew ?_ | refine Below.trans ?_ (Below.mono hb_w1 (by first | (simp; done) | omega | (simp; omega)))))

theorem specCrash_big (a b : ByteArray) (k : Int) (w : World) (h : 60000 < (a.size : Int) + b.size) (hs : (a.size : Int) + b.size ≤ 1048576) :
    Calls Try.prog 13 #[.agg #[.string a, .string b], .int .i64 k] w fun e w' => e = .returned (.tuple #[.agg #[.string ⟨#[]⟩, .string ⟨#[]⟩], .bool false]) ∧ Below w.heap.size w w' := by
  have hd : decide ((a.size : Int) + b.size ≤ 60000) = false := by simp; omega
  go_enter Try.func13, Try.ntmps13
  go_wp2_with (first | (go_at_call 17; refine (joValid_any a b _ (by omega)).mono ?_; rintro e w1 ⟨rfl, hb_w1⟩; obtain ⟨hc_w1, hf_w1⟩ := bcell hb_w1; have hz_w1 := hb_w1.size; (try simp at hz_w1); have hl_w1_0 : w.heap.size < w1.heap.size := (by omega); have hl_w1_1 : w.heap.size + 1 < w1.heap.size := (by omega)) | go_in)
  refine bodyPost_ret (v := .tuple #[.agg #[.string ⟨#[]⟩, .string ⟨#[]⟩], .bool false]) (by simp [results, Try.results13, go_sem, hc_w1, hz_w1]) rfl ⟨rfl, ?_⟩
  exact (by repeat (first | exact Below.refl _ _ | refine Below.setCell ?_ (by first | (simp; done) | omega | (simp; omega)) _ | refine Below.alloc ?_ (by first | (simp; done) | omega | (simp; omega)) _ | refine Below.drew ?_ | refine Below.trans ?_ (Below.mono hb_w1 (by first | (simp; done) | omega | (simp; omega)))))

theorem specCrash_out (a b : ByteArray) (k : Int) (w : World) (h : (a.size : Int) + b.size ≤ 60000) (hk : k < 0 ∨ (b.size : Int) < k) :
    Calls Try.prog 13 #[.agg #[.string a, .string b], .int .i64 k] w fun e w' => e = .returned (.tuple #[.agg #[.string ⟨#[]⟩, .string ⟨#[]⟩], .bool false]) ∧ Below w.heap.size w w' := by
  have hd : decide ((a.size : Int) + b.size ≤ 60000) = true := by simp; omega
  by_cases h1 : k < 0
  · have hn : decide ((0 : Int) ≤ k) = false := by simp; omega
    go_enter Try.func13, Try.ntmps13
    go_wp2_with (first | (go_at_call 17; refine (joValid_any a b _ (by omega)).mono ?_; rintro e w1 ⟨rfl, hb_w1⟩; obtain ⟨hc_w1, hf_w1⟩ := bcell hb_w1; have hz_w1 := hb_w1.size; (try simp at hz_w1); have hl_w1_0 : w.heap.size < w1.heap.size := (by omega); have hl_w1_1 : w.heap.size + 1 < w1.heap.size := (by omega)) | go_in)
    refine bodyPost_ret (v := .tuple #[.agg #[.string ⟨#[]⟩, .string ⟨#[]⟩], .bool false]) (by simp [results, Try.results13, go_sem, hc_w1, hz_w1]) rfl ⟨rfl, ?_⟩
    exact (by repeat (first | exact Below.refl _ _ | refine Below.setCell ?_ (by first | (simp; done) | omega | (simp; omega)) _ | refine Below.alloc ?_ (by first | (simp; done) | omega | (simp; omega)) _ | refine Below.drew ?_ | refine Below.trans ?_ (Below.mono hb_w1 (by first | (simp; done) | omega | (simp; omega)))))
  · have hp : decide ((0 : Int) ≤ k) = true := by simp; omega
    have hn : decide (k ≤ (b.size : Int)) = false := by simp; omega
    go_enter Try.func13, Try.ntmps13
    go_wp2_with (first | (go_at_call 17; refine (joValid_any a b _ (by omega)).mono ?_; rintro e w1 ⟨rfl, hb_w1⟩; obtain ⟨hc_w1, hf_w1⟩ := bcell hb_w1; have hz_w1 := hb_w1.size; (try simp at hz_w1); have hl_w1_0 : w.heap.size < w1.heap.size := (by omega); have hl_w1_1 : w.heap.size + 1 < w1.heap.size := (by omega)) | go_in)
    refine bodyPost_ret (v := .tuple #[.agg #[.string ⟨#[]⟩, .string ⟨#[]⟩], .bool false]) (by simp [results, Try.results13, go_sem, hc_w1, hz_w1]) rfl ⟨rfl, ?_⟩
    exact (by repeat (first | exact Below.refl _ _ | refine Below.setCell ?_ (by first | (simp; done) | omega | (simp; omega)) _ | refine Below.alloc ?_ (by first | (simp; done) | omega | (simp; omega)) _ | refine Below.drew ?_ | refine Below.trans ?_ (Below.mono hb_w1 (by first | (simp; done) | omega | (simp; omega)))))

theorem implCrash_yes (a b : ByteArray) (k : Nat) (w : World) (h : (a.size : Int) + b.size ≤ 60000) (hk : k ≤ b.size) :
    Calls Try.prog 14 #[.agg #[.string a, .string b], .int .i64 k] w fun e w' => e = .returned (.tuple #[.agg #[.string (a ++ b.extract 0 k), .string ⟨#[]⟩], .bool true]) ∧ Below w.heap.size w w' := by
  have hd : decide ((a.size : Int) + b.size ≤ 60000) = true := by simp; omega
  go_enter Try.func14, Try.ntmps14
  go_wp2_with (first | (go_at_call 18; refine (isDisk_any a b _ (by omega)).mono ?_; rintro e w1 ⟨rfl, hb_w1⟩; obtain ⟨hc_w1, hf_w1⟩ := bcell hb_w1; have hz_w1 := hb_w1.size; (try simp at hz_w1); have hl_w1_0 : w.heap.size < w1.heap.size := (by omega); have hl_w1_1 : w.heap.size + 1 < w1.heap.size := (by omega)) | go_in)
  go_region
  go_wp2
  refine bodyPost_ret (v := .tuple #[.agg #[.string (a ++ b.extract 0 k), .string ⟨#[]⟩], .bool true]) (by simp [results, Try.results14, go_sem, hc_w1, hz_w1]) rfl ⟨rfl, ?_⟩
  exact (by repeat (first | exact Below.refl _ _ | refine Below.setCell ?_ (by first | (simp; done) | omega | (simp; omega)) _ | refine Below.alloc ?_ (by first | (simp; done) | omega | (simp; omega)) _ | refine Below.drew ?_ | refine Below.trans ?_ (Below.mono hb_w1 (by first | (simp; done) | omega | (simp; omega)))))

theorem implCrash_big (a b : ByteArray) (k : Int) (w : World) (h : 60000 < (a.size : Int) + b.size) (hs : (a.size : Int) + b.size ≤ 1048576) :
    Calls Try.prog 14 #[.agg #[.string a, .string b], .int .i64 k] w fun e w' => e = .returned (.tuple #[.agg #[.string ⟨#[]⟩, .string ⟨#[]⟩], .bool false]) ∧ Below w.heap.size w w' := by
  have hd : decide ((a.size : Int) + b.size ≤ 60000) = false := by simp; omega
  go_enter Try.func14, Try.ntmps14
  go_wp2_with (first | (go_at_call 18; refine (isDisk_any a b _ (by omega)).mono ?_; rintro e w1 ⟨rfl, hb_w1⟩; obtain ⟨hc_w1, hf_w1⟩ := bcell hb_w1; have hz_w1 := hb_w1.size; (try simp at hz_w1); have hl_w1_0 : w.heap.size < w1.heap.size := (by omega); have hl_w1_1 : w.heap.size + 1 < w1.heap.size := (by omega)) | go_in)
  refine bodyPost_ret (v := .tuple #[.agg #[.string ⟨#[]⟩, .string ⟨#[]⟩], .bool false]) (by simp [results, Try.results14, go_sem, hc_w1, hz_w1]) rfl ⟨rfl, ?_⟩
  exact (by repeat (first | exact Below.refl _ _ | refine Below.setCell ?_ (by first | (simp; done) | omega | (simp; omega)) _ | refine Below.alloc ?_ (by first | (simp; done) | omega | (simp; omega)) _ | refine Below.drew ?_ | refine Below.trans ?_ (Below.mono hb_w1 (by first | (simp; done) | omega | (simp; omega)))))

theorem implCrash_out (a b : ByteArray) (k : Int) (w : World) (h : (a.size : Int) + b.size ≤ 60000) (hk : k < 0 ∨ (b.size : Int) < k) :
    Calls Try.prog 14 #[.agg #[.string a, .string b], .int .i64 k] w fun e w' => e = .returned (.tuple #[.agg #[.string ⟨#[]⟩, .string ⟨#[]⟩], .bool false]) ∧ Below w.heap.size w w' := by
  have hd : decide ((a.size : Int) + b.size ≤ 60000) = true := by simp; omega
  by_cases h1 : k < 0
  · have hn : decide ((0 : Int) ≤ k) = false := by simp; omega
    go_enter Try.func14, Try.ntmps14
    go_wp2_with (first | (go_at_call 18; refine (isDisk_any a b _ (by omega)).mono ?_; rintro e w1 ⟨rfl, hb_w1⟩; obtain ⟨hc_w1, hf_w1⟩ := bcell hb_w1; have hz_w1 := hb_w1.size; (try simp at hz_w1); have hl_w1_0 : w.heap.size < w1.heap.size := (by omega); have hl_w1_1 : w.heap.size + 1 < w1.heap.size := (by omega)) | go_in)
    refine bodyPost_ret (v := .tuple #[.agg #[.string ⟨#[]⟩, .string ⟨#[]⟩], .bool false]) (by simp [results, Try.results14, go_sem, hc_w1, hz_w1]) rfl ⟨rfl, ?_⟩
    exact (by repeat (first | exact Below.refl _ _ | refine Below.setCell ?_ (by first | (simp; done) | omega | (simp; omega)) _ | refine Below.alloc ?_ (by first | (simp; done) | omega | (simp; omega)) _ | refine Below.drew ?_ | refine Below.trans ?_ (Below.mono hb_w1 (by first | (simp; done) | omega | (simp; omega)))))
  · have hp : decide ((0 : Int) ≤ k) = true := by simp; omega
    have hn : decide (k ≤ (b.size : Int)) = false := by simp; omega
    go_enter Try.func14, Try.ntmps14
    go_wp2_with (first | (go_at_call 18; refine (isDisk_any a b _ (by omega)).mono ?_; rintro e w1 ⟨rfl, hb_w1⟩; obtain ⟨hc_w1, hf_w1⟩ := bcell hb_w1; have hz_w1 := hb_w1.size; (try simp at hz_w1); have hl_w1_0 : w.heap.size < w1.heap.size := (by omega); have hl_w1_1 : w.heap.size + 1 < w1.heap.size := (by omega)) | go_in)
    refine bodyPost_ret (v := .tuple #[.agg #[.string ⟨#[]⟩, .string ⟨#[]⟩], .bool false]) (by simp [results, Try.results14, go_sem, hc_w1, hz_w1]) rfl ⟨rfl, ?_⟩
    exact (by repeat (first | exact Below.refl _ _ | refine Below.setCell ?_ (by first | (simp; done) | omega | (simp; omega)) _ | refine Below.alloc ?_ (by first | (simp; done) | omega | (simp; omega)) _ | refine Below.drew ?_ | refine Below.trans ?_ (Below.mono hb_w1 (by first | (simp; done) | omega | (simp; omega)))))

theorem crashDisk_walk (a : ByteArray) (b : ByteArray) (k : Int) (w : World) (ha : a.size ≤ maxLen) (hb : b.size ≤ maxLen) (_hk : -9223372036854775808 ≤ k ∧ k ≤ 9223372036854775807) :
    Calls Try.prog 5 #[.agg #[.string a, .string b], .int .i64 k] w fun e w' => e = .returned (.bool true) ∧ Below w.heap.size w w' := by
  by_cases hs : (a.size : Int) + b.size ≤ 1048576
  · by_cases h : (a.size : Int) + b.size ≤ 60000
    · by_cases hk : k < 0 ∨ (b.size : Int) < k
      · skip
        go_enter Try.func5, Try.ntmps5
        go_wp2_with fail
        (refine (szDisk_ok a b _ _ (by omega) (by omega)).mono ?_; rintro e w1 ⟨rfl, hb_w1⟩; obtain ⟨hc_w1, hf_w1⟩ := bcell hb_w1; have hz_w1 := hb_w1.size; (try simp at hz_w1); have hl_w1_0 : w.heap.size < w1.heap.size := (by omega)); go_wp2_with fail
        (refine (toDisk_any a b _).mono ?_; rintro e w2 ⟨rfl, hb_w2⟩; obtain ⟨hc_w2, hf_w2⟩ := bcell hb_w2; have hz_w2 := hb_w2.size; (try simp at hz_w2); have hl_w2_0 : w.heap.size < w2.heap.size := (by omega)); go_wp2_with fail
        (refine (specCrash_out a b _ _ h hk).mono ?_; rintro e w3 ⟨rfl, hb_w3⟩; obtain ⟨hc_w3, hf_w3⟩ := bcell hb_w3; have hz_w3 := hb_w3.size; (try simp at hz_w3); have hl_w3_0 : w.heap.size < w3.heap.size := (by omega)); go_wp2_with fail
        (refine (toDisk_any a b _).mono ?_; rintro e w4 ⟨rfl, hb_w4⟩; obtain ⟨hc_w4, hf_w4⟩ := bcell hb_w4; have hz_w4 := hb_w4.size; (try simp at hz_w4); have hl_w4_0 : w.heap.size < w4.heap.size := (by omega); have hl_w4_1 : w3.heap.size < w4.heap.size := (by omega)); go_wp2_with fail
        (refine (implCrash_out a b _ _ h hk).mono ?_; rintro e w5 ⟨rfl, hb_w5⟩; obtain ⟨hc_w5, hf_w5⟩ := bcell hb_w5; have hz_w5 := hb_w5.size; (try simp at hz_w5); have hl_w5_0 : w.heap.size < w5.heap.size := (by omega); have hl_w5_1 : w3.heap.size < w5.heap.size := (by omega)); go_wp2_with fail
        (refine (eqDisk_same _ _ _).mono ?_; rintro e w6 ⟨rfl, hb_w6⟩; obtain ⟨hc_w6, hf_w6⟩ := bcell hb_w6; have hz_w6 := hb_w6.size; (try simp at hz_w6); have hl_w6_0 : w.heap.size < w6.heap.size := (by omega); have hl_w6_1 : w3.heap.size < w6.heap.size := (by omega); have hl_w6_2 : w5.heap.size < w6.heap.size := (by omega)); go_wp2_with fail
        go_ret
        exact ⟨rfl, (by repeat (first | exact Below.refl _ _ | refine Below.setCell ?_ (by first | (simp; done) | omega | (simp; omega)) _ | refine Below.alloc ?_ (by first | (simp; done) | omega | (simp; omega)) _ | refine Below.drew ?_ | refine Below.trans ?_ (Below.mono hb_w1 (by first | (simp; done) | omega | (simp; omega))) | refine Below.trans ?_ (Below.mono hb_w2 (by first | (simp; done) | omega | (simp; omega))) | refine Below.trans ?_ (Below.mono hb_w3 (by first | (simp; done) | omega | (simp; omega))) | refine Below.trans ?_ (Below.mono hb_w4 (by first | (simp; done) | omega | (simp; omega))) | refine Below.trans ?_ (Below.mono hb_w5 (by first | (simp; done) | omega | (simp; omega))) | refine Below.trans ?_ (Below.mono hb_w6 (by first | (simp; done) | omega | (simp; omega)))))⟩
      · obtain ⟨n, rfl⟩ := Int.eq_ofNat_of_zero_le (show 0 ≤ k by omega)
        go_enter Try.func5, Try.ntmps5
        go_wp2_with fail
        (refine (szDisk_ok a b _ _ (by omega) (by omega)).mono ?_; rintro e w1 ⟨rfl, hb_w1⟩; obtain ⟨hc_w1, hf_w1⟩ := bcell hb_w1; have hz_w1 := hb_w1.size; (try simp at hz_w1); have hl_w1_0 : w.heap.size < w1.heap.size := (by omega)); go_wp2_with fail
        (refine (toDisk_any a b _).mono ?_; rintro e w2 ⟨rfl, hb_w2⟩; obtain ⟨hc_w2, hf_w2⟩ := bcell hb_w2; have hz_w2 := hb_w2.size; (try simp at hz_w2); have hl_w2_0 : w.heap.size < w2.heap.size := (by omega)); go_wp2_with fail
        (refine (specCrash_yes a b n _ h (by omega)).mono ?_; rintro e w3 ⟨rfl, hb_w3⟩; obtain ⟨hc_w3, hf_w3⟩ := bcell hb_w3; have hz_w3 := hb_w3.size; (try simp at hz_w3); have hl_w3_0 : w.heap.size < w3.heap.size := (by omega)); go_wp2_with fail
        (refine (toDisk_any a b _).mono ?_; rintro e w4 ⟨rfl, hb_w4⟩; obtain ⟨hc_w4, hf_w4⟩ := bcell hb_w4; have hz_w4 := hb_w4.size; (try simp at hz_w4); have hl_w4_0 : w.heap.size < w4.heap.size := (by omega); have hl_w4_1 : w3.heap.size < w4.heap.size := (by omega)); go_wp2_with fail
        (refine (implCrash_yes a b n _ h (by omega)).mono ?_; rintro e w5 ⟨rfl, hb_w5⟩; obtain ⟨hc_w5, hf_w5⟩ := bcell hb_w5; have hz_w5 := hb_w5.size; (try simp at hz_w5); have hl_w5_0 : w.heap.size < w5.heap.size := (by omega); have hl_w5_1 : w3.heap.size < w5.heap.size := (by omega)); go_wp2_with fail
        (refine (eqDisk_same _ _ _).mono ?_; rintro e w6 ⟨rfl, hb_w6⟩; obtain ⟨hc_w6, hf_w6⟩ := bcell hb_w6; have hz_w6 := hb_w6.size; (try simp at hz_w6); have hl_w6_0 : w.heap.size < w6.heap.size := (by omega); have hl_w6_1 : w3.heap.size < w6.heap.size := (by omega); have hl_w6_2 : w5.heap.size < w6.heap.size := (by omega)); go_wp2_with fail
        go_ret
        exact ⟨rfl, (by repeat (first | exact Below.refl _ _ | refine Below.setCell ?_ (by first | (simp; done) | omega | (simp; omega)) _ | refine Below.alloc ?_ (by first | (simp; done) | omega | (simp; omega)) _ | refine Below.drew ?_ | refine Below.trans ?_ (Below.mono hb_w1 (by first | (simp; done) | omega | (simp; omega))) | refine Below.trans ?_ (Below.mono hb_w2 (by first | (simp; done) | omega | (simp; omega))) | refine Below.trans ?_ (Below.mono hb_w3 (by first | (simp; done) | omega | (simp; omega))) | refine Below.trans ?_ (Below.mono hb_w4 (by first | (simp; done) | omega | (simp; omega))) | refine Below.trans ?_ (Below.mono hb_w5 (by first | (simp; done) | omega | (simp; omega))) | refine Below.trans ?_ (Below.mono hb_w6 (by first | (simp; done) | omega | (simp; omega)))))⟩
    · have hd : 60000 < (a.size : Int) + b.size := by omega
      go_enter Try.func5, Try.ntmps5
      go_wp2_with fail
      (refine (szDisk_ok a b _ _ (by omega) (by omega)).mono ?_; rintro e w1 ⟨rfl, hb_w1⟩; obtain ⟨hc_w1, hf_w1⟩ := bcell hb_w1; have hz_w1 := hb_w1.size; (try simp at hz_w1); have hl_w1_0 : w.heap.size < w1.heap.size := (by omega)); go_wp2_with fail
      (refine (toDisk_any a b _).mono ?_; rintro e w2 ⟨rfl, hb_w2⟩; obtain ⟨hc_w2, hf_w2⟩ := bcell hb_w2; have hz_w2 := hb_w2.size; (try simp at hz_w2); have hl_w2_0 : w.heap.size < w2.heap.size := (by omega)); go_wp2_with fail
      (refine (specCrash_big a b _ _ hd hs).mono ?_; rintro e w3 ⟨rfl, hb_w3⟩; obtain ⟨hc_w3, hf_w3⟩ := bcell hb_w3; have hz_w3 := hb_w3.size; (try simp at hz_w3); have hl_w3_0 : w.heap.size < w3.heap.size := (by omega)); go_wp2_with fail
      (refine (toDisk_any a b _).mono ?_; rintro e w4 ⟨rfl, hb_w4⟩; obtain ⟨hc_w4, hf_w4⟩ := bcell hb_w4; have hz_w4 := hb_w4.size; (try simp at hz_w4); have hl_w4_0 : w.heap.size < w4.heap.size := (by omega); have hl_w4_1 : w3.heap.size < w4.heap.size := (by omega)); go_wp2_with fail
      (refine (implCrash_big a b _ _ hd hs).mono ?_; rintro e w5 ⟨rfl, hb_w5⟩; obtain ⟨hc_w5, hf_w5⟩ := bcell hb_w5; have hz_w5 := hb_w5.size; (try simp at hz_w5); have hl_w5_0 : w.heap.size < w5.heap.size := (by omega); have hl_w5_1 : w3.heap.size < w5.heap.size := (by omega)); go_wp2_with fail
      (refine (eqDisk_same _ _ _).mono ?_; rintro e w6 ⟨rfl, hb_w6⟩; obtain ⟨hc_w6, hf_w6⟩ := bcell hb_w6; have hz_w6 := hb_w6.size; (try simp at hz_w6); have hl_w6_0 : w.heap.size < w6.heap.size := (by omega); have hl_w6_1 : w3.heap.size < w6.heap.size := (by omega); have hl_w6_2 : w5.heap.size < w6.heap.size := (by omega)); go_wp2_with fail
      go_ret
      exact ⟨rfl, (by repeat (first | exact Below.refl _ _ | refine Below.setCell ?_ (by first | (simp; done) | omega | (simp; omega)) _ | refine Below.alloc ?_ (by first | (simp; done) | omega | (simp; omega)) _ | refine Below.drew ?_ | refine Below.trans ?_ (Below.mono hb_w1 (by first | (simp; done) | omega | (simp; omega))) | refine Below.trans ?_ (Below.mono hb_w2 (by first | (simp; done) | omega | (simp; omega))) | refine Below.trans ?_ (Below.mono hb_w3 (by first | (simp; done) | omega | (simp; omega))) | refine Below.trans ?_ (Below.mono hb_w4 (by first | (simp; done) | omega | (simp; omega))) | refine Below.trans ?_ (Below.mono hb_w5 (by first | (simp; done) | omega | (simp; omega))) | refine Below.trans ?_ (Below.mono hb_w6 (by first | (simp; done) | omega | (simp; omega)))))⟩
  · go_enter Try.func5, Try.ntmps5
    go_wp2_with (go_at_call 8; refine (szDisk_no a b _ _ (by omega) (by omega) ha hb).mono ?_; rintro e w1 ⟨rfl, hb_w1⟩; obtain ⟨hc_w1, hf_w1⟩ := bcell hb_w1; have hz_w1 := hb_w1.size; (try simp at hz_w1))
    go_ret
    exact ⟨rfl, (by repeat (first | exact Below.refl _ _ | refine Below.setCell ?_ (by first | (simp; done) | omega | (simp; omega)) _ | refine Below.alloc ?_ (by first | (simp; done) | omega | (simp; omega)) _ | refine Below.drew ?_ | refine Below.trans ?_ (Below.mono hb_w1 (by first | (simp; done) | omega | (simp; omega)))))⟩
end Go.Proofs.Ytegnkfmjajaecaa
