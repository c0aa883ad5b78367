/- What the functions of disks return: sizes, copies, comparisons, the two syncs and the two crashes; condition: the two texts together hold at most 1048576 bytes. -/
import Derived.Test.YtegnkfmjajaecaaKeep
import Derived.WalkSpells
import Derived.WalkLawsBesides
namespace Go.Proofs.Ytegnkfmjajaecaa
open Go.RowKit

theorem szDisk_ok (a b : ByteArray) (left : Int) (w : World) (h : (a.size : Int) + b.size ≤ left) (hl : left ≤ 1048576) :
    Calls Try.prog 8 #[.agg #[.string a, .string b], .int .i64 left] w fun e w' => e = .returned (.int .i64 (left - a.size - b.size)) ∧ Below w.heap.size w w' := by
  go_enter Try.func8, Try.ntmps8
  go_wp2
  go_ret
  exact ⟨rfl, (by repeat (first | exact Below.refl _ _ | refine Below.setCell ?_ (by first | (simp; done) | omega | (simp; omega)) _ | refine Below.alloc ?_ (by first | (simp; done) | omega | (simp; omega)) _ | refine Below.drew ?_))⟩

theorem szDisk_no (a b : ByteArray) (left : Int) (w : World) (h : left < (a.size : Int) + b.size) (h0 : 0 ≤ left) (ha : a.size ≤ maxLen) (hb : b.size ≤ maxLen) :
    Calls Try.prog 8 #[.agg #[.string a, .string b], .int .i64 left] w fun e w' => e = .returned (.int .i64 (-1)) ∧ Below w.heap.size w w' := by
  unfold maxLen at ha hb
  by_cases h1 : left < a.size
  all_goals
    go_enter Try.func8, Try.ntmps8
    go_wp2
    go_ret
    exact ⟨rfl, (by repeat (first | exact Below.refl _ _ | refine Below.setCell ?_ (by first | (simp; done) | omega | (simp; omega)) _ | refine Below.alloc ?_ (by first | (simp; done) | omega | (simp; omega)) _ | refine Below.drew ?_))⟩

theorem toDisk_any (a b : ByteArray) (w : World) :
    Calls Try.prog 10 #[.agg #[.string a, .string b]] w fun e w' => e = .returned (.agg #[.string a, .string b]) ∧ Below w.heap.size w w' := by
  go_enter Try.func10, Try.ntmps10
  go_wp2
  refine bodyPost_ret (v := .agg #[.string a, .string b]) (by simp [results, Try.results10, go_sem]) rfl ⟨rfl, ?_⟩
  exact (by repeat (first | exact Below.refl _ _ | refine Below.setCell ?_ (by first | (simp; done) | omega | (simp; omega)) _ | refine Below.alloc ?_ (by first | (simp; done) | omega | (simp; omega)) _ | refine Below.drew ?_))

theorem eqDisk_same (a b : ByteArray) (w : World) :
    Calls Try.prog 12 #[.agg #[.string a, .string b], .agg #[.string a, .string b]] w fun e w' => e = .returned (.bool true) ∧ Below w.heap.size w w' := by
  go_enter Try.func12, Try.ntmps12
  go_wp2
  go_ret
  exact ⟨rfl, (by repeat (first | exact Below.refl _ _ | refine Below.setCell ?_ (by first | (simp; done) | omega | (simp; omega)) _ | refine Below.alloc ?_ (by first | (simp; done) | omega | (simp; omega)) _ | refine Below.drew ?_))⟩

theorem joValid_any (a b : ByteArray) (w : World) (hs : (a.size : Int) + b.size ≤ 1048576) :
    Calls Try.prog 17 #[.agg #[.string a, .string b]] w fun e w' => e = .returned (.bool (decide ((a.size : Int) + b.size ≤ 60000))) ∧ Below w.heap.size w w' := by
  by_cases h1 : (60000 : Int) < a.size
  · have h2 : decide ((a.size : Int) ≤ 60000) = false := by simp; omega
    go_enter Try.func17, Try.ntmps17
    go_wp2
    go_ret
    exact ⟨ret_bool (by simp; omega), (by repeat (first | exact Below.refl _ _ | refine Below.setCell ?_ (by first | (simp; done) | omega | (simp; omega)) _ | refine Below.alloc ?_ (by first | (simp; done) | omega | (simp; omega)) _ | refine Below.drew ?_))⟩
  · go_enter Try.func17, Try.ntmps17
    go_wp2
    go_ret
    exact ⟨ret_bool (by simp; omega), (by repeat (first | exact Below.refl _ _ | refine Below.setCell ?_ (by first | (simp; done) | omega | (simp; omega)) _ | refine Below.alloc ?_ (by first | (simp; done) | omega | (simp; omega)) _ | refine Below.drew ?_))⟩

theorem isDisk_any (a b : ByteArray) (w : World) (hs : (a.size : Int) + b.size ≤ 1048576) :
    Calls Try.prog 18 #[.agg #[.string a, .string b]] w fun e w' => e = .returned (.bool (decide ((a.size : Int) + b.size ≤ 60000))) ∧ Below w.heap.size w w' := by
  go_enter Try.func18, Try.ntmps18
  go_wp2
  go_ret
  exact ⟨ret_bool (by simp), (by repeat (first | exact Below.refl _ _ | refine Below.setCell ?_ (by first | (simp; done) | omega | (simp; omega)) _ | refine Below.alloc ?_ (by first | (simp; done) | omega | (simp; omega)) _ | refine Below.drew ?_))⟩

theorem specSync_yes (a b : ByteArray) (w : World) (h : (a.size : Int) + b.size ≤ 60000) :
    Calls Try.prog 9 #[.agg #[.string a, .string b]] w fun e w' => e = .returned (.tuple #[.agg #[.string (a ++ b), .string ⟨#[]⟩], .bool true]) ∧ Below w.heap.size w w' := by
  go_enter Try.func9, Try.ntmps9
  go_wp2_with (go_at_call 17; refine (joValid_any a b _ (by omega)).mono ?_; rintro e w1 ⟨rfl, hb_w1⟩; obtain ⟨hc_w1, hf_w1⟩ := bcell hb_w1; have hz_w1 := hb_w1.size; simp at hz_w1)
  refine bodyPost_ret (v := .tuple #[.agg #[.string (a ++ b), .string ⟨#[]⟩], .bool true]) (by simp [results, Try.results9, go_sem, hc_w1, hz_w1]) rfl ⟨rfl, ?_⟩
  exact (by repeat (first | exact Below.refl _ _ | refine Below.setCell ?_ (by first | (simp; done) | omega | (simp; omega)) _ | refine Below.alloc ?_ (by first | (simp; done) | omega | (simp; omega)) _ | refine Below.drew ?_ | refine Below.trans ?_ (Below.mono hb_w1 (by first | (simp; done) | omega | (simp; omega)))))

theorem specSync_no (a b : ByteArray) (w : World) (h : 60000 < (a.size : Int) + b.size) (hs : (a.size : Int) + b.size ≤ 1048576) :
    Calls Try.prog 9 #[.agg #[.string a, .string b]] w fun e w' => e = .returned (.tuple #[.agg #[.string ⟨#[]⟩, .string ⟨#[]⟩], .bool false]) ∧ Below w.heap.size w w' := by
  have hd : decide ((a.size : Int) + b.size ≤ 60000) = false := by simp; omega
  go_enter Try.func9, Try.ntmps9
  go_wp2_with (go_at_call 17; refine (joValid_any a b _ (by omega)).mono ?_; rintro e w1 ⟨rfl, hb_w1⟩; obtain ⟨hc_w1, hf_w1⟩ := bcell hb_w1; have hz_w1 := hb_w1.size; simp at hz_w1)
  refine bodyPost_ret (v := .tuple #[.agg #[.string ⟨#[]⟩, .string ⟨#[]⟩], .bool false]) (by simp [results, Try.results9, go_sem, hc_w1, hz_w1]) rfl ⟨rfl, ?_⟩
  exact (by repeat (first | exact Below.refl _ _ | refine Below.setCell ?_ (by first | (simp; done) | omega | (simp; omega)) _ | refine Below.alloc ?_ (by first | (simp; done) | omega | (simp; omega)) _ | refine Below.drew ?_ | refine Below.trans ?_ (Below.mono hb_w1 (by first | (simp; done) | omega | (simp; omega)))))

theorem implSync_yes (a b : ByteArray) (w : World) (h : (a.size : Int) + b.size ≤ 60000) :
    Calls Try.prog 11 #[.agg #[.string a, .string b]] w fun e w' => e = .returned (.tuple #[.agg #[.string (a ++ b), .string ⟨#[]⟩], .bool true]) ∧ Below w.heap.size w w' := by
  go_enter Try.func11, Try.ntmps11
  go_wp2_with (go_at_call 18; refine (isDisk_any a b _ (by omega)).mono ?_; rintro e w1 ⟨rfl, hb_w1⟩; obtain ⟨hc_w1, hf_w1⟩ := bcell hb_w1; have hz_w1 := hb_w1.size; simp at hz_w1)
  refine bodyPost_ret (v := .tuple #[.agg #[.string (a ++ b), .string ⟨#[]⟩], .bool true]) (by simp [results, Try.results11, go_sem, hc_w1, hz_w1]) rfl ⟨rfl, ?_⟩
  exact (by repeat (first | exact Below.refl _ _ | refine Below.setCell ?_ (by first | (simp; done) | omega | (simp; omega)) _ | refine Below.alloc ?_ (by first | (simp; done) | omega | (simp; omega)) _ | refine Below.drew ?_ | refine Below.trans ?_ (Below.mono hb_w1 (by first | (simp; done) | omega | (simp; omega)))))

theorem implSync_no (a b : ByteArray) (w : World) (h : 60000 < (a.size : Int) + b.size) (hs : (a.size : Int) + b.size ≤ 1048576) :
    Calls Try.prog 11 #[.agg #[.string a, .string b]] w fun e w' => e = .returned (.tuple #[.agg #[.string ⟨#[]⟩, .string ⟨#[]⟩], .bool false]) ∧ Below w.heap.size w w' := by
  have hd : decide ((a.size : Int) + b.size ≤ 60000) = false := by simp; omega
  go_enter Try.func11, Try.ntmps11
  go_wp2_with (go_at_call 18; refine (isDisk_any a b _ (by omega)).mono ?_; rintro e w1 ⟨rfl, hb_w1⟩; obtain ⟨hc_w1, hf_w1⟩ := bcell hb_w1; have hz_w1 := hb_w1.size; simp at hz_w1)
  refine bodyPost_ret (v := .tuple #[.agg #[.string ⟨#[]⟩, .string ⟨#[]⟩], .bool false]) (by simp [results, Try.results11, go_sem, hc_w1, hz_w1]) rfl ⟨rfl, ?_⟩
  exact (by repeat (first | exact Below.refl _ _ | refine Below.setCell ?_ (by first | (simp; done) | omega | (simp; omega)) _ | refine Below.alloc ?_ (by first | (simp; done) | omega | (simp; omega)) _ | refine Below.drew ?_ | refine Below.trans ?_ (Below.mono hb_w1 (by first | (simp; done) | omega | (simp; omega)))))
end Go.Proofs.Ytegnkfmjajaecaa
