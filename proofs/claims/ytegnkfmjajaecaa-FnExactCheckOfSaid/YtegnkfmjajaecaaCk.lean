/- The reference's and the program's check of a string return one number, the fold of its bytes; condition: the string is no longer than the model's greatest length. -/
import Derived.Test.YtegnkfmjajaecaaRows
import Derived.WalkKit
import Derived.WalkSpells
import Derived.WalkLawsBesides
import Derived.Lib.Hide
namespace Go.Proofs.Ytegnkfmjajaecaa
open Go.RowKit

theorem ret_int {k : IntKind} {a b : Int} (h : a = b) : Ending.returned (.int k a) = .returned (.int k b) := by rw [h]

def chk (l : List UInt8) : Int := l.foldl (fun n b => (131 * n + (b.toNat : Int) + 1) % 65521) 7
theorem chk_snoc (l : List UInt8) (b : UInt8) : chk (l ++ [b]) = (131 * chk l + (b.toNat : Int) + 1) % 65521 := by
  simp [chk, List.foldl_append]
theorem chk_bd (l : List UInt8) : 0 ≤ chk l ∧ chk l < 65521 := by
  unfold chk
  suffices h : ∀ (n : Int), 0 ≤ n ∧ n < 65521 → 0 ≤ l.foldl (fun n b => (131 * n + (b.toNat : Int) + 1) % 65521) n ∧ l.foldl (fun n b => (131 * n + (b.toNat : Int) + 1) % 65521) n < 65521 from h 7 (by omega)
  induction l with
  | nil => intro n h; simpa using h
  | cons b l ih => intro n h; exact ih _ (by dsimp only; omega)
theorem take_snoc (s : ByteArray) (k : Nat) (h : k < s.size) : s.data.toList.take (k + 1) = s.data.toList.take k ++ [s[k]] := by
  rw [List.take_succ_eq_append_getElem (by simpa using h)]; rfl

set_option maxHeartbeats 400000 in
theorem joCheck_any (s : ByteArray) (w : World) (hs : s.size ≤ maxLen) :
    Calls Try.prog 15 #[.string s] w fun e w' => e = .returned (.int .i64 (chk s.data.toList)) ∧ w' = w := by
  unfold maxLen at hs
  go_enter Try.func15, Try.ntmps15
  go_wp2
  go_loop [3, 4] (fun n i => ∃ k : Nat, k ≤ s.size ∧ i = .int .i64 k ∧ n = .int .i64 (chk (s.data.toList.take k))) (fun _ i => s.size - (intOf i).toNat)
  case atStart => exact ⟨0, Nat.zero_le _, rfl, rfl⟩
  case round =>
    obtain ⟨k, hk, rfl, rfl⟩ := hrel
    have hd := chk_bd (s.data.toList.take k)
    by_cases hlt : k < s.size
    · have hb : s[k].toNat < 256 := UInt8.toNat_lt _
      have hsn := Lib.hid ((congrArg chk (take_snoc s k hlt)).trans (chk_snoc _ _))
      go_wp2
      go_round
      case rel => exact ⟨k + 1, by omega, by go_num, by rw [hsn.out]⟩
      case measure => simp [intOf]; omega
    · go_wp2
      go_ret
      exact ⟨ret_int (by rw [List.take_of_length_le (by simp; omega)]), rfl⟩

set_option maxHeartbeats 400000 in
theorem checkOf_any (s : ByteArray) (w : World) (hs : s.size ≤ maxLen) :
    Calls Try.prog 16 #[.string s] w fun e w' => e = .returned (.int .i64 (chk s.data.toList)) ∧ w' = w := by
  unfold maxLen at hs
  go_enter Try.func16, Try.ntmps16
  go_wp2
  go_loop [3, 7] (fun n i => ∃ k : Nat, k ≤ s.size ∧ i = .int .i64 k ∧ n = .int .i64 (chk (s.data.toList.take k))) (fun _ i => s.size - (intOf i).toNat)
  case atStart => exact ⟨0, Nat.zero_le _, rfl, rfl⟩
  case round =>
    obtain ⟨k, hk, rfl, rfl⟩ := hrel
    have hd := chk_bd (s.data.toList.take k)
    by_cases hlt : k < s.size
    · have hb : s[k].toNat < 256 := UInt8.toNat_lt _
      have hsn := Lib.hid ((congrArg chk (take_snoc s k hlt)).trans (chk_snoc _ _))
      go_wp2
      go_round
      case rel => exact ⟨k + 1, by omega, by go_num, by rw [hsn.out]⟩
      case measure => simp [intOf]; omega
    · go_wp2
      go_ret
      exact ⟨ret_int (by rw [List.take_of_length_le (by simp; omega)]), rfl⟩

end Go.Proofs.Ytegnkfmjajaecaa
