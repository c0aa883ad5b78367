/- Vectors over a field: what it is that both sides call a vector; quiet calls inside a region that draws its order; condition: the numbers are small. -/
import Derived.Test.YtefolocdfgelcaaDoorNet1
namespace Go.Proofs.YtefolocdfgelcaaDoor
open Go.RowKit Go.Deep

theorem quiet_left {P : Program} {f : FuncId} {args : Array Value} {w : World} {n : Nat} {v : Value}
    (h : Calls P f args (w.drewN n) fun e w' => e = .returned v ∧ w.drewN n = w') : Calls P f args (w.drewN n) fun e w'' => e = .returned v ∧ ∃ m, w'' = w.drewN m :=
  h.mono fun _ _ ⟨he, hm⟩ => ⟨he, n, hm.symm⟩
theorem quiet_add_left {P : Program} {f : FuncId} {args : Array Value} {w : World} {a n : Nat} {v : Value}
    (h : Calls P f args (w.drewN (a + n)) fun e w' => e = .returned v ∧ w.drewN (a + n) = w') :
    Calls P f args (w.drewN (a + n)) fun e w'' => e = .returned v ∧ ∃ m, w'' = w.drewN (a + m) :=
  h.mono fun _ _ ⟨he, hm⟩ => ⟨he, n, hm.symm⟩

theorem fdIn_any {R : Nat → Prop} (p : Int) (xs : List Int) (A : Option Addr) (c : Nat) (l : List Addr) (w : World) (h : Sl R w .int A c xs l) (hp : 2 ≤ p ∧ p ≤ 97) :
    Calls Tryd.prog 46 #[.int .i64 p, .slice A xs.length c] w fun e w' => e = .returned (.bool (xs.all fun x => inR x 0 (p - 1))) ∧ w = w' := by
  go_enter Tryd.func46, Tryd.ntmps46
  go_wp2_with (go_at_call 86; refine (l1All_any xs _ _ l _ _ _ h).mono ?_; rintro e w_ ⟨rfl, rfl⟩)
  go_ret
  exact ⟨rfl, rfl⟩

/-- A list of n elements of the field. -/
def isVec (p : Int) (xs : List Int) (n : Int) : Bool := (xs.length : Int) == n && xs.all fun x => inR x 0 (p - 1)
theorem isVec_bd {p n : Int} {xs : List Int} (h : isVec p xs n = true) : (xs.length : Int) = n ∧ ∀ x ∈ xs, 0 ≤ x ∧ x < p := by
  simp only [isVec, Bool.and_eq_true, beq_iff_eq, List.all_eq_true, inR_true] at h
  exact ⟨h.1, fun x hx => by have := h.2 x hx; omega⟩

theorem isVector_any {R : Nat → Prop} (p : Int) (xs : List Int) (A : Option Addr) (c : Nat) (l : List Addr) (n : Int) (w : World) (h : Sl R w .int A c xs l) :
    Calls Tryd.prog 50 #[.int .i64 p, .slice A xs.length c, .int .i64 n] w fun e w' => e = .returned (.bool (isVec p xs n)) ∧ w = w' := by
  have hn := (sl_len h).2
  cases hl : ((xs.length : Int) == n)
  · have hl' : ((xs.length : Int) != n) = true := by simp [bne, hl]
    have HG := Lib.hid (show isVec p xs n = false by simp only [isVec, hl, Bool.false_and])
    go_enter Tryd.func50, Tryd.ntmps50
    go_wp2_with fail
    go_ret
    exact ⟨ret_bool HG.out.symm, rfl⟩
  · have hl' : ((xs.length : Int) != n) = false := by simp [bne, hl]
    have HG := Lib.hid (show isVec p xs n = xs.all fun x => inR x 0 (p - 1) by simp only [isVec, hl, Bool.true_and])
    go_enter Tryd.func50, Tryd.ntmps50
    go_wp2_with fail
    go_loop [6, 8, 15] (fun r _ i => r = .bool false ∧ ∃ k : Nat, k ≤ xs.length ∧ i = .int .i64 k ∧ (xs.drop k).all (fun x => inR x 0 (p - 1)) = xs.all fun x => inR x 0 (p - 1)) (fun _ _ i => xs.length - (intOf i).toNat)
    case atStart => exact ⟨rfl, 0, by omega, rfl, rfl⟩
    case round =>
      obtain ⟨rfl, k, hk, rfl, hG⟩ := hrel
      by_cases hlt : k < xs.length
      · obtain ⟨b, o, rfl, _, hcell⟩ := sl_int_at h hlt
        rw [List.drop_eq_getElem_cons hlt, List.all_cons] at hG
        obtain ⟨x, hx⟩ : ∃ x, x = xs[k] := ⟨_, rfl⟩
        rw [← hx] at hcell hG
        clear hx
        have H := Lib.hid hG
        clear hG
        cases hb : inR x 0 (p - 1)
        · go_wp2_with (go_at_call 95; refine (isElement_any _ _ _).mono ?_; rintro e w_ ⟨rfl, rfl⟩)
          go_ret
          have hG := H.out
          rw [hb, Bool.false_and] at hG
          exact ⟨ret_bool (by rw [HG.out]; exact hG), rfl⟩
        · go_wp2_with (go_at_call 95; refine (isElement_any _ _ _).mono ?_; rintro e w_ ⟨rfl, rfl⟩)
          go_round
          have hG := H.out
          rw [hb, Bool.true_and] at hG
          case rel => exact ⟨rfl, k + 1, by omega, by go_num, hG⟩
          case measure => simp [intOf]; omega
      · rw [List.drop_of_length_le (by omega)] at hG
        have H := Lib.hid hG
        clear hG
        go_wp2_with fail
        go_ret
        exact ⟨ret_bool (by rw [HG.out]; exact H.out), rfl⟩
end Go.Proofs.YtefolocdfgelcaaDoor
