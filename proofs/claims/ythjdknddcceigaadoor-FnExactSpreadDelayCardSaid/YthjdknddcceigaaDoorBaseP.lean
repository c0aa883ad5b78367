/- What the partial functions of numbers and lists of numbers come to; no condition. -/
import Derived.Test.YthjdknddcceigaaDoorB0
import Derived.Test.YthjdknddcceigaaDoorL2
namespace Go.Proofs.YthjdknddcceigaaDoor

theorem any_notP {α : Type} (q : α → Bool) (l : List α) : (!l.any fun x => !q x) = l.all q := by
  induction l with
  | nil => rfl
  | cons x l ih => simp only [List.any_cons, List.all_cons, Bool.not_or, Bool.not_not, ih]
theorem seq_all (b : Bool) : seqC (some (if b then Ctl.next () else Ctl.out false)) (fun _ : Unit => some true) = some b := by cases b <;> rfl
theorem seq_any (b : Bool) : seqC (some (if b then Ctl.out true else Ctl.next ())) (fun _ : Unit => some false) = some b := by cases b <;> rfl
/-- A loop that looks for an element and tells whether there is one. -/
theorem loopM_has {α : Type} {body : Nat → Option (Ctl Nat (Ctl Unit Bool))} (xs : List α) (q : α → Bool) (hn : xs.length < 4611686018427387904) (hs : ∀ i x, xs[i]? = some x → body i = some (if q x then .out (.out true) else .next (i + 1))) (he : body xs.length = some (.out (.next ()))) :
    seqC (loopM body 4611686018427387904 0) (fun _ : Unit => some false) = some (xs.any q) := by
  rcases loopM_any xs q (Ctl.next ()) (fun _ => Ctl.out true) (F := 4611686018427387904) hn hs he with ⟨h1, _, _, h2⟩ | ⟨h1, h2⟩ <;> rw [h2, h1] <;> rfl
theorem P_l1In (x lo hi : Int) : L_spec_l1In x lo hi = some (inR x lo hi) := by
  unfold L_spec_l1In inR
  by_cases h : lo ≤ x <;> simp [h]
theorem P_within (x lo hi : Int) : L_impl_within x lo hi = some (inR x lo hi) := by
  unfold L_impl_within inR
  by_cases h : lo ≤ x <;> simp [h]
theorem P_l1All (xs : List Int) (lo hi : Int) (hx : xs.length ≤ 1099511627776) : L_spec_l1All xs lo hi = some (xs.all fun x => inR x lo hi) := by
  unfold L_spec_l1All
  rw [loopM_all xs (fun x => inR x lo hi) (.next ()) (.out false) (by omega) (fun i x h => ?_) ?_, seq_all]
  · unfold L_spec_l1All_l1
    rw [dec_f (by omega), cond_false]
  · have := getN_lt h
    unfold L_spec_l1All_l1
    rw [dec_t (by omega), cond_true, h, Option.bind_some, P_l1In, Option.bind_some, og_true (by omega)]
    cases inR x lo hi <;> rfl
theorem P_areBelow (xs : List Int) (n : Int) (hn : -1000000000 ≤ n ∧ n ≤ 1000000000) (hx : xs.length ≤ 1099511627776) : L_impl_areBelow xs n = some (xs.all fun x => inR x 0 (n - 1)) := by
  unfold L_impl_areBelow
  rw [loopM_all xs (fun x => inR x 0 (n - 1)) (.next ()) (.out false) (by omega) (fun i x h => ?_) ?_, seq_all]
  · unfold L_impl_areBelow_l1
    rw [dec_f (by omega), cond_false]
  · have := getN_lt h
    unfold L_impl_areBelow_l1
    rw [dec_t (by omega), cond_true, h, Option.bind_some, i64_lt (by omega) (by omega), P_within, Option.bind_some, og_true (by omega)]
    cases inR x 0 (n - 1) <;> rfl
theorem isF_out {p : Int} (h : inR p 2 97 = false) : isF p = false := by rcases inR_false.1 h with h | h <;> simp [isF] <;> omega
theorem P_fdGood (p : Int) : L_spec_fdGood p = some (isF p) := by
  unfold L_spec_fdGood
  rw [P_l1In, Option.bind_some]
  cases hr : inR p 2 97
  · rw [isF_out hr]; rfl
  rw [Bool.not_true, cond_false]
  obtain ⟨h1, h2⟩ := inR_true.1 hr
  obtain ⟨n, rfl⟩ := Int.eq_ofNat_of_zero_le (show 0 ≤ p by omega)
  have h : loopM (fun s_ : Nat => L_spec_fdGood_l1 n s_) 4611686018427387904 2 = some (if isF n then .next () else .out false) := by
    refine loopM_eq 8 (fun i s => s = i + 2 ∧ noDiv n s = true) (by omega) _ ⟨rfl, by simp [noDiv, List.range_succ]⟩ ?_ ?_
    · rintro i s hi ⟨hs, hd⟩
      unfold L_spec_fdGood_l1
      have hm : ((s : Int) * (s : Int)) = ((s * s : Nat) : Int) := by simp
      have hss : s * s ≤ 9 * 9 := Nat.mul_le_mul (by omega) (by omega)
      rw [hm, i64_lt (by omega) (by omega)]
      by_cases hle : s * s ≤ n
      · rw [dec_t (by omega), cond_true, og_true (by omega), show Int.tmod (n : Int) (s : Int) = ((n % s : Nat) : Int) from by rw [Int.tmod_eq_emod_of_nonneg (by omega)]; rfl]
        by_cases h0 : n % s = 0
        · refine .inr ?_
          rw [h0, div_isF n (by omega) s (by omega) (by omega) hle h0]; rfl
        · refine .inl ⟨s + 1, ?_, by omega, noDiv_succ hd h0⟩
          rw [show (((n % s : Nat) : Int) == 0) = false from by rw [beq_eq_false_iff_ne]; omega, cond_false, og_true (by omega)]
      · refine .inr ?_
        rw [dec_f (by omega), cond_false, noDiv_isF n (by omega) (by omega) s (by omega) hd (by omega)]; rfl
    · rintro s ⟨hs, hd⟩
      obtain rfl : s = 10 := by omega
      unfold L_spec_fdGood_l1
      rw [show IntKind.i64.wrap (((10 : Nat) : Int) * ((10 : Nat) : Int)) = 100 from i64_lt (by omega) (by omega), dec_f (by omega), cond_false, noDiv_isF n (by omega) (by omega) 10 (by omega) hd (by omega)]; rfl
  rw [h, seq_all]
theorem P_isElement (p x : Int) : L_impl_isElement p x = some (inR x 0 (p - 1)) := by
  unfold L_impl_isElement inR
  by_cases h : 0 ≤ x
  · simp [h, show (x < p ↔ x ≤ p - 1) by omega]
  · simp [h]
theorem P_fdIn (p : Int) (xs : List Int) (hp : 2 ≤ p ∧ p ≤ 97) (hx : xs.length ≤ 1099511627776) : L_spec_fdIn p xs = some (xs.all fun x => inR x 0 (p - 1)) := by
  unfold L_spec_fdIn
  rw [i64_lt (by omega) (by omega), P_l1All _ _ _ hx]; rfl
theorem P_isVector (p : Int) (xs : List Int) (n : Int) (hx : xs.length ≤ 1099511627776) : L_impl_isVector p xs n = some (((xs.length : Nat) : Int) == n && xs.all fun x => inR x 0 (p - 1)) := by
  unfold L_impl_isVector
  cases hn : ((xs.length : Nat) : Int) == n
  · rw [show (((xs.length : Nat) : Int) != n) = true by simp only [bne, hn, Bool.not_false]]; rfl
  rw [show (((xs.length : Nat) : Int) != n) = false by simp only [bne, hn, Bool.not_true], cond_false]
  rw [loopM_all xs (fun x => inR x 0 (p - 1)) (.next ()) (.out false) (by omega) (fun i x h => ?_) ?_, seq_all, Bool.true_and]
  · unfold L_impl_isVector_l1
    rw [dec_f (by omega), cond_false]
  · have := getN_lt h
    unfold L_impl_isVector_l1
    rw [dec_t (by omega), cond_true, h, Option.bind_some, P_isElement, Option.bind_some, og_true (by omega)]
    cases inR x 0 (p - 1) <;> rfl
theorem P_mod {p x : Int} (hp : 2 ≤ p ∧ p ≤ 97) : L_impl_mod p x = some (x % p) := by
  unfold L_impl_mod
  rw [og_true (by omega)]
  have e1 : x.tmod p = if 0 ≤ x ∨ x % p = 0 then x % p else x % p - p := by
    simp only [Int.tmod_eq_emod, Int.dvd_iff_emod_eq_zero]
    split <;> simp <;> omega
  have h1 := Int.emod_nonneg x (show p ≠ 0 by omega)
  have h2 := Int.emod_lt_of_pos x (show 0 < p by omega)
  by_cases h : x.tmod p < 0
  · rw [dec_t h, cond_true, Option.bind_some, i64_lt (by omega) (by omega)]
    congr 1
    split at e1 <;> omega
  · rw [dec_f h, cond_false, Option.bind_some]
    congr 1
    split at e1 <;> omega
theorem P_zeros {n : Int} (h : 0 ≤ n ∧ n ≤ 1000000) : L_impl_zeros n = some (List.replicate n.toNat 0) := by
  unfold L_impl_zeros
  rw [og_true (by omega)]
theorem P_clone (xs : List Int) (h : xs.length ≤ 1000000) : L_impl_clone xs = some xs := by
  unfold L_impl_clone
  rw [og_true (by omega)]
theorem P_l1Own (xs : List Int) (h : xs.length ≤ 1000000) : L_spec_l1Own xs = some xs := by
  unfold L_spec_l1Own
  rw [og_true (by omega)]
theorem P_fdAdd {p x y : Int} (hp : 2 ≤ p ∧ p ≤ 97) (hx : 0 ≤ x ∧ x < p) (hy : 0 ≤ y ∧ y < p) : L_spec_fdAdd p x y = some ((x + y) % p) := by
  unfold L_spec_fdAdd
  rw [og_true (by omega), i64_lt (by omega) (by omega), Int.tmod_eq_emod_of_nonneg (by omega)]
theorem mul_bd {p x y : Int} (hp : 2 ≤ p ∧ p ≤ 97) (hx : 0 ≤ x ∧ x < p) (hy : 0 ≤ y ∧ y < p) : 0 ≤ x * y ∧ x * y ≤ 10000 := by
  refine ⟨Int.mul_nonneg hx.1 hy.1, ?_⟩
  have h1 : x * y ≤ 97 * y := Int.mul_le_mul_of_nonneg_right (by omega) hy.1
  omega
theorem P_fdMul {p x y : Int} (hp : 2 ≤ p ∧ p ≤ 97) (hx : 0 ≤ x ∧ x < p) (hy : 0 ≤ y ∧ y < p) : L_spec_fdMul p x y = some ((x * y) % p) := by
  have := mul_bd hp hx hy
  unfold L_spec_fdMul
  rw [og_true (by omega), i64_lt (by omega) (by omega), Int.tmod_eq_emod_of_nonneg (by omega)]
end Go.Proofs.YthjdknddcceigaaDoor
