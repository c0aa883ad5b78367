/- Which networks are good: what the partial functions come to; no condition. -/
import Derived.Test.YtefolocdfgelcaaDoorNB
import Derived.Test.YtefolocdfgelcaaDoorL2
namespace Go.Proofs.YtefolocdfgelcaaDoor

def isBrP (p nodes : Int) (e : Int × Int × Int) : Bool := inR e.1 0 (nodes - 1) && (inR e.2.1 0 (nodes - 1) && (e.1 != e.2.1 && inR e.2.2 1 (p - 1)))
def goodP (p n : Int) (bs : List (Int × Int × Int)) (l r : List Int) : Bool :=
  isF p && (inR n 1 20 && (decide (bs.length ≤ 60) && (decide (l.length ≤ 6) && (decide (r.length ≤ 6) && ((l.all fun x => inR x 0 (n - 1)) && ((r.all fun x => inR x 0 (n - 1)) && bs.all (isBrP p n)))))))
structure GoodN (p n : Int) (bs : List (Int × Int × Int)) (l r : List Int) : Prop where
  fp : isF p = true
  n1 : 1 ≤ n
  n2 : n ≤ 20
  lb : bs.length ≤ 60
  ll : l.length ≤ 6
  lr : r.length ≤ 6
  il : ∀ x ∈ l, 0 ≤ x ∧ x < n
  ir : ∀ x ∈ r, 0 ≤ x ∧ x < n
  ib : ∀ e ∈ bs, (0 ≤ e.1 ∧ e.1 < n) ∧ (0 ≤ e.2.1 ∧ e.2.1 < n) ∧ e.1 ≠ e.2.1 ∧ 1 ≤ e.2.2 ∧ e.2.2 < p
theorem goodP_iff {p n : Int} {bs : List (Int × Int × Int)} {l r : List Int} : goodP p n bs l r = true ↔ GoodN p n bs l r := by
  simp only [goodP, isBrP, Bool.and_eq_true, decide_eq_true_eq, List.all_eq_true, inR_true, bne_iff_ne, ne_eq]
  constructor
  · rintro ⟨h1, ⟨h2, h3⟩, h4, h5, h6, h7, h8, h9⟩
    refine ⟨h1, h2, h3, h4, h5, h6, fun x hx => ?_, fun x hx => ?_, fun e he => ?_⟩
    · have := h7 x hx; omega
    · have := h8 x hx; omega
    · obtain ⟨a, b, c, d⟩ := h9 e he
      exact ⟨by omega, by omega, c, by omega⟩
  · intro h
    refine ⟨h.fp, ⟨h.n1, h.n2⟩, h.lb, h.ll, h.lr, fun x hx => ?_, fun x hx => ?_, fun e he => ?_⟩
    · have := h.il x hx; omega
    · have := h.ir x hx; omega
    · obtain ⟨a, b, c, d⟩ := h.ib e he
      exact ⟨by omega, by omega, c, by omega⟩
theorem P_l1In (x lo hi : Int) : L_spec_l1In x lo hi = some (inR x lo hi) := by
  unfold L_spec_l1In inR
  by_cases h : lo ≤ x <;> simp [h]
theorem P_within (x lo hi : Int) : L_impl_within x lo hi = some (inR x lo hi) := by
  unfold L_impl_within inR
  by_cases h : lo ≤ x <;> simp [h]
theorem seq_all (b : Bool) : seqC (some (if b then Ctl.next () else Ctl.out false)) (fun _ : Unit => some true) = some b := by cases b <;> rfl
theorem P_l1All (xs : List Int) (lo hi : Int) (hx : xs.length ≤ 1099511627776) : L_spec_l1All xs lo hi = some (xs.all fun x => inR x lo hi) := by
  unfold L_spec_l1All
  rw [loopM_all xs (fun x => inR x lo hi) (.next ()) (.out false) (by omega) (fun i x h => ?_) ?_, seq_all]
  · unfold L_spec_l1All_l1
    rw [dec_f (by omega), cond_false]
  · have := getN_lt h
    unfold L_spec_l1All_l1
    rw [dec_t (by omega), cond_true, h, Option.bind_some, P_l1In, Option.bind_some, og_true (by omega)]
    cases inR x lo hi <;> rfl
theorem P_areBelow (xs : List Int) (n : Int) (hn : -1000000000 ≤ n ∧ n ≤ 1000000000) (hx : xs.length ≤ 1099511627776) : L_impl_areBelow xs n = some (xs.all fun x => inR x 0 (n - 1)) := by
  unfold L_impl_areBelow
  rw [loopM_all xs (fun x => inR x 0 (n - 1)) (.next ()) (.out false) (by omega) (fun i x h => ?_) ?_, seq_all]
  · unfold L_impl_areBelow_l1
    rw [dec_f (by omega), cond_false]
  · have := getN_lt h
    unfold L_impl_areBelow_l1
    rw [dec_t (by omega), cond_true, h, Option.bind_some, i64_lt (by omega) (by omega), P_within, Option.bind_some, og_true (by omega)]
    cases inR x 0 (n - 1) <;> rfl
theorem isF_out {p : Int} (h : inR p 2 97 = false) : isF p = false := by rcases inR_false.1 h with h | h <;> simp [isF] <;> omega
theorem P_fdGood (p : Int) : L_spec_fdGood p = some (isF p) := by
  unfold L_spec_fdGood
  rw [P_l1In, Option.bind_some]
  cases hr : inR p 2 97
  · rw [isF_out hr]; rfl
  rw [Bool.not_true, cond_false]
  obtain ⟨h1, h2⟩ := inR_true.1 hr
  obtain ⟨n, rfl⟩ := Int.eq_ofNat_of_zero_le (show 0 ≤ p by omega)
  have h : loopM (fun s_ : Nat => L_spec_fdGood_l1 n s_) 4611686018427387904 2 = some (if isF n then .next () else .out false) := by
    refine loopM_eq 8 (fun i s => s = i + 2 ∧ noDiv n s = true) (by omega) _ ⟨rfl, by simp [noDiv, List.range_succ]⟩ ?_ ?_
    · rintro i s hi ⟨hs, hd⟩
      unfold L_spec_fdGood_l1
      have hm : ((s : Int) * (s : Int)) = ((s * s : Nat) : Int) := by simp
      have hss : s * s ≤ 9 * 9 := Nat.mul_le_mul (by omega) (by omega)
      rw [hm, i64_lt (by omega) (by omega)]
      by_cases hle : s * s ≤ n
      · rw [dec_t (by omega), cond_true, og_true (by omega), show Int.tmod (n : Int) (s : Int) = ((n % s : Nat) : Int) from by rw [Int.tmod_eq_emod_of_nonneg (by omega)]; rfl]
        by_cases h0 : n % s = 0
        · refine .inr ?_
          rw [h0, div_isF n (by omega) s (by omega) (by omega) hle h0]; rfl
        · refine .inl ⟨s + 1, ?_, by omega, noDiv_succ hd h0⟩
          rw [show (((n % s : Nat) : Int) == 0) = false from by rw [beq_eq_false_iff_ne]; omega, cond_false, og_true (by omega)]
      · refine .inr ?_
        rw [dec_f (by omega), cond_false, noDiv_isF n (by omega) (by omega) s (by omega) hd (by omega)]; rfl
    · rintro s ⟨hs, hd⟩
      obtain rfl : s = 10 := by omega
      unfold L_spec_fdGood_l1
      rw [show IntKind.i64.wrap (((10 : Nat) : Int) * ((10 : Nat) : Int)) = 100 from i64_lt (by omega) (by omega), dec_f (by omega), cond_false, noDiv_isF n (by omega) (by omega) 10 (by omega) hd (by omega)]; rfl
  rw [h, seq_all]
theorem P_isBranch (a b g p n : Int) (hp : 2 ≤ p ∧ p ≤ 97) (hn : 1 ≤ n ∧ n ≤ 20) : L_impl_Branch_isBranch a b g p n = some (isBrP p n (a, b, g)) := by
  unfold L_impl_Branch_isBranch isBrP
  rw [i64_lt (by omega) (by omega), i64_lt (by omega) (by omega), P_within, P_within, P_within]
  simp only [Option.bind_some]
  cases inR a 0 (n - 1) <;> cases inR b 0 (n - 1) <;> cases a != b <;> rfl
theorem P_anyBranch (p n : Int) (bs xs : List (Int × Int × Int)) (l r : List Int) (hp : 2 ≤ p ∧ p ≤ 97) (hn : 1 ≤ n ∧ n ≤ 20) (hx : xs.length ≤ 1099511627776) :
    L_slices_ContainsFunc_impl_Branch_impl_Branch_for_impl_isNetwork_1 xs p n bs l r = some (xs.any fun e => !isBrP p n e) := by
  unfold L_slices_ContainsFunc_impl_Branch_impl_Branch_for_impl_isNetwork_1 L_slices_IndexFunc_impl_Branch_impl_Branch_for_impl_isNetwork_1
  have := loopM_any (body := fun s_ : Nat => L_slices_IndexFunc_impl_Branch_impl_Branch_for_impl_isNetwork_1_l1 xs p n bs l r s_) xs (fun e => !isBrP p n e) (.next ()) (fun i => .out (i : Int)) (F := 4611686018427387904) (by omega) (fun i x h => by
      have := getN_lt h
      unfold L_slices_IndexFunc_impl_Branch_impl_Branch_for_impl_isNetwork_1_l1 L_impl_isNetwork_1
      rw [dec_t (by omega), cond_true, h, Option.bind_some, P_isBranch _ _ _ _ _ hp hn, Option.bind_some, Option.bind_some, og_true (by omega)]
      cases isBrP p n x <;> rfl) (by
      unfold L_slices_IndexFunc_impl_Branch_impl_Branch_for_impl_isNetwork_1_l1
      rw [dec_f (by omega), cond_false])
  rcases this with ⟨h1, i, hi, h2⟩ | ⟨h1, h2⟩
  · rw [h2, h1]
    show some (decide (0 ≤ (i : Int))) = _
    rw [dec_t (by omega)]
  · rw [h2, h1]; rfl
theorem any_notP {α : Type} (q : α → Bool) (l : List α) : (!l.any fun x => !q x) = l.all q := by
  induction l with
  | nil => rfl
  | cons x l ih => simp only [List.any_cons, List.all_cons, Bool.not_or, Bool.not_not, ih]
theorem P_isNetwork (p n : Int) (bs : List (Int × Int × Int)) (l r : List Int) (hb : bs.length ≤ 1099511627776) (hl : l.length ≤ 1099511627776) (hr : r.length ≤ 1099511627776) : L_impl_isNetwork p n bs l r = some (goodP p n bs l r) := by
  unfold L_impl_isNetwork L_impl_isField goodP
  rw [Option.bind_some, P_within]
  cases hp : isF p
  · rfl
  cases hn : inR n 1 20
  · rfl
  have hp' := isF_bd hp
  have hn' := inR_true.1 hn
  simp only [Option.bind_some, Bool.not_true, cond_false, Bool.true_and]
  rw [P_areBelow l n (by omega) hl, P_areBelow r n (by omega) hr, P_anyBranch p n bs bs l r hp' hn' hb]
  by_cases h1 : bs.length ≤ 60
  rotate_left
  · rw [dec_t (by omega), dec_f h1]; rfl
  rw [dec_f (by omega), dec_t h1]
  by_cases h2 : l.length ≤ 6
  rotate_left
  · rw [dec_t (by omega), dec_f h2]; rfl
  rw [dec_f (by omega), dec_t h2]
  by_cases h3 : r.length ≤ 6
  rotate_left
  · rw [dec_t (by omega), dec_f h3]; rfl
  rw [dec_f (by omega), dec_t h3]
  simp only [Option.bind_some, cond_false, Bool.true_and, any_notP]
  cases l.all fun x => inR x 0 (n - 1)
  · rfl
  cases r.all fun x => inR x 0 (n - 1) <;> rfl
theorem P_nwGood (p n : Int) (bs : List (Int × Int × Int)) (l r : List Int) (hb : bs.length ≤ 1099511627776) (hl : l.length ≤ 1099511627776) (hr : r.length ≤ 1099511627776) : L_spec_nwGood p n bs l r = some (goodP p n bs l r) := by
  unfold L_spec_nwGood goodP
  rw [P_fdGood, Option.bind_some, P_l1In]
  cases hp : isF p
  · rfl
  cases hn : inR n 1 20
  · rfl
  have hp' := isF_bd hp
  have hn' := inR_true.1 hn
  simp only [Option.bind_some, Bool.not_true, cond_false, Bool.true_and]
  rw [i64_lt (by omega) (by omega), P_l1All l _ _ hl, P_l1All r _ _ hr]
  by_cases h1 : bs.length ≤ 60
  rotate_left
  · rw [dec_t (by omega), dec_f h1]; rfl
  rw [dec_f (by omega), dec_t h1]
  by_cases h2 : l.length ≤ 6
  rotate_left
  · rw [dec_t (by omega), dec_f h2]; rfl
  rw [dec_f (by omega), dec_t h2]
  by_cases h3 : r.length ≤ 6
  rotate_left
  · rw [dec_t (by omega), dec_f h3]; rfl
  rw [dec_f (by omega), dec_t h3]
  simp only [Option.bind_some, cond_false, Bool.true_and]
  cases l.all fun x => inR x 0 (n - 1)
  · rfl
  cases r.all fun x => inR x 0 (n - 1)
  · rfl
  simp only [Bool.not_true, cond_false, Option.bind_some, Bool.true_and]
  rw [loopM_all bs (isBrP p n) (.next ()) (.out false) (by omega) (fun i x h => ?_) ?_, seq_all]
  · unfold L_spec_nwGood_l1
    rw [dec_f (by omega), cond_false]
  · have := getN_lt h
    unfold L_spec_nwGood_l1 isBrP
    rw [dec_t (by omega), cond_true, h, Option.bind_some, i64_lt (by omega) (by omega), i64_lt (by omega) (by omega), P_l1In, P_l1In, P_l1In, og_true (by omega)]
    simp only [Option.bind_some]
    cases inR x.1 0 (n - 1)
    · rfl
    cases inR x.2.1 0 (n - 1)
    · rfl
    rw [bne]
    cases x.1 == x.2.1
    · cases inR x.2.2 1 (p - 1) <;> rfl
    · rfl
end Go.Proofs.YtefolocdfgelcaaDoor
