/- Lemmas on the program and on partial functions that stand in place of its code (part 7); no condition beyond those that each one states. -/
import Derived.Test.YtedphkkbjpcjeaaDoorZ6
import Derived.Deep.RegionHeld3
namespace Go.Proofs.YtedphkkbjpcjeaaDoor
theorem seq_all (b : Bool) : seqC (some (if b then Ctl.next () else Ctl.out false)) (fun _ : Unit => some true) = some b := by cases b <;> rfl
theorem P_l1In (x lo hi : Int) : L_spec_l1In x lo hi = some (inR x lo hi) := by
 unfold L_spec_l1In inR
 by_cases h : lo <= x <;> simp [h]
theorem P_within (x lo hi : Int) : L_impl_within x lo hi = some (inR x lo hi) := by
 unfold L_impl_within inR
 by_cases h : lo <= x <;> simp [h]
theorem P_l1All (xs : List Int) (lo hi : Int) (hx : xs.length <= 1099511627776) : L_spec_l1All xs lo hi = some (xs.all fun x => inR x lo hi) := by
 unfold L_spec_l1All
 rw [loopM_all xs (fun x => inR x lo hi) (.next ()) (.out false) (by omega) (fun i x h => ?_) ?_, seq_all]
 ·unfold L_spec_l1All_l1
  rw [dec_f (by omega), cond_false]
 ·have := getN_lt h
  unfold L_spec_l1All_l1
  rw [dec_t (by omega), cond_true, h, Option.bind_some, P_l1In, Option.bind_some, og_true (by omega)]
  cases inR x lo hi <;> rfl
theorem isF_out {p : Int} (h : inR p 2 97 = false) : isF p = false := by rcases inR_false.1 h with h | h <;> simp [isF] <;> omega
theorem P_fdGood (p : Int) : L_spec_fdGood p = some (isF p) := by
 unfold L_spec_fdGood
 rw [P_l1In, Option.bind_some]
 cases hr : inR p 2 97
 ·rw [isF_out hr]; rfl
 rw [Bool.not_true, cond_false]
 obtain ⟨h1, h2⟩ := inR_true.1 hr
 obtain ⟨n, rfl⟩ := Int.eq_ofNat_of_zero_le (show 0 <= p by omega)
 have h : loopM (fun s_ : Nat => L_spec_fdGood_l1 n s_) 4611686018427387904 2 = some (if isF n then .next () else .out false) := by
  refine loopM_eq 8 (fun i s => s = i + 2 ∧ noDiv n s = true) (by omega) _ ⟨rfl, by simp [noDiv, List.range_succ]⟩ ?_ ?_
  ·rintro i s hi ⟨hs, hd⟩
   unfold L_spec_fdGood_l1
   have hm : ((s : Int) * (s : Int)) = ((s * s : Nat) : Int) := by simp
   have hss : s * s <= 9 * 9 := Nat.mul_le_mul (by omega) (by omega)
   rw [hm, i64_lt (by omega) (by omega)]
   by_cases hle : s * s <= n
   ·rw [dec_t (by omega), cond_true, og_true (by omega), show Int.tmod (n : Int) (s : Int) = ((n % s : Nat) : Int) from by rw [Int.tmod_eq_emod_of_nonneg (by omega)]; rfl]
    by_cases h0 : n % s = 0
    ·refine .inr ?_
     rw [h0, div_isF n (by omega) s (by omega) (by omega) hle h0]; rfl
    ·refine .inl ⟨s + 1, ?_, by omega, noDiv_succ hd h0⟩
     rw [show (((n % s : Nat) : Int) == 0) = false from by rw [beq_eq_false_iff_ne]; omega, cond_false, og_true (by omega)]
   ·refine .inr ?_
    rw [dec_f (by omega), cond_false, noDiv_isF n (by omega) (by omega) s (by omega) hd (by omega)]; rfl
  ·rintro s ⟨hs, hd⟩
   obtain rfl : s = 10 := by omega
   unfold L_spec_fdGood_l1
   rw [show IntKind.i64.wrap (((10 : Nat) : Int) * ((10 : Nat) : Int)) = 100 from i64_lt (by omega) (by omega), dec_f (by omega), cond_false, noDiv_isF n (by omega) (by omega) 10 (by omega) hd (by omega)]; rfl
 rw [h, seq_all]
theorem P_isElement (p x : Int) : L_impl_isElement p x = some (inR x 0 (p - 1)) := by
 unfold L_impl_isElement inR
 by_cases h : 0 <= x
 ·simp [h, show (x < p ↔ x <= p - 1) by omega]
 ·simp [h]
theorem P_fdIn (p : Int) (xs : List Int) (hp : 2 <= p ∧ p <= 97) (hx : xs.length <= 1099511627776) : L_spec_fdIn p xs = some (xs.all fun x => inR x 0 (p - 1)) := by
 unfold L_spec_fdIn
 rw [i64_lt (by omega) (by omega), P_l1All _ _ _ hx]; rfl
theorem P_isVector (p : Int) (xs : List Int) (n : Int) (hx : xs.length <= 1099511627776) : L_impl_isVector p xs n = some (((xs.length : Nat) : Int) == n && xs.all fun x => inR x 0 (p - 1)) := by
 unfold L_impl_isVector
 cases hn : ((xs.length : Nat) : Int) == n
 ·rw [show (((xs.length : Nat) : Int) != n) = true by simp only [bne, hn, Bool.not_false]]; rfl
 rw [show (((xs.length : Nat) : Int) != n) = false by simp only [bne, hn, Bool.not_true], cond_false]
 rw [loopM_all xs (fun x => inR x 0 (p - 1)) (.next ()) (.out false) (by omega) (fun i x h => ?_) ?_, seq_all, Bool.true_and]
 ·unfold L_impl_isVector_l1
  rw [dec_f (by omega), cond_false]
 ·have := getN_lt h
  unfold L_impl_isVector_l1
  rw [dec_t (by omega), cond_true, h, Option.bind_some, P_isElement, Option.bind_some, og_true (by omega)]
  cases inR x 0 (p - 1) <;> rfl
theorem P_mod {p x : Int} (hp : 2 <= p ∧ p <= 97) : L_impl_mod p x = some (x % p) := by
 unfold L_impl_mod
 rw [og_true (by omega)]
 have e1 : x.tmod p = if 0 <= x ∨ x % p = 0 then x % p else x % p - p := by
  simp only [Int.tmod_eq_emod, Int.dvd_iff_emod_eq_zero]
  split <;> simp <;> omega
 have h1 := Int.emod_nonneg x (show p ≠ 0 by omega)
 have h2 := Int.emod_lt_of_pos x (show 0 < p by omega)
 by_cases h : x.tmod p < 0
 ·rw [dec_t h, cond_true, Option.bind_some, i64_lt (by omega) (by omega)]
  congr 1
  split at e1 <;> omega
 ·rw [dec_f h, cond_false, Option.bind_some]
  congr 1
  split at e1 <;> omega
theorem P_clone (xs : List Int) (h : xs.length <= 1000000) : L_impl_clone xs = some xs := by
 unfold L_impl_clone
 rw [og_true (by omega)]
theorem P_l1Own (xs : List Int) (h : xs.length <= 1000000) : L_spec_l1Own xs = some xs := by
 unfold L_spec_l1Own
 rw [og_true (by omega)]
theorem mul_bd {p x y : Int} (hp : 2 <= p ∧ p <= 97) (hx : 0 <= x ∧ x < p) (hy : 0 <= y ∧ y < p) : 0 <= x * y ∧ x * y <= 10000 := by
 refine ⟨Int.mul_nonneg hx.1 hy.1, ?_⟩
 have h1 : x * y <= 97 * y := Int.mul_le_mul_of_nonneg_right (by omega) hy.1
 omega
theorem P_fdMul {p x y : Int} (hp : 2 <= p ∧ p <= 97) (hx : 0 <= x ∧ x < p) (hy : 0 <= y ∧ y < p) : L_spec_fdMul p x y = some ((x * y) % p) := by
 have := mul_bd hp hx hy
 unfold L_spec_fdMul
 rw [og_true (by omega), i64_lt (by omega) (by omega), Int.tmod_eq_emod_of_nonneg (by omega)]
end Go.Proofs.YtedphkkbjpcjeaaDoor
namespace Go.Proofs.YtedphkkbjpcjeaaDoor
theorem P_fdSub {p x y : Int} (hp : 2 <= p ∧ p <= 97) (hx : 0 <= x ∧ x < p) (hy : 0 <= y ∧ y < p) : L_spec_fdSub p x y = some ((x - y) % p) := by
 unfold L_spec_fdSub
 rw [og_true (by omega), i64_lt (n := x + p) (by omega) (by omega), i64_lt (by omega) (by omega), Int.tmod_eq_emod_of_nonneg (by omega), show x + p - y = x - y + p by omega, Int.add_emod_right]
theorem rowloop {ρ : Type} {body : Nat × List (List Int) -> Option (Ctl (Nat × List (List Int)) ρ)} {M : List (List Int)} {r : Nat} {x y : List Int} {o : ρ} (hx : M[r]? = some x) (hl : y.length = x.length) (hb : x.length < 4611686018427387904)
  (hs : ∀ j (h : j < x.length) (z : List Int), z[j]? = some x[j] -> body (j, M.set r z) = some (.next (j + 1, M.set r (z.set j (y[j]'(by omega)))))) (he : body (x.length, M.set r y) = some (.out o)) :
  loopM body 4611686018427387904 (0, M) = some o := by
 refine loopM_det x.length (fun j => (j, M.set r (y.take j ++ x.drop j))) hb _ ?_ (fun j hj => ?_) ?_
 ·obtain ⟨h1, h2⟩ := List.getElem?_eq_some_iff.1 hx
  simp only [List.take_zero, List.nil_append, List.drop_zero]
  rw [← h2, List.set_getElem_self]
 ·have h1 : (y.take j).length = j := by rw [List.length_take]; omega
  rw [hs j hj _ (pover_get hj h1), pover_set hj h1, List.take_add_one, List.getElem?_eq_getElem (by omega)]; rfl
 ·rw [List.drop_length, List.append_nil, ← hl, List.take_length, hl]; exact he
theorem vecloop {ρ : Type} {body : Nat × List Int -> Option (Ctl (Nat × List Int) ρ)} {x y : List Int} {o : ρ} (hl : y.length = x.length) (hb : x.length < 4611686018427387904)
  (hs : ∀ j (h : j < x.length) (z : List Int), z[j]? = some x[j] -> body (j, z) = some (.next (j + 1, z.set j (y[j]'(by omega))))) (he : body (x.length, y) = some (.out o)) :
  loopM body 4611686018427387904 (0, x) = some o := by
 refine loopM_det x.length (fun j => (j, y.take j ++ x.drop j)) hb _ rfl (fun j hj => ?_) ?_
 ·have h1 : (y.take j).length = j := by rw [List.length_take]; omega
  rw [hs j hj _ (pover_get hj h1), pover_set hj h1, List.take_add_one, List.getElem?_eq_getElem (by omega)]; rfl
 ·rw [List.drop_length, List.append_nil, ← hl, List.take_length, hl]; exact he
theorem matloop {ρ : Type} {body : Nat × List (List Int) -> Option (Ctl (Nat × List (List Int)) ρ)} {M E : List (List Int)} {r : Nat} {pr : List Int} {o : ρ} (hl : E.length = M.length) (hM : M[r]? = some pr) (hE : E[r]? = some pr)
  (hb : M.length < 4611686018427387904) (hs : ∀ i (h : i < M.length) (s : List (List Int)), s.length = M.length -> s[i]? = some M[i] -> s[r]? = some pr -> body (i, s) = some (.next (i + 1, s.set i (E[i]'(by omega))))) (he : body (M.length, E) = some (.out o)) :
  loopM body 4611686018427387904 (0, M) = some o := by
 refine loopM_det M.length (fun j => (j, E.take j ++ M.drop j)) hb _ rfl (fun j hj => ?_) ?_
 ·have h1 : (E.take j).length = j := by rw [List.length_take]; omega
  rw [hs j hj _ (by simp; omega) (pover_get hj h1) ?_, pover_set hj h1, List.take_add_one, List.getElem?_eq_getElem (by omega)]; rfl
  by_cases h2 : r < j
  ·rw [List.getElem?_append_left (by omega), List.getElem?_take, if_pos h2]; exact hE
  ·rw [List.getElem?_append_right (by omega), h1, List.getElem?_drop, show j + (r - j) = r by omega]; exact hM
 ·rw [List.drop_length, List.append_nil, ← hl, List.take_length, hl]; exact he
theorem set_get {α : Type} {m : List α} {i : Nat} {x z : α} (h : m[i]? = some x) : (m.set i z)[i]? = some z := by
 rw [List.getElem?_set_self (getN_lt h)]
theorem set_self {α : Type} {m : List α} {i : Nat} {x : α} (h : m[i]? = some x) : m.set i x = m := by
 obtain ⟨h1, h2⟩ := List.getElem?_eq_some_iff.1 h
 rw [← h2, List.set_getElem_self]
theorem set_get_ne {α : Type} {m : List α} {i j : Nat} {z : α} (h : i ≠ j) : (m.set i z)[j]? = m[j]? := List.getElem?_set_ne h
theorem rmul_get {p k : Int} {x : List Int} {j : Nat} (h : j < (rmulV p k x).length) : (rmulV p k x)[j] = x[j]'(by simpa [rmulV] using h) * k % p := by simp [rmulV]
theorem rsub_get {p f : Int} {x v : List Int} {j : Nat} (h : j < (rsubV p f x v).length) : (rsubV p f x v)[j] = (x[j]'(by simp [rsubV] at h; omega) - f * v[j]'(by simp [rsubV] at h; omega)) % p := by simp [rsubV]
theorem elm_get {p : Int} {c r : Nat} {pr : List Int} {m : List (List Int)} {i : Nat} (h : i < (elmV p c r pr m).length) :
  (elmV p c r pr m)[i] = if i = r then pr else rsubV p ((m[i]'(by simpa [elmV] using h)).getD c 0) (m[i]'(by simpa [elmV] using h)) pr := by simp [elmV]
theorem at_in {p : Int} {w j : Nat} {x : List Int} (hx : VecW p w x) (hj : j < x.length) : 0 <= x[j] ∧ x[j] < p := hx.2 _ (List.getElem_mem hj)
theorem getD_in {p : Int} {w j : Nat} {x : List Int} (hx : VecW p w x) (hj : j < w) : 0 <= x.getD j 0 ∧ x.getD j 0 < p ∧ x[j]? = some (x.getD j 0) := by
 have h : j < x.length := by rw [hx.1]; exact hj
 have e : x[j]? = some x[j] := List.getElem?_eq_getElem h
 rw [getD_of e]
 exact ⟨(at_in hx h).1, (at_in hx h).2, e⟩
theorem sub_red {p f a b : Int} : (a - f * b % p) % p = (a - f * b) % p := by rw [Int.sub_emod_emod]
section
variable {p : Int} {w : Nat} {m : List (List Int)}
theorem P_spScale {r : Nat} {x : List Int} {k : Int} (hp : 2 <= p ∧ p <= 97) (hx : VecW p w x) (hw : w <= 100000) (hr : m[r]? = some x) (hk : 0 <= k ∧ k < p) :
  loopM (fun s_ : Nat × List (List Int) => L_spec_spReduce_l4 x r p k s_.1 s_.2) 4611686018427387904 (0, m) = some (m.set r (rmulV p k x)) := by
 have hl := hx.1
 refine rowloop hr (y := rmulV p k x) (by simp [rmulV]) (by omega) (fun j hj z hz => ?_) ?_
 ·have hv := at_in hx hj
  try dsimp only
  unfold L_spec_spReduce_l4
  rw [dec_t (by omega), cond_true, set_get hr, Option.bind_some, hz, Option.bind_some, P_fdMul hp hv hk, Option.bind_some, og_true (by omega), List.set_set, rmul_get]
 ·try dsimp only
  unfold L_spec_spReduce_l4
  rw [dec_f (by omega), cond_false]
theorem P_spLess {i r : Nat} {x v : List Int} {f : Int} (hp : 2 <= p ∧ p <= 97) (hx : VecW p w x) (hv : VecW p w v) (hw : w <= 100000) (hi : m[i]? = some x) (hr : m[r]? = some v) (hn : i ≠ r) (hf : 0 <= f ∧ f < p) :
  loopM (fun s_ : Nat × List (List Int) => L_spec_spReduce_l6 x i r p f s_.1 s_.2) 4611686018427387904 (0, m) = some (m.set i (rsubV p f x v)) := by
 have hl := hx.1
 have hl' := hv.1
 refine rowloop hi (y := rsubV p f x v) (by simp [rsubV]; omega) (by omega) (fun j hj z hz => ?_) ?_
 ·have h1 := at_in hx hj
  have h2 := at_in hv (j := j) (by omega)
  try dsimp only
  unfold L_spec_spReduce_l6
  rw [dec_t (by omega), cond_true, set_get hi, Option.bind_some, hz, Option.bind_some, set_get_ne hn, hr, Option.bind_some, List.getElem?_eq_getElem (show j < v.length by omega), Option.bind_some, P_fdMul hp hf h2, Option.bind_some,
   P_fdSub hp h1 (md_bdV hp.1), Option.bind_some, og_true (by omega), List.set_set, rsub_get, sub_red]
 ·try dsimp only
  unfold L_spec_spReduce_l6
  rw [dec_f (by omega), cond_false]
theorem elm_at_r {c r : Nat} {pr : List Int} (h : r < m.length) : (elmV p c r pr m)[r]? = some pr := by
 rw [List.getElem?_eq_getElem (by rw [elm_len]; exact h), elm_get, if_pos rfl]
theorem P_spElim {M0 : List (List Int)} {c r : Nat} {pr : List Int} (hp : 2 <= p ∧ p <= 97) (hm : MatW p w m) (hw : w <= 100000) (hl : m.length <= 100000) (hr : m[r]? = some pr) (hc : c < w) (h0 : M0.length = m.length) :
  loopM (fun s_ : Nat × List (List Int) => L_spec_spReduce_l5 M0 r c p s_.1 s_.2) 4611686018427387904 (0, m) = some (elmV p c r pr m) := by
 refine matloop (E := elmV p c r pr m) (elm_len ..) hr (elm_at_r (getN_lt hr)) (by omega) (fun i hi s hs h1 h2 => ?_) ?_
 ·have hx := hm _ (List.getElem_mem hi)
  have hv := hm _ (List.mem_of_getElem? hr)
  obtain ⟨g1, g2, g3⟩ := getD_in hx hc
  generalize hxe : m[i] = x at *
  try dsimp only
  unfold L_spec_spReduce_l5
  rw [dec_t (by omega), cond_true, elm_get, hxe]
  by_cases hir : i = r
  ·subst hir
   rw [if_pos rfl, show (((i : Nat) : Int) == ((i : Nat) : Int)) = true from beq_self_eq_true _, cond_true, Option.bind_some, cond_true, Option.bind_some, og_true (by omega), set_self h2]
  ·rw [if_neg hir, show (((i : Nat) : Int) == ((r : Nat) : Int)) = false from by rw [beq_eq_false_iff_ne]; omega, cond_false, h1, Option.bind_some, g3, Option.bind_some, Option.bind_some]
   by_cases h0 : x.getD c 0 = 0
   ·rw [h0, show ((0 : Int) == 0) = true from rfl, cond_true, Option.bind_some, og_true (by omega), rsub_zero hx.2 (by rw [hx.1, hv.1]; exact Nat.le_refl _), set_self h1]
   ·rw [show (x.getD c 0 == 0) = false from beq_eq_false_iff_ne.2 h0, cond_false, Option.bind_some, g3, Option.bind_some, P_spLess hp hx hv hw h1 h2 hir ⟨g1, g2⟩, Option.bind_some, og_true (by omega)]
 ·try dsimp only
  unfold L_spec_spReduce_l5
  rw [dec_f (by omega), cond_false]
theorem elm_set {c r : Nat} {pr y : List Int} : elmV p c r pr (m.set r y) = elmV p c r pr m := by
 apply List.ext_getElem
 ·rw [elm_len, elm_len, List.length_set]
 ·intro i h1 h2
  rw [elm_get, elm_get]
  by_cases h : i = r
  ·rw [if_pos h, if_pos h]
  ·rw [if_neg h, if_neg h]
   simp only [List.getElem_set, if_neg (fun e => h (Eq.symm e))]
theorem P_spPiv {c r : Nat} (hm : MatW p w m) (hc : c < w) (hl : m.length <= 100000) (hr : r <= m.length) :
  loopM (fun s_ : Nat => L_spec_spReduce_l3 m c s_) 4611686018427387904 r = some (pivV m c r) := by
 have hle := piv_le (c := c) hr
 refine loopM_det ((m.drop r).findIdx fun x => x.getD c 0 != 0) (fun t => r + t) (by unfold pivV at hle; omega) _ rfl (fun t ht => ?_) ?_
 ·have h1 : r + t < pivV m c r := by unfold pivV; omega
  have h0 := piv_zero (i := r + t) (by omega) h1 hr
  obtain ⟨x, hx⟩ := get_lt (show r + t < m.length by omega)
  obtain ⟨g1, g2, g3⟩ := getD_in (hm _ (List.mem_of_getElem? hx)) hc
  rw [getD_of hx] at h0
  try dsimp only
  unfold L_spec_spReduce_l3
  rw [dec_t (by omega), cond_true, hx, Option.bind_some, g3, Option.bind_some, Option.bind_some, h0, show ((0 : Int) == 0) = true from rfl, cond_true, og_true (by omega), Nat.add_assoc]
 ·show L_spec_spReduce_l3 m c (pivV m c r) = _
  unfold L_spec_spReduce_l3
  by_cases h : pivV m c r = m.length
  ·rw [dec_f (by omega), cond_false, Option.bind_some, cond_false]
  ·have h0 := piv_nz h hr
   obtain ⟨x, hx⟩ := get_lt (show pivV m c r < m.length by omega)
   obtain ⟨g1, g2, g3⟩ := getD_in (hm _ (List.mem_of_getElem? hx)) hc
   rw [getD_of hx] at h0
   rw [dec_t (by omega), cond_true, hx, Option.bind_some, g3, Option.bind_some, Option.bind_some, beq_eq_false_iff_ne.2 h0, cond_false]
theorem swp_at {r k : Nat} (hr : r < m.length) (hk : k < m.length) : (swpV m r k)[r]? = some (m.getD k []) := by
 unfold swpV
 by_cases h : r = k
 ·subst h
  rw [List.getElem?_set_self (by rw [List.length_set]; exact hr)]
 ·rw [List.getElem?_set_ne (Ne.symm h), List.getElem?_set_self hr]
theorem P_spCols {n : Nat} (hp : isF p = true) (hm : MatW p w m) (hn : n <= w) (hw : w <= 100000) (hl : m.length <= 100000) :
  loopM (fun s_ : Nat × Nat × List (List Int) => L_spec_spReduce_l2 (n : Int) p s_.1 s_.2.1 s_.2.2) 4611686018427387904 (0, 0, m) = some (gjT p m n) := by
 have hb := isF_bd hp
 refine loopM_eq n (fun c s => s = ((gjT p m c).1, c, (gjT p m c).2)) (by omega) _ rfl (fun c s hc hI => ?_) (fun s hI => ?_)
 ·subst hI
  obtain ⟨hm', hr, hl'⟩ := gjT_ok hb.1 hm c
  by_cases hlt : (gjT p m c).1 < (gjT p m c).2.length
  ·refine .inl ?_
   refine ⟨_, ?_, rfl⟩
   show L_spec_spReduce_l2 _ _ _ _ _ = some (Ctl.next ((gjS p c (gjT p m c)).1, c + 1, (gjS p c (gjT p m c)).2))
   generalize gjT p m c = s at *
   obtain ⟨r, M⟩ := s
   try dsimp only at *
   unfold L_spec_spReduce_l2 gjS
   rw [dec_t (by omega), cond_true, Option.bind_some, dec_t (by omega), cond_true, P_spPiv hm' (by omega) (by omega) hr, Option.bind_some, if_pos hlt]
   by_cases hk : pivV M c r = M.length
   ·rw [hk, beq_self_eq_true, cond_true, Option.bind_some, if_pos rfl]
    exact og_true (by omega) _
   ·have hle := piv_le (c := c) hr
    have hkl : pivV M c r < M.length := by omega
    rw [show (((pivV M c r : Nat) : Int) == ((M.length : Nat) : Int)) = false from by rw [beq_eq_false_iff_ne]; omega, cond_false, if_neg hk]
    have hnz := piv_nz hk hr
    obtain ⟨x, hx⟩ := get_lt hlt
    obtain ⟨y, hy⟩ := get_lt hkl
    have hyM := hm' _ (List.mem_of_getElem? hy)
    obtain ⟨g1, g2, g3⟩ := getD_in hyM (show c < w by omega)
    rw [getD_of hy] at hnz
    obtain ⟨i1, _, i2, i3, _⟩ := P_invV hp (a := y.getD c 0) (by omega)
    have hs := swp_at hlt hkl
    have hpm := mat_swp hm' hlt hkl
    have hsl := swp_len M r (pivV M c r)
    have hsw : (M.set r y).set (pivV M c r) x = swpV M r (pivV M c r) := by unfold swpV; rw [getD_of hx, getD_of hy]
    rw [hx, Option.bind_some, hy, Option.bind_some, hsw, getD_of hy]
    rw [getD_of hy] at hs
    generalize swpV M r (pivV M c r) = W at *
    have hpr : VecW p w (rmulV p (invV p (y.getD c 0)) y) := vec_rmul hb.1 hyM.1
    rw [hs, Option.bind_some, g3, Option.bind_some, i1, Option.bind_some, P_spScale hb hyM hw hs ⟨i2, i3⟩, Option.bind_some,
     P_spElim hb (w := w) (m := W.set r (rmulV p (invV p (y.getD c 0)) y)) (pr := rmulV p (invV p (y.getD c 0)) y) (fun z hz => ?_) hw (by rw [List.length_set]; omega) (set_get hs) (by omega) rfl, Option.bind_some, og_true (by omega), Option.bind_some, elm_set]
    ·exact og_true (by omega) _
    ·rcases List.mem_or_eq_of_mem_set hz with hz | rfl
     ·exact hpm _ hz
     ·exact hpr
  ·refine .inr ?_
   rw [gjT_stop hlt n (by omega)]
   generalize gjT p m c = s at *
   try dsimp only
   unfold L_spec_spReduce_l2
   rw [dec_t (by omega), cond_true, Option.bind_some, dec_f (by omega), cond_false]
 ·subst hI
  try dsimp only
  unfold L_spec_spReduce_l2
  rw [dec_f (by omega), cond_false, Option.bind_some, cond_false]
theorem P_spOwn (hm : MatW p w m) (hw : w <= 100000) (hl : m.length <= 100000) :
  loopM (fun s_ : Nat × List (List Int) => L_spec_spReduce_l1 m s_.1 s_.2) 4611686018427387904 (0, ([] : List (List Int))) = some m := by
 have h := loopM_app (body := fun s_ : Nat × List (List Int) => L_spec_spReduce_l1 m s_.1 s_.2) m id [] (F := 4611686018427387904) (by omega) m (fun i x h => ?_) ?_
 ·simpa using h
 ·have := getN_lt h
  have hx := (hm x (List.mem_of_getElem? h)).1
  try dsimp only
  unfold L_spec_spReduce_l1
  rw [dec_t (by omega), cond_true, h, Option.bind_some, P_l1Own _ (by omega), Option.bind_some, og_true (by simp; omega), og_true (by omega)]; rfl
 ·try dsimp only
  unfold L_spec_spReduce_l1
  rw [dec_f (by omega), cond_false, List.map_id, List.nil_append]
theorem P_spReduce {n : Nat} (hp : isF p = true) (hm : MatW p w m) (hn : n <= w) (hw : w <= 100000) (hl : m.length <= 100000) : L_spec_spReduce p (n : Int) m = some (gj p n m) := by
 have hb := isF_bd hp
 obtain ⟨_, h2, h3⟩ := gjT_ok hb.1 hm n
 unfold L_spec_spReduce
 rw [P_spOwn hm hw hl, Option.bind_some, P_spCols hp hm hn hw hl, Option.bind_some]
 exact og_true (by omega) _
end
end Go.Proofs.YtedphkkbjpcjeaaDoor
namespace Go.Proofs.YtedphkkbjpcjeaaDoor
theorem matloop2 {ρ : Type} {body : Nat × List (List Int) × List (List Int) -> Option (Ctl (Nat × List (List Int) × List (List Int)) ρ)} {M E A B : List (List Int)} {r : Nat} {pr pa : List Int} {o : ρ}
  (hl : E.length = M.length) (hA : A.length = M.length) (hB : B.length = M.length) (hM : M[r]? = some pr) (hE : E[r]? = some pr) (hM' : A[r]? = some pa) (hE' : B[r]? = some pa) (hb : M.length < 4611686018427387904)
  (hs : ∀ i (h : i < M.length) (s t : List (List Int)), s.length = M.length -> t.length = M.length -> s[i]? = some M[i] -> t[i]? = some (A[i]'(by omega)) -> s[r]? = some pr -> t[r]? = some pa ->
   body (i, s, t) = some (.next (i + 1, s.set i (E[i]'(by omega)), t.set i (B[i]'(by omega))))) (he : body (M.length, E, B) = some (.out o)) :
  loopM body 4611686018427387904 (0, M, A) = some o := by
 have hr : ∀ {M E : List (List Int)} {pr : List Int} {j : Nat}, (E.take j).length = j -> M[r]? = some pr -> E[r]? = some pr -> (E.take j ++ M.drop j)[r]? = some pr := by
  intro M E pr j h1 hM hE
  by_cases h2 : r < j
  ·rw [List.getElem?_append_left (by omega), List.getElem?_take, if_pos h2]; exact hE
  ·rw [List.getElem?_append_right (by omega), h1, List.getElem?_drop, show j + (r - j) = r by omega]; exact hM
 refine loopM_det M.length (fun j => (j, E.take j ++ M.drop j, B.take j ++ A.drop j)) hb _ rfl (fun j hj => ?_) ?_
 ·have h1 : (E.take j).length = j := by rw [List.length_take]; omega
  have h2 : (B.take j).length = j := by rw [List.length_take]; omega
  rw [hs j hj _ _ (by simp; omega) (by simp; omega) (pover_get hj h1) (pover_get (by omega) h2) (hr h1 hM hE) (hr h2 hM' hE'), pover_set hj h1, pover_set (by omega) h2, List.take_add_one, List.getElem?_eq_getElem (by omega), List.take_add_one, List.getElem?_eq_getElem (by omega)]; rfl
 ·rw [List.drop_length, List.append_nil, ← hl, List.take_length, hl, ← hA, List.drop_length, List.append_nil, hA, ← hB, List.take_length, hB]; exact he
theorem VecW.tk {p : Int} {w u : Nat} {x : List Int} (h : VecW p w x) (hu : u <= w) : VecW p u (x.take u) := ⟨by rw [List.length_take, h.1]; omega, fun a ha => h.2 a (List.mem_of_mem_take ha)⟩
theorem VecW.dr {p : Int} {w u : Nat} {x : List Int} (h : VecW p w x) : VecW p (w - u) (x.drop u) := ⟨by rw [List.length_drop, h.1], fun a ha => h.2 a (List.mem_of_mem_drop ha)⟩
theorem MatW.tk {p : Int} {w u : Nat} {m : List (List Int)} (h : MatW p w m) (hu : u <= w) : MatW p u (m.map (·.take u)) := fun x hx => by
 obtain ⟨y, hy, rfl⟩ := List.mem_map.1 hx
 exact (h y hy).tk hu
theorem MatW.dr {p : Int} {w u : Nat} {m : List (List Int)} (h : MatW p w m) : MatW p (w - u) (m.map (·.drop u)) := fun x hx => by
 obtain ⟨y, hy, rfl⟩ := List.mem_map.1 hx
 exact (h y hy).dr
section
variable {p : Int} {w : Nat} {m : List (List Int)}
theorem P_addTimes {x v : List Int} {f : Int} (hp : 2 <= p ∧ p <= 97) (hx : VecW p w x) (hv : VecW p w v) (hw : w <= 100000) (hf : 0 <= f ∧ f < p) :
  L_impl_addTimes p x (IntKind.i64.wrap (0 - f)) v = some (rsubV p f x v) := by
 have hl := hx.1
 have hl' := hv.1
 unfold L_impl_addTimes
 refine vecloop (y := rsubV p f x v) (by simp [rsubV]; omega) (by omega) (fun j hj z hz => ?_) ?_
 ·have h1 := at_in hx hj
  have h2 := at_in hv (j := j) (by omega)
  have h3 := mul_bd hp hf h2
  have e : (0 - f) * v[j] = -(f * v[j]) := by rw [Int.zero_sub, Int.neg_mul]
  try dsimp only
  unfold L_impl_addTimes_l1
  rw [dec_t (by omega), cond_true, List.getElem?_eq_getElem (show j < v.length by omega), Option.bind_some, hz, Option.bind_some, i64_lt (n := 0 - f) (by omega) (by omega), e, i64_lt (n := -(f * v[j])) (by omega) (by omega), i64_lt (by omega) (by omega), P_mod hp, Option.bind_some, og_true (by omega), rsub_get]; rfl
 ·try dsimp only
  unfold L_impl_addTimes_l1
  rw [dec_f (by omega), cond_false]
theorem P_apply0 {r k : Nat} {x y : List Int} {b : Int} (hr : m[r]? = some x) (hk : m[k]? = some y) : L_impl_rowOperation_apply 0 (r : Int) (k : Int) b p m = some (swpV m r k) := by
 unfold L_impl_rowOperation_apply swpV
 rw [show ((0 : Int) == 0) = true from rfl, cond_true, getI_nat (by omega), Int.toNat_natCast, hk, Option.bind_some, getI_nat (by omega), Int.toNat_natCast, hr, Option.bind_some, getD_of hr, getD_of hk]
theorem P_apply1 {r : Nat} {x : List Int} {a b : Int} (hp : isF p = true) (hx : VecW p w x) (hw : w <= 100000) (hr : m[r]? = some x) (ha : 1 <= a ∧ a < p) :
  L_impl_rowOperation_apply 1 (r : Int) b a p m = some (m.set r (rmulV p (invV p a) x)) := by
 obtain ⟨_, i1, i2, i3, _⟩ := P_invV hp ha
 have hb := isF_bd hp
 have hl := hx.1
 unfold L_impl_rowOperation_apply
 rw [show ((1 : Int) == 0) = false from rfl, cond_false, show ((1 : Int) == 1) = true from rfl, cond_true, i1, Option.bind_some, getI_nat (by omega), Int.toNat_natCast, hr, Option.bind_some]
 refine rowloop hr (y := rmulV p (invV p a) x) (by simp [rmulV]) (by omega) (fun j hj z hz => ?_) ?_
 ·have hv := at_in hx hj
  have h3 := mul_bd hb hv ⟨i2, i3⟩
  try dsimp only
  unfold L_impl_rowOperation_apply_l1
  rw [dec_t (by omega), cond_true, getI_nat (by omega), Int.toNat_natCast, set_get hr, Option.bind_some, og_true (by omega), hz, Option.bind_some, og_true (by omega), og_true (by omega), List.set_set, rmul_get, i64_lt (by omega) (by omega), Int.tmod_eq_emod_of_nonneg (by omega)]
 ·try dsimp only
  unfold L_impl_rowOperation_apply_l1
  rw [dec_f (by omega), cond_false]
theorem P_apply2 {i r : Nat} {x v : List Int} {f : Int} (hp : 2 <= p ∧ p <= 97) (hx : VecW p w x) (hv : VecW p w v) (hw : w <= 100000) (hi : m[i]? = some x) (hr : m[r]? = some v) (hn : i ≠ r) (hf : 0 <= f ∧ f < p) :
  L_impl_rowOperation_apply 2 (i : Int) (r : Int) f p m = some (m.set i (rsubV p f x v)) := by
 have hl := hx.1
 have hl' := hv.1
 unfold L_impl_rowOperation_apply
 rw [show ((2 : Int) == 0) = false from rfl, cond_false, show ((2 : Int) == 1) = false from rfl, cond_false, show ((2 : Int) == 2) = true from rfl, cond_true, getI_nat (by omega), Int.toNat_natCast, hi, Option.bind_some, getI_nat (by omega), Int.toNat_natCast, hr, Option.bind_some,
  og_true hn, P_addTimes hp hx hv hw hf, Option.bind_some, og_true (by simp [rsubV]; omega)]
theorem swp_self {r : Nat} (hr : r < m.length) : swpV m r r = m := by
 obtain ⟨x, hx⟩ := get_lt hr
 unfold swpV
 rw [getD_of hx, List.set_set, set_self hx]
theorem P_step0 {A : List (List Int)} {r k : Nat} (hA : A.length = m.length) (hr : r < m.length) (hk : k < m.length) : L_impl_reduction_1 0 (r : Int) (k : Int) 0 p m A = some (swpV m r k, swpV A r k) := by
 unfold L_impl_reduction_1
 by_cases h : r = k
 ·subst h
  rw [beq_self_eq_true, cond_true, swp_self hr, swp_self (by omega)]
 ·obtain ⟨x, hx⟩ := get_lt hr
  obtain ⟨y, hy⟩ := get_lt hk
  obtain ⟨x', hx'⟩ := get_lt (show r < A.length by omega)
  obtain ⟨y', hy'⟩ := get_lt (show k < A.length by omega)
  rw [show ([(0 : Int), (r : Int), (k : Int), 0] == [0, (r : Int), (r : Int), 0]) = false from by rw [beq_eq_false_iff_ne]; intro e; simp at e; omega, cond_false, P_apply0 hx hy, Option.bind_some, og_true (swp_len ..), P_apply0 hx' hy', Option.bind_some, og_true (swp_len ..)]
theorem P_step1 {A : List (List Int)} {w' r : Nat} {x y : List Int} {a : Int} (hp : isF p = true) (hx : VecW p w x) (hy : VecW p w' y) (hw : w <= 100000) (hw' : w' <= 100000) (hr : m[r]? = some x) (hA : A[r]? = some y) (ha : 1 <= a ∧ a < p) :
  L_impl_reduction_1 1 (r : Int) 0 a p m A = some (m.set r (rmulV p (invV p a) x), A.set r (rmulV p (invV p a) y)) := by
 unfold L_impl_reduction_1
 rw [show ([(1 : Int), (r : Int), 0, a] == [0, (r : Int), (r : Int), 0]) = false from by rw [beq_eq_false_iff_ne]; intro e; simp at e, cond_false, P_apply1 hp hx hw hr ha, Option.bind_some, og_true (List.length_set ..), P_apply1 hp hy hw' hA ha, Option.bind_some, og_true (List.length_set ..)]
theorem P_step2 {A : List (List Int)} {w' i r : Nat} {x v y u : List Int} {f : Int} (hp : 2 <= p ∧ p <= 97) (hx : VecW p w x) (hv : VecW p w v) (hy : VecW p w' y) (hu : VecW p w' u) (hw : w <= 100000) (hw' : w' <= 100000)
  (hi : m[i]? = some x) (hr : m[r]? = some v) (hi' : A[i]? = some y) (hr' : A[r]? = some u) (hn : i ≠ r) (hf : 0 <= f ∧ f < p) :
  L_impl_reduction_1 2 (i : Int) (r : Int) f p m A = some (m.set i (rsubV p f x v), A.set i (rsubV p f y u)) := by
 unfold L_impl_reduction_1
 rw [show ([(2 : Int), (i : Int), (r : Int), f] == [0, (i : Int), (i : Int), 0]) = false from by rw [beq_eq_false_iff_ne]; intro e; simp at e, cond_false, P_apply2 hp hx hv hw hi hr hn hf, Option.bind_some, og_true (List.length_set ..), P_apply2 hp hy hu hw' hi' hr' hn hf, Option.bind_some, og_true (List.length_set ..)]
def elmA (p : Int) (c r : Nat) (pa : List Int) (M A : List (List Int)) : List (List Int) := A.mapIdx fun i x => if i = r then pa else rsubV p ((M.getD i []).getD c 0) x pa
theorem elmA_get {c r : Nat} {pa : List Int} {M A : List (List Int)} {i : Nat} (h : i < (elmA p c r pa M A).length) :
  (elmA p c r pa M A)[i] = if i = r then pa else rsubV p ((M.getD i []).getD c 0) (A[i]'(by simpa [elmA] using h)) pa := by simp [elmA]
theorem P_imElim {M0 : List (List Int) × List (List Int)} {A : List (List Int)} {w' c r : Nat} {pr pa : List Int} (hp : 2 <= p ∧ p <= 97) (hm : MatW p w m) (hA : MatW p w' A) (hlA : A.length = m.length) (hw : w <= 100000) (hw' : w' <= 100000) (hl : m.length <= 100000)
  (hr : m[r]? = some pr) (hr' : A[r]? = some pa) (hc : c < w) (h0 : M0.1.length = m.length) :
  loopM (fun s_ : Nat × List (List Int) × List (List Int) => L_impl_reduction_l3 M0 r c p s_.1 s_.2.1 s_.2.2) 4611686018427387904 (0, m, A) = some (elmV p c r pr m, elmA p c r pa m A) := by
 have hla : (elmA p c r pa m A).length = m.length := by simp [elmA, hlA]
 have hr2 := getN_lt hr
 refine matloop2 (E := elmV p c r pr m) (B := elmA p c r pa m A) (elm_len ..) hlA hla hr (elm_at_r hr2) hr' ?_ (by omega) (fun i hi s t hs ht h1 k1 h2 k2 => ?_) ?_
 ·rw [List.getElem?_eq_getElem (by omega), elmA_get, if_pos rfl]
 ·have hx := hm _ (List.getElem_mem hi)
  have hy := hA _ (List.getElem_mem (show i < A.length by omega))
  have hv := hm _ (List.mem_of_getElem? hr)
  have hu := hA _ (List.mem_of_getElem? hr')
  obtain ⟨g1, g2, g3⟩ := getD_in hx hc
  have hD : m.getD i [] = m[i] := getD_of (List.getElem?_eq_getElem hi)
  try dsimp only
  unfold L_impl_reduction_l3
  rw [dec_t (by omega), cond_true, elm_get, elmA_get, hD]
  generalize m[i] = x at *
  generalize A[i] = y at *
  by_cases hir : i = r
  ·subst hir
   rw [if_pos rfl, if_pos rfl, show (((i : Nat) : Int) != ((i : Nat) : Int)) = false from bne_self_eq_false _, cond_false, Option.bind_some, cond_false, Option.bind_some, set_self h2, set_self k2]
   exact og_true (by omega) _
  ·rw [if_neg hir, if_neg hir, show (((i : Nat) : Int) != ((r : Nat) : Int)) = true from by rw [bne_iff_ne]; omega, cond_true, h1, Option.bind_some, g3, Option.bind_some, Option.bind_some]
   by_cases h0 : x.getD c 0 = 0
   ·rw [h0, show ((0 : Int) != 0) = false from rfl, cond_false, Option.bind_some, rsub_zero hx.2 (by rw [hx.1, hv.1]; exact Nat.le_refl _), rsub_zero hy.2 (by rw [hy.1, hu.1]; exact Nat.le_refl _), set_self h1, set_self k1]
    exact og_true (by omega) _
   ·rw [show (x.getD c 0 != 0) = true from bne_iff_ne.2 h0, cond_true, Option.bind_some, g3, Option.bind_some, P_step2 hp hx hv hy hu hw hw' h1 h2 k1 k2 hir ⟨g1, g2⟩, Option.bind_some, Option.bind_some]
    exact og_true (by omega) _
 ·try dsimp only
  unfold L_impl_reduction_l3
  rw [dec_f (by omega), cond_false]
theorem P_imPiv {c r : Nat} (hm : MatW p w m) (hc : c < w) (hl : m.length <= 100000) (hr : r <= m.length) :
  loopM (fun s_ : Nat => L_impl_reduction_l2 m c s_) 4611686018427387904 r = some (pivV m c r) := by
 have hle := piv_le (c := c) hr
 refine loopM_det ((m.drop r).findIdx fun x => x.getD c 0 != 0) (fun t => r + t) (by unfold pivV at hle; omega) _ rfl (fun t ht => ?_) ?_
 ·have h1 : r + t < pivV m c r := by unfold pivV; omega
  have h0 := piv_zero (i := r + t) (by omega) h1 hr
  obtain ⟨x, hx⟩ := get_lt (show r + t < m.length by omega)
  obtain ⟨g1, g2, g3⟩ := getD_in (hm _ (List.mem_of_getElem? hx)) hc
  rw [getD_of hx] at h0
  try dsimp only
  unfold L_impl_reduction_l2
  rw [dec_t (by omega), cond_true, hx, Option.bind_some, g3, Option.bind_some, Option.bind_some, h0, show ((0 : Int) == 0) = true from rfl, cond_true, og_true (by omega), Nat.add_assoc]
 ·show L_impl_reduction_l2 m c (pivV m c r) = _
  unfold L_impl_reduction_l2
  by_cases h : pivV m c r = m.length
  ·rw [dec_f (by omega), cond_false, Option.bind_some, cond_false]
  ·have h0 := piv_nz h hr
   obtain ⟨x, hx⟩ := get_lt (show pivV m c r < m.length by omega)
   obtain ⟨g1, g2, g3⟩ := getD_in (hm _ (List.mem_of_getElem? hx)) hc
   rw [getD_of hx] at h0
   rw [dec_t (by omega), cond_true, hx, Option.bind_some, g3, Option.bind_some, Option.bind_some, beq_eq_false_iff_ne.2 h0, cond_false]
theorem getD_take {x : List Int} {u c : Nat} (h : c < u) : (x.take u).getD c 0 = x.getD c 0 := by
 rw [List.getD_eq_getElem?_getD, List.getElem?_take, if_pos h, List.getD_eq_getElem?_getD]
theorem piv_take {u c r : Nat} (h : c < u) : pivV (m.map (·.take u)) c r = pivV m c r := by
 unfold pivV
 rw [← List.map_drop, List.findIdx_map]
 congr 2
 funext x
 exact congrArg (· != 0) (getD_take h)
theorem getD_map {f : List Int -> List Int} (hf : f [] = []) {i : Nat} : (m.map f).getD i [] = f (m.getD i []) := by
 rw [List.getD_eq_getElem?_getD, List.getElem?_map, List.getD_eq_getElem?_getD]
 cases m[i]? with
 | none => exact hf.symm
 | some x => rfl
theorem swp_map {f : List Int -> List Int} (hf : f [] = []) {r k : Nat} : (swpV m r k).map f = swpV (m.map f) r k := by
 unfold swpV
 rw [List.map_set, List.map_set, getD_map hf, getD_map hf]
theorem rmul_take {k : Int} {x : List Int} {u : Nat} : (rmulV p k x).take u = rmulV p k (x.take u) := by simp [rmulV, List.map_take]
theorem rmul_drop {k : Int} {x : List Int} {u : Nat} : (rmulV p k x).drop u = rmulV p k (x.drop u) := by simp [rmulV, List.map_drop]
theorem rsub_take {k : Int} {x v : List Int} {u : Nat} : (rsubV p k x v).take u = rsubV p k (x.take u) (v.take u) := by simp [rsubV, List.take_zipWith]
theorem rsub_drop {k : Int} {x v : List Int} {u : Nat} : (rsubV p k x v).drop u = rsubV p k (x.drop u) (v.drop u) := by simp [rsubV, List.drop_zipWith]
theorem elm_take {c r u : Nat} {pr : List Int} (h : c < u) : (elmV p c r pr m).map (·.take u) = elmV p c r (pr.take u) (m.map (·.take u)) := by
 apply List.ext_getElem
 ·simp [elmV]
 ·intro i h1 h2
  rw [List.getElem_map, elm_get, elm_get, List.getElem_map, getD_take h]
  split
  ·rfl
  ·exact rsub_take
theorem elm_drop {c r u : Nat} {pr : List Int} (h : c < u) : (elmV p c r pr m).map (·.drop u) = elmA p c r (pr.drop u) (m.map (·.take u)) (m.map (·.drop u)) := by
 apply List.ext_getElem
 ·simp [elmV, elmA]
 ·intro i h1 h2
  rw [List.getElem_map, elm_get, elmA_get, List.getElem_map, getD_map (f := (·.take u)) List.take_nil, getD_take h, show m.getD i [] = m[i]'(by simpa [elmV] using h1) from getD_of (List.getElem?_eq_getElem (by simpa [elmV] using h1))]
  split
  ·rfl
  ·exact rsub_drop
theorem elmA_set {c r : Nat} {pa y z : List Int} {M A : List (List Int)} : elmA p c r pa (M.set r z) (A.set r y) = elmA p c r pa M A := by
 apply List.ext_getElem
 ·simp [elmA]
 ·intro i h1 h2
  rw [elmA_get, elmA_get]
  by_cases h : i = r
  ·rw [if_pos h, if_pos h]
  ·rw [if_neg h, if_neg h]
   simp only [List.getElem_set, if_neg (fun e => h (Eq.symm e)), List.getD_eq_getElem?_getD, List.getElem?_set_ne (Ne.symm h)]
def rdW (u : Nat) (W : List (List Int)) : List (List Int) := W.map (·.take u)
def alW (u : Nat) (W : List (List Int)) : List (List Int) := W.map (·.drop u)
theorem P_imCols {n u : Nat} (hp : isF p = true) (hm : MatW p w m) (hn : n <= u) (hu : u <= w) (hw : w <= 100000) (hl : m.length <= 100000) :
  loopM (fun s_ : Nat × Nat × List (List Int) × List (List Int) => L_impl_reduction_l1 (n : Int) p s_.1 s_.2.1 s_.2.2.1 s_.2.2.2) 4611686018427387904 (0, 0, rdW u m, alW u m) = some ((gjT p m n).1, rdW u (gjT p m n).2, alW u (gjT p m n).2) := by
 have hb := isF_bd hp
 refine loopM_eq n (fun c s => s = ((gjT p m c).1, c, rdW u (gjT p m c).2, alW u (gjT p m c).2)) (by omega) _ rfl (fun c s hc hI => ?_) (fun s hI => ?_)
 ·subst hI
  obtain ⟨hm', hr, hl'⟩ := gjT_ok hb.1 hm c
  have hlr : (rdW u (gjT p m c).2).length = (gjT p m c).2.length := List.length_map ..
  have hla : (alW u (gjT p m c).2).length = (gjT p m c).2.length := List.length_map ..
  by_cases hlt : (gjT p m c).1 < (gjT p m c).2.length
  ·refine .inl ?_
   refine ⟨_, ?_, rfl⟩
   show L_impl_reduction_l1 _ _ _ _ _ _ = some (Ctl.next ((gjS p c (gjT p m c)).1, c + 1, rdW u (gjS p c (gjT p m c)).2, alW u (gjS p c (gjT p m c)).2))
   generalize gjT p m c = s at *
   obtain ⟨r, M⟩ := s
   try dsimp only at *
   have hR : MatW p u (rdW u M) := hm'.tk hu
   have hA : MatW p (w - u) (alW u M) := hm'.dr
   have hpv : pivV (rdW u M) c r = pivV M c r := piv_take (by omega)
   unfold L_impl_reduction_l1 gjS
   rw [dec_t (by omega), cond_true, Option.bind_some, dec_t (by omega), cond_true, P_imPiv hR (by omega) (by omega) (by omega), Option.bind_some, if_pos hlt, hlr, hpv]
   by_cases hk : pivV M c r = M.length
   ·rw [hk, beq_self_eq_true, cond_true, Option.bind_some, if_pos rfl]
    exact og_true (by omega) _
   ·have hle := piv_le (c := c) hr
    have hkl : pivV M c r < M.length := by omega
    rw [show (((pivV M c r : Nat) : Int) == ((M.length : Nat) : Int)) = false from by rw [beq_eq_false_iff_ne]; omega, cond_false, if_neg hk]
    have hnz := piv_nz hk hr
    obtain ⟨y, hy⟩ := get_lt hkl
    have hyM := hm' _ (List.mem_of_getElem? hy)
    obtain ⟨g1, g2, _⟩ := getD_in hyM (show c < w by omega)
    rw [getD_of hy] at hnz
    have hs := swp_at hlt hkl
    rw [getD_of hy] at hs
    have hpm := mat_swp hm' hlt hkl
    have hsl := swp_len M r (pivV M c r)
    have e1 : swpV (rdW u M) r (pivV M c r) = rdW u (swpV M r (pivV M c r)) := (swp_map List.take_nil).symm
    have e2 : swpV (alW u M) r (pivV M c r) = alW u (swpV M r (pivV M c r)) := (swp_map List.drop_nil).symm
    rw [P_step0 (by omega) (by omega) (by omega), Option.bind_some, e1, e2, getD_of hy]
    generalize swpV M r (pivV M c r) = W at *
    have hs1 : (rdW u W)[r]? = some (y.take u) := by simp [rdW, hs]
    have hs2 : (alW u W)[r]? = some (y.drop u) := by simp [alW, hs]
    have g4 : (y.take u)[c]? = some (y.getD c 0) := by rw [(getD_in (hyM.tk hu) (show c < u by omega)).2.2, getD_take (by omega)]
    have q1 : VecW p u (rmulV p (invV p (y.getD c 0)) (y.take u)) := vec_rmul hb.1 (hyM.tk hu).1
    have q2 : VecW p (w - u) (rmulV p (invV p (y.getD c 0)) (y.drop u)) := vec_rmul hb.1 hyM.dr.1
    have l1 : (rdW u W).length = W.length := List.length_map ..
    have l2 : (alW u W).length = W.length := List.length_map ..
    try dsimp only
    rw [hs1, Option.bind_some, g4, Option.bind_some, P_step1 hp (hyM.tk hu) hyM.dr (by omega) (by omega) hs1 hs2 (by omega), Option.bind_some]
    try dsimp only
    rw [P_imElim hb (w := u) (w' := w - u) (pr := rmulV p (invV p (y.getD c 0)) (y.take u)) (pa := rmulV p (invV p (y.getD c 0)) (y.drop u)) (fun z hz => ?_) (fun z hz => ?_) (by simp only [List.length_set]; omega) (by omega) (by omega) (by simp only [List.length_set]; omega) (set_get hs1) (set_get hs2) (by omega) rfl, Option.bind_some]
    ·have e3 : rdW u (elmV p c r (prV p c y) W) = elmV p c r (rmulV p (invV p (y.getD c 0)) (y.take u)) (rdW u W) := by
      unfold rdW prV
      rw [elm_take (by omega), rmul_take]
     have e4 : alW u (elmV p c r (prV p c y) W) = elmA p c r (rmulV p (invV p (y.getD c 0)) (y.drop u)) (rdW u W) (alW u W) := by
      unfold rdW alW prV
      rw [elm_drop (by omega), rmul_drop]
     try dsimp only
     rw [og_true (by omega), Option.bind_some, elm_set, elmA_set, e3, e4]
     exact og_true (by omega) _
    ·rcases List.mem_or_eq_of_mem_set hz with hz | rfl
     ·exact hpm.tk hu _ hz
     ·exact q1
    ·rcases List.mem_or_eq_of_mem_set hz with hz | rfl
     ·exact hpm.dr _ hz
     ·exact q2
  ·refine .inr ?_
   rw [gjT_stop hlt n (by omega)]
   generalize gjT p m c = s at *
   try dsimp only
   unfold L_impl_reduction_l1
   rw [dec_t (by omega), cond_true, Option.bind_some, hlr, dec_f (by omega), cond_false]
 ·subst hI
  try dsimp only
  unfold L_impl_reduction_l1
  rw [dec_f (by omega), cond_false, Option.bind_some, cond_false]
theorem P_reduction {n u : Nat} (hp : isF p = true) (hm : MatW p w m) (hn : n <= u) (hu : u <= w) (hw : w <= 100000) (hl : m.length <= 100000) : L_impl_reduction p (rdW u m) (n : Int) (alW u m) = some (rdW u (gjT p m n).2, alW u (gjT p m n).2, (gjT p m n).1) := by
 unfold L_impl_reduction
 rw [P_imCols hp hm hn hu hw hl, Option.bind_some]
theorem P_clones (hm : MatW p w m) (hw : w <= 100000) (hl : m.length <= 100000) : L_impl_clones m = some m := by
 unfold L_impl_clones
 have h := loopM_app (body := fun s_ : Nat × List (List Int) => L_impl_clones_l1 m s_.1 s_.2) m id [] (F := 4611686018427387904) (by omega) m (fun i x h => ?_) ?_
 ·rw [og_true (by omega), show List.replicate 0 ([] : List Int) = [] from rfl, show loopM (fun s_ : Nat × List (List Int) => L_impl_clones_l1 m s_.1 s_.2) 4611686018427387904 (0, []) = some m by simpa using h]; rfl
 ·have := getN_lt h
  have hx := (hm x (List.mem_of_getElem? h)).1
  try dsimp only
  unfold L_impl_clones_l1
  rw [dec_t (by omega), cond_true, h, Option.bind_some, P_clone _ (by omega), Option.bind_some, og_true (by simp; omega), og_true (by omega)]; rfl
 ·try dsimp only
  unfold L_impl_clones_l1
  rw [dec_f (by omega), cond_false, List.map_id, List.nil_append]
end
end Go.Proofs.YtedphkkbjpcjeaaDoor
namespace Go.Proofs.YtedphkkbjpcjeaaDoor
def rowsV (p n : Int) (b : List (List Int)) : Bool := b.all fun x => ((x.length : Nat) : Int) == n && x.all fun a => inR a 0 (p - 1)
theorem inR_iff {a lo hi : Int} : inR a lo hi = true ↔ lo <= a ∧ a <= hi := by simp [inR]
theorem rowsV_mat {p : Int} {n : Nat} {b : List (List Int)} (h : rowsV p n b = true) : MatW p n b := by
 intro x hx
 have h1 := List.all_eq_true.1 h x hx
 simp only [Bool.and_eq_true, beq_iff_eq, List.all_eq_true, inR_iff] at h1
 exact ⟨by omega, fun a ha => by have := h1.2 a ha; omega⟩
theorem P_spRows (p n : Int) (b : List (List Int)) (hp : 2 <= p ∧ p <= 97) (hb : b.length <= 1048576) (hr : RowsB 1048576 b) : L_spec_spRows p n b = some (rowsV p n b) := by
 unfold L_spec_spRows
 rw [loopM_all b (fun x => ((x.length : Nat) : Int) == n && x.all fun a => inR a 0 (p - 1)) (.next ()) (.out false) (by omega) (fun i x h => ?_) ?_, seq_all]; rfl
 ·unfold L_spec_spRows_l1
  rw [dec_f (by omega), cond_false]
 ·have := getN_lt h
  have hx := hr x (List.mem_of_getElem? h)
  unfold L_spec_spRows_l1
  rw [dec_t (by omega), cond_true, h, Option.bind_some]
  cases hc : ((x.length : Nat) : Int) == n
  ·rw [show (((x.length : Nat) : Int) != n) = true by simp only [bne, hc, Bool.not_false], cond_true, Option.bind_some, cond_true, Bool.false_and]; rfl
  ·rw [show (((x.length : Nat) : Int) != n) = false by simp only [bne, hc, Bool.not_true], cond_false, P_fdIn p x hp (by omega), Option.bind_some, Option.bind_some, Bool.true_and, og_true (by omega)]
   cases x.all fun a => inR a 0 (p - 1) <;> rfl
theorem P_areVectors (p n : Int) (b : List (List Int)) (hb : b.length <= 1048576) (hr : RowsB 1048576 b) : L_impl_areVectors p b n = some (rowsV p n b) := by
 unfold L_impl_areVectors
 rw [loopM_all b (fun x => ((x.length : Nat) : Int) == n && x.all fun a => inR a 0 (p - 1)) (.next ()) (.out false) (by omega) (fun i x h => ?_) ?_, seq_all]; rfl
 ·unfold L_impl_areVectors_l1
  rw [dec_f (by omega), cond_false]
 ·have := getN_lt h
  have hx := hr x (List.mem_of_getElem? h)
  unfold L_impl_areVectors_l1
  rw [dec_t (by omega), cond_true, h, Option.bind_some, P_isVector p x n (by omega), Option.bind_some, og_true (by omega)]
  cases ((x.length : Nat) : Int) == n && x.all fun a => inR a 0 (p - 1) <;> rfl
theorem P_l1Same (x y : List Int) (hx : x.length <= 1048576) : L_spec_l1Same x y = some (x == y) := by
 unfold L_spec_l1Same
 by_cases h : x.length = y.length
 ·rw [show (((x.length : Nat) : Int) != ((y.length : Nat) : Int)) = false by rw [h]; exact bne_self_eq_false _, cond_false]
  have key : loopM (fun s_ : Nat => L_spec_l1Same_l1 x y s_) 4611686018427387904 0 = some (if x == y then .next () else .out false) := by
   refine loopM_eq x.length (fun i s => s = i ∧ x.take i = y.take i) (by omega) _ ⟨rfl, by simp⟩ ?_ ?_
   ·rintro i s hi ⟨hsi, ht⟩
    subst hsi
    unfold L_spec_l1Same_l1
    rw [dec_t (by omega), cond_true, List.getElem?_eq_getElem hi, Option.bind_some, List.getElem?_eq_getElem (show s < y.length by omega), Option.bind_some]
    by_cases he : x[s] = y[s]'(by omega)
    ·refine .inl ⟨s + 1, ?_, rfl, ?_⟩
     ·rw [show (x[s] != y[s]'(by omega)) = false by rw [he]; exact bne_self_eq_false _, cond_false, og_true (by omega)]
     ·rw [List.take_add_one, List.take_add_one, ht, List.getElem?_eq_getElem hi, List.getElem?_eq_getElem (show s < y.length by omega), he]
    ·refine .inr ?_
     rw [bne_iff_ne.2 he, cond_true, show (x == y) = false from by rw [beq_eq_false_iff_ne]; intro e; subst e; exact he rfl]; rfl
   ·rintro s ⟨hs, ht⟩
    subst hs
    rw [List.take_length, h, List.take_length] at ht
    subst ht
    unfold L_spec_l1Same_l1
    rw [dec_f (by omega), cond_false, beq_self_eq_true]; rfl
  rw [key]
  cases x == y <;> rfl
 ·rw [show (((x.length : Nat) : Int) != ((y.length : Nat) : Int)) = true by rw [bne_iff_ne]; omega, cond_true, show (x == y) = false from by rw [beq_eq_false_iff_ne]; intro e; subst e; exact h rfl]
theorem P_spSame (x y : List (List Int)) (hx : x.length <= 1048576) (hr : RowsB 1048576 x) : L_spec_spSame x y = some (x == y) := by
 unfold L_spec_spSame
 by_cases h : x.length = y.length
 ·rw [show (((x.length : Nat) : Int) != ((y.length : Nat) : Int)) = false by rw [h]; exact bne_self_eq_false _, cond_false]
  have key : loopM (fun s_ : Nat => L_spec_spSame_l1 x y s_) 4611686018427387904 0 = some (if x == y then .next () else .out false) := by
   refine loopM_eq x.length (fun i s => s = i ∧ x.take i = y.take i) (by omega) _ ⟨rfl, by simp⟩ ?_ ?_
   ·rintro i s hi ⟨hsi, ht⟩
    subst hsi
    unfold L_spec_spSame_l1
    rw [dec_t (by omega), cond_true, List.getElem?_eq_getElem hi, Option.bind_some, List.getElem?_eq_getElem (show s < y.length by omega), Option.bind_some, P_l1Same _ _ (hr _ (List.getElem_mem hi)), Option.bind_some]
    by_cases he : x[s] = y[s]'(by omega)
    ·refine .inl ⟨s + 1, ?_, rfl, ?_⟩
     ·rw [show (x[s] == y[s]'(by omega)) = true by rw [he]; exact beq_self_eq_true _, Bool.not_true, cond_false, og_true (by omega)]
     ·rw [List.take_add_one, List.take_add_one, ht, List.getElem?_eq_getElem hi, List.getElem?_eq_getElem (show s < y.length by omega), he]
    ·refine .inr ?_
     rw [beq_eq_false_iff_ne.2 he, Bool.not_false, cond_true, show (x == y) = false from by rw [beq_eq_false_iff_ne]; intro e; subst e; exact he rfl]; rfl
   ·rintro s ⟨hs, ht⟩
    subst hs
    rw [List.take_length, h, List.take_length] at ht
    subst ht
    unfold L_spec_spSame_l1
    rw [dec_f (by omega), cond_false, beq_self_eq_true]; rfl
  rw [key]
  cases x == y <;> rfl
 ·rw [show (((x.length : Nat) : Int) != ((y.length : Nat) : Int)) = true by rw [bne_iff_ne]; omega, cond_true, show (x == y) = false from by rw [beq_eq_false_iff_ne]; intro e; subst e; exact h rfl]
theorem P_reduced {p : Int} {w : Nat} {m : List (List Int)} (hp : isF p = true) (hm : MatW p w m) (hw : w <= 100000) (hl : m.length <= 100000) : L_impl_reduced p m (w : Int) = some (gj p w m) := by
 have hb := isF_bd hp
 obtain ⟨k1, h2, h3⟩ := gjT_ok hb.1 hm w
 have e1 : ∀ {m : List (List Int)}, MatW p w m -> rdW w m = m := fun {m} hm => by
  unfold rdW
  exact (List.map_congr_left (g := id) (fun x hx => List.take_of_length_le (Nat.le_of_eq (hm x hx).1))).trans (List.map_id _)
 have e2 : alW w m = List.replicate m.length [] := by
  unfold alW
  rw [List.eq_replicate_iff]
  refine ⟨List.length_map .., fun b hb => ?_⟩
  obtain ⟨x, hx, rfl⟩ := List.mem_map.1 hb
  exact List.drop_of_length_le (Nat.le_of_eq (hm x hx).1)
 have e3 : (alW w (gjT p m w).2).length = m.length := by rw [← h3]; exact List.length_map ..
 have hR := P_reduction hp hm (Nat.le_refl w) (Nat.le_refl w) hw hl
 rw [e1 hm, e2] at hR
 unfold L_impl_reduced
 rw [P_clones hm hw hl, Option.bind_some, og_true (by omega), hR, Option.bind_some]
 rw [e1 k1]
 rw [og_true h3, og_true e3]
 exact og_true (by dsimp only; omega) _
theorem P_pad (x : List Int) : L_impl_pad x = some (x.take 48 ++ (List.replicate 48 0).drop (x.take 48).length) := rfl
theorem pad_len (x : List Int) : (x.take 48 ++ (List.replicate 48 (0 : Int)).drop (x.take 48).length).length = 48 := by simp; omega
theorem pad_inj {x y : List Int} {n : Nat} (hx : x.length = n) (hy : y.length = n) (hn : n <= 48) (h : x.take 48 ++ (List.replicate 48 (0 : Int)).drop (x.take 48).length = y.take 48 ++ (List.replicate 48 (0 : Int)).drop (y.take 48).length) : x = y := by
 rw [List.take_of_length_le (by omega), List.take_of_length_le (show y.length <= 48 by omega)] at h
 exact (List.append_inj h (by omega)).1
theorem P_isReduced {p : Int} {n : Nat} (b : List (List Int)) (hp : isF p = true) (hn : n <= 48) (hb : b.length <= 1048576) (hr : RowsB 1048576 b) :
  L_impl_isReduced p b (n : Int) = some (decide (((b.length : Nat) : Int) <= n) && (rowsV p n b && gj p n b == b)) := by
 unfold L_impl_isReduced
 by_cases h1 : (n : Int) < b.length
 ·rw [dec_t h1, cond_true, Option.bind_some, cond_true, dec_f (by omega), Bool.false_and]
 rw [dec_f h1, cond_false, dec_t (show ((b.length : Nat) : Int) <= n by omega), Bool.true_and, P_areVectors p n b hb hr, Option.bind_some, Option.bind_some]
 cases hv : rowsV p n b
 ·rw [Bool.not_false, cond_true, Bool.false_and]
 have hm := rowsV_mat hv
 have hp2 := isF_bd hp
 have hl := (gjT_ok hp2.1 hm n).2
 have hgl := gj_len (n := n) hp2.1 hm
 have hgm := gj_mat (n := n) hp2.1 hm
 rw [Bool.not_true, cond_false, P_reduced hp hm (by omega) (by omega), Option.bind_some, Option.bind_some, Bool.true_and]
 have key : loopM (fun s_ : Nat => L_impl_isReduced_l1 (gj p n b) b s_) 4611686018427387904 0 = some (if gj p n b == b.take (gj p n b).length then .next () else .out false) := by
  generalize gj p n b = x at *
  refine loopM_eq x.length (fun i s => s = i ∧ x.take i = b.take i) (by omega) _ ⟨rfl, by simp⟩ ?_ ?_
  ·rintro i s hi ⟨hsi, ht⟩
   subst hsi
   have hs : s < b.length := by omega
   unfold L_impl_isReduced_l1
   rw [dec_t (by omega), cond_true, List.getElem?_eq_getElem hi, Option.bind_some, P_pad, Option.bind_some, List.getElem?_eq_getElem hs, Option.bind_some, P_pad, Option.bind_some, og_true ⟨pad_len _, pad_len _⟩]
   by_cases he : x[s] = b[s]
   ·refine .inl ⟨s + 1, ?_, rfl, ?_⟩
    ·rw [he, beq_self_eq_true, Bool.not_true, cond_false, og_true (by omega)]
    ·rw [List.take_add_one, List.take_add_one, ht, List.getElem?_eq_getElem hi, List.getElem?_eq_getElem hs, he]
   ·refine .inr ?_
    rw [beq_eq_false_iff_ne.2 (fun e => he (pad_inj (hgm _ (List.getElem_mem hi)).1 (hm _ (List.getElem_mem hs)).1 hn e)), Bool.not_false, cond_true, show (x == b.take x.length) = false from ?_]
    ·rfl
    ·rw [beq_eq_false_iff_ne]
     intro e
     refine he ?_
     have e2 := congrArg (fun l => l[s]?) e
     simp only [List.getElem?_take, if_pos hi, List.getElem?_eq_getElem hi, List.getElem?_eq_getElem hs, Option.some.injEq] at e2
     exact e2
  ·rintro s ⟨hs, ht⟩
   subst hs
   rw [List.take_length] at ht
   unfold L_impl_isReduced_l1
   rw [dec_f (by omega), cond_false, ← ht, beq_self_eq_true]; rfl
 rw [key]
 by_cases he : gj p n b = b.take (gj p n b).length
 ·rw [show (gj p n b == b.take (gj p n b).length) = true from beq_iff_eq.2 he]
  show some _ = _
  congr 1
  by_cases hll : (gj p n b).length = b.length
  ·rw [hll, List.take_length] at he
   rw [he, beq_self_eq_true, beq_self_eq_true]
  ·rw [show (gj p n b == b) = false from by rw [beq_eq_false_iff_ne]; exact fun e => hll (congrArg List.length e), beq_eq_false_iff_ne]; omega
 ·rw [beq_eq_false_iff_ne.2 he, show (gj p n b == b) = false from ?_]
  ·rfl
  ·rw [beq_eq_false_iff_ne]
   intro e
   exact he (by rw [e, List.take_length])
def goodR (p l r : Int) (b : List (List Int)) : Bool := isF p && (inR l 0 24 && (inR r 0 (24 - l) && (decide (((b.length : Nat) : Int) <= l + r) && (rowsV p (l + r) b && gj p (l + r).toNat b == b))))
theorem P_rlGood (p l r : Int) (b : List (List Int)) (hb : b.length <= 1048576) (hr : RowsB 1048576 b) : L_spec_rlGood p l r b = some (goodR p l r b) := by
 unfold L_spec_rlGood goodR
 rw [P_l1In, Option.bind_some]
 cases h1 : inR l 0 24
 ·rw [Bool.false_and, Bool.and_false]; rfl
 have h1' := inR_iff.1 h1
 rw [cond_true, i64_lt (n := 24 - l) (by omega) (by omega), P_l1In, Option.bind_some]
 cases h2 : inR r 0 (24 - l)
 ·rw [Bool.false_and, Bool.and_false, Bool.and_false]; rfl
 have h2' := inR_iff.1 h2
 rw [cond_true, i64_lt (by omega) (by omega)]
 unfold L_spec_spGood
 rw [P_fdGood, Option.bind_some]
 cases hp : isF p
 ·rfl
 rw [cond_true, P_l1In, Option.bind_some, inR_iff.2 (show 0 <= l + r ∧ l + r <= 24 by omega), cond_true]
 by_cases h3 : ((b.length : Nat) : Int) <= l + r
 ·obtain ⟨n, hn⟩ := Int.eq_ofNat_of_zero_le (show 0 <= l + r by omega)
  rw [dec_t h3, cond_true, hn, P_spRows p n b (isF_bd hp) hb hr, Option.bind_some]
  cases hv : rowsV p (n : Int) b
  ·rfl
  have hm := rowsV_mat hv
  have hgl := gj_len (n := n) (isF_bd hp).1 hm
  have hgm := gj_mat (n := n) (isF_bd hp).1 hm
  have hl := (gjT_ok (isF_bd hp).1 hm n).2
  rw [cond_true, P_spReduce hp hm (Nat.le_refl n) (by omega) (by omega), Option.bind_some, P_spSame _ _ (by omega) (fun x hx => by rw [(hgm x hx).1]; omega), Option.bind_some]
  rfl
 ·rw [dec_f h3]; rfl
theorem P_isRelation (p l r : Int) (b : List (List Int)) (hb : b.length <= 1048576) (hr : RowsB 1048576 b) : L_impl_isRelation p l r b = some (goodR p l r b) := by
 unfold L_impl_isRelation goodR
 rw [show L_impl_isField p = some (isF p) from rfl, Option.bind_some]
 cases hp : isF p
 ·rfl
 rw [cond_true, Bool.true_and]
 have hf : L_impl_fits l r = some (inR l 0 24 && inR r 0 (24 - l)) := by
  unfold L_impl_fits
  rw [P_within, Option.bind_some]
  cases h1 : inR l 0 24
  ·rfl
  have h1' := inR_iff.1 h1
  rw [cond_true, P_within, Option.bind_some, Bool.true_and]
  by_cases h2 : 0 <= r ∧ r <= 24
  ·rw [inR_iff.2 h2, cond_true, Option.bind_some, i64_lt (by omega) (by omega)]
   congr 1
   rw [Bool.eq_iff_iff, inR_iff]
   simp only [decide_eq_true_eq]
   omega
  ·rw [show inR r 0 24 = false from by rw [Bool.eq_false_iff]; exact fun h => h2 (inR_iff.1 h), cond_false, Option.bind_some]
   congr 1
   symm
   rw [Bool.eq_false_iff]
   intro h
   have := inR_iff.1 h
   exact h2 (by omega)
 rw [hf, Option.bind_some]
 cases h1 : inR l 0 24
 ·rfl
 have h1' := inR_iff.1 h1
 cases h2 : inR r 0 (24 - l)
 ·rfl
 have h2' := inR_iff.1 h2
 obtain ⟨n, hn⟩ := Int.eq_ofNat_of_zero_le (show 0 <= l + r by omega)
 rw [Bool.true_and, cond_true, i64_lt (by omega) (by omega), hn, P_isReduced b hp (by omega) hb hr]
 rfl
structure GoodR (p l r : Int) (b : List (List Int)) : Prop where
 fp : isF p = true
 hl : 0 <= l
 hr : 0 <= r
 hs : l + r <= 24
 lb : ((b.length : Nat) : Int) <= l + r
 mb : MatW p (l + r).toNat b
 rb : gj p (l + r).toNat b = b
theorem goodR_iff {p l r : Int} {b : List (List Int)} (h : goodR p l r b = true) : GoodR p l r b := by
 unfold goodR at h
 simp only [Bool.and_eq_true, inR_iff, decide_eq_true_eq, beq_iff_eq] at h
 obtain ⟨h1, h2, h3, h4, h5, h6⟩ := h
 refine ⟨h1, h2.1, h3.1, by omega, h4, ?_, h6⟩
 obtain ⟨n, hn⟩ := Int.eq_ofNat_of_zero_le (show 0 <= l + r by omega)
 rw [hn] at h5 ⊢
 exact rowsV_mat h5
theorem P_szRelation (l r : Int) (b : List (List Int)) {v : Int} (hv : 0 <= v ∧ v <= 1048576) (hn : b.length <= 9223372036854775807) (hb : RowsB 9223372036854775807 b) : L_laws_szRelation l r b v = some (szW v b) := by
 unfold L_laws_szRelation
 rw [P_szIntSS b hv hn hb, Option.bind_some]
 by_cases h : szW v b < 0
 ·rw [dec_t h, cond_true]
  congr 1
  unfold szW at h ⊢
  split at h <;> rename_i h'
  ·rw [if_pos h']
  ·omega
 ·rw [dec_f h, cond_false]
theorem P_toRelation (l r : Int) (b : List (List Int)) (hn : b.length <= 1048576) (hb : RowsB 1048576 b) : L_laws_toRelation l r b = some b := by
 unfold L_laws_toRelation
 rw [P_toIntSS b hn hb, Option.bind_some]
theorem P_eqRelation (l r : Int) (b : List (List Int)) (hn : b.length <= 1048576) (hb : RowsB 1048576 b) : L_laws_eqRelation l r b l r b = some true := by
 unfold L_laws_eqRelation
 rw [bne_self_eq_false, cond_false, bne_self_eq_false, cond_false, P_eqIntSS b hn hb, Option.bind_some, Bool.not_true, cond_false]
end Go.Proofs.YtedphkkbjpcjeaaDoor
namespace Go.Proofs.YtedphkkbjpcjeaaDoor
def dotI : List Int -> List Int -> Int
 | a :: x, b :: y => a * b + dotI x y
 | _, _ => 0
theorem dotI_snoc : ∀ {x y : List Int} {i : Nat} (h1 : i < x.length) (h2 : i < y.length), dotI (x.take (i + 1)) y = dotI (x.take i) y + x[i] * y[i]
 | [], _, _, h1, _ => by simp at h1
 | _ :: _, [], _, _, h2 => by simp at h2
 | a :: x, b :: y, 0, _, _ => by cases x <;> cases y <;> simp [dotI]
 | a :: x, b :: y, i + 1, h1, h2 => by
  simp only [List.take_succ_cons, dotI, List.getElem_cons_succ]
  rw [dotI_snoc (by simpa using h1) (by simpa using h2)]
  omega
theorem dotI_bd {p : Int} (hp : 2 <= p ∧ p <= 97) : ∀ {x y : List Int}, inV p x -> inV p y -> 0 <= dotI x y ∧ dotI x y <= 10000 * x.length
 | [], _, _, _ => by simp [dotI]
 | _ :: _, [], _, _ => by simp [dotI]; omega
 | a :: x, b :: y, h1, h2 => by
  have h3 := mul_bd hp (h1 a (by simp)) (h2 b (by simp))
  have h4 := dotI_bd hp (x := x) (y := y) (fun c hc => h1 c (by simp [hc])) (fun c hc => h2 c (by simp [hc]))
  simp only [dotI, List.length_cons]
  omega
theorem P_spDot {p : Int} {x y : List Int} (hp : 2 <= p ∧ p <= 97) (hx : inV p x) (hy : inV p y) (hl : x.length <= y.length) (hn : x.length <= 100000) : L_spec_spDot p x y = some (dotI x y % p) := by
 have h : loopM (fun s_ : Int × Nat => L_spec_spDot_l1 x y p s_.1 s_.2) 4611686018427387904 (0, 0) = some (dotI x y % p) := by
  refine loopM_det x.length (fun i => (dotI (x.take i) y % p, i)) (by omega) _ (by cases y <;> simp [dotI]) (fun i hi => ?_) ?_
  ·have h1 := hx _ (List.getElem_mem hi)
   have h2 := hy _ (List.getElem_mem (show i < y.length by omega))
   have h3 := mul_bd hp h1 h2
   have h4 := md_bdV (x := dotI (x.take i) y) hp.1
   try dsimp only
   unfold L_spec_spDot_l1
   rw [dec_t (by omega), cond_true, List.getElem?_eq_getElem hi, Option.bind_some, List.getElem?_eq_getElem (show i < y.length by omega), Option.bind_some, og_true (by omega), og_true (by omega), i64_lt (n := x[i] * y[i]'(by omega)) (by omega) (by omega), i64_lt (by omega) (by omega),
    Int.tmod_eq_emod_of_nonneg (by omega), dotI_snoc hi (by omega), Int.emod_add_emod]
  ·try dsimp only
   unfold L_spec_spDot_l1
   rw [dec_f (by omega), cond_false, List.take_length]
 unfold L_spec_spDot
 rw [h, Option.bind_some]
theorem P_dot {p : Int} {x y : List Int} (hp : 2 <= p ∧ p <= 97) (hx : inV p x) (hy : inV p y) (hl : x.length <= y.length) (hn : x.length <= 100000) : L_impl_dot p x y = some (dotI x y % p) := by
 have h : loopM (fun s_ : Int × Nat => L_impl_dot_l1 x y s_.1 s_.2) 4611686018427387904 (0, 0) = some (dotI x y) := by
  refine loopM_det x.length (fun i => (dotI (x.take i) y, i)) (by omega) _ (by cases y <;> simp [dotI]) (fun i hi => ?_) ?_
  ·have h1 := hx _ (List.getElem_mem hi)
   have h2 := hy _ (List.getElem_mem (show i < y.length by omega))
   have h3 := mul_bd hp h1 h2
   have h4 := dotI_bd hp (x := x.take i) (y := y) (fun a ha => hx a (List.mem_of_mem_take ha)) hy
   rw [List.length_take] at h4
   try dsimp only
   unfold L_impl_dot_l1
   rw [dec_t (by omega), cond_true, List.getElem?_eq_getElem hi, Option.bind_some, List.getElem?_eq_getElem (show i < y.length by omega), Option.bind_some, og_true (by omega), i64_lt (n := x[i] * y[i]'(by omega)) (by omega) (by omega), i64_lt (by omega) (by omega), dotI_snoc hi (by omega)]
  ·try dsimp only
   unfold L_impl_dot_l1
   rw [dec_f (by omega), cond_false, List.take_length]
 unfold L_impl_dot
 rw [h, Option.bind_some, P_mod hp, Option.bind_some]
def formV (p : Int) (x u : List Int) : Int := (dotI (x.take (x.length / 2)) (u.drop (x.length / 2)) - dotI (x.drop (x.length / 2)) (u.take (x.length / 2))) % p
theorem half_eq {n : Nat} (h : n <= 100000) : IntKind.i64.wrap (Int.tdiv (n : Int) 2) = ((n / 2 : Nat) : Int) := by
 rw [show Int.tdiv (n : Int) 2 = ((n / 2 : Nat) : Int) from rfl, i64_lt (by omega) (by omega)]
theorem P_nwForm {p : Int} {x u : List Int} {k : Nat} (hp : 2 <= p ∧ p <= 97) (hx : VecW p (2 * k) x) (hu : VecW p (2 * k) u) (hk : k <= 100) : L_spec_nwForm p x u = some (formV p x u) := by
 have l1 := hx.1
 have l2 := hu.1
 have e : x.length / 2 = k := by omega
 have a1 : inV p (x.take k) := fun a ha => hx.2 a (List.mem_of_mem_take ha)
 have a2 : inV p (u.take k) := fun a ha => hu.2 a (List.mem_of_mem_take ha)
 have a3 : inV p (x.drop k) := fun a ha => hx.2 a (List.mem_of_mem_drop ha)
 have a4 : inV p (u.drop k) := fun a ha => hu.2 a (List.mem_of_mem_drop ha)
 unfold L_spec_nwForm formV
 rw [half_eq (by omega), e, Int.toNat_natCast, og_true (by omega), og_true (by omega), P_spDot hp a1 a4 (by simp; omega) (by simp; omega), Option.bind_some, og_true (by omega), og_true (by omega), P_spDot hp a3 a2 (by simp; omega) (by simp; omega), Option.bind_some,
  P_fdSub hp (md_bdV hp.1) (md_bdV hp.1), Option.bind_some, ← Int.sub_emod]
theorem P_symplectic {p : Int} {x u : List Int} {k : Nat} (hp : 2 <= p ∧ p <= 97) (hx : VecW p (2 * k) x) (hu : VecW p (2 * k) u) (hk : k <= 100) : L_impl_symplectic p x u = some (formV p x u) := by
 have l1 := hx.1
 have l2 := hu.1
 have e : x.length / 2 = k := by omega
 have a1 : inV p (x.take k) := fun a ha => hx.2 a (List.mem_of_mem_take ha)
 have a2 : inV p (u.take k) := fun a ha => hu.2 a (List.mem_of_mem_take ha)
 have a3 : inV p (x.drop k) := fun a ha => hx.2 a (List.mem_of_mem_drop ha)
 have a4 : inV p (u.drop k) := fun a ha => hu.2 a (List.mem_of_mem_drop ha)
 have b1 := md_bdV (x := dotI (x.take k) (u.drop k)) hp.1
 have b2 := md_bdV (x := dotI (x.drop k) (u.take k)) hp.1
 unfold L_impl_symplectic formV
 rw [half_eq (by omega), e, Int.toNat_natCast, og_true (by omega), og_true (by omega), P_dot hp a1 a4 (by simp; omega) (by simp; omega), Option.bind_some, og_true (by omega), og_true (by omega), P_dot hp a3 a2 (by simp; omega) (by simp; omega), Option.bind_some,
  i64_lt (by omega) (by omega), P_mod hp, Option.bind_some, ← Int.sub_emod]
def lagV (p : Int) (k : Nat) (b : List (List Int)) : Bool := b.all fun x => b.all fun u => formV p (x.take k) (u.take k) == formV p (x.drop k) (u.drop k)
theorem first_P {l r : Int} {b : List (List Int)} {x : List Int} (h : 0 <= l ∧ l <= x.length) : L_impl_Relation_first l r b x = some l.toNat := og_true h _
theorem second_P {l r : Int} {b : List (List Int)} {x : List Int} (h : 0 <= l ∧ l <= x.length) : L_impl_Relation_second l r b x = some (l.toNat, x.length) := og_true h _
section
variable {p l r : Int} {b : List (List Int)}
theorem evens (h1 : Int.tmod l 2 = 0) (h2 : 0 <= l) : ∃ k : Nat, l = ((2 * k : Nat) : Int) := by
 rw [Int.tmod_eq_emod_of_nonneg h2] at h1
 exact ⟨(l / 2).toNat, by omega⟩
theorem P_lagSpec {k1 k2 : Nat} (G : GoodR p l r b) (e1 : l = ((2 * k1 : Nat) : Int)) (e2 : r = ((2 * k2 : Nat) : Int)) :
  loopM (fun s_ : Nat => L_spec_IsLagrangian_l1 b l p s_) 4611686018427387904 0 = some (if lagV p (2 * k1) b then Ctl.next () else .out (false, true)) := by
 have hp := isF_bd G.fp
 have hs := G.hs
 have hlb := G.lb
 have hm : MatW p (2 * k1 + 2 * k2) b := by have := G.mb; rwa [show (l + r).toNat = 2 * k1 + 2 * k2 by omega] at this
 refine loopM_all b (fun x => b.all fun u => formV p (x.take (2 * k1)) (u.take (2 * k1)) == formV p (x.drop (2 * k1)) (u.drop (2 * k1))) _ _ (by omega) (fun i x hx => ?_) ?_
 ·have hi := getN_lt hx
  have hX := hm x (List.mem_of_getElem? hx)
  have hin : loopM (fun s_ : Nat => L_spec_IsLagrangian_l2 b l x p s_) 4611686018427387904 0 = some (if b.all (fun u => formV p (x.take (2 * k1)) (u.take (2 * k1)) == formV p (x.drop (2 * k1)) (u.drop (2 * k1))) then Ctl.next () else .out (.out (.out (false, true)))) := by
   refine loopM_all b (fun u => formV p (x.take (2 * k1)) (u.take (2 * k1)) == formV p (x.drop (2 * k1)) (u.drop (2 * k1))) _ _ (by omega) (fun j u hu => ?_) ?_
   ·have hj := getN_lt hu
    have hU := hm u (List.mem_of_getElem? hu)
    have q1 := hX.1
    have q2 := hU.1
    have d1 := hX.dr (u := 2 * k1)
    have d2 := hU.dr (u := 2 * k1)
    rw [show 2 * k1 + 2 * k2 - 2 * k1 = 2 * k2 by omega] at d1 d2
    unfold L_spec_IsLagrangian_l2
    rw [dec_t (by omega), cond_true, hu, Option.bind_some, e1, Int.toNat_natCast, og_true (by omega), og_true (by omega), P_nwForm hp (hX.tk (by omega)) (hU.tk (by omega)) (by omega), Option.bind_some, og_true (by omega), og_true (by omega), P_nwForm hp d1 d2 (by omega), Option.bind_some, og_true (by omega)]
    simp only [bne]
    cases formV p (x.take (2 * k1)) (u.take (2 * k1)) == formV p (x.drop (2 * k1)) (u.drop (2 * k1)) <;> rfl
   ·unfold L_spec_IsLagrangian_l2
    rw [dec_f (by omega), cond_false]
  unfold L_spec_IsLagrangian_l1
  rw [dec_t (by omega), cond_true, hx, Option.bind_some, hin, og_true (by omega)]
  cases b.all fun u => formV p (x.take (2 * k1)) (u.take (2 * k1)) == formV p (x.drop (2 * k1)) (u.drop (2 * k1)) <;> rfl
 ·unfold L_spec_IsLagrangian_l1
  rw [dec_f (by omega), cond_false]
theorem P_lagImpl {k1 k2 : Nat} (G : GoodR p l r b) (e1 : l = ((2 * k1 : Nat) : Int)) (e2 : r = ((2 * k2 : Nat) : Int)) :
  loopM (fun s_ : Nat => L_impl_IsLagrangian_l1 b l r p s_) 4611686018427387904 0 = some (if lagV p (2 * k1) b then Ctl.next () else .out (false, true)) := by
 have hp := isF_bd G.fp
 have hs := G.hs
 have hlb := G.lb
 have hm : MatW p (2 * k1 + 2 * k2) b := by have := G.mb; rwa [show (l + r).toNat = 2 * k1 + 2 * k2 by omega] at this
 refine loopM_all b (fun x => b.all fun u => formV p (x.take (2 * k1)) (u.take (2 * k1)) == formV p (x.drop (2 * k1)) (u.drop (2 * k1))) _ _ (by omega) (fun i x hx => ?_) ?_
 ·have hi := getN_lt hx
  have hX := hm x (List.mem_of_getElem? hx)
  have hin : loopM (fun s_ : Nat => L_impl_IsLagrangian_l2 b l r x p s_) 4611686018427387904 0 = some (if b.all (fun u => formV p (x.take (2 * k1)) (u.take (2 * k1)) == formV p (x.drop (2 * k1)) (u.drop (2 * k1))) then Ctl.next () else .out (.out (.out (false, true)))) := by
   refine loopM_all b (fun u => formV p (x.take (2 * k1)) (u.take (2 * k1)) == formV p (x.drop (2 * k1)) (u.drop (2 * k1))) _ _ (by omega) (fun j u hu => ?_) ?_
   ·have hj := getN_lt hu
    have hU := hm u (List.mem_of_getElem? hu)
    have q1 := hX.1
    have q2 := hU.1
    have d1 := hX.dr (u := 2 * k1)
    have d2 := hU.dr (u := 2 * k1)
    rw [show 2 * k1 + 2 * k2 - 2 * k1 = 2 * k2 by omega] at d1 d2
    unfold L_impl_IsLagrangian_l2
    rw [dec_t (by omega), cond_true, hu, Option.bind_some, first_P (by omega), Option.bind_some, first_P (by omega), Option.bind_some, e1, Int.toNat_natCast, P_symplectic hp (hX.tk (by omega)) (hU.tk (by omega)) (by omega), Option.bind_some, second_P (by omega), Option.bind_some, second_P (by omega), Option.bind_some]
    dsimp only
    rw [Int.toNat_natCast, P_symplectic hp d1 d2 (by omega), Option.bind_some, og_true (by omega)]
    simp only [bne]
    cases formV p (x.take (2 * k1)) (u.take (2 * k1)) == formV p (x.drop (2 * k1)) (u.drop (2 * k1)) <;> rfl
   ·unfold L_impl_IsLagrangian_l2
    rw [dec_f (by omega), cond_false]
  unfold L_impl_IsLagrangian_l1
  rw [dec_t (by omega), cond_true, hx, Option.bind_some, hin, og_true (by omega)]
  cases b.all fun u => formV p (x.take (2 * k1)) (u.take (2 * k1)) == formV p (x.drop (2 * k1)) (u.drop (2 * k1)) <;> rfl
 ·unfold L_impl_IsLagrangian_l1
  rw [dec_f (by omega), cond_false]
theorem P_lagBoth (hb : b.length <= 1048576) (hr : RowsB 1048576 b) : ∃ v, L_spec_IsLagrangian p l r b = some v ∧ L_impl_IsLagrangian p l r b = some v := by
 unfold L_spec_IsLagrangian L_impl_IsLagrangian
 rw [P_rlGood p l r b hb hr, P_isRelation p l r b hb hr]
 cases hg : goodR p l r b
 ·exact ⟨_, rfl, rfl⟩
 have G := goodR_iff hg
 have h1 := G.hl
 have h2 := G.hr
 have h3 := G.hs
 have h4 := G.lb
 rw [Option.bind_some, Bool.not_true, cond_false]
 by_cases c1 : Int.tmod l 2 = 0
 ·by_cases c2 : Int.tmod r 2 = 0
  ·obtain ⟨k1, e1⟩ := evens c1 h1
   obtain ⟨k2, e2⟩ := evens c2 h2
   rw [c1, c2]
   unfold L_impl_Relation_size
   simp only [bne_self_eq_false, cond_false, Option.bind_some]
   rw [P_lagSpec G e1 e2, P_lagImpl G e1 e2, i64_lt (n := 2 * ((b.length : Nat) : Int)) (by omega) (by omega), i64_lt (n := l + r) (by omega) (by omega), show Int.tdiv (l + r) 2 = ((k1 + k2 : Nat) : Int) from by
    rw [Int.tdiv_eq_ediv_of_nonneg (by omega)]; omega, i64_lt (by omega) (by omega)]
   have e : (2 * ((b.length : Nat) : Int) != l + r) = (((b.length : Nat) : Int) != ((k1 + k2 : Nat) : Int)) := by
    rw [Bool.eq_iff_iff, bne_iff_ne, bne_iff_ne]
    omega
   rw [e]
   cases ((b.length : Nat) : Int) != ((k1 + k2 : Nat) : Int) <;> cases lagV p (2 * k1) b <;> exact ⟨_, rfl, rfl⟩
  ·rw [c1, bne_iff_ne.2 c2]
   exact ⟨_, rfl, rfl⟩
 ·rw [bne_iff_ne.2 c1]
  exact ⟨_, rfl, rfl⟩
theorem P_lawLag (h1 : b.length <= 9223372036854775807) (h2 : RowsB 9223372036854775807 b) : L_laws_FnExactIsLagrangian p l r b = some true := by
 unfold L_laws_FnExactIsLagrangian
 rw [P_szRelation l r b (by omega) h1 h2, Option.bind_some]
 by_cases hz : szW 1048576 b < 0
 ·rw [dec_t hz, cond_true]
 rw [dec_f hz, cond_false]
 obtain ⟨z1, z2, _⟩ := szW_bd (by omega) hz
 obtain ⟨v, hs, hi⟩ := P_lagBoth (p := p) (l := l) (r := r) (b := b) (by omega) z2
 simp only [P_toRelation l r b (by omega) z2, hs, hi, Option.bind_some, P_eqRelation l r b (by omega) z2, bne_self_eq_false, Bool.not_true, cond_false]
end
end Go.Proofs.YtedphkkbjpcjeaaDoor
namespace Go.Proofs.YtedphkkbjpcjeaaDoor
open Go.RowKit Go.Deep
theorem isLagrangian_walk (p : Int) (rLeft : Int) (rRight : Int) (rBasis : List (List Int)) (A_rBasis : Option Addr) (c_rBasis : Nat) (l_rBasis : List Addr) (w : World) (_i_p : -9223372036854775808 <= p ∧ p <= 9223372036854775807) (_i_rLeft : -9223372036854775808 <= rLeft ∧ rLeft <= 9223372036854775807) (_i_rRight : -9223372036854775808 <= rRight ∧ rRight <= 9223372036854775807) (s_rBasis : Sl (fun _ => True) w (.slice .int) A_rBasis c_rBasis rBasis l_rBasis) (_i_rBasis : Ty.In (.slice (.slice .int)) rBasis) (tab : Tab w) :
  Calls Tryd.prog 4 #[.int .i64 p, .agg #[.int .i64 rLeft, .int .i64 rRight, .slice A_rBasis rBasis.length c_rBasis]] w fun e w' => e = .returned (.bool true) ∧ Below w.heap.size w w' := by
 have hl : L_laws_FnExactIsLagrangian p rLeft rRight rBasis = some true := P_lawLag (sl_len s_rBasis).2 (sl_rows s_rBasis)
 refine (ok_laws_FnExactIsLagrangian hl w (fun _ => True) [.int .i64 p, .agg #[.int .i64 rLeft, .int .i64 rRight, .slice A_rBasis rBasis.length c_rBasis]] (fun w' hb => tab.below hb) ⟨_, _, rfl, rfl, ⟨_, _, rfl, ⟨_, rfl, ⟨_, _, rfl, rfl, ⟨_, _, rfl, rfl, ⟨_, _, rfl, ⟨A_rBasis, c_rBasis, l_rBasis, rfl, s_rBasis⟩, rfl⟩⟩⟩⟩, rfl⟩⟩).mono ?_
 rintro e w' ⟨u, rfl, hb, us, ls, h1, _, rfl⟩
 obtain ⟨u1, us1, rfl, h2, _, rfl, rfl⟩ := h1
 obtain rfl : u1 = .bool true := h2
 exact ⟨rfl, hb⟩
end Go.Proofs.YtedphkkbjpcjeaaDoor
