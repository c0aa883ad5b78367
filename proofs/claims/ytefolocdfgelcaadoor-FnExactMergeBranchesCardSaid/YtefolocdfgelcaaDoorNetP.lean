/- What the partial functions of lists and networks come to; no condition. -/
import Derived.Test.YtefolocdfgelcaaDoorNA
import Derived.Test.YtefolocdfgelcaaDoorL2
namespace Go.Proofs.YtefolocdfgelcaaDoor

def szV (v : Int) (n : Nat) : Int := if v < n then -1 else v - n
theorem P_szIntS (xs : List Int) {v : Int} (hv : 0 ≤ v ∧ v ≤ 1048576) (hx : xs.length ≤ 9223372036854775807) : L_laws_szIntS xs v = some (szV v xs.length) := by
  unfold L_laws_szIntS szV
  rw [i64_lt (by omega) (by omega)]
  by_cases h : v < xs.length
  · rw [dec_t (by omega), if_pos h]; rfl
  · rw [dec_f (by omega), if_neg h]; rfl
theorem P_toIntS (xs : List Int) (hx : xs.length ≤ 1073741824) : L_laws_toIntS xs = some xs := by
  unfold L_laws_toIntS
  rw [og_true (by omega)]
  have h : loopM (fun s_ : Nat × List Int => L_laws_toIntS_l1 xs s_.1 s_.2) 4611686018427387904 (0, List.replicate xs.length (0 : Int)) = some xs := by
    refine loopM_det xs.length (fun i => (i, xs.take i ++ List.replicate (xs.length - i) 0)) (by omega) xs (by simp) (fun i hi => ?_) ?_
    · have hx := List.getElem?_eq_getElem hi
      try dsimp only
      unfold L_laws_toIntS_l1
      rw [dec_t (by omega), cond_true, hx, Option.bind_some, pfill_get hi, Option.bind_some, og_true (by omega), pfill_set hx]
    · try dsimp only
      unfold L_laws_toIntS_l1
      rw [dec_f (by omega), cond_false]
      simp
  rw [h]; rfl
theorem P_eqIntS (xs : List Int) (hx : xs.length ≤ 1073741824) : L_laws_eqIntS xs xs = some true := by
  unfold L_laws_eqIntS
  have h : loopM (fun s_ : Nat => L_laws_eqIntS_l1 xs xs s_) 4611686018427387904 0 = some (.next ()) := by
    refine loopM_det xs.length (fun i => i) (by omega) _ rfl (fun i hi => ?_) ?_
    · have hx := List.getElem?_eq_getElem hi
      try dsimp only
      unfold L_laws_eqIntS_l1
      rw [dec_t (by omega), cond_true, hx, Option.bind_some, Option.bind_some, bne_self_eq_false, cond_false, og_true (by omega)]
    · try dsimp only
      unfold L_laws_eqIntS_l1
      rw [dec_f (by omega), cond_false]
  rw [h, bne_self_eq_false, cond_false]; rfl
theorem P_markIntS (xs : List Int) {v : Int} (hv : 0 ≤ v ∧ v ≤ 1152921504606846976) (hx : xs.length ≤ 1073741824) :
    ∃ ys, L_laws_markIntS xs v = some (ys, v + xs.length) ∧ ys.length = xs.length ∧ L_laws_heldIntS ys v = some (v + xs.length) := by
  refine ⟨(List.range xs.length).map fun j : Nat => v + (j : Int), ?_, by simp, ?_⟩
  · unfold L_laws_markIntS
    have h : loopM (fun s_ : Int × Nat × List Int => L_laws_markIntS_l1 s_.1 s_.2.1 s_.2.2) 4611686018427387904 (v, 0, xs) = some (v + xs.length, (List.range xs.length).map fun j : Nat => v + (j : Int)) := by
      refine loopM_det xs.length (fun i => (v + i, i, (List.range i).map (fun j : Nat => v + (j : Int)) ++ xs.drop i)) (by omega) _ (by simp) (fun i hi => ?_) ?_
      · have hl : ((List.range i).map fun j : Nat => v + (j : Int)).length = i := by simp
        try dsimp only
        unfold L_laws_markIntS_l1
        rw [dec_t (by rw [List.length_append, hl, List.length_drop]; omega), cond_true, pover_get hi hl, Option.bind_some, og_true (by omega), pover_set hi hl, i64_lt (by omega) (by omega), List.range_succ, List.map_append]
        simp [Int.add_assoc]
      · try dsimp only
        unfold L_laws_markIntS_l1
        rw [dec_f (by simp), cond_false]
        simp
    rw [h]; rfl
  · unfold L_laws_heldIntS
    have h : loopM (fun s_ : Int × Nat => L_laws_heldIntS_l1 ((List.range xs.length).map fun j : Nat => v + (j : Int)) s_.1 s_.2) 4611686018427387904 (v, 0) = some (.next (v + xs.length)) := by
      refine loopM_det xs.length (fun i => (v + i, i)) (by omega) _ (by simp) (fun i hi => ?_) ?_
      · have hg : ((List.range xs.length).map fun j : Nat => v + (j : Int))[i]? = some (v + i) := by simp [hi]
        try dsimp only
        unfold L_laws_heldIntS_l1
        rw [dec_t (by simp; omega), cond_true, hg, Option.bind_some, bne_self_eq_false, cond_false, og_true (by omega), i64_lt (by omega) (by omega)]
        simp [Int.add_assoc]
      · try dsimp only
        unfold L_laws_heldIntS_l1
        rw [dec_f (by simp), cond_false]
    rw [h]; rfl

theorem P_szBranchS (xs : List (Int × Int × Int)) {v : Int} (hv : 0 ≤ v ∧ v ≤ 1048576) (hx : xs.length ≤ 9223372036854775807) : L_laws_szBranchS xs v = some (szV v xs.length) := by
  unfold L_laws_szBranchS szV
  rw [i64_lt (by omega) (by omega)]
  by_cases h : v < xs.length
  · rw [dec_t (by omega), if_pos h]; rfl
  · rw [dec_f (by omega), if_neg h]; rfl
theorem P_toBranchS (xs : List (Int × Int × Int)) (hx : xs.length ≤ 1073741824) : L_laws_toBranchS xs = some xs := by
  unfold L_laws_toBranchS
  rw [og_true (by omega)]
  have h : loopM (fun s_ : Nat × List (Int × Int × Int) => L_laws_toBranchS_l1 xs s_.1 s_.2) 4611686018427387904 (0, List.replicate xs.length ((0, 0, 0) : Int × Int × Int)) = some xs := by
    refine loopM_det xs.length (fun i => (i, xs.take i ++ List.replicate (xs.length - i) (0, 0, 0))) (by omega) xs (by simp) (fun i hi => ?_) ?_
    · have hx := List.getElem?_eq_getElem hi
      try dsimp only
      unfold L_laws_toBranchS_l1 L_laws_toBranch
      rw [dec_t (by omega), cond_true, hx, Option.bind_some, Option.bind_some, pfill_get hi, Option.bind_some, og_true (by omega), pfill_set hx]
    · try dsimp only
      unfold L_laws_toBranchS_l1
      rw [dec_f (by omega), cond_false]
      simp
  rw [h]; rfl
theorem P_eqBranchS (xs : List (Int × Int × Int)) (hx : xs.length ≤ 1073741824) : L_laws_eqBranchS xs xs = some true := by
  unfold L_laws_eqBranchS
  have h : loopM (fun s_ : Nat => L_laws_eqBranchS_l1 xs xs s_) 4611686018427387904 0 = some (.next ()) := by
    refine loopM_det xs.length (fun i => i) (by omega) _ rfl (fun i hi => ?_) ?_
    · have hx := List.getElem?_eq_getElem hi
      try dsimp only
      unfold L_laws_eqBranchS_l1 L_laws_eqBranch
      rw [dec_t (by omega), cond_true, hx, Option.bind_some, Option.bind_some]
      simp only [bne_self_eq_false, cond_false, Option.bind_some, Bool.not_true]
      rw [og_true (by omega)]
    · try dsimp only
      unfold L_laws_eqBranchS_l1
      rw [dec_f (by omega), cond_false]
  rw [h, bne_self_eq_false, cond_false]; rfl
theorem P_markBranchS (xs : List (Int × Int × Int)) {v : Int} (hv : 0 ≤ v ∧ v ≤ 1152921504606846976) (hx : xs.length ≤ 1073741824) :
    ∃ ys, L_laws_markBranchS xs v = some (ys, v + 3 * xs.length) ∧ ys.length = xs.length ∧ L_laws_heldBranchS ys v = some (v + 3 * xs.length) := by
  refine ⟨(List.range xs.length).map fun j : Nat => (v + 3 * (j : Int), v + 3 * (j : Int) + 1, v + 3 * (j : Int) + 1 + 1), ?_, by simp, ?_⟩
  · unfold L_laws_markBranchS
    have h : loopM (fun s_ : Int × Nat × List (Int × Int × Int) => L_laws_markBranchS_l1 s_.1 s_.2.1 s_.2.2) 4611686018427387904 (v, 0, xs) = some (v + 3 * xs.length, (List.range xs.length).map fun j : Nat => (v + 3 * (j : Int), v + 3 * (j : Int) + 1, v + 3 * (j : Int) + 1 + 1)) := by
      refine loopM_det xs.length (fun i => (v + 3 * i, i, (List.range i).map (fun j : Nat => (v + 3 * (j : Int), v + 3 * (j : Int) + 1, v + 3 * (j : Int) + 1 + 1)) ++ xs.drop i)) (by omega) _ (by simp) (fun i hi => ?_) ?_
      · have hl : ((List.range i).map fun j : Nat => (v + 3 * (j : Int), v + 3 * (j : Int) + 1, v + 3 * (j : Int) + 1 + 1)).length = i := by simp
        try dsimp only
        unfold L_laws_markBranchS_l1
        have e1 : IntKind.i64.wrap (v + 3 * i + 1) = v + 3 * i + 1 := i64_lt (by omega) (by omega)
        have e2 : IntKind.i64.wrap (v + 3 * i + 1 + 1) = v + 3 * i + 1 + 1 := i64_lt (by omega) (by omega)
        have e3 : IntKind.i64.wrap (v + 3 * i + 1 + 1 + 1) = v + 3 * i + 1 + 1 + 1 := i64_lt (by omega) (by omega)
        rw [dec_t (by rw [List.length_append, hl, List.length_drop]; omega), cond_true, pover_get hi hl, Option.bind_some, e1, e2, e3, pover_set hi hl, pover_get' hl, Option.bind_some, pover_set' hl, pover_get' hl, Option.bind_some, pover_set' hl, og_true (by omega), List.range_succ, List.map_append]
        simp [Int.mul_add, Int.add_assoc]
      · try dsimp only
        unfold L_laws_markBranchS_l1
        rw [dec_f (by simp), cond_false]
        simp
    rw [h]; rfl
  · unfold L_laws_heldBranchS
    have h : loopM (fun s_ : Int × Nat => L_laws_heldBranchS_l1 ((List.range xs.length).map fun j : Nat => (v + 3 * (j : Int), v + 3 * (j : Int) + 1, v + 3 * (j : Int) + 1 + 1)) s_.1 s_.2) 4611686018427387904 (v, 0) = some (.next (v + 3 * xs.length)) := by
      refine loopM_det xs.length (fun i => (v + 3 * i, i)) (by omega) _ (by simp) (fun i hi => ?_) ?_
      · have hg : ((List.range xs.length).map fun j : Nat => (v + 3 * (j : Int), v + 3 * (j : Int) + 1, v + 3 * (j : Int) + 1 + 1))[i]? = some (v + 3 * i, v + 3 * i + 1, v + 3 * i + 1 + 1) := by simp [hi]
        try dsimp only
        unfold L_laws_heldBranchS_l1
        have e1 : IntKind.i64.wrap (v + 3 * i + 1) = v + 3 * i + 1 := i64_lt (by omega) (by omega)
        have e2 : IntKind.i64.wrap (v + 3 * i + 1 + 1) = v + 3 * i + 1 + 1 := i64_lt (by omega) (by omega)
        have e3 : IntKind.i64.wrap (v + 3 * i + 1 + 1 + 1) = v + 3 * i + 1 + 1 + 1 := i64_lt (by omega) (by omega)
        rw [dec_t (by simp; omega), cond_true, hg, Option.bind_some, e1, e2, e3]
        simp only [bne_self_eq_false, cond_false]
        rw [og_true (by omega)]
        simp [Int.mul_add, Int.add_assoc]
      · try dsimp only
        unfold L_laws_heldBranchS_l1
        rw [dec_f (by simp), cond_false]
    rw [h]; rfl

theorem P_szNetwork (n : Int) (b : List (Int × Int × Int)) (l r : List Int) {v : Int} (hv : 0 ≤ v ∧ v ≤ 1048576) (hb : b.length ≤ 9223372036854775807) (hl : l.length ≤ 9223372036854775807) (hr : r.length ≤ 9223372036854775807) : L_laws_szNetwork n b l r v = some (szV v (b.length + l.length + r.length)) := by
  unfold L_laws_szNetwork
  rw [P_szBranchS b hv hb, Option.bind_some]
  by_cases h1 : v < b.length
  · rw [show szV v b.length = -1 from if_pos h1, show szV v (b.length + l.length + r.length) = -1 from if_pos (by omega)]; rfl
  rw [show szV v b.length = v - b.length from if_neg h1, dec_f (by omega), cond_false, P_szIntS l (by omega) hl, Option.bind_some]
  by_cases h2 : v - b.length < l.length
  · rw [show szV (v - b.length) l.length = -1 from if_pos h2, show szV v (b.length + l.length + r.length) = -1 from if_pos (by omega)]; rfl
  rw [show szV (v - b.length) l.length = v - b.length - l.length from if_neg h2, dec_f (by omega), cond_false, P_szIntS r (by omega) hr, Option.bind_some]
  by_cases h3 : v - b.length - l.length < r.length
  · rw [show szV (v - b.length - l.length) r.length = -1 from if_pos h3, show szV v (b.length + l.length + r.length) = -1 from if_pos (by omega)]; rfl
  rw [show szV (v - b.length - l.length) r.length = v - b.length - l.length - r.length from if_neg h3, dec_f (by omega), cond_false, show szV v (b.length + l.length + r.length) = v - b.length - l.length - r.length from by unfold szV; rw [if_neg (by omega)]; omega]
theorem P_toNetwork (n : Int) (b : List (Int × Int × Int)) (l r : List Int) (hb : b.length ≤ 1073741824) (hl : l.length ≤ 1073741824) (hr : r.length ≤ 1073741824) : L_laws_toNetwork n b l r = some (n, b, l, r) := by
  unfold L_laws_toNetwork
  rw [P_toBranchS b hb, P_toIntS l hl, P_toIntS r hr]; rfl
theorem P_eqNetwork (n : Int) (b : List (Int × Int × Int)) (l r : List Int) (hb : b.length ≤ 1073741824) (hl : l.length ≤ 1073741824) (hr : r.length ≤ 1073741824) : L_laws_eqNetwork n b l r n b l r = some true := by
  unfold L_laws_eqNetwork
  rw [P_eqBranchS b hb, P_eqIntS l hl, P_eqIntS r hr, bne_self_eq_false]; rfl
theorem P_markNetwork (n : Int) (b : List (Int × Int × Int)) (l r : List Int) {v : Int} (hv : 0 ≤ v ∧ v ≤ 576460752303423488) (hb : b.length ≤ 1073741824) (hl : l.length ≤ 1073741824) (hr : r.length ≤ 1073741824) :
    ∃ b' l' r', ∃ u : Int, v ≤ u ∧ u ≤ v + 8589934592 ∧ L_laws_markNetwork n b l r v = some (b', l', r', u) ∧ b'.length = b.length ∧ l'.length = l.length ∧ r'.length = r.length ∧ L_laws_heldNetwork n b' l' r' v = some u := by
  obtain ⟨b', m1, n1, k1⟩ := P_markBranchS b (v := v) (by omega) hb
  obtain ⟨l', m2, n2, k2⟩ := P_markIntS l (v := v + 3 * b.length) (by omega) hl
  obtain ⟨r', m3, n3, k3⟩ := P_markIntS r (v := v + 3 * b.length + l.length) (by omega) hr
  refine ⟨b', l', r', v + 3 * b.length + l.length + r.length, by omega, by omega, ?_, n1, n2, n3, ?_⟩
  · unfold L_laws_markNetwork
    rw [m1, Option.bind_some, og_true n1, m2, Option.bind_some, og_true n2, m3, Option.bind_some, og_true n3]
  · unfold L_laws_heldNetwork
    rw [k1, Option.bind_some, dec_f (by omega), cond_false, k2, Option.bind_some, dec_f (by omega), cond_false, k3, Option.bind_some, dec_f (by omega), cond_false]
end Go.Proofs.YtefolocdfgelcaaDoor
