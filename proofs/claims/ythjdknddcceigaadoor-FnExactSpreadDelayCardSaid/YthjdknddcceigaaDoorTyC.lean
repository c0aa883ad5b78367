/- What the copies, comparisons and marks of lists and structs come to; no condition. -/
import Derived.Test.YthjdknddcceigaaDoorB1
import Derived.Test.YthjdknddcceigaaDoorL2
namespace Go.Proofs.YthjdknddcceigaaDoor
def szV (v : Int) (n : Nat) : Int := if v < n then -1 else v - n
theorem P_szIntS (xs : List Int) {v : Int} (hv : 0 ≤ v ∧ v ≤ 1048576) (hx : xs.length ≤ 9223372036854775807) : L_laws_szIntS xs v = some (szV v xs.length) := by
  unfold L_laws_szIntS szV
  rw [i64_lt (by omega) (by omega)]
  by_cases h : v < xs.length
  · rw [dec_t (by omega), if_pos h]; rfl
  · rw [dec_f (by omega), if_neg h]; rfl
theorem P_toIntS (xs : List Int) (hx : xs.length ≤ 1073741824) : L_laws_toIntS xs = some xs := by
  unfold L_laws_toIntS
  rw [og_true (by omega)]
  have h : loopM (fun s_ : Nat × List Int => L_laws_toIntS_l1 xs s_.1 s_.2) 4611686018427387904 (0, List.replicate xs.length (0 : Int)) = some xs := by
    refine loopM_det xs.length (fun i => (i, xs.take i ++ List.replicate (xs.length - i) 0)) (by omega) xs (by simp) (fun i hi => ?_) ?_
    · have hx := List.getElem?_eq_getElem hi
      try dsimp only
      unfold L_laws_toIntS_l1
      rw [dec_t (by omega), cond_true, hx, Option.bind_some, pfill_get hi, Option.bind_some, og_true (by omega), pfill_set hx]
    · try dsimp only
      unfold L_laws_toIntS_l1
      rw [dec_f (by omega), cond_false]
      simp
  rw [h]; rfl
theorem P_eqIntS (xs : List Int) (hx : xs.length ≤ 1073741824) : L_laws_eqIntS xs xs = some true := by
  unfold L_laws_eqIntS
  have h : loopM (fun s_ : Nat => L_laws_eqIntS_l1 xs xs s_) 4611686018427387904 0 = some (.next ()) := by
    refine loopM_det xs.length (fun i => i) (by omega) _ rfl (fun i hi => ?_) ?_
    · have hx := List.getElem?_eq_getElem hi
      try dsimp only
      unfold L_laws_eqIntS_l1
      rw [dec_t (by omega), cond_true, hx, Option.bind_some, Option.bind_some, bne_self_eq_false, cond_false, og_true (by omega)]
    · try dsimp only
      unfold L_laws_eqIntS_l1
      rw [dec_f (by omega), cond_false]
  rw [h, bne_self_eq_false, cond_false]; rfl
theorem P_markIntS (xs : List Int) {v : Int} (hv : 0 ≤ v ∧ v ≤ 1152921504606846976) (hx : xs.length ≤ 1073741824) :
    ∃ ys, L_laws_markIntS xs v = some (ys, v + xs.length) ∧ ys.length = xs.length ∧ L_laws_heldIntS ys v = some (v + xs.length) := by
  refine ⟨(List.range xs.length).map fun j : Nat => v + (j : Int), ?_, by simp, ?_⟩
  · unfold L_laws_markIntS
    have h : loopM (fun s_ : Int × Nat × List Int => L_laws_markIntS_l1 s_.1 s_.2.1 s_.2.2) 4611686018427387904 (v, 0, xs) = some (v + xs.length, (List.range xs.length).map fun j : Nat => v + (j : Int)) := by
      refine loopM_det xs.length (fun i => (v + i, i, (List.range i).map (fun (j : Nat) => v + (j : Int)) ++ xs.drop i)) (by omega) _ (by simp) (fun i hi => ?_) ?_
      · have hl : ((List.range i).map fun j : Nat => v + (j : Int)).length = i := by simp
        try dsimp only
        unfold L_laws_markIntS_l1
        rw [dec_t (by rw [List.length_append, hl, List.length_drop]; omega), cond_true, pover_get hi hl, Option.bind_some, og_true (by omega), pover_set hi hl, i64_lt (by omega) (by omega), List.range_succ, List.map_append]
        simp [Int.add_assoc]
      · try dsimp only
        unfold L_laws_markIntS_l1
        rw [dec_f (by simp), cond_false]
        simp
    rw [h]; rfl
  · unfold L_laws_heldIntS
    have h : loopM (fun s_ : Int × Nat => L_laws_heldIntS_l1 ((List.range xs.length).map fun j : Nat => v + (j : Int)) s_.1 s_.2) 4611686018427387904 (v, 0) = some (.next (v + xs.length)) := by
      refine loopM_det xs.length (fun i => (v + i, i)) (by omega) _ (by simp) (fun i hi => ?_) ?_
      · have hg : ((List.range xs.length).map fun j : Nat => v + (j : Int))[i]? = some (v + i) := by simp [hi]
        try dsimp only
        unfold L_laws_heldIntS_l1
        rw [dec_t (by simp; omega), cond_true, hg, Option.bind_some, bne_self_eq_false, cond_false, og_true (by omega), i64_lt (by omega) (by omega)]
        simp [Int.add_assoc]
      · try dsimp only
        unfold L_laws_heldIntS_l1
        rw [dec_f (by simp), cond_false]
    rw [h]; rfl
theorem P_szGateS (xs : List (Int × Int × Int × Int)) {v : Int} (hv : 0 ≤ v ∧ v ≤ 1048576) (hx : xs.length ≤ 9223372036854775807) : L_laws_szGateS xs v = some (szV v xs.length) := by
  unfold L_laws_szGateS szV
  rw [i64_lt (by omega) (by omega)]
  by_cases h : v < xs.length
  · rw [dec_t (by omega), if_pos h]; rfl
  · rw [dec_f (by omega), if_neg h]; rfl
theorem P_toGateS (xs : List (Int × Int × Int × Int)) (hx : xs.length ≤ 1073741824) : L_laws_toGateS xs = some xs := by
  unfold L_laws_toGateS
  rw [og_true (by omega)]
  have h : loopM (fun s_ : Nat × List (Int × Int × Int × Int) => L_laws_toGateS_l1 xs s_.1 s_.2) 4611686018427387904 (0, List.replicate xs.length ((0, 0, 0, 0) : Int × Int × Int × Int)) = some xs := by
    refine loopM_det xs.length (fun i => (i, xs.take i ++ List.replicate (xs.length - i) (0, 0, 0, 0))) (by omega) xs (by simp) (fun i hi => ?_) ?_
    · have hx := List.getElem?_eq_getElem hi
      try dsimp only
      unfold L_laws_toGateS_l1 L_laws_toGate
      rw [dec_t (by omega), cond_true, hx, Option.bind_some, Option.bind_some, pfill_get hi, Option.bind_some, og_true (by omega), pfill_set hx]
    · try dsimp only
      unfold L_laws_toGateS_l1
      rw [dec_f (by omega), cond_false]
      simp
  rw [h]; rfl
theorem P_eqGateS (xs : List (Int × Int × Int × Int)) (hx : xs.length ≤ 1073741824) : L_laws_eqGateS xs xs = some true := by
  unfold L_laws_eqGateS
  have h : loopM (fun s_ : Nat => L_laws_eqGateS_l1 xs xs s_) 4611686018427387904 0 = some (.next ()) := by
    refine loopM_det xs.length (fun i => i) (by omega) _ rfl (fun i hi => ?_) ?_
    · have hx := List.getElem?_eq_getElem hi
      try dsimp only
      unfold L_laws_eqGateS_l1 L_laws_eqGate
      rw [dec_t (by omega), cond_true, hx, Option.bind_some, Option.bind_some]
      simp only [bne_self_eq_false, cond_false, Option.bind_some, Bool.not_true]
      rw [og_true (by omega)]
    · try dsimp only
      unfold L_laws_eqGateS_l1
      rw [dec_f (by omega), cond_false]
  rw [h, bne_self_eq_false, cond_false]; rfl
theorem P_markGateS (xs : List (Int × Int × Int × Int)) {v : Int} (hv : 0 ≤ v ∧ v ≤ 576460752303423488) (hx : xs.length ≤ 1073741824) :
    ∃ ys, L_laws_markGateS xs v = some (ys, v + 4 * xs.length) ∧ ys.length = xs.length ∧ L_laws_heldGateS ys v = some (v + 4 * xs.length) := by
  refine ⟨(List.range xs.length).map fun j : Nat => (v + 4 * (j : Int), v + 4 * (j : Int) + 1, v + 4 * (j : Int) + 1 + 1, v + 4 * (j : Int) + 1 + 1 + 1), ?_, by simp, ?_⟩
  · unfold L_laws_markGateS
    have h : loopM (fun s_ : Int × Nat × List (Int × Int × Int × Int) => L_laws_markGateS_l1 s_.1 s_.2.1 s_.2.2) 4611686018427387904 (v, 0, xs) = some (v + 4 * xs.length, (List.range xs.length).map fun j : Nat => (v + 4 * (j : Int), v + 4 * (j : Int) + 1, v + 4 * (j : Int) + 1 + 1, v + 4 * (j : Int) + 1 + 1 + 1)) := by
      refine loopM_det xs.length (fun i => (v + 4 * i, i, (List.range i).map (fun (j : Nat) => (v + 4 * (j : Int), v + 4 * (j : Int) + 1, v + 4 * (j : Int) + 1 + 1, v + 4 * (j : Int) + 1 + 1 + 1)) ++ xs.drop i)) (by omega) _ (by simp) (fun i hi => ?_) ?_
      · have hl : ((List.range i).map fun j : Nat => (v + 4 * (j : Int), v + 4 * (j : Int) + 1, v + 4 * (j : Int) + 1 + 1, v + 4 * (j : Int) + 1 + 1 + 1)).length = i := by simp
        try dsimp only
        unfold L_laws_markGateS_l1
        have e1 : IntKind.i64.wrap (v + 4 * i + 1) = v + 4 * i + 1 := i64_lt (by omega) (by omega)
        have e2 : IntKind.i64.wrap (v + 4 * i + 1 + 1) = v + 4 * i + 1 + 1 := i64_lt (by omega) (by omega)
        have e3 : IntKind.i64.wrap (v + 4 * i + 1 + 1 + 1) = v + 4 * i + 1 + 1 + 1 := i64_lt (by omega) (by omega)
        have e4 : IntKind.i64.wrap (v + 4 * i + 1 + 1 + 1 + 1) = v + 4 * i + 1 + 1 + 1 + 1 := i64_lt (by omega) (by omega)
        rw [dec_t (by rw [List.length_append, hl, List.length_drop]; omega), cond_true, pover_get hi hl, Option.bind_some, e1, e2, e3, e4, pover_set hi hl, pover_get' hl, Option.bind_some, pover_set' hl, pover_get' hl, Option.bind_some, pover_set' hl, pover_get' hl, Option.bind_some, pover_set' hl, og_true (by omega), List.range_succ, List.map_append]
        simp [Int.mul_add, Int.add_assoc]
      · try dsimp only
        unfold L_laws_markGateS_l1
        rw [dec_f (by simp), cond_false]
        simp
    rw [h]; rfl
  · unfold L_laws_heldGateS
    have h : loopM (fun s_ : Int × Nat => L_laws_heldGateS_l1 ((List.range xs.length).map fun j : Nat => (v + 4 * (j : Int), v + 4 * (j : Int) + 1, v + 4 * (j : Int) + 1 + 1, v + 4 * (j : Int) + 1 + 1 + 1)) s_.1 s_.2) 4611686018427387904 (v, 0) = some (.next (v + 4 * xs.length)) := by
      refine loopM_det xs.length (fun i => (v + 4 * i, i)) (by omega) _ (by simp) (fun i hi => ?_) ?_
      · have hg : ((List.range xs.length).map fun j : Nat => (v + 4 * (j : Int), v + 4 * (j : Int) + 1, v + 4 * (j : Int) + 1 + 1, v + 4 * (j : Int) + 1 + 1 + 1))[i]? = some (v + 4 * i, v + 4 * i + 1, v + 4 * i + 1 + 1, v + 4 * i + 1 + 1 + 1) := by simp [hi]
        try dsimp only
        unfold L_laws_heldGateS_l1
        have e1 : IntKind.i64.wrap (v + 4 * i + 1) = v + 4 * i + 1 := i64_lt (by omega) (by omega)
        have e2 : IntKind.i64.wrap (v + 4 * i + 1 + 1) = v + 4 * i + 1 + 1 := i64_lt (by omega) (by omega)
        have e3 : IntKind.i64.wrap (v + 4 * i + 1 + 1 + 1) = v + 4 * i + 1 + 1 + 1 := i64_lt (by omega) (by omega)
        have e4 : IntKind.i64.wrap (v + 4 * i + 1 + 1 + 1 + 1) = v + 4 * i + 1 + 1 + 1 + 1 := i64_lt (by omega) (by omega)
        rw [dec_t (by simp; omega), cond_true, hg, Option.bind_some, e1, e2, e3, e4]
        simp only [bne_self_eq_false, cond_false]
        rw [og_true (by omega)]
        simp [Int.mul_add, Int.add_assoc]
      · try dsimp only
        unfold L_laws_heldGateS_l1
        rw [dec_f (by simp), cond_false]
    rw [h]; rfl
theorem P_szCircuit (n0 : Int) (s1 : List (Int × Int × Int × Int)) (s2 : List Int) {v : Int} (hv : 0 ≤ v ∧ v ≤ 1048576) (hs1 : s1.length ≤ 9223372036854775807) (hs2 : s2.length ≤ 9223372036854775807) : L_laws_szCircuit n0 s1 s2 v = some (szV v (s1.length + s2.length)) := by
  unfold L_laws_szCircuit
  rw [P_szGateS s1 (by omega) hs1, Option.bind_some]
  by_cases h0 : v < s1.length
  · rw [show szV v s1.length = -1 from if_pos h0, show szV v (s1.length + s2.length) = -1 from if_pos (by omega)]; rfl
  rw [show szV v s1.length = v - s1.length from if_neg h0, dec_f (by omega), cond_false]
  rw [P_szIntS s2 (by omega) hs2, Option.bind_some]
  by_cases h1 : v - s1.length < s2.length
  · rw [show szV (v - s1.length) s2.length = -1 from if_pos h1, show szV v (s1.length + s2.length) = -1 from if_pos (by omega)]; rfl
  rw [show szV (v - s1.length) s2.length = v - s1.length - s2.length from if_neg h1, dec_f (by omega), cond_false, show szV v (s1.length + s2.length) = v - s1.length - s2.length from by unfold szV; rw [if_neg (by omega)]; omega]
theorem P_toCircuit (n0 : Int) (s1 : List (Int × Int × Int × Int)) (s2 : List Int) (hs1 : s1.length ≤ 1073741824) (hs2 : s2.length ≤ 1073741824) : L_laws_toCircuit n0 s1 s2 = some (n0, s1, s2) := by
  unfold L_laws_toCircuit
  rw [P_toGateS s1 hs1, P_toIntS s2 hs2]; rfl
theorem P_eqCircuit (n0 : Int) (s1 : List (Int × Int × Int × Int)) (s2 : List Int) (hs1 : s1.length ≤ 1073741824) (hs2 : s2.length ≤ 1073741824) : L_laws_eqCircuit n0 s1 s2 n0 s1 s2 = some true := by
  unfold L_laws_eqCircuit
  simp only [P_eqGateS s1 hs1, P_eqIntS s2 hs2, bne_self_eq_false, cond_false, Option.bind_some, Bool.not_true]
theorem P_markCircuit (n0 : Int) (s1 : List (Int × Int × Int × Int)) (s2 : List Int) {v : Int} (hv : 0 ≤ v ∧ v ≤ 288230376151711744) (hs1 : s1.length ≤ 1073741824) (hs2 : s2.length ≤ 1073741824) :
    ∃ s1' s2', ∃ u : Int, v ≤ u ∧ u ≤ v + 5368709120 ∧ L_laws_markCircuit n0 s1 s2 v = some (s1', s2', u) ∧ s1'.length = s1.length ∧ s2'.length = s2.length ∧ L_laws_heldCircuit n0 s1' s2' v = some u := by
  obtain ⟨s1', m0, q0, k0⟩ := P_markGateS s1 (v := v) (by omega) hs1
  obtain ⟨s2', m1, q1, k1⟩ := P_markIntS s2 (v := v + 4 * s1.length) (by omega) hs2
  refine ⟨s1', s2', v + 4 * s1.length + s2.length, by omega, by omega, ?_, q0, q1, ?_⟩
  · unfold L_laws_markCircuit
    rw [m0, Option.bind_some, og_true q0, m1, Option.bind_some, og_true q1]
  · unfold L_laws_heldCircuit
    rw [k0, Option.bind_some, dec_f (by omega), cond_false, k1, Option.bind_some, dec_f (by omega), cond_false]
end Go.Proofs.YthjdknddcceigaaDoor
