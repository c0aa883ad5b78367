/- What the copies, comparisons and marks of lists and structs come to; no condition. -/
import Derived.Test.YtomijolkdmaimaaDoorB1
import Derived.Test.YtomijolkdmaimaaDoorL2
namespace Go.Proofs.YtomijolkdmaimaaDoor
def szV (v : Int) (n : Nat) : Int := if v < n then -1 else v - n
theorem P_szIntS (xs : List Int) {v : Int} (hv : 0 ≤ v ∧ v ≤ 1048576) (hx : xs.length ≤ 9223372036854775807) : L_laws_szIntS xs v = some (szV v xs.length) := by
  unfold L_laws_szIntS szV
  rw [i64_lt (by omega) (by omega)]
  by_cases h : v < xs.length
  · rw [dec_t (by omega), if_pos h]; rfl
  · rw [dec_f (by omega), if_neg h]; rfl
theorem P_toIntS (xs : List Int) (hx : xs.length ≤ 1073741824) : L_laws_toIntS xs = some xs := by
  unfold L_laws_toIntS
  rw [og_true (by omega)]
  have h : loopM (fun s_ : Nat × List Int => L_laws_toIntS_l1 xs s_.1 s_.2) 4611686018427387904 (0, List.replicate xs.length (0 : Int)) = some xs := by
    refine loopM_det xs.length (fun i => (i, xs.take i ++ List.replicate (xs.length - i) 0)) (by omega) xs (by simp) (fun i hi => ?_) ?_
    · have hx := List.getElem?_eq_getElem hi
      try dsimp only
      unfold L_laws_toIntS_l1
      rw [dec_t (by omega), cond_true, hx, Option.bind_some, pfill_get hi, Option.bind_some, og_true (by omega), pfill_set hx]
    · try dsimp only
      unfold L_laws_toIntS_l1
      rw [dec_f (by omega), cond_false]
      simp
  rw [h]; rfl
theorem P_eqIntS (xs : List Int) (hx : xs.length ≤ 1073741824) : L_laws_eqIntS xs xs = some true := by
  unfold L_laws_eqIntS
  have h : loopM (fun s_ : Nat => L_laws_eqIntS_l1 xs xs s_) 4611686018427387904 0 = some (.next ()) := by
    refine loopM_det xs.length (fun i => i) (by omega) _ rfl (fun i hi => ?_) ?_
    · have hx := List.getElem?_eq_getElem hi
      try dsimp only
      unfold L_laws_eqIntS_l1
      rw [dec_t (by omega), cond_true, hx, Option.bind_some, Option.bind_some, bne_self_eq_false, cond_false, og_true (by omega)]
    · try dsimp only
      unfold L_laws_eqIntS_l1
      rw [dec_f (by omega), cond_false]
  rw [h, bne_self_eq_false, cond_false]; rfl
theorem P_markIntS (xs : List Int) {v : Int} (hv : 0 ≤ v ∧ v ≤ 1152921504606846976) (hx : xs.length ≤ 1073741824) :
    ∃ ys, L_laws_markIntS xs v = some (ys, v + xs.length) ∧ ys.length = xs.length ∧ L_laws_heldIntS ys v = some (v + xs.length) := by
  refine ⟨(List.range xs.length).map fun j : Nat => v + (j : Int), ?_, by simp, ?_⟩
  · unfold L_laws_markIntS
    have h : loopM (fun s_ : Int × Nat × List Int => L_laws_markIntS_l1 s_.1 s_.2.1 s_.2.2) 4611686018427387904 (v, 0, xs) = some (v + xs.length, (List.range xs.length).map fun j : Nat => v + (j : Int)) := by
      refine loopM_det xs.length (fun i => (v + i, i, (List.range i).map (fun (j : Nat) => v + (j : Int)) ++ xs.drop i)) (by omega) _ (by simp) (fun i hi => ?_) ?_
      · have hl : ((List.range i).map fun j : Nat => v + (j : Int)).length = i := by simp
        try dsimp only
        unfold L_laws_markIntS_l1
        rw [dec_t (by rw [List.length_append, hl, List.length_drop]; omega), cond_true, pover_get hi hl, Option.bind_some, og_true (by omega), pover_set hi hl, i64_lt (by omega) (by omega), List.range_succ, List.map_append]
        simp [Int.add_assoc]
      · try dsimp only
        unfold L_laws_markIntS_l1
        rw [dec_f (by simp), cond_false]
        simp
    rw [h]; rfl
  · unfold L_laws_heldIntS
    have h : loopM (fun s_ : Int × Nat => L_laws_heldIntS_l1 ((List.range xs.length).map fun j : Nat => v + (j : Int)) s_.1 s_.2) 4611686018427387904 (v, 0) = some (.next (v + xs.length)) := by
      refine loopM_det xs.length (fun i => (v + i, i)) (by omega) _ (by simp) (fun i hi => ?_) ?_
      · have hg : ((List.range xs.length).map fun j : Nat => v + (j : Int))[i]? = some (v + i) := by simp [hi]
        try dsimp only
        unfold L_laws_heldIntS_l1
        rw [dec_t (by simp; omega), cond_true, hg, Option.bind_some, bne_self_eq_false, cond_false, og_true (by omega), i64_lt (by omega) (by omega)]
        simp [Int.add_assoc]
      · try dsimp only
        unfold L_laws_heldIntS_l1
        rw [dec_f (by simp), cond_false]
    rw [h]; rfl
theorem P_szInstrS (xs : List (Int × Int × Int × Int × Int)) {v : Int} (hv : 0 ≤ v ∧ v ≤ 1048576) (hx : xs.length ≤ 9223372036854775807) : L_laws_szInstrS xs v = some (szV v xs.length) := by
  unfold L_laws_szInstrS szV
  rw [i64_lt (by omega) (by omega)]
  by_cases h : v < xs.length
  · rw [dec_t (by omega), if_pos h]; rfl
  · rw [dec_f (by omega), if_neg h]; rfl
theorem P_toInstrS (xs : List (Int × Int × Int × Int × Int)) (hx : xs.length ≤ 1073741824) : L_laws_toInstrS xs = some xs := by
  unfold L_laws_toInstrS
  rw [og_true (by omega)]
  have h : loopM (fun s_ : Nat × List (Int × Int × Int × Int × Int) => L_laws_toInstrS_l1 xs s_.1 s_.2) 4611686018427387904 (0, List.replicate xs.length ((0, 0, 0, 0, 0) : Int × Int × Int × Int × Int)) = some xs := by
    refine loopM_det xs.length (fun i => (i, xs.take i ++ List.replicate (xs.length - i) (0, 0, 0, 0, 0))) (by omega) xs (by simp) (fun i hi => ?_) ?_
    · have hx := List.getElem?_eq_getElem hi
      try dsimp only
      unfold L_laws_toInstrS_l1 L_laws_toInstr
      rw [dec_t (by omega), cond_true, hx, Option.bind_some, Option.bind_some, pfill_get hi, Option.bind_some, og_true (by omega), pfill_set hx]
    · try dsimp only
      unfold L_laws_toInstrS_l1
      rw [dec_f (by omega), cond_false]
      simp
  rw [h]; rfl
theorem P_eqInstrS (xs : List (Int × Int × Int × Int × Int)) (hx : xs.length ≤ 1073741824) : L_laws_eqInstrS xs xs = some true := by
  unfold L_laws_eqInstrS
  have h : loopM (fun s_ : Nat => L_laws_eqInstrS_l1 xs xs s_) 4611686018427387904 0 = some (.next ()) := by
    refine loopM_det xs.length (fun i => i) (by omega) _ rfl (fun i hi => ?_) ?_
    · have hx := List.getElem?_eq_getElem hi
      try dsimp only
      unfold L_laws_eqInstrS_l1 L_laws_eqInstr
      rw [dec_t (by omega), cond_true, hx, Option.bind_some, Option.bind_some]
      simp only [bne_self_eq_false, cond_false, Option.bind_some, Bool.not_true]
      rw [og_true (by omega)]
    · try dsimp only
      unfold L_laws_eqInstrS_l1
      rw [dec_f (by omega), cond_false]
  rw [h, bne_self_eq_false, cond_false]; rfl
theorem P_markInstrS (xs : List (Int × Int × Int × Int × Int)) {v : Int} (hv : 0 ≤ v ∧ v ≤ 576460752303423488) (hx : xs.length ≤ 1073741824) :
    ∃ ys, L_laws_markInstrS xs v = some (ys, v + 5 * xs.length) ∧ ys.length = xs.length ∧ L_laws_heldInstrS ys v = some (v + 5 * xs.length) := by
  refine ⟨(List.range xs.length).map fun j : Nat => (v + 5 * (j : Int), v + 5 * (j : Int) + 1, v + 5 * (j : Int) + 1 + 1, v + 5 * (j : Int) + 1 + 1 + 1, v + 5 * (j : Int) + 1 + 1 + 1 + 1), ?_, by simp, ?_⟩
  · unfold L_laws_markInstrS
    have h : loopM (fun s_ : Int × Nat × List (Int × Int × Int × Int × Int) => L_laws_markInstrS_l1 s_.1 s_.2.1 s_.2.2) 4611686018427387904 (v, 0, xs) = some (v + 5 * xs.length, (List.range xs.length).map fun j : Nat => (v + 5 * (j : Int), v + 5 * (j : Int) + 1, v + 5 * (j : Int) + 1 + 1, v + 5 * (j : Int) + 1 + 1 + 1, v + 5 * (j : Int) + 1 + 1 + 1 + 1)) := by
      refine loopM_det xs.length (fun i => (v + 5 * i, i, (List.range i).map (fun (j : Nat) => (v + 5 * (j : Int), v + 5 * (j : Int) + 1, v + 5 * (j : Int) + 1 + 1, v + 5 * (j : Int) + 1 + 1 + 1, v + 5 * (j : Int) + 1 + 1 + 1 + 1)) ++ xs.drop i)) (by omega) _ (by simp) (fun i hi => ?_) ?_
      · have hl : ((List.range i).map fun j : Nat => (v + 5 * (j : Int), v + 5 * (j : Int) + 1, v + 5 * (j : Int) + 1 + 1, v + 5 * (j : Int) + 1 + 1 + 1, v + 5 * (j : Int) + 1 + 1 + 1 + 1)).length = i := by simp
        try dsimp only
        unfold L_laws_markInstrS_l1
        have e1 : IntKind.i64.wrap (v + 5 * i + 1) = v + 5 * i + 1 := i64_lt (by omega) (by omega)
        have e2 : IntKind.i64.wrap (v + 5 * i + 1 + 1) = v + 5 * i + 1 + 1 := i64_lt (by omega) (by omega)
        have e3 : IntKind.i64.wrap (v + 5 * i + 1 + 1 + 1) = v + 5 * i + 1 + 1 + 1 := i64_lt (by omega) (by omega)
        have e4 : IntKind.i64.wrap (v + 5 * i + 1 + 1 + 1 + 1) = v + 5 * i + 1 + 1 + 1 + 1 := i64_lt (by omega) (by omega)
        have e5 : IntKind.i64.wrap (v + 5 * i + 1 + 1 + 1 + 1 + 1) = v + 5 * i + 1 + 1 + 1 + 1 + 1 := i64_lt (by omega) (by omega)
        rw [dec_t (by rw [List.length_append, hl, List.length_drop]; omega), cond_true, pover_get hi hl, Option.bind_some, e1, e2, e3, e4, e5, pover_set hi hl, pover_get' hl, Option.bind_some, pover_set' hl, pover_get' hl, Option.bind_some, pover_set' hl, pover_get' hl, Option.bind_some, pover_set' hl, pover_get' hl, Option.bind_some, pover_set' hl, og_true (by omega), List.range_succ, List.map_append]
        simp [Int.mul_add, Int.add_assoc]
      · try dsimp only
        unfold L_laws_markInstrS_l1
        rw [dec_f (by simp), cond_false]
        simp
    rw [h]; rfl
  · unfold L_laws_heldInstrS
    have h : loopM (fun s_ : Int × Nat => L_laws_heldInstrS_l1 ((List.range xs.length).map fun j : Nat => (v + 5 * (j : Int), v + 5 * (j : Int) + 1, v + 5 * (j : Int) + 1 + 1, v + 5 * (j : Int) + 1 + 1 + 1, v + 5 * (j : Int) + 1 + 1 + 1 + 1)) s_.1 s_.2) 4611686018427387904 (v, 0) = some (.next (v + 5 * xs.length)) := by
      refine loopM_det xs.length (fun i => (v + 5 * i, i)) (by omega) _ (by simp) (fun i hi => ?_) ?_
      · have hg : ((List.range xs.length).map fun j : Nat => (v + 5 * (j : Int), v + 5 * (j : Int) + 1, v + 5 * (j : Int) + 1 + 1, v + 5 * (j : Int) + 1 + 1 + 1, v + 5 * (j : Int) + 1 + 1 + 1 + 1))[i]? = some (v + 5 * i, v + 5 * i + 1, v + 5 * i + 1 + 1, v + 5 * i + 1 + 1 + 1, v + 5 * i + 1 + 1 + 1 + 1) := by simp [hi]
        try dsimp only
        unfold L_laws_heldInstrS_l1
        have e1 : IntKind.i64.wrap (v + 5 * i + 1) = v + 5 * i + 1 := i64_lt (by omega) (by omega)
        have e2 : IntKind.i64.wrap (v + 5 * i + 1 + 1) = v + 5 * i + 1 + 1 := i64_lt (by omega) (by omega)
        have e3 : IntKind.i64.wrap (v + 5 * i + 1 + 1 + 1) = v + 5 * i + 1 + 1 + 1 := i64_lt (by omega) (by omega)
        have e4 : IntKind.i64.wrap (v + 5 * i + 1 + 1 + 1 + 1) = v + 5 * i + 1 + 1 + 1 + 1 := i64_lt (by omega) (by omega)
        have e5 : IntKind.i64.wrap (v + 5 * i + 1 + 1 + 1 + 1 + 1) = v + 5 * i + 1 + 1 + 1 + 1 + 1 := i64_lt (by omega) (by omega)
        rw [dec_t (by simp; omega), cond_true, hg, Option.bind_some, e1, e2, e3, e4, e5]
        simp only [bne_self_eq_false, cond_false]
        rw [og_true (by omega)]
        simp [Int.mul_add, Int.add_assoc]
      · try dsimp only
        unfold L_laws_heldInstrS_l1
        rw [dec_f (by simp), cond_false]
    rw [h]; rfl
theorem P_szProgram (n0 : Int) (n1 : Int) (n2 : Int) (n3 : Int) (s4 : List (Int × Int × Int × Int × Int)) {v : Int} (hv : 0 ≤ v ∧ v ≤ 1048576) (hs4 : s4.length ≤ 9223372036854775807) : L_laws_szProgram n0 n1 n2 n3 s4 v = some (szV v (s4.length)) := by
  unfold L_laws_szProgram
  rw [P_szInstrS s4 (by omega) hs4, Option.bind_some]
  by_cases h0 : v < s4.length
  · rw [show szV v s4.length = -1 from if_pos h0]; rfl
  rw [show szV v s4.length = v - s4.length from if_neg h0, dec_f (by omega), cond_false]
theorem P_toProgram (n0 : Int) (n1 : Int) (n2 : Int) (n3 : Int) (s4 : List (Int × Int × Int × Int × Int)) (hs4 : s4.length ≤ 1073741824) : L_laws_toProgram n0 n1 n2 n3 s4 = some (n0, n1, n2, n3, s4) := by
  unfold L_laws_toProgram
  rw [P_toInstrS s4 hs4]; rfl
theorem P_eqProgram (n0 : Int) (n1 : Int) (n2 : Int) (n3 : Int) (s4 : List (Int × Int × Int × Int × Int)) (hs4 : s4.length ≤ 1073741824) : L_laws_eqProgram n0 n1 n2 n3 s4 n0 n1 n2 n3 s4 = some true := by
  unfold L_laws_eqProgram
  simp only [P_eqInstrS s4 hs4, bne_self_eq_false, cond_false, Option.bind_some, Bool.not_true]
theorem P_markProgram (n0 : Int) (n1 : Int) (n2 : Int) (n3 : Int) (s4 : List (Int × Int × Int × Int × Int)) {v : Int} (hv : 0 ≤ v ∧ v ≤ 288230376151711744) (hs4 : s4.length ≤ 1073741824) :
    ∃ s4', ∃ u : Int, v ≤ u ∧ u ≤ v + 5368709120 ∧ L_laws_markProgram n0 n1 n2 n3 s4 v = some (s4', u) ∧ s4'.length = s4.length ∧ L_laws_heldProgram n0 n1 n2 n3 s4' v = some u := by
  obtain ⟨s4', m0, q0, k0⟩ := P_markInstrS s4 (v := v) (by omega) hs4
  refine ⟨s4', v + 5 * s4.length, by omega, by omega, ?_, q0, ?_⟩
  · unfold L_laws_markProgram
    rw [m0, Option.bind_some, og_true q0]
  · unfold L_laws_heldProgram
    rw [k0, Option.bind_some, dec_f (by omega), cond_false]
end Go.Proofs.YtomijolkdmaimaaDoor
