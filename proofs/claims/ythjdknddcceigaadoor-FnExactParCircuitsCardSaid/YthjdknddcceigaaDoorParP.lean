/- Two circuits side by side: what the partial functions come to, and the law; no condition. -/
import Derived.Test.YthjdknddcceigaaDoorPCA
import Derived.Test.YthjdknddcceigaaDoorCirG
namespace Go.Proofs.YthjdknddcceigaaDoor
/-- A gate moved behind n gates and i inputs. -/
def shG (n i : Int) (e : Gt) : Gt := (e.1, if e.1 = 3 ∨ e.1 = 4 ∨ e.1 = 5 then e.2.1 + n else e.2.1, if e.1 = 3 then e.2.2.1 + n else e.2.2.1, if e.1 = 1 then e.2.2.2 + i else e.2.2.2)
def shL (n : Int) (m : Nat) : List Int := (List.range m).map fun j : Nat => n + (j : Int)
theorem shL_getI {n x : Int} {m : Nat} (h : 0 ≤ x ∧ x < m) : getI (shL n m) x = some (x + n) := by
  rw [getI_nat h.1, shL, List.getElem?_map, List.getElem?_range (by omega)]
  show some (n + ((x.toNat : Nat) : Int)) = _
  congr 1; omega
theorem P_hgSh {n : Int} {m : Nat} {xs : List Int} (hx : xs.length ≤ 8) (hi : ∀ x ∈ xs, 0 ≤ x ∧ x < m) : L_spec_hgList xs (shL n m) = some (xs.map fun x => x + n) := by
  unfold L_spec_hgList
  have key : loopM (fun s_ : Nat × List Int => L_spec_hgList_l1 xs (shL n m) s_.1 s_.2) 4611686018427387904 (0, []) = some ([] ++ xs.map fun x => x + n) := by
    refine loopM_app xs (fun x => x + n) [] (by omega) _ (fun j x h => ?_) ?_
    · have hlt := getN_lt h
      have h1 := hi x (List.mem_of_getElem? h)
      try dsimp only
      unfold L_spec_hgList_l1
      rw [dec_t (by omega), cond_true, h, Option.bind_some, shL_getI h1, Option.bind_some, og_true (by simp; omega), og_true (by omega)]
    · try dsimp only
      unfold L_spec_hgList_l1
      rw [dec_f (by omega), cond_false]
  rw [key]; rfl
section
variable {p ai bi : Int} {ag bg : List Gt} {ao bo : List Int}
theorem P_crMoved {n : Int} {m : Nat} {e : Gt} (he : ∀ x ∈ opG e, 0 ≤ x ∧ x < m) : L_spec_crMoved e.1 e.2.1 e.2.2.1 e.2.2.2 (shL n m) = some (e.1, (shG n 0 e).2.1, (shG n 0 e).2.2.1, e.2.2.2) := by
  unfold L_spec_crMoved shG
  by_cases h3 : e.1 = 3
  · have hA := he e.2.1 (by simp [opG, h3])
    have hB := he e.2.2.1 (by simp [opG, h3])
    rw [shL_getI hA, shL_getI hB]
    simp [h3]
  by_cases h4 : e.1 = 4
  · have hA := he e.2.1 (by simp [opG, h4])
    rw [shL_getI hA]
    simp [h4]
  by_cases h5 : e.1 = 5
  · have hA := he e.2.1 (by simp [opG, h5])
    rw [shL_getI hA]
    simp [h5]
  have b3 := beq_eq_false_iff_ne.2 h3
  have b4 := beq_eq_false_iff_ne.2 h4
  have b5 := beq_eq_false_iff_ne.2 h5
  simp [b3, b4, b5, h3, h4, h5]
theorem P_withSh {e : Gt} (hn : ag.length ≤ 40) (he : ∀ x ∈ opG e, 0 ≤ x ∧ x < 40) (v : Int) : L_impl_Gate_withOperands_for_impl_ParCircuits_1 e.1 e.2.1 e.2.2.1 v ai ag ao = some (e.1, (shG ag.length 0 e).2.1, (shG ag.length 0 e).2.2.1, v) := by
  unfold L_impl_Gate_withOperands_for_impl_ParCircuits_1 L_impl_ParCircuits_1 shG
  by_cases h3 : e.1 = 3
  · have hA := he e.2.1 (by simp [opG, h3])
    have hB := he e.2.2.1 (by simp [opG, h3])
    rw [i64_lt (n := e.2.1 + ((ag.length : Nat) : Int)) (by omega) (by omega), i64_lt (n := e.2.2.1 + ((ag.length : Nat) : Int)) (by omega) (by omega)]
    simp [h3]
  by_cases h4 : e.1 = 4
  · have hA := he e.2.1 (by simp [opG, h4])
    rw [i64_lt (n := e.2.1 + ((ag.length : Nat) : Int)) (by omega) (by omega)]
    simp [h4]
  by_cases h5 : e.1 = 5
  · have hA := he e.2.1 (by simp [opG, h5])
    rw [i64_lt (n := e.2.1 + ((ag.length : Nat) : Int)) (by omega) (by omega)]
    simp [h5]
  have b3 := beq_eq_false_iff_ne.2 h3
  have b4 := beq_eq_false_iff_ne.2 h4
  have b5 := beq_eq_false_iff_ne.2 h5
  simp [b3, b4, b5, h3, h4, h5]
def parV (p ai : Int) (ag : List Gt) (ao : List Int) (bi : Int) (bg : List Gt) (bo : List Int) : Int × List Gt × List Int × Bool :=
  if circB p ai ag ao = true ∧ circB p bi bg bo = true then ifC p (ai + bi) (ag ++ bg.map (shG ag.length ai)) (ao ++ bo.map fun x : Int => x + ((ag.length : Nat) : Int)) else (0, [], [], false)
theorem P_crPar (A : GoodC p ai ag ao) (B : GoodC p bi bg bo) : L_spec_crPar ai ag ao bi bg bo = some (ai + bi, ag ++ bg.map (shG ag.length ai), ao ++ bo.map fun x : Int => x + ((ag.length : Nat) : Int)) := by
  have a1 := A.hi; have a2 := A.hn; have a3 := A.ho
  have b1 := B.hi; have b2 := B.hn; have b3 := B.ho
  unfold L_spec_crPar
  rw [og_true (by omega), P_l1Own _ (by omega), Option.bind_some, og_true (by omega)]
  have k1 : loopM (fun s_ : Nat × List Int => L_spec_crPar_l1 bg ag s_.1 s_.2) 4611686018427387904 (0, List.replicate bg.length (0 : Int)) = some (shL ag.length bg.length) := by
    have hl : (shL ag.length bg.length).length = bg.length := by simp [shL]
    refine loopM_det bg.length (fun k => (k, (shL ag.length bg.length).take k ++ List.replicate ((shL ag.length bg.length).length - k) 0)) (by omega) _ (by simp [hl]) (fun k hk => ?_) ?_
    · have hx : (shL ag.length bg.length)[k]? = some (((ag.length : Nat) : Int) + k) := by simp [shL, hk]
      try dsimp only
      unfold L_spec_crPar_l1
      rw [dec_t (by omega), cond_true, pfill_get (by omega), Option.bind_some, og_true (by omega), i64_lt (by omega) (by omega), pfill_set hx]
    · try dsimp only
      unfold L_spec_crPar_l1
      rw [dec_f (by omega), cond_false, hl]
      simp [List.take_of_length_le, hl]
  have k2 : loopM (fun s_ : Nat × List Gt => L_spec_crPar_l2 bg (shL ag.length bg.length) ai s_.1 s_.2) 4611686018427387904 (0, ag) = some (ag ++ bg.map (shG ag.length ai)) := by
    refine loopM_app bg (shG ag.length ai) ag (by omega) _ (fun j e h => ?_) ?_
    · have hlt := getN_lt h
      have hb := List.all_eq_true.1 B.ga e (List.mem_of_getElem? h)
      have hin := gateB_input hb
      have ho2 : (ag ++ (bg.take j).map (shG ag.length ai)).length + 1 ≤ 1073741824 ∧ ((ag ++ (bg.take j).map (shG ag.length ai)).length + 1) * 32 ≤ 140737488355328 := by simp; omega
      try dsimp only
      unfold L_spec_crPar_l2
      rw [dec_t (by omega), cond_true, h, Option.bind_some, P_crMoved (gateB_ops hb).1, Option.bind_some]
      dsimp only
      by_cases h1 : e.1 = 1
      · have hv := hin h1
        rw [i64_lt (n := e.2.2.2 + ai) (by omega) (by omega)]
        simp only [h1, beq_self_eq_true, cond_true, Option.bind_some]
        rw [og_true ho2, og_true (by omega)]
        simp [shG, h1]
      · have b1 := beq_eq_false_iff_ne.2 h1
        simp only [b1, cond_false, Option.bind_some]
        rw [og_true ho2, og_true (by omega)]
        simp [shG, h1]
    · try dsimp only
      unfold L_spec_crPar_l2
      rw [dec_f (by omega), cond_false]
  rw [k1, Option.bind_some, k2, Option.bind_some, P_hgSh b3 B.io, Option.bind_some, og_true (by simp; omega), i64_lt (by omega) (by omega)]
theorem P_specPar (h1 : ag.length ≤ 1073741824) (h2 : ao.length ≤ 1073741824) (h3 : bg.length ≤ 1073741824) (h4 : bo.length ≤ 1073741824) : L_spec_ParCircuits p ai ag ao bi bg bo = some (parV p ai ag ao bi bg bo) := by
  unfold L_spec_ParCircuits parV
  rw [P_crGood (by omega) (by omega), P_crGood (by omega) (by omega), Option.bind_some]
  cases ha : circB p ai ag ao
  · simp
  cases hb : circB p bi bg bo
  · simp
  have A := circB_iff.1 ha
  have B := circB_iff.1 hb
  have a2 := A.hn; have a3 := A.ho; have b2 := B.hn; have b3 := B.ho
  simp only [Bool.not_true, cond_false, Option.bind_some, and_self, if_true]
  rw [P_crPar A B, Option.bind_some, P_crIf (by simp; omega) (by simp; omega), Option.bind_some]
  unfold ifC
  split <;> rfl
theorem P_implPar (h1 : ag.length ≤ 1073741824) (h2 : ao.length ≤ 1073741824) (h3 : bg.length ≤ 1073741824) (h4 : bo.length ≤ 1073741824) : L_impl_ParCircuits p ai ag ao bi bg bo = some (parV p ai ag ao bi bg bo) := by
  unfold L_impl_ParCircuits parV
  rw [P_isCircuit (by omega) (by omega), P_isCircuit (by omega) (by omega), Option.bind_some]
  cases ha : circB p ai ag ao
  · simp
  cases hb : circB p bi bg bo
  · simp
  have A := circB_iff.1 ha
  have B := circB_iff.1 hb
  have a1 := A.hi; have a2 := A.hn; have a3 := A.ho; have b1 := B.hi; have b2 := B.hn; have b3 := B.ho
  have hcp : L_impl_Circuit_copy ai ag ao = some (ai, ag, ao) := by
    unfold L_impl_Circuit_copy L_slices_Clone_impl_Gate_impl_Gate
    rw [og_true (by omega), Option.bind_some, P_clone _ (by omega)]; rfl
  have k1 : loopM (fun s_ : Nat × List Gt => L_impl_ParCircuits_l1 bg ai ag ao s_.1 s_.2) 4611686018427387904 (0, ag) = some (ag ++ bg.map (shG ag.length ai)) := by
    refine loopM_app bg (shG ag.length ai) ag (by omega) _ (fun j e h => ?_) ?_
    · have hlt := getN_lt h
      have hb := List.all_eq_true.1 B.ga e (List.mem_of_getElem? h)
      have hin := gateB_input hb
      have hops : ∀ x ∈ opG e, 0 ≤ x ∧ x < 40 := fun x hx => by have := (gateB_ops hb).1 x hx; omega
      have ho2 : (ag ++ (bg.take j).map (shG ag.length ai)).length + 1 ≤ 1073741824 ∧ ((ag ++ (bg.take j).map (shG ag.length ai)).length + 1) * 32 ≤ 140737488355328 := by simp; omega
      try dsimp only
      unfold L_impl_ParCircuits_l1
      rw [dec_t (by omega), cond_true, h, Option.bind_some]
      by_cases h1 : e.1 = 1
      · have hv := hin h1
        have b1 : (e.1 == 1) = true := beq_iff_eq.2 h1
        rw [i64_lt (n := e.2.2.2 + ai) (by omega) (by omega), b1, cond_true, Option.bind_some, P_withSh a2.2 hops, Option.bind_some, og_true ho2, og_true (by omega)]
        simp [shG, h1]
      · have b1 := beq_eq_false_iff_ne.2 h1
        rw [b1, cond_false, Option.bind_some, P_withSh a2.2 hops, Option.bind_some, og_true ho2, og_true (by omega)]
        simp [shG, h1]
    · try dsimp only
      unfold L_impl_ParCircuits_l1
      rw [dec_f (by omega), cond_false]
  have k2 : loopM (fun s_ : Nat × List Int => L_impl_ParCircuits_l2 bo ai ag ao s_.1 s_.2) 4611686018427387904 (0, ao) = some (ao ++ bo.map fun x : Int => x + ((ag.length : Nat) : Int)) := by
    refine loopM_app bo (fun x : Int => x + ((ag.length : Nat) : Int)) ao (by omega) _ (fun j x h => ?_) ?_
    · have hlt := getN_lt h
      have hx := B.io x (List.mem_of_getElem? h)
      try dsimp only
      unfold L_impl_ParCircuits_l2 L_impl_ParCircuits_1
      rw [dec_t (by omega), cond_true, h, Option.bind_some, Option.bind_some, i64_lt (n := x + ((ag.length : Nat) : Int)) (by omega) (by omega), og_true (by simp; omega), og_true (by omega)]
    · try dsimp only
      unfold L_impl_ParCircuits_l2
      rw [dec_f (by omega), cond_false]
  simp only [Bool.not_true, cond_false, Option.bind_some, and_self, if_true]
  rw [hcp, Option.bind_some]
  dsimp only
  rw [k1, Option.bind_some, k2, Option.bind_some, i64_lt (n := ai + bi) (by omega) (by omega), P_valid (by simp; omega) (by simp; omega), Option.bind_some]
  unfold ifC
  split <;> rfl
theorem parV_bd : (parV p ai ag ao bi bg bo).2.1.length ≤ 40 ∧ (parV p ai ag ao bi bg bo).2.2.1.length ≤ 8 := by
  unfold parV
  split
  · exact ifC_bd
  · simp
end
/-- The law. -/
theorem P_lawPar {p ai bi : Int} {ag bg : List Gt} {ao bo : List Int} (h1 : ag.length ≤ 9223372036854775807) (h2 : ao.length ≤ 9223372036854775807) (h3 : bg.length ≤ 9223372036854775807) (h4 : bo.length ≤ 9223372036854775807) : L_laws_FnExactParCircuits p ai ag ao bi bg bo = some true := by
  unfold L_laws_FnExactParCircuits
  rw [P_szCircuit ai ag ao (by omega) h1 h2, Option.bind_some]
  by_cases e0 : (1048576 : Int) < ((ag.length + ao.length : Nat) : Int)
  · rw [show szV 1048576 (ag.length + ao.length) = -1 from if_pos e0]; rfl
  rw [show szV 1048576 (ag.length + ao.length) = 1048576 - ((ag.length + ao.length : Nat) : Int) from if_neg e0, dec_f (by omega), cond_false]
  rw [P_szCircuit bi bg bo (by omega) h3 h4, Option.bind_some]
  by_cases e1 : 1048576 - ((ag.length + ao.length : Nat) : Int) < ((bg.length + bo.length : Nat) : Int)
  · rw [show szV (1048576 - ((ag.length + ao.length : Nat) : Int)) (bg.length + bo.length) = -1 from if_pos e1]; rfl
  rw [show szV (1048576 - ((ag.length + ao.length : Nat) : Int)) (bg.length + bo.length) = 1048576 - ((ag.length + ao.length : Nat) : Int) - ((bg.length + bo.length : Nat) : Int) from if_neg e1, dec_f (by omega), cond_false]
  have h1 : ag.length ≤ 1073741824 := by omega
  have h2 : ao.length ≤ 1073741824 := by omega
  have h3 : bg.length ≤ 1073741824 := by omega
  have h4 : bo.length ≤ 1073741824 := by omega
  have hs := P_specPar (p := p) (ai := ai) (bi := bi) h1 h2 h3 h4
  have hi := P_implPar (p := p) (ai := ai) (bi := bi) h1 h2 h3 h4
  have hv := parV_bd (p := p) (ai := ai) (bi := bi) (ag := ag) (bg := bg) (ao := ao) (bo := bo)
  generalize parV p ai ag ao bi bg bo = v at hs hi hv
  obtain ⟨vi, vg, vr, vo⟩ := v
  obtain ⟨v1, v2⟩ := hv
  dsimp only at v1 v2
  have v1 : vg.length ≤ 1073741824 := by omega
  have v2 : vr.length ≤ 1073741824 := by omega
  obtain ⟨b1, b2, u1, c1, d1, m1, x1, y1, k1⟩ := P_markCircuit ai ag ao (v := 1) (by omega) h1 h2
  obtain ⟨b5, b6, u3, c3, d3, m3, x3, y3, k3⟩ := P_markCircuit bi bg bo (v := u1) (by omega) h3 h4
  obtain ⟨b3, b4, u2, c2, d2, m2, x2, y2, k2⟩ := P_markCircuit vi vg vr (v := 1) (by omega) v1 v2
  simp only [P_toCircuit ai ag ao h1 h2, P_toCircuit bi bg bo h3 h4, hs, hi, Option.bind_some, P_eqCircuit vi vg vr v1 v2, P_eqCircuit ai ag ao h1 h2, P_eqCircuit bi bg bo h3 h4, m1, m2, m3, k2, og_true x1, og_true y1, og_true x2, og_true y2, og_true x3, og_true y3, bne_self_eq_false, Bool.not_true, cond_false, dec_f (show ¬ u3 < 0 by omega), dec_f (show ¬ u2 < 0 by omega)]
end Go.Proofs.YthjdknddcceigaaDoor
