/- A delay moved in front of the gate before it: what the partial functions come to, and the law; no condition. -/
import Derived.Test.YthjdknddcceigaaDoorSDA
import Derived.Test.YthjdknddcceigaaDoorCirG
namespace Go.Proofs.YthjdknddcceigaaDoor
section
variable {p i g : Int} {gs : List Gt} {outs : List Int}
/-- The gate before the delay. -/
def spH (gs : List Gt) (g : Int) : Gt := gtG gs (gtG gs g).2.1
def spMore (gs : List Gt) (h : Gt) : List Gt := if h.1 = 3 then (gs ++ [(5, h.2.1, 0, 0)]) ++ [(5, h.2.2.1, 0, 0)] else gs ++ [(5, h.2.1, 0, 0)]
def spNew (gs : List Gt) (g : Int) (h : Gt) : List Gt := (spMore gs h).set g.toNat (h.1, ((gs.length : Nat) : Int), (if h.1 = 3 then ((gs.length : Nat) : Int) + 1 else 0), h.2.2.2)
def spV (p i : Int) (gs : List Gt) (outs : List Int) (g : Int) : Int × List Gt × List Int × Bool :=
  if circB p i gs outs = true ∧ inR g 0 ((gs.length : Nat) - 1) = true ∧ (gtG gs g).1 = 5 ∧ cmG (spH gs g) = true then ifC p i (spNew gs g (spH gs g)) outs else (0, [], [], false)
theorem spMore_len {h : Gt} : gs.length ≤ (spMore gs h).length ∧ (spMore gs h).length ≤ gs.length + 2 := by
  unfold spMore
  split <;> simp
theorem spNew_len {h : Gt} : (spNew gs g h).length ≤ gs.length + 2 := by
  have := (spMore_len (gs := gs) (h := h)).2
  simpa [spNew] using this
theorem P_specSp (h1 : gs.length ≤ 1073741824) (h2 : outs.length ≤ 1073741824) : L_spec_SpreadDelay p i gs outs g = some (spV p i gs outs g) := by
  unfold L_spec_SpreadDelay L_spec_opGate spV
  rw [P_crGood (by omega) (by omega), Option.bind_some]
  cases hc : circB p i gs outs
  · simp
  have G := circB_iff.1 hc
  have hn := G.hn; have ho := G.ho
  rw [cond_true, i64_lt (by omega) (by omega), P_l1In]
  cases hg : inR g 0 ((gs.length : Nat) - 1)
  · simp
  have hg' := inR_true.1 hg
  have hge := getI_gtG (gs := gs) (x := g) (by omega)
  have hb := gateB_ops (List.all_eq_true.1 G.ga _ (gtG_mem (gs := gs) (x := g) (by omega)))
  simp only [Option.bind_some, Bool.not_true, cond_false]
  rw [hge, Option.bind_some, Option.bind_some]
  unfold spH
  generalize gtG gs g = e at hb
  by_cases h5 : e.1 = 5
  · have hA := hb.1 e.2.1 (by simp [opG, h5])
    have hbn : (e.1 != 5) = false := by simp [bne, h5]
    rw [hbn, cond_false, Option.bind_some, getI_gtG (gs := gs) (x := e.2.1) hA, Option.bind_some]
    generalize gtG gs e.2.1 = h
    have hcp : L_spec_opOwn i gs outs = some (i, gs, outs) := by
      unfold L_spec_opOwn
      rw [og_true (by omega), P_l1Own _ (by omega)]; rfl
    have hif : L_spec_crIf p i (spNew gs g h) outs = some (if circB p i (spNew gs g h) outs = true then .inr (i, true) else .inl (0, false)) := P_crIf (by have := spNew_len (gs := gs) (g := g) (h := h); omega) h2
    have hgm : ∃ x, getI (spMore gs h) g = some x := ⟨_, getI_gtG (gs := spMore gs h) (x := g) (by have := (spMore_len (gs := gs) (h := h)).1; omega)⟩
    obtain ⟨x, hgm⟩ := hgm
    unfold L_spec_opCombines
    by_cases h3 : h.1 = 3
    · have hcm : cmG h = true := by simp [cmG, h3]
      have b22 : ((2 : Int) == 2) = true := rfl
      rw [hcm, beq_iff_eq.2 h3]
      unfold spNew spMore at hif
      unfold spMore at hgm
      rw [if_pos h3] at hgm
      rw [if_pos h3, if_pos h3] at hif
      simp only [cond_true, Option.bind_some, Bool.not_true, cond_false, hcp, b22]
      rw [og_true (by omega), og_true (by simp; omega), Option.bind_some]
      try dsimp only
      have e1 : (((gs ++ [(5, h.2.1, 0, 0)]).length : Nat) : Int) = ((gs.length : Nat) : Int) + 1 := by simp
      rw [hgm, Option.bind_some, e1, hif, Option.bind_some]
      simp only [h5, and_self, if_true]
      unfold ifC spNew spMore
      rw [if_pos h3, if_pos h3]
      split <;> rfl
    by_cases h4 : h.1 = 4
    · have hcm : cmG h = true := by simp [cmG, h4]
      have b12 : ((1 : Int) == 2) = false := rfl
      rw [hcm, beq_eq_false_iff_ne.2 h3, beq_iff_eq.2 h4]
      unfold spNew spMore at hif
      unfold spMore at hgm
      rw [if_neg h3] at hgm
      rw [if_neg h3, if_neg h3] at hif
      simp only [cond_true, Option.bind_some, Bool.not_true, cond_false, hcp, b12]
      rw [og_true (by omega)]
      try dsimp only
      rw [hgm, Option.bind_some, show ((0 : Nat) : Int) = 0 from rfl, hif, Option.bind_some]
      simp only [h5, and_self, if_true]
      unfold ifC spNew spMore
      rw [if_neg h3, if_neg h3]
      split <;> rfl
    have hcm : cmG h = false := by simp [cmG, h3, h4]
    rw [hcm, beq_eq_false_iff_ne.2 h3, beq_eq_false_iff_ne.2 h4]
    simp
  · have hbn : (e.1 != 5) = true := by simp [bne, h5]
    rw [hbn]
    simp [h5]
theorem P_implSp (h1 : gs.length ≤ 1073741824) (h2 : outs.length ≤ 1073741824) : L_impl_SpreadDelay p i gs outs g = some (spV p i gs outs g) := by
  unfold L_impl_SpreadDelay spV
  rw [P_isCircuit (by omega) (by omega), Option.bind_some]
  cases hc : circB p i gs outs
  · simp
  have G := circB_iff.1 hc
  have hn := G.hn; have ho := G.ho
  rw [Bool.not_true, cond_false, i64_lt (by omega) (by omega), P_within, Option.bind_some]
  cases hg : inR g 0 ((gs.length : Nat) - 1)
  · simp
  have hg' := inR_true.1 hg
  have hge := getI_gtG (gs := gs) (x := g) (by omega)
  have hb := gateB_ops (List.all_eq_true.1 G.ga _ (gtG_mem (gs := gs) (x := g) (by omega)))
  rw [Bool.not_true, cond_false, hge, Option.bind_some]
  have hW : ∀ e : Gt, L_impl_isWorking e.1 e.2.1 e.2.2.1 e.2.2.2 = some (cmG e) := P_crCombines
  have hcp : L_impl_Circuit_copy i gs outs = some (i, gs, outs) := by
    unfold L_impl_Circuit_copy L_slices_Clone_impl_Gate_impl_Gate
    rw [og_true (by omega), Option.bind_some, P_clone _ (by omega)]; rfl
  unfold spH
  generalize gtG gs g = e at hb hge
  by_cases h5 : e.1 = 5
  · have hA := hb.1 e.2.1 (by simp [opG, h5])
    have hbn : (e.1 != 5) = false := by simp [bne, h5]
    have hhb := gateB_ops (List.all_eq_true.1 G.ga _ (gtG_mem (gs := gs) (x := e.2.1) hA))
    have hAe := getI_gtG (gs := gs) (x := e.2.1) hA
    rw [hbn, cond_false, hAe, Option.bind_some, hW]
    generalize gtG gs e.2.1 = h at hhb hAe
    cases hcm : cmG h
    · simp
    have hif : L_impl_validCircuit p i (spNew gs g h) outs = some (if circB p i (spNew gs g h) outs = true then .inr (i, true) else .inl (0, false)) := P_valid (by have := spNew_len (gs := gs) (g := g) (h := h); omega) h2
    have hgm : ∃ x, getI (spMore gs h) g = some x := ⟨_, getI_gtG (gs := spMore gs h) (x := g) (by have := (spMore_len (gs := gs) (h := h)).1; omega)⟩
    obtain ⟨x, hgm⟩ := hgm
    have hwo : L_impl_Gate_withOperands_for_impl_SpreadDelay_1 h.1 h.2.1 h.2.2.1 h.2.2.2 i gs outs = some (spMore gs h, ((gs.length : Nat) : Int), (if h.1 = 3 then ((gs.length : Nat) : Int) + 1 else 0)) := by
      unfold L_impl_Gate_withOperands_for_impl_SpreadDelay_1 L_impl_SpreadDelay_1 spMore
      by_cases h3 : h.1 = 3
      · have e1 : (((gs ++ [(5, h.2.1, 0, 0)]).length : Nat) : Int) - 1 = gs.length := by simp
        have e2 : ((((gs ++ [(5, h.2.1, 0, 0)]) ++ [(5, h.2.2.1, 0, 0)]).length : Nat) : Int) - 1 = gs.length + 1 := by simp; omega
        rw [if_pos h3, if_pos h3, beq_iff_eq.2 h3, cond_true, og_true (by omega), Option.bind_some, og_true (by simp; omega), Option.bind_some, Option.bind_some, e1, e2, i64_lt (by omega) (by omega), i64_lt (by omega) (by omega)]
      · have h4 : h.1 = 4 := by
          simp only [cmG, Bool.or_eq_true, beq_iff_eq] at hcm
          omega
        have hB0 := hhb.2.1 h3
        have e1 : (((gs ++ [(5, h.2.1, 0, 0)]).length : Nat) : Int) - 1 = gs.length := by simp
        rw [if_neg h3, if_neg h3, beq_eq_false_iff_ne.2 h3, beq_iff_eq.2 h4, cond_false, cond_true, Option.bind_some, cond_true, og_true (by omega), Option.bind_some, Option.bind_some, e1, i64_lt (by omega) (by omega), hB0]
    simp only [Bool.not_true, Option.bind_some, cond_false]
    rw [hcp, Option.bind_some, hAe, Option.bind_some]
    dsimp only
    rw [hwo, Option.bind_some]
    dsimp only
    rw [hgm, Option.bind_some]
    unfold spNew at hif
    rw [hif, Option.bind_some]
    simp only [h5, and_self, if_true]
    unfold ifC spNew
    split <;> split <;> rfl
  · have hbn : (e.1 != 5) = true := by simp [bne, h5]
    rw [hbn]
    simp [h5]
theorem spV_bd : (spV p i gs outs g).2.1.length ≤ 40 ∧ (spV p i gs outs g).2.2.1.length ≤ 8 := by
  unfold spV
  split
  · exact ifC_bd
  · simp
end
/-- The law. -/
theorem P_lawSp {p i k : Int} {gs : List Gt} {outs : List Int} (h1 : gs.length ≤ 9223372036854775807) (h2 : outs.length ≤ 9223372036854775807) : L_laws_FnExactSpreadDelay p i gs outs k = some true := by
  unfold L_laws_FnExactSpreadDelay
  rw [P_szCircuit i gs outs (by omega) h1 h2, Option.bind_some]
  by_cases e0 : (1048576 : Int) < ((gs.length + outs.length : Nat) : Int)
  · rw [show szV 1048576 (gs.length + outs.length) = -1 from if_pos e0]; rfl
  rw [show szV 1048576 (gs.length + outs.length) = 1048576 - ((gs.length + outs.length : Nat) : Int) from if_neg e0, dec_f (by omega), cond_false]
  have h1 : gs.length ≤ 1073741824 := by omega
  have h2 : outs.length ≤ 1073741824 := by omega
  have hs := P_specSp (p := p) (i := i) (g := k) h1 h2
  have hi := P_implSp (p := p) (i := i) (g := k) h1 h2
  have hv := spV_bd (p := p) (i := i) (g := k) (gs := gs) (outs := outs)
  generalize spV p i gs outs k = v at hs hi hv
  obtain ⟨vi, vg, vr, vo⟩ := v
  obtain ⟨v1, v2⟩ := hv
  dsimp only at v1 v2
  have v1 : vg.length ≤ 1073741824 := by omega
  have v2 : vr.length ≤ 1073741824 := by omega
  obtain ⟨b1, b2, u1, c1, d1, m1, x1, y1, k1⟩ := P_markCircuit i gs outs (v := 1) (by omega) h1 h2
  obtain ⟨b3, b4, u2, c2, d2, m2, x2, y2, k2⟩ := P_markCircuit vi vg vr (v := 1) (by omega) v1 v2
  simp only [P_toCircuit i gs outs h1 h2, hs, hi, Option.bind_some, P_eqCircuit vi vg vr v1 v2, P_eqCircuit i gs outs h1 h2, m1, m2, k2, og_true x1, og_true y1, og_true x2, og_true y2, bne_self_eq_false, Bool.not_true, cond_false, dec_f (show ¬ u1 < 0 by omega), dec_f (show ¬ u2 < 0 by omega)]
end Go.Proofs.YthjdknddcceigaaDoor
