/- Delays moved over a gate: what the partial functions come to, and the law; no condition. -/
import Derived.Test.YthjdknddcceigaaDoorRTA
import Derived.Test.YthjdknddcceigaaDoorCirG
namespace Go.Proofs.YthjdknddcceigaaDoor
section
variable {p i g : Int} {gs : List Gt} {outs : List Int}
def rtOk (gs : List Gt) (g : Int) : Bool := cmG (gtG gs g) && ((gtG gs (gtG gs g).2.1).1 == 5 && (!((gtG gs g).1 == 3) || (gtG gs (gtG gs g).2.2.1).1 == 5))
def rtNew (gs : List Gt) (g : Int) : List Gt :=
  gs.set g.toNat (5, ((gs.length : Nat) : Int), 0, 0) ++ [((gtG gs g).1, (gtG gs (gtG gs g).2.1).2.1, (if (gtG gs g).1 = 3 then (gtG gs (gtG gs g).2.2.1).2.1 else 0), (gtG gs g).2.2.2)]
def rtmV (p i : Int) (gs : List Gt) (outs : List Int) (g : Int) : Int × List Gt × List Int × Bool :=
  if circB p i gs outs = true ∧ inR g 0 ((gs.length : Nat) - 1) = true ∧ rtOk gs g = true then ifC p i (rtNew gs g) outs else (0, [], [], false)
theorem rtNew_len : (rtNew gs g).length = gs.length + 1 := by simp [rtNew]
theorem P_specRtm (h1 : gs.length ≤ 1073741824) (h2 : outs.length ≤ 1073741824) : L_spec_RetimeGate p i gs outs g = some (rtmV p i gs outs g) := by
  unfold L_spec_RetimeGate L_spec_opGate rtmV
  rw [P_crGood (by omega) (by omega), Option.bind_some]
  cases hc : circB p i gs outs
  · simp
  have G := circB_iff.1 hc
  have hn := G.hn; have ho := G.ho
  rw [cond_true, i64_lt (by omega) (by omega), P_l1In]
  cases hg : inR g 0 ((gs.length : Nat) - 1)
  · simp
  have hg' := inR_true.1 hg
  have hge := getI_gtG (gs := gs) (x := g) (by omega)
  have hb := gateB_ops (List.all_eq_true.1 G.ga _ (gtG_mem (gs := gs) (x := g) (by omega)))
  simp only [Option.bind_some, Bool.not_true, cond_false]
  rw [hge, Option.bind_some]
  unfold rtOk rtNew
  generalize gtG gs g = e at hb
  have hcp : L_spec_opOwn i gs outs = some (i, gs, outs) := by
    unfold L_spec_opOwn
    rw [og_true (by omega), P_l1Own _ (by omega)]; rfl
  have hlen : ∀ y : Gt, (gs.set g.toNat (5, ((gs.length : Nat) : Int), 0, 0)).length + 1 ≤ 1073741824 ∧ ((gs.set g.toNat (5, ((gs.length : Nat) : Int), 0, 0)).length + 1) * 32 ≤ 140737488355328 := fun _ => by simp; omega
  have hif : ∀ y : Gt, L_spec_crIf p i (gs.set g.toNat (5, ((gs.length : Nat) : Int), 0, 0) ++ [y]) outs = some (if circB p i (gs.set g.toNat (5, ((gs.length : Nat) : Int), 0, 0) ++ [y]) outs = true then .inr (i, true) else .inl (0, false)) := fun y => P_crIf (by simp; omega) h2
  by_cases h3 : e.1 = 3
  · have hA := hb.1 e.2.1 (by simp [opG, h3])
    have hB := hb.1 e.2.2.1 (by simp [opG, h3])
    have hcm : cmG e = true := by simp [cmG, h3]
    unfold L_spec_opCombines
    rw [getI_gtG (gs := gs) (x := e.2.1) hA, getI_gtG (gs := gs) (x := e.2.2.1) hB, hcm]
    simp only [h3, beq_self_eq_true, cond_true, Option.bind_some, Bool.not_true, cond_false, Bool.true_and, if_true, Bool.false_or]
    cases ha : (gtG gs e.2.1).1 == 5
    · have : ((gtG gs e.2.1).1 != 5) = true := by simp [bne, ha]
      simp [this]
    have ha' : ((gtG gs e.2.1).1 != 5) = false := by simp [bne, ha]
    cases hb2 : (gtG gs e.2.2.1).1 == 5
    · have : ((gtG gs e.2.2.1).1 != 5) = true := by simp [bne, hb2]
      simp [this, ha']
    have hb' : ((gtG gs e.2.2.1).1 != 5) = false := by simp [bne, hb2]
    rw [ha', hb', hcp]
    simp only [cond_false, Option.bind_some, hge, Bool.and_self, if_true, and_self]
    rw [og_true (hlen e), hif, Option.bind_some]
    unfold ifC
    split <;> rfl
  by_cases h4 : e.1 = 4
  · have hA := hb.1 e.2.1 (by simp [opG, h4])
    have hcm : cmG e = true := by simp [cmG, h4]
    have b3 := beq_eq_false_iff_ne.2 h3
    unfold L_spec_opCombines
    rw [getI_gtG (gs := gs) (x := e.2.1) hA, hcm, b3, if_neg h3]
    have b12 : ((1 : Int) == 2) = false := rfl
    simp only [h4, beq_self_eq_true, cond_true, Option.bind_some, Bool.not_true, cond_false, Bool.true_and, Bool.not_false, Bool.true_or, Bool.and_true, b12]
    cases ha : (gtG gs e.2.1).1 == 5
    · have : ((gtG gs e.2.1).1 != 5) = true := by simp [bne, ha]
      simp [this]
    have ha' : ((gtG gs e.2.1).1 != 5) = false := by simp [bne, ha]
    rw [ha', hcp]
    simp only [cond_false, Option.bind_some, hge, and_self, if_true]
    rw [og_true (hlen e), hif, Option.bind_some]
    unfold ifC
    split <;> rfl
  have b3 := beq_eq_false_iff_ne.2 h3
  have b4 := beq_eq_false_iff_ne.2 h4
  have hcm : cmG e = false := by simp [cmG, b3, b4]
  unfold L_spec_opCombines
  rw [b3, b4, hcm]
  simp
theorem P_rtLoop (G : GoodC p i gs outs) {ys : List Int} (hy : ∀ x ∈ ys, 0 ≤ x ∧ x < gs.length) (hl : ys.length ≤ 2) : loopM (fun s_ : Nat => L_impl_RetimeGate_l1 ys gs s_) 4611686018427387904 0 = some (if ys.all (fun x => (gtG gs x).1 == 5) then Ctl.next () else Ctl.out (0, [], [], false)) := by
  rw [loopM_all ys (fun x => (gtG gs x).1 == 5) (.next ()) (.out (0, [], [], false)) (by omega) (fun k x h => ?_) ?_]
  · unfold L_impl_RetimeGate_l1
    rw [dec_f (by omega), cond_false]
  · have := getN_lt h
    have hx := hy x (List.mem_of_getElem? h)
    unfold L_impl_RetimeGate_l1
    rw [dec_t (by omega), cond_true, h, Option.bind_some, getI_gtG hx, Option.bind_some, og_true (by omega)]
    cases hb : (gtG gs x).1 == 5
    · have : ((gtG gs x).1 != 5) = true := by simp [bne, hb]
      rw [this]; rfl
    · have : ((gtG gs x).1 != 5) = false := by simp [bne, hb]
      rw [this]; rfl
theorem P_implRtm (h1 : gs.length ≤ 1073741824) (h2 : outs.length ≤ 1073741824) : L_impl_RetimeGate p i gs outs g = some (rtmV p i gs outs g) := by
  unfold L_impl_RetimeGate rtmV
  rw [P_isCircuit (by omega) (by omega), Option.bind_some]
  cases hc : circB p i gs outs
  · simp
  have G := circB_iff.1 hc
  have hn := G.hn; have ho := G.ho
  rw [Bool.not_true, cond_false, i64_lt (by omega) (by omega), P_within, Option.bind_some]
  cases hg : inR g 0 ((gs.length : Nat) - 1)
  · simp
  have hg' := inR_true.1 hg
  have hge := getI_gtG (gs := gs) (x := g) (by omega)
  have hb := gateB_ops (List.all_eq_true.1 G.ga _ (gtG_mem (gs := gs) (x := g) (by omega)))
  rw [Bool.not_true, cond_false, hge, Option.bind_some]
  unfold rtOk rtNew
  have hW : ∀ e : Gt, L_impl_isWorking e.1 e.2.1 e.2.2.1 e.2.2.2 = some (cmG e) := P_crCombines
  have hcp : L_impl_Circuit_copy i gs outs = some (i, gs, outs) := by
    unfold L_impl_Circuit_copy L_slices_Clone_impl_Gate_impl_Gate
    rw [og_true (by omega), Option.bind_some, P_clone _ (by omega)]; rfl
  rw [hW, Option.bind_some]
  generalize gtG gs g = e at hb hge
  cases hcm : cmG e
  · simp
  have hlen : (gs.set g.toNat (5, ((gs.length : Nat) : Int), 0, 0)).length + 1 ≤ 1073741824 ∧ ((gs.set g.toNat (5, ((gs.length : Nat) : Int), 0, 0)).length + 1) * 32 ≤ 140737488355328 := by simp; omega
  have hif : ∀ y : Gt, L_impl_validCircuit p i (gs.set g.toNat (5, ((gs.length : Nat) : Int), 0, 0) ++ [y]) outs = some (if circB p i (gs.set g.toNat (5, ((gs.length : Nat) : Int), 0, 0) ++ [y]) outs = true then .inr (i, true) else .inl (0, false)) := fun y => P_valid (by simp; omega) h2
  have hop : ∀ x ∈ opG e, 0 ≤ x ∧ x < gs.length := hb.1
  simp only [Bool.not_true, Option.bind_some, cond_false, Bool.true_and, hge]
  rw [P_operands, Option.bind_some, P_rtLoop G hop (opG_len e)]
  by_cases h3 : e.1 = 3
  · have hA := hb.1 e.2.1 (by simp [opG, h3])
    have hB := hb.1 e.2.2.1 (by simp [opG, h3])
    have hall : (opG e).all (fun x => (gtG gs x).1 == 5) = ((gtG gs e.2.1).1 == 5 && (gtG gs e.2.2.1).1 == 5) := by simp [opG, h3]
    have hwo : L_impl_Gate_withOperands_for_impl_RetimeGate_1 e.1 e.2.1 e.2.2.1 e.2.2.2 i gs outs = some (e.1, (gtG gs e.2.1).2.1, (gtG gs e.2.2.1).2.1, e.2.2.2) := by
      unfold L_impl_Gate_withOperands_for_impl_RetimeGate_1 L_impl_RetimeGate_1
      rw [getI_gtG (gs := gs) (x := e.2.1) hA, getI_gtG (gs := gs) (x := e.2.2.1) hB, h3]; rfl
    have b3 : (e.1 == 3) = true := beq_iff_eq.2 h3
    rw [hall, b3, if_pos h3]
    simp only [Bool.not_true, Bool.false_or]
    cases hbb : ((gtG gs e.2.1).1 == 5 && (gtG gs e.2.2.1).1 == 5)
    · rfl
    · simp only [if_true, seqC, Option.bind_some, Ctl.then, and_self]
      rw [hcp, Option.bind_some]
      dsimp only
      rw [hge, Option.bind_some, hwo, Option.bind_some, og_true hlen, hif, Option.bind_some]
      unfold ifC
      split <;> rfl
  · have h4 : e.1 = 4 := by
      simp only [cmG, Bool.or_eq_true, beq_iff_eq] at hcm
      omega
    have hA := hb.1 e.2.1 (by simp [opG, h4])
    have hall : (opG e).all (fun x => (gtG gs x).1 == 5) = ((gtG gs e.2.1).1 == 5) := by simp [opG, h4]
    have hB0 := hb.2.1 h3
    have hwo : L_impl_Gate_withOperands_for_impl_RetimeGate_1 e.1 e.2.1 e.2.2.1 e.2.2.2 i gs outs = some (e.1, (gtG gs e.2.1).2.1, 0, e.2.2.2) := by
      unfold L_impl_Gate_withOperands_for_impl_RetimeGate_1 L_impl_RetimeGate_1
      rw [getI_gtG (gs := gs) (x := e.2.1) hA, h4, hB0]; rfl
    have b3 := beq_eq_false_iff_ne.2 h3
    rw [hall, b3, if_neg h3]
    simp only [Bool.not_false, Bool.true_or, Bool.and_true]
    cases hbb : (gtG gs e.2.1).1 == 5
    · rfl
    · simp only [if_true, seqC, Option.bind_some, Ctl.then, and_self]
      rw [hcp, Option.bind_some]
      dsimp only
      rw [hge, Option.bind_some, hwo, Option.bind_some, og_true hlen, hif, Option.bind_some]
      unfold ifC
      split <;> rfl
theorem rtmV_bd : (rtmV p i gs outs g).2.1.length ≤ 40 ∧ (rtmV p i gs outs g).2.2.1.length ≤ 8 := by
  unfold rtmV
  split
  · exact ifC_bd
  · simp
end
/-- The law. -/
theorem P_lawRtm {p i k : Int} {gs : List Gt} {outs : List Int} (h1 : gs.length ≤ 9223372036854775807) (h2 : outs.length ≤ 9223372036854775807) : L_laws_FnExactRetimeGate p i gs outs k = some true := by
  unfold L_laws_FnExactRetimeGate
  rw [P_szCircuit i gs outs (by omega) h1 h2, Option.bind_some]
  by_cases e0 : (1048576 : Int) < ((gs.length + outs.length : Nat) : Int)
  · rw [show szV 1048576 (gs.length + outs.length) = -1 from if_pos e0]; rfl
  rw [show szV 1048576 (gs.length + outs.length) = 1048576 - ((gs.length + outs.length : Nat) : Int) from if_neg e0, dec_f (by omega), cond_false]
  have h1 : gs.length ≤ 1073741824 := by omega
  have h2 : outs.length ≤ 1073741824 := by omega
  have hs := P_specRtm (p := p) (i := i) (g := k) h1 h2
  have hi := P_implRtm (p := p) (i := i) (g := k) h1 h2
  have hv := rtmV_bd (p := p) (i := i) (g := k) (gs := gs) (outs := outs)
  generalize rtmV p i gs outs k = v at hs hi hv
  obtain ⟨vi, vg, vr, vo⟩ := v
  obtain ⟨v1, v2⟩ := hv
  dsimp only at v1 v2
  have v1 : vg.length ≤ 1073741824 := by omega
  have v2 : vr.length ≤ 1073741824 := by omega
  obtain ⟨b1, b2, u1, c1, d1, m1, x1, y1, k1⟩ := P_markCircuit i gs outs (v := 1) (by omega) h1 h2
  obtain ⟨b3, b4, u2, c2, d2, m2, x2, y2, k2⟩ := P_markCircuit vi vg vr (v := 1) (by omega) v1 v2
  simp only [P_toCircuit i gs outs h1 h2, hs, hi, Option.bind_some, P_eqCircuit vi vg vr v1 v2, P_eqCircuit i gs outs h1 h2, m1, m2, k2, og_true x1, og_true y1, og_true x2, og_true y2, bne_self_eq_false, Bool.not_true, cond_false, dec_f (show ¬ u1 < 0 by omega), dec_f (show ¬ u2 < 0 by omega)]
end Go.Proofs.YthjdknddcceigaaDoor
