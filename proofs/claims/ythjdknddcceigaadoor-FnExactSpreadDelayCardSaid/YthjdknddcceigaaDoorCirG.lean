/- Good circuits and what they give; no condition. -/
import Derived.Test.YthjdknddcceigaaDoorB3
import Derived.Test.YthjdknddcceigaaDoorCirQ
import Derived.Test.YthjdknddcceigaaDoorTyC
namespace Go.Proofs.YthjdknddcceigaaDoor
section
variable {p i : Int} {gs : List Gt} {outs : List Int}
theorem gateB_kind {n : Int} {e : Gt} (h : gateB p n i e = true) : 1 ≤ e.1 ∧ e.1 ≤ 5 := by
  simp only [gateB, Bool.and_eq_true] at h
  obtain ⟨_, _, h⟩ := h
  by_cases h1 : e.1 = 1
  · omega
  rw [if_neg h1] at h
  by_cases h2 : e.1 = 2
  · omega
  rw [if_neg h2] at h
  by_cases h3 : e.1 = 3 ∨ e.1 = 5
  · omega
  rw [if_neg h3] at h
  by_cases h4 : e.1 = 4
  · omega
  rw [if_neg h4] at h
  cases h
structure GoodC (p i : Int) (gs : List Gt) (outs : List Int) : Prop where
  fp : isF p = true
  hp : 2 ≤ p ∧ p ≤ 97
  hi : 0 ≤ i ∧ i ≤ 8
  hn : 1 ≤ gs.length ∧ gs.length ≤ 40
  ho : outs.length ≤ 8
  io : ∀ x ∈ outs, 0 ≤ x ∧ x < gs.length
  ga : gs.all (gateB p gs.length i) = true
  al : allT (ordR gs).2 = true
theorem circB_iff : circB p i gs outs = true ↔ GoodC p i gs outs := by
  simp only [circB, Bool.and_eq_true, decide_eq_true_eq, inR_true]
  constructor
  · rintro ⟨h1, h2, h3, h4, h5, h6, h7⟩
    refine ⟨h1, isF_bd h1, h2, by omega, h4, fun x hx => ?_, h6, h7⟩
    have := inR_true.1 (List.all_eq_true.1 h5 x hx)
    omega
  · rintro ⟨h1, _, h2, h3, h4, h5, h6, h7⟩
    refine ⟨h1, h2, by omega, h4, List.all_eq_true.2 fun x hx => inR_true.2 ?_, h6, h7⟩
    have := h5 x hx
    omega
end
def gtD (l : List Int) (x : Int) : Int := l.getD x.toNat 0
theorem getI_gtD {l : List Int} {x : Int} (h : 0 ≤ x ∧ x < l.length) : getI l x = some (gtD l x) := by
  have hx : x.toNat < l.length := by omega
  rw [getI_nat h.1, gtD, List.getD_eq_getElem?_getD, List.getElem?_eq_getElem hx]; rfl
theorem getN_gtD {l : List Int} {x : Int} (h : 0 ≤ x ∧ x < l.length) : l[x.toNat]? = some (gtD l x) := by
  rw [← getI_nat h.1, getI_gtD h]
section
variable {p i : Int} {gs : List Gt} {outs : List Int}
theorem gateB_input {n : Int} {e : Gt} (h : gateB p n i e = true) (h1 : e.1 = 1) : 0 ≤ e.2.2.2 ∧ e.2.2.2 < i := by
  simp only [gateB, Bool.and_eq_true] at h
  obtain ⟨_, _, h⟩ := h
  rw [if_pos h1, Bool.and_eq_true, inR_true] at h
  omega
def ifC (p i : Int) (gs : List Gt) (outs : List Int) : Int × List Gt × List Int × Bool := if circB p i gs outs = true then (i, gs, outs, true) else (0, [], [], false)
theorem ifC_bd : (ifC p i gs outs).2.1.length ≤ 40 ∧ (ifC p i gs outs).2.2.1.length ≤ 8 := by
  unfold ifC
  split
  · rename_i h
    have G := circB_iff.1 h
    exact ⟨G.hn.2, G.ho⟩
  · simp
theorem P_crIf (h1 : gs.length ≤ 1073741824) (h2 : outs.length ≤ 1073741824) : L_spec_crIf p i gs outs = some (if circB p i gs outs = true then .inr (i, true) else .inl (0, false)) := by
  unfold L_spec_crIf
  rw [P_crGood (by omega) (by omega), Option.bind_some]
  cases circB p i gs outs <;> rfl
theorem P_valid (h1 : gs.length ≤ 1073741824) (h2 : outs.length ≤ 1073741824) : L_impl_validCircuit p i gs outs = some (if circB p i gs outs = true then .inr (i, true) else .inl (0, false)) := by
  unfold L_impl_validCircuit
  rw [P_isCircuit (by omega) (by omega), Option.bind_some]
  cases circB p i gs outs <;> rfl
def gtG (gs : List Gt) (x : Int) : Gt := gs.getD x.toNat (0, 0, 0, 0)
theorem getI_gtG {x : Int} (h : 0 ≤ x ∧ x < gs.length) : getI gs x = some (gtG gs x) := by
  have hx : x.toNat < gs.length := by omega
  rw [getI_nat h.1, gtG, List.getD_eq_getElem?_getD, List.getElem?_eq_getElem hx]; rfl
theorem gtG_mem {x : Int} (h : 0 ≤ x ∧ x < gs.length) : gtG gs x ∈ gs := by
  have hx : x.toNat < gs.length := by omega
  rw [gtG, List.getD_eq_getElem?_getD, List.getElem?_eq_getElem hx]
  exact List.getElem_mem hx
theorem gateB_ops {n : Int} {e : Gt} (h : gateB p n i e = true) : (∀ x ∈ opG e, 0 ≤ x ∧ x < n) ∧ (e.1 ≠ 3 → e.2.2.1 = 0) ∧ (e.1 = 4 → 0 ≤ e.2.2.2 ∧ e.2.2.2 < p) := by
  simp only [gateB, Bool.and_eq_true, List.all_eq_true, inR_true, Bool.or_eq_true, beq_iff_eq] at h
  obtain ⟨h1, h2, h3⟩ := h
  refine ⟨fun x hx => by have := h1 x hx; omega, fun h => by omega, fun h4 => ?_⟩
  rw [if_neg (by omega), if_neg (by omega), if_neg (by omega), if_pos h4, inR_true] at h3
  omega
end
end Go.Proofs.YthjdknddcceigaaDoor
