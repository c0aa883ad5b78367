/- Good circuits and what they give; no condition. -/
import Derived.Test.YthjdknddcceigaaDoorB3
import Derived.Test.YthjdknddcceigaaDoorCirQ
import Derived.Test.YthjdknddcceigaaDoorTyC
namespace Go.Proofs.YthjdknddcceigaaDoor
section
variable {p i : Int} {gs : List Gt} {outs : List Int}
theorem gateB_kind {n : Int} {e : Gt} (h : gateB p n i e = true) : 1 ≤ e.1 ∧ e.1 ≤ 5 := by
  simp only [gateB, Bool.and_eq_true] at h
  obtain ⟨_, _, h⟩ := h
  by_cases h1 : e.1 = 1
  · omega
  rw [if_neg h1] at h
  by_cases h2 : e.1 = 2
  · omega
  rw [if_neg h2] at h
  by_cases h3 : e.1 = 3 ∨ e.1 = 5
  · omega
  rw [if_neg h3] at h
  by_cases h4 : e.1 = 4
  · omega
  rw [if_neg h4] at h
  cases h
structure GoodC (p i : Int) (gs : List Gt) (outs : List Int) : Prop where
  fp : isF p = true
  hp : 2 ≤ p ∧ p ≤ 97
  hi : 0 ≤ i ∧ i ≤ 8
  hn : 1 ≤ gs.length ∧ gs.length ≤ 40
  ho : outs.length ≤ 8
  io : ∀ x ∈ outs, 0 ≤ x ∧ x < gs.length
  ga : gs.all (gateB p gs.length i) = true
  al : allT (ordR gs).2 = true
theorem circB_iff : circB p i gs outs = true ↔ GoodC p i gs outs := by
  simp only [circB, Bool.and_eq_true, decide_eq_true_eq, inR_true]
  constructor
  · rintro ⟨h1, h2, h3, h4, h5, h6, h7⟩
    refine ⟨h1, isF_bd h1, h2, by omega, h4, fun x hx => ?_, h6, h7⟩
    have := inR_true.1 (List.all_eq_true.1 h5 x hx)
    omega
  · rintro ⟨h1, _, h2, h3, h4, h5, h6, h7⟩
    refine ⟨h1, h2, by omega, h4, List.all_eq_true.2 fun x hx => inR_true.2 ?_, h6, h7⟩
    have := h5 x hx
    omega
end
end Go.Proofs.YthjdknddcceigaaDoor
