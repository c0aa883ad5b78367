/- One step of a program: the law as a partial function; no condition. -/
import Derived.Test.YtomijolkdmaimaaDoorStpP
namespace Go.Proofs.YtomijolkdmaimaaDoor
def vecB (p : Int) (xs : List Int) (n : Int) : Bool := ((xs.length : Nat) : Int) == n && xs.all fun x => inR x 0 (p - 1)
theorem vecB_iff {p n : Int} {xs : List Int} : vecB p xs n = true ↔ ((xs.length : Nat) : Int) = n ∧ inP p xs := by
  simp only [vecB, Bool.and_eq_true, beq_iff_eq, List.all_eq_true, inR_true, inP]
  constructor
  · rintro ⟨h1, h2⟩; exact ⟨h1, fun x hx => by have := h2 x hx; omega⟩
  · rintro ⟨h1, h2⟩; exact ⟨h1, fun x hx => by have := h2 x hx; omega⟩
section
variable {p i o c g : Int} {code : List (Int × Int × Int × Int × Int)} {ins cs : List Int}
def stpV (p i o c g : Int) (code : List (Int × Int × Int × Int × Int)) (cs ins : List Int) : List Int × List Int × Bool :=
  if prgP p i o c g code = true ∧ vecB p cs c = true ∧ vecB p ins i = true then ((stepV p o g code cs ins).1, (stepV p o g code cs ins).2, true) else ([], [], false)
theorem P_specStep (h1 : code.length ≤ 1073741824) (h2 : cs.length ≤ 1073741824) (h3 : ins.length ≤ 1073741824) : L_spec_StepProgram p i o c g code cs ins = some (stpV p i o c g code cs ins) := by
  unfold L_spec_StepProgram stpV
  rw [P_cmGood (by omega), Option.bind_some]
  cases hg : prgP p i o c g code
  · simp
  have G := prgP_iff.1 hg
  have b4 := G.hc; have b2 := G.hi
  rw [P_fdIn p cs G.hp (by omega), P_fdIn p ins G.hp (by omega)]
  simp only [Bool.not_true, cond_false, true_and]
  by_cases l1 : ((cs.length : Nat) : Int) = c
  · by_cases l2 : ((ins.length : Nat) : Int) = i
    · cases a1 : cs.all fun x => inR x 0 (p - 1)
      · simp [vecB, l1, l2, a1]
      cases a2 : ins.all fun x => inR x 0 (p - 1)
      · simp [vecB, l1, l2, a1, a2]
      have v1 : vecB p cs c = true := by simp [vecB, l1, a1]
      have v2 : vecB p ins i = true := by simp [vecB, l2, a2]
      have w1 := vecB_iff.1 v1
      have w2 := vecB_iff.1 v2
      have := P_cmStep (cs := cs) (ins := ins) G (by omega) w2.2 (by omega) w1.2
      rw [if_pos ⟨v1, v2⟩]
      simp [l1, l2, this]
    · have : (((ins.length : Nat) : Int) != i) = true := by simp [l2]
      simp [vecB, l1, l2, this]
  · have : (((cs.length : Nat) : Int) != c) = true := by simp [l1]
    simp [vecB, l1, this]
theorem P_implStepProgram (h1 : code.length ≤ 1073741824) (h2 : cs.length ≤ 1073741824) (h3 : ins.length ≤ 1073741824) : L_impl_StepProgram p i o c g code cs ins = some (stpV p i o c g code cs ins) := by
  unfold L_impl_StepProgram stpV
  rw [P_isProgram (by omega), Option.bind_some]
  cases hg : prgP p i o c g code
  · simp
  have G := prgP_iff.1 hg
  have b4 := G.hc; have b2 := G.hi
  rw [show L_impl_isVector p cs c = some (vecB p cs c) from P_isVector p cs c (by omega), show L_impl_isVector p ins i = some (vecB p ins i) from P_isVector p ins i (by omega)]
  cases v1 : vecB p cs c
  · simp
  cases v2 : vecB p ins i
  · simp
  have w1 := vecB_iff.1 v1
  have w2 := vecB_iff.1 v2
  have := P_implStep (cs := cs) (ins := ins) G (by omega) w2.2 (by omega) w1.2
  simp [this]
theorem stpV_bd (h2 : cs.length ≤ 1073741824) : (stpV p i o c g code cs ins).1.length ≤ 1073741824 ∧ (stpV p i o c g code cs ins).2.1.length ≤ 1073741824 := by
  unfold stpV
  split
  · rename_i h
    have G := prgP_iff.1 h.1
    have w1 := vecB_iff.1 h.2.1
    have w2 := vecB_iff.1 h.2.2
    have := stepV_len (cs := cs) (ins := ins) G (by omega) w2.2 (by omega) w1.2
    have b3 := G.ho; have b4 := G.hc
    exact ⟨by rw [this.1]; omega, by rw [this.2.1]; omega⟩
  · simp
end
/-- The law. -/
theorem P_lawStep {p i o c g : Int} {code : List (Int × Int × Int × Int × Int)} {cs ins : List Int} (h1 : code.length ≤ 9223372036854775807) (h2 : cs.length ≤ 9223372036854775807) (h3 : ins.length ≤ 9223372036854775807) : L_laws_FnExactStepProgram p i o c g code cs ins = some true := by
  unfold L_laws_FnExactStepProgram
  by_cases a1 : (1048576 : Int) < ((cs.length : Nat) : Int)
  · rw [dec_t a1]; rfl
  rw [dec_f a1, cond_false]
  by_cases a2 : (1048576 : Int) < ((ins.length : Nat) : Int)
  · rw [dec_t a2]; rfl
  rw [dec_f a2, cond_false]
  rw [P_szProgram i o c g code (by omega) h1, Option.bind_some]
  by_cases e0 : (1048576 : Int) < ((code.length : Nat) : Int)
  · rw [show szV 1048576 code.length = -1 from if_pos e0]; rfl
  rw [show szV 1048576 code.length = 1048576 - ((code.length : Nat) : Int) from if_neg e0, dec_f (by omega), cond_false]
  have h1 : code.length ≤ 1073741824 := by omega
  have h2 : cs.length ≤ 1073741824 := by omega
  have h3 : ins.length ≤ 1073741824 := by omega
  have hs := P_specStep (p := p) (i := i) (o := o) (c := c) (g := g) h1 h2 h3
  have hi := P_implStepProgram (p := p) (i := i) (o := o) (c := c) (g := g) h1 h2 h3
  have hv := stpV_bd (p := p) (i := i) (o := o) (c := c) (g := g) (code := code) (ins := ins) h2
  generalize stpV p i o c g code cs ins = v at hs hi hv
  obtain ⟨va, vb, vo⟩ := v
  obtain ⟨v1, v2⟩ := hv
  dsimp only at v1 v2
  obtain ⟨b1, u1, c1, d1, m1, x1, k1⟩ := P_markProgram i o c g code (v := 1) (by omega) h1
  obtain ⟨b2, m2, x2, k2⟩ := P_markIntS cs (v := u1) (by omega) h2
  obtain ⟨b3, m3, x3, k3⟩ := P_markIntS ins (v := u1 + cs.length) (by omega) h3
  obtain ⟨b4, m4, x4, k4⟩ := P_markIntS va (v := 1) (by omega) v1
  obtain ⟨b5, m5, x5, k5⟩ := P_markIntS vb (v := 1 + va.length) (by omega) v2
  simp only [P_toProgram i o c g code h1, P_toIntS cs h2, P_toIntS ins h3, hs, hi, Option.bind_some, P_eqIntS va v1, P_eqIntS vb v2, P_eqIntS cs h2, P_eqIntS ins h3, P_eqProgram i o c g code h1, m1, m2, m3, m4, m5, k4, k5, og_true x1, og_true x2, og_true x3, og_true x4, og_true x5, bne_self_eq_false, Bool.not_true, cond_false,
    dec_f (show ¬ u1 + cs.length + ins.length < 0 by omega), dec_f (show ¬ (1 : Int) + va.length < 0 by omega), dec_f (show ¬ (1 : Int) + va.length + vb.length < 0 by omega)]
end Go.Proofs.YtomijolkdmaimaaDoor
