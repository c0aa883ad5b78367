/- Which programs are good: what the partial functions come to; no condition. -/
import Derived.Test.YtomijolkdmaimaaDoorB2
import Derived.Test.YtomijolkdmaimaaDoorBaseP
namespace Go.Proofs.YtomijolkdmaimaaDoor

/-- An instruction (operation, register, two operands, value) of a program with i inputs, o outputs, c cells, g registers. -/
def insB (p i o c g : Int) (e : Int × Int × Int × Int × Int) : Bool :=
  inR e.2.1 0 (g - 1) &&
  (if e.1 = 1 then inR e.2.2.1 0 (i - 1) && (e.2.2.2.1 == 0 && e.2.2.2.2 == 0) else
   if e.1 = 2 then e.2.2.1 == 0 && (e.2.2.2.1 == 0 && e.2.2.2.2 == 0) else
   if e.1 = 3 then inR e.2.2.1 0 (g - 1) && (inR e.2.2.2.1 0 (g - 1) && e.2.2.2.2 == 0) else
   if e.1 = 4 then inR e.2.2.1 0 (g - 1) && (e.2.2.2.1 == 0 && inR e.2.2.2.2 0 (p - 1)) else
   if e.1 = 5 ∨ e.1 = 6 then inR e.2.2.1 0 (c - 1) && (e.2.2.2.1 == 0 && e.2.2.2.2 == 0) else
   if e.1 = 7 then inR e.2.2.1 0 (o - 1) && (e.2.2.2.1 == 0 && e.2.2.2.2 == 0) else false)
section
variable {p i o c g : Int} {code : List (Int × Int × Int × Int × Int)}
theorem P_cmInstr (hp : 2 ≤ p ∧ p ≤ 97) (hi : 0 ≤ i ∧ i ≤ 8) (ho : 0 ≤ o ∧ o ≤ 8) (hc : 0 ≤ c ∧ c ≤ 40) (hg : 0 ≤ g ∧ g ≤ 16) (e1 e2 e3 e4 e5 : Int) : L_spec_cmInstr p i o c g code e1 e2 e3 e4 e5 = some (insB p i o c g (e1, e2, e3, e4, e5)) := by
  unfold L_spec_cmInstr insB
  rw [i64_lt (n := g - 1) (by omega) (by omega), i64_lt (n := i - 1) (by omega) (by omega), i64_lt (n := o - 1) (by omega) (by omega), i64_lt (n := c - 1) (by omega) (by omega), i64_lt (n := p - 1) (by omega) (by omega)]
  simp only [P_l1In, Option.bind_some]
  by_cases h1 : e1 = 1
  · subst h1; cases inR e2 0 (g - 1) <;> cases inR e3 0 (i - 1) <;> cases e4 == 0 <;> rfl
  by_cases h2 : e1 = 2
  · subst h2; cases inR e2 0 (g - 1) <;> cases e3 == 0 <;> cases e4 == 0 <;> rfl
  by_cases h3 : e1 = 3
  · subst h3; cases inR e2 0 (g - 1) <;> cases inR e3 0 (g - 1) <;> cases inR e4 0 (g - 1) <;> rfl
  by_cases h4 : e1 = 4
  · subst h4; cases inR e2 0 (g - 1) <;> cases inR e3 0 (g - 1) <;> cases e4 == 0 <;> rfl
  by_cases h5 : e1 = 5
  · subst h5; cases inR e2 0 (g - 1) <;> cases inR e3 0 (c - 1) <;> cases e4 == 0 <;> rfl
  by_cases h6 : e1 = 6
  · subst h6; cases inR e2 0 (g - 1) <;> cases inR e3 0 (c - 1) <;> cases e4 == 0 <;> rfl
  by_cases h7 : e1 = 7
  · subst h7; cases inR e2 0 (g - 1) <;> cases inR e3 0 (o - 1) <;> cases e4 == 0 <;> rfl
  have b1 := beq_eq_false_iff_ne.2 h1
  have b2 := beq_eq_false_iff_ne.2 h2
  have b3 := beq_eq_false_iff_ne.2 h3
  have b4 := beq_eq_false_iff_ne.2 h4
  have b5 := beq_eq_false_iff_ne.2 h5
  have b6 := beq_eq_false_iff_ne.2 h6
  have b7 := beq_eq_false_iff_ne.2 h7
  simp [h1, h2, h3, h4, h5, h6, h7, b1, b2, b3, b4, b5, b6, b7]
theorem P_isInstr (hp : 2 ≤ p ∧ p ≤ 97) (hi : 0 ≤ i ∧ i ≤ 8) (ho : 0 ≤ o ∧ o ≤ 8) (hc : 0 ≤ c ∧ c ≤ 40) (hg : 0 ≤ g ∧ g ≤ 16) (e1 e2 e3 e4 e5 : Int) : L_impl_Program_isInstr i o c g code p e1 e2 e3 e4 e5 = some (insB p i o c g (e1, e2, e3, e4, e5)) := by
  unfold L_impl_Program_isInstr insB L_impl_Instr_reads
  rw [i64_lt (n := g - 1) (by omega) (by omega), i64_lt (n := i - 1) (by omega) (by omega), i64_lt (n := o - 1) (by omega) (by omega), i64_lt (n := c - 1) (by omega) (by omega)]
  have hb : ∀ xs : List Int, xs.length ≤ 2 → L_impl_areBelow xs g = some (xs.all fun x => inR x 0 (g - 1)) := fun xs h => P_areBelow xs g (by omega) (by omega)
  simp only [P_within, P_isElement, Option.bind_some]
  by_cases h1 : e1 = 1
  · subst h1; cases inR e2 0 (g - 1) <;> cases inR e3 0 (i - 1) <;> cases e4 == 0 <;> simp [hb] <;> (cases e5 == 0 <;> rfl)
  by_cases h2 : e1 = 2
  · subst h2; cases inR e2 0 (g - 1) <;> cases e3 == 0 <;> cases e4 == 0 <;> simp [hb] <;> (cases e5 == 0 <;> rfl)
  by_cases h3 : e1 = 3
  · subst h3; cases inR e2 0 (g - 1) <;> cases h : inR e3 0 (g - 1) <;> cases h' : inR e4 0 (g - 1) <;> simp [hb, h, h'] <;> cases e4 == 0 <;> simp
  by_cases h4 : e1 = 4
  · subst h4; cases inR e2 0 (g - 1) <;> cases h : inR e3 0 (g - 1) <;> cases e4 == 0 <;> simp [hb, h] <;> (cases e5 == 0 <;> rfl)
  by_cases h5 : e1 = 5
  · subst h5; cases inR e2 0 (g - 1) <;> cases inR e3 0 (c - 1) <;> cases e4 == 0 <;> simp [hb] <;> (cases e5 == 0 <;> rfl)
  by_cases h6 : e1 = 6
  · subst h6; cases h : inR e2 0 (g - 1) <;> cases inR e3 0 (c - 1) <;> cases e4 == 0 <;> simp [hb, h] <;> (cases e5 == 0 <;> rfl)
  by_cases h7 : e1 = 7
  · subst h7; cases h : inR e2 0 (g - 1) <;> cases inR e3 0 (o - 1) <;> cases e4 == 0 <;> simp [hb, h] <;> (cases e5 == 0 <;> rfl)
  have b1 := beq_eq_false_iff_ne.2 h1
  have b2 := beq_eq_false_iff_ne.2 h2
  have b3 := beq_eq_false_iff_ne.2 h3
  have b4 := beq_eq_false_iff_ne.2 h4
  have b5 := beq_eq_false_iff_ne.2 h5
  have b6 := beq_eq_false_iff_ne.2 h6
  have b7 := beq_eq_false_iff_ne.2 h7
  cases inR e2 0 (g - 1) <;> cases e4 == 0 <;> simp [hb, b1, b2, b3, b4, b5, b6, b7, h1, h2, h3, h4, h5, h6, h7]

def prgP (p i o c g : Int) (code : List (Int × Int × Int × Int × Int)) : Bool :=
  isF p && (inR i 0 8 && (inR o 0 8 && (inR c 0 40 && (inR g 0 16 && (decide (code.length ≤ 120) && code.all (insB p i o c g))))))
structure GoodPrg (p i o c g : Int) (code : List (Int × Int × Int × Int × Int)) : Prop where
  fp : isF p = true
  hp : 2 ≤ p ∧ p ≤ 97
  hi : 0 ≤ i ∧ i ≤ 8
  ho : 0 ≤ o ∧ o ≤ 8
  hc : 0 ≤ c ∧ c ≤ 40
  hg : 0 ≤ g ∧ g ≤ 16
  hl : code.length ≤ 120
  all : ∀ e ∈ code, insB p i o c g e = true
theorem prgP_iff : prgP p i o c g code = true ↔ GoodPrg p i o c g code := by
  simp only [prgP, Bool.and_eq_true, decide_eq_true_eq, List.all_eq_true, inR_true]
  constructor
  · rintro ⟨h1, h2, h3, h4, h5, h6, h7⟩
    exact ⟨h1, isF_bd h1, h2, h3, h4, h5, h6, h7⟩
  · rintro ⟨h1, _, h2, h3, h4, h5, h6, h7⟩
    exact ⟨h1, h2, h3, h4, h5, h6, h7⟩
theorem P_cmGood (hl : code.length ≤ 1099511627776) : L_spec_cmGood p i o c g code = some (prgP p i o c g code) := by
  unfold L_spec_cmGood prgP
  simp only [P_fdGood, P_l1In, Option.bind_some]
  cases hp : isF p
  · rfl
  cases hi : inR i 0 8
  · rfl
  cases ho : inR o 0 8
  · rfl
  cases hc : inR c 0 40
  · rfl
  cases hg : inR g 0 16
  · rfl
  by_cases hn : 120 < code.length
  · simp only [Bool.not_true, cond_false, Option.bind_some, dec_t (show (120 : Int) < ((code.length : Nat) : Int) by omega), cond_true, dec_f (show ¬ code.length ≤ 120 by omega), Bool.and_false, Bool.false_and]
  simp only [Bool.not_true, cond_false, Option.bind_some, dec_f (show ¬ (120 : Int) < ((code.length : Nat) : Int) by omega), dec_t (show code.length ≤ 120 by omega), Bool.true_and]
  rw [loopM_all code (insB p i o c g) (.next ()) (.out false) (by omega) (fun i x h => ?_) ?_, seq_all]
  · unfold L_spec_cmGood_l1
    rw [dec_f (by omega), cond_false]
  · have := getN_lt h
    unfold L_spec_cmGood_l1
    rw [dec_t (by omega), cond_true, h, Option.bind_some, P_cmInstr (isF_bd hp) (inR_true.1 hi) (inR_true.1 ho) (inR_true.1 hc) (inR_true.1 hg), Option.bind_some, og_true (by omega)]
    cases insB p _ o c g x <;> rfl
theorem P_isProgram (hl : code.length ≤ 1099511627776) : L_impl_isProgram p i o c g code = some (prgP p i o c g code) := by
  unfold L_impl_isProgram prgP L_impl_isField
  simp only [P_within, Option.bind_some]
  cases hp : isF p
  · rfl
  cases hi : inR i 0 8
  · rfl
  cases ho : inR o 0 8
  · rfl
  cases hc : inR c 0 40
  · rfl
  cases hg : inR g 0 16
  · rfl
  by_cases hn : 120 < code.length
  · simp only [Bool.not_true, cond_false, Option.bind_some, dec_t (show (120 : Int) < ((code.length : Nat) : Int) by omega), cond_true, dec_f (show ¬ code.length ≤ 120 by omega), Bool.and_false, Bool.false_and]
  simp only [Bool.not_true, cond_false, Option.bind_some, dec_f (show ¬ (120 : Int) < ((code.length : Nat) : Int) by omega), dec_t (show code.length ≤ 120 by omega), Bool.true_and]
  have key : L_slices_ContainsFunc_impl_Instr_impl_Instr_for_impl_isProgram_1 code i o c g code p = some (code.any fun e => !insB p i o c g e) := by
    unfold L_slices_ContainsFunc_impl_Instr_impl_Instr_for_impl_isProgram_1 L_slices_IndexFunc_impl_Instr_impl_Instr_for_impl_isProgram_1
    have := loopM_any (body := fun s_ : Nat => L_slices_IndexFunc_impl_Instr_impl_Instr_for_impl_isProgram_1_l1 code i o c g code p s_) code (fun e => !insB p i o c g e) (.next ()) (fun i => .out (i : Int)) (F := 4611686018427387904) (by omega) (fun j x h => by
      have := getN_lt h
      unfold L_slices_IndexFunc_impl_Instr_impl_Instr_for_impl_isProgram_1_l1 L_impl_isProgram_1
      rw [dec_t (by omega), cond_true, h, Option.bind_some, P_isInstr (isF_bd hp) (inR_true.1 hi) (inR_true.1 ho) (inR_true.1 hc) (inR_true.1 hg), Option.bind_some, Option.bind_some, og_true (by omega)]
      cases insB p i o c g x <;> rfl) (by
      unfold L_slices_IndexFunc_impl_Instr_impl_Instr_for_impl_isProgram_1_l1
      rw [dec_f (by omega), cond_false])
    rcases this with ⟨h1, i, hi, h2⟩ | ⟨h1, h2⟩
    · rw [h2, h1]
      show some (decide (0 ≤ (i : Int))) = _
      rw [dec_t (by omega)]
    · rw [h2, h1]; rfl
  rw [key, Option.bind_some, any_notP]
end
end Go.Proofs.YtomijolkdmaimaaDoor
