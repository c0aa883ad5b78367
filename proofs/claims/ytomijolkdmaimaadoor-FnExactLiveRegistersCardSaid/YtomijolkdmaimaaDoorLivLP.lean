/- Which registers are live: the law as a partial function; no condition. -/
import Derived.Test.YtomijolkdmaimaaDoorLRA
import Derived.Test.YtomijolkdmaimaaDoorLivP
namespace Go.Proofs.YtomijolkdmaimaaDoor
section
variable {p i o c g at_ : Int} {code : List Ins}
def livV (p i o c g : Int) (code : List Ins) (at_ : Int) : List Int × Bool :=
  if prgP p i o c g code = true ∧ inR at_ 0 code.length = true then (liveL (code.drop at_.toNat) 16, true) else ([], false)
theorem P_specLive (h1 : code.length ≤ 1073741824) : L_spec_LiveRegisters p i o c g code at_ = some (livV p i o c g code at_) := by
  unfold L_spec_LiveRegisters livV
  rw [P_cmGood (by omega), Option.bind_some]
  cases hg : prgP p i o c g code
  · simp
  have G := prgP_iff.1 hg
  have hl := G.hl
  rw [P_l1In]
  cases hi : inR at_ 0 code.length
  · simp
  have := inR_true.1 hi
  rw [P_cmLive (by omega) this (okR_of G)]
  simp
theorem P_live_l1 {row : List Int} {ds : List Ins} (hr : ∀ k : Nat, k < 16 → row[k]? = some (cond (liveB ds k) 1 0)) : loopM (fun s_ : Nat × List Int => L_impl_LiveRegisters_l1 row s_.1 s_.2) 4611686018427387904 (0, []) = some (liveL ds 16) := by
  refine loopM_det 16 (fun k => (k, liveL ds k)) (by omega) _ rfl (fun k hk => ?_) ?_
  · have hlen : (liveL ds k).length ≤ k := by
      unfold liveL
      refine Nat.le_trans (List.length_filter_le _ _) ?_
      simp
    have hs : liveL ds (k + 1) = liveL ds k ++ (if liveB ds k then [(k : Int)] else []) := by
      unfold liveL
      rw [List.range_succ, List.map_append, List.filter_append]
      congr 1
      cases h : liveB ds (k : Int) <;> simp [h]
    try dsimp only
    unfold L_impl_LiveRegisters_l1
    rw [dec_t (by omega), cond_true, og_true (by omega), hr k hk, Option.bind_some, hs]
    cases h : liveB ds (k : Int)
    · simp [og_true (show k + 1 < 4611686018427387904 by omega)]
    · have h1 : (liveL ds k).length + 1 ≤ 1073741824 ∧ ((liveL ds k).length + 1) * 8 ≤ 140737488355328 := by omega
      simp only [cond_true, beq_self_eq_true, if_true]
      rw [og_true h1, Option.bind_some, og_true (by omega)]
  · try dsimp only
    unfold L_impl_LiveRegisters_l1
    rw [dec_f (by omega), cond_false]
theorem P_implLive (h1 : code.length ≤ 1073741824) : L_impl_LiveRegisters p i o c g code at_ = some (livV p i o c g code at_) := by
  unfold L_impl_LiveRegisters livV
  rw [P_isProgram (by omega), Option.bind_some]
  cases hg : prgP p i o c g code
  · simp
  have G := prgP_iff.1 hg
  have hl := G.hl
  rw [P_within]
  cases hi : inR at_ 0 code.length
  · simp
  have ha := inR_true.1 hi
  obtain ⟨m, m1, m2, m3⟩ := P_live (x1 := i) (x2 := o) (x3 := c) (x4 := g) (by omega) (okR_of G)
  have hg : getI m at_ = some (liveV (code.drop at_.toNat)) := by rw [getI_nat ha.1]; exact m3 _ (by omega)
  have hk : okR (code.drop at_.toNat) := fun e he => okR_of G e (List.mem_of_mem_drop he)
  have hp := P_live_l1 (ds := code.drop at_.toNat) (fun k hk' => liveV_get hk k hk')
  simp [m1, hg, hp]
theorem livV_bd : (livV p i o c g code at_).1.length ≤ 1073741824 := by
  unfold livV
  split
  · refine Nat.le_trans (List.length_filter_le _ _) ?_
    simp
  · simp
end
/-- The law. -/
theorem P_lawLive {p i o c g at_ : Int} {code : List Ins} (h1 : code.length ≤ 9223372036854775807) : L_laws_FnExactLiveRegisters p i o c g code at_ = some true := by
  unfold L_laws_FnExactLiveRegisters
  rw [P_szProgram i o c g code (by omega) h1, Option.bind_some]
  by_cases e0 : (1048576 : Int) < ((code.length : Nat) : Int)
  · rw [show szV 1048576 code.length = -1 from if_pos e0]; rfl
  rw [show szV 1048576 code.length = 1048576 - ((code.length : Nat) : Int) from if_neg e0, dec_f (by omega), cond_false]
  have h1 : code.length ≤ 1073741824 := by omega
  have hs := P_specLive (p := p) (i := i) (o := o) (c := c) (g := g) (at_ := at_) h1
  have hi := P_implLive (p := p) (i := i) (o := o) (c := c) (g := g) (at_ := at_) h1
  have hv := livV_bd (p := p) (i := i) (o := o) (c := c) (g := g) (code := code) (at_ := at_)
  generalize livV p i o c g code at_ = v at hs hi hv
  obtain ⟨va, vo⟩ := v
  dsimp only at hv
  obtain ⟨b1, u1, c1, d1, m1, x1, k1⟩ := P_markProgram i o c g code (v := 1) (by omega) h1
  obtain ⟨b4, m4, x4, k4⟩ := P_markIntS va (v := 1) (by omega) hv
  simp only [P_toProgram i o c g code h1, hs, hi, Option.bind_some, P_eqIntS va hv, P_eqProgram i o c g code h1, m1, m4, k4, og_true x1, og_true x4, bne_self_eq_false, Bool.not_true, cond_false, dec_f (show ¬ u1 < 0 by omega), dec_f (show ¬ (1 : Int) + va.length < 0 by omega)]
end Go.Proofs.YtomijolkdmaimaaDoor
