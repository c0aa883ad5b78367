/- The gates of a circuit counted by kinds: what the partial functions come to, and the law; no condition. -/
import Derived.Test.YthjdknddcceigaaDoorCGA
import Derived.Test.YthjdknddcceigaaDoorCirG
namespace Go.Proofs.YthjdknddcceigaaDoor
section
variable {p i : Int} {gs : List Gt} {outs : List Int}
theorem cnt_loop (G : GoodC p i gs outs) : ∃ v, loopM (fun s_ : Nat × List Int => L_spec_CountGates_l1 gs s_.1 s_.2) 4611686018427387904 (0, List.replicate 5 (0 : Int)) = some v ∧ v.length = 5 := by
  have hn := G.hn
  refine loopM_post (Post := fun v : List Int => v.length = 5) gs.length (fun (k : Nat) (s : Nat × List Int) => s.1 = k ∧ s.2.length = 5) (by omega) ⟨rfl, rfl⟩ ?_ ?_
  · rintro k ⟨k', v⟩ hk ⟨h1, h2⟩
    dsimp only at h1 h2 ⊢
    subst k'
    have hx := List.getElem?_eq_getElem hk
    have hkd := gateB_kind (List.all_eq_true.1 G.ga _ (List.getElem_mem hk))
    generalize gs[k] = e at hx hkd
    have hg : getI v (e.1 - 1) = some (v[(e.1 - 1).toNat]'(by omega)) := by rw [getI_nat (by omega), List.getElem?_eq_getElem (by omega)]
    refine .inl ⟨(k + 1, v.set (e.1 - 1).toNat (IntKind.i64.wrap (v[(e.1 - 1).toNat]'(by omega) + 1))), ?_, rfl, by simp [h2]⟩
    unfold L_spec_CountGates_l1
    rw [dec_t (by omega), cond_true, hx, Option.bind_some, i64_lt (n := e.1 - 1) (by omega) (by omega), hg, Option.bind_some, Option.bind_some, og_true (by omega)]
  · rintro ⟨k', v⟩ ⟨h1, h2⟩
    dsimp only at h1 h2 ⊢
    subst k'
    refine ⟨v, ?_, h2⟩
    unfold L_spec_CountGates_l1
    rw [dec_f (by omega), cond_false]
theorem P_counts (h1 : gs.length ≤ 1073741824) (h2 : outs.length ≤ 1073741824) : ∃ v : List Int × Bool, L_spec_CountGates p i gs outs = some v ∧ L_impl_CountGates p i gs outs = some v ∧ v.1.length ≤ 5 := by
  unfold L_spec_CountGates L_impl_CountGates
  rw [P_crGood (by omega) (by omega), P_isCircuit (by omega) (by omega), Option.bind_some, Option.bind_some]
  cases hc : circB p i gs outs
  · exact ⟨([], false), rfl, rfl, by simp⟩
  obtain ⟨v, hv, hl⟩ := cnt_loop (circB_iff.1 hc)
  refine ⟨(v, true), ?_, ?_, by simp [hl]⟩
  · rw [Bool.not_true, cond_false, og_true (by omega), hv]; rfl
  · rw [Bool.not_true, cond_false, P_zeros (by omega), Option.bind_some]
    have hv' : loopM (fun s_ : Nat × List Int => L_impl_CountGates_l1 gs s_.1 s_.2) 4611686018427387904 (0, List.replicate (5 : Int).toNat (0 : Int)) = some v := hv
    rw [hv']; rfl
end
/-- The law. -/
theorem P_lawCount {p i : Int} {gs : List Gt} {outs : List Int} (h1 : gs.length ≤ 9223372036854775807) (h2 : outs.length ≤ 9223372036854775807) : L_laws_FnExactCountGates p i gs outs = some true := by
  unfold L_laws_FnExactCountGates
  rw [P_szCircuit i gs outs (by omega) h1 h2, Option.bind_some]
  by_cases e0 : (1048576 : Int) < ((gs.length + outs.length : Nat) : Int)
  · rw [show szV 1048576 (gs.length + outs.length) = -1 from if_pos e0]; rfl
  rw [show szV 1048576 (gs.length + outs.length) = 1048576 - ((gs.length + outs.length : Nat) : Int) from if_neg e0, dec_f (by omega), cond_false]
  have h1 : gs.length ≤ 1073741824 := by omega
  have h2 : outs.length ≤ 1073741824 := by omega
  obtain ⟨⟨va, vo⟩, hs, hi, hl⟩ := P_counts (p := p) (i := i) h1 h2
  have hv : va.length ≤ 1073741824 := by dsimp only at hl; omega
  obtain ⟨b1, b2, u1, c1, d1, m1, x1, y1, k1⟩ := P_markCircuit i gs outs (v := 1) (by omega) h1 h2
  obtain ⟨b4, m4, x4, k4⟩ := P_markIntS va (v := 1) (by omega) hv
  simp only [P_toCircuit i gs outs h1 h2, hs, hi, Option.bind_some, P_eqIntS va hv, P_eqCircuit i gs outs h1 h2, m1, m4, k4, og_true x1, og_true y1, og_true x4, bne_self_eq_false, Bool.not_true, cond_false, dec_f (show ¬ u1 < 0 by omega), dec_f (show ¬ (1 : Int) + va.length < 0 by omega)]
end Go.Proofs.YthjdknddcceigaaDoor
