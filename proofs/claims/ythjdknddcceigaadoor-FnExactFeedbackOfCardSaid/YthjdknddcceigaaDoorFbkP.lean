/- Feedback in a circuit: what the partial functions come to, and the law; no condition. -/
import Derived.Test.YthjdknddcceigaaDoorFBA
import Derived.Test.YthjdknddcceigaaDoorCirG
namespace Go.Proofs.YthjdknddcceigaaDoor
/-- A gate with the last k inputs fed back. -/
def fbG (i k : Int) (outs : List Int) (e : Gt) : Gt := if e.1 = 1 ∧ i - k ≤ e.2.2.2 then (5, gtD outs (outs.length - k + e.2.2.2 - (i - k)), 0, 0) else e
section
variable {p i k : Int} {gs : List Gt} {outs : List Int}
def fbT (k : Int) (outs : List Int) : List Int := outs.take ((outs.length : Nat) - k : Int).toNat
theorem P_crBack (G : GoodC p i gs outs) (hk : 0 ≤ k ∧ k ≤ i ∧ k ≤ outs.length) : L_spec_crBack i gs outs k = some (i - k, gs.map (fbG i k outs), fbT k outs) := by
  have hi := G.hi; have ho := G.ho; have hn := G.hn
  unfold L_spec_crBack
  have w1 : IntKind.i64.wrap (((outs.length : Nat) : Int) - k) = outs.length - k := i64_lt (by omega) (by omega)
  have w2 : IntKind.i64.wrap (i - k) = i - k := i64_lt (by omega) (by omega)
  rw [w1, w2, og_true (by omega), P_l1Own _ (by rw [List.length_take]; omega), Option.bind_some]
  have key : loopM (fun s_ : Nat × List Gt => L_spec_crBack_l1 gs i k outs s_.1 s_.2) 4611686018427387904 (0, []) = some ([] ++ gs.map (fbG i k outs)) := by
    refine loopM_app gs (fbG i k outs) [] (by omega) _ (fun j e h => ?_) ?_
    · have hlt := getN_lt h
      have hb := List.all_eq_true.1 G.ga e (List.mem_of_getElem? h)
      have hin := gateB_input hb
      have ho2 : ([] ++ (gs.take j).map (fbG i k outs)).length + 1 ≤ 1073741824 ∧ (([] ++ (gs.take j).map (fbG i k outs)).length + 1) * 32 ≤ 140737488355328 := by simp; omega
      try dsimp only
      unfold L_spec_crBack_l1
      rw [dec_t (by omega), cond_true, h, Option.bind_some, w1, w2]
      by_cases h1 : e.1 = 1
      · have hv := hin h1
        by_cases h2 : i - k ≤ e.2.2.2
        · have hf : fbG i k outs e = (5, gtD outs (outs.length - k + e.2.2.2 - (i - k)), 0, 0) := by unfold fbG; rw [if_pos ⟨h1, h2⟩]
          rw [i64_lt (n := (outs.length : Int) - k + e.2.2.2) (by omega) (by omega), i64_lt (n := (outs.length : Int) - k + e.2.2.2 - (i - k)) (by omega) (by omega), getI_gtD (by omega), dec_t h2]
          simp only [h1, beq_self_eq_true, cond_true, Option.bind_some]
          rw [og_true ho2, og_true (by omega), hf]
        · have hf : fbG i k outs e = e := by unfold fbG; rw [if_neg (fun h => h2 h.2)]
          rw [dec_f h2]
          simp only [h1, beq_self_eq_true, cond_true, Option.bind_some, cond_false]
          rw [og_true ho2, og_true (by omega), hf, ← h1]
      · have hf : fbG i k outs e = e := by unfold fbG; rw [if_neg (fun h => h1 h.1)]
        have b1 := beq_eq_false_iff_ne.2 h1
        simp only [b1, cond_false, Option.bind_some]
        rw [og_true ho2, og_true (by omega), hf]
    · try dsimp only
      unfold L_spec_crBack_l1
      rw [dec_f (by omega), cond_false]
  rw [key]; rfl
theorem P_fbLoop (G : GoodC p i gs outs) (hk : 0 ≤ k ∧ k ≤ i ∧ k ≤ outs.length) : loopM (fun s_ : Nat × List Gt => L_impl_FeedbackOf_l1 (i, gs, outs) k s_.1 s_.2) 4611686018427387904 (0, gs) = some (gs.map (fbG i k outs)) := by
  have hi := G.hi; have ho := G.ho; have hn := G.hn
  have w1 : IntKind.i64.wrap (((outs.length : Nat) : Int) - k) = outs.length - k := i64_lt (by omega) (by omega)
  have w2 : IntKind.i64.wrap (i - k) = i - k := i64_lt (by omega) (by omega)
  refine loopM_det gs.length (fun j => (j, (gs.take j).map (fbG i k outs) ++ gs.drop j)) (by omega) _ (by simp) (fun j hj => ?_) ?_
  · have hl : ((gs.take j).map (fbG i k outs)).length = j := by simp; omega
    have hx := List.getElem?_eq_getElem hj
    have hb := List.all_eq_true.1 G.ga _ (List.getElem_mem hj)
    have hin := gateB_input hb
    have hget := pover_get hj hl
    have hset : ∀ y : Gt, ((gs.take j).map (fbG i k outs) ++ gs.drop j).set j y = ((gs.take j).map (fbG i k outs) ++ [y]) ++ gs.drop (j + 1) := fun y => pover_set hj hl
    have hnext : (gs.take (j + 1)).map (fbG i k outs) = (gs.take j).map (fbG i k outs) ++ [fbG i k outs gs[j]] := by rw [List.take_add_one, hx, List.map_append]; rfl
    have hkeep : (gs.take j).map (fbG i k outs) ++ gs.drop j = ((gs.take j).map (fbG i k outs) ++ [gs[j]]) ++ gs.drop (j + 1) := by rw [List.drop_eq_getElem_cons hj, List.append_assoc]; rfl
    have hj1 : j + 1 < 4611686018427387904 := by omega
    try dsimp only
    unfold L_impl_FeedbackOf_l1
    dsimp only
    rw [dec_t (by omega), cond_true, hget, Option.bind_some, w1, w2, hnext]
    generalize gs[j] = e at hin hkeep
    by_cases h1 : e.1 = 1
    · have hv := hin h1
      by_cases h2 : i - k ≤ e.2.2.2
      · have hf : fbG i k outs e = (5, gtD outs (outs.length - k + e.2.2.2 - (i - k)), 0, 0) := by unfold fbG; rw [if_pos ⟨h1, h2⟩]
        have hidx : ((outs.length : Int) - k).toNat + (e.2.2.2 - (i - k)).toNat = ((outs.length : Int) - k + e.2.2.2 - (i - k)).toNat := by omega
        rw [i64_lt (n := e.2.2.2 - (i - k)) (by omega) (by omega), hidx, getN_gtD (by omega), dec_t h2]
        simp only [h1, beq_self_eq_true, cond_true, Option.bind_some]
        rw [og_true (by omega), Option.bind_some, og_true hj1, hset, hf]
      · have hf : fbG i k outs e = e := by unfold fbG; rw [if_neg (fun h => h2 h.2)]
        rw [dec_f h2]
        simp only [h1, beq_self_eq_true, cond_true, Option.bind_some, cond_false]
        rw [og_true hj1, hf, ← hkeep]
    · have hf : fbG i k outs e = e := by unfold fbG; rw [if_neg (fun h => h1 h.1)]
      have b1 := beq_eq_false_iff_ne.2 h1
      simp only [b1, cond_false, Option.bind_some]
      rw [og_true hj1, hf, ← hkeep]
  · try dsimp only
    unfold L_impl_FeedbackOf_l1
    rw [dec_f (by simp), cond_false]
    simp
def fbkV (p i : Int) (gs : List Gt) (outs : List Int) (k : Int) : Int × List Gt × List Int × Bool :=
  if circB p i gs outs = true ∧ 0 ≤ k ∧ k ≤ i ∧ k ≤ outs.length then ifC p (i - k) (gs.map (fbG i k outs)) (fbT k outs) else (0, [], [], false)
theorem P_specFbk (h1 : gs.length ≤ 1073741824) (h2 : outs.length ≤ 1073741824) : L_spec_FeedbackOf p i gs outs k = some (fbkV p i gs outs k) := by
  unfold L_spec_FeedbackOf fbkV
  rw [P_crGood (by omega) (by omega), Option.bind_some]
  cases hc : circB p i gs outs
  · simp
  have G := circB_iff.1 hc
  have hl : L_spec_l1Least i ((outs.length : Nat) : Int) = some (if i < outs.length then i else outs.length) := by
    unfold L_spec_l1Least
    by_cases h : i < outs.length
    · rw [dec_t h, if_pos h]; rfl
    · rw [dec_f h, if_neg h]; rfl
  rw [hl, Bool.not_true, cond_false, Option.bind_some, P_l1In, Option.bind_some]
  by_cases hk : 0 ≤ k ∧ k ≤ i ∧ k ≤ outs.length
  · have : inR k 0 (if i < outs.length then i else outs.length) = true := inR_true.2 ⟨hk.1, by split <;> omega⟩
    rw [this, P_crBack G hk, if_pos ⟨rfl, hk⟩]
    simp only [Bool.not_true, Option.bind_some, cond_false]
    unfold L_spec_crIf ifC
    rw [P_crGood (by simp; omega) (by unfold fbT; rw [List.length_take]; omega), Option.bind_some]
    cases circB p (i - k) (gs.map (fbG i k outs)) (fbT k outs) <;> rfl
  · have : inR k 0 (if i < outs.length then i else outs.length) = false := by
      rw [Bool.eq_false_iff]
      intro h
      obtain ⟨a, b⟩ := inR_true.1 h
      split at b <;> exact hk ⟨a, by omega, by omega⟩
    rw [this, if_neg (fun h => hk h.2)]; rfl
theorem P_implFbk (h1 : gs.length ≤ 1073741824) (h2 : outs.length ≤ 1073741824) : L_impl_FeedbackOf p i gs outs k = some (fbkV p i gs outs k) := by
  unfold L_impl_FeedbackOf fbkV
  rw [P_isCircuit (by omega) (by omega), Option.bind_some]
  cases hc : circB p i gs outs
  · simp
  have G := circB_iff.1 hc
  have hi := G.hi; have ho := G.ho; have hn := G.hn
  rw [Bool.not_true, cond_false, P_within, Option.bind_some]
  by_cases hk : 0 ≤ k ∧ k ≤ i ∧ k ≤ outs.length
  · have : inR k 0 (if ((outs.length : Nat) : Int) < i then ((outs.length : Nat) : Int) else i) = true := inR_true.2 ⟨hk.1, by split <;> omega⟩
    have w1 : IntKind.i64.wrap (((outs.length : Nat) : Int) - k) = outs.length - k := i64_lt (by omega) (by omega)
    have w2 : IntKind.i64.wrap (i - k) = i - k := i64_lt (by omega) (by omega)
    have hcp : L_impl_Circuit_copy i gs outs = some (i, gs, outs) := by
      unfold L_impl_Circuit_copy L_slices_Clone_impl_Gate_impl_Gate
      rw [og_true (by omega), Option.bind_some, P_clone _ (by omega)]; rfl
    rw [this, hcp, if_pos ⟨rfl, hk⟩]
    simp only [Bool.not_true, Option.bind_some, cond_false]
    rw [w1, w2, og_true (by omega), og_true (by omega), P_clone _ (by rw [List.length_take]; omega), Option.bind_some, P_fbLoop G hk, Option.bind_some]
    unfold L_impl_validCircuit ifC
    rw [P_isCircuit (by simp; omega) (by rw [List.length_take]; omega), Option.bind_some]
    show _ = some (if circB p (i - k) (gs.map (fbG i k outs)) (outs.take ((outs.length : Nat) - k : Int).toNat) = true then _ else _)
    unfold fbT
    cases circB p (i - k) (gs.map (fbG i k outs)) (outs.take ((outs.length : Nat) - k : Int).toNat) <;> rfl
  · have : inR k 0 (if ((outs.length : Nat) : Int) < i then ((outs.length : Nat) : Int) else i) = false := by
      rw [Bool.eq_false_iff]
      intro h
      obtain ⟨a, b⟩ := inR_true.1 h
      split at b <;> exact hk ⟨a, by omega, by omega⟩
    rw [this, if_neg (fun h => hk h.2)]; rfl
theorem fbkV_bd : (fbkV p i gs outs k).2.1.length ≤ 40 ∧ (fbkV p i gs outs k).2.2.1.length ≤ 8 := by
  unfold fbkV
  split
  · exact ifC_bd
  · simp
end
/-- The law. -/
theorem P_lawFbk {p i k : Int} {gs : List Gt} {outs : List Int} (h1 : gs.length ≤ 9223372036854775807) (h2 : outs.length ≤ 9223372036854775807) : L_laws_FnExactFeedbackOf p i gs outs k = some true := by
  unfold L_laws_FnExactFeedbackOf
  rw [P_szCircuit i gs outs (by omega) h1 h2, Option.bind_some]
  by_cases e0 : (1048576 : Int) < ((gs.length + outs.length : Nat) : Int)
  · rw [show szV 1048576 (gs.length + outs.length) = -1 from if_pos e0]; rfl
  rw [show szV 1048576 (gs.length + outs.length) = 1048576 - ((gs.length + outs.length : Nat) : Int) from if_neg e0, dec_f (by omega), cond_false]
  have h1 : gs.length ≤ 1073741824 := by omega
  have h2 : outs.length ≤ 1073741824 := by omega
  have hs := P_specFbk (p := p) (i := i) (k := k) h1 h2
  have hi := P_implFbk (p := p) (i := i) (k := k) h1 h2
  have hv := fbkV_bd (p := p) (i := i) (k := k) (gs := gs) (outs := outs)
  generalize fbkV p i gs outs k = v at hs hi hv
  obtain ⟨vi, vg, vr, vo⟩ := v
  obtain ⟨v1, v2⟩ := hv
  dsimp only at v1 v2
  have v1 : vg.length ≤ 1073741824 := by omega
  have v2 : vr.length ≤ 1073741824 := by omega
  obtain ⟨b1, b2, u1, c1, d1, m1, x1, y1, k1⟩ := P_markCircuit i gs outs (v := 1) (by omega) h1 h2
  obtain ⟨b3, b4, u2, c2, d2, m2, x2, y2, k2⟩ := P_markCircuit vi vg vr (v := 1) (by omega) v1 v2
  simp only [P_toCircuit i gs outs h1 h2, hs, hi, Option.bind_some, P_eqCircuit vi vg vr v1 v2, P_eqCircuit i gs outs h1 h2, m1, m2, k2, og_true x1, og_true y1, og_true x2, og_true y2, bne_self_eq_false, Bool.not_true, cond_false, dec_f (show ¬ u1 < 0 by omega), dec_f (show ¬ u2 < 0 by omega)]
end Go.Proofs.YthjdknddcceigaaDoor
