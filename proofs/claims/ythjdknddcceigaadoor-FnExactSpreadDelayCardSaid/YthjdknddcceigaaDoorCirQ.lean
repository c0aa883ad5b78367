/- The program's schedule of a circuit, and which circuits it takes: what the partial functions come to; no condition. -/
import Derived.Test.YthjdknddcceigaaDoorCirP
namespace Go.Proofs.YthjdknddcceigaaDoor
section
variable {p i : Int} {gs : List Gt} {outs : List Int}
/-- The map holds just the gates that are not made. -/
structure RelM (gs : List Gt) (dn : List Bool) (es : List (Int × Bool)) : Prop where
  len : dn.length = gs.length
  get : ∀ k : Nat, k < gs.length → mget es (k : Int) = if dn.getD k true = true then none else some true
  keys : ∀ e ∈ es, ∃ k : Nat, k < gs.length ∧ e.1 = (k : Int)
  cm : ∀ (k : Nat) (e : Gt), gs[k]? = some e → dn.getD k true = false → cmG e = true
theorem RelM.open_ {dn : List Bool} {es : List (Int × Bool)} (h : RelM gs dn es) {k : Nat} (hk : k < gs.length) : (mget es (k : Int)).getD false = !dn.getD k true := by
  rw [h.get k hk]
  cases dn.getD k true <;> rfl
theorem RelM.empty {dn : List Bool} (h : RelM gs dn []) : allT dn = true := by
  unfold allT
  rw [List.all_eq_true]
  intro b hb
  obtain ⟨k, hk, he⟩ := List.mem_iff_getElem.1 hb
  have := h.get k (by rw [← h.len]; exact hk)
  rw [List.getD_eq_getElem?_getD, List.getElem?_eq_getElem hk, he] at this
  cases b
  · simp [mget] at this
  · rfl
theorem RelM.some_ {dn : List Bool} {x : Int × Bool} {es : List (Int × Bool)} (h : RelM gs dn (x :: es)) : allT dn = false := by
  obtain ⟨k, hk, he⟩ := h.keys x (List.mem_cons_self ..)
  have h1 := h.get k hk
  have h2 : mget (x :: es) (k : Int) = some x.2 := by simp [mget, he]
  rw [h2] at h1
  have h3 : dn.getD k true = false := by
    cases hd : dn.getD k true
    · rfl
    · rw [hd] at h1; cases h1
  rw [Bool.eq_false_iff]
  intro ha
  unfold allT at ha
  have hkl : k < dn.length := by rw [h.len]; exact hk
  rw [List.getD_eq_getElem?_getD, List.getElem?_eq_getElem hkl] at h3
  have := List.all_eq_true.1 ha _ (List.getElem_mem hkl)
  simp at h3 this
  rw [h3] at this; cases this
theorem getD_set {dn : List Bool} {j k : Nat} (hj : j < dn.length) : (dn.set j true).getD k true = if k = j then true else dn.getD k true := by
  rw [List.getD_eq_getElem?_getD, List.getD_eq_getElem?_getD, List.getElem?_set]
  by_cases e : k = j
  · subst e; simp [hj]
  · rw [if_neg (fun h => e h.symm), if_neg e]
theorem RelM.del {dn : List Bool} {es : List (Int × Bool)} (h : RelM gs dn es) {j : Nat} (hj : j < gs.length) : RelM gs (dn.set j true) (mdel es (j : Int)) := by
  have hjl : j < dn.length := by rw [h.len]; exact hj
  refine ⟨by simp [h.len], fun k hk => ?_, fun e he => h.keys e (List.mem_filter.1 he).1, fun k e hk hd => ?_⟩
  · rw [getD_set hjl]
    by_cases e : k = j
    · subst e; rw [mget_del_same]; simp
    · rw [mget_del_other (by omega), h.get k hk, if_neg e]
  · rw [getD_set hjl] at hd
    by_cases e' : k = j
    · rw [if_pos e'] at hd; cases hd
    · rw [if_neg e'] at hd; exact h.cm k e hk hd
theorem P_upTo {n : Int} (h : 0 ≤ n ∧ n ≤ 1000) : L_impl_upTo n = some ((List.range n.toNat).map fun k : Nat => (k : Int)) := by
  unfold L_impl_upTo
  rw [P_zeros (by omega), Option.bind_some]
  have hl : ((List.range n.toNat).map fun k : Nat => (k : Int)).length = n.toNat := by simp
  have key : loopM (fun s_ : Nat × List Int => L_impl_upTo_l1 (List.replicate n.toNat 0) s_.1 s_.2) 4611686018427387904 (0, List.replicate n.toNat (0 : Int)) = some ((List.range n.toNat).map fun k : Nat => (k : Int)) := by
    refine loopM_det n.toNat (fun k => (k, ((List.range n.toNat).map fun k : Nat => (k : Int)).take k ++ List.replicate (((List.range n.toNat).map fun k : Nat => (k : Int)).length - k) 0)) (by omega) _ (by simp) (fun k hk => ?_) ?_
    · have hx : ((List.range n.toNat).map fun k : Nat => (k : Int))[k]? = some (k : Int) := by simp [hk]
      try dsimp only
      unfold L_impl_upTo_l1
      rw [dec_t (by simp; omega), cond_true, pfill_get (by omega), Option.bind_some, og_true (by omega), pfill_set hx]
    · try dsimp only
      unfold L_impl_upTo_l1
      rw [dec_f (by simp), cond_false]
      simp [List.take_of_length_le]
  rw [key]; rfl
theorem P_contains {ys : List Int} {dn : List Bool} {es : List (Int × Bool)} (h : RelM gs dn es) (hn : gs.length ≤ 40) (hy : ∀ x ∈ ys, 0 ≤ x ∧ x < gs.length) (hl : ys.length ≤ 2) : L_slices_ContainsFunc_int_int_for_impl_Circuit_schedule_1_1 ys es = some (!ys.all fun x => dn.getD x.toNat false) := by
  unfold L_slices_ContainsFunc_int_int_for_impl_Circuit_schedule_1_1 L_slices_IndexFunc_int_int_for_impl_Circuit_schedule_1_1
  have := loopM_any (body := fun s_ : Nat => L_slices_IndexFunc_int_int_for_impl_Circuit_schedule_1_1_l1 ys es s_) ys (fun x => !dn.getD x.toNat false) (.next ()) (fun i => .out (i : Int)) (F := 4611686018427387904) (by omega) (fun j x hx => by
    have := getN_lt hx
    have hr := hy x (List.mem_of_getElem? hx)
    have ho := h.open_ (k := x.toNat) (by omega)
    have hkl : x.toNat < dn.length := by rw [h.len]; omega
    have hd : dn.getD x.toNat true = dn.getD x.toNat false := by
      rw [List.getD_eq_getElem?_getD, List.getD_eq_getElem?_getD, List.getElem?_eq_getElem hkl]; rfl
    rw [show ((x.toNat : Nat) : Int) = x by omega, hd] at ho
    unfold L_slices_IndexFunc_int_int_for_impl_Circuit_schedule_1_1_l1 L_impl_Circuit_schedule_1_1
    rw [dec_t (by omega), cond_true, hx, Option.bind_some, og_true (by unfold i64R; omega), ho, Option.bind_some, og_true (by omega)]
    cases dn.getD x.toNat false <;> rfl) (by
    unfold L_slices_IndexFunc_int_int_for_impl_Circuit_schedule_1_1_l1
    rw [dec_f (by omega), cond_false])
  have hnot : (ys.any fun x => !dn.getD x.toNat false) = !ys.all fun x => dn.getD x.toNat false := by
    rw [← any_notP, Bool.not_not]
  rw [← hnot]
  rcases this with ⟨h1, i, hi, h2⟩ | ⟨h1, h2⟩
  · rw [h2, h1]
    show some (decide (0 ≤ (i : Int))) = _
    rw [dec_t (by omega)]
  · rw [h2, h1]; rfl
theorem P_sched_1 {dn : List Bool} {es : List (Int × Bool)} (h : RelM gs dn es) (hg : okG gs) (hn : gs.length ≤ 40) {k : Nat} (hk : k < gs.length) : L_impl_Circuit_schedule_1 (k : Int) es i gs outs = some (rdy gs dn k) := by
  unfold L_impl_Circuit_schedule_1
  have he := List.getElem?_eq_getElem hk
  have ho := hg _ (List.getElem_mem hk)
  have hc := h.cm k gs[k] he
  generalize gs[k] = e at he ho hc
  have hr : rdy gs dn k = (!dn.getD k true && (opG e).all fun x => dn.getD x.toNat false) := by unfold rdy; rw [he]
  rw [og_true (by unfold i64R; omega), h.open_ hk, hr]
  cases hd : dn.getD k true
  · have hcm := hc hd
    rw [Bool.not_false, cond_true, getI_nat (by omega), Int.toNat_natCast, he, Option.bind_some, P_needs, Option.bind_some, hcm, if_pos rfl, P_contains h hn ho (opG_len e)]
    simp
  · rfl
theorem P_idxF {dn : List Bool} {es : List (Int × Bool)} (h : RelM gs dn es) (hg : okG gs) (hn : gs.length ≤ 40) : L_slices_IndexFunc_int_int_for_impl_Circuit_schedule_1 ((List.range gs.length).map fun k : Nat => (k : Int)) es i gs outs = some (enc (nxt gs dn)) := by
  unfold L_slices_IndexFunc_int_int_for_impl_Circuit_schedule_1
  rw [loopM_find gs.length (rdy gs dn) (.next ()) (fun k => .out (k : Int)) (by omega) (fun k hk => ?_) ?_]
  · unfold nxt
    cases (List.range gs.length).find? (rdy gs dn) <;> rfl
  · unfold L_slices_IndexFunc_int_int_for_impl_Circuit_schedule_1_l1
    rw [dec_f (by simp), cond_false]
  · have hx : ((List.range gs.length).map fun k : Nat => (k : Int))[k]? = some (k : Int) := by simp [hk]
    unfold L_slices_IndexFunc_int_int_for_impl_Circuit_schedule_1_l1
    rw [dec_t (by simp; omega), cond_true, hx, Option.bind_some, P_sched_1 h hg hn hk, Option.bind_some, og_true (by omega)]
    cases rdy gs dn k <;> rfl
theorem P_sched_l2 (hg : okG gs) (hn : gs.length ≤ 40) : ∀ (m : Nat) (dn : List Bool) (es : List (Int × Bool)) (out : List Int) (F : Nat), RelM gs dn es → dn.count false ≤ m → out.length + m ≤ 1000 → m + 1 ≤ F →
    loopM (fun s_ : List Int × (List (Int × Bool)) => L_impl_Circuit_schedule_l2 gs i outs s_.1 s_.2) F (out, es) = some (if allT (run gs m dn).2 = true then Ctl.next (out ++ (run gs m dn).1) else Ctl.out ([], false))
  | m, dn, es, out, F, h, hm, ho, hF => by
    obtain ⟨F, rfl⟩ : ∃ F', F = F' + 1 := ⟨F - 1, by omega⟩
    cases es with
    | nil =>
      have hA := h.empty
      have hx : nxt gs dn = none := by
        cases hx : nxt gs dn with
        | none => rfl
        | some j =>
          obtain ⟨_, h2⟩ := nxt_some hx
          have := rdy_dn h2 h.len
          have := set_count this
          have := count_allT.2 hA
          omega
      have hr : run gs m dn = ([], dn) := by cases m <;> simp [run, hx]
      rw [hr, hA, if_pos rfl, List.append_nil, loopM_outC (r := Ctl.next out)]
      unfold L_impl_Circuit_schedule_l2
      rw [dec_f (by simp), cond_false]
    | cons x es =>
      have hA := h.some_
      have hb : L_impl_Circuit_schedule_l2 gs i outs out (x :: es) = match nxt gs dn with | none => some (Ctl.out (Ctl.out ([], false))) | some j => some (Ctl.next (out ++ [(j : Int)], mdel (x :: es) (j : Int))) := by
        unfold L_impl_Circuit_schedule_l2
        rw [dec_t (by rw [List.length_cons]; omega), cond_true, P_upTo (by omega), Option.bind_some, Int.toNat_natCast, P_idxF h hg hn, Option.bind_some]
        cases hx : nxt gs dn with
        | none => rw [dec_t (by simp [enc]), cond_true]
        | some j =>
          obtain ⟨h1, h2⟩ := nxt_some hx
          rw [dec_f (by simp [enc]), cond_false, og_true (by simp only [enc, i64R]; omega), og_true (by omega)]
          rfl
      cases hx : nxt gs dn with
      | none =>
        rw [hx] at hb
        have hr : run gs m dn = ([], dn) := by cases m <;> simp [run, hx]
        rw [hr, hA, loopM_outC (r := Ctl.out ([], false)) hb]
        rfl
      | some j =>
        rw [hx] at hb
        obtain ⟨h1, h2⟩ := nxt_some hx
        have hc := set_count (rdy_dn h2 h.len)
        rw [loopM_nextC (s' := (out ++ [(j : Int)], mdel (x :: es) (j : Int))) hb]
        cases m with
        | zero => omega
        | succ m =>
          rw [P_sched_l2 hg hn m (dn.set j true) (mdel (x :: es) (j : Int)) (out ++ [(j : Int)]) F (h.del h1) (by omega) (by simp; omega) (by omega)]
          simp [run, hx]
theorem P_sched_l1 (hn : gs.length ≤ 40) : ∃ es, loopM (fun s_ : Nat × (List (Int × Bool)) => L_impl_Circuit_schedule_l1 gs s_.1 s_.2) 4611686018427387904 (0, []) = some es ∧ RelM gs (dn0 gs) es := by
  have key : ∃ es, loopM (fun s_ : Nat × (List (Int × Bool)) => L_impl_Circuit_schedule_l1 gs s_.1 s_.2) 4611686018427387904 (0, []) = some es ∧ ((∀ k : Nat, k < gs.length → mget es (k : Int) = if (dn0 gs).getD k true = true then none else some true) ∧ ∀ e ∈ es, ∃ k : Nat, k < gs.length ∧ e.1 = (k : Int)) := by
    refine loopM_post (Post := fun es => (∀ k : Nat, k < gs.length → mget es (k : Int) = if (dn0 gs).getD k true = true then none else some true) ∧ ∀ e ∈ es, ∃ k : Nat, k < gs.length ∧ e.1 = (k : Int)) gs.length
      (fun (j : Nat) (s : Nat × (List (Int × Bool))) => s.1 = j ∧ s.2.length ≤ j ∧ (∀ k : Nat, mget s.2 (k : Int) = if k < j ∧ (dn0 gs).getD k true = false then some true else none) ∧ ∀ e ∈ s.2, ∃ k : Nat, k < gs.length ∧ e.1 = (k : Int)) (by omega) ⟨rfl, by simp, fun k => by simp [mget], by simp⟩ ?_ ?_
    · rintro j ⟨j', es⟩ hj ⟨h1, h2, h3, h4⟩
      dsimp only at h1 h2 h3 h4 ⊢
      subst j'
      have hx := List.getElem?_eq_getElem hj
      have hd : (dn0 gs).getD j true = !cmG gs[j] := by simp [dn0, List.getD_eq_getElem?_getD, hx]
      have ho : ∀ e : Gt, cmG e = true → 0 < (opG e).length := fun e he => by
        simp only [cmG, Bool.or_eq_true, beq_iff_eq] at he
        unfold opG
        rcases he with he | he
        · simp [he]
        · rw [if_neg (by omega), if_pos (.inl he)]; simp
      generalize gs[j] = e at hx hd
      have hj1 : j + 1 < 4611686018427387904 := by omega
      unfold L_impl_Circuit_schedule_l1
      rw [dec_t (by omega), cond_true, hx, Option.bind_some, P_needs, Option.bind_some]
      refine .inl ?_
      cases hc : cmG e
      · refine ⟨(j + 1, es), by simp [og_true hj1], rfl, by dsimp only; omega, fun k => ?_, h4⟩
        dsimp only
        rw [h3 k]
        by_cases hk : k = j
        · subst hk; rw [hd, hc]; simp
        · simp only [show (k < j + 1 ↔ k < j) by omega]
      · have hp := ho e hc
        have hg2 : i64R ((j : Nat) : Int) ∧ es.length < 1073741824 := ⟨by unfold i64R; omega, by omega⟩
        refine ⟨(j + 1, mput es (j : Int) true), ?_, rfl, ?_, fun k => ?_, fun x hx => ?_⟩
        · rw [if_pos rfl, dec_t (by omega), cond_true, og_true hg2, Option.bind_some, og_true hj1]
        · have : (mdel es (j : Int)).length ≤ es.length := List.length_filter_le _ _
          simp only [mput, List.length_cons]; omega
        · dsimp only
          by_cases hk : k = j
          · subst hk; rw [mget_put_same, hd, hc]; simp
          · rw [mget_put_other (by omega), h3 k]
            simp only [show (k < j + 1 ↔ k < j) by omega]
        · rcases List.mem_cons.1 hx with rfl | hx
          · exact ⟨j, hj, rfl⟩
          · exact h4 x (List.mem_filter.1 hx).1
    · rintro ⟨j', es⟩ ⟨h1, h2, h3, h4⟩
      dsimp only at h1 h2 h3 h4 ⊢
      subst j'
      refine ⟨es, ?_, fun k hk => ?_, h4⟩
      · unfold L_impl_Circuit_schedule_l1
        rw [dec_f (by omega), cond_false]
      · rw [h3 k]
        cases (dn0 gs).getD k true <;> simp [hk]
  obtain ⟨es, h1, h2, h3⟩ := key
  refine ⟨es, h1, by simp [dn0], h2, h3, fun k e hk hd => ?_⟩
  have : (dn0 gs).getD k true = !cmG e := by simp [dn0, List.getD_eq_getElem?_getD, hk]
  rw [this] at hd
  simpa using hd
theorem P_schedule (hg : okG gs) (hn : gs.length ≤ 40) : L_impl_Circuit_schedule i gs outs = some (if allT (ordR gs).2 = true then ((ordR gs).1, true) else ([], false)) := by
  unfold L_impl_Circuit_schedule
  obtain ⟨es, h1, h2⟩ := P_sched_l1 hn
  have hc : (dn0 gs).count false ≤ gs.length := Nat.le_trans List.count_le_length (by simp [dn0])
  rw [h1, Option.bind_some, P_sched_l2 hg hn gs.length (dn0 gs) es [] _ h2 hc (by simp; omega) (by omega)]
  unfold ordR
  cases allT (run gs gs.length (dn0 gs)).2 <;> rfl
theorem P_isCircuit (hl : gs.length ≤ 1099511627776) (ho : outs.length ≤ 1099511627776) : L_impl_isCircuit p i gs outs = some (circB p i gs outs) := by
  unfold L_impl_isCircuit circB L_impl_isField
  simp only [P_within, Option.bind_some]
  cases hp : isF p
  · rfl
  cases hi : inR i 0 8
  · rfl
  cases hn : inR gs.length 1 40
  · rfl
  have hn' := inR_true.1 hn
  by_cases hs : 8 < outs.length
  · simp only [Bool.not_true, cond_false, Option.bind_some, dec_t (show (8 : Int) < ((outs.length : Nat) : Int) by omega), cond_true, dec_f (show ¬ outs.length ≤ 8 by omega), Bool.and_false, Bool.false_and]
  rw [P_areBelow _ _ (by omega) (by omega)]
  simp only [Bool.not_true, cond_false, Option.bind_some, dec_f (show ¬ (8 : Int) < ((outs.length : Nat) : Int) by omega), dec_t (show outs.length ≤ 8 by omega), Bool.true_and]
  cases hio : outs.all fun x => inR x 0 ((gs.length : Nat) - 1)
  · rfl
  simp only [Bool.not_true, cond_false, Bool.true_and]
  have hF := isF_bd hp
  have hI := inR_true.1 hi
  rw [loopM_all gs (gateB p gs.length i) (.next ()) (.out false) (by omega) (fun k x h => ?_) ?_]
  · cases hgb : gs.all (gateB p gs.length i)
    · rfl
    · have hg := okG_of hgb
      simp only [if_true, seqC, Option.bind_some, Ctl.then]
      rw [P_schedule hg (by omega), Option.bind_some]
      cases allT (ordR gs).2 <;> rfl
  · unfold L_impl_isCircuit_l1
    rw [dec_f (by omega), cond_false]
  · have := getN_lt h
    unfold L_impl_isCircuit_l1
    rw [dec_t (by omega), cond_true, h, Option.bind_some, P_isGate hF hI (by omega), Option.bind_some, og_true (by omega)]
    cases gateB p gs.length i x <;> rfl
end
end Go.Proofs.YthjdknddcceigaaDoor
