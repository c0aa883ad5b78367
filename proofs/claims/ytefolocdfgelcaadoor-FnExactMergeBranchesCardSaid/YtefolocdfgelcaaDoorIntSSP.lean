/- What the copies, comparisons and marks of rows of rows come to; no condition. -/
import Derived.Test.YtefolocdfgelcaaDoorMB
import Derived.Test.YtefolocdfgelcaaDoorNetP
namespace Go.Proofs.YtefolocdfgelcaaDoor

section
variable {σ ρ : Type}
theorem loopM_both {b1 b2 : σ → Option (Ctl σ ρ)} {Post : ρ → Prop} (n : Nat) (I : Nat → σ → Prop)
    (hs : ∀ i s, i < n → I i s → (∃ s', b1 s = some (.next s') ∧ b2 s = some (.next s') ∧ I (i + 1) s') ∨ ∃ r, b1 s = some (.out r) ∧ b2 s = some (.out r) ∧ Post r) (he : ∀ s, I n s → ∃ r, b1 s = some (.out r) ∧ b2 s = some (.out r) ∧ Post r) :
    ∀ (F k : Nat) (s : σ), k ≤ n → n - k < F → I k s → ∃ r, loopM b1 F s = some r ∧ loopM b2 F s = some r ∧ Post r
  | 0, _, _, _, h, _ => by omega
  | F + 1, k, s, hk, h, hi => by
    have key : (∃ r, b1 s = some (.out r) ∧ b2 s = some (.out r) ∧ Post r) → ∃ r, loopM b1 (F + 1) s = some r ∧ loopM b2 (F + 1) s = some r ∧ Post r := by
      rintro ⟨r, h1, h2, h3⟩
      exact ⟨r, by simp only [loopM, h1, Option.bind_some, Ctl.then], by simp only [loopM, h2, Option.bind_some, Ctl.then], h3⟩
    rcases Nat.lt_or_ge k n with hlt | hge
    · rcases hs k s hlt hi with ⟨s', h1, h2, h3⟩ | h
      · obtain ⟨r, g1, g2, g3⟩ := loopM_both n I hs he F (k + 1) s' hlt (by omega) h3
        exact ⟨r, by simp only [loopM, h1, Option.bind_some, Ctl.then]; exact g1, by simp only [loopM, h2, Option.bind_some, Ctl.then]; exact g2, g3⟩
      · exact key h
    · obtain rfl : k = n := by omega
      exact key (he s hi)
/-- Two loops that go the same way. -/
theorem loopM_same {b1 b2 : σ → Option (Ctl σ ρ)} {Post : ρ → Prop} (n : Nat) (I : Nat → σ → Prop) {F : Nat} (hn : n < F) {s0 : σ} (h0 : I 0 s0)
    (hs : ∀ i s, i < n → I i s → (∃ s', b1 s = some (.next s') ∧ b2 s = some (.next s') ∧ I (i + 1) s') ∨ ∃ r, b1 s = some (.out r) ∧ b2 s = some (.out r) ∧ Post r) (he : ∀ s, I n s → ∃ r, b1 s = some (.out r) ∧ b2 s = some (.out r) ∧ Post r) : ∃ r, loopM b1 F s0 = some r ∧ loopM b2 F s0 = some r ∧ Post r :=
  loopM_both n I hs he F 0 s0 (Nat.zero_le _) (by omega) h0
end

def mkL (v : Int) (n : Nat) : List Int := (List.range n).map fun j : Nat => v + (j : Int)
theorem P_markIntSx (xs : List Int) {v : Int} (hv : 0 ≤ v ∧ v ≤ 1152921504606846976) (hx : xs.length ≤ 1073741824) : L_laws_markIntS xs v = some (mkL v xs.length, v + xs.length) := by
  unfold L_laws_markIntS
  have h : loopM (fun s_ : Int × Nat × List Int => L_laws_markIntS_l1 s_.1 s_.2.1 s_.2.2) 4611686018427387904 (v, 0, xs) = some (v + xs.length, mkL v xs.length) := by
    refine loopM_det xs.length (fun i => (v + i, i, mkL v i ++ xs.drop i)) (by omega) _ (by simp [mkL]) (fun i hi => ?_) ?_
    · have hl : (mkL v i).length = i := by simp [mkL]
      try dsimp only
      unfold L_laws_markIntS_l1
      rw [dec_t (by rw [List.length_append, hl, List.length_drop]; omega), cond_true, pover_get hi hl, Option.bind_some, og_true (by omega), pover_set hi hl, i64_lt (by omega) (by omega)]
      unfold mkL
      rw [List.range_succ, List.map_append]
      simp [Int.add_assoc]
    · try dsimp only
      unfold L_laws_markIntS_l1
      rw [dec_f (by simp [mkL]), cond_false]
      simp [mkL]
  rw [h]; rfl
theorem P_heldIntSx (n : Nat) {v : Int} (hv : 0 ≤ v ∧ v ≤ 1152921504606846976) (hx : n ≤ 1073741824) : L_laws_heldIntS (mkL v n) v = some (v + n) := by
  unfold L_laws_heldIntS
  have h : loopM (fun s_ : Int × Nat => L_laws_heldIntS_l1 (mkL v n) s_.1 s_.2) 4611686018427387904 (v, 0) = some (.next (v + n)) := by
    refine loopM_det n (fun i => (v + i, i)) (by omega) _ (by simp) (fun i hi => ?_) ?_
    · have hg : (mkL v n)[i]? = some (v + i) := by simp [mkL, hi]
      try dsimp only
      unfold L_laws_heldIntS_l1
      rw [dec_t (by simp [mkL]; omega), cond_true, hg, Option.bind_some, bne_self_eq_false, cond_false, og_true (by omega), i64_lt (by omega) (by omega)]
      simp [Int.add_assoc]
    · try dsimp only
      unfold L_laws_heldIntS_l1
      rw [dec_f (by simp [mkL]), cond_false]
  rw [h]; rfl
/-- Rows that are not too long. -/
def RowsB (b : Nat) (xss : List (List Int)) : Prop := ∀ x ∈ xss, x.length ≤ b
def totS (xss : List (List Int)) : Nat := (xss.map List.length).sum
def marked (v : Int) : List (List Int) → List (List Int)
  | [] => []
  | x :: r => mkL v x.length :: marked (v + x.length) r
theorem marked_len : ∀ (v : Int) (xss : List (List Int)), (marked v xss).length = xss.length
  | _, [] => rfl
  | v, x :: r => by simp [marked, marked_len]
theorem marked_get : ∀ (v : Int) (xss : List (List Int)) (i : Nat) (h : i < xss.length), (marked v xss)[i]? = some (mkL (v + totS (xss.take i)) xss[i].length)
  | v, x :: r, 0, h => by simp [marked, totS]
  | v, x :: r, i + 1, h => by
    have := marked_get (v + x.length) r i (by simpa using h)
    simp only [marked, List.getElem?_cons_succ, this, List.take_succ_cons, List.getElem_cons_succ, totS, List.map_cons, List.sum_cons]
    congr 2
    simp [Int.add_assoc]
theorem totS_succ {xss : List (List Int)} {i : Nat} (h : i < xss.length) : totS (xss.take (i + 1)) = totS (xss.take i) + xss[i].length := by
  unfold totS
  rw [List.take_add_one, List.getElem?_eq_getElem h]
  simp only [Option.toList, List.map_append, List.map_cons, List.map_nil, List.sum_append, List.sum_cons, List.sum_nil, Nat.add_zero]
theorem totS_le {b : Nat} : ∀ {xss : List (List Int)}, RowsB b xss → totS xss ≤ xss.length * b
  | [], _ => by simp [totS]
  | x :: r, h => by
    have h1 := h x (by simp)
    have h2 := totS_le (xss := r) fun y hy => h y (by simp [hy])
    simp only [totS, List.map_cons, List.sum_cons, List.length_cons, Nat.succ_mul] at h2 ⊢
    omega
theorem totS_take {b : Nat} {xss : List (List Int)} (h : RowsB b xss) (i : Nat) : totS (xss.take i) ≤ xss.length * b := by
  refine Nat.le_trans (totS_le fun x hx => h x (List.mem_of_mem_take hx)) (Nat.mul_le_mul_right _ ?_)
  rw [List.length_take]; omega
theorem P_eqIntSS (xss : List (List Int)) (hn : xss.length ≤ 1048576) (hb : RowsB 1048576 xss) : L_laws_eqIntSS xss xss = some true := by
  unfold L_laws_eqIntSS
  have h : loopM (fun s_ : Nat => L_laws_eqIntSS_l1 xss xss s_) 4611686018427387904 0 = some (.next ()) := by
    refine loopM_det xss.length (fun i => i) (by omega) _ rfl (fun i hi => ?_) ?_
    · have hx := List.getElem?_eq_getElem hi
      have := hb _ (List.getElem_mem hi)
      try dsimp only
      unfold L_laws_eqIntSS_l1
      rw [dec_t (by omega), cond_true, hx, Option.bind_some, Option.bind_some, P_eqIntS _ (by omega), Option.bind_some, Bool.not_true, cond_false, og_true (by omega)]
    · try dsimp only
      unfold L_laws_eqIntSS_l1
      rw [dec_f (by omega), cond_false]
  rw [h, bne_self_eq_false, cond_false]; rfl
theorem P_markIntSS (xss : List (List Int)) {v : Int} (hv : 0 ≤ v ∧ v ≤ 576460752303423488) (hn : xss.length ≤ 1048576) (hb : RowsB 1048576 xss) :
    ∃ yss, ∃ u : Int, v ≤ u ∧ u ≤ v + 1099511627776 ∧ L_laws_markIntSS xss v = some (yss, u) ∧ yss.length = xss.length ∧ L_laws_heldIntSS yss v = some u := by
  have hm : xss.length * 1048576 ≤ 1048576 * 1048576 := Nat.mul_le_mul_right _ hn
  have ht := fun i => totS_take hb i
  have htt : totS xss ≤ xss.length * 1048576 := totS_le hb
  refine ⟨marked v xss, v + totS xss, by omega, by omega, ?_, marked_len _ _, ?_⟩
  · unfold L_laws_markIntSS
    have h : loopM (fun s_ : Int × Nat × List (List Int) => L_laws_markIntSS_l1 s_.1 s_.2.1 s_.2.2) 4611686018427387904 (v, 0, xss) = some (v + totS xss, marked v xss) := by
      refine loopM_det xss.length (fun i => (v + totS (xss.take i), i, (marked v xss).take i ++ xss.drop i)) (by omega) _ (by simp [totS]) (fun i hi => ?_) ?_
      · have hl : ((marked v xss).take i).length = i := by rw [List.length_take, marked_len]; omega
        have h1 := hb _ (List.getElem_mem hi)
        have h2 := ht i
        have hg := marked_get v xss i hi
        try dsimp only
        unfold L_laws_markIntSS_l1
        rw [dec_t (by rw [List.length_append, hl, List.length_drop]; omega), cond_true, pover_get hi hl, Option.bind_some, P_markIntSx _ (by omega) (by omega), Option.bind_some, og_true (by simp [mkL]), og_true (by omega), pover_set hi hl, totS_succ hi, List.take_add_one, hg]
        simp [Int.add_assoc]
      · try dsimp only
        unfold L_laws_markIntSS_l1
        have hl : ((marked v xss).take xss.length).length = xss.length := by rw [List.length_take, marked_len]; omega
        rw [dec_f (by rw [List.length_append, hl]; simp), cond_false]
        simp [List.take_of_length_le, marked_len]
    rw [h]; rfl
  · unfold L_laws_heldIntSS
    have h : loopM (fun s_ : Int × Nat => L_laws_heldIntSS_l1 (marked v xss) s_.1 s_.2) 4611686018427387904 (v, 0) = some (.next (v + totS xss)) := by
      refine loopM_det xss.length (fun i => (v + totS (xss.take i), i)) (by omega) _ (by simp [totS]) (fun i hi => ?_) ?_
      · have h1 := hb _ (List.getElem_mem hi)
        have h2 := ht i
        try dsimp only
        unfold L_laws_heldIntSS_l1
        rw [dec_t (by rw [marked_len]; omega), cond_true, marked_get v xss i hi, Option.bind_some, P_heldIntSx _ (by omega) (by omega), Option.bind_some, dec_f (by omega), cond_false, og_true (by omega), totS_succ hi]
        simp [Int.add_assoc]
      · try dsimp only
        unfold L_laws_heldIntSS_l1
        rw [dec_f (by rw [marked_len]; omega), cond_false, List.take_length]
    rw [h]; rfl
theorem sl_rows {R : Nat → Prop} {w : World} {t : Ty} {A : Option Addr} {c : Nat} {xss : List (List t.D)} {l : List Addr} (h : Sl R w (.slice t) A c xss l) : ∀ x ∈ xss, x.length ≤ 9223372036854775807 := by
  obtain ⟨_, _, f, _, h4⟩ := h
  intro x hx
  obtain ⟨i, hi, rfl⟩ := List.getElem_of_mem hx
  obtain ⟨_, _, _, h5⟩ := h4 (by omega)
  obtain ⟨A', c', _, h6⟩ := h5 i hi
  exact (sl_len (xs := xss[i]) h6).2
end Go.Proofs.YtefolocdfgelcaaDoor
