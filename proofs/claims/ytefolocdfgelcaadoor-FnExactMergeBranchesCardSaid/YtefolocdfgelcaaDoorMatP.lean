/- What the copies, comparisons and marks of matrices come to; no condition. -/
import Derived.Test.YtefolocdfgelcaaDoorIntSSP
namespace Go.Proofs.YtefolocdfgelcaaDoor

theorem P_eqMatrix (c : Int) (xss : List (List Int)) (hn : xss.length ≤ 1048576) (hb : RowsB 1048576 xss) : L_laws_eqMatrix c xss c xss = some true := by
  unfold L_laws_eqMatrix
  rw [P_eqIntSS xss hn hb, bne_self_eq_false]; rfl
theorem P_markMatrix (c : Int) (xss : List (List Int)) {v : Int} (hv : 0 ≤ v ∧ v ≤ 576460752303423488) (hn : xss.length ≤ 1048576) (hb : RowsB 1048576 xss) :
    ∃ yss, ∃ u : Int, v ≤ u ∧ u ≤ v + 1099511627776 ∧ L_laws_markMatrix c xss v = some (yss, u) ∧ yss.length = xss.length ∧ L_laws_heldMatrix c yss v = some u := by
  obtain ⟨yss, u, h1, h2, h3, h4, h5⟩ := P_markIntSS xss hv hn hb
  refine ⟨yss, u, h1, h2, ?_, h4, ?_⟩
  · unfold L_laws_markMatrix
    rw [h3, Option.bind_some, og_true h4]
  · unfold L_laws_heldMatrix
    rw [h5, Option.bind_some, dec_f (by omega), cond_false]

/-- A matrix of so many rows and columns. -/
structure Sq (p : Int) (n m : Nat) (M : List (List Int)) : Prop where
  len : M.length = n
  row : ∀ r ∈ M, r.length = m ∧ ∀ x ∈ r, 0 ≤ x ∧ x < p
theorem Sq.at {p : Int} {n m : Nat} {M : List (List Int)} (h : Sq p n m M) {i j : Int} (hi : 0 ≤ i ∧ i < n) (hj : 0 ≤ j ∧ j < m) : ∃ r x, getI M i = some r ∧ getI r j = some x ∧ (0 ≤ x ∧ x < p) ∧ ∀ y, (0 ≤ y ∧ y < p) → Sq p n m (M.set i.toNat (r.set j.toNat y)) := by
  have h1 : i.toNat < M.length := by rw [h.len]; omega
  obtain ⟨r1, r2⟩ := h.row _ (List.getElem_mem h1)
  have h2 : j.toNat < (M[i.toNat]).length := by rw [r1]; omega
  refine ⟨M[i.toNat], (M[i.toNat])[j.toNat], by rw [getI_nat hi.1]; exact List.getElem?_eq_getElem h1, by rw [getI_nat hj.1]; exact List.getElem?_eq_getElem h2, r2 _ (List.getElem_mem h2), fun y hy => ⟨by rw [List.length_set, h.len], fun r hr => ?_⟩⟩
  rcases List.mem_or_eq_of_mem_set hr with hr | rfl
  · exact h.row r hr
  · refine ⟨by rw [List.length_set, r1], fun x hx => ?_⟩
    rcases List.mem_or_eq_of_mem_set hx with hx | rfl
    · exact r2 x hx
    · exact hy
theorem Sq.zero {p : Int} (hp : 0 < p) (n m : Nat) : Sq p n m (List.replicate n (List.replicate m 0)) :=
  ⟨by simp, fun r hr => by
    obtain rfl := (List.mem_replicate.1 hr).2
    exact ⟨by simp, fun x hx => by obtain rfl := (List.mem_replicate.1 hx).2; omega⟩⟩
theorem P_mxZero {n m : Int} (hn : 0 ≤ n ∧ n ≤ 1000) (hm : 0 ≤ m ∧ m ≤ 1000) : L_spec_mxZero n m = some (List.replicate n.toNat (List.replicate m.toNat 0)) := by
  unfold L_spec_mxZero
  rw [og_true (by omega)]
  have h : loopM (fun s_ : Nat × List (List Int) => L_spec_mxZero_l1 n m s_.1 s_.2) 4611686018427387904 (0, List.replicate n.toNat ([] : List Int)) = some (List.replicate n.toNat (List.replicate m.toNat 0)) := by
    refine loopM_det n.toNat (fun i => (i, (List.replicate n.toNat (List.replicate m.toNat (0 : Int))).take i ++ List.replicate ((List.replicate n.toNat (List.replicate m.toNat (0 : Int))).length - i) [])) (by omega) _ (by simp) (fun i hi => ?_) ?_
    · have hx : (List.replicate n.toNat (List.replicate m.toNat (0 : Int)))[i]? = some (List.replicate m.toNat 0) := by simp [List.getElem?_replicate, hi]
      try dsimp only
      unfold L_spec_mxZero_l1
      rw [dec_t (by omega), cond_true, og_true (by omega), pfill_get (by simpa using hi), Option.bind_some, og_true (by omega), pfill_set hx]
    · try dsimp only
      unfold L_spec_mxZero_l1
      rw [dec_f (by omega), cond_false]
      simp
  rw [h]; rfl
end Go.Proofs.YtefolocdfgelcaaDoor
