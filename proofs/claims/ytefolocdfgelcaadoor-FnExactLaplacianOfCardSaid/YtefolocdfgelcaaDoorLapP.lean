/- The matrix of a network: what the partial functions come to; no condition. -/
import Derived.Test.YtefolocdfgelcaaDoorLA
import Derived.Test.YtefolocdfgelcaaDoorMatP
import Derived.Test.YtefolocdfgelcaaDoorNetG
namespace Go.Proofs.YtefolocdfgelcaaDoor

theorem P_fdAdd {p x y : Int} (hp : 2 ≤ p ∧ p ≤ 97) (hx : 0 ≤ x ∧ x < p) (hy : 0 ≤ y ∧ y < p) : L_spec_fdAdd p x y = some ((x + y) % p) := by
  unfold L_spec_fdAdd
  rw [og_true (by omega), i64_lt (by omega) (by omega), Int.tmod_eq_emod_of_nonneg (by omega)]
theorem P_fdSub {p x y : Int} (hp : 2 ≤ p ∧ p ≤ 97) (hx : 0 ≤ x ∧ x < p) (hy : 0 ≤ y ∧ y < p) : L_spec_fdSub p x y = some ((x - y) % p) := by
  unfold L_spec_fdSub
  rw [og_true (by omega), i64_lt (n := x + p) (by omega) (by omega), i64_lt (by omega) (by omega), Int.tmod_eq_emod_of_nonneg (by omega), show x + p - y = x - y + p by omega, Int.add_emod_right]
theorem P_mod {p x : Int} (hp : 2 ≤ p ∧ p ≤ 97) : L_impl_mod p x = some (x % p) := by
  unfold L_impl_mod
  rw [og_true (by omega)]
  have e1 : x.tmod p = if 0 ≤ x ∨ x % p = 0 then x % p else x % p - p := by
    simp only [Int.tmod_eq_emod, Int.dvd_iff_emod_eq_zero]
    split <;> simp <;> omega
  have h1 := Int.emod_nonneg x (show p ≠ 0 by omega)
  have h2 := Int.emod_lt_of_pos x (show 0 < p by omega)
  by_cases h : x.tmod p < 0
  · rw [dec_t h, cond_true, Option.bind_some, i64_lt (by omega) (by omega)]
    congr 1
    split at e1 <;> omega
  · rw [dec_f h, cond_false, Option.bind_some]
    congr 1
    split at e1 <;> omega
theorem md_bd {p x : Int} (hp : 2 ≤ p ∧ p ≤ 97) : 0 ≤ x % p ∧ x % p < p := ⟨Int.emod_nonneg x (by omega), Int.emod_lt_of_pos x (by omega)⟩
theorem P_zeros {n : Int} (h : 0 ≤ n ∧ n ≤ 1000000) : L_impl_zeros n = some (List.replicate n.toNat 0) := by
  unfold L_impl_zeros
  rw [og_true (by omega)]
theorem P_lap_l1 {n : Int} (hn : 0 ≤ n ∧ n ≤ 1000) : loopM (fun s_ : Nat × List (List Int) => L_impl_Network_laplacian_l1 n s_.1 s_.2) 4611686018427387904 (0, List.replicate n.toNat ([] : List Int)) = some (List.replicate n.toNat (List.replicate n.toNat 0)) := by
  refine loopM_det n.toNat (fun i => (i, (List.replicate n.toNat (List.replicate n.toNat (0 : Int))).take i ++ List.replicate ((List.replicate n.toNat (List.replicate n.toNat (0 : Int))).length - i) [])) (by omega) _ (by simp) (fun i hi => ?_) ?_
  · have hx : (List.replicate n.toNat (List.replicate n.toNat (0 : Int)))[i]? = some (List.replicate n.toNat 0) := by simp [List.getElem?_replicate, hi]
    try dsimp only
    unfold L_impl_Network_laplacian_l1
    rw [dec_t (by omega), cond_true, P_zeros (by omega), Option.bind_some, pfill_get (by simpa using hi), Option.bind_some, og_true (by omega), pfill_set hx]
  · try dsimp only
    unfold L_impl_Network_laplacian_l1
    rw [dec_f (by omega), cond_false]
    simp
theorem P_lapBoth {p n : Int} {bs : List (Int × Int × Int)} {l r : List Int} (h : GoodN p n bs l r) : ∃ M, L_spec_nwLaplacian p n bs l r = some M ∧ L_impl_Network_laplacian n bs l r p = some M ∧ Sq p n.toNat n.toNat M := by
  have hp := isF_bd h.fp
  have n1 := h.n1
  have n2 := h.n2
  have lb := h.lb
  have key := loopM_same (b1 := fun s_ : Nat × List (List Int) => L_spec_nwLaplacian_l1 bs p s_.1 s_.2) (b2 := fun s_ : Nat × List (List Int) => L_impl_Network_laplacian_l2 bs p s_.1 s_.2) (Post := fun M => Sq p n.toNat n.toNat M) bs.length (fun i s => s.1 = i ∧ Sq p n.toNat n.toNat s.2) (F := 4611686018427387904) (by omega) (s0 := (0, List.replicate n.toNat (List.replicate n.toNat 0))) ⟨rfl, Sq.zero (by omega) _ _⟩ (fun i s hi hI => .inl ?_) (fun s hI => ?_)
  · obtain ⟨M, k1, k2, k3⟩ := key
    refine ⟨M, ?_, ?_, k3⟩
    · unfold L_spec_nwLaplacian
      rw [P_mxZero (by omega) (by omega), Option.bind_some, k1]; rfl
    · unfold L_impl_Network_laplacian
      rw [og_true (by omega), P_lap_l1 (by omega), Option.bind_some, k2]; rfl
  · obtain ⟨s1, M⟩ := s
    obtain ⟨rfl, hM⟩ := hI
    have hx := List.getElem?_eq_getElem hi
    obtain ⟨h1, h2, _, h3⟩ := h.ib _ (List.getElem_mem hi)
    generalize bs[s1] = e at hx h1 h2 h3
    have ha : 0 ≤ e.1 ∧ e.1 < (n.toNat : Int) := by omega
    have hb : 0 ≤ e.2.1 ∧ e.2.1 < (n.toNat : Int) := by omega
    obtain ⟨r1, x1, g1, f1, q1, w1⟩ := hM.at ha ha
    have W1 := w1 ((x1 + e.2.2) % p) (md_bd hp)
    obtain ⟨r2, x2, g2, f2, q2, w2⟩ := W1.at hb hb
    have W2 := w2 ((x2 + e.2.2) % p) (md_bd hp)
    obtain ⟨r3, x3, g3, f3, q3, w3⟩ := W2.at ha hb
    have W3 := w3 ((x3 - e.2.2) % p) (md_bd hp)
    obtain ⟨r4, x4, g4, f4, q4, w4⟩ := W3.at hb ha
    have W4 := w4 ((x4 - e.2.2) % p) (md_bd hp)
    refine ⟨(s1 + 1, _), ?_, ?_, rfl, W4⟩
    · try dsimp only
      unfold L_spec_nwLaplacian_l1
      rw [dec_t (by omega), cond_true, hx, Option.bind_some, g1, Option.bind_some, f1, Option.bind_some, P_fdAdd hp q1 (by omega), Option.bind_some, g2, Option.bind_some, f2, Option.bind_some, P_fdAdd hp q2 (by omega), Option.bind_some,
        g3, Option.bind_some, f3, Option.bind_some, P_fdSub hp q3 (by omega), Option.bind_some, g4, Option.bind_some, f4, Option.bind_some, P_fdSub hp q4 (by omega), Option.bind_some, og_true (by omega)]
    · try dsimp only
      unfold L_impl_Network_laplacian_l2
      rw [dec_t (by omega), cond_true, hx, Option.bind_some, g1, Option.bind_some, f1, Option.bind_some, i64_lt (by omega) (by omega), P_mod hp, Option.bind_some, g2, Option.bind_some, f2, Option.bind_some, i64_lt (by omega) (by omega), P_mod hp, Option.bind_some,
        g3, Option.bind_some, f3, Option.bind_some, i64_lt (by omega) (by omega), P_mod hp, Option.bind_some, g4, Option.bind_some, f4, Option.bind_some, i64_lt (by omega) (by omega), P_mod hp, Option.bind_some, og_true (by omega)]
  · obtain ⟨s1, M⟩ := s
    obtain ⟨hs, hM⟩ := hI
    have hs : s1 = bs.length := hs
    subst hs
    refine ⟨M, ?_, ?_, hM⟩
    · try dsimp only
      unfold L_spec_nwLaplacian_l1
      rw [dec_f (by omega), cond_false]
    · try dsimp only
      unfold L_impl_Network_laplacian_l2
      rw [dec_f (by omega), cond_false]
theorem P_lapOf {p n : Int} {bs : List (Int × Int × Int)} {l r : List Int} (hb : bs.length ≤ 1099511627776) (hl : l.length ≤ 1099511627776) (hr : r.length ≤ 1099511627776) : ∃ v, L_spec_LaplacianOf p n bs l r = some v ∧ L_impl_LaplacianOf p n bs l r = some v ∧ v.2.2.length ≤ 1048576 ∧ RowsB 1048576 v.2.2 := by
  unfold L_spec_LaplacianOf L_impl_LaplacianOf
  rw [P_nwGood p n bs l r hb hl hr, P_isNetwork p n bs l r hb hl hr, Option.bind_some, Option.bind_some]
  cases hg : goodP p n bs l r
  · exact ⟨_, rfl, rfl, by simp, fun x hx => by cases hx⟩
  · have h := goodP_iff.1 hg
    have n2 := h.n2
    obtain ⟨M, h1, h2, h3⟩ := P_lapBoth h
    refine ⟨(true, n, M), by rw [h1]; rfl, by rw [h2]; rfl, ?_, fun x hx => ?_⟩
    · have := h3.len
      show M.length ≤ 1048576
      omega
    · have := (h3.row x hx).1
      omega
theorem P_lawLap {p n : Int} {b : List (Int × Int × Int)} {l r : List Int} (h1 : b.length ≤ 9223372036854775807) (h2 : l.length ≤ 9223372036854775807) (h3 : r.length ≤ 9223372036854775807) : L_laws_FnExactLaplacianOf p n b l r = some true := by
  unfold L_laws_FnExactLaplacianOf
  rw [P_szNetwork n b l r (by omega) (by omega) (by omega) (by omega), Option.bind_some]
  by_cases e0 : (1048576 : Int) < ((b.length + l.length + r.length : Nat) : Int)
  · rw [show szV 1048576 (b.length + l.length + r.length) = -1 from if_pos e0]; rfl
  rw [show szV 1048576 (b.length + l.length + r.length) = 1048576 - ((b.length + l.length + r.length : Nat) : Int) from if_neg e0, dec_f (by omega), cond_false]
  have h1 : b.length ≤ 1073741824 := by omega
  have h2 : l.length ≤ 1073741824 := by omega
  have h3 : r.length ≤ 1073741824 := by omega
  obtain ⟨v, hs, hi, v1, v2⟩ := P_lapOf (p := p) (n := n) (bs := b) (l := l) (r := r) (by omega) (by omega) (by omega)
  obtain ⟨vo, vn, vm⟩ := v
  obtain ⟨b1, l1, r1, u1, c1, d1, m1, x1, y1, z1, k1⟩ := P_markNetwork n b l r (v := 1) (by omega) h1 h2 h3
  obtain ⟨w, u2, c2, d2, m2, x2, k2⟩ := P_markMatrix vn vm (v := 1) (by omega) v1 v2
  simp only [P_toNetwork n b l r h1 h2 h3, hs, hi, Option.bind_some, P_eqMatrix vn vm v1 v2, P_eqNetwork n b l r h1 h2 h3, m1, m2, k1, k2, og_true x1, og_true y1, og_true z1, og_true x2, bne_self_eq_false, Bool.not_true, cond_false, dec_f (show ¬ u1 < 0 by omega), dec_f (show ¬ u2 < 0 by omega)]
end Go.Proofs.YtefolocdfgelcaaDoor
