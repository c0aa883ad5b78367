/- Networks beside one another: what the partial functions come to; no condition. -/
import Derived.Test.YtefolocdfgelcaaDoorBA
import Derived.Test.YtefolocdfgelcaaDoorNetP
import Derived.Test.YtefolocdfgelcaaDoorNetG
namespace Go.Proofs.YtefolocdfgelcaaDoor

def shB (k : Int) (e : Int × Int × Int) : Int × Int × Int := (k + e.1, k + e.2.1, e.2.2)
def shN (k : Int) (m : Nat) : List Int := (List.range m).map fun j : Nat => k + (j : Int)
theorem shN_get {k : Int} {m i : Nat} (h : i < m) : (shN k m)[i]? = some (k + i) := by simp [shN, h]
theorem shN_getI {k x : Int} {m : Nat} (h : 0 ≤ x ∧ x < m) : getI (shN k m) x = some (k + x) := by
  rw [getI_nat h.1, shN_get (by omega)]
  congr 1; omega
theorem P_nwBeside_l1 {an bn : Int} (ha : 1 ≤ an ∧ an ≤ 20) (hb : 1 ≤ bn ∧ bn ≤ 20) : loopM (fun s_ : Nat × List Int => L_spec_nwBeside_l1 bn an s_.1 s_.2) 4611686018427387904 (0, List.replicate bn.toNat (0 : Int)) = some (shN an bn.toNat) := by
  have hl : (shN an bn.toNat).length = bn.toNat := by simp [shN]
  refine loopM_det bn.toNat (fun i => (i, (shN an bn.toNat).take i ++ List.replicate ((shN an bn.toNat).length - i) 0)) (by omega) _ (by simp [hl]) (fun i hi => ?_) ?_
  · have hx := shN_get (k := an) hi
    try dsimp only
    unfold L_spec_nwBeside_l1
    rw [dec_t (by omega), cond_true, pfill_get (by omega), Option.bind_some, og_true (by omega), i64_lt (by omega) (by omega), pfill_set hx]
  · try dsimp only
    unfold L_spec_nwBeside_l1
    rw [dec_f (by omega), cond_false, hl]
    simp [List.take_of_length_le, hl]
theorem P_nwBeside_l2 {an bn : Int} {ab bb : List (Int × Int × Int)} (ha : ab.length ≤ 60) (hb : bb.length ≤ 60) (hi : ∀ e ∈ bb, (0 ≤ e.1 ∧ e.1 < bn) ∧ (0 ≤ e.2.1 ∧ e.2.1 < bn)) : loopM (fun s_ : Nat × List (Int × Int × Int) => L_spec_nwBeside_l2 bb (shN an bn.toNat) s_.1 s_.2) 4611686018427387904 (0, ab) = some (ab ++ bb.map (shB an)) := by
  refine loopM_app bb (shB an) ab (by omega) _ (fun i x h => ?_) ?_
  · have hlt := getN_lt h
    obtain ⟨h1, h2⟩ := hi x (List.mem_of_getElem? h)
    try dsimp only
    unfold L_spec_nwBeside_l2
    rw [dec_t (by omega), cond_true, h, Option.bind_some, shN_getI (by omega), Option.bind_some, shN_getI (by omega), Option.bind_some, og_true (by simp; omega), og_true (by omega)]
    rfl
  · try dsimp only
    unfold L_spec_nwBeside_l2
    rw [dec_f (by omega), cond_false]
theorem P_hgList {an bn : Int} {xs : List Int} (hx : xs.length ≤ 6) (hi : ∀ x ∈ xs, 0 ≤ x ∧ x < bn) : L_spec_hgList xs (shN an bn.toNat) = some (xs.map fun x => an + x) := by
  unfold L_spec_hgList
  have key : loopM (fun s_ : Nat × List Int => L_spec_hgList_l1 xs (shN an bn.toNat) s_.1 s_.2) 4611686018427387904 (0, []) = some ([] ++ xs.map fun x => an + x) := by
    refine loopM_app xs (fun x => an + x) [] (by omega) _ (fun i x h => ?_) ?_
    · have hlt := getN_lt h
      have h1 := hi x (List.mem_of_getElem? h)
      try dsimp only
      unfold L_spec_hgList_l1
      rw [dec_t (by omega), cond_true, h, Option.bind_some, shN_getI (by omega), Option.bind_some, og_true (by simp; omega), og_true (by omega)]
    · try dsimp only
      unfold L_spec_hgList_l1
      rw [dec_f (by omega), cond_false]
  rw [key]; rfl
theorem P_l1Own {xs : List Int} (hx : xs.length ≤ 1073741824) : L_spec_l1Own xs = some xs := by
  unfold L_spec_l1Own
  rw [og_true (by omega)]
theorem P_nwBeside {p an bn : Int} {ab bb : List (Int × Int × Int)} {al ar bl br : List Int} (ha : GoodN p an ab al ar) (hb : GoodN p bn bb bl br) :
    L_spec_nwBeside an ab al ar bn bb bl br = some (an + bn, ab ++ bb.map (shB an), al ++ bl.map (fun x => an + x), ar ++ br.map (fun x => an + x)) := by
  have a1 := ha.n1; have a2 := ha.n2; have a3 := ha.lb; have a4 := ha.ll; have a5 := ha.lr
  have b1 := hb.n1; have b2 := hb.n2; have b3 := hb.lb; have b4 := hb.ll; have b5 := hb.lr
  unfold L_spec_nwBeside
  rw [og_true (by omega), P_nwBeside_l1 (by omega) (by omega), Option.bind_some, og_true (by omega), P_nwBeside_l2 a3 b3 (fun e he => ⟨(hb.ib e he).1, (hb.ib e he).2.1⟩), Option.bind_some, P_l1Own (by omega), Option.bind_some, P_hgList b4 hb.il, Option.bind_some,
    og_true (by simp; omega), P_l1Own (by omega), Option.bind_some, P_hgList b5 hb.ir, Option.bind_some, og_true (by simp; omega), i64_lt (by omega) (by omega)]
theorem P_moved {an bn : Int} {bb : List (Int × Int × Int)} (ha : 1 ≤ an ∧ an ≤ 20) (hbn : bn ≤ 20) (hb : bb.length ≤ 60) (hi : ∀ e ∈ bb, (0 ≤ e.1 ∧ e.1 < bn) ∧ (0 ≤ e.2.1 ∧ e.2.1 < bn)) : L_impl_movedBranches_for_impl_shiftedBy_1 bb an = some (bb.map (shB an)) := by
  unfold L_impl_movedBranches_for_impl_shiftedBy_1
  have key : loopM (fun s_ : Nat × List (Int × Int × Int) => L_impl_movedBranches_for_impl_shiftedBy_1_l1 bb an s_.1 s_.2) 4611686018427387904 (0, []) = some ([] ++ bb.map (shB an)) := by
    refine loopM_app bb (shB an) [] (by omega) _ (fun i x h => ?_) ?_
    · have hlt := getN_lt h
      obtain ⟨h1, h2⟩ := hi x (List.mem_of_getElem? h)
      try dsimp only
      unfold L_impl_movedBranches_for_impl_shiftedBy_1_l1 L_impl_shiftedBy_1
      rw [dec_t (by omega), cond_true, h, Option.bind_some, Option.bind_some, Option.bind_some, og_true (by simp; omega), og_true (by omega), i64_lt (by omega) (by omega), i64_lt (by omega) (by omega), Int.add_comm x.1, Int.add_comm x.2.1]
      rfl
    · try dsimp only
      unfold L_impl_movedBranches_for_impl_shiftedBy_1_l1
      rw [dec_f (by omega), cond_false]
  rw [key]; rfl
theorem P_mapShift {an bn : Int} {xs : List Int} (ha : 1 ≤ an ∧ an ≤ 20) (hbn : bn ≤ 20) (hx : xs.length ≤ 6) (hi : ∀ x ∈ xs, 0 ≤ x ∧ x < bn) : L_impl_mapList_for_impl_shiftedBy_1 xs an = some (xs.map fun x => an + x) := by
  unfold L_impl_mapList_for_impl_shiftedBy_1
  have key : loopM (fun s_ : Nat × List Int => L_impl_mapList_for_impl_shiftedBy_1_l1 xs an s_.1 s_.2) 4611686018427387904 (0, []) = some ([] ++ xs.map fun x => an + x) := by
    refine loopM_app xs (fun x => an + x) [] (by omega) _ (fun i x h => ?_) ?_
    · have hlt := getN_lt h
      have h1 := hi x (List.mem_of_getElem? h)
      try dsimp only
      unfold L_impl_mapList_for_impl_shiftedBy_1_l1 L_impl_shiftedBy_1
      rw [dec_t (by omega), cond_true, h, Option.bind_some, Option.bind_some, og_true (by simp; omega), og_true (by omega), i64_lt (by omega) (by omega), Int.add_comm x]
    · try dsimp only
      unfold L_impl_mapList_for_impl_shiftedBy_1_l1
      rw [dec_f (by omega), cond_false]
  rw [key]; rfl
theorem P_joined2 {a b : List Int} (h : a.length + b.length ≤ 1073741824) : L_impl_joined [a, b] = some (a ++ b) := by
  unfold L_impl_joined
  have key : loopM (fun s_ : Nat × List Int => L_impl_joined_l1 [a, b] s_.1 s_.2) 4611686018427387904 (0, []) = some (a ++ b) := by
    refine loopM_det 2 (fun i => match i with | 0 => (0, []) | 1 => (1, a) | _ => (2, a ++ b)) (by omega) _ rfl (fun i hi => ?_) ?_
    · match i, hi with
      | 0, _ =>
        show L_impl_joined_l1 [a, b] 0 [] = _
        unfold L_impl_joined_l1
        rw [dec_t (by simp), cond_true, show ([a, b] : List (List Int))[0]? = some a from rfl, Option.bind_some, og_true (by simp; omega), og_true (by omega)]; rfl
      | 1, _ =>
        show L_impl_joined_l1 [a, b] 1 a = _
        unfold L_impl_joined_l1
        rw [dec_t (by simp), cond_true, show ([a, b] : List (List Int))[1]? = some b from rfl, Option.bind_some, og_true (by omega), og_true (by omega)]; rfl
    · show L_impl_joined_l1 [a, b] 2 (a ++ b) = _
      unfold L_impl_joined_l1
      rw [dec_f (by simp), cond_false]
  rw [key]; rfl
/-- The result of both. -/
def besV (p an : Int) (ab : List (Int × Int × Int)) (al ar : List Int) (bn : Int) (bb : List (Int × Int × Int)) (bl br : List Int) : Int × List (Int × Int × Int) × List Int × List Int × Bool :=
  if goodP p an ab al ar = true ∧ goodP p bn bb bl br = true ∧ goodP p (an + bn) (ab ++ bb.map (shB an)) (al ++ bl.map (fun x => an + x)) (ar ++ br.map (fun x => an + x)) = true then
    (an + bn, ab ++ bb.map (shB an), al ++ bl.map (fun x => an + x), ar ++ br.map (fun x => an + x), true)
  else (0, [], [], [], false)
section
variable {p an bn : Int} {ab bb : List (Int × Int × Int)} {al ar bl br : List Int} (h1 : ab.length ≤ 1073741824) (h2 : al.length ≤ 1073741824) (h3 : ar.length ≤ 1073741824) (h4 : bb.length ≤ 1073741824) (h5 : bl.length ≤ 1073741824) (h6 : br.length ≤ 1073741824)
include h1 h2 h3 h4 h5 h6
theorem P_specBeside : L_spec_BesideNetworks p an ab al ar bn bb bl br = some (besV p an ab al ar bn bb bl br) := by
  unfold L_spec_BesideNetworks besV
  rw [P_nwGood p an ab al ar (by omega) (by omega) (by omega), P_nwGood p bn bb bl br (by omega) (by omega) (by omega)]
  cases ha : goodP p an ab al ar
  · simp
  cases hb : goodP p bn bb bl br
  · simp
  have ga := goodP_iff.1 ha
  have gb := goodP_iff.1 hb
  have a3 := ga.lb; have a4 := ga.ll; have a5 := ga.lr
  have b3 := gb.lb; have b4 := gb.ll; have b5 := gb.lr
  rw [P_nwBeside ga gb]
  simp only [Option.bind_some, Bool.not_true, cond_false, true_and]
  unfold L_spec_nwIf
  rw [P_nwGood _ _ _ _ _ (by simp; omega) (by simp; omega) (by simp; omega)]
  cases goodP p (an + bn) (ab ++ bb.map (shB an)) (al ++ bl.map (fun x => an + x)) (ar ++ br.map (fun x => an + x)) <;> rfl
theorem P_implBeside : L_impl_BesideNetworks p an ab al ar bn bb bl br = some (besV p an ab al ar bn bb bl br) := by
  unfold L_impl_BesideNetworks besV
  rw [P_isNetwork p an ab al ar (by omega) (by omega) (by omega), P_isNetwork p bn bb bl br (by omega) (by omega) (by omega)]
  cases ha : goodP p an ab al ar
  · simp
  cases hb : goodP p bn bb bl br
  · simp
  have ga := goodP_iff.1 ha
  have gb := goodP_iff.1 hb
  have a1 := ga.n1; have a2 := ga.n2; have a3 := ga.lb; have a4 := ga.ll; have a5 := ga.lr
  have b1 := gb.n1; have b2 := gb.n2; have b3 := gb.lb; have b4 := gb.ll; have b5 := gb.lr
  simp only [Option.bind_some, Bool.not_true, cond_false, true_and]
  unfold L_impl_shiftedBy L_slices_Clone_impl_Branch_impl_Branch L_impl_validNetwork
  simp only [Option.bind_some]
  rw [og_true (by omega), Option.bind_some, P_moved ⟨a1, a2⟩ b2 b3 (fun e he => ⟨(gb.ib e he).1, (gb.ib e he).2.1⟩), Option.bind_some, og_true (by simp; omega), P_mapShift ⟨a1, a2⟩ b2 b4 gb.il, Option.bind_some, P_joined2 (by simp; omega), Option.bind_some, P_mapShift ⟨a1, a2⟩ b2 b5 gb.ir, Option.bind_some, P_joined2 (by simp; omega), Option.bind_some,
    i64_lt (by omega) (by omega), P_isNetwork _ _ _ _ _ (by simp; omega) (by simp; omega) (by simp; omega)]
  cases goodP p (an + bn) (ab ++ bb.map (shB an)) (al ++ bl.map (fun x => an + x)) (ar ++ br.map (fun x => an + x)) <;> rfl
omit h1 h2 h3 h4 h5 h6 in
theorem besV_bd : (besV p an ab al ar bn bb bl br).2.1.length ≤ 1073741824 ∧ (besV p an ab al ar bn bb bl br).2.2.1.length ≤ 1073741824 ∧ (besV p an ab al ar bn bb bl br).2.2.2.1.length ≤ 1073741824 := by
  unfold besV
  split
  · rename_i h
    have ga := goodP_iff.1 h.2.2
    have a3 := ga.lb; have a4 := ga.ll; have a5 := ga.lr
    exact ⟨Nat.le_trans a3 (by omega), Nat.le_trans a4 (by omega), Nat.le_trans a5 (by omega)⟩
  · simp
end
/-- The law. -/
theorem P_lawBeside {p an bn : Int} {ab bb : List (Int × Int × Int)} {al ar bl br : List Int} (h1 : ab.length ≤ 9223372036854775807) (h2 : al.length ≤ 9223372036854775807) (h3 : ar.length ≤ 9223372036854775807) (h4 : bb.length ≤ 9223372036854775807) (h5 : bl.length ≤ 9223372036854775807) (h6 : br.length ≤ 9223372036854775807) : L_laws_FnExactBesideNetworks p an ab al ar bn bb bl br = some true := by
  unfold L_laws_FnExactBesideNetworks
  rw [P_szNetwork an ab al ar (by omega) (by omega) (by omega) (by omega), Option.bind_some]
  by_cases e0 : (1048576 : Int) < ((ab.length + al.length + ar.length : Nat) : Int)
  · rw [show szV 1048576 (ab.length + al.length + ar.length) = -1 from if_pos e0]; rfl
  rw [show szV 1048576 (ab.length + al.length + ar.length) = 1048576 - ((ab.length + al.length + ar.length : Nat) : Int) from if_neg e0, dec_f (by omega), cond_false]
  rw [P_szNetwork bn bb bl br (by omega) (by omega) (by omega) (by omega), Option.bind_some]
  by_cases e1 : 1048576 - ((ab.length + al.length + ar.length : Nat) : Int) < ((bb.length + bl.length + br.length : Nat) : Int)
  · rw [show szV (1048576 - ((ab.length + al.length + ar.length : Nat) : Int)) (bb.length + bl.length + br.length) = -1 from if_pos e1]; rfl
  rw [show szV (1048576 - ((ab.length + al.length + ar.length : Nat) : Int)) (bb.length + bl.length + br.length) = 1048576 - ((ab.length + al.length + ar.length : Nat) : Int) - ((bb.length + bl.length + br.length : Nat) : Int) from if_neg e1, dec_f (by omega), cond_false]
  have h1 : ab.length ≤ 1073741824 := by omega
  have h2 : al.length ≤ 1073741824 := by omega
  have h3 : ar.length ≤ 1073741824 := by omega
  have h4 : bb.length ≤ 1073741824 := by omega
  have h5 : bl.length ≤ 1073741824 := by omega
  have h6 : br.length ≤ 1073741824 := by omega
  have hs := P_specBeside (p := p) (an := an) (bn := bn) h1 h2 h3 h4 h5 h6
  have hi := P_implBeside (p := p) (an := an) (bn := bn) h1 h2 h3 h4 h5 h6
  have hv := besV_bd (p := p) (an := an) (bn := bn) (ab := ab) (al := al) (ar := ar) (bb := bb) (bl := bl) (br := br)
  generalize besV p an ab al ar bn bb bl br = v at hs hi hv
  obtain ⟨vn, vb, vl, vr, vo⟩ := v
  obtain ⟨v1, v2, v3⟩ := hv
  obtain ⟨b1, l1, r1, u1, c1, d1, m1, x1, y1, z1, k1⟩ := P_markNetwork an ab al ar (v := 1) (by omega) h1 h2 h3
  obtain ⟨b2, l2, r2, u2, c2, d2, m2, x2, y2, z2, k2⟩ := P_markNetwork bn bb bl br (v := u1) (by omega) h4 h5 h6
  obtain ⟨b3, l3, r3, u3, c3, d3, m3, x3, y3, z3, k3⟩ := P_markNetwork vn vb vl vr (v := 1) (by omega) v1 v2 v3
  simp only [P_toNetwork an ab al ar h1 h2 h3, P_toNetwork bn bb bl br h4 h5 h6, hs, hi, Option.bind_some, P_eqNetwork vn vb vl vr v1 v2 v3, P_eqNetwork an ab al ar h1 h2 h3, P_eqNetwork bn bb bl br h4 h5 h6, m1, m2, m3, k1, k2, k3, og_true x1, og_true y1, og_true z1, og_true x2, og_true y2, og_true z2, og_true x3, og_true y3, og_true z3, bne_self_eq_false, Bool.not_true, cond_false, dec_f (show ¬ u2 < 0 by omega), dec_f (show ¬ u3 < 0 by omega)]
end Go.Proofs.YtefolocdfgelcaaDoor
