/- Networks glued: what the partial functions come to; no condition. -/
import Derived.Test.YtefolocdfgelcaaDoorGA
import Derived.Test.YtefolocdfgelcaaDoorBesP
import Derived.Test.YtefolocdfgelcaaDoorCls
namespace Go.Proofs.YtefolocdfgelcaaDoor

theorem P_root {c : List Int} {m : Nat} (h : Down c m) (hm : m ≤ 1073741824) {w r : Int} (hr : RootI c w r) : L_impl_classes_root c w = some r := by
  unfold L_impl_classes_root
  have hb := hr.bd h
  have key : loopM (fun s_ : Int => L_impl_classes_root_l1 c s_) 4611686018427387904 w = some r := by
    refine loopM_eq w.toNat (fun i s => RootI c s r ∧ 0 ≤ s ∧ s + i ≤ w) (by omega) r ⟨hr, by omega, by omega⟩ ?_ ?_
    · rintro i s hi ⟨hs, h0, hl⟩
      unfold L_impl_classes_root_l1
      cases hs with
      | base hg =>
        refine .inr ?_
        rw [hg, Option.bind_some, bne_self_eq_false, cond_false]
      | @step _ v _ hg hne hv =>
        have := h.getI_le hg
        refine .inl ⟨v, ?_, hv, by omega, by omega⟩
        rw [hg, Option.bind_some, show (v != s) = true from bne_iff_ne.2 hne, cond_true]
    · rintro s ⟨hs, h0, hl⟩
      unfold L_impl_classes_root_l1
      cases hs with
      | base hg => rw [hg, Option.bind_some, bne_self_eq_false, cond_false]
      | @step _ v _ hg hne hv =>
        have := h.getI_le hg
        omega
  rw [key]; rfl
theorem P_join {c s : List Int} {m : Nat} (h : Cls c s m) (hm : m ≤ 1073741824) {v w x y : Int} (hv : getI s v = some x) (hw : getI s w = some y) :
    ∃ c', L_impl_classes_join c v w = some c' ∧ Cls c' (joinS s (if y < x then x else y) (if x < y then x else y)) m := by
  obtain ⟨v1, v2, v3⟩ := getI_some hv
  obtain ⟨w1, w2, w3⟩ := getI_some hw
  have rx := h.root _ _ v3
  have ry := h.root _ _ w3
  rw [Int.toNat_of_nonneg v1] at rx
  rw [Int.toNat_of_nonneg w1] at ry
  have bx := rx.bd h.down
  have byy := ry.bd h.down
  unfold L_impl_classes_join
  rw [P_root h.down hm rx, Option.bind_some, P_root h.down hm ry, Option.bind_some]
  by_cases e : x < y
  · rw [if_pos e, if_neg (by omega : ¬ y < x), if_neg (by omega : ¬ y < x), if_pos e, byy.2.2.2, Option.bind_some, Option.bind_some]
    exact ⟨_, rfl, h.join byy.2.2.2 bx.2.2.2 (by omega)⟩
  · rw [if_neg e, if_neg e]
    by_cases e' : y < x
    · rw [if_pos e', if_pos e', bx.2.2.2, Option.bind_some, Option.bind_some]
      exact ⟨_, rfl, h.join bx.2.2.2 byy.2.2.2 (by omega)⟩
    · obtain rfl : x = y := by omega
      simp only [ite_self]
      rw [bx.2.2.2, Option.bind_some, Option.bind_some]
      exact ⟨_, rfl, h.join bx.2.2.2 bx.2.2.2 (by omega)⟩
theorem P_mostS (x y : Int) : L_spec_l1Most x y = some (if y < x then x else y) := by
  unfold L_spec_l1Most
  by_cases e : y < x <;> simp [e]
theorem P_leastS (x y : Int) : L_spec_l1Least x y = some (if x < y then x else y) := by
  unfold L_spec_l1Least
  by_cases e : x < y <;> simp [e]
theorem P_glue_l3 (s : List Int) (x y : Int) (hs : s.length ≤ 1073741824) : loopM (fun s_ : Nat × List Int => L_spec_nwGlue_l3 s x y s_.1 s_.2) 4611686018427387904 (0, s) = some (joinS s (if y < x then x else y) (if x < y then x else y)) := by
  generalize hhi : (if y < x then x else y) = hi
  generalize hlo : (if x < y then x else y) = lo
  refine loopM_det s.length (fun i => (i, (s.take i).map (fun c => if c = hi then lo else c) ++ s.drop i)) (by omega) _ (by simp) (fun i hi' => ?_) ?_
  · have hl : ((s.take i).map fun c => if c = hi then lo else c).length = i := by rw [List.length_map, List.length_take]; omega
    try dsimp only
    unfold L_spec_nwGlue_l3
    rw [dec_t (by omega), cond_true, pover_get hi' hl, Option.bind_some, P_mostS, hhi, Option.bind_some, P_leastS, hlo, List.take_add_one, List.getElem?_eq_getElem hi', List.map_append, Option.toList, List.map_cons, List.map_nil]
    by_cases e : s[i] = hi
    · rw [show (s[i] == hi) = true from beq_iff_eq.2 e, cond_true, Option.bind_some, Option.bind_some, og_true (by omega), pover_set hi' hl, if_pos e]
    · rw [show (s[i] == hi) = false from beq_eq_false_iff_ne.2 e, cond_false, Option.bind_some, og_true (by omega), if_neg e, List.drop_eq_getElem_cons hi', List.append_assoc]; rfl
  · try dsimp only
    unfold L_spec_nwGlue_l3
    rw [dec_f (by omega), cond_false]
    unfold joinS
    simp
theorem getI_D {s : List Int} {x : Int} (h : 0 ≤ x ∧ x < s.length) : getI s x = some (s.getD x.toNat 0) := by
  have hlt : x.toNat < s.length := by omega
  rw [getI_nat h.1, List.getD_eq_getElem?_getD, List.getElem?_eq_getElem hlt]; rfl
theorem get_D {s : List Int} {i : Nat} (h : i < s.length) : s[i]? = some (s.getD i 0) := by
  rw [List.getD_eq_getElem?_getD, List.getElem?_eq_getElem h]; rfl
/-- The classes after some pairs. -/
def glS (an : Int) (ar bl : List Int) (m : Nat) : Nat → List Int
  | 0 => upN m
  | i + 1 => joinS (glS an ar bl m i) (if (glS an ar bl m i).getD (an + bl.getD i 0).toNat 0 < (glS an ar bl m i).getD (ar.getD i 0).toNat 0 then (glS an ar bl m i).getD (ar.getD i 0).toNat 0 else (glS an ar bl m i).getD (an + bl.getD i 0).toNat 0) (if (glS an ar bl m i).getD (ar.getD i 0).toNat 0 < (glS an ar bl m i).getD (an + bl.getD i 0).toNat 0 then (glS an ar bl m i).getD (ar.getD i 0).toNat 0 else (glS an ar bl m i).getD (an + bl.getD i 0).toNat 0)
theorem glS_len {an : Int} {ar bl : List Int} {m : Nat} : ∀ i, (glS an ar bl m i).length = m
  | 0 => upN_len
  | i + 1 => by unfold glS joinS; rw [List.length_map]; exact glS_len i
section
variable {an bn : Int} {ar bl : List Int} {m : Nat} (hm : (m : Int) = an + bn) (ha : 1 ≤ an ∧ an ≤ 20) (hb : 1 ≤ bn ∧ bn ≤ 20) (h6 : ar.length ≤ 6) (he : ar.length = bl.length) (ia : ∀ x ∈ ar, 0 ≤ x ∧ x < an) (ib : ∀ x ∈ bl, 0 ≤ x ∧ x < bn)
include hm ha hb h6 he ia ib
omit h6 in
theorem glue_at {i : Nat} (hi : i < ar.length) : ar[i]? = some (ar.getD i 0) ∧ bl[i]? = some (bl.getD i 0) ∧ IntKind.i64.wrap (an + bl.getD i 0) = an + bl.getD i 0 ∧ (0 ≤ ar.getD i 0 ∧ ar.getD i 0 < m) ∧ (0 ≤ an + bl.getD i 0 ∧ an + bl.getD i 0 < m) := by
  have h1 := get_D hi
  have h2 := get_D (show i < bl.length by omega)
  have h3 := ia _ (List.mem_of_getElem? h1)
  have h4 := ib _ (List.mem_of_getElem? h2)
  exact ⟨h1, h2, i64_lt (by omega) (by omega), by omega, by omega⟩
theorem P_glue_l2 : loopM (fun s_ : Nat × List Int => L_spec_nwGlue_l2 ar bl an s_.1 s_.2) 4611686018427387904 (0, upN m) = some (glS an ar bl m ar.length) := by
  refine loopM_det ar.length (fun i => (i, glS an ar bl m i)) (by omega) _ rfl (fun i hi => ?_) ?_
  · obtain ⟨h1, h2, h3, h4, h5⟩ := glue_at hm ha hb he ia ib hi
    have hl := glS_len (an := an) (ar := ar) (bl := bl) (m := m) i
    try dsimp only
    unfold L_spec_nwGlue_l2
    rw [dec_t (by omega), cond_true, h1, Option.bind_some, getI_D (by omega), Option.bind_some, h2, Option.bind_some, h3, getI_D (by omega), Option.bind_some, Option.bind_some, P_glue_l3 _ _ _ (by omega), Option.bind_some, og_true (by omega)]
    rfl
  · try dsimp only
    unfold L_spec_nwGlue_l2
    rw [dec_f (by omega), cond_false]
theorem P_glue_i1 : ∃ c, loopM (fun s_ : Nat × List Int => L_impl_GlueNetworks_l1 ar bl an s_.1 s_.2) 4611686018427387904 (0, upN m) = some c ∧ Cls c (glS an ar bl m ar.length) m := by
  refine loopM_post ar.length (fun i s => s.1 = i ∧ Cls s.2 (glS an ar bl m i) m) (by omega) ⟨rfl, Cls.up m⟩ ?_ ?_
  · rintro i ⟨j, c⟩ hi ⟨hj, hc⟩
    obtain rfl : j = i := hj
    obtain ⟨h1, h2, h3, h4, h5⟩ := glue_at hm ha hb he ia ib hi
    have hl := glS_len (an := an) (ar := ar) (bl := bl) (m := m) j
    obtain ⟨c', g1, g2⟩ := P_join hc (by omega) (getI_D (s := glS an ar bl m j) (x := ar.getD j 0) (by omega)) (getI_D (s := glS an ar bl m j) (x := an + bl.getD j 0) (by omega))
    refine .inl ⟨(j + 1, c'), ?_, rfl, g2⟩
    have e1 := g2.down.len
    have e2 := hc.down.len
    try dsimp only at e2 g1 ⊢
    unfold L_impl_GlueNetworks_l1
    rw [dec_t (by omega), cond_true, h1, Option.bind_some, h2, Option.bind_some, h3, g1, Option.bind_some, og_true (by omega), og_true (by omega)]
  · rintro ⟨j, c⟩ ⟨hj, hc⟩
    obtain rfl : j = ar.length := hj
    refine ⟨c, ?_, hc⟩
    try dsimp only
    unfold L_impl_GlueNetworks_l1
    rw [dec_f (by omega), cond_false]
end
theorem P_num {s : List Int} {m : Nat} (hs : s.length = m) (hm : m ≤ 1073741824) (hle : ∀ (i : Nat) (x : Int), s[i]? = some x → 0 ≤ x ∧ x ≤ i) : loopM (fun s_ : Nat × Nat × List Int => L_spec_nwGlue_l4 s s_.1 s_.2.1 s_.2.2) 4611686018427387904 (0, 0, List.replicate m (0 : Int)) = some (numS s m) := by
  refine loopM_det m (fun i => ((numS s i).1, i, (numS s i).2)) (by omega) _ (by simp [numS, hs]) (fun i hi => ?_) ?_
  · have hx := get_D (show i < s.length by omega)
    obtain ⟨h1, h2⟩ := hle _ _ hx
    obtain ⟨h3, h4⟩ := numS_len s i
    have hy := get_D (show i < (numS s i).2.length by omega)
    try dsimp only
    unfold L_spec_nwGlue_l4
    rw [dec_t (by omega), cond_true, hx, Option.bind_some]
    show _ = some (Ctl.next ((numS s (i + 1)).1, i + 1, (numS s (i + 1)).2))
    rw [numS_succ]
    by_cases e : s.getD i 0 = (i : Int)
    · rw [if_pos e, show (s.getD i 0 == (i : Int)) = true from beq_iff_eq.2 e, cond_true, hy, Option.bind_some, og_true (by omega), Option.bind_some]
      dsimp only
      rw [og_true (by omega)]
    · rw [if_neg e, show (s.getD i 0 == (i : Int)) = false from beq_eq_false_iff_ne.2 e, cond_false, getI_D (by omega), Option.bind_some, hy, Option.bind_some, Option.bind_some]
      dsimp only
      rw [og_true (by omega)]
  · try dsimp only
    unfold L_spec_nwGlue_l4
    rw [dec_f (by omega), cond_false]
theorem P_numI {c s : List Int} {m : Nat} (h : Cls c s m) (hm : m ≤ 1073741824) : loopM (fun s_ : Nat × Nat × List Int => L_impl_GlueNetworks_l2 (List.replicate m (0 : Int)) c s_.1 s_.2.1 s_.2.2) 4611686018427387904 (0, 0, List.replicate m (0 : Int)) = some (numS s m) := by
  have hs := h.len
  refine loopM_det m (fun i => ((numS s i).1, i, (numS s i).2)) (by omega) _ (by simp [numS, hs]) (fun i hi => ?_) ?_
  · have hx := get_D (show i < s.length by omega)
    obtain ⟨h1, h2⟩ := h.le _ _ hx
    obtain ⟨h3, h4⟩ := numS_len s i
    have hy := get_D (show i < (numS s i).2.length by omega)
    try dsimp only
    unfold L_impl_GlueNetworks_l2
    rw [dec_t (by simp; omega), cond_true, P_root h.down hm (h.root _ _ hx), Option.bind_some]
    show _ = some (Ctl.next ((numS s (i + 1)).1, i + 1, (numS s (i + 1)).2))
    rw [numS_succ]
    by_cases e : s.getD i 0 = (i : Int)
    · rw [if_pos e, dec_f (by omega), cond_false, hy, Option.bind_some, og_true (by omega), Option.bind_some]
      dsimp only
      rw [og_true (by omega)]
    · rw [if_neg e, dec_t (by omega), cond_true, getI_D (by omega), Option.bind_some, hy, Option.bind_some, Option.bind_some]
      dsimp only
      rw [og_true (by omega)]
  · try dsimp only
    unfold L_impl_GlueNetworks_l2
    rw [dec_f (by simp), cond_false]
def gB (T : Int → Int) (e : Int × Int × Int) : Int × Int × Int := (T e.1, T e.2.1, e.2.2)
def neB (e : Int × Int × Int) : Bool := e.1 != e.2.1
theorem P_hgT {T : Int → Int} {xs to : List Int} (hx : xs.length ≤ 1048576) (hT : ∀ x ∈ xs, getI to x = some (T x)) : L_spec_hgList xs to = some (xs.map T) := by
  unfold L_spec_hgList
  have key : loopM (fun s_ : Nat × List Int => L_spec_hgList_l1 xs to s_.1 s_.2) 4611686018427387904 (0, []) = some ([] ++ xs.map T) := by
    refine loopM_app xs T [] (by omega) _ (fun i x h => ?_) ?_
    · have hlt := getN_lt h
      have h1 := hT x (List.mem_of_getElem? h)
      try dsimp only
      unfold L_spec_hgList_l1
      rw [dec_t (by omega), cond_true, h, Option.bind_some, h1, Option.bind_some, og_true (by simp; omega), og_true (by omega)]
    · try dsimp only
      unfold L_spec_hgList_l1
      rw [dec_f (by omega), cond_false]
  rw [key]; rfl
theorem P_mapT {T : Int → Int} {xs to : List Int} (hx : xs.length ≤ 1048576) (hT : ∀ x ∈ xs, getI to x = some (T x)) : L_impl_mapList_for_impl_GlueNetworks_1 xs to = some (xs.map T) := by
  unfold L_impl_mapList_for_impl_GlueNetworks_1
  have key : loopM (fun s_ : Nat × List Int => L_impl_mapList_for_impl_GlueNetworks_1_l1 xs to s_.1 s_.2) 4611686018427387904 (0, []) = some ([] ++ xs.map T) := by
    refine loopM_app xs T [] (by omega) _ (fun i x h => ?_) ?_
    · have hlt := getN_lt h
      have h1 := hT x (List.mem_of_getElem? h)
      try dsimp only
      unfold L_impl_mapList_for_impl_GlueNetworks_1_l1 L_impl_GlueNetworks_1
      rw [dec_t (by omega), cond_true, h, Option.bind_some, h1, Option.bind_some, Option.bind_some, og_true (by simp; omega), og_true (by omega)]
    · try dsimp only
      unfold L_impl_mapList_for_impl_GlueNetworks_1_l1
      rw [dec_f (by omega), cond_false]
  rw [key]; rfl
theorem P_movT {T : Int → Int} {bs : List (Int × Int × Int)} {to : List Int} (hx : bs.length ≤ 1048576) (hT : ∀ e ∈ bs, getI to e.1 = some (T e.1) ∧ getI to e.2.1 = some (T e.2.1)) : L_impl_movedBranches_for_impl_GlueNetworks_1 bs to = some (bs.map (gB T)) := by
  unfold L_impl_movedBranches_for_impl_GlueNetworks_1
  have key : loopM (fun s_ : Nat × List (Int × Int × Int) => L_impl_movedBranches_for_impl_GlueNetworks_1_l1 bs to s_.1 s_.2) 4611686018427387904 (0, []) = some ([] ++ bs.map (gB T)) := by
    refine loopM_app bs (gB T) [] (by omega) _ (fun i x h => ?_) ?_
    · have hlt := getN_lt h
      obtain ⟨h1, h2⟩ := hT x (List.mem_of_getElem? h)
      try dsimp only
      unfold L_impl_movedBranches_for_impl_GlueNetworks_1_l1 L_impl_GlueNetworks_1
      rw [dec_t (by omega), cond_true, h, Option.bind_some, h1, Option.bind_some, Option.bind_some, h2, Option.bind_some, Option.bind_some, og_true (by simp; omega), og_true (by omega)]
      rfl
    · try dsimp only
      unfold L_impl_movedBranches_for_impl_GlueNetworks_1_l1
      rw [dec_f (by omega), cond_false]
  rw [key]; rfl
theorem fl_le {α β : Type} {f : β → Bool} {g : α → β} {xs : List α} {i : Nat} : (((xs.take i).map g).filter f).length ≤ i := by
  refine Nat.le_trans (List.length_filter_le _ _) ?_
  rw [List.length_map, List.length_take]; omega
theorem P_filT {bs : List (Int × Int × Int)} (hx : bs.length ≤ 1048576) : loopM (fun s_ : Nat × List (Int × Int × Int) => L_impl_GlueNetworks_l3 bs s_.1 s_.2) 4611686018427387904 (0, []) = some (bs.filter neB) := by
  refine loopM_det bs.length (fun i => (i, ((bs.take i).map id).filter neB)) (by omega) _ (by simp) (fun i hi => ?_) ?_
  · have hb := fl_le (f := neB) (g := id) (xs := bs) (i := i)
    have hxx := List.getElem?_eq_getElem hi
    try dsimp only
    unfold L_impl_GlueNetworks_l3
    rw [dec_t (by omega), cond_true, hxx, Option.bind_some, List.take_add_one, hxx, List.map_append, List.filter_append]
    cases e : (bs[i].1 != bs[i].2.1)
    · rw [cond_false, Option.bind_some, og_true (by omega)]
      simp [neB, e]
    · rw [cond_true, og_true (by omega), Option.bind_some, og_true (by omega)]
      simp [neB, e]
  · try dsimp only
    unfold L_impl_GlueNetworks_l3
    rw [dec_f (by omega), cond_false]
    simp
theorem P_nwMapT {T : Int → Int} {n k : Int} {bs : List (Int × Int × Int)} {l r to : List Int} (hb : bs.length ≤ 1048576) (hl : l.length ≤ 1048576) (hr : r.length ≤ 1048576) (tl : ∀ x ∈ l, getI to x = some (T x)) (tr : ∀ x ∈ r, getI to x = some (T x)) (tb : ∀ e ∈ bs, getI to e.1 = some (T e.1) ∧ getI to e.2.1 = some (T e.2.1)) :
    L_spec_nwMap n bs l r to k = some (k, (bs.map (gB T)).filter neB, l.map T, r.map T) := by
  unfold L_spec_nwMap
  have key : loopM (fun s_ : Nat × List (Int × Int × Int) => L_spec_nwMap_l1 bs to s_.1 s_.2) 4611686018427387904 (0, []) = some ((bs.map (gB T)).filter neB) := by
    refine loopM_det bs.length (fun i => (i, ((bs.take i).map (gB T)).filter neB)) (by omega) _ (by simp) (fun i hi => ?_) ?_
    · have hb := fl_le (f := neB) (g := gB T) (xs := bs) (i := i)
      have hxx := List.getElem?_eq_getElem hi
      obtain ⟨h1, h2⟩ := tb _ (List.getElem_mem hi)
      try dsimp only
      unfold L_spec_nwMap_l1
      rw [dec_t (by omega), cond_true, hxx, Option.bind_some, h1, Option.bind_some, h2, Option.bind_some, List.take_add_one, hxx, List.map_append, List.filter_append]
      cases e : (T bs[i].1 != T bs[i].2.1)
      · rw [cond_false, Option.bind_some, og_true (by omega)]
        simp [neB, gB, e]
      · rw [cond_true, og_true (by omega), Option.bind_some, og_true (by omega)]
        simp [neB, gB, e]
    · try dsimp only
      unfold L_spec_nwMap_l1
      rw [dec_f (by omega), cond_false]
      simp
  rw [P_hgT hl tl, Option.bind_some, P_hgT hr tr, Option.bind_some, key, Option.bind_some]
theorem P_upS {y : Int × List (Int × Int × Int) × List Int × List Int} {m : Nat} (hy : y.1.toNat = m) (hm : m ≤ 1048576) : loopM (fun s_ : Nat × List Int => L_spec_nwGlue_l1 y s_.1 s_.2) 4611686018427387904 (0, List.replicate m (0 : Int)) = some (upN m) := by
  have hl := upN_len (m := m)
  refine loopM_det m (fun i => (i, (upN m).take i ++ List.replicate ((upN m).length - i) 0)) (by omega) _ (by simp [hl]) (fun i hi => ?_) ?_
  · have hx := upN_get hi
    try dsimp only
    unfold L_spec_nwGlue_l1
    rw [dec_t (by omega), cond_true, pfill_get (by omega), Option.bind_some, og_true (by omega), pfill_set hx]
  · try dsimp only
    unfold L_spec_nwGlue_l1
    rw [dec_f (by omega), cond_false, hl]
    simp [List.take_of_length_le, hl]
theorem P_zeros {n : Int} (h : 0 ≤ n ∧ n ≤ 1048576) : L_impl_zeros n = some (List.replicate n.toNat 0) := by
  unfold L_impl_zeros
  rw [og_true (by omega)]
theorem P_upTo {n : Int} {m : Nat} (hn : n.toNat = m) (h : 0 ≤ n ∧ n ≤ 1048576) : L_impl_upTo n = some (upN m) := by
  have hl := upN_len (m := m)
  unfold L_impl_upTo
  rw [P_zeros h, Option.bind_some, hn]
  have key : loopM (fun s_ : Nat × List Int => L_impl_upTo_l1 (List.replicate m (0 : Int)) s_.1 s_.2) 4611686018427387904 (0, List.replicate m (0 : Int)) = some (upN m) := by
    refine loopM_det m (fun i => (i, (upN m).take i ++ List.replicate ((upN m).length - i) 0)) (by omega) _ (by simp [hl]) (fun i hi => ?_) ?_
    · have hx := upN_get hi
      try dsimp only
      unfold L_impl_upTo_l1
      rw [dec_t (by simp; omega), cond_true, pfill_get (by omega), Option.bind_some, og_true (by omega), pfill_set hx]
    · try dsimp only
      unfold L_impl_upTo_l1
      rw [dec_f (by simp), cond_false, hl]
      simp [List.take_of_length_le, hl]
  rw [key]; rfl
theorem toS_all {s : List Int} {m : Nat} (hs : s.length = m) {xs : List Int} (h : ∀ x ∈ xs, 0 ≤ x ∧ x < m) : ∀ x ∈ xs, getI (numS s m).2 x = some (toS s x) := by
  subst hs
  exact fun x hx => toS_get (h x hx)
/-- The result of both. -/
def gluB (s : List Int) (an : Int) (ab bb : List (Int × Int × Int)) : List (Int × Int × Int) := ((ab ++ bb.map (shB an)).map (gB (toS s))).filter neB
def gluV (p an : Int) (ab : List (Int × Int × Int)) (al ar : List Int) (bn : Int) (bb : List (Int × Int × Int)) (bl br : List Int) : Int × List (Int × Int × Int) × List Int × List Int × Bool :=
  if goodP p an ab al ar = true ∧ goodP p bn bb bl br = true ∧ ar.length = bl.length ∧ goodP p ((numS (glS an ar bl (an + bn).toNat ar.length) (an + bn).toNat).1 : Int) (gluB (glS an ar bl (an + bn).toNat ar.length) an ab bb) (al.map (toS (glS an ar bl (an + bn).toNat ar.length))) ((br.map fun x => an + x).map (toS (glS an ar bl (an + bn).toNat ar.length))) = true then
    (((numS (glS an ar bl (an + bn).toNat ar.length) (an + bn).toNat).1 : Int), gluB (glS an ar bl (an + bn).toNat ar.length) an ab bb, al.map (toS (glS an ar bl (an + bn).toNat ar.length)), (br.map fun x => an + x).map (toS (glS an ar bl (an + bn).toNat ar.length)), true)
  else (0, [], [], [], false)
section
variable {p an bn : Int} {ab bb : List (Int × Int × Int)} {al ar bl br : List Int} (ga : GoodN p an ab al ar) (gb : GoodN p bn bb bl br) {m : Nat} (hm : (m : Int) = an + bn) {s : List Int} (hs : s.length = m)
include ga gb hm hs
theorem glu_l : ∀ x ∈ al, getI (numS s m).2 x = some (toS s x) := toS_all hs fun x hx => by have := ga.il x hx; have := gb.n1; omega
theorem glu_r : ∀ x ∈ br.map (fun x => an + x), getI (numS s m).2 x = some (toS s x) := toS_all hs fun x hx => by
  obtain ⟨y, hy, rfl⟩ := List.mem_map.1 hx
  have := gb.ir y hy; have := ga.n1; omega
theorem glu_b : ∀ e ∈ ab ++ bb.map (shB an), getI (numS s m).2 e.1 = some (toS s e.1) ∧ getI (numS s m).2 e.2.1 = some (toS s e.2.1) := by
  subst hs
  intro e he
  have g1 := ga.n1; have g2 := gb.n1
  rcases List.mem_append.1 he with h | h
  · have := ga.ib e h
    exact ⟨toS_get (by omega), toS_get (by omega)⟩
  · obtain ⟨y, hy, rfl⟩ := List.mem_map.1 h
    have := gb.ib y hy
    simp only [shB]
    exact ⟨toS_get (by omega), toS_get (by omega)⟩
end
section
variable {p an bn : Int} {ab bb : List (Int × Int × Int)} {al ar bl br : List Int}
theorem P_nwGlue (ga : GoodN p an ab al ar) (gb : GoodN p bn bb bl br) (he : ar.length = bl.length) {m : Nat} (hm : (m : Int) = an + bn) :
    L_spec_nwGlue an ab al ar bn bb bl br = some (((numS (glS an ar bl m ar.length) m).1 : Int), gluB (glS an ar bl m ar.length) an ab bb, al.map (toS (glS an ar bl m ar.length)), (br.map fun x => an + x).map (toS (glS an ar bl m ar.length))) := by
  have a1 := ga.n1; have a2 := ga.n2; have a3 := ga.lb; have a4 := ga.ll; have a5 := ga.lr
  have b1 := gb.n1; have b2 := gb.n2; have b3 := gb.lb; have b4 := gb.ll; have b5 := gb.lr
  have hmN : (an + bn).toNat = m := by omega
  obtain ⟨c, hc1, hc⟩ := P_glue_i1 hm ⟨a1, a2⟩ ⟨b1, b2⟩ a5 he ga.ir gb.il
  unfold L_spec_nwGlue
  rw [P_nwBeside ga gb, Option.bind_some, P_l1Own (by omega), Option.bind_some]
  try dsimp only
  rw [og_true (by simp; omega), og_true (by omega), hmN, P_upS (by exact hmN) (by omega), Option.bind_some, P_glue_l2 hm ⟨a1, a2⟩ ⟨b1, b2⟩ a5 he ga.ir gb.il, Option.bind_some, og_true (by omega), P_num (glS_len _) (by omega) hc.le, Option.bind_some]
  try dsimp only
  rw [show (ar ++ br.map fun x => an + x).drop ar.length = br.map fun x => an + x from List.drop_left, P_nwMapT (T := toS (glS an ar bl m ar.length)) (by simp; omega) (by omega) (by simp; omega) (glu_l ga gb hm (glS_len _)) (glu_r ga gb hm (glS_len _)) (glu_b ga gb hm (glS_len _)), Option.bind_some]
  rfl
variable (h1 : ab.length ≤ 1073741824) (h2 : al.length ≤ 1073741824) (h3 : ar.length ≤ 1073741824) (h4 : bb.length ≤ 1073741824) (h5 : bl.length ≤ 1073741824) (h6 : br.length ≤ 1073741824)
include h1 h2 h3 h4 h5 h6
theorem P_specGlue : L_spec_GlueNetworks p an ab al ar bn bb bl br = some (gluV p an ab al ar bn bb bl br) := by
  unfold L_spec_GlueNetworks gluV
  rw [P_nwGood p an ab al ar (by omega) (by omega) (by omega), P_nwGood p bn bb bl br (by omega) (by omega) (by omega)]
  cases ha : goodP p an ab al ar
  · simp
  cases hb : goodP p bn bb bl br
  · simp
  by_cases he : ar.length = bl.length
  rotate_left
  · have : (((ar.length : Nat) : Int) != ((bl.length : Nat) : Int)) = true := by rw [bne_iff_ne]; omega
    rw [this]
    simp [he]
  have ga := goodP_iff.1 ha
  have gb := goodP_iff.1 hb
  have a1 := ga.n1; have b1 := gb.n1; have a3 := ga.lb; have a4 := ga.ll; have b3 := gb.lb; have b5 := gb.lr
  rw [P_nwGlue ga gb he (m := (an + bn).toNat) (by omega)]
  generalize glS an ar bl (an + bn).toNat ar.length = s
  have hbl : (gluB s an ab bb).length ≤ 120 := Nat.le_trans (List.length_filter_le _ _) (by simp; omega)
  rw [show (((ar.length : Nat) : Int) != ((bl.length : Nat) : Int)) = false from by rw [he]; exact bne_self_eq_false _]
  simp only [Option.bind_some, Bool.not_true, cond_false, true_and, he]
  unfold L_spec_nwIf
  rw [P_nwGood _ _ _ _ _ (by omega) (by simp; omega) (by simp; omega)]
  cases goodP p ((numS s (an + bn).toNat).1 : Int) (gluB s an ab bb) (al.map (toS s)) ((br.map fun x => an + x).map (toS s)) <;> rfl
theorem P_implGlue : L_impl_GlueNetworks p an ab al ar bn bb bl br = some (gluV p an ab al ar bn bb bl br) := by
  unfold L_impl_GlueNetworks gluV
  rw [P_isNetwork p an ab al ar (by omega) (by omega) (by omega), P_isNetwork p bn bb bl br (by omega) (by omega) (by omega)]
  cases ha : goodP p an ab al ar
  · simp
  cases hb : goodP p bn bb bl br
  · simp
  by_cases he : ar.length = bl.length
  rotate_left
  · have : (((ar.length : Nat) : Int) != ((bl.length : Nat) : Int)) = true := by rw [bne_iff_ne]; omega
    rw [this]
    simp [he]
  have ga := goodP_iff.1 ha
  have gb := goodP_iff.1 hb
  have a1 := ga.n1; have a2 := ga.n2; have a3 := ga.lb; have a4 := ga.ll; have a5 := ga.lr
  have b1 := gb.n1; have b2 := gb.n2; have b3 := gb.lb; have b4 := gb.ll; have b5 := gb.lr
  rw [show (((ar.length : Nat) : Int) != ((bl.length : Nat) : Int)) = false from by rw [he]; exact bne_self_eq_false _]
  simp only [Option.bind_some, Bool.not_true, cond_false, true_and, he]
  obtain ⟨m, hmN⟩ : ∃ m, (an + bn).toNat = m := ⟨_, rfl⟩
  have hm : (m : Int) = an + bn := by omega
  obtain ⟨c, hc1, hc⟩ := P_glue_i1 hm ⟨a1, a2⟩ ⟨b1, b2⟩ a5 he ga.ir gb.il
  rw [he] at hc
  have hcl := hc.down.len
  have hsl := hc.len
  rw [hmN]
  generalize glS an ar bl m bl.length = s at hc hsl
  have hbl : (gluB s an ab bb).length ≤ 120 := Nat.le_trans (List.length_filter_le _ _) (by simp; omega)
  unfold L_impl_shiftedBy L_slices_Clone_impl_Branch_impl_Branch L_impl_validNetwork
  rw [i64_lt (by omega) (by omega), P_upTo hmN (by omega), Option.bind_some, hc1, Option.bind_some, hcl, P_zeros (by omega), Option.bind_some, Int.toNat_natCast, P_numI hc (by omega), Option.bind_some]
  try dsimp only
  rw [Option.bind_some, P_mapT (T := toS s) (by omega) (glu_l ga gb hm hsl), Option.bind_some, P_mapShift ⟨a1, a2⟩ b2 b5 gb.ir, Option.bind_some, P_mapT (T := toS s) (by simp; omega) (glu_r ga gb hm hsl), Option.bind_some, og_true (by omega), Option.bind_some, P_moved ⟨a1, a2⟩ b2 b3 (fun e he => ⟨(gb.ib e he).1, (gb.ib e he).2.1⟩), Option.bind_some, og_true (by simp; omega), P_movT (T := toS s) (by simp; omega) (glu_b ga gb hm hsl), Option.bind_some, P_filT (by simp; omega), Option.bind_some]
  rw [show ((ab ++ bb.map (shB an)).map (gB (toS s))).filter neB = gluB s an ab bb from rfl, P_isNetwork _ _ _ _ _ (by omega) (by simp; omega) (by simp; omega)]
  cases goodP p ((numS s m).1 : Int) (gluB s an ab bb) (al.map (toS s)) ((br.map fun x => an + x).map (toS s)) <;> rfl
omit h1 h2 h3 h4 h5 h6 in
theorem gluV_bd : (gluV p an ab al ar bn bb bl br).2.1.length ≤ 1073741824 ∧ (gluV p an ab al ar bn bb bl br).2.2.1.length ≤ 1073741824 ∧ (gluV p an ab al ar bn bb bl br).2.2.2.1.length ≤ 1073741824 := by
  unfold gluV
  split
  · rename_i h
    have ga := goodP_iff.1 h.2.2.2
    have a3 := ga.lb; have a4 := ga.ll; have a5 := ga.lr
    exact ⟨Nat.le_trans a3 (by omega), Nat.le_trans a4 (by omega), Nat.le_trans a5 (by omega)⟩
  · simp
end
/-- The law. -/
theorem P_lawGlue {p an bn : Int} {ab bb : List (Int × Int × Int)} {al ar bl br : List Int} (h1 : ab.length ≤ 9223372036854775807) (h2 : al.length ≤ 9223372036854775807) (h3 : ar.length ≤ 9223372036854775807) (h4 : bb.length ≤ 9223372036854775807) (h5 : bl.length ≤ 9223372036854775807) (h6 : br.length ≤ 9223372036854775807) : L_laws_FnExactGlueNetworks p an ab al ar bn bb bl br = some true := by
  unfold L_laws_FnExactGlueNetworks
  rw [P_szNetwork an ab al ar (by omega) (by omega) (by omega) (by omega), Option.bind_some]
  by_cases e0 : (1048576 : Int) < ((ab.length + al.length + ar.length : Nat) : Int)
  · rw [show szV 1048576 (ab.length + al.length + ar.length) = -1 from if_pos e0]; rfl
  rw [show szV 1048576 (ab.length + al.length + ar.length) = 1048576 - ((ab.length + al.length + ar.length : Nat) : Int) from if_neg e0, dec_f (by omega), cond_false]
  rw [P_szNetwork bn bb bl br (by omega) (by omega) (by omega) (by omega), Option.bind_some]
  by_cases e1 : 1048576 - ((ab.length + al.length + ar.length : Nat) : Int) < ((bb.length + bl.length + br.length : Nat) : Int)
  · rw [show szV (1048576 - ((ab.length + al.length + ar.length : Nat) : Int)) (bb.length + bl.length + br.length) = -1 from if_pos e1]; rfl
  rw [show szV (1048576 - ((ab.length + al.length + ar.length : Nat) : Int)) (bb.length + bl.length + br.length) = 1048576 - ((ab.length + al.length + ar.length : Nat) : Int) - ((bb.length + bl.length + br.length : Nat) : Int) from if_neg e1, dec_f (by omega), cond_false]
  have h1 : ab.length ≤ 1073741824 := by omega
  have h2 : al.length ≤ 1073741824 := by omega
  have h3 : ar.length ≤ 1073741824 := by omega
  have h4 : bb.length ≤ 1073741824 := by omega
  have h5 : bl.length ≤ 1073741824 := by omega
  have h6 : br.length ≤ 1073741824 := by omega
  have hs := P_specGlue (p := p) (an := an) (bn := bn) h1 h2 h3 h4 h5 h6
  have hi := P_implGlue (p := p) (an := an) (bn := bn) h1 h2 h3 h4 h5 h6
  have hv := gluV_bd (p := p) (an := an) (bn := bn) (ab := ab) (al := al) (ar := ar) (bb := bb) (bl := bl) (br := br)
  generalize gluV p an ab al ar bn bb bl br = v at hs hi hv
  obtain ⟨vn, vb, vl, vr, vo⟩ := v
  obtain ⟨v1, v2, v3⟩ := hv
  obtain ⟨b1, l1, r1, u1, c1, d1, m1, x1, y1, z1, k1⟩ := P_markNetwork an ab al ar (v := 1) (by omega) h1 h2 h3
  obtain ⟨b2, l2, r2, u2, c2, d2, m2, x2, y2, z2, k2⟩ := P_markNetwork bn bb bl br (v := u1) (by omega) h4 h5 h6
  obtain ⟨b3, l3, r3, u3, c3, d3, m3, x3, y3, z3, k3⟩ := P_markNetwork vn vb vl vr (v := 1) (by omega) v1 v2 v3
  simp only [P_toNetwork an ab al ar h1 h2 h3, P_toNetwork bn bb bl br h4 h5 h6, hs, hi, Option.bind_some, P_eqNetwork vn vb vl vr v1 v2 v3, P_eqNetwork an ab al ar h1 h2 h3, P_eqNetwork bn bb bl br h4 h5 h6, m1, m2, m3, k1, k2, k3, og_true x1, og_true y1, og_true z1, og_true x2, og_true y2, og_true z2, og_true x3, og_true y3, og_true z3, bne_self_eq_false, Bool.not_true, cond_false, dec_f (show ¬ u2 < 0 by omega), dec_f (show ¬ u3 < 0 by omega)]
end Go.Proofs.YtefolocdfgelcaaDoor
