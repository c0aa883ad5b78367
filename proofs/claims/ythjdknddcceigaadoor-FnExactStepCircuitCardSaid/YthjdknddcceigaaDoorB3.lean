/- Partial functions in place of code, and that the code does what they say: B3. No condition. -/
import Derived.Test.YthjdknddcceigaaDoorB2
namespace Go.Proofs.YthjdknddcceigaaDoor
open Go.RowKit Go.Deep
set_option maxRecDepth 4000
def m_spec_crIf : AC :=
  (.seq (.region [⟨(some 3), none, (.i (.box 31 (.tmp 1)))⟩, ⟨(some 4), none, (.i (.alloc 31 [(.int .i64 0), .nils, .nils]))⟩, ⟨(some 5), none, (.i (.mov (.cst (.bool false))))⟩] false [])
  (.seq (.seq (.region [⟨(some 6), none, (.i (.mov (.tmp 0)))⟩, ⟨(some 7), none, (.i (.ld false 3 (.tmp 3)))⟩, ⟨(some 8), none, (.call (.cst (.fn 35 [])) [(.tmp 6), (.tmp 7)] [[], [none, (some (.pair .int (.pair .int (.pair .int .int)))), (some .int)]])⟩, ⟨(some 9), none, (.i (.not (.tmp 8)))⟩] false [])
  (.cond (.tmp 9)
    (.seq (.region [⟨(some 10), none, (.build [(.int .i64 0), .nils, .nils] [])⟩, ⟨none, none, (.st false 3 (.tmp 4) (.tmp 10))⟩, ⟨(some 5), none, (.i (.mov (.cst (.bool false))))⟩] false [])
    .ret)
    .skip))
  (.seq (.region [⟨(some 11), none, (.i (.ld false 3 (.tmp 3)))⟩, ⟨none, none, (.st false 3 (.tmp 4) (.tmp 11))⟩, ⟨(some 5), none, (.i (.mov (.cst (.bool true))))⟩] false [])
  .ret)))
def r_spec_crIf : List Res := [.cell 4 false 3, .tmp 5]
theorem c_spec_crIf : compiled Tryd.prog Tryd.f43 = some (m_spec_crIf, r_spec_crIf) := by kernel_rfl
theorem hb_spec_crIf : hasBody Tryd.prog 43 = true := by kernel_rfl
def L_spec_crIf (a0 : Int) (a1_0 : Int) (a1_1 : List (Int × Int × Int × Int)) (a1_2 : List Int) : Option (Sum (Int × Bool) (Int × Bool)) :=
  Option.bind (L_spec_crGood a0 a1_0 a1_1 a1_2) fun y4 =>
cond (!y4)
  (some (.inl (0, false)))
  (some (.inr (a1_0, true)))
def rv_spec_crIf : Sum (Int × Bool) (Int × Bool) → RV
  | .inl r => ⟨true, [(true, [.sc (.int .i64 r.1), .sc .nils, .sc .nils]), (false, [.sc (.bool r.2)])]⟩
  | .inr r => ⟨true, [(true, [.sc (.int .i64 r.1), .arg 1 (some 1), .arg 1 (some 2)]), (false, [.sc (.bool r.2)])]⟩
theorem ok_spec_crIf {a0 : Int} {a1_0 : Int} {a1_1 : List (Int × Int × Int × Int)} {a1_2 : List Int} {r : Sum (Int × Bool) (Int × Bool)} (h : L_spec_crIf a0 a1_0 a1_1 a1_2 = some r) : CallOK Tryd.prog Tab 43 [(.int .i64 a0), (.agg [(.int .i64 a1_0), (.tree (.pair .int (.pair .int (.pair .int .int))) a1_1), (.tree .int a1_2)])] (rv_spec_crIf r) := by
  refine call_of_g_ (by kernel_rfl) Tryd.func43 c_spec_crIf (n := 12) (by kernel_rfl) (by simp) ?_
  intro im_ w_ vs_ hvs_
  obtain ⟨u0, _, rfl, _, ⟨_, _, rfl, ⟨_, rfl, ⟨u1_0, _, rfl, _, ⟨u1_1, _, rfl, _, ⟨u1_2, _, rfl, _, rfl⟩⟩⟩⟩, rfl⟩⟩ := hvs_
  change awp _ _ _ _ ⟨mkTm [(0, (.int .i64 a0)), (1, (.agg [(.int .i64 a1_0), (.giv u1_1 (.pair .int (.pair .int (.pair .int .int))) a1_1), (.giv u1_2 .int a1_2)]))], mkOb [], 1⟩
  unfold m_spec_crIf
  unfold L_spec_crIf at h
  refine awp_seq_ ?_
  refine awp_region_ 4 (by kernel_rfl) ?_
  refine rs1 (.box (3, 1) 0) (3, 1) (.cells 31 [(.int .i64 a1_0), (.giv u1_1 (.pair .int (.pair .int (.pair .int .int))) a1_1), (.giv u1_2 .int a1_2)]) (by kernel_rfl) ?_
  refine rs1 (.box (4, 2) 0) (4, 2) (.cells 31 [(.int .i64 0), .nils, .nils]) (by kernel_rfl) ?_
  refine rs0 (.bool false) (by kernel_rfl) ?_
  refine rnil (tn_ ?_)
  refine awp_seq_ ?_
  refine awp_seq_ ?_
  obtain ⟨y4, h4, h⟩ := ob_some h
  refine awp_region_ 8 (by kernel_rfl) ?_
  refine rs0 (.int .i64 a0) (by kernel_rfl) ?_
  refine rsl (.agg [(.int .i64 a1_0), (.giv u1_1 (.pair .int (.pair .int (.pair .int .int))) a1_1), (.giv u1_2 .int a1_2)]) (by kernel_rfl) ?_
  refine rcall (.bool y4) [] [(.int .i64 a0), (.agg [(.int .i64 a1_0), (.giv u1_1 (.pair .int (.pair .int (.pair .int .int))) a1_1), (.giv u1_2 .int a1_2)])] _ (caps := []) (args0 := [(.int .i64 a0), (.agg [(.int .i64 a1_0), (.tree (.pair .int (.pair .int (.pair .int .int))) a1_1), (.tree .int a1_2)])]) trivial (by kernel_rfl) (by kernel_rfl) (by kernel_rfl) (by kernel_rfl) (ok_spec_crGood h4) hb_spec_crGood (by kernel_rfl) ?_
  refine rs0 (.bool (!y4)) (by kernel_rfl) ?_
  refine rnil (tn_ ?_)
  rcases cond_some h with ⟨q5, h⟩ | ⟨q5, h⟩
  · refine awp_condT_ q5 (by kernel_rfl) ?_
    refine awp_seq_ ?_
    refine awp_region_ 11 (by kernel_rfl) ?_
    refine rs0 (.agg [(.int .i64 0), .nils, .nils]) (by kernel_rfl) ?_
    refine rsn2 (4, 2) (4, 2) (.cells 31 [(.int .i64 0), .nils, .nils]) (by kernel_rfl) ?_
    refine rs0 (.bool false) (by kernel_rfl) ?_
    refine rnil (tn_ ?_)
    refine awp_ret_ (tr_ ?_)
    obtain rfl := Option.some.inj h
    exact ret_ [(.agg [(.int .i64 0), .nils, .nils]), (.bool false)] (by simp) (by kernel_rfl) (p_agg (l_cons (l_sc (by kernel_rfl)) (l_cons (l_sc (by kernel_rfl)) (l_cons (l_sc (by kernel_rfl)) l_nil))) (p_one rfl (l_sc (by kernel_rfl)) p_nil)) (by kernel_rfl) (by kernel_rfl)
  · refine awp_condF_ q5 (by kernel_rfl) ?_
    refine awp_skip_ (tn_ ?_)
    refine awp_seq_ ?_
    refine awp_region_ 11 (by kernel_rfl) ?_
    refine rsl (.agg [(.int .i64 a1_0), (.giv u1_1 (.pair .int (.pair .int (.pair .int .int))) a1_1), (.giv u1_2 .int a1_2)]) (by kernel_rfl) ?_
    refine rsn2 (4, 2) (4, 2) (.cells 31 [(.int .i64 a1_0), (.giv u1_1 (.pair .int (.pair .int (.pair .int .int))) a1_1), (.giv u1_2 .int a1_2)]) (by kernel_rfl) ?_
    refine rs0 (.bool true) (by kernel_rfl) ?_
    refine rnil (tn_ ?_)
    refine awp_ret_ ?_
    obtain rfl := Option.some.inj h
    exact ret_ [(.agg [(.int .i64 a1_0), (.giv u1_1 (.pair .int (.pair .int (.pair .int .int))) a1_1), (.giv u1_2 .int a1_2)]), (.bool true)] (by simp) (by kernel_rfl) (p_agg (l_cons (l_sc (by kernel_rfl)) (l_cons (l_arg rfl) (l_cons (l_arg rfl) l_nil))) (p_one rfl (l_sc (by kernel_rfl)) p_nil)) (by kernel_rfl) (by kernel_rfl)
def m_impl_validCircuit : AC :=
  (.seq (.region [⟨(some 3), none, (.i (.box 31 (.tmp 1)))⟩, ⟨(some 4), none, (.i (.alloc 31 [(.int .i64 0), .nils, .nils]))⟩, ⟨(some 5), none, (.i (.mov (.cst (.bool false))))⟩] false [])
  (.seq (.seq (.region [⟨(some 6), none, (.i (.mov (.tmp 0)))⟩, ⟨(some 7), none, (.i (.ld false 3 (.tmp 3)))⟩, ⟨(some 8), none, (.call (.cst (.fn 37 [])) [(.tmp 6), (.tmp 7)] [[], [none, (some (.pair .int (.pair .int (.pair .int .int)))), (some .int)]])⟩, ⟨(some 9), none, (.i (.not (.tmp 8)))⟩] false [])
  (.cond (.tmp 9)
    (.seq (.region [⟨(some 10), none, (.build [(.int .i64 0), .nils, .nils] [])⟩, ⟨none, none, (.st false 3 (.tmp 4) (.tmp 10))⟩, ⟨(some 5), none, (.i (.mov (.cst (.bool false))))⟩] false [])
    .ret)
    .skip))
  (.seq (.region [⟨(some 11), none, (.i (.ld false 3 (.tmp 3)))⟩, ⟨none, none, (.st false 3 (.tmp 4) (.tmp 11))⟩, ⟨(some 5), none, (.i (.mov (.cst (.bool true))))⟩] false [])
  .ret)))
def r_impl_validCircuit : List Res := [.cell 4 false 3, .tmp 5]
theorem c_impl_validCircuit : compiled Tryd.prog Tryd.f48 = some (m_impl_validCircuit, r_impl_validCircuit) := by kernel_rfl
theorem hb_impl_validCircuit : hasBody Tryd.prog 48 = true := by kernel_rfl
def L_impl_validCircuit (a0 : Int) (a1_0 : Int) (a1_1 : List (Int × Int × Int × Int)) (a1_2 : List Int) : Option (Sum (Int × Bool) (Int × Bool)) :=
  Option.bind (L_impl_isCircuit a0 a1_0 a1_1 a1_2) fun y4 =>
cond (!y4)
  (some (.inl (0, false)))
  (some (.inr (a1_0, true)))
def rv_impl_validCircuit : Sum (Int × Bool) (Int × Bool) → RV
  | .inl r => ⟨true, [(true, [.sc (.int .i64 r.1), .sc .nils, .sc .nils]), (false, [.sc (.bool r.2)])]⟩
  | .inr r => ⟨true, [(true, [.sc (.int .i64 r.1), .arg 1 (some 1), .arg 1 (some 2)]), (false, [.sc (.bool r.2)])]⟩
theorem ok_impl_validCircuit {a0 : Int} {a1_0 : Int} {a1_1 : List (Int × Int × Int × Int)} {a1_2 : List Int} {r : Sum (Int × Bool) (Int × Bool)} (h : L_impl_validCircuit a0 a1_0 a1_1 a1_2 = some r) : CallOK Tryd.prog Tab 48 [(.int .i64 a0), (.agg [(.int .i64 a1_0), (.tree (.pair .int (.pair .int (.pair .int .int))) a1_1), (.tree .int a1_2)])] (rv_impl_validCircuit r) := by
  refine call_of_g_ (by kernel_rfl) Tryd.func48 c_impl_validCircuit (n := 12) (by kernel_rfl) (by simp) ?_
  intro im_ w_ vs_ hvs_
  obtain ⟨u0, _, rfl, _, ⟨_, _, rfl, ⟨_, rfl, ⟨u1_0, _, rfl, _, ⟨u1_1, _, rfl, _, ⟨u1_2, _, rfl, _, rfl⟩⟩⟩⟩, rfl⟩⟩ := hvs_
  change awp _ _ _ _ ⟨mkTm [(0, (.int .i64 a0)), (1, (.agg [(.int .i64 a1_0), (.giv u1_1 (.pair .int (.pair .int (.pair .int .int))) a1_1), (.giv u1_2 .int a1_2)]))], mkOb [], 1⟩
  unfold m_impl_validCircuit
  unfold L_impl_validCircuit at h
  refine awp_seq_ ?_
  refine awp_region_ 4 (by kernel_rfl) ?_
  refine rs1 (.box (3, 1) 0) (3, 1) (.cells 31 [(.int .i64 a1_0), (.giv u1_1 (.pair .int (.pair .int (.pair .int .int))) a1_1), (.giv u1_2 .int a1_2)]) (by kernel_rfl) ?_
  refine rs1 (.box (4, 2) 0) (4, 2) (.cells 31 [(.int .i64 0), .nils, .nils]) (by kernel_rfl) ?_
  refine rs0 (.bool false) (by kernel_rfl) ?_
  refine rnil (tn_ ?_)
  refine awp_seq_ ?_
  refine awp_seq_ ?_
  obtain ⟨y4, h4, h⟩ := ob_some h
  refine awp_region_ 8 (by kernel_rfl) ?_
  refine rs0 (.int .i64 a0) (by kernel_rfl) ?_
  refine rsl (.agg [(.int .i64 a1_0), (.giv u1_1 (.pair .int (.pair .int (.pair .int .int))) a1_1), (.giv u1_2 .int a1_2)]) (by kernel_rfl) ?_
  refine rcall (.bool y4) [] [(.int .i64 a0), (.agg [(.int .i64 a1_0), (.giv u1_1 (.pair .int (.pair .int (.pair .int .int))) a1_1), (.giv u1_2 .int a1_2)])] _ (caps := []) (args0 := [(.int .i64 a0), (.agg [(.int .i64 a1_0), (.tree (.pair .int (.pair .int (.pair .int .int))) a1_1), (.tree .int a1_2)])]) trivial (by kernel_rfl) (by kernel_rfl) (by kernel_rfl) (by kernel_rfl) (ok_impl_isCircuit h4) hb_impl_isCircuit (by kernel_rfl) ?_
  refine rs0 (.bool (!y4)) (by kernel_rfl) ?_
  refine rnil (tn_ ?_)
  rcases cond_some h with ⟨q5, h⟩ | ⟨q5, h⟩
  · refine awp_condT_ q5 (by kernel_rfl) ?_
    refine awp_seq_ ?_
    refine awp_region_ 11 (by kernel_rfl) ?_
    refine rs0 (.agg [(.int .i64 0), .nils, .nils]) (by kernel_rfl) ?_
    refine rsn2 (4, 2) (4, 2) (.cells 31 [(.int .i64 0), .nils, .nils]) (by kernel_rfl) ?_
    refine rs0 (.bool false) (by kernel_rfl) ?_
    refine rnil (tn_ ?_)
    refine awp_ret_ (tr_ ?_)
    obtain rfl := Option.some.inj h
    exact ret_ [(.agg [(.int .i64 0), .nils, .nils]), (.bool false)] (by simp) (by kernel_rfl) (p_agg (l_cons (l_sc (by kernel_rfl)) (l_cons (l_sc (by kernel_rfl)) (l_cons (l_sc (by kernel_rfl)) l_nil))) (p_one rfl (l_sc (by kernel_rfl)) p_nil)) (by kernel_rfl) (by kernel_rfl)
  · refine awp_condF_ q5 (by kernel_rfl) ?_
    refine awp_skip_ (tn_ ?_)
    refine awp_seq_ ?_
    refine awp_region_ 11 (by kernel_rfl) ?_
    refine rsl (.agg [(.int .i64 a1_0), (.giv u1_1 (.pair .int (.pair .int (.pair .int .int))) a1_1), (.giv u1_2 .int a1_2)]) (by kernel_rfl) ?_
    refine rsn2 (4, 2) (4, 2) (.cells 31 [(.int .i64 a1_0), (.giv u1_1 (.pair .int (.pair .int (.pair .int .int))) a1_1), (.giv u1_2 .int a1_2)]) (by kernel_rfl) ?_
    refine rs0 (.bool true) (by kernel_rfl) ?_
    refine rnil (tn_ ?_)
    refine awp_ret_ ?_
    obtain rfl := Option.some.inj h
    exact ret_ [(.agg [(.int .i64 a1_0), (.giv u1_1 (.pair .int (.pair .int (.pair .int .int))) a1_1), (.giv u1_2 .int a1_2)]), (.bool true)] (by simp) (by kernel_rfl) (p_agg (l_cons (l_sc (by kernel_rfl)) (l_cons (l_arg rfl) (l_cons (l_arg rfl) l_nil))) (p_one rfl (l_sc (by kernel_rfl)) p_nil)) (by kernel_rfl) (by kernel_rfl)
def m_slices_Clone_impl_Gate_impl_Gate : AC :=
  (.seq (.region [⟨(some 2), none, (.i (.mov (.cst .nils)))⟩] false [])
  (.seq (.seq (.region [⟨(some 3), none, (.i (.mov (.tmp 0)))⟩, ⟨(some 4), none, (.i (.cmp false 1 (.tmp 3) (.cst .nils)))⟩] false [])
  (.cond (.tmp 4)
    (.seq (.region [⟨(some 2), none, (.i (.mov (.cst .nils)))⟩] false [])
    .ret)
    .skip))
  (.seq (.region [⟨(some 5), none, (.mkS 51 (.pair .int (.pair .int (.pair .int .int))) [])⟩, ⟨(some 6), none, (.i (.mov (.tmp 0)))⟩, ⟨(some 7), none, (.append 51 (.pair .int (.pair .int (.pair .int .int))) 32 (.tmp 5) (.tmp 6))⟩, ⟨(some 2), none, (.i (.mov (.tmp 7)))⟩] false [])
  .ret)))
def r_slices_Clone_impl_Gate_impl_Gate : List Res := [.tmp 2]
theorem c_slices_Clone_impl_Gate_impl_Gate : compiled Tryd.prog Tryd.f80 = some (m_slices_Clone_impl_Gate_impl_Gate, r_slices_Clone_impl_Gate_impl_Gate) := by kernel_rfl
theorem hb_slices_Clone_impl_Gate_impl_Gate : hasBody Tryd.prog 80 = true := by kernel_rfl
def L_slices_Clone_impl_Gate_impl_Gate (a0 : List (Int × Int × Int × Int)) : Option (List (Int × Int × Int × Int)) :=
  og (0 + a0.length ≤ 1073741824 ∧ (0 + a0.length) * 32 ≤ 140737488355328) <|
some a0
def rv_slices_Clone_impl_Gate_impl_Gate (r : List (Int × Int × Int × Int)) : RV := ⟨false, [(false, [.new 51 (.pair .int (.pair .int (.pair .int .int))) r])]⟩
theorem ok_slices_Clone_impl_Gate_impl_Gate {a0 : List (Int × Int × Int × Int)} {r : List (Int × Int × Int × Int)} (h : L_slices_Clone_impl_Gate_impl_Gate a0 = some r) : CallOK Tryd.prog Tab 80 [(.tree (.pair .int (.pair .int (.pair .int .int))) a0)] (rv_slices_Clone_impl_Gate_impl_Gate r) := by
  refine call_of_ (by kernel_rfl) Tryd.func80 c_slices_Clone_impl_Gate_impl_Gate (n := 8) (by kernel_rfl) (by simp) (tl := [(0, (.tree (.pair .int (.pair .int (.pair .int .int))) a0))]) rfl ?_
  unfold m_slices_Clone_impl_Gate_impl_Gate
  unfold L_slices_Clone_impl_Gate_impl_Gate at h
  refine awp_seq_ ?_
  refine awp_region_ 2 (by kernel_rfl) ?_
  refine rs0 .nils (by kernel_rfl) ?_
  refine rnil (tn_ ?_)
  refine awp_seq_ ?_
  refine awp_seq_ ?_
  refine awp_region_ 4 (by kernel_rfl) ?_
  refine rs0 (.tree (.pair .int (.pair .int (.pair .int .int))) a0) (by kernel_rfl) ?_
  refine rs0 (.abool true a0.length) (by kernel_rfl) ?_
  refine rnil (tn_ ?_)
  refine awp_condA_ (p := true) (n := a0.length) (by kernel_rfl) ?_ ?_
  · intro hz_
    obtain rfl : a0 = [] := List.length_eq_zero_iff.1 (hz_ rfl)
    replace h := swapL (some [] : Option (List (Int × Int × Int × Int))) h (by simp [og])
    refine awp_seq_ ?_
    refine awp_region_ 5 (by kernel_rfl) ?_
    refine rs0 .nils (by kernel_rfl) ?_
    refine rnil (tn_ ?_)
    refine awp_ret_ (tr_ ?_)
    obtain rfl := Option.some.inj h
    exact ret_ [.nils] (by simp) (by kernel_rfl) (p_one rfl (l_nils rfl) p_nil) (by kernel_rfl) (by kernel_rfl)
  · intro _
    refine awp_skip_ (tn_ ?_)
    refine awp_seq_ ?_
    obtain ⟨g6, h⟩ := og_some h
    refine awp_region_ 8 (by kernel_rfl) ?_
    refine rs1 (.own (5, 4) (.pair .int (.pair .int (.pair .int .int))) 0 0) (5, 4) (.arr 51 (.pair .int (.pair .int (.pair .int .int))) []) (by kernel_rfl) ?_
    refine rs0 (.tree (.pair .int (.pair .int (.pair .int .int))) a0) (by kernel_rfl) ?_
    refine rs2 (.own (5, 6) (.pair .int (.pair .int (.pair .int .int))) 0 a0.length) (5, 4) (5, 6) (.arr 51 (.pair .int (.pair .int (.pair .int .int))) a0) (s_appO (t := (.pair .int (.pair .int (.pair .int .int)))) (t' := (.pair .int (.pair .int (.pair .int .int)))) (xs := []) (ys := a0) (zs := a0) (j := (5, 4)) (len := 0) (c := (.tree (.pair .int (.pair .int (.pair .int .int))) a0)) (by kernel_rfl) (by kernel_rfl) rfl (by kernel_rfl) sr_tree rfl g6) ?_
    refine rs0 (.own (5, 6) (.pair .int (.pair .int (.pair .int .int))) 0 a0.length) (by kernel_rfl) ?_
    refine rnil (tn_ ?_)
    refine awp_ret_ ?_
    obtain rfl := Option.some.inj h
    exact ret_ [(.own (5, 6) (.pair .int (.pair .int (.pair .int .int))) 0 a0.length)] (by simp) (by kernel_rfl) (p_one rfl (l_own (by kernel_rfl) rfl) p_nil) (by kernel_rfl) (by kernel_rfl)
def m_impl_Circuit_copy : AC :=
  (.seq (.region [⟨(some 1), none, (.i (.box 31 (.tmp 0)))⟩, ⟨(some 2), none, (.i (.alloc 31 [(.int .i64 0), .nils, .nils]))⟩] false [])
  (.seq (.region [⟨(some 3), none, (.i (.fld 0 (.tmp 1)))⟩, ⟨(some 4), none, (.i (.ld true 1 (.tmp 3)))⟩, ⟨(some 5), none, (.i (.fld 1 (.tmp 1)))⟩, ⟨(some 6), none, (.i (.ld true 1 (.tmp 5)))⟩, ⟨(some 7), none, (.call (.cst (.fn 80 [])) [(.tmp 6)] [[(some (.pair .int (.pair .int (.pair .int .int))))]])⟩, ⟨(some 8), none, (.i (.fld 2 (.tmp 1)))⟩, ⟨(some 9), none, (.i (.ld true 1 (.tmp 8)))⟩, ⟨(some 10), none, (.call (.cst (.fn 47 [])) [(.tmp 9)] [[(some .int)]])⟩, ⟨(some 11), none, (.build [(.int .i64 0), .nils, .nils] [(0, 1, (.tmp 4)), (1, 1, (.tmp 7)), (2, 1, (.tmp 10))])⟩, ⟨none, none, (.st false 3 (.tmp 2) (.tmp 11))⟩] true [(1, 4), (4, 6), (1, 7)])
  .ret))
def r_impl_Circuit_copy : List Res := [.cell 2 false 3]
theorem c_impl_Circuit_copy : compiled Tryd.prog Tryd.f46 = some (m_impl_Circuit_copy, r_impl_Circuit_copy) := by kernel_rfl
theorem hb_impl_Circuit_copy : hasBody Tryd.prog 46 = true := by kernel_rfl
def L_impl_Circuit_copy (a0_0 : Int) (a0_1 : List (Int × Int × Int × Int)) (a0_2 : List Int) : Option (Int × (List (Int × Int × Int × Int)) × List Int) :=
  Option.bind (L_slices_Clone_impl_Gate_impl_Gate a0_1) fun y3 =>
Option.bind (L_impl_clone a0_2) fun y4 =>
some (a0_0, y3, y4)
def rv_impl_Circuit_copy (r : Int × (List (Int × Int × Int × Int)) × List Int) : RV := ⟨false, [(true, [.sc (.int .i64 r.1), .new 51 (.pair .int (.pair .int (.pair .int .int))) r.2.1, .new 3 .int r.2.2])]⟩
theorem ok_impl_Circuit_copy {a0_0 : Int} {a0_1 : List (Int × Int × Int × Int)} {a0_2 : List Int} {r : Int × (List (Int × Int × Int × Int)) × List Int} (h : L_impl_Circuit_copy a0_0 a0_1 a0_2 = some r) : CallOK Tryd.prog Tab 46 [(.agg [(.int .i64 a0_0), (.tree (.pair .int (.pair .int (.pair .int .int))) a0_1), (.tree .int a0_2)])] (rv_impl_Circuit_copy r) := by
  refine call_of_ (by kernel_rfl) Tryd.func46 c_impl_Circuit_copy (n := 12) (by kernel_rfl) (by simp) (tl := [(0, (.agg [(.int .i64 a0_0), (.tree (.pair .int (.pair .int (.pair .int .int))) a0_1), (.tree .int a0_2)]))]) rfl ?_
  unfold m_impl_Circuit_copy
  unfold L_impl_Circuit_copy at h
  refine awp_seq_ ?_
  refine awp_region_ 3 (by kernel_rfl) ?_
  refine rs1 (.box (1, 1) 0) (1, 1) (.cells 31 [(.int .i64 a0_0), (.tree (.pair .int (.pair .int (.pair .int .int))) a0_1), (.tree .int a0_2)]) (by kernel_rfl) ?_
  refine rs1 (.box (2, 2) 0) (2, 2) (.cells 31 [(.int .i64 0), .nils, .nils]) (by kernel_rfl) ?_
  refine rnil (tn_ ?_)
  refine awp_seq_ ?_
  obtain ⟨y3, h3, h⟩ := ob_some h
  obtain ⟨y4, h4, h⟩ := ob_some h
  refine awp_regionD_ 13 (by kernel_rfl) ?_
  refine ds0 (.box (1, 1) 0) (by kernel_rfl) ?_
  refine dsl (.int .i64 a0_0) (by kernel_rfl) ?_
  refine ds0 (.box (1, 1) 1) (by kernel_rfl) ?_
  refine dsl (.tree (.pair .int (.pair .int (.pair .int .int))) a0_1) (by kernel_rfl) ?_
  refine dcall (.own (112, 7) (.pair .int (.pair .int (.pair .int .int))) 0 y3.length) [((112, 7), some (.arr 51 (.pair .int (.pair .int (.pair .int .int))) y3))] [(.tree (.pair .int (.pair .int (.pair .int .int))) a0_1)] _ (caps := []) (args0 := [(.tree (.pair .int (.pair .int (.pair .int .int))) a0_1)]) trivial (by kernel_rfl) (by kernel_rfl) (by kernel_rfl) (by kernel_rfl) (ok_slices_Clone_impl_Gate_impl_Gate h3) hb_slices_Clone_impl_Gate_impl_Gate (by kernel_rfl) ?_
  refine ds0 (.box (1, 1) 2) (by kernel_rfl) ?_
  refine dsl (.tree .int a0_2) (by kernel_rfl) ?_
  refine dcall (.own (160, 10) .int 0 y4.length) [((160, 10), some (.arr 3 .int y4))] [(.tree .int a0_2)] _ (caps := []) (args0 := [(.tree .int a0_2)]) trivial (by kernel_rfl) (by kernel_rfl) (by kernel_rfl) (by kernel_rfl) (ok_impl_clone h4) hb_impl_clone (by kernel_rfl) ?_
  refine ds0 (.agg [(.int .i64 a0_0), (.own (112, 7) (.pair .int (.pair .int (.pair .int .int))) 0 y3.length), (.own (160, 10) .int 0 y4.length)]) (by kernel_rfl) ?_
  refine dsn2 (2, 2) (2, 2) (.cells 31 [(.int .i64 a0_0), (.own (112, 7) (.pair .int (.pair .int (.pair .int .int))) 0 y3.length), (.own (160, 10) .int 0 y4.length)]) (by kernel_rfl) ?_
  refine dnil (by kernel_rfl) (tn_ ?_)
  refine awp_ret_ ?_
  obtain rfl := Option.some.inj h
  exact ret_ [(.agg [(.int .i64 a0_0), (.own (112, 7) (.pair .int (.pair .int (.pair .int .int))) 0 y3.length), (.own (160, 10) .int 0 y4.length)])] (by simp) (by kernel_rfl) (p_agg (l_cons (l_sc (by kernel_rfl)) (l_cons (l_own (by kernel_rfl) rfl) (l_cons (l_own (by kernel_rfl) rfl) l_nil))) p_nil) (by kernel_rfl) (by kernel_rfl)
def m_impl_Circuit_delays_l1 : AC :=
  (.seq (.region [⟨(some 11), none, (.i (.bin .lss (.tmp 10) (.tmp 9)))⟩] false [])
  (.seq (.cond (.tmp 11)
    .skip
    (.exit 0))
  (.seq (.block 1 (.seq (.region [⟨(some 12), none, (.i (.mov (.tmp 10)))⟩, ⟨(some 13), none, (.i (.idx 4 (.tmp 8) (.tmp 10)))⟩, ⟨(some 14), none, (.i (.ld false 4 (.tmp 13)))⟩, ⟨(some 5), none, (.i (.alloc 51 [(.int .i64 0), (.int .i64 0), (.int .i64 0), (.int .i64 0)]))⟩, ⟨(some 4), none, (.i (.mov (.tmp 12)))⟩, ⟨none, none, (.st false 4 (.tmp 5) (.tmp 14))⟩] false [])
  (.seq (.region [⟨(some 15), none, (.i (.fld 0 (.tmp 5)))⟩, ⟨(some 16), none, (.i (.ld true 1 (.tmp 15)))⟩, ⟨(some 17), none, (.i (.bin .eql (.tmp 16) (.cst (.int .i64 5))))⟩] false [])
  (.cond (.tmp 17)
    (.region [⟨(some 18), none, (.i (.mov (.tmp 3)))⟩, ⟨(some 19), none, (.i (.mov (.tmp 4)))⟩, ⟨(some 20), none, (.mkS 3 .int [(.tmp 19)])⟩, ⟨(some 21), none, (.append 3 .int 8 (.tmp 18) (.tmp 20))⟩, ⟨(some 3), none, (.i (.mov (.tmp 21)))⟩] false [])
    .skip))))
  (.region [⟨(some 22), none, (.i (.bin .add (.tmp 10) (.cst (.int .i64 1))))⟩, ⟨(some 10), none, (.i (.mov (.tmp 22)))⟩] false []))))
def m_impl_Circuit_delays : AC :=
  (.seq (.region [⟨(some 1), none, (.i (.box 31 (.tmp 0)))⟩, ⟨(some 2), none, (.i (.mov (.cst .nils)))⟩] false [])
  (.seq (.region [⟨(some 6), none, (.mkS 3 .int [])⟩, ⟨(some 3), none, (.i (.mov (.tmp 6)))⟩] false [])
  (.seq (.seq (.region [⟨(some 7), none, (.i (.fld 1 (.tmp 1)))⟩, ⟨(some 8), none, (.i (.ld true 1 (.tmp 7)))⟩, ⟨(some 9), none, (.i (.len (.tmp 8)))⟩, ⟨(some 10), none, (.i (.mov (.cst (.int .i64 0))))⟩] false [])
  (.block 0 (.loop m_impl_Circuit_delays_l1)))
  (.seq (.region [⟨(some 23), none, (.i (.mov (.tmp 3)))⟩, ⟨(some 2), none, (.i (.mov (.tmp 23)))⟩] false [])
  .ret))))
def r_impl_Circuit_delays : List Res := [.tmp 2]
theorem c_impl_Circuit_delays : compiled Tryd.prog Tryd.f62 = some (m_impl_Circuit_delays, r_impl_Circuit_delays) := by kernel_rfl
theorem hb_impl_Circuit_delays : hasBody Tryd.prog 62 = true := by kernel_rfl
def L_impl_Circuit_delays_l1 (a0_1 : List (Int × Int × Int × Int)) (l5_m10 : Nat) (l5_m3 : List Int) : Option (Ctl (Nat × List Int) (List Int)) :=
  cond (decide (((l5_m10 : Nat) : Int) < ((a0_1.length : Nat) : Int)))
  (Option.bind (Option.bind (a0_1[l5_m10]?) fun x11 =>
    cond (x11.1 == 5)
      (og (l5_m3.length + 1 ≤ 1073741824 ∧ (l5_m3.length + 1) * 8 ≤ 140737488355328) <|
      some (l5_m3 ++ ([((l5_m10 : Nat) : Int)])))
      (some l5_m3)) fun l9_m3 =>
  og (l5_m10 + 1 < 4611686018427387904) <|
  some (Ctl.next (l5_m10 + 1, l9_m3)))
  (some (Ctl.out l5_m3))
def L_impl_Circuit_delays (a0_0 : Int) (a0_1 : List (Int × Int × Int × Int)) (a0_2 : List Int) : Option (List Int) :=
  Option.bind (loopM (fun s_ : Nat × List Int => L_impl_Circuit_delays_l1 a0_1 s_.1 s_.2) 4611686018427387904 (0, [])) fun l3_m3 =>
some l3_m3
def rv_impl_Circuit_delays (r : List Int) : RV := ⟨false, [(false, [.new 3 .int r])]⟩
theorem ok_impl_Circuit_delays {a0_0 : Int} {a0_1 : List (Int × Int × Int × Int)} {a0_2 : List Int} {r : List Int} (h : L_impl_Circuit_delays a0_0 a0_1 a0_2 = some r) : CallOK Tryd.prog Tab 62 [(.agg [(.int .i64 a0_0), (.tree (.pair .int (.pair .int (.pair .int .int))) a0_1), (.tree .int a0_2)])] (rv_impl_Circuit_delays r) := by
  refine call_of_ (by kernel_rfl) Tryd.func62 c_impl_Circuit_delays (n := 24) (by kernel_rfl) (by simp) (tl := [(0, (.agg [(.int .i64 a0_0), (.tree (.pair .int (.pair .int (.pair .int .int))) a0_1), (.tree .int a0_2)]))]) rfl ?_
  unfold m_impl_Circuit_delays
  unfold L_impl_Circuit_delays at h
  refine awp_seq_ ?_
  refine awp_region_ 3 (by kernel_rfl) ?_
  refine rs1 (.box (1, 1) 0) (1, 1) (.cells 31 [(.int .i64 a0_0), (.tree (.pair .int (.pair .int (.pair .int .int))) a0_1), (.tree .int a0_2)]) (by kernel_rfl) ?_
  refine rs0 .nils (by kernel_rfl) ?_
  refine rnil (tn_ ?_)
  refine awp_seq_ ?_
  refine awp_region_ 5 (by kernel_rfl) ?_
  refine rs1 (.own (6, 3) .int 0 0) (6, 3) (.arr 3 .int []) (by kernel_rfl) ?_
  refine rs0 (.own (6, 3) .int 0 0) (by kernel_rfl) ?_
  refine rnil (tn_ ?_)
  refine awp_seqB h (fun (l3_m3 : List Int) S_ => S_ = ⟨mkTm [(3, (.own (0, 1) .int 0 l3_m3.length))], mkOb (someL [((0, 1), .arr 3 .int l3_m3)]), 2⟩) ?_ ?_
  · intro v_ h
    refine awp_seq_ ?_
    refine awp_region_ 9 (by kernel_rfl) ?_
    refine rs0 (.box (1, 1) 1) (by kernel_rfl) ?_
    refine rsl (.tree (.pair .int (.pair .int (.pair .int .int))) a0_1) (by kernel_rfl) ?_
    refine rs0 (.int .i64 ((a0_1.length : Nat) : Int)) (by kernel_rfl) ?_
    refine rs0 (.int .i64 0) (by kernel_rfl) ?_
    refine rnil (tn_ ?_)
    refine awp_block_ ?_
    refine awp_loopL h (fun t_ S_ => ∃ (l5_m10 : Nat), ∃ (l5_m3 : List Int), t_ = (l5_m10, l5_m3) ∧ S_ = ⟨mkTm [(3, (.own (0, 1) .int 0 l5_m3.length)), (8, (.tree (.pair .int (.pair .int (.pair .int .int))) a0_1)), (9, (.int .i64 ((a0_1.length : Nat) : Int))), (10, (.int .i64 ((l5_m10 : Nat) : Int)))], mkOb (someL [((0, 1), .arr 3 .int l5_m3)]), 2⟩) ⟨_, (weak_ren (renF [((0, 1), (6, 3))]) (by kernel_rfl) (by kernel_rfl) (by kernel_rfl)), ⟨0, [], rfl, rfl⟩⟩ ?_
    · rintro n_ _ _ c_ ⟨l5_m10, l5_m3, rfl, rfl⟩ h hn5
      (try dsimp only at h)
      unfold L_impl_Circuit_delays_l1 at h
      unfold m_impl_Circuit_delays_l1
      refine awp_seq_ ?_
      refine awp_region_ 3 (by kernel_rfl) ?_
      refine rs0 (.bool (decide (((l5_m10 : Nat) : Int) < ((a0_1.length : Nat) : Int)))) (by kernel_rfl) ?_
      refine rnil (tn_ ?_)
      refine awp_seq_ ?_
      rcases cond_some h with ⟨q8, h⟩ | ⟨q8, h⟩
      · have q8_ := of_decide_eq_true q8
        refine awp_condT_ q8 (by kernel_rfl) ?_
        refine awp_skip_ (tn_ ?_)
        refine awp_seqB h (fun (l9_m3 : List Int) S_ => S_ = ⟨mkTm [(3, (.own (0, 1) .int 0 l9_m3.length)), (8, (.tree (.pair .int (.pair .int (.pair .int .int))) a0_1)), (9, (.int .i64 ((a0_1.length : Nat) : Int))), (10, (.int .i64 ((l5_m10 : Nat) : Int)))], mkOb (someL [((0, 1), .arr 3 .int l9_m3)]), 2⟩) ?_ ?_
        · intro v_ h
          refine awp_block_ ?_
          refine awp_seq_ ?_
          obtain ⟨x11, e11, h⟩ := ob_some h
          refine awp_region_ 9 (by kernel_rfl) ?_
          refine rs0 (.int .i64 ((l5_m10 : Nat) : Int)) (by kernel_rfl) ?_
          refine rs0 (.telt (.pair .int (.pair .int (.pair .int .int))) x11 0) (s_idxT (t := (.pair .int (.pair .int (.pair .int .int)))) (xs := a0_1) (k := .i64) (m := ((l5_m10 : Nat) : Int)) (by kernel_rfl) (by kernel_rfl) rfl (nat_nn _) rfl e11) ?_
          refine rs0 (.agg [(.int .i64 x11.1), (.int .i64 x11.2.1), (.int .i64 x11.2.2.1), (.int .i64 x11.2.2.2)]) (by kernel_rfl) ?_
          refine rs1 (.box (5, 6) 0) (5, 6) (.cells 51 [(.int .i64 0), (.int .i64 0), (.int .i64 0), (.int .i64 0)]) (by kernel_rfl) ?_
          refine rs0 (.int .i64 ((l5_m10 : Nat) : Int)) (by kernel_rfl) ?_
          refine rsn2 (5, 6) (5, 6) (.cells 51 [(.int .i64 x11.1), (.int .i64 x11.2.1), (.int .i64 x11.2.2.1), (.int .i64 x11.2.2.2)]) (by kernel_rfl) ?_
          refine rnil (tn_ ?_)
          refine awp_seq_ ?_
          refine awp_region_ 12 (by kernel_rfl) ?_
          refine rs0 (.box (5, 6) 0) (by kernel_rfl) ?_
          refine rsl (.int .i64 x11.1) (by kernel_rfl) ?_
          refine rs0 (.bool (x11.1 == 5)) (by kernel_rfl) ?_
          refine rnil (tn_ ?_)
          rcases cond_some h with ⟨q13, h⟩ | ⟨q13, h⟩
          · refine awp_condT_ q13 (by kernel_rfl) ?_
            obtain ⟨g14, h⟩ := og_some h
            refine awp_region_ 17 (by kernel_rfl) ?_
            refine rs0 (.own (0, 1) .int 0 l5_m3.length) (by kernel_rfl) ?_
            refine rs0 (.int .i64 ((l5_m10 : Nat) : Int)) (by kernel_rfl) ?_
            refine rs1 (.own (20, 14) .int 0 1) (20, 14) (.arr 3 .int ([((l5_m10 : Nat) : Int)])) (by kernel_rfl) ?_
            refine rs2 (.own (0, 15) .int 0 ((l5_m3 ++ ([((l5_m10 : Nat) : Int)])).length)) (0, 1) (0, 15) (.arr 3 .int (l5_m3 ++ ([((l5_m10 : Nat) : Int)]))) (s_appO (t := .int) (t' := .int) (xs := l5_m3) (ys := [((l5_m10 : Nat) : Int)]) (zs := l5_m3 ++ ([((l5_m10 : Nat) : Int)])) (j := (0, 1)) (len := l5_m3.length) (c := (.own (20, 14) .int 0 1)) (by kernel_rfl) (by kernel_rfl) rfl (by kernel_rfl) (sr_own (e := 3) (by kernel_rfl) rfl) rfl g14) ?_
            refine rs0 (.own (0, 15) .int 0 ((l5_m3 ++ ([((l5_m10 : Nat) : Int)])).length)) (by kernel_rfl) ?_
            refine rnil (bn_ (tn_ ?_))
            obtain rfl := Option.some.inj h
            exact ⟨_, (weak_ren (renF [((0, 1), (0, 15))]) (by kernel_rfl) (by kernel_rfl) (by kernel_rfl)), rfl⟩
          · refine awp_condF_ q13 (by kernel_rfl) ?_
            refine awp_skip_ (bn_ (tn_ ?_))
            obtain rfl := Option.some.inj h
            exact ⟨_, (weak_ren (renF []) (by kernel_rfl) (by kernel_rfl) (by kernel_rfl)), rfl⟩
        · rintro l9_m3 _ rfl h
          (try dsimp only at h)
          obtain ⟨g15, h⟩ := og_some h
          refine awp_region_ 4 (by kernel_rfl) ?_
          refine rs0 (.int .i64 ((l5_m10 + 1 : Nat) : Int)) (s_add1 (j := l5_m10) (by kernel_rfl) (by kernel_rfl) g15) ?_
          refine rs0 (.int .i64 ((l5_m10 + 1 : Nat) : Int)) (by kernel_rfl) ?_
          refine rnil (tn_ ?_)
          obtain rfl := Option.some.inj h
          exact ⟨(l5_m10 + 1, l9_m3), _, (weak_ren (renF []) (by kernel_rfl) (by kernel_rfl) (by kernel_rfl)), ⟨l5_m10 + 1, l9_m3, rfl, rfl⟩, hn5⟩
      · have q8_ := of_decide_eq_false q8
        refine awp_condF_ q8 (by kernel_rfl) ?_
        refine awp_exit_ (te_ (te_ (be_ (tn_ ?_))))
        obtain rfl := Option.some.inj h
        have h := hn5
        (try dsimp only at h)
        obtain rfl := Option.some.inj h
        exact ⟨_, (weak_ren (renF []) (by kernel_rfl) (by kernel_rfl) (by kernel_rfl)), rfl⟩
  · rintro l3_m3 _ rfl h
    (try dsimp only at h)
    refine awp_seq_ ?_
    refine awp_region_ 4 (by kernel_rfl) ?_
    refine rs0 (.own (0, 1) .int 0 l3_m3.length) (by kernel_rfl) ?_
    refine rs0 (.own (0, 1) .int 0 l3_m3.length) (by kernel_rfl) ?_
    refine rnil (tn_ ?_)
    refine awp_ret_ ?_
    obtain rfl := Option.some.inj h
    exact ret_ [(.own (0, 1) .int 0 l3_m3.length)] (by simp) (by kernel_rfl) (p_one rfl (l_own (by kernel_rfl) rfl) p_nil) (by kernel_rfl) (by kernel_rfl)
def m_spec_crDelays_l1 : AC :=
  (.seq (.region [⟨(some 10), none, (.i (.bin .lss (.tmp 9) (.tmp 8)))⟩] false [])
  (.seq (.cond (.tmp 10)
    .skip
    (.exit 0))
  (.seq (.block 1 (.seq (.region [⟨(some 11), none, (.i (.mov (.tmp 9)))⟩, ⟨(some 12), none, (.i (.idx 4 (.tmp 7) (.tmp 9)))⟩, ⟨(some 13), none, (.i (.ld false 4 (.tmp 12)))⟩, ⟨(some 5), none, (.i (.alloc 51 [(.int .i64 0), (.int .i64 0), (.int .i64 0), (.int .i64 0)]))⟩, ⟨(some 4), none, (.i (.mov (.tmp 11)))⟩, ⟨none, none, (.st false 4 (.tmp 5) (.tmp 13))⟩] false [])
  (.seq (.region [⟨(some 14), none, (.i (.fld 0 (.tmp 5)))⟩, ⟨(some 15), none, (.i (.ld true 1 (.tmp 14)))⟩, ⟨(some 16), none, (.i (.bin .eql (.tmp 15) (.cst (.int .i64 5))))⟩] false [])
  (.cond (.tmp 16)
    (.region [⟨(some 17), none, (.i (.mov (.tmp 3)))⟩, ⟨(some 18), none, (.i (.mov (.tmp 4)))⟩, ⟨(some 19), none, (.mkS 3 .int [(.tmp 18)])⟩, ⟨(some 20), none, (.append 3 .int 8 (.tmp 17) (.tmp 19))⟩, ⟨(some 3), none, (.i (.mov (.tmp 20)))⟩] false [])
    .skip))))
  (.region [⟨(some 21), none, (.i (.bin .add (.tmp 9) (.cst (.int .i64 1))))⟩, ⟨(some 9), none, (.i (.mov (.tmp 21)))⟩] false []))))
def m_spec_crDelays : AC :=
  (.seq (.region [⟨(some 1), none, (.i (.box 31 (.tmp 0)))⟩, ⟨(some 2), none, (.i (.mov (.cst .nils)))⟩] false [])
  (.seq (.region [⟨(some 3), none, (.i (.mov (.cst .nils)))⟩] false [])
  (.seq (.seq (.region [⟨(some 6), none, (.i (.fld 1 (.tmp 1)))⟩, ⟨(some 7), none, (.i (.ld true 1 (.tmp 6)))⟩, ⟨(some 8), none, (.i (.len (.tmp 7)))⟩, ⟨(some 9), none, (.i (.mov (.cst (.int .i64 0))))⟩] false [])
  (.block 0 (.loop m_spec_crDelays_l1)))
  (.seq (.region [⟨(some 22), none, (.i (.mov (.tmp 3)))⟩, ⟨(some 2), none, (.i (.mov (.tmp 22)))⟩] false [])
  .ret))))
def r_spec_crDelays : List Res := [.tmp 2]
theorem c_spec_crDelays : compiled Tryd.prog Tryd.f58 = some (m_spec_crDelays, r_spec_crDelays) := by kernel_rfl
theorem hb_spec_crDelays : hasBody Tryd.prog 58 = true := by kernel_rfl
def L_spec_crDelays_l1 (a0_1 : List (Int × Int × Int × Int)) (l5_m9 : Nat) (l5_m3 : List Int) : Option (Ctl (Nat × List Int) (List Int)) :=
  cond (decide (((l5_m9 : Nat) : Int) < ((a0_1.length : Nat) : Int)))
  (Option.bind (Option.bind (a0_1[l5_m9]?) fun x11 =>
    cond (x11.1 == 5)
      (og (l5_m3.length + 1 ≤ 1073741824 ∧ (l5_m3.length + 1) * 8 ≤ 140737488355328) <|
      some (l5_m3 ++ ([((l5_m9 : Nat) : Int)])))
      (some l5_m3)) fun l9_m3 =>
  og (l5_m9 + 1 < 4611686018427387904) <|
  some (Ctl.next (l5_m9 + 1, l9_m3)))
  (some (Ctl.out l5_m3))
def L_spec_crDelays (a0_0 : Int) (a0_1 : List (Int × Int × Int × Int)) (a0_2 : List Int) : Option (List Int) :=
  Option.bind (loopM (fun s_ : Nat × List Int => L_spec_crDelays_l1 a0_1 s_.1 s_.2) 4611686018427387904 (0, [])) fun l3_m3 =>
some l3_m3
def rv_spec_crDelays (r : List Int) : RV := ⟨false, [(false, [.new 3 .int r])]⟩
theorem ok_spec_crDelays {a0_0 : Int} {a0_1 : List (Int × Int × Int × Int)} {a0_2 : List Int} {r : List Int} (h : L_spec_crDelays a0_0 a0_1 a0_2 = some r) : CallOK Tryd.prog Tab 58 [(.agg [(.int .i64 a0_0), (.tree (.pair .int (.pair .int (.pair .int .int))) a0_1), (.tree .int a0_2)])] (rv_spec_crDelays r) := by
  refine call_of_ (by kernel_rfl) Tryd.func58 c_spec_crDelays (n := 23) (by kernel_rfl) (by simp) (tl := [(0, (.agg [(.int .i64 a0_0), (.tree (.pair .int (.pair .int (.pair .int .int))) a0_1), (.tree .int a0_2)]))]) rfl ?_
  unfold m_spec_crDelays
  unfold L_spec_crDelays at h
  refine awp_seq_ ?_
  refine awp_region_ 3 (by kernel_rfl) ?_
  refine rs1 (.box (1, 1) 0) (1, 1) (.cells 31 [(.int .i64 a0_0), (.tree (.pair .int (.pair .int (.pair .int .int))) a0_1), (.tree .int a0_2)]) (by kernel_rfl) ?_
  refine rs0 .nils (by kernel_rfl) ?_
  refine rnil (tn_ ?_)
  refine awp_seq_ ?_
  refine awp_region_ 4 (by kernel_rfl) ?_
  refine rs0 .nils (by kernel_rfl) ?_
  refine rnil (tn_ ?_)
  refine awp_seqB h (fun (l3_m3 : List Int) S_ => S_ = ⟨mkTm [(3, (.own (0, 1) .int 0 l3_m3.length))], mkOb (someL [((0, 1), .arr 3 .int l3_m3)]), 2⟩) ?_ ?_
  · intro v_ h
    refine awp_seq_ ?_
    refine awp_region_ 8 (by kernel_rfl) ?_
    refine rs0 (.box (1, 1) 1) (by kernel_rfl) ?_
    refine rsl (.tree (.pair .int (.pair .int (.pair .int .int))) a0_1) (by kernel_rfl) ?_
    refine rs0 (.int .i64 ((a0_1.length : Nat) : Int)) (by kernel_rfl) ?_
    refine rs0 (.int .i64 0) (by kernel_rfl) ?_
    refine rnil (tn_ ?_)
    refine awp_block_ ?_
    refine awp_loopL h (fun t_ S_ => ∃ (l5_m9 : Nat), ∃ (l5_m3 : List Int), t_ = (l5_m9, l5_m3) ∧ S_ = ⟨mkTm [(3, (.own (0, 1) .int 0 l5_m3.length)), (7, (.tree (.pair .int (.pair .int (.pair .int .int))) a0_1)), (8, (.int .i64 ((a0_1.length : Nat) : Int))), (9, (.int .i64 ((l5_m9 : Nat) : Int)))], mkOb (someL [((0, 1), .arr 3 .int l5_m3)]), 2⟩) ⟨_, ((weak_nil_ 3 3 .int rfl (by kernel_rfl)).trans (weak_ren (renF [((0, 1), (3, 8))]) (by kernel_rfl) (by kernel_rfl) (by kernel_rfl))), ⟨0, [], rfl, rfl⟩⟩ ?_
    · rintro n_ _ _ c_ ⟨l5_m9, l5_m3, rfl, rfl⟩ h hn5
      (try dsimp only at h)
      unfold L_spec_crDelays_l1 at h
      unfold m_spec_crDelays_l1
      refine awp_seq_ ?_
      refine awp_region_ 3 (by kernel_rfl) ?_
      refine rs0 (.bool (decide (((l5_m9 : Nat) : Int) < ((a0_1.length : Nat) : Int)))) (by kernel_rfl) ?_
      refine rnil (tn_ ?_)
      refine awp_seq_ ?_
      rcases cond_some h with ⟨q8, h⟩ | ⟨q8, h⟩
      · have q8_ := of_decide_eq_true q8
        refine awp_condT_ q8 (by kernel_rfl) ?_
        refine awp_skip_ (tn_ ?_)
        refine awp_seqB h (fun (l9_m3 : List Int) S_ => S_ = ⟨mkTm [(3, (.own (0, 1) .int 0 l9_m3.length)), (7, (.tree (.pair .int (.pair .int (.pair .int .int))) a0_1)), (8, (.int .i64 ((a0_1.length : Nat) : Int))), (9, (.int .i64 ((l5_m9 : Nat) : Int)))], mkOb (someL [((0, 1), .arr 3 .int l9_m3)]), 2⟩) ?_ ?_
        · intro v_ h
          refine awp_block_ ?_
          refine awp_seq_ ?_
          obtain ⟨x11, e11, h⟩ := ob_some h
          refine awp_region_ 9 (by kernel_rfl) ?_
          refine rs0 (.int .i64 ((l5_m9 : Nat) : Int)) (by kernel_rfl) ?_
          refine rs0 (.telt (.pair .int (.pair .int (.pair .int .int))) x11 0) (s_idxT (t := (.pair .int (.pair .int (.pair .int .int)))) (xs := a0_1) (k := .i64) (m := ((l5_m9 : Nat) : Int)) (by kernel_rfl) (by kernel_rfl) rfl (nat_nn _) rfl e11) ?_
          refine rs0 (.agg [(.int .i64 x11.1), (.int .i64 x11.2.1), (.int .i64 x11.2.2.1), (.int .i64 x11.2.2.2)]) (by kernel_rfl) ?_
          refine rs1 (.box (5, 6) 0) (5, 6) (.cells 51 [(.int .i64 0), (.int .i64 0), (.int .i64 0), (.int .i64 0)]) (by kernel_rfl) ?_
          refine rs0 (.int .i64 ((l5_m9 : Nat) : Int)) (by kernel_rfl) ?_
          refine rsn2 (5, 6) (5, 6) (.cells 51 [(.int .i64 x11.1), (.int .i64 x11.2.1), (.int .i64 x11.2.2.1), (.int .i64 x11.2.2.2)]) (by kernel_rfl) ?_
          refine rnil (tn_ ?_)
          refine awp_seq_ ?_
          refine awp_region_ 12 (by kernel_rfl) ?_
          refine rs0 (.box (5, 6) 0) (by kernel_rfl) ?_
          refine rsl (.int .i64 x11.1) (by kernel_rfl) ?_
          refine rs0 (.bool (x11.1 == 5)) (by kernel_rfl) ?_
          refine rnil (tn_ ?_)
          rcases cond_some h with ⟨q13, h⟩ | ⟨q13, h⟩
          · refine awp_condT_ q13 (by kernel_rfl) ?_
            obtain ⟨g14, h⟩ := og_some h
            refine awp_region_ 17 (by kernel_rfl) ?_
            refine rs0 (.own (0, 1) .int 0 l5_m3.length) (by kernel_rfl) ?_
            refine rs0 (.int .i64 ((l5_m9 : Nat) : Int)) (by kernel_rfl) ?_
            refine rs1 (.own (19, 14) .int 0 1) (19, 14) (.arr 3 .int ([((l5_m9 : Nat) : Int)])) (by kernel_rfl) ?_
            refine rs2 (.own (0, 15) .int 0 ((l5_m3 ++ ([((l5_m9 : Nat) : Int)])).length)) (0, 1) (0, 15) (.arr 3 .int (l5_m3 ++ ([((l5_m9 : Nat) : Int)]))) (s_appO (t := .int) (t' := .int) (xs := l5_m3) (ys := [((l5_m9 : Nat) : Int)]) (zs := l5_m3 ++ ([((l5_m9 : Nat) : Int)])) (j := (0, 1)) (len := l5_m3.length) (c := (.own (19, 14) .int 0 1)) (by kernel_rfl) (by kernel_rfl) rfl (by kernel_rfl) (sr_own (e := 3) (by kernel_rfl) rfl) rfl g14) ?_
            refine rs0 (.own (0, 15) .int 0 ((l5_m3 ++ ([((l5_m9 : Nat) : Int)])).length)) (by kernel_rfl) ?_
            refine rnil (bn_ (tn_ ?_))
            obtain rfl := Option.some.inj h
            exact ⟨_, (weak_ren (renF [((0, 1), (0, 15))]) (by kernel_rfl) (by kernel_rfl) (by kernel_rfl)), rfl⟩
          · refine awp_condF_ q13 (by kernel_rfl) ?_
            refine awp_skip_ (bn_ (tn_ ?_))
            obtain rfl := Option.some.inj h
            exact ⟨_, (weak_ren (renF []) (by kernel_rfl) (by kernel_rfl) (by kernel_rfl)), rfl⟩
        · rintro l9_m3 _ rfl h
          (try dsimp only at h)
          obtain ⟨g15, h⟩ := og_some h
          refine awp_region_ 4 (by kernel_rfl) ?_
          refine rs0 (.int .i64 ((l5_m9 + 1 : Nat) : Int)) (s_add1 (j := l5_m9) (by kernel_rfl) (by kernel_rfl) g15) ?_
          refine rs0 (.int .i64 ((l5_m9 + 1 : Nat) : Int)) (by kernel_rfl) ?_
          refine rnil (tn_ ?_)
          obtain rfl := Option.some.inj h
          exact ⟨(l5_m9 + 1, l9_m3), _, (weak_ren (renF []) (by kernel_rfl) (by kernel_rfl) (by kernel_rfl)), ⟨l5_m9 + 1, l9_m3, rfl, rfl⟩, hn5⟩
      · have q8_ := of_decide_eq_false q8
        refine awp_condF_ q8 (by kernel_rfl) ?_
        refine awp_exit_ (te_ (te_ (be_ (tn_ ?_))))
        obtain rfl := Option.some.inj h
        have h := hn5
        (try dsimp only at h)
        obtain rfl := Option.some.inj h
        exact ⟨_, (weak_ren (renF []) (by kernel_rfl) (by kernel_rfl) (by kernel_rfl)), rfl⟩
  · rintro l3_m3 _ rfl h
    (try dsimp only at h)
    refine awp_seq_ ?_
    refine awp_region_ 4 (by kernel_rfl) ?_
    refine rs0 (.own (0, 1) .int 0 l3_m3.length) (by kernel_rfl) ?_
    refine rs0 (.own (0, 1) .int 0 l3_m3.length) (by kernel_rfl) ?_
    refine rnil (tn_ ?_)
    refine awp_ret_ ?_
    obtain rfl := Option.some.inj h
    exact ret_ [(.own (0, 1) .int 0 l3_m3.length)] (by simp) (by kernel_rfl) (p_one rfl (l_own (by kernel_rfl) rfl) p_nil) (by kernel_rfl) (by kernel_rfl)
end Go.Proofs.YthjdknddcceigaaDoor
