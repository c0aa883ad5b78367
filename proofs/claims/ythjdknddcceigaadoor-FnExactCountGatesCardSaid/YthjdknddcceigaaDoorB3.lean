/- Partial functions in place of code, and that the code does what they say: B3. No condition. -/
import Derived.Test.YthjdknddcceigaaDoorB2
namespace Go.Proofs.YthjdknddcceigaaDoor
open Go.RowKit Go.Deep
set_option maxRecDepth 4000
def m_spec_crIf : AC :=
  (.seq (.region [⟨(some 3), none, (.i (.box 31 (.tmp 1)))⟩, ⟨(some 4), none, (.i (.alloc 31 [(.int .i64 0), .nils, .nils]))⟩, ⟨(some 5), none, (.i (.mov (.cst (.bool false))))⟩] false [])
  (.seq (.seq (.region [⟨(some 6), none, (.i (.mov (.tmp 0)))⟩, ⟨(some 7), none, (.i (.ld false 3 (.tmp 3)))⟩, ⟨(some 8), none, (.call (.cst (.fn 35 [])) [(.tmp 6), (.tmp 7)] [[], [none, (some (.pair .int (.pair .int (.pair .int .int)))), (some .int)]])⟩, ⟨(some 9), none, (.i (.not (.tmp 8)))⟩] false [])
  (.cond (.tmp 9)
    (.seq (.region [⟨(some 10), none, (.build [(.int .i64 0), .nils, .nils] [])⟩, ⟨none, none, (.st false 3 (.tmp 4) (.tmp 10))⟩, ⟨(some 5), none, (.i (.mov (.cst (.bool false))))⟩] false [])
    .ret)
    .skip))
  (.seq (.region [⟨(some 11), none, (.i (.ld false 3 (.tmp 3)))⟩, ⟨none, none, (.st false 3 (.tmp 4) (.tmp 11))⟩, ⟨(some 5), none, (.i (.mov (.cst (.bool true))))⟩] false [])
  .ret)))
def r_spec_crIf : List Res := [.cell 4 false 3, .tmp 5]
theorem c_spec_crIf : compiled Tryd.prog Tryd.f43 = some (m_spec_crIf, r_spec_crIf) := by kernel_rfl
theorem hb_spec_crIf : hasBody Tryd.prog 43 = true := by kernel_rfl
def L_spec_crIf (a0 : Int) (a1_0 : Int) (a1_1 : List (Int × Int × Int × Int)) (a1_2 : List Int) : Option (Sum (Int × Bool) (Int × Bool)) :=
  Option.bind (L_spec_crGood a0 a1_0 a1_1 a1_2) fun y4 =>
cond (!y4)
  (some (.inl (0, false)))
  (some (.inr (a1_0, true)))
def rv_spec_crIf : Sum (Int × Bool) (Int × Bool) → RV
  | .inl r => ⟨true, [(true, [.sc (.int .i64 r.1), .sc .nils, .sc .nils]), (false, [.sc (.bool r.2)])]⟩
  | .inr r => ⟨true, [(true, [.sc (.int .i64 r.1), .arg 1 (some 1), .arg 1 (some 2)]), (false, [.sc (.bool r.2)])]⟩
theorem ok_spec_crIf {a0 : Int} {a1_0 : Int} {a1_1 : List (Int × Int × Int × Int)} {a1_2 : List Int} {r : Sum (Int × Bool) (Int × Bool)} (h : L_spec_crIf a0 a1_0 a1_1 a1_2 = some r) : CallOK Tryd.prog Tab 43 [(.int .i64 a0), (.agg [(.int .i64 a1_0), (.tree (.pair .int (.pair .int (.pair .int .int))) a1_1), (.tree .int a1_2)])] (rv_spec_crIf r) := by
  refine call_of_g_ (by kernel_rfl) Tryd.func43 c_spec_crIf (n := 12) (by kernel_rfl) (by simp) ?_
  intro im_ w_ vs_ hvs_
  obtain ⟨u0, _, rfl, _, ⟨_, _, rfl, ⟨_, rfl, ⟨u1_0, _, rfl, _, ⟨u1_1, _, rfl, _, ⟨u1_2, _, rfl, _, rfl⟩⟩⟩⟩, rfl⟩⟩ := hvs_
  change awp _ _ _ _ ⟨mkTm [(0, (.int .i64 a0)), (1, (.agg [(.int .i64 a1_0), (.giv u1_1 (.pair .int (.pair .int (.pair .int .int))) a1_1), (.giv u1_2 .int a1_2)]))], mkOb [], 1⟩
  unfold m_spec_crIf
  unfold L_spec_crIf at h
  refine awp_seq_ ?_
  refine awp_region_ 4 (by kernel_rfl) ?_
  refine rs1 (.box (3, 1) 0) (3, 1) (.cells 31 [(.int .i64 a1_0), (.giv u1_1 (.pair .int (.pair .int (.pair .int .int))) a1_1), (.giv u1_2 .int a1_2)]) (by kernel_rfl) ?_
  refine rs1 (.box (4, 2) 0) (4, 2) (.cells 31 [(.int .i64 0), .nils, .nils]) (by kernel_rfl) ?_
  refine rs0 (.bool false) (by kernel_rfl) ?_
  refine rnil (tn_ ?_)
  refine awp_seq_ ?_
  refine awp_seq_ ?_
  obtain ⟨y4, h4, h⟩ := ob_some h
  refine awp_region_ 8 (by kernel_rfl) ?_
  refine rs0 (.int .i64 a0) (by kernel_rfl) ?_
  refine rsl (.agg [(.int .i64 a1_0), (.giv u1_1 (.pair .int (.pair .int (.pair .int .int))) a1_1), (.giv u1_2 .int a1_2)]) (by kernel_rfl) ?_
  refine rcall (.bool y4) [] [(.int .i64 a0), (.agg [(.int .i64 a1_0), (.giv u1_1 (.pair .int (.pair .int (.pair .int .int))) a1_1), (.giv u1_2 .int a1_2)])] _ (caps := []) (args0 := [(.int .i64 a0), (.agg [(.int .i64 a1_0), (.tree (.pair .int (.pair .int (.pair .int .int))) a1_1), (.tree .int a1_2)])]) trivial (by kernel_rfl) (by kernel_rfl) (by kernel_rfl) (by kernel_rfl) (ok_spec_crGood h4) hb_spec_crGood (by kernel_rfl) ?_
  refine rs0 (.bool (!y4)) (by kernel_rfl) ?_
  refine rnil (tn_ ?_)
  rcases cond_some h with ⟨q5, h⟩ | ⟨q5, h⟩
  · refine awp_condT_ q5 (by kernel_rfl) ?_
    refine awp_seq_ ?_
    refine awp_region_ 11 (by kernel_rfl) ?_
    refine rs0 (.agg [(.int .i64 0), .nils, .nils]) (by kernel_rfl) ?_
    refine rsn2 (4, 2) (4, 2) (.cells 31 [(.int .i64 0), .nils, .nils]) (by kernel_rfl) ?_
    refine rs0 (.bool false) (by kernel_rfl) ?_
    refine rnil (tn_ ?_)
    refine awp_ret_ (tr_ ?_)
    obtain rfl := Option.some.inj h
    exact ret_ [(.agg [(.int .i64 0), .nils, .nils]), (.bool false)] (by simp) (by kernel_rfl) (p_agg (l_cons (l_sc (by kernel_rfl)) (l_cons (l_sc (by kernel_rfl)) (l_cons (l_sc (by kernel_rfl)) l_nil))) (p_one rfl (l_sc (by kernel_rfl)) p_nil)) (by kernel_rfl) (by kernel_rfl)
  · refine awp_condF_ q5 (by kernel_rfl) ?_
    refine awp_skip_ (tn_ ?_)
    refine awp_seq_ ?_
    refine awp_region_ 11 (by kernel_rfl) ?_
    refine rsl (.agg [(.int .i64 a1_0), (.giv u1_1 (.pair .int (.pair .int (.pair .int .int))) a1_1), (.giv u1_2 .int a1_2)]) (by kernel_rfl) ?_
    refine rsn2 (4, 2) (4, 2) (.cells 31 [(.int .i64 a1_0), (.giv u1_1 (.pair .int (.pair .int (.pair .int .int))) a1_1), (.giv u1_2 .int a1_2)]) (by kernel_rfl) ?_
    refine rs0 (.bool true) (by kernel_rfl) ?_
    refine rnil (tn_ ?_)
    refine awp_ret_ ?_
    obtain rfl := Option.some.inj h
    exact ret_ [(.agg [(.int .i64 a1_0), (.giv u1_1 (.pair .int (.pair .int (.pair .int .int))) a1_1), (.giv u1_2 .int a1_2)]), (.bool true)] (by simp) (by kernel_rfl) (p_agg (l_cons (l_sc (by kernel_rfl)) (l_cons (l_arg rfl) (l_cons (l_arg rfl) l_nil))) (p_one rfl (l_sc (by kernel_rfl)) p_nil)) (by kernel_rfl) (by kernel_rfl)
def m_impl_validCircuit : AC :=
  (.seq (.region [⟨(some 3), none, (.i (.box 31 (.tmp 1)))⟩, ⟨(some 4), none, (.i (.alloc 31 [(.int .i64 0), .nils, .nils]))⟩, ⟨(some 5), none, (.i (.mov (.cst (.bool false))))⟩] false [])
  (.seq (.seq (.region [⟨(some 6), none, (.i (.mov (.tmp 0)))⟩, ⟨(some 7), none, (.i (.ld false 3 (.tmp 3)))⟩, ⟨(some 8), none, (.call (.cst (.fn 37 [])) [(.tmp 6), (.tmp 7)] [[], [none, (some (.pair .int (.pair .int (.pair .int .int)))), (some .int)]])⟩, ⟨(some 9), none, (.i (.not (.tmp 8)))⟩] false [])
  (.cond (.tmp 9)
    (.seq (.region [⟨(some 10), none, (.build [(.int .i64 0), .nils, .nils] [])⟩, ⟨none, none, (.st false 3 (.tmp 4) (.tmp 10))⟩, ⟨(some 5), none, (.i (.mov (.cst (.bool false))))⟩] false [])
    .ret)
    .skip))
  (.seq (.region [⟨(some 11), none, (.i (.ld false 3 (.tmp 3)))⟩, ⟨none, none, (.st false 3 (.tmp 4) (.tmp 11))⟩, ⟨(some 5), none, (.i (.mov (.cst (.bool true))))⟩] false [])
  .ret)))
def r_impl_validCircuit : List Res := [.cell 4 false 3, .tmp 5]
theorem c_impl_validCircuit : compiled Tryd.prog Tryd.f48 = some (m_impl_validCircuit, r_impl_validCircuit) := by kernel_rfl
theorem hb_impl_validCircuit : hasBody Tryd.prog 48 = true := by kernel_rfl
def L_impl_validCircuit (a0 : Int) (a1_0 : Int) (a1_1 : List (Int × Int × Int × Int)) (a1_2 : List Int) : Option (Sum (Int × Bool) (Int × Bool)) :=
  Option.bind (L_impl_isCircuit a0 a1_0 a1_1 a1_2) fun y4 =>
cond (!y4)
  (some (.inl (0, false)))
  (some (.inr (a1_0, true)))
def rv_impl_validCircuit : Sum (Int × Bool) (Int × Bool) → RV
  | .inl r => ⟨true, [(true, [.sc (.int .i64 r.1), .sc .nils, .sc .nils]), (false, [.sc (.bool r.2)])]⟩
  | .inr r => ⟨true, [(true, [.sc (.int .i64 r.1), .arg 1 (some 1), .arg 1 (some 2)]), (false, [.sc (.bool r.2)])]⟩
theorem ok_impl_validCircuit {a0 : Int} {a1_0 : Int} {a1_1 : List (Int × Int × Int × Int)} {a1_2 : List Int} {r : Sum (Int × Bool) (Int × Bool)} (h : L_impl_validCircuit a0 a1_0 a1_1 a1_2 = some r) : CallOK Tryd.prog Tab 48 [(.int .i64 a0), (.agg [(.int .i64 a1_0), (.tree (.pair .int (.pair .int (.pair .int .int))) a1_1), (.tree .int a1_2)])] (rv_impl_validCircuit r) := by
  refine call_of_g_ (by kernel_rfl) Tryd.func48 c_impl_validCircuit (n := 12) (by kernel_rfl) (by simp) ?_
  intro im_ w_ vs_ hvs_
  obtain ⟨u0, _, rfl, _, ⟨_, _, rfl, ⟨_, rfl, ⟨u1_0, _, rfl, _, ⟨u1_1, _, rfl, _, ⟨u1_2, _, rfl, _, rfl⟩⟩⟩⟩, rfl⟩⟩ := hvs_
  change awp _ _ _ _ ⟨mkTm [(0, (.int .i64 a0)), (1, (.agg [(.int .i64 a1_0), (.giv u1_1 (.pair .int (.pair .int (.pair .int .int))) a1_1), (.giv u1_2 .int a1_2)]))], mkOb [], 1⟩
  unfold m_impl_validCircuit
  unfold L_impl_validCircuit at h
  refine awp_seq_ ?_
  refine awp_region_ 4 (by kernel_rfl) ?_
  refine rs1 (.box (3, 1) 0) (3, 1) (.cells 31 [(.int .i64 a1_0), (.giv u1_1 (.pair .int (.pair .int (.pair .int .int))) a1_1), (.giv u1_2 .int a1_2)]) (by kernel_rfl) ?_
  refine rs1 (.box (4, 2) 0) (4, 2) (.cells 31 [(.int .i64 0), .nils, .nils]) (by kernel_rfl) ?_
  refine rs0 (.bool false) (by kernel_rfl) ?_
  refine rnil (tn_ ?_)
  refine awp_seq_ ?_
  refine awp_seq_ ?_
  obtain ⟨y4, h4, h⟩ := ob_some h
  refine awp_region_ 8 (by kernel_rfl) ?_
  refine rs0 (.int .i64 a0) (by kernel_rfl) ?_
  refine rsl (.agg [(.int .i64 a1_0), (.giv u1_1 (.pair .int (.pair .int (.pair .int .int))) a1_1), (.giv u1_2 .int a1_2)]) (by kernel_rfl) ?_
  refine rcall (.bool y4) [] [(.int .i64 a0), (.agg [(.int .i64 a1_0), (.giv u1_1 (.pair .int (.pair .int (.pair .int .int))) a1_1), (.giv u1_2 .int a1_2)])] _ (caps := []) (args0 := [(.int .i64 a0), (.agg [(.int .i64 a1_0), (.tree (.pair .int (.pair .int (.pair .int .int))) a1_1), (.tree .int a1_2)])]) trivial (by kernel_rfl) (by kernel_rfl) (by kernel_rfl) (by kernel_rfl) (ok_impl_isCircuit h4) hb_impl_isCircuit (by kernel_rfl) ?_
  refine rs0 (.bool (!y4)) (by kernel_rfl) ?_
  refine rnil (tn_ ?_)
  rcases cond_some h with ⟨q5, h⟩ | ⟨q5, h⟩
  · refine awp_condT_ q5 (by kernel_rfl) ?_
    refine awp_seq_ ?_
    refine awp_region_ 11 (by kernel_rfl) ?_
    refine rs0 (.agg [(.int .i64 0), .nils, .nils]) (by kernel_rfl) ?_
    refine rsn2 (4, 2) (4, 2) (.cells 31 [(.int .i64 0), .nils, .nils]) (by kernel_rfl) ?_
    refine rs0 (.bool false) (by kernel_rfl) ?_
    refine rnil (tn_ ?_)
    refine awp_ret_ (tr_ ?_)
    obtain rfl := Option.some.inj h
    exact ret_ [(.agg [(.int .i64 0), .nils, .nils]), (.bool false)] (by simp) (by kernel_rfl) (p_agg (l_cons (l_sc (by kernel_rfl)) (l_cons (l_sc (by kernel_rfl)) (l_cons (l_sc (by kernel_rfl)) l_nil))) (p_one rfl (l_sc (by kernel_rfl)) p_nil)) (by kernel_rfl) (by kernel_rfl)
  · refine awp_condF_ q5 (by kernel_rfl) ?_
    refine awp_skip_ (tn_ ?_)
    refine awp_seq_ ?_
    refine awp_region_ 11 (by kernel_rfl) ?_
    refine rsl (.agg [(.int .i64 a1_0), (.giv u1_1 (.pair .int (.pair .int (.pair .int .int))) a1_1), (.giv u1_2 .int a1_2)]) (by kernel_rfl) ?_
    refine rsn2 (4, 2) (4, 2) (.cells 31 [(.int .i64 a1_0), (.giv u1_1 (.pair .int (.pair .int (.pair .int .int))) a1_1), (.giv u1_2 .int a1_2)]) (by kernel_rfl) ?_
    refine rs0 (.bool true) (by kernel_rfl) ?_
    refine rnil (tn_ ?_)
    refine awp_ret_ ?_
    obtain rfl := Option.some.inj h
    exact ret_ [(.agg [(.int .i64 a1_0), (.giv u1_1 (.pair .int (.pair .int (.pair .int .int))) a1_1), (.giv u1_2 .int a1_2)]), (.bool true)] (by simp) (by kernel_rfl) (p_agg (l_cons (l_sc (by kernel_rfl)) (l_cons (l_arg rfl) (l_cons (l_arg rfl) l_nil))) (p_one rfl (l_sc (by kernel_rfl)) p_nil)) (by kernel_rfl) (by kernel_rfl)
end Go.Proofs.YthjdknddcceigaaDoor
