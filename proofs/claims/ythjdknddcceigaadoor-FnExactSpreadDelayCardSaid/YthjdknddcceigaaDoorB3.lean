/- Partial functions in place of code, and that the code does what they say: B3. No condition. -/
import Derived.Test.YthjdknddcceigaaDoorB2
namespace Go.Proofs.YthjdknddcceigaaDoor
open Go.RowKit Go.Deep
set_option maxRecDepth 4000
def m_spec_crIf : AC :=
  (.seq (rg [xo 3 (.i (.box 31 (tm 1))), xo 4 (.i (.alloc 31 [(.int .i64 0), .nils, .nils])), xo 5 (qm (cb false))])
  (.seq (.seq (rg [xo 6 (qm (tm 0)), xo 7 (.i (.ld false 3 (tm 3))), ⟨(some 8), none, (qc 35 [(tm 6), (tm 7)] [[], [none, (some (.pair .int (.pair .int (.pair .int .int)))), (some .int)]])⟩, xo 9 (.i (.not (tm 8)))])
  (.cond (tm 9)
    (.seq (rg [xo 10 (.build [(.int .i64 0), .nils, .nils] []), xn (.st false 3 (tm 4) (tm 10)), xo 5 (qm (cb false))])
    .ret)
    .skip))
  (.seq (rg [xo 11 (.i (.ld false 3 (tm 3))), xn (.st false 3 (tm 4) (tm 11)), xo 5 (qm (cb true))])
  .ret)))
def r_spec_crIf : List Res := [.cell 4 false 3, .tmp 5]
theorem c_spec_crIf : compiled Tryd.prog Tryd.f43 = some (m_spec_crIf, r_spec_crIf) := by kernel_rfl
theorem hb_spec_crIf : hasBody Tryd.prog 43 = true := by kernel_rfl
def L_spec_crIf (a0 : Int) (a1_0 : Int) (a1_1 : List (Int × Int × Int × Int)) (a1_2 : List Int) : Option (Sum (Int × Bool) (Int × Bool)) :=
  Option.bind (L_spec_crGood a0 a1_0 a1_1 a1_2) fun y4 =>
cond (!y4)
  (some (.inl (0, false)))
  (some (.inr (a1_0, true)))
def rv_spec_crIf : Sum (Int × Bool) (Int × Bool) → RV
  | .inl r => ⟨true, [(true, [.sc (.int .i64 r.1), .sc .nils, .sc .nils]), (false, [.sc (.bool r.2)])]⟩
  | .inr r => ⟨true, [(true, [.sc (.int .i64 r.1), .arg 1 (some 1), .arg 1 (some 2)]), (false, [.sc (.bool r.2)])]⟩
theorem ok_spec_crIf {a0 : Int} {a1_0 : Int} {a1_1 : List (Int × Int × Int × Int)} {a1_2 : List Int} {r : Sum (Int × Bool) (Int × Bool)} (h : L_spec_crIf a0 a1_0 a1_1 a1_2 = some r) : CallOK Tryd.prog Tab 43 [(ai a0), (.agg [(ai a1_0), (.tree (.pair .int (.pair .int (.pair .int .int))) a1_1), (.tree .int a1_2)])] (rv_spec_crIf r) := by
  refine call_of_g_ (by kernel_rfl) Tryd.func43 c_spec_crIf (n := 12) (by kernel_rfl) (by simp) ?_
  intro im_ w_ vs_ hvs_
  obtain ⟨u0, _, rfl, _, ⟨_, _, rfl, ⟨_, rfl, ⟨u1_0, _, rfl, _, ⟨u1_1, _, rfl, _, ⟨u1_2, _, rfl, _, rfl⟩⟩⟩⟩, rfl⟩⟩ := hvs_
  change awp _ _ _ _ ⟨mkTm [(0, (ai a0)), (1, (.agg [(ai a1_0), (.giv u1_1 (.pair .int (.pair .int (.pair .int .int))) a1_1), (.giv u1_2 .int a1_2)]))], mkOb [], 1⟩
  unfold m_spec_crIf
  unfold L_spec_crIf at h
  refine seqR ?_
  refine awp_seqv_ ?_
  refine awp_seqv_ ?_
  obtain ⟨y4, h4, h⟩ := ob_some h
  refine awp_region_ 8 ?_
  refine rs0 (ai a0) (by kernel_rfl) ?_
  refine rsl (.agg [(ai a1_0), (.giv u1_1 (.pair .int (.pair .int (.pair .int .int))) a1_1), (.giv u1_2 .int a1_2)]) (by kernel_rfl) ?_
  refine rcall (.bool y4) [] [(ai a0), (.agg [(ai a1_0), (.giv u1_1 (.pair .int (.pair .int (.pair .int .int))) a1_1), (.giv u1_2 .int a1_2)])] _ (caps := []) (args0 := [(ai a0), (.agg [(ai a1_0), (.tree (.pair .int (.pair .int (.pair .int .int))) a1_1), (.tree .int a1_2)])]) trivial (by kernel_rfl) (ok_spec_crGood h4) hb_spec_crGood ?_
  refine rsB 1 ?_
  refine rnil (tn_ ?_)
  refine ⟨_, Weak.refl _, ?_⟩
  rcases cond_some h with ⟨q5, h⟩ | ⟨q5, h⟩
  · refine awp_condT_ q5 ?_
    refine seqR ?_
    refine awp_ret_ (tr_ ?_)
    obtain rfl := Option.some.inj h
    exact ret_ [(.agg [(ai 0), .nils, .nils]), (.bool false)] (p_agg (l_cons (l_sc (by kernel_rfl)) (l_cons (l_sc (by kernel_rfl)) (l_cons (l_sc (by kernel_rfl)) l_nil))) (p_one rfl (l_sc (by kernel_rfl)) p_nil))
  refine awp_condF_ q5 ?_
  refine awp_skip_ (tn_ ?_)
  refine ⟨_, Weak.refl _, ?_⟩
  refine seqR ?_
  refine awp_ret_ ?_
  obtain rfl := Option.some.inj h
  exact ret_ [(.agg [(ai a1_0), (.giv u1_1 (.pair .int (.pair .int (.pair .int .int))) a1_1), (.giv u1_2 .int a1_2)]), (.bool true)] (p_agg (l_cons (l_sc (by kernel_rfl)) (l_cons (l_arg rfl) (l_cons (l_arg rfl) l_nil))) (p_one rfl (l_sc (by kernel_rfl)) p_nil))
def m_impl_validCircuit : AC :=
  (.seq (rg [xo 3 (.i (.box 31 (tm 1))), xo 4 (.i (.alloc 31 [(.int .i64 0), .nils, .nils])), xo 5 (qm (cb false))])
  (.seq (.seq (rg [xo 6 (qm (tm 0)), xo 7 (.i (.ld false 3 (tm 3))), ⟨(some 8), none, (qc 37 [(tm 6), (tm 7)] [[], [none, (some (.pair .int (.pair .int (.pair .int .int)))), (some .int)]])⟩, xo 9 (.i (.not (tm 8)))])
  (.cond (tm 9)
    (.seq (rg [xo 10 (.build [(.int .i64 0), .nils, .nils] []), xn (.st false 3 (tm 4) (tm 10)), xo 5 (qm (cb false))])
    .ret)
    .skip))
  (.seq (rg [xo 11 (.i (.ld false 3 (tm 3))), xn (.st false 3 (tm 4) (tm 11)), xo 5 (qm (cb true))])
  .ret)))
def r_impl_validCircuit : List Res := [.cell 4 false 3, .tmp 5]
theorem c_impl_validCircuit : compiled Tryd.prog Tryd.f48 = some (m_impl_validCircuit, r_impl_validCircuit) := by kernel_rfl
theorem hb_impl_validCircuit : hasBody Tryd.prog 48 = true := by kernel_rfl
def L_impl_validCircuit (a0 : Int) (a1_0 : Int) (a1_1 : List (Int × Int × Int × Int)) (a1_2 : List Int) : Option (Sum (Int × Bool) (Int × Bool)) :=
  Option.bind (L_impl_isCircuit a0 a1_0 a1_1 a1_2) fun y4 =>
cond (!y4)
  (some (.inl (0, false)))
  (some (.inr (a1_0, true)))
def rv_impl_validCircuit : Sum (Int × Bool) (Int × Bool) → RV
  | .inl r => ⟨true, [(true, [.sc (.int .i64 r.1), .sc .nils, .sc .nils]), (false, [.sc (.bool r.2)])]⟩
  | .inr r => ⟨true, [(true, [.sc (.int .i64 r.1), .arg 1 (some 1), .arg 1 (some 2)]), (false, [.sc (.bool r.2)])]⟩
theorem ok_impl_validCircuit {a0 : Int} {a1_0 : Int} {a1_1 : List (Int × Int × Int × Int)} {a1_2 : List Int} {r : Sum (Int × Bool) (Int × Bool)} (h : L_impl_validCircuit a0 a1_0 a1_1 a1_2 = some r) : CallOK Tryd.prog Tab 48 [(ai a0), (.agg [(ai a1_0), (.tree (.pair .int (.pair .int (.pair .int .int))) a1_1), (.tree .int a1_2)])] (rv_impl_validCircuit r) := by
  refine call_of_g_ (by kernel_rfl) Tryd.func48 c_impl_validCircuit (n := 12) (by kernel_rfl) (by simp) ?_
  intro im_ w_ vs_ hvs_
  obtain ⟨u0, _, rfl, _, ⟨_, _, rfl, ⟨_, rfl, ⟨u1_0, _, rfl, _, ⟨u1_1, _, rfl, _, ⟨u1_2, _, rfl, _, rfl⟩⟩⟩⟩, rfl⟩⟩ := hvs_
  change awp _ _ _ _ ⟨mkTm [(0, (ai a0)), (1, (.agg [(ai a1_0), (.giv u1_1 (.pair .int (.pair .int (.pair .int .int))) a1_1), (.giv u1_2 .int a1_2)]))], mkOb [], 1⟩
  unfold m_impl_validCircuit
  unfold L_impl_validCircuit at h
  refine seqR ?_
  refine awp_seqv_ ?_
  refine awp_seqv_ ?_
  obtain ⟨y4, h4, h⟩ := ob_some h
  refine awp_region_ 8 ?_
  refine rs0 (ai a0) (by kernel_rfl) ?_
  refine rsl (.agg [(ai a1_0), (.giv u1_1 (.pair .int (.pair .int (.pair .int .int))) a1_1), (.giv u1_2 .int a1_2)]) (by kernel_rfl) ?_
  refine rcall (.bool y4) [] [(ai a0), (.agg [(ai a1_0), (.giv u1_1 (.pair .int (.pair .int (.pair .int .int))) a1_1), (.giv u1_2 .int a1_2)])] _ (caps := []) (args0 := [(ai a0), (.agg [(ai a1_0), (.tree (.pair .int (.pair .int (.pair .int .int))) a1_1), (.tree .int a1_2)])]) trivial (by kernel_rfl) (ok_impl_isCircuit h4) hb_impl_isCircuit ?_
  refine rsB 1 ?_
  refine rnil (tn_ ?_)
  refine ⟨_, Weak.refl _, ?_⟩
  rcases cond_some h with ⟨q5, h⟩ | ⟨q5, h⟩
  · refine awp_condT_ q5 ?_
    refine seqR ?_
    refine awp_ret_ (tr_ ?_)
    obtain rfl := Option.some.inj h
    exact ret_ [(.agg [(ai 0), .nils, .nils]), (.bool false)] (p_agg (l_cons (l_sc (by kernel_rfl)) (l_cons (l_sc (by kernel_rfl)) (l_cons (l_sc (by kernel_rfl)) l_nil))) (p_one rfl (l_sc (by kernel_rfl)) p_nil))
  refine awp_condF_ q5 ?_
  refine awp_skip_ (tn_ ?_)
  refine ⟨_, Weak.refl _, ?_⟩
  refine seqR ?_
  refine awp_ret_ ?_
  obtain rfl := Option.some.inj h
  exact ret_ [(.agg [(ai a1_0), (.giv u1_1 (.pair .int (.pair .int (.pair .int .int))) a1_1), (.giv u1_2 .int a1_2)]), (.bool true)] (p_agg (l_cons (l_sc (by kernel_rfl)) (l_cons (l_arg rfl) (l_cons (l_arg rfl) l_nil))) (p_one rfl (l_sc (by kernel_rfl)) p_nil))
def m_slices_Clone_impl_Gate_impl_Gate : AC :=
  (.seq (rg [xo 2 (qm (.cst .nils))])
  (.seq (.seq (rg [xo 3 (qm (tm 0)), xo 4 (.i (.cmp false 1 (tm 3) (.cst .nils)))])
  (.cond (tm 4)
    (.seq (rg [xo 2 (qm (.cst .nils))])
    .ret)
    .skip))
  (.seq (rg [⟨(some 5), none, (.mkS 51 (.pair .int (.pair .int (.pair .int .int))) [])⟩, xo 6 (qm (tm 0)), ⟨(some 7), none, (.append 51 (.pair .int (.pair .int (.pair .int .int))) 32 (tm 5) (tm 6))⟩, xo 2 (qm (tm 7))])
  .ret)))
def r_slices_Clone_impl_Gate_impl_Gate : List Res := [.tmp 2]
theorem c_slices_Clone_impl_Gate_impl_Gate : compiled Tryd.prog Tryd.f80 = some (m_slices_Clone_impl_Gate_impl_Gate, r_slices_Clone_impl_Gate_impl_Gate) := by kernel_rfl
theorem hb_slices_Clone_impl_Gate_impl_Gate : hasBody Tryd.prog 80 = true := by kernel_rfl
def L_slices_Clone_impl_Gate_impl_Gate (a0 : List (Int × Int × Int × Int)) : Option (List (Int × Int × Int × Int)) :=
  og (0 + a0.length ≤ 1073741824 ∧ (0 + a0.length) * 32 ≤ 140737488355328) <|
some a0
def rv_slices_Clone_impl_Gate_impl_Gate (r : List (Int × Int × Int × Int)) : RV := ⟨false, [(false, [.new 51 (.pair .int (.pair .int (.pair .int .int))) r])]⟩
theorem ok_slices_Clone_impl_Gate_impl_Gate {a0 : List (Int × Int × Int × Int)} {r : List (Int × Int × Int × Int)} (h : L_slices_Clone_impl_Gate_impl_Gate a0 = some r) : CallOK Tryd.prog Tab 80 [(.tree (.pair .int (.pair .int (.pair .int .int))) a0)] (rv_slices_Clone_impl_Gate_impl_Gate r) := by
  refine call_of_ (by kernel_rfl) Tryd.func80 c_slices_Clone_impl_Gate_impl_Gate (n := 8) (by kernel_rfl) (by simp) (tl := [(0, (.tree (.pair .int (.pair .int (.pair .int .int))) a0))]) rfl ?_
  unfold m_slices_Clone_impl_Gate_impl_Gate
  unfold L_slices_Clone_impl_Gate_impl_Gate at h
  refine seqR ?_
  refine awp_seqv_ ?_
  refine seqR ?_
  refine awp_condA_ (p := true) (n := a0.length) (by kernel_rfl) ?_ ?_
  · intro hz_
    obtain rfl : a0 = [] := List.length_eq_zero_iff.1 (hz_ rfl)
    replace h := swapL (some [] : Option (List (Int × Int × Int × Int))) h (by simp [og])
    refine seqR ?_
    refine awp_ret_ (tr_ ?_)
    obtain rfl := Option.some.inj h
    exact ret_ [.nils] (p_one rfl (l_nils rfl) p_nil)
  intro _
  refine awp_skip_ (tn_ ?_)
  refine ⟨_, Weak.refl _, ?_⟩
  refine awp_seqv_ ?_
  obtain ⟨g6, h⟩ := og_some h
  refine awp_region_ 8 ?_
  refine rs1 (.own (oi 5 4) (.pair .int (.pair .int (.pair .int .int))) 0 0) (oi 5 4) (.arr 51 (.pair .int (.pair .int (.pair .int .int))) []) (by kernel_rfl) ?_
  refine rs0 (.tree (.pair .int (.pair .int (.pair .int .int))) a0) (by kernel_rfl) ?_
  refine rs2 (.own (oi 5 6) (.pair .int (.pair .int (.pair .int .int))) 0 a0.length) (oi 5 4) (oi 5 6) (.arr 51 (.pair .int (.pair .int (.pair .int .int))) a0) (s_appO (t := (.pair .int (.pair .int (.pair .int .int)))) (t' := (.pair .int (.pair .int (.pair .int .int)))) (xs := []) (ys := a0) (zs := a0) (j := (oi 5 4)) (len := 0) (c := (.tree (.pair .int (.pair .int (.pair .int .int))) a0)) (by kernel_rfl) (by kernel_rfl) rfl (by kernel_rfl) sr_tree rfl g6) ?_
  refine rsB 1 ?_
  refine rnil (tn_ ?_)
  refine ⟨_, Weak.refl _, ?_⟩
  refine awp_ret_ ?_
  obtain rfl := Option.some.inj h
  exact ret_ [(.own (oi 5 6) (.pair .int (.pair .int (.pair .int .int))) 0 a0.length)] (p_one rfl (l_own (by kernel_rfl) rfl) p_nil)
def m_impl_Circuit_copy : AC :=
  (.seq (rg [xo 1 (.i (.box 31 (tm 0))), xo 2 (.i (.alloc 31 [(.int .i64 0), .nils, .nils]))])
  (.seq (.region [xo 3 (qf 0 (tm 1)), xo 4 (ql (tm 3)), xo 5 (qf 1 (tm 1)), xo 6 (ql (tm 5)), ⟨(some 7), none, (qc 80 [(tm 6)] [[(some (.pair .int (.pair .int (.pair .int .int))))]])⟩, xo 8 (qf 2 (tm 1)), xo 9 (ql (tm 8)), xo 10 (qc 47 [(tm 9)] [[(some .int)]]), xo 11 (.build [(.int .i64 0), .nils, .nils] [(0, 1, (tm 4)), (1, 1, (tm 7)), (2, 1, (tm 10))]), xn (.st false 3 (tm 2) (tm 11))] true [(1, 4), (4, 6), (1, 7)])
  .ret))
def r_impl_Circuit_copy : List Res := [.cell 2 false 3]
theorem c_impl_Circuit_copy : compiled Tryd.prog Tryd.f46 = some (m_impl_Circuit_copy, r_impl_Circuit_copy) := by kernel_rfl
theorem hb_impl_Circuit_copy : hasBody Tryd.prog 46 = true := by kernel_rfl
def L_impl_Circuit_copy (a0_0 : Int) (a0_1 : List (Int × Int × Int × Int)) (a0_2 : List Int) : Option (Int × (List (Int × Int × Int × Int)) × List Int) :=
  Option.bind (L_slices_Clone_impl_Gate_impl_Gate a0_1) fun y3 =>
Option.bind (L_impl_clone a0_2) fun y4 =>
some (a0_0, y3, y4)
def rv_impl_Circuit_copy (r : Int × (List (Int × Int × Int × Int)) × List Int) : RV := ⟨false, [(true, [.sc (.int .i64 r.1), .new 51 (.pair .int (.pair .int (.pair .int .int))) r.2.1, .new 3 .int r.2.2])]⟩
theorem ok_impl_Circuit_copy {a0_0 : Int} {a0_1 : List (Int × Int × Int × Int)} {a0_2 : List Int} {r : Int × (List (Int × Int × Int × Int)) × List Int} (h : L_impl_Circuit_copy a0_0 a0_1 a0_2 = some r) : CallOK Tryd.prog Tab 46 [(.agg [(ai a0_0), (.tree (.pair .int (.pair .int (.pair .int .int))) a0_1), (.tree .int a0_2)])] (rv_impl_Circuit_copy r) := by
  refine call_of_ (by kernel_rfl) Tryd.func46 c_impl_Circuit_copy (n := 12) (by kernel_rfl) (by simp) (tl := [(0, (.agg [(ai a0_0), (.tree (.pair .int (.pair .int (.pair .int .int))) a0_1), (.tree .int a0_2)]))]) rfl ?_
  unfold m_impl_Circuit_copy
  unfold L_impl_Circuit_copy at h
  refine seqR ?_
  refine awp_seqv_ ?_
  obtain ⟨y3, h3, h⟩ := ob_some h
  obtain ⟨y4, h4, h⟩ := ob_some h
  refine awp_regionD_ 13 ?_
  refine ds0 (.box (oi 1 1) 0) (by kernel_rfl) ?_
  refine dsl (ai a0_0) (by kernel_rfl) ?_
  refine ds0 (.box (oi 1 1) 1) (by kernel_rfl) ?_
  refine dsl (.tree (.pair .int (.pair .int (.pair .int .int))) a0_1) (by kernel_rfl) ?_
  refine dcall (.own (oi 112 7) (.pair .int (.pair .int (.pair .int .int))) 0 y3.length) [((oi 112 7), some (.arr 51 (.pair .int (.pair .int (.pair .int .int))) y3))] [(.tree (.pair .int (.pair .int (.pair .int .int))) a0_1)] _ (caps := []) (args0 := [(.tree (.pair .int (.pair .int (.pair .int .int))) a0_1)]) trivial (by kernel_rfl) (ok_slices_Clone_impl_Gate_impl_Gate h3) hb_slices_Clone_impl_Gate_impl_Gate ?_
  refine ds0 (.box (oi 1 1) 2) (by kernel_rfl) ?_
  refine dsl (.tree .int a0_2) (by kernel_rfl) ?_
  refine dcall (.own (oi 160 10) .int 0 y4.length) [((oi 160 10), some (.arr 3 .int y4))] [(.tree .int a0_2)] _ (caps := []) (args0 := [(.tree .int a0_2)]) trivial (by kernel_rfl) (ok_impl_clone h4) hb_impl_clone ?_
  refine ds0 (.agg [(ai a0_0), (.own (oi 112 7) (.pair .int (.pair .int (.pair .int .int))) 0 y3.length), (.own (oi 160 10) .int 0 y4.length)]) (by kernel_rfl) ?_
  refine dsn2 (oi 2 2) (oi 2 2) (.cells 31 [(ai a0_0), (.own (oi 112 7) (.pair .int (.pair .int (.pair .int .int))) 0 y3.length), (.own (oi 160 10) .int 0 y4.length)]) (by kernel_rfl) ?_
  refine dnil (badB_spec (by kernel_rfl)) (tn_ ?_)
  refine ⟨_, Weak.refl _, ?_⟩
  refine awp_ret_ ?_
  obtain rfl := Option.some.inj h
  exact ret_ [(.agg [(ai a0_0), (.own (oi 112 7) (.pair .int (.pair .int (.pair .int .int))) 0 y3.length), (.own (oi 160 10) .int 0 y4.length)])] (p_agg (l_cons (l_sc (by kernel_rfl)) (l_cons (l_own (by kernel_rfl) rfl) (l_cons (l_own (by kernel_rfl) rfl) l_nil))) p_nil)
def m_impl_Circuit_delays_l1 : AC :=
  (.seq (rg [xo 11 (qb .lss (tm 10) (tm 9))])
  (.seq (.cond (tm 11)
    .skip
    (.exit 0))
  (.seq (.block 1 (.seq (rg [xo 12 (qm (tm 10)), xo 13 (qx 4 (tm 8) (tm 10)), xo 14 (.i (.ld false 4 (tm 13))), xo 5 (.i (.alloc 51 [(.int .i64 0), (.int .i64 0), (.int .i64 0), (.int .i64 0)])), xo 4 (qm (tm 12)), xn (.st false 4 (tm 5) (tm 14))])
  (.seq (rg [xo 15 (qf 0 (tm 5)), xo 16 (ql (tm 15)), xo 17 (qb .eql (tm 16) (ci 5))])
  (.cond (tm 17)
    (rg [xo 18 (qm (tm 3)), xo 19 (qm (tm 4)), xo 20 (.mkS 3 .int [(tm 19)]), xo 21 (.append 3 .int 8 (tm 18) (tm 20)), xo 3 (qm (tm 21))])
    .skip))))
  (rg [xo 22 (qb .add (tm 10) (ci 1)), xo 10 (qm (tm 22))]))))
def m_impl_Circuit_delays : AC :=
  (.seq (rg [xo 1 (.i (.box 31 (tm 0))), xo 2 (qm (.cst .nils))])
  (.seq (rg [xo 6 (.mkS 3 .int []), xo 3 (qm (tm 6))])
  (.seq (.seq (rg [xo 7 (qf 1 (tm 1)), xo 8 (ql (tm 7)), xo 9 (.i (.len (tm 8))), xo 10 (qm (ci 0))])
  (.block 0 (.loop m_impl_Circuit_delays_l1)))
  (.seq (rg [xo 23 (qm (tm 3)), xo 2 (qm (tm 23))])
  .ret))))
def r_impl_Circuit_delays : List Res := [.tmp 2]
theorem c_impl_Circuit_delays : compiled Tryd.prog Tryd.f62 = some (m_impl_Circuit_delays, r_impl_Circuit_delays) := by kernel_rfl
theorem hb_impl_Circuit_delays : hasBody Tryd.prog 62 = true := by kernel_rfl
def L_impl_Circuit_delays_l1 (a0_1 : List (Int × Int × Int × Int)) (l5_m10 : Nat) (l5_m3 : List Int) : Option (Ctl (Nat × List Int) (List Int)) :=
  cond (decide (((l5_m10 : Nat) : Int) < ((a0_1.length : Nat) : Int)))
  (Option.bind (Option.bind (a0_1[l5_m10]?) fun x11 =>
    cond (x11.1 == 5)
      (og (l5_m3.length + 1 ≤ 1073741824 ∧ (l5_m3.length + 1) * 8 ≤ 140737488355328) <|
      some (l5_m3 ++ ([((l5_m10 : Nat) : Int)])))
      (some l5_m3)) fun l9_m3 =>
  og (l5_m10 + 1 < 4611686018427387904) <|
  some (Ctl.next (l5_m10 + 1, l9_m3)))
  (some (Ctl.out l5_m3))
def L_impl_Circuit_delays (a0_0 : Int) (a0_1 : List (Int × Int × Int × Int)) (a0_2 : List Int) : Option (List Int) :=
  Option.bind (loopM (fun s_ : Nat × List Int => L_impl_Circuit_delays_l1 a0_1 s_.1 s_.2) 4611686018427387904 (0, [])) fun l3_m3 =>
some l3_m3
def rv_impl_Circuit_delays (r : List Int) : RV := ⟨false, [(false, [.new 3 .int r])]⟩
theorem ok_impl_Circuit_delays {a0_0 : Int} {a0_1 : List (Int × Int × Int × Int)} {a0_2 : List Int} {r : List Int} (h : L_impl_Circuit_delays a0_0 a0_1 a0_2 = some r) : CallOK Tryd.prog Tab 62 [(.agg [(ai a0_0), (.tree (.pair .int (.pair .int (.pair .int .int))) a0_1), (.tree .int a0_2)])] (rv_impl_Circuit_delays r) := by
  refine call_of_ (by kernel_rfl) Tryd.func62 c_impl_Circuit_delays (n := 24) (by kernel_rfl) (by simp) (tl := [(0, (.agg [(ai a0_0), (.tree (.pair .int (.pair .int (.pair .int .int))) a0_1), (.tree .int a0_2)]))]) rfl ?_
  unfold m_impl_Circuit_delays
  unfold L_impl_Circuit_delays at h
  refine seqR ?_
  refine seqR ?_
  refine awp_seqB h (fun (l3_m3 : List Int) S_ => S_ = ⟨mkTm [(3, (.own (oi 0 1) .int 0 l3_m3.length))], mkOb (someL [((oi 0 1), .arr 3 .int l3_m3)]), 2⟩) ?_ ?_
  · intro v_ h
    refine seqR ?_
    refine awp_block_ ?_
    refine awp_loopL h (fun t_ S_ => ∃ (l5_m10 : Nat), ∃ (l5_m3 : List Int), t_ = (l5_m10, l5_m3) ∧ S_ = ⟨mkTm [(3, (.own (oi 0 1) .int 0 l5_m3.length)), (8, (.tree (.pair .int (.pair .int (.pair .int .int))) a0_1)), (9, (ai ((a0_1.length : Nat) : Int))), (10, (ai ((l5_m10 : Nat) : Int)))], mkOb (someL [((oi 0 1), .arr 3 .int l5_m3)]), 2⟩) ⟨_, (weak_ren [((oi 0 1), (oi 6 3))]), ⟨0, [], rfl, rfl⟩⟩ ?_
    rintro n_ _ _ c_ ⟨l5_m10, l5_m3, rfl, rfl⟩ h hn5
    (try dsimp only at h)
    unfold L_impl_Circuit_delays_l1 at h
    unfold m_impl_Circuit_delays_l1
    refine seqR ?_
    refine awp_seqv_ ?_
    rcases cond_some h with ⟨q8, h⟩ | ⟨q8, h⟩
    · have q8_ := of_decide_eq_true q8
      refine awp_condT_ q8 ?_
      refine awp_skip_ (tn_ ?_)
      refine ⟨_, Weak.refl _, ?_⟩
      refine awp_seqB h (fun (l9_m3 : List Int) S_ => S_ = ⟨mkTm [(3, (.own (oi 0 1) .int 0 l9_m3.length)), (8, (.tree (.pair .int (.pair .int (.pair .int .int))) a0_1)), (9, (ai ((a0_1.length : Nat) : Int))), (10, (ai ((l5_m10 : Nat) : Int)))], mkOb (someL [((oi 0 1), .arr 3 .int l9_m3)]), 2⟩) ?_ ?_
      · intro v_ h
        refine awp_block_ ?_
        refine awp_seqv_ ?_
        obtain ⟨x11, e11, h⟩ := ob_some h
        refine awp_region_ 9 ?_
        refine rs0 (ai ((l5_m10 : Nat) : Int)) (by kernel_rfl) ?_
        refine rs0 (.telt (.pair .int (.pair .int (.pair .int .int))) x11 0) (s_idxT (t := (.pair .int (.pair .int (.pair .int .int)))) (xs := a0_1) (k := .i64) (m := ((l5_m10 : Nat) : Int)) (by kernel_rfl) (by kernel_rfl) rfl (nat_nn _) rfl e11) ?_
        refine rsB 4 ?_
        refine rnil (tn_ ?_)
        refine ⟨_, Weak.refl _, ?_⟩
        refine seqR ?_
        rcases cond_some h with ⟨q13, h⟩ | ⟨q13, h⟩
        · refine awp_condT_ q13 ?_
          obtain ⟨g14, h⟩ := og_some h
          refine awp_region_ 17 ?_
          refine rs0 (.own (oi 0 1) .int 0 l5_m3.length) (by kernel_rfl) ?_
          refine rs0 (ai ((l5_m10 : Nat) : Int)) (by kernel_rfl) ?_
          refine rs1 (.own (oi 20 14) .int 0 1) (oi 20 14) (.arr 3 .int ([((l5_m10 : Nat) : Int)])) (by kernel_rfl) ?_
          refine rs2 (.own (oi 0 15) .int 0 ((l5_m3 ++ ([((l5_m10 : Nat) : Int)])).length)) (oi 0 1) (oi 0 15) (.arr 3 .int (l5_m3 ++ ([((l5_m10 : Nat) : Int)]))) (s_appO (t := .int) (t' := .int) (xs := l5_m3) (ys := [((l5_m10 : Nat) : Int)]) (zs := l5_m3 ++ ([((l5_m10 : Nat) : Int)])) (j := (oi 0 1)) (len := l5_m3.length) (c := (.own (oi 20 14) .int 0 1)) (by kernel_rfl) (by kernel_rfl) rfl (by kernel_rfl) (sr_own (e := 3) (by kernel_rfl) rfl) rfl g14) ?_
          refine rsB 1 ?_
          refine rnil (bn_ (tn_ ?_))
          obtain rfl := Option.some.inj h
          exact ⟨_, (weak_ren [((oi 0 1), (oi 0 15))]), rfl⟩
        refine awp_condF_ q13 ?_
        refine awp_skip_ (bn_ (tn_ ?_))
        obtain rfl := Option.some.inj h
        exact ⟨_, (weak_ren []), rfl⟩
      rintro l9_m3 _ rfl h
      (try dsimp only at h)
      obtain ⟨g15, h⟩ := og_some h
      refine awp_region_ 4 ?_
      refine rs0 (ai ((l5_m10 + 1 : Nat) : Int)) (s_add1 (j := l5_m10) (by kernel_rfl) (by kernel_rfl) g15) ?_
      refine rsB 1 ?_
      refine rnil (tn_ ?_)
      obtain rfl := Option.some.inj h
      exact ⟨(l5_m10 + 1, l9_m3), _, (weak_ren []), ⟨l5_m10 + 1, l9_m3, rfl, rfl⟩, hn5⟩
    have q8_ := of_decide_eq_false q8
    refine awp_condF_ q8 ?_
    refine awp_exit_ (te_ (te_ (be_ (tn_ ?_))))
    obtain rfl := Option.some.inj h
    have h := hn5
    (try dsimp only at h)
    obtain rfl := Option.some.inj h
    exact ⟨_, (weak_ren []), rfl⟩
  rintro l3_m3 _ rfl h
  (try dsimp only at h)
  refine seqR ?_
  refine awp_ret_ ?_
  obtain rfl := Option.some.inj h
  exact ret_ [(.own (oi 0 1) .int 0 l3_m3.length)] (p_one rfl (l_own (by kernel_rfl) rfl) p_nil)
def m_spec_crDelays_l1 : AC :=
  (.seq (rg [xo 10 (qb .lss (tm 9) (tm 8))])
  (.seq (.cond (tm 10)
    .skip
    (.exit 0))
  (.seq (.block 1 (.seq (rg [xo 11 (qm (tm 9)), xo 12 (qx 4 (tm 7) (tm 9)), xo 13 (.i (.ld false 4 (tm 12))), xo 5 (.i (.alloc 51 [(.int .i64 0), (.int .i64 0), (.int .i64 0), (.int .i64 0)])), xo 4 (qm (tm 11)), xn (.st false 4 (tm 5) (tm 13))])
  (.seq (rg [xo 14 (qf 0 (tm 5)), xo 15 (ql (tm 14)), xo 16 (qb .eql (tm 15) (ci 5))])
  (.cond (tm 16)
    (rg [xo 17 (qm (tm 3)), xo 18 (qm (tm 4)), xo 19 (.mkS 3 .int [(tm 18)]), xo 20 (.append 3 .int 8 (tm 17) (tm 19)), xo 3 (qm (tm 20))])
    .skip))))
  (rg [xo 21 (qb .add (tm 9) (ci 1)), xo 9 (qm (tm 21))]))))
def m_spec_crDelays : AC :=
  (.seq (rg [xo 1 (.i (.box 31 (tm 0))), xo 2 (qm (.cst .nils))])
  (.seq (rg [xo 3 (qm (.cst .nils))])
  (.seq (.seq (rg [xo 6 (qf 1 (tm 1)), xo 7 (ql (tm 6)), xo 8 (.i (.len (tm 7))), xo 9 (qm (ci 0))])
  (.block 0 (.loop m_spec_crDelays_l1)))
  (.seq (rg [xo 22 (qm (tm 3)), xo 2 (qm (tm 22))])
  .ret))))
def r_spec_crDelays : List Res := [.tmp 2]
theorem c_spec_crDelays : compiled Tryd.prog Tryd.f58 = some (m_spec_crDelays, r_spec_crDelays) := by kernel_rfl
theorem hb_spec_crDelays : hasBody Tryd.prog 58 = true := by kernel_rfl
def L_spec_crDelays_l1 (a0_1 : List (Int × Int × Int × Int)) (l5_m9 : Nat) (l5_m3 : List Int) : Option (Ctl (Nat × List Int) (List Int)) :=
  cond (decide (((l5_m9 : Nat) : Int) < ((a0_1.length : Nat) : Int)))
  (Option.bind (Option.bind (a0_1[l5_m9]?) fun x11 =>
    cond (x11.1 == 5)
      (og (l5_m3.length + 1 ≤ 1073741824 ∧ (l5_m3.length + 1) * 8 ≤ 140737488355328) <|
      some (l5_m3 ++ ([((l5_m9 : Nat) : Int)])))
      (some l5_m3)) fun l9_m3 =>
  og (l5_m9 + 1 < 4611686018427387904) <|
  some (Ctl.next (l5_m9 + 1, l9_m3)))
  (some (Ctl.out l5_m3))
def L_spec_crDelays (a0_0 : Int) (a0_1 : List (Int × Int × Int × Int)) (a0_2 : List Int) : Option (List Int) :=
  Option.bind (loopM (fun s_ : Nat × List Int => L_spec_crDelays_l1 a0_1 s_.1 s_.2) 4611686018427387904 (0, [])) fun l3_m3 =>
some l3_m3
def rv_spec_crDelays (r : List Int) : RV := ⟨false, [(false, [.new 3 .int r])]⟩
theorem ok_spec_crDelays {a0_0 : Int} {a0_1 : List (Int × Int × Int × Int)} {a0_2 : List Int} {r : List Int} (h : L_spec_crDelays a0_0 a0_1 a0_2 = some r) : CallOK Tryd.prog Tab 58 [(.agg [(ai a0_0), (.tree (.pair .int (.pair .int (.pair .int .int))) a0_1), (.tree .int a0_2)])] (rv_spec_crDelays r) := by
  refine call_of_ (by kernel_rfl) Tryd.func58 c_spec_crDelays (n := 23) (by kernel_rfl) (by simp) (tl := [(0, (.agg [(ai a0_0), (.tree (.pair .int (.pair .int (.pair .int .int))) a0_1), (.tree .int a0_2)]))]) rfl ?_
  unfold m_spec_crDelays
  unfold L_spec_crDelays at h
  refine seqR ?_
  refine seqR ?_
  refine awp_seqB h (fun (l3_m3 : List Int) S_ => S_ = ⟨mkTm [(3, (.own (oi 0 1) .int 0 l3_m3.length))], mkOb (someL [((oi 0 1), .arr 3 .int l3_m3)]), 2⟩) ?_ ?_
  · intro v_ h
    refine seqR ?_
    refine awp_block_ ?_
    refine awp_loopL h (fun t_ S_ => ∃ (l5_m9 : Nat), ∃ (l5_m3 : List Int), t_ = (l5_m9, l5_m3) ∧ S_ = ⟨mkTm [(3, (.own (oi 0 1) .int 0 l5_m3.length)), (7, (.tree (.pair .int (.pair .int (.pair .int .int))) a0_1)), (8, (ai ((a0_1.length : Nat) : Int))), (9, (ai ((l5_m9 : Nat) : Int)))], mkOb (someL [((oi 0 1), .arr 3 .int l5_m3)]), 2⟩) ⟨_, ((weak_nil_ 3 3 .int rfl (by kernel_rfl)).trans (weak_ren [((oi 0 1), (oi 3 8))])), ⟨0, [], rfl, rfl⟩⟩ ?_
    rintro n_ _ _ c_ ⟨l5_m9, l5_m3, rfl, rfl⟩ h hn5
    (try dsimp only at h)
    unfold L_spec_crDelays_l1 at h
    unfold m_spec_crDelays_l1
    refine seqR ?_
    refine awp_seqv_ ?_
    rcases cond_some h with ⟨q8, h⟩ | ⟨q8, h⟩
    · have q8_ := of_decide_eq_true q8
      refine awp_condT_ q8 ?_
      refine awp_skip_ (tn_ ?_)
      refine ⟨_, Weak.refl _, ?_⟩
      refine awp_seqB h (fun (l9_m3 : List Int) S_ => S_ = ⟨mkTm [(3, (.own (oi 0 1) .int 0 l9_m3.length)), (7, (.tree (.pair .int (.pair .int (.pair .int .int))) a0_1)), (8, (ai ((a0_1.length : Nat) : Int))), (9, (ai ((l5_m9 : Nat) : Int)))], mkOb (someL [((oi 0 1), .arr 3 .int l9_m3)]), 2⟩) ?_ ?_
      · intro v_ h
        refine awp_block_ ?_
        refine awp_seqv_ ?_
        obtain ⟨x11, e11, h⟩ := ob_some h
        refine awp_region_ 9 ?_
        refine rs0 (ai ((l5_m9 : Nat) : Int)) (by kernel_rfl) ?_
        refine rs0 (.telt (.pair .int (.pair .int (.pair .int .int))) x11 0) (s_idxT (t := (.pair .int (.pair .int (.pair .int .int)))) (xs := a0_1) (k := .i64) (m := ((l5_m9 : Nat) : Int)) (by kernel_rfl) (by kernel_rfl) rfl (nat_nn _) rfl e11) ?_
        refine rsB 4 ?_
        refine rnil (tn_ ?_)
        refine ⟨_, Weak.refl _, ?_⟩
        refine seqR ?_
        rcases cond_some h with ⟨q13, h⟩ | ⟨q13, h⟩
        · refine awp_condT_ q13 ?_
          obtain ⟨g14, h⟩ := og_some h
          refine awp_region_ 17 ?_
          refine rs0 (.own (oi 0 1) .int 0 l5_m3.length) (by kernel_rfl) ?_
          refine rs0 (ai ((l5_m9 : Nat) : Int)) (by kernel_rfl) ?_
          refine rs1 (.own (oi 19 14) .int 0 1) (oi 19 14) (.arr 3 .int ([((l5_m9 : Nat) : Int)])) (by kernel_rfl) ?_
          refine rs2 (.own (oi 0 15) .int 0 ((l5_m3 ++ ([((l5_m9 : Nat) : Int)])).length)) (oi 0 1) (oi 0 15) (.arr 3 .int (l5_m3 ++ ([((l5_m9 : Nat) : Int)]))) (s_appO (t := .int) (t' := .int) (xs := l5_m3) (ys := [((l5_m9 : Nat) : Int)]) (zs := l5_m3 ++ ([((l5_m9 : Nat) : Int)])) (j := (oi 0 1)) (len := l5_m3.length) (c := (.own (oi 19 14) .int 0 1)) (by kernel_rfl) (by kernel_rfl) rfl (by kernel_rfl) (sr_own (e := 3) (by kernel_rfl) rfl) rfl g14) ?_
          refine rsB 1 ?_
          refine rnil (bn_ (tn_ ?_))
          obtain rfl := Option.some.inj h
          exact ⟨_, (weak_ren [((oi 0 1), (oi 0 15))]), rfl⟩
        refine awp_condF_ q13 ?_
        refine awp_skip_ (bn_ (tn_ ?_))
        obtain rfl := Option.some.inj h
        exact ⟨_, (weak_ren []), rfl⟩
      rintro l9_m3 _ rfl h
      (try dsimp only at h)
      obtain ⟨g15, h⟩ := og_some h
      refine awp_region_ 4 ?_
      refine rs0 (ai ((l5_m9 + 1 : Nat) : Int)) (s_add1 (j := l5_m9) (by kernel_rfl) (by kernel_rfl) g15) ?_
      refine rsB 1 ?_
      refine rnil (tn_ ?_)
      obtain rfl := Option.some.inj h
      exact ⟨(l5_m9 + 1, l9_m3), _, (weak_ren []), ⟨l5_m9 + 1, l9_m3, rfl, rfl⟩, hn5⟩
    have q8_ := of_decide_eq_false q8
    refine awp_condF_ q8 ?_
    refine awp_exit_ (te_ (te_ (be_ (tn_ ?_))))
    obtain rfl := Option.some.inj h
    have h := hn5
    (try dsimp only at h)
    obtain rfl := Option.some.inj h
    exact ⟨_, (weak_ren []), rfl⟩
  rintro l3_m3 _ rfl h
  (try dsimp only at h)
  refine seqR ?_
  refine awp_ret_ ?_
  obtain rfl := Option.some.inj h
  exact ret_ [(.own (oi 0 1) .int 0 l3_m3.length)] (p_one rfl (l_own (by kernel_rfl) rfl) p_nil)
end Go.Proofs.YthjdknddcceigaaDoor
