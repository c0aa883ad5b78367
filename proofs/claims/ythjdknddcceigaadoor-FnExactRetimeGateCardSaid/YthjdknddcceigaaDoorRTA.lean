/- Partial functions in place of code, and that the code does what they say: RTA. No condition. -/
import Derived.Test.YthjdknddcceigaaDoorB3
namespace Go.Proofs.YthjdknddcceigaaDoor
open Go.RowKit Go.Deep
set_option maxRecDepth 4000
def m_spec_opGate : AC :=
  (.seq (.region [⟨(some 4), none, (.i (.box 31 (.tmp 1)))⟩, ⟨(some 6), none, (.i (.mov (.cst (.bool false))))⟩] false [])
  (.seq (.region [⟨(some 7), none, (.i (.mov (.tmp 0)))⟩, ⟨(some 8), none, (.i (.ld false 3 (.tmp 4)))⟩, ⟨(some 9), none, (.call (.cst (.fn 35 [])) [(.tmp 7), (.tmp 8)] [[], [none, (some (.pair .int (.pair .int (.pair .int .int)))), (some .int)]])⟩, ⟨(some 10), none, (.i (.mov (.tmp 9)))⟩, ⟨(some 11), (some (10, true)), (.i (.mov (.tmp 2)))⟩, ⟨(some 12), (some (10, true)), (.i (.fld 1 (.tmp 4)))⟩, ⟨(some 13), (some (10, true)), (.i (.ld true 1 (.tmp 12)))⟩, ⟨(some 14), (some (10, true)), (.i (.len (.tmp 13)))⟩, ⟨(some 15), (some (10, true)), (.i (.bin .sub (.tmp 14) (.cst (.int .i64 1))))⟩, ⟨(some 16), (some (10, true)), (.call (.cst (.fn 41 [])) [(.tmp 11), (.cst (.int .i64 0)), (.tmp 15)] [[], [], []])⟩, ⟨(some 17), none, (.i (.pick (.tmp 10) (.tmp 16) (.cst (.bool false))))⟩, ⟨(some 6), none, (.i (.mov (.tmp 17)))⟩] false [])
  .ret))
def r_spec_opGate : List Res := [.tmp 6]
theorem c_spec_opGate : compiled Tryd.prog Tryd.f50 = some (m_spec_opGate, r_spec_opGate) := by kernel_rfl
theorem hb_spec_opGate : hasBody Tryd.prog 50 = true := by kernel_rfl
def L_spec_opGate (a0 : Int) (a1_0 : Int) (a1_1 : List (Int × Int × Int × Int)) (a1_2 : List Int) (a2 : Int) : Option Bool :=
  Option.bind (Option.bind (L_spec_crGood a0 a1_0 a1_1 a1_2) fun y3 =>
  cond y3
    (Option.bind (L_spec_l1In a2 0 (IntKind.i64.wrap (((a1_1.length : Nat) : Int) - 1))) fun y5 =>
    some y5)
    (some false)) fun l2_m6 =>
some l2_m6
def rv_spec_opGate (r : Bool) : RV := ⟨false, [(false, [.sc (.bool r)])]⟩
theorem ok_spec_opGate {a0 : Int} {a1_0 : Int} {a1_1 : List (Int × Int × Int × Int)} {a1_2 : List Int} {a2 : Int} {r : Bool} (h : L_spec_opGate a0 a1_0 a1_1 a1_2 a2 = some r) : CallOK Tryd.prog Tab 50 [(.int .i64 a0), (.agg [(.int .i64 a1_0), (.tree (.pair .int (.pair .int (.pair .int .int))) a1_1), (.tree .int a1_2)]), (.int .i64 a2)] (rv_spec_opGate r) := by
  refine call_of_ (by kernel_rfl) Tryd.func50 c_spec_opGate (n := 18) (by kernel_rfl) (by simp) (tl := [(0, (.int .i64 a0)), (1, (.agg [(.int .i64 a1_0), (.tree (.pair .int (.pair .int (.pair .int .int))) a1_1), (.tree .int a1_2)])), (2, (.int .i64 a2))]) rfl ?_
  unfold m_spec_opGate
  unfold L_spec_opGate at h
  refine awp_seq_ ?_
  refine awp_region_ 3 (by kernel_rfl) ?_
  refine rs1 (.box (4, 1) 0) (4, 1) (.cells 31 [(.int .i64 a1_0), (.tree (.pair .int (.pair .int (.pair .int .int))) a1_1), (.tree .int a1_2)]) (by kernel_rfl) ?_
  refine rs0 (.bool false) (by kernel_rfl) ?_
  refine rnil (tn_ ?_)
  refine awp_seqB h (fun (l2_m6 : Bool) S_ => S_ = ⟨mkTm [(6, (.bool l2_m6))], mkOb (someL []), 2⟩) ?_ ?_
  · intro v_ h
    obtain ⟨y3, h3, h⟩ := ob_some h
    rcases cond_some h with ⟨q4, h⟩ | ⟨q4, h⟩
    · obtain ⟨y5, h5, h⟩ := ob_some h
      refine awp_region_ 15 (by kernel_rfl) ?_
      refine rs0 (.int .i64 a0) (by kernel_rfl) ?_
      refine rsl (.agg [(.int .i64 a1_0), (.tree (.pair .int (.pair .int (.pair .int .int))) a1_1), (.tree .int a1_2)]) (by kernel_rfl) ?_
      refine rcall (.bool y3) [] [(.int .i64 a0), (.agg [(.int .i64 a1_0), (.tree (.pair .int (.pair .int (.pair .int .int))) a1_1), (.tree .int a1_2)])] _ (caps := []) (args0 := [(.int .i64 a0), (.agg [(.int .i64 a1_0), (.tree (.pair .int (.pair .int (.pair .int .int))) a1_1), (.tree .int a1_2)])]) trivial (by kernel_rfl) (by kernel_rfl) (by kernel_rfl) (by kernel_rfl) (ok_spec_crGood h3) hb_spec_crGood (by kernel_rfl) ?_
      refine rs0 (.bool y3) (by kernel_rfl) ?_
      refine rs0 (.int .i64 a2) (s_gd (by kernel_rfl) q4 (by kernel_rfl)) ?_
      refine rs0 (.box (4, 1) 1) (s_gd (by kernel_rfl) q4 (by kernel_rfl)) ?_
      refine rsl (.tree (.pair .int (.pair .int (.pair .int .int))) a1_1) (s_gd (by kernel_rfl) q4 (by kernel_rfl)) ?_
      refine rs0 (.int .i64 ((a1_1.length : Nat) : Int)) (s_gd (by kernel_rfl) q4 (by kernel_rfl)) ?_
      refine rs0 (.int .i64 (IntKind.i64.wrap (((a1_1.length : Nat) : Int) - 1))) (s_gd (by kernel_rfl) q4 (by kernel_rfl)) ?_
      refine rcall (.bool y5) [] [(.int .i64 a2), (.int .i64 0), (.int .i64 (IntKind.i64.wrap (((a1_1.length : Nat) : Int) - 1)))] _ (caps := []) (args0 := [(.int .i64 a2), (.int .i64 0), (.int .i64 (IntKind.i64.wrap (((a1_1.length : Nat) : Int) - 1)))]) (gdOK_b (by kernel_rfl) q4) (by kernel_rfl) (by kernel_rfl) (by kernel_rfl) (by kernel_rfl) (ok_spec_l1In h5) hb_spec_l1In (by kernel_rfl) ?_
      refine rs0 (.bool y5) (s_pickT (by kernel_rfl) q4) ?_
      refine rs0 (.bool y5) (by kernel_rfl) ?_
      refine rnil (tn_ ?_)
      obtain rfl := Option.some.inj h
      exact ⟨_, (weak_ren (renF []) (by kernel_rfl) (by kernel_rfl) (by kernel_rfl)), rfl⟩
    · refine awp_region_ 15 (by kernel_rfl) ?_
      refine rs0 (.int .i64 a0) (by kernel_rfl) ?_
      refine rsl (.agg [(.int .i64 a1_0), (.tree (.pair .int (.pair .int (.pair .int .int))) a1_1), (.tree .int a1_2)]) (by kernel_rfl) ?_
      refine rcall (.bool y3) [] [(.int .i64 a0), (.agg [(.int .i64 a1_0), (.tree (.pair .int (.pair .int (.pair .int .int))) a1_1), (.tree .int a1_2)])] _ (caps := []) (args0 := [(.int .i64 a0), (.agg [(.int .i64 a1_0), (.tree (.pair .int (.pair .int (.pair .int .int))) a1_1), (.tree .int a1_2)])]) trivial (by kernel_rfl) (by kernel_rfl) (by kernel_rfl) (by kernel_rfl) (ok_spec_crGood h3) hb_spec_crGood (by kernel_rfl) ?_
      refine rs0 (.bool y3) (by kernel_rfl) ?_
      refine rs0 (.tup []) (s_skip (by kernel_rfl) q4) ?_
      refine rs0 (.tup []) (s_skip (by kernel_rfl) q4) ?_
      refine rs0 (.tup []) (s_skip (by kernel_rfl) q4) ?_
      refine rs0 (.tup []) (s_skip (by kernel_rfl) q4) ?_
      refine rs0 (.tup []) (s_skip (by kernel_rfl) q4) ?_
      refine rs0 (.tup []) (s_skip (by kernel_rfl) q4) ?_
      refine rs0 (.bool false) (s_pickF (by kernel_rfl) q4) ?_
      refine rs0 (.bool false) (by kernel_rfl) ?_
      refine rnil (tn_ ?_)
      obtain rfl := Option.some.inj h
      exact ⟨_, (weak_ren (renF []) (by kernel_rfl) (by kernel_rfl) (by kernel_rfl)), rfl⟩
  · rintro l2_m6 _ rfl h
    (try dsimp only at h)
    refine awp_ret_ ?_
    obtain rfl := Option.some.inj h
    exact ret_ [(.bool l2_m6)] (by simp) (by kernel_rfl) (p_one rfl (l_sc (by kernel_rfl)) p_nil) (by kernel_rfl) (by kernel_rfl)
def m_spec_opCombines : AC :=
  (.seq (.region [⟨(some 1), none, (.i (.box 51 (.tmp 0)))⟩, ⟨(some 2), none, (.i (.mov (.cst (.int .i64 0))))⟩, ⟨(some 3), none, (.i (.mov (.cst (.bool false))))⟩] false [])
  (.seq (.seq (.region [⟨(some 4), none, (.i (.fld 0 (.tmp 1)))⟩, ⟨(some 5), none, (.i (.ld true 1 (.tmp 4)))⟩] false [])
  (.block 0 (.seq (.region [⟨(some 7), none, (.i (.bin .eql (.tmp 5) (.cst (.int .i64 3))))⟩, ⟨(some 6), none, (.i (.mov (.tmp 7)))⟩] false [])
  (.cond (.tmp 6)
    (.seq (.region [⟨(some 2), none, (.i (.mov (.cst (.int .i64 2))))⟩, ⟨(some 3), none, (.i (.mov (.cst (.bool true))))⟩] false [])
    .ret)
    (.seq (.region [⟨(some 9), none, (.i (.bin .eql (.tmp 5) (.cst (.int .i64 4))))⟩, ⟨(some 8), none, (.i (.mov (.tmp 9)))⟩] false [])
    (.cond (.tmp 8)
      (.seq (.region [⟨(some 2), none, (.i (.mov (.cst (.int .i64 1))))⟩, ⟨(some 3), none, (.i (.mov (.cst (.bool true))))⟩] false [])
      .ret)
      .skip))))))
  (.seq (.region [⟨(some 2), none, (.i (.mov (.cst (.int .i64 0))))⟩, ⟨(some 3), none, (.i (.mov (.cst (.bool false))))⟩] false [])
  .ret)))
def r_spec_opCombines : List Res := [.tmp 2, .tmp 3]
theorem c_spec_opCombines : compiled Tryd.prog Tryd.f51 = some (m_spec_opCombines, r_spec_opCombines) := by kernel_rfl
theorem hb_spec_opCombines : hasBody Tryd.prog 51 = true := by kernel_rfl
def L_spec_opCombines (a0_0 : Int) (a0_1 : Int) (a0_2 : Int) (a0_3 : Int) : Option (Int × Bool) :=
  cond (a0_0 == 3)
  (some (2, true))
  (cond (a0_0 == 4)
    (some (1, true))
    (some (0, false)))
def rv_spec_opCombines (r : Int × Bool) : RV := ⟨true, [(false, [.sc (.int .i64 r.1)]), (false, [.sc (.bool r.2)])]⟩
theorem ok_spec_opCombines {a0_0 : Int} {a0_1 : Int} {a0_2 : Int} {a0_3 : Int} {r : Int × Bool} (h : L_spec_opCombines a0_0 a0_1 a0_2 a0_3 = some r) : CallOK Tryd.prog Tab 51 [(.agg [(.int .i64 a0_0), (.int .i64 a0_1), (.int .i64 a0_2), (.int .i64 a0_3)])] (rv_spec_opCombines r) := by
  refine call_of_ (by kernel_rfl) Tryd.func51 c_spec_opCombines (n := 10) (by kernel_rfl) (by simp) (tl := [(0, (.agg [(.int .i64 a0_0), (.int .i64 a0_1), (.int .i64 a0_2), (.int .i64 a0_3)]))]) rfl ?_
  unfold m_spec_opCombines
  unfold L_spec_opCombines at h
  refine awp_seq_ ?_
  refine awp_region_ 4 (by kernel_rfl) ?_
  refine rs1 (.box (1, 1) 0) (1, 1) (.cells 51 [(.int .i64 a0_0), (.int .i64 a0_1), (.int .i64 a0_2), (.int .i64 a0_3)]) (by kernel_rfl) ?_
  refine rs0 (.int .i64 0) (by kernel_rfl) ?_
  refine rs0 (.bool false) (by kernel_rfl) ?_
  refine rnil (tn_ ?_)
  refine awp_seq_ ?_
  refine awp_seq_ ?_
  refine awp_region_ 6 (by kernel_rfl) ?_
  refine rs0 (.box (1, 1) 0) (by kernel_rfl) ?_
  refine rsl (.int .i64 a0_0) (by kernel_rfl) ?_
  refine rnil (tn_ ?_)
  refine awp_block_ ?_
  refine awp_seq_ ?_
  refine awp_region_ 8 (by kernel_rfl) ?_
  refine rs0 (.bool (a0_0 == 3)) (by kernel_rfl) ?_
  refine rs0 (.bool (a0_0 == 3)) (by kernel_rfl) ?_
  refine rnil (tn_ ?_)
  rcases cond_some h with ⟨q5, h⟩ | ⟨q5, h⟩
  · refine awp_condT_ q5 (by kernel_rfl) ?_
    refine awp_seq_ ?_
    refine awp_region_ 10 (by kernel_rfl) ?_
    refine rs0 (.int .i64 2) (by kernel_rfl) ?_
    refine rs0 (.bool true) (by kernel_rfl) ?_
    refine rnil (tn_ ?_)
    refine awp_ret_ (br_ (tr_ ?_))
    obtain rfl := Option.some.inj h
    exact ret_ [(.int .i64 2), (.bool true)] (by simp) (by kernel_rfl) (p_one rfl (l_sc (by kernel_rfl)) (p_one rfl (l_sc (by kernel_rfl)) p_nil)) (by kernel_rfl) (by kernel_rfl)
  · refine awp_condF_ q5 (by kernel_rfl) ?_
    refine awp_seq_ ?_
    refine awp_region_ 10 (by kernel_rfl) ?_
    refine rs0 (.bool (a0_0 == 4)) (by kernel_rfl) ?_
    refine rs0 (.bool (a0_0 == 4)) (by kernel_rfl) ?_
    refine rnil (tn_ ?_)
    rcases cond_some h with ⟨q8, h⟩ | ⟨q8, h⟩
    · refine awp_condT_ q8 (by kernel_rfl) ?_
      refine awp_seq_ ?_
      refine awp_region_ 12 (by kernel_rfl) ?_
      refine rs0 (.int .i64 1) (by kernel_rfl) ?_
      refine rs0 (.bool true) (by kernel_rfl) ?_
      refine rnil (tn_ ?_)
      refine awp_ret_ (br_ (tr_ ?_))
      obtain rfl := Option.some.inj h
      exact ret_ [(.int .i64 1), (.bool true)] (by simp) (by kernel_rfl) (p_one rfl (l_sc (by kernel_rfl)) (p_one rfl (l_sc (by kernel_rfl)) p_nil)) (by kernel_rfl) (by kernel_rfl)
    · refine awp_condF_ q8 (by kernel_rfl) ?_
      refine awp_skip_ (bn_ (tn_ ?_))
      refine awp_seq_ ?_
      refine awp_region_ 12 (by kernel_rfl) ?_
      refine rs0 (.int .i64 0) (by kernel_rfl) ?_
      refine rs0 (.bool false) (by kernel_rfl) ?_
      refine rnil (tn_ ?_)
      refine awp_ret_ ?_
      obtain rfl := Option.some.inj h
      exact ret_ [(.int .i64 0), (.bool false)] (by simp) (by kernel_rfl) (p_one rfl (l_sc (by kernel_rfl)) (p_one rfl (l_sc (by kernel_rfl)) p_nil)) (by kernel_rfl) (by kernel_rfl)
def m_spec_opOwn : AC :=
  (.seq (.region [⟨(some 1), none, (.i (.box 31 (.tmp 0)))⟩, ⟨(some 2), none, (.i (.alloc 31 [(.int .i64 0), .nils, .nils]))⟩] false [])
  (.seq (.region [⟨(some 3), none, (.i (.fld 0 (.tmp 1)))⟩, ⟨(some 4), none, (.i (.ld true 1 (.tmp 3)))⟩, ⟨(some 5), none, (.mkS 51 (.pair .int (.pair .int (.pair .int .int))) [])⟩, ⟨(some 6), none, (.i (.fld 1 (.tmp 1)))⟩, ⟨(some 7), none, (.i (.ld true 1 (.tmp 6)))⟩, ⟨(some 8), none, (.append 51 (.pair .int (.pair .int (.pair .int .int))) 32 (.tmp 5) (.tmp 7))⟩, ⟨(some 9), none, (.i (.fld 2 (.tmp 1)))⟩, ⟨(some 10), none, (.i (.ld true 1 (.tmp 9)))⟩, ⟨(some 11), none, (.call (.cst (.fn 79 [])) [(.tmp 10)] [[(some .int)]])⟩, ⟨(some 12), none, (.build [(.int .i64 0), .nils, .nils] [(0, 1, (.tmp 4)), (1, 1, (.tmp 8)), (2, 1, (.tmp 11))])⟩, ⟨none, none, (.st false 3 (.tmp 2) (.tmp 12))⟩] true [(1, 5), (5, 7), (1, 8)])
  .ret))
def r_spec_opOwn : List Res := [.cell 2 false 3]
theorem c_spec_opOwn : compiled Tryd.prog Tryd.f52 = some (m_spec_opOwn, r_spec_opOwn) := by kernel_rfl
theorem hb_spec_opOwn : hasBody Tryd.prog 52 = true := by kernel_rfl
def L_spec_opOwn (a0_0 : Int) (a0_1 : List (Int × Int × Int × Int)) (a0_2 : List Int) : Option (Int × (List (Int × Int × Int × Int)) × List Int) :=
  og (0 + a0_1.length ≤ 1073741824 ∧ (0 + a0_1.length) * 32 ≤ 140737488355328) <|
Option.bind (L_spec_l1Own a0_2) fun y4 =>
some (a0_0, a0_1, y4)
def rv_spec_opOwn (r : Int × (List (Int × Int × Int × Int)) × List Int) : RV := ⟨false, [(true, [.sc (.int .i64 r.1), .new 51 (.pair .int (.pair .int (.pair .int .int))) r.2.1, .new 3 .int r.2.2])]⟩
theorem ok_spec_opOwn {a0_0 : Int} {a0_1 : List (Int × Int × Int × Int)} {a0_2 : List Int} {r : Int × (List (Int × Int × Int × Int)) × List Int} (h : L_spec_opOwn a0_0 a0_1 a0_2 = some r) : CallOK Tryd.prog Tab 52 [(.agg [(.int .i64 a0_0), (.tree (.pair .int (.pair .int (.pair .int .int))) a0_1), (.tree .int a0_2)])] (rv_spec_opOwn r) := by
  refine call_of_ (by kernel_rfl) Tryd.func52 c_spec_opOwn (n := 13) (by kernel_rfl) (by simp) (tl := [(0, (.agg [(.int .i64 a0_0), (.tree (.pair .int (.pair .int (.pair .int .int))) a0_1), (.tree .int a0_2)]))]) rfl ?_
  unfold m_spec_opOwn
  unfold L_spec_opOwn at h
  refine awp_seq_ ?_
  refine awp_region_ 3 (by kernel_rfl) ?_
  refine rs1 (.box (1, 1) 0) (1, 1) (.cells 31 [(.int .i64 a0_0), (.tree (.pair .int (.pair .int (.pair .int .int))) a0_1), (.tree .int a0_2)]) (by kernel_rfl) ?_
  refine rs1 (.box (2, 2) 0) (2, 2) (.cells 31 [(.int .i64 0), .nils, .nils]) (by kernel_rfl) ?_
  refine rnil (tn_ ?_)
  refine awp_seq_ ?_
  obtain ⟨g3, h⟩ := og_some h
  obtain ⟨y4, h4, h⟩ := ob_some h
  refine awp_regionD_ 14 (by kernel_rfl) ?_
  refine ds0 (.box (1, 1) 0) (by kernel_rfl) ?_
  refine dsl (.int .i64 a0_0) (by kernel_rfl) ?_
  refine ds1 (.own (5, 5) (.pair .int (.pair .int (.pair .int .int))) 0 0) (5, 5) (.arr 51 (.pair .int (.pair .int (.pair .int .int))) []) (by kernel_rfl) ?_
  refine ds0 (.box (1, 1) 1) (by kernel_rfl) ?_
  refine dsl (.tree (.pair .int (.pair .int (.pair .int .int))) a0_1) (by kernel_rfl) ?_
  refine ds2 (.own (5, 8) (.pair .int (.pair .int (.pair .int .int))) 0 a0_1.length) (5, 5) (5, 8) (.arr 51 (.pair .int (.pair .int (.pair .int .int))) a0_1) (s_appO (t := (.pair .int (.pair .int (.pair .int .int)))) (t' := (.pair .int (.pair .int (.pair .int .int)))) (xs := []) (ys := a0_1) (zs := a0_1) (j := (5, 5)) (len := 0) (c := (.tree (.pair .int (.pair .int (.pair .int .int))) a0_1)) (by kernel_rfl) (by kernel_rfl) rfl (by kernel_rfl) sr_tree rfl g3) ?_
  refine ds0 (.box (1, 1) 2) (by kernel_rfl) ?_
  refine dsl (.tree .int a0_2) (by kernel_rfl) ?_
  refine dcall (.own (176, 11) .int 0 y4.length) [((176, 11), some (.arr 3 .int y4))] [(.tree .int a0_2)] _ (caps := []) (args0 := [(.tree .int a0_2)]) trivial (by kernel_rfl) (by kernel_rfl) (by kernel_rfl) (by kernel_rfl) (ok_spec_l1Own h4) hb_spec_l1Own (by kernel_rfl) ?_
  refine ds0 (.agg [(.int .i64 a0_0), (.own (5, 8) (.pair .int (.pair .int (.pair .int .int))) 0 a0_1.length), (.own (176, 11) .int 0 y4.length)]) (by kernel_rfl) ?_
  refine dsn2 (2, 2) (2, 2) (.cells 31 [(.int .i64 a0_0), (.own (5, 8) (.pair .int (.pair .int (.pair .int .int))) 0 a0_1.length), (.own (176, 11) .int 0 y4.length)]) (by kernel_rfl) ?_
  refine dnil (by kernel_rfl) (tn_ ?_)
  refine awp_ret_ ?_
  obtain rfl := Option.some.inj h
  exact ret_ [(.agg [(.int .i64 a0_0), (.own (5, 8) (.pair .int (.pair .int (.pair .int .int))) 0 a0_1.length), (.own (176, 11) .int 0 y4.length)])] (by simp) (by kernel_rfl) (p_agg (l_cons (l_sc (by kernel_rfl)) (l_cons (l_own (by kernel_rfl) rfl) (l_cons (l_own (by kernel_rfl) rfl) l_nil))) p_nil) (by kernel_rfl) (by kernel_rfl)
def m_spec_RetimeGate : AC :=
  (.seq (.region [⟨(some 4), none, (.i (.box 31 (.tmp 1)))⟩, ⟨(some 6), none, (.i (.alloc 31 [(.int .i64 0), .nils, .nils]))⟩, ⟨(some 7), none, (.i (.mov (.cst (.bool false))))⟩] false [])
  (.seq (.seq (.region [⟨(some 13), none, (.i (.mov (.tmp 0)))⟩, ⟨(some 14), none, (.i (.ld false 3 (.tmp 4)))⟩, ⟨(some 15), none, (.i (.mov (.tmp 2)))⟩, ⟨(some 16), none, (.call (.cst (.fn 50 [])) [(.tmp 13), (.tmp 14), (.tmp 15)] [[], [none, (some (.pair .int (.pair .int (.pair .int .int)))), (some .int)], []])⟩, ⟨(some 17), none, (.i (.not (.tmp 16)))⟩] false [])
  (.cond (.tmp 17)
    (.seq (.region [⟨(some 18), none, (.build [(.int .i64 0), .nils, .nils] [])⟩, ⟨none, none, (.st false 3 (.tmp 6) (.tmp 18))⟩, ⟨(some 7), none, (.i (.mov (.cst (.bool false))))⟩] false [])
    .ret)
    .skip))
  (.seq (.region [⟨(some 19), none, (.i (.fld 1 (.tmp 4)))⟩, ⟨(some 20), none, (.i (.ld true 1 (.tmp 19)))⟩, ⟨(some 21), none, (.i (.mov (.tmp 2)))⟩, ⟨(some 22), none, (.i (.idx 4 (.tmp 20) (.tmp 21)))⟩, ⟨(some 23), none, (.i (.ld false 4 (.tmp 22)))⟩, ⟨(some 8), none, (.i (.alloc 51 [(.int .i64 0), (.int .i64 0), (.int .i64 0), (.int .i64 0)]))⟩, ⟨none, none, (.st false 4 (.tmp 8) (.tmp 23))⟩] false [])
  (.seq (.region [⟨(some 25), none, (.i (.ld false 4 (.tmp 8)))⟩, ⟨(some 26), none, (.call (.cst (.fn 51 [])) [(.tmp 25)] [[none, none, none, none]])⟩, ⟨(some 24), none, (.i (.mov (.tmp 26)))⟩, ⟨(some 27), none, (.i (.extr 0 (.tmp 24)))⟩, ⟨(some 28), none, (.i (.extr 1 (.tmp 24)))⟩, ⟨(some 9), none, (.i (.mov (.tmp 27)))⟩, ⟨(some 10), none, (.i (.mov (.tmp 28)))⟩] false [])
  (.seq (.seq (.region [⟨(some 29), none, (.i (.mov (.tmp 10)))⟩, ⟨(some 30), none, (.i (.not (.tmp 29)))⟩, ⟨(some 31), none, (.i (.mov (.tmp 30)))⟩, ⟨(some 32), (some (31, false)), (.i (.fld 1 (.tmp 4)))⟩, ⟨(some 33), (some (31, false)), (.i (.ld true 1 (.tmp 32)))⟩, ⟨(some 34), (some (31, false)), (.i (.fld 1 (.tmp 8)))⟩, ⟨(some 35), (some (31, false)), (.i (.ld true 1 (.tmp 34)))⟩, ⟨(some 36), (some (31, false)), (.i (.idx 4 (.tmp 33) (.tmp 35)))⟩, ⟨(some 37), (some (31, false)), (.i (.fld 0 (.tmp 36)))⟩, ⟨(some 38), (some (31, false)), (.i (.ld true 1 (.tmp 37)))⟩, ⟨(some 39), (some (31, false)), (.i (.bin .neq (.tmp 38) (.cst (.int .i64 5))))⟩, ⟨(some 40), none, (.i (.pick (.tmp 31) (.cst (.bool true)) (.tmp 39)))⟩, ⟨(some 41), none, (.i (.mov (.tmp 40)))⟩, ⟨(some 42), (some (41, false)), (.i (.mov (.tmp 9)))⟩, ⟨(some 43), (some (41, false)), (.i (.bin .eql (.tmp 42) (.cst (.int .i64 2))))⟩, ⟨(some 44), (some (41, false)), (.i (.mov (.tmp 43)))⟩, ⟨(some 45), (some (44, true)), (.i (.fld 1 (.tmp 4)))⟩, ⟨(some 46), (some (44, true)), (.i (.ld true 1 (.tmp 45)))⟩, ⟨(some 47), (some (44, true)), (.i (.fld 2 (.tmp 8)))⟩, ⟨(some 48), (some (44, true)), (.i (.ld true 1 (.tmp 47)))⟩, ⟨(some 49), (some (44, true)), (.i (.idx 4 (.tmp 46) (.tmp 48)))⟩, ⟨(some 50), (some (44, true)), (.i (.fld 0 (.tmp 49)))⟩, ⟨(some 51), (some (44, true)), (.i (.ld true 1 (.tmp 50)))⟩, ⟨(some 52), (some (44, true)), (.i (.bin .neq (.tmp 51) (.cst (.int .i64 5))))⟩, ⟨(some 53), (some (41, false)), (.i (.pick (.tmp 44) (.tmp 52) (.cst (.bool false))))⟩, ⟨(some 54), none, (.i (.pick (.tmp 41) (.cst (.bool true)) (.tmp 53)))⟩] false [])
  (.cond (.tmp 54)
    (.seq (.region [⟨(some 55), none, (.build [(.int .i64 0), .nils, .nils] [])⟩, ⟨none, none, (.st false 3 (.tmp 6) (.tmp 55))⟩, ⟨(some 7), none, (.i (.mov (.cst (.bool false))))⟩] false [])
    .ret)
    .skip))
  (.seq (.region [⟨(some 56), none, (.i (.ld false 3 (.tmp 4)))⟩, ⟨(some 57), none, (.call (.cst (.fn 52 [])) [(.tmp 56)] [[none, (some (.pair .int (.pair .int (.pair .int .int)))), (some .int)]])⟩, ⟨(some 11), none, (.i (.alloc 31 [(.int .i64 0), .nils, .nils]))⟩, ⟨none, none, (.st false 3 (.tmp 11) (.tmp 57))⟩] false [])
  (.seq (.region [⟨(some 58), none, (.i (.fld 0 (.tmp 8)))⟩, ⟨(some 59), none, (.i (.ld true 1 (.tmp 58)))⟩, ⟨(some 60), none, (.i (.fld 3 (.tmp 8)))⟩, ⟨(some 61), none, (.i (.ld true 1 (.tmp 60)))⟩, ⟨(some 62), none, (.i (.fld 1 (.tmp 4)))⟩, ⟨(some 63), none, (.i (.ld true 1 (.tmp 62)))⟩, ⟨(some 64), none, (.i (.fld 1 (.tmp 8)))⟩, ⟨(some 65), none, (.i (.ld true 1 (.tmp 64)))⟩, ⟨(some 66), none, (.i (.idx 4 (.tmp 63) (.tmp 65)))⟩, ⟨(some 67), none, (.i (.fld 1 (.tmp 66)))⟩, ⟨(some 68), none, (.i (.ld true 1 (.tmp 67)))⟩, ⟨(some 69), none, (.build [(.int .i64 0), (.int .i64 0), (.int .i64 0), (.int .i64 0)] [(0, 1, (.tmp 59)), (3, 1, (.tmp 61)), (1, 1, (.tmp 68))])⟩, ⟨(some 12), none, (.i (.alloc 51 [(.int .i64 0), (.int .i64 0), (.int .i64 0), (.int .i64 0)]))⟩, ⟨none, none, (.st false 4 (.tmp 12) (.tmp 69))⟩] true [])
  (.seq (.seq (.region [⟨(some 70), none, (.i (.mov (.tmp 9)))⟩, ⟨(some 71), none, (.i (.bin .eql (.tmp 70) (.cst (.int .i64 2))))⟩] false [])
  (.cond (.tmp 71)
    (.region [⟨(some 72), none, (.i (.fld 1 (.tmp 4)))⟩, ⟨(some 73), none, (.i (.ld true 1 (.tmp 72)))⟩, ⟨(some 74), none, (.i (.fld 2 (.tmp 8)))⟩, ⟨(some 75), none, (.i (.ld true 1 (.tmp 74)))⟩, ⟨(some 76), none, (.i (.idx 4 (.tmp 73) (.tmp 75)))⟩, ⟨(some 77), none, (.i (.fld 1 (.tmp 76)))⟩, ⟨(some 78), none, (.i (.ld true 1 (.tmp 77)))⟩, ⟨(some 79), none, (.i (.fld 2 (.tmp 12)))⟩, ⟨none, none, (.st true 1 (.tmp 79) (.tmp 78))⟩] false [])
    .skip))
  (.seq (.region [⟨(some 80), none, (.i (.fld 1 (.tmp 11)))⟩, ⟨(some 81), none, (.i (.ld true 1 (.tmp 80)))⟩, ⟨(some 82), none, (.i (.mov (.tmp 2)))⟩, ⟨(some 83), none, (.i (.fld 1 (.tmp 4)))⟩, ⟨(some 84), none, (.i (.ld true 1 (.tmp 83)))⟩, ⟨(some 85), none, (.i (.len (.tmp 84)))⟩, ⟨(some 86), none, (.build [(.int .i64 0), (.int .i64 0), (.int .i64 0), (.int .i64 0)] [(0, 1, (.cst (.int .i64 5))), (1, 1, (.tmp 85))])⟩, ⟨(some 87), none, (.i (.idx 4 (.tmp 81) (.tmp 82)))⟩, ⟨none, none, (.st false 4 (.tmp 87) (.tmp 86))⟩] false [])
  (.seq (.region [⟨(some 88), none, (.i (.fld 1 (.tmp 11)))⟩, ⟨(some 89), none, (.i (.ld true 1 (.tmp 88)))⟩, ⟨(some 90), none, (.i (.ld false 4 (.tmp 12)))⟩, ⟨(some 91), none, (.mkS 51 (.pair .int (.pair .int (.pair .int .int))) [(.tmp 90)])⟩, ⟨(some 92), none, (.append 51 (.pair .int (.pair .int (.pair .int .int))) 32 (.tmp 89) (.tmp 91))⟩, ⟨(some 93), none, (.i (.fld 1 (.tmp 11)))⟩, ⟨none, none, (.st true 1 (.tmp 93) (.tmp 92))⟩] false [])
  (.seq (.region [⟨(some 94), none, (.i (.mov (.tmp 0)))⟩, ⟨(some 95), none, (.i (.ld false 3 (.tmp 11)))⟩, ⟨(some 96), none, (.call (.cst (.fn 43 [])) [(.tmp 94), (.tmp 95)] [[], [none, (some (.pair .int (.pair .int (.pair .int .int)))), (some .int)]])⟩, ⟨(some 97), none, (.i (.extr 0 (.tmp 96)))⟩, ⟨(some 98), none, (.i (.extr 1 (.tmp 96)))⟩, ⟨none, none, (.st false 3 (.tmp 6) (.tmp 97))⟩, ⟨(some 7), none, (.i (.mov (.tmp 98)))⟩] false [])
  .ret)))))))))))
def r_spec_RetimeGate : List Res := [.cell 6 false 3, .tmp 7]
theorem c_spec_RetimeGate : compiled Tryd.prog Tryd.f24 = some (m_spec_RetimeGate, r_spec_RetimeGate) := by kernel_rfl
theorem hb_spec_RetimeGate : hasBody Tryd.prog 24 = true := by kernel_rfl
def L_spec_RetimeGate (a0 : Int) (a1_0 : Int) (a1_1 : List (Int × Int × Int × Int)) (a1_2 : List Int) (a2 : Int) : Option (Int × (List (Int × Int × Int × Int)) × List Int × Bool) :=
  Option.bind (L_spec_opGate a0 a1_0 a1_1 a1_2 a2) fun y4 =>
cond (!y4)
  (some (0, [], [], false))
  (Option.bind (getI a1_1 a2) fun x8 =>
  Option.bind (L_spec_opCombines x8.1 x8.2.1 x8.2.2.1 x8.2.2.2) fun y10 =>
  Option.bind (cond (!y10.2)
      (some true)
      (Option.bind (getI a1_1 x8.2.1) fun x14 =>
      cond (x14.1 != 5)
        (some true)
        (cond (y10.1 == 2)
          (Option.bind (getI a1_1 x8.2.2.1) fun x17 =>
          some (x17.1 != 5))
          (some false)))) fun l12_m54 =>
  cond l12_m54
    (some (0, [], [], false))
    (Option.bind (L_spec_opOwn a1_0 a1_1 a1_2) fun y21 =>
    Option.bind (getI a1_1 x8.2.1) fun x23 =>
    Option.bind (cond (y10.1 == 2)
        (Option.bind (getI a1_1 x8.2.2.1) fun x27 =>
        some x27.2.1)
        (some 0)) fun l24_m12_2 =>
    Option.bind (getI y21.2.1 a2) fun x29 =>
    og (((y21.2.1.set a2.toNat (5, ((a1_1.length : Nat) : Int), 0, 0)).length) + 1 ≤ 1073741824 ∧ (((y21.2.1.set a2.toNat (5, ((a1_1.length : Nat) : Int), 0, 0)).length) + 1) * 32 ≤ 140737488355328) <|
    Option.bind (Option.bind (L_spec_crIf a0 y21.1 ((y21.2.1.set a2.toNat (5, ((a1_1.length : Nat) : Int), 0, 0)) ++ ([(x8.1, x23.2.1, l24_m12_2, x8.2.2.2)])) y21.2.2) fun y33 =>
      (Sum.elim (fun z33_0 =>
      some (z33_0.2, z33_0.1, [], [])) (fun z33_1 =>
      some (z33_1.2, z33_1.1, (y21.2.1.set a2.toNat (5, ((a1_1.length : Nat) : Int), 0, 0)) ++ ([(x8.1, x23.2.1, l24_m12_2, x8.2.2.2)]), y21.2.2))) y33) fun (l32_m7, l32_m6_0, l32_m6_1, l32_m6_2) =>
    some (l32_m6_0, l32_m6_1, l32_m6_2, l32_m7)))
def rv_spec_RetimeGate (r : Int × (List (Int × Int × Int × Int)) × List Int × Bool) : RV := ⟨true, [(true, [.sc (.int .i64 r.1), .new 51 (.pair .int (.pair .int (.pair .int .int))) r.2.1, .new 3 .int r.2.2.1]), (false, [.sc (.bool r.2.2.2)])]⟩
theorem ok_spec_RetimeGate {a0 : Int} {a1_0 : Int} {a1_1 : List (Int × Int × Int × Int)} {a1_2 : List Int} {a2 : Int} {r : Int × (List (Int × Int × Int × Int)) × List Int × Bool} (h : L_spec_RetimeGate a0 a1_0 a1_1 a1_2 a2 = some r) : CallOK Tryd.prog Tab 24 [(.int .i64 a0), (.agg [(.int .i64 a1_0), (.tree (.pair .int (.pair .int (.pair .int .int))) a1_1), (.tree .int a1_2)]), (.int .i64 a2)] (rv_spec_RetimeGate r) := by
  refine call_of_ (by kernel_rfl) Tryd.func24 c_spec_RetimeGate (n := 99) (by kernel_rfl) (by simp) (tl := [(0, (.int .i64 a0)), (1, (.agg [(.int .i64 a1_0), (.tree (.pair .int (.pair .int (.pair .int .int))) a1_1), (.tree .int a1_2)])), (2, (.int .i64 a2))]) rfl ?_
  unfold m_spec_RetimeGate
  unfold L_spec_RetimeGate at h
  refine awp_seq_ ?_
  refine awp_region_ 4 (by kernel_rfl) ?_
  refine rs1 (.box (4, 1) 0) (4, 1) (.cells 31 [(.int .i64 a1_0), (.tree (.pair .int (.pair .int (.pair .int .int))) a1_1), (.tree .int a1_2)]) (by kernel_rfl) ?_
  refine rs1 (.box (6, 2) 0) (6, 2) (.cells 31 [(.int .i64 0), .nils, .nils]) (by kernel_rfl) ?_
  refine rs0 (.bool false) (by kernel_rfl) ?_
  refine rnil (tn_ ?_)
  refine awp_seq_ ?_
  refine awp_seq_ ?_
  obtain ⟨y4, h4, h⟩ := ob_some h
  refine awp_region_ 9 (by kernel_rfl) ?_
  refine rs0 (.int .i64 a0) (by kernel_rfl) ?_
  refine rsl (.agg [(.int .i64 a1_0), (.tree (.pair .int (.pair .int (.pair .int .int))) a1_1), (.tree .int a1_2)]) (by kernel_rfl) ?_
  refine rs0 (.int .i64 a2) (by kernel_rfl) ?_
  refine rcall (.bool y4) [] [(.int .i64 a0), (.agg [(.int .i64 a1_0), (.tree (.pair .int (.pair .int (.pair .int .int))) a1_1), (.tree .int a1_2)]), (.int .i64 a2)] _ (caps := []) (args0 := [(.int .i64 a0), (.agg [(.int .i64 a1_0), (.tree (.pair .int (.pair .int (.pair .int .int))) a1_1), (.tree .int a1_2)]), (.int .i64 a2)]) trivial (by kernel_rfl) (by kernel_rfl) (by kernel_rfl) (by kernel_rfl) (ok_spec_opGate h4) hb_spec_opGate (by kernel_rfl) ?_
  refine rs0 (.bool (!y4)) (by kernel_rfl) ?_
  refine rnil (tn_ ?_)
  rcases cond_some h with ⟨q5, h⟩ | ⟨q5, h⟩
  · refine awp_condT_ q5 (by kernel_rfl) ?_
    refine awp_seq_ ?_
    refine awp_region_ 12 (by kernel_rfl) ?_
    refine rs0 (.agg [(.int .i64 0), .nils, .nils]) (by kernel_rfl) ?_
    refine rsn2 (6, 2) (6, 2) (.cells 31 [(.int .i64 0), .nils, .nils]) (by kernel_rfl) ?_
    refine rs0 (.bool false) (by kernel_rfl) ?_
    refine rnil (tn_ ?_)
    refine awp_ret_ (tr_ ?_)
    obtain rfl := Option.some.inj h
    exact ret_ [(.agg [(.int .i64 0), .nils, .nils]), (.bool false)] (by simp) (by kernel_rfl) (p_agg (l_cons (l_sc (by kernel_rfl)) (l_cons (l_nils rfl) (l_cons (l_nils rfl) l_nil))) (p_one rfl (l_sc (by kernel_rfl)) p_nil)) (by kernel_rfl) (by kernel_rfl)
  · refine awp_condF_ q5 (by kernel_rfl) ?_
    refine awp_skip_ (tn_ ?_)
    refine awp_seq_ ?_
    obtain ⟨x8, f8, h⟩ := ob_some h
    obtain ⟨p8, b8, e8⟩ := getI_some f8
    refine awp_region_ 16 (by kernel_rfl) ?_
    refine rs0 (.box (4, 1) 1) (by kernel_rfl) ?_
    refine rsl (.tree (.pair .int (.pair .int (.pair .int .int))) a1_1) (by kernel_rfl) ?_
    refine rs0 (.int .i64 a2) (by kernel_rfl) ?_
    refine rs0 (.telt (.pair .int (.pair .int (.pair .int .int))) x8 0) (s_idxT (t := (.pair .int (.pair .int (.pair .int .int)))) (xs := a1_1) (k := .i64) (m := a2) (by kernel_rfl) (by kernel_rfl) rfl p8 rfl e8) ?_
    refine rs0 (.agg [(.int .i64 x8.1), (.int .i64 x8.2.1), (.int .i64 x8.2.2.1), (.int .i64 x8.2.2.2)]) (by kernel_rfl) ?_
    refine rs1 (.box (8, 14) 0) (8, 14) (.cells 51 [(.int .i64 0), (.int .i64 0), (.int .i64 0), (.int .i64 0)]) (by kernel_rfl) ?_
    refine rsn2 (8, 14) (8, 14) (.cells 51 [(.int .i64 x8.1), (.int .i64 x8.2.1), (.int .i64 x8.2.2.1), (.int .i64 x8.2.2.2)]) (by kernel_rfl) ?_
    refine rnil (tn_ ?_)
    refine awp_seq_ ?_
    obtain ⟨y10, h10, h⟩ := ob_some h
    refine awp_region_ 23 (by kernel_rfl) ?_
    refine rsl (.agg [(.int .i64 x8.1), (.int .i64 x8.2.1), (.int .i64 x8.2.2.1), (.int .i64 x8.2.2.2)]) (by kernel_rfl) ?_
    refine rcall (.tup [(.int .i64 y10.1), (.bool y10.2)]) [] [(.agg [(.int .i64 x8.1), (.int .i64 x8.2.1), (.int .i64 x8.2.2.1), (.int .i64 x8.2.2.2)])] _ (caps := []) (args0 := [(.agg [(.int .i64 x8.1), (.int .i64 x8.2.1), (.int .i64 x8.2.2.1), (.int .i64 x8.2.2.2)])]) trivial (by kernel_rfl) (by kernel_rfl) (by kernel_rfl) (by kernel_rfl) (ok_spec_opCombines h10) hb_spec_opCombines (by kernel_rfl) ?_
    refine rs0 (.tup [(.int .i64 y10.1), (.bool y10.2)]) (by kernel_rfl) ?_
    refine rs0 (.int .i64 y10.1) (by kernel_rfl) ?_
    refine rs0 (.bool y10.2) (by kernel_rfl) ?_
    refine rs0 (.int .i64 y10.1) (by kernel_rfl) ?_
    refine rs0 (.bool y10.2) (by kernel_rfl) ?_
    refine rnil (tn_ ?_)
    refine awp_seq_ ?_
    refine awp_seqB h (fun (l12_m54 : Bool) S_ => S_ = ⟨mkTm [(0, (.int .i64 a0)), (2, (.int .i64 a2)), (4, (.box (0, 1) 0)), (6, (.box (1, 1) 0)), (8, (.box (2, 1) 0)), (9, (.int .i64 y10.1)), (54, (.bool l12_m54))], mkOb (someL [((0, 1), .cells 31 [(.int .i64 a1_0), (.tree (.pair .int (.pair .int (.pair .int .int))) a1_1), (.tree .int a1_2)]), ((1, 1), .cells 31 [(.int .i64 0), .nils, .nils]), ((2, 1), .cells 51 [(.int .i64 x8.1), (.int .i64 x8.2.1), (.int .i64 x8.2.2.1), (.int .i64 x8.2.2.2)])]), 2⟩) ?_ ?_
    · intro v_ h
      rcases cond_some h with ⟨q13, h⟩ | ⟨q13, h⟩
      · refine awp_region_ 49 (by kernel_rfl) ?_
        refine rs0 (.bool y10.2) (by kernel_rfl) ?_
        refine rs0 (.bool (!y10.2)) (by kernel_rfl) ?_
        refine rs0 (.bool (!y10.2)) (by kernel_rfl) ?_
        refine rs0 (.tup []) (s_skip (by kernel_rfl) q13) ?_
        refine rs0 (.tup []) (s_skip (by kernel_rfl) q13) ?_
        refine rs0 (.tup []) (s_skip (by kernel_rfl) q13) ?_
        refine rs0 (.tup []) (s_skip (by kernel_rfl) q13) ?_
        refine rs0 (.tup []) (s_skip (by kernel_rfl) q13) ?_
        refine rs0 (.tup []) (s_skip (by kernel_rfl) q13) ?_
        refine rs0 (.tup []) (s_skip (by kernel_rfl) q13) ?_
        refine rs0 (.tup []) (s_skip (by kernel_rfl) q13) ?_
        refine rs0 (.bool true) (s_pickT (by kernel_rfl) q13) ?_
        refine rs0 (.bool true) (by kernel_rfl) ?_
        refine rs0 (.tup []) (by kernel_rfl) ?_
        refine rs0 (.tup []) (by kernel_rfl) ?_
        refine rs0 (.tup []) (by kernel_rfl) ?_
        refine rs0 (.tup []) (s_skipU (by kernel_rfl)) ?_
        refine rs0 (.tup []) (s_skipU (by kernel_rfl)) ?_
        refine rs0 (.tup []) (s_skipU (by kernel_rfl)) ?_
        refine rs0 (.tup []) (s_skipU (by kernel_rfl)) ?_
        refine rs0 (.tup []) (s_skipU (by kernel_rfl)) ?_
        refine rs0 (.tup []) (s_skipU (by kernel_rfl)) ?_
        refine rs0 (.tup []) (s_skipU (by kernel_rfl)) ?_
        refine rs0 (.tup []) (s_skipU (by kernel_rfl)) ?_
        refine rs0 (.tup []) (by kernel_rfl) ?_
        refine rs0 (.bool true) (by kernel_rfl) ?_
        refine rnil (tn_ ?_)
        obtain rfl := Option.some.inj h
        exact ⟨_, (weak_ren (renF [((0, 1), (4, 1)), ((1, 1), (6, 2)), ((2, 1), (8, 14))]) (by kernel_rfl) (by kernel_rfl) (by kernel_rfl)), rfl⟩
      · obtain ⟨x14, f14, h⟩ := ob_some h
        obtain ⟨p14, b14, e14⟩ := getI_some f14
        rcases cond_some h with ⟨q15, h⟩ | ⟨q15, h⟩
        · refine awp_region_ 49 (by kernel_rfl) ?_
          refine rs0 (.bool y10.2) (by kernel_rfl) ?_
          refine rs0 (.bool (!y10.2)) (by kernel_rfl) ?_
          refine rs0 (.bool (!y10.2)) (by kernel_rfl) ?_
          refine rs0 (.box (4, 1) 1) (s_gd (by kernel_rfl) q13 (by kernel_rfl)) ?_
          refine rsl (.tree (.pair .int (.pair .int (.pair .int .int))) a1_1) (s_gd (by kernel_rfl) q13 (by kernel_rfl)) ?_
          refine rs0 (.box (8, 14) 1) (s_gd (by kernel_rfl) q13 (by kernel_rfl)) ?_
          refine rsl (.int .i64 x8.2.1) (s_gd (by kernel_rfl) q13 (by kernel_rfl)) ?_
          refine rs0 (.telt (.pair .int (.pair .int (.pair .int .int))) x14 0) (s_gd (by kernel_rfl) q13 (s_idxT (t := (.pair .int (.pair .int (.pair .int .int)))) (xs := a1_1) (k := .i64) (m := x8.2.1) (by kernel_rfl) (by kernel_rfl) rfl p14 rfl e14)) ?_
          refine rs0 (.telt (.pair .int (.pair .int (.pair .int .int))) x14 0) (s_gd (by kernel_rfl) q13 (by kernel_rfl)) ?_
          refine rs0 (.int .i64 x14.1) (s_gd (by kernel_rfl) q13 (by kernel_rfl)) ?_
          refine rs0 (.bool (x14.1 != 5)) (s_gd (by kernel_rfl) q13 (by kernel_rfl)) ?_
          refine rs0 (.bool (x14.1 != 5)) (s_pickF (by kernel_rfl) q13) ?_
          refine rs0 (.bool (x14.1 != 5)) (by kernel_rfl) ?_
          refine rs0 (.tup []) (s_skip (by kernel_rfl) q15) ?_
          refine rs0 (.tup []) (s_skip (by kernel_rfl) q15) ?_
          refine rs0 (.tup []) (s_skip (by kernel_rfl) q15) ?_
          refine rs0 (.tup []) (s_skipU (by kernel_rfl)) ?_
          refine rs0 (.tup []) (s_skipU (by kernel_rfl)) ?_
          refine rs0 (.tup []) (s_skipU (by kernel_rfl)) ?_
          refine rs0 (.tup []) (s_skipU (by kernel_rfl)) ?_
          refine rs0 (.tup []) (s_skipU (by kernel_rfl)) ?_
          refine rs0 (.tup []) (s_skipU (by kernel_rfl)) ?_
          refine rs0 (.tup []) (s_skipU (by kernel_rfl)) ?_
          refine rs0 (.tup []) (s_skipU (by kernel_rfl)) ?_
          refine rs0 (.tup []) (s_skip (by kernel_rfl) q15) ?_
          refine rs0 (.bool true) (s_pickT (by kernel_rfl) q15) ?_
          refine rnil (tn_ ?_)
          obtain rfl := Option.some.inj h
          exact ⟨_, (weak_ren (renF [((0, 1), (4, 1)), ((1, 1), (6, 2)), ((2, 1), (8, 14))]) (by kernel_rfl) (by kernel_rfl) (by kernel_rfl)), rfl⟩
        · rcases cond_some h with ⟨q16, h⟩ | ⟨q16, h⟩
          · obtain ⟨x17, f17, h⟩ := ob_some h
            obtain ⟨p17, b17, e17⟩ := getI_some f17
            refine awp_region_ 49 (by kernel_rfl) ?_
            refine rs0 (.bool y10.2) (by kernel_rfl) ?_
            refine rs0 (.bool (!y10.2)) (by kernel_rfl) ?_
            refine rs0 (.bool (!y10.2)) (by kernel_rfl) ?_
            refine rs0 (.box (4, 1) 1) (s_gd (by kernel_rfl) q13 (by kernel_rfl)) ?_
            refine rsl (.tree (.pair .int (.pair .int (.pair .int .int))) a1_1) (s_gd (by kernel_rfl) q13 (by kernel_rfl)) ?_
            refine rs0 (.box (8, 14) 1) (s_gd (by kernel_rfl) q13 (by kernel_rfl)) ?_
            refine rsl (.int .i64 x8.2.1) (s_gd (by kernel_rfl) q13 (by kernel_rfl)) ?_
            refine rs0 (.telt (.pair .int (.pair .int (.pair .int .int))) x14 0) (s_gd (by kernel_rfl) q13 (s_idxT (t := (.pair .int (.pair .int (.pair .int .int)))) (xs := a1_1) (k := .i64) (m := x8.2.1) (by kernel_rfl) (by kernel_rfl) rfl p14 rfl e14)) ?_
            refine rs0 (.telt (.pair .int (.pair .int (.pair .int .int))) x14 0) (s_gd (by kernel_rfl) q13 (by kernel_rfl)) ?_
            refine rs0 (.int .i64 x14.1) (s_gd (by kernel_rfl) q13 (by kernel_rfl)) ?_
            refine rs0 (.bool (x14.1 != 5)) (s_gd (by kernel_rfl) q13 (by kernel_rfl)) ?_
            refine rs0 (.bool (x14.1 != 5)) (s_pickF (by kernel_rfl) q13) ?_
            refine rs0 (.bool (x14.1 != 5)) (by kernel_rfl) ?_
            refine rs0 (.int .i64 y10.1) (s_gd (by kernel_rfl) q15 (by kernel_rfl)) ?_
            refine rs0 (.bool (y10.1 == 2)) (s_gd (by kernel_rfl) q15 (by kernel_rfl)) ?_
            refine rs0 (.bool (y10.1 == 2)) (s_gd (by kernel_rfl) q15 (by kernel_rfl)) ?_
            refine rs0 (.box (4, 1) 1) (s_gd (by kernel_rfl) q16 (by kernel_rfl)) ?_
            refine rsl (.tree (.pair .int (.pair .int (.pair .int .int))) a1_1) (s_gd (by kernel_rfl) q16 (by kernel_rfl)) ?_
            refine rs0 (.box (8, 14) 2) (s_gd (by kernel_rfl) q16 (by kernel_rfl)) ?_
            refine rsl (.int .i64 x8.2.2.1) (s_gd (by kernel_rfl) q16 (by kernel_rfl)) ?_
            refine rs0 (.telt (.pair .int (.pair .int (.pair .int .int))) x17 0) (s_gd (by kernel_rfl) q16 (s_idxT (t := (.pair .int (.pair .int (.pair .int .int)))) (xs := a1_1) (k := .i64) (m := x8.2.2.1) (by kernel_rfl) (by kernel_rfl) rfl p17 rfl e17)) ?_
            refine rs0 (.telt (.pair .int (.pair .int (.pair .int .int))) x17 0) (s_gd (by kernel_rfl) q16 (by kernel_rfl)) ?_
            refine rs0 (.int .i64 x17.1) (s_gd (by kernel_rfl) q16 (by kernel_rfl)) ?_
            refine rs0 (.bool (x17.1 != 5)) (s_gd (by kernel_rfl) q16 (by kernel_rfl)) ?_
            refine rs0 (.bool (x17.1 != 5)) (s_gd (by kernel_rfl) q15 (s_pickT (by kernel_rfl) q16)) ?_
            refine rs0 (.bool (x17.1 != 5)) (s_pickF (by kernel_rfl) q15) ?_
            refine rnil (tn_ ?_)
            obtain rfl := Option.some.inj h
            exact ⟨_, (weak_ren (renF [((0, 1), (4, 1)), ((1, 1), (6, 2)), ((2, 1), (8, 14))]) (by kernel_rfl) (by kernel_rfl) (by kernel_rfl)), rfl⟩
          · refine awp_region_ 49 (by kernel_rfl) ?_
            refine rs0 (.bool y10.2) (by kernel_rfl) ?_
            refine rs0 (.bool (!y10.2)) (by kernel_rfl) ?_
            refine rs0 (.bool (!y10.2)) (by kernel_rfl) ?_
            refine rs0 (.box (4, 1) 1) (s_gd (by kernel_rfl) q13 (by kernel_rfl)) ?_
            refine rsl (.tree (.pair .int (.pair .int (.pair .int .int))) a1_1) (s_gd (by kernel_rfl) q13 (by kernel_rfl)) ?_
            refine rs0 (.box (8, 14) 1) (s_gd (by kernel_rfl) q13 (by kernel_rfl)) ?_
            refine rsl (.int .i64 x8.2.1) (s_gd (by kernel_rfl) q13 (by kernel_rfl)) ?_
            refine rs0 (.telt (.pair .int (.pair .int (.pair .int .int))) x14 0) (s_gd (by kernel_rfl) q13 (s_idxT (t := (.pair .int (.pair .int (.pair .int .int)))) (xs := a1_1) (k := .i64) (m := x8.2.1) (by kernel_rfl) (by kernel_rfl) rfl p14 rfl e14)) ?_
            refine rs0 (.telt (.pair .int (.pair .int (.pair .int .int))) x14 0) (s_gd (by kernel_rfl) q13 (by kernel_rfl)) ?_
            refine rs0 (.int .i64 x14.1) (s_gd (by kernel_rfl) q13 (by kernel_rfl)) ?_
            refine rs0 (.bool (x14.1 != 5)) (s_gd (by kernel_rfl) q13 (by kernel_rfl)) ?_
            refine rs0 (.bool (x14.1 != 5)) (s_pickF (by kernel_rfl) q13) ?_
            refine rs0 (.bool (x14.1 != 5)) (by kernel_rfl) ?_
            refine rs0 (.int .i64 y10.1) (s_gd (by kernel_rfl) q15 (by kernel_rfl)) ?_
            refine rs0 (.bool (y10.1 == 2)) (s_gd (by kernel_rfl) q15 (by kernel_rfl)) ?_
            refine rs0 (.bool (y10.1 == 2)) (s_gd (by kernel_rfl) q15 (by kernel_rfl)) ?_
            refine rs0 (.tup []) (s_skip (by kernel_rfl) q16) ?_
            refine rs0 (.tup []) (s_skip (by kernel_rfl) q16) ?_
            refine rs0 (.tup []) (s_skip (by kernel_rfl) q16) ?_
            refine rs0 (.tup []) (s_skip (by kernel_rfl) q16) ?_
            refine rs0 (.tup []) (s_skip (by kernel_rfl) q16) ?_
            refine rs0 (.tup []) (s_skip (by kernel_rfl) q16) ?_
            refine rs0 (.tup []) (s_skip (by kernel_rfl) q16) ?_
            refine rs0 (.tup []) (s_skip (by kernel_rfl) q16) ?_
            refine rs0 (.bool false) (s_gd (by kernel_rfl) q15 (s_pickF (by kernel_rfl) q16)) ?_
            refine rs0 (.bool false) (s_pickF (by kernel_rfl) q15) ?_
            refine rnil (tn_ ?_)
            obtain rfl := Option.some.inj h
            exact ⟨_, (weak_ren (renF [((0, 1), (4, 1)), ((1, 1), (6, 2)), ((2, 1), (8, 14))]) (by kernel_rfl) (by kernel_rfl) (by kernel_rfl)), rfl⟩
    · rintro l12_m54 _ rfl h
      (try dsimp only at h)
      rcases cond_some h with ⟨q18, h⟩ | ⟨q18, h⟩
      · refine awp_condT_ q18 (by kernel_rfl) ?_
        refine awp_seq_ ?_
        refine awp_region_ 5 (by kernel_rfl) ?_
        refine rs0 (.agg [(.int .i64 0), .nils, .nils]) (by kernel_rfl) ?_
        refine rsn2 (1, 1) (1, 1) (.cells 31 [(.int .i64 0), .nils, .nils]) (by kernel_rfl) ?_
        refine rs0 (.bool false) (by kernel_rfl) ?_
        refine rnil (tn_ ?_)
        refine awp_ret_ (tr_ ?_)
        obtain rfl := Option.some.inj h
        exact ret_ [(.agg [(.int .i64 0), .nils, .nils]), (.bool false)] (by simp) (by kernel_rfl) (p_agg (l_cons (l_sc (by kernel_rfl)) (l_cons (l_nils rfl) (l_cons (l_nils rfl) l_nil))) (p_one rfl (l_sc (by kernel_rfl)) p_nil)) (by kernel_rfl) (by kernel_rfl)
      · refine awp_condF_ q18 (by kernel_rfl) ?_
        refine awp_skip_ (tn_ ?_)
        refine awp_seq_ ?_
        obtain ⟨y21, h21, h⟩ := ob_some h
        refine awp_region_ 6 (by kernel_rfl) ?_
        refine rsl (.agg [(.int .i64 a1_0), (.tree (.pair .int (.pair .int (.pair .int .int))) a1_1), (.tree .int a1_2)]) (by kernel_rfl) ?_
        refine rcall (.agg [(.int .i64 y21.1), (.own (912, 3) (.pair .int (.pair .int (.pair .int .int))) 0 y21.2.1.length), (.own (913, 3) .int 0 y21.2.2.length)]) [((912, 3), some (.arr 51 (.pair .int (.pair .int (.pair .int .int))) y21.2.1)), ((913, 3), some (.arr 3 .int y21.2.2))] [(.agg [(.int .i64 a1_0), (.tree (.pair .int (.pair .int (.pair .int .int))) a1_1), (.tree .int a1_2)])] _ (caps := []) (args0 := [(.agg [(.int .i64 a1_0), (.tree (.pair .int (.pair .int (.pair .int .int))) a1_1), (.tree .int a1_2)])]) trivial (by kernel_rfl) (by kernel_rfl) (by kernel_rfl) (by kernel_rfl) (ok_spec_opOwn h21) hb_spec_opOwn (by kernel_rfl) ?_
        refine rs1 (.box (11, 4) 0) (11, 4) (.cells 31 [(.int .i64 0), .nils, .nils]) (by kernel_rfl) ?_
        refine rsn2 (11, 4) (11, 4) (.cells 31 [(.int .i64 y21.1), (.own (912, 3) (.pair .int (.pair .int (.pair .int .int))) 0 y21.2.1.length), (.own (913, 3) .int 0 y21.2.2.length)]) (by kernel_rfl) ?_
        refine rnil (tn_ ?_)
        refine awp_seq_ ?_
        obtain ⟨x23, f23, h⟩ := ob_some h
        obtain ⟨p23, b23, e23⟩ := getI_some f23
        refine awp_regionD_ 20 (by kernel_rfl) ?_
        refine ds0 (.box (2, 1) 0) (by kernel_rfl) ?_
        refine dsl (.int .i64 x8.1) (by kernel_rfl) ?_
        refine ds0 (.box (2, 1) 3) (by kernel_rfl) ?_
        refine dsl (.int .i64 x8.2.2.2) (by kernel_rfl) ?_
        refine ds0 (.box (0, 1) 1) (by kernel_rfl) ?_
        refine dsl (.tree (.pair .int (.pair .int (.pair .int .int))) a1_1) (by kernel_rfl) ?_
        refine ds0 (.box (2, 1) 1) (by kernel_rfl) ?_
        refine dsl (.int .i64 x8.2.1) (by kernel_rfl) ?_
        refine ds0 (.telt (.pair .int (.pair .int (.pair .int .int))) x23 0) (s_idxT (t := (.pair .int (.pair .int (.pair .int .int)))) (xs := a1_1) (k := .i64) (m := x8.2.1) (by kernel_rfl) (by kernel_rfl) rfl p23 rfl e23) ?_
        refine ds0 (.telt (.pair .int (.pair .int (.pair .int .int))) x23 1) (by kernel_rfl) ?_
        refine ds0 (.int .i64 x23.2.1) (by kernel_rfl) ?_
        refine ds0 (.agg [(.int .i64 x8.1), (.int .i64 x23.2.1), (.int .i64 0), (.int .i64 x8.2.2.2)]) (by kernel_rfl) ?_
        refine ds1 (.box (12, 18) 0) (12, 18) (.cells 51 [(.int .i64 0), (.int .i64 0), (.int .i64 0), (.int .i64 0)]) (by kernel_rfl) ?_
        refine dsn2 (12, 18) (12, 18) (.cells 51 [(.int .i64 x8.1), (.int .i64 x23.2.1), (.int .i64 0), (.int .i64 x8.2.2.2)]) (by kernel_rfl) ?_
        refine dnil (by kernel_rfl) (tn_ ?_)
        refine awp_seqB h (fun (l24_m12_2 : Int) S_ => S_ = ⟨mkTm [(0, (.int .i64 a0)), (2, (.int .i64 a2)), (4, (.box (0, 1) 0)), (6, (.box (1, 1) 0)), (11, (.box (2, 1) 0)), (12, (.box (3, 1) 0))], mkOb (someL [((0, 1), .cells 31 [(.int .i64 a1_0), (.tree (.pair .int (.pair .int (.pair .int .int))) a1_1), (.tree .int a1_2)]), ((1, 1), .cells 31 [(.int .i64 0), .nils, .nils]), ((2, 1), .cells 31 [(.int .i64 y21.1), (.own (4, 1) (.pair .int (.pair .int (.pair .int .int))) 0 y21.2.1.length), (.own (5, 1) .int 0 y21.2.2.length)]), ((3, 1), .cells 51 [(.int .i64 x8.1), (.int .i64 x23.2.1), (.int .i64 l24_m12_2), (.int .i64 x8.2.2.2)]), ((4, 1), .arr 51 (.pair .int (.pair .int (.pair .int .int))) y21.2.1), ((5, 1), .arr 3 .int y21.2.2)]), 2⟩) ?_ ?_
        · intro v_ h
          refine awp_seq_ ?_
          refine awp_region_ 22 (by kernel_rfl) ?_
          refine rs0 (.int .i64 y10.1) (by kernel_rfl) ?_
          refine rs0 (.bool (y10.1 == 2)) (by kernel_rfl) ?_
          refine rnil (tn_ ?_)
          rcases cond_some h with ⟨q26, h⟩ | ⟨q26, h⟩
          · refine awp_condT_ q26 (by kernel_rfl) ?_
            obtain ⟨x27, f27, h⟩ := ob_some h
            obtain ⟨p27, b27, e27⟩ := getI_some f27
            refine awp_region_ 31 (by kernel_rfl) ?_
            refine rs0 (.box (0, 1) 1) (by kernel_rfl) ?_
            refine rsl (.tree (.pair .int (.pair .int (.pair .int .int))) a1_1) (by kernel_rfl) ?_
            refine rs0 (.box (2, 1) 2) (by kernel_rfl) ?_
            refine rsl (.int .i64 x8.2.2.1) (by kernel_rfl) ?_
            refine rs0 (.telt (.pair .int (.pair .int (.pair .int .int))) x27 0) (s_idxT (t := (.pair .int (.pair .int (.pair .int .int)))) (xs := a1_1) (k := .i64) (m := x8.2.2.1) (by kernel_rfl) (by kernel_rfl) rfl p27 rfl e27) ?_
            refine rs0 (.telt (.pair .int (.pair .int (.pair .int .int))) x27 1) (by kernel_rfl) ?_
            refine rs0 (.int .i64 x27.2.1) (by kernel_rfl) ?_
            refine rs0 (.box (12, 18) 2) (by kernel_rfl) ?_
            refine rsn2 (12, 18) (12, 18) (.cells 51 [(.int .i64 x8.1), (.int .i64 x23.2.1), (.int .i64 x27.2.1), (.int .i64 x8.2.2.2)]) (by kernel_rfl) ?_
            refine rnil (tn_ ?_)
            obtain rfl := Option.some.inj h
            exact ⟨_, (weak_ren (renF [((2, 1), (11, 4)), ((4, 1), (912, 3)), ((5, 1), (913, 3)), ((3, 1), (12, 18))]) (by kernel_rfl) (by kernel_rfl) (by kernel_rfl)), rfl⟩
          · refine awp_condF_ q26 (by kernel_rfl) ?_
            refine awp_skip_ (tn_ ?_)
            obtain rfl := Option.some.inj h
            exact ⟨_, (weak_ren (renF [((2, 1), (11, 4)), ((4, 1), (912, 3)), ((5, 1), (913, 3)), ((3, 1), (12, 18))]) (by kernel_rfl) (by kernel_rfl) (by kernel_rfl)), rfl⟩
        · rintro l24_m12_2 _ rfl h
          (try dsimp only at h)
          refine awp_seq_ ?_
          obtain ⟨x29, f29, h⟩ := ob_some h
          obtain ⟨p29, b29, e29⟩ := getI_some f29
          refine awp_region_ 11 (by kernel_rfl) ?_
          refine rs0 (.box (2, 1) 1) (by kernel_rfl) ?_
          refine rsl (.own (4, 1) (.pair .int (.pair .int (.pair .int .int))) 0 y21.2.1.length) (by kernel_rfl) ?_
          refine rs0 (.int .i64 a2) (by kernel_rfl) ?_
          refine rs0 (.box (0, 1) 1) (by kernel_rfl) ?_
          refine rsl (.tree (.pair .int (.pair .int (.pair .int .int))) a1_1) (by kernel_rfl) ?_
          refine rs0 (.int .i64 ((a1_1.length : Nat) : Int)) (by kernel_rfl) ?_
          refine rs0 (.agg [(.int .i64 5), (.int .i64 ((a1_1.length : Nat) : Int)), (.int .i64 0), (.int .i64 0)]) (by kernel_rfl) ?_
          refine rs0 (.elt (4, 1) a2.toNat 0) (s_idxO (t := (.pair .int (.pair .int (.pair .int .int)))) (o := (4, 1)) (len := y21.2.1.length) (k := .i64) (m := a2) (by kernel_rfl) (by kernel_rfl) rfl p29 rfl (getN_lt e29)) ?_
          refine rsn2 (4, 1) (4, 1) (.arr 51 (.pair .int (.pair .int (.pair .int .int))) (y21.2.1.set a2.toNat (5, ((a1_1.length : Nat) : Int), 0, 0))) (s_stE (i := (4, 1)) (j := a2.toNat) (k := 0) (e := 51) (t := (.pair .int (.pair .int (.pair .int .int)))) (xs := y21.2.1) (cs := [(.int .i64 5), (.int .i64 ((a1_1.length : Nat) : Int)), (.int .i64 0), (.int .i64 0)]) (x1 := (5, ((a1_1.length : Nat) : Int), 0, 0)) (by kernel_rfl) (by kernel_rfl) e29 (by kernel_rfl) (by kernel_rfl)) ?_
          refine rnil (tn_ ?_)
          refine awp_seq_ ?_
          obtain ⟨g31, h⟩ := og_some h
          refine awp_region_ 18 (by kernel_rfl) ?_
          refine rs0 (.box (2, 1) 1) (by kernel_rfl) ?_
          refine rsl (.own (4, 1) (.pair .int (.pair .int (.pair .int .int))) 0 y21.2.1.length) (by kernel_rfl) ?_
          refine rsl (.agg [(.int .i64 x8.1), (.int .i64 x23.2.1), (.int .i64 l24_m12_2), (.int .i64 x8.2.2.2)]) (by kernel_rfl) ?_
          refine rs1 (.own (91, 14) (.pair .int (.pair .int (.pair .int .int))) 0 1) (91, 14) (.arr 51 (.pair .int (.pair .int (.pair .int .int))) ([(x8.1, x23.2.1, l24_m12_2, x8.2.2.2)])) (by kernel_rfl) ?_
          refine rs2 (.own (4, 15) (.pair .int (.pair .int (.pair .int .int))) 0 (((y21.2.1.set a2.toNat (5, ((a1_1.length : Nat) : Int), 0, 0)) ++ ([(x8.1, x23.2.1, l24_m12_2, x8.2.2.2)])).length)) (4, 1) (4, 15) (.arr 51 (.pair .int (.pair .int (.pair .int .int))) ((y21.2.1.set a2.toNat (5, ((a1_1.length : Nat) : Int), 0, 0)) ++ ([(x8.1, x23.2.1, l24_m12_2, x8.2.2.2)]))) (s_appO (t := (.pair .int (.pair .int (.pair .int .int)))) (t' := (.pair .int (.pair .int (.pair .int .int)))) (xs := y21.2.1.set a2.toNat (5, ((a1_1.length : Nat) : Int), 0, 0)) (ys := [(x8.1, x23.2.1, l24_m12_2, x8.2.2.2)]) (zs := (y21.2.1.set a2.toNat (5, ((a1_1.length : Nat) : Int), 0, 0)) ++ ([(x8.1, x23.2.1, l24_m12_2, x8.2.2.2)])) (j := (4, 1)) (len := y21.2.1.length) (c := (.own (91, 14) (.pair .int (.pair .int (.pair .int .int))) 0 1)) (by kernel_rfl) (by kernel_rfl) ((rfl : y21.2.1.length = y21.2.1.length).trans List.length_set.symm) (by kernel_rfl) (sr_own (e := 51) (by kernel_rfl) rfl) rfl g31) ?_
          refine rs0 (.box (2, 1) 1) (by kernel_rfl) ?_
          refine rsn2 (2, 1) (2, 1) (.cells 31 [(.int .i64 y21.1), (.own (4, 15) (.pair .int (.pair .int (.pair .int .int))) 0 (((y21.2.1.set a2.toNat (5, ((a1_1.length : Nat) : Int), 0, 0)) ++ ([(x8.1, x23.2.1, l24_m12_2, x8.2.2.2)])).length)), (.own (5, 1) .int 0 y21.2.2.length)]) (by kernel_rfl) ?_
          refine rnil (tn_ ?_)
          refine awp_seqB h (fun t_ S_ => ∃ (l32_m7 : Bool), ∃ (l32_m6_0 : Int), ∃ (l32_m6_1 : List (Int × Int × Int × Int)), ∃ (l32_m6_2 : List Int), t_ = (l32_m7, l32_m6_0, l32_m6_1, l32_m6_2) ∧ S_ = ⟨mkTm [(6, (.box (0, 1) 0)), (7, (.bool l32_m7))], mkOb (someL [((0, 1), .cells 31 [(.int .i64 l32_m6_0), (.own (1, 1) (.pair .int (.pair .int (.pair .int .int))) 0 l32_m6_1.length), (.own (2, 1) .int 0 l32_m6_2.length)]), ((1, 1), .arr 51 (.pair .int (.pair .int (.pair .int .int))) l32_m6_1), ((2, 1), .arr 3 .int l32_m6_2)]), 2⟩) ?_ ?_
          · intro v_ h
            obtain ⟨y33, h33, h⟩ := ob_some h
            rcases y33 with z33_0 | z33_1
            · (try simp only [Sum.elim_inl, Sum.elim_inr] at h)
              refine awp_region_ 25 (by kernel_rfl) ?_
              refine rs0 (.int .i64 a0) (by kernel_rfl) ?_
              refine rsl (.agg [(.int .i64 y21.1), (.own (4, 15) (.pair .int (.pair .int (.pair .int .int))) 0 (((y21.2.1.set a2.toNat (5, ((a1_1.length : Nat) : Int), 0, 0)) ++ ([(x8.1, x23.2.1, l24_m12_2, x8.2.2.2)])).length)), (.own (5, 1) .int 0 y21.2.2.length)]) (by kernel_rfl) ?_
              refine rcall (.tup [(.agg [(.int .i64 z33_0.1), .nils, .nils]), (.bool z33_0.2)]) [] [(.int .i64 a0), (.agg [(.int .i64 y21.1), (.own (4, 15) (.pair .int (.pair .int (.pair .int .int))) 0 (((y21.2.1.set a2.toNat (5, ((a1_1.length : Nat) : Int), 0, 0)) ++ ([(x8.1, x23.2.1, l24_m12_2, x8.2.2.2)])).length)), (.own (5, 1) .int 0 y21.2.2.length)])] _ (caps := []) (args0 := [(.int .i64 a0), (.agg [(.int .i64 y21.1), (.tree (.pair .int (.pair .int (.pair .int .int))) ((y21.2.1.set a2.toNat (5, ((a1_1.length : Nat) : Int), 0, 0)) ++ ([(x8.1, x23.2.1, l24_m12_2, x8.2.2.2)]))), (.tree .int y21.2.2)])]) trivial (by kernel_rfl) (by kernel_rfl) (gm_cons (by kernel_rfl) (gm_cons (gd_agg (gm_cons (by kernel_rfl) (gm_cons (gd_own (e := 51) (by kernel_rfl) rfl) (gm_cons (gd_own (e := 3) (by kernel_rfl) rfl) gm_nil)))) gm_nil)) (by kernel_rfl) (ok_spec_crIf h33) hb_spec_crIf (by kernel_rfl) ?_
              refine rs0 (.agg [(.int .i64 z33_0.1), .nils, .nils]) (by kernel_rfl) ?_
              refine rs0 (.bool z33_0.2) (by kernel_rfl) ?_
              refine rsn2 (1, 1) (1, 1) (.cells 31 [(.int .i64 z33_0.1), .nils, .nils]) (by kernel_rfl) ?_
              refine rs0 (.bool z33_0.2) (by kernel_rfl) ?_
              refine rnil (tn_ ?_)
              obtain rfl := Option.some.inj h
              exact ⟨_, ((weak_nil_cell_ 9000 (1, 1) 1 31 [(.int .i64 z33_0.1), .nils, .nils] [(.int .i64 z33_0.1), (.own (9000, 25) (.pair .int (.pair .int (.pair .int .int))) 0 0), .nils] 51 (.pair .int (.pair .int (.pair .int .int))) rfl (by kernel_rfl) (by kernel_rfl) (by kernel_rfl)).trans ((weak_nil_cell_ 9001 (1, 1) 2 31 [(.int .i64 z33_0.1), (.own (9000, 25) (.pair .int (.pair .int (.pair .int .int))) 0 0), .nils] [(.int .i64 z33_0.1), (.own (9000, 25) (.pair .int (.pair .int (.pair .int .int))) 0 0), (.own (9001, 26) .int 0 0)] 3 .int rfl (by kernel_rfl) (by kernel_rfl) (by kernel_rfl)).trans (weak_ren (renF [((0, 1), (1, 1)), ((1, 1), (9000, 25)), ((2, 1), (9001, 26))]) (by kernel_rfl) (by kernel_rfl) (by kernel_rfl)))), ⟨z33_0.2, z33_0.1, [], [], rfl, rfl⟩⟩
            · (try simp only [Sum.elim_inl, Sum.elim_inr] at h)
              refine awp_region_ 25 (by kernel_rfl) ?_
              refine rs0 (.int .i64 a0) (by kernel_rfl) ?_
              refine rsl (.agg [(.int .i64 y21.1), (.own (4, 15) (.pair .int (.pair .int (.pair .int .int))) 0 (((y21.2.1.set a2.toNat (5, ((a1_1.length : Nat) : Int), 0, 0)) ++ ([(x8.1, x23.2.1, l24_m12_2, x8.2.2.2)])).length)), (.own (5, 1) .int 0 y21.2.2.length)]) (by kernel_rfl) ?_
              refine rcall (.tup [(.agg [(.int .i64 z33_1.1), (.own (4, 15) (.pair .int (.pair .int (.pair .int .int))) 0 (((y21.2.1.set a2.toNat (5, ((a1_1.length : Nat) : Int), 0, 0)) ++ ([(x8.1, x23.2.1, l24_m12_2, x8.2.2.2)])).length)), (.own (5, 1) .int 0 y21.2.2.length)]), (.bool z33_1.2)]) [] [(.int .i64 a0), (.agg [(.int .i64 y21.1), (.own (4, 15) (.pair .int (.pair .int (.pair .int .int))) 0 (((y21.2.1.set a2.toNat (5, ((a1_1.length : Nat) : Int), 0, 0)) ++ ([(x8.1, x23.2.1, l24_m12_2, x8.2.2.2)])).length)), (.own (5, 1) .int 0 y21.2.2.length)])] _ (caps := []) (args0 := [(.int .i64 a0), (.agg [(.int .i64 y21.1), (.tree (.pair .int (.pair .int (.pair .int .int))) ((y21.2.1.set a2.toNat (5, ((a1_1.length : Nat) : Int), 0, 0)) ++ ([(x8.1, x23.2.1, l24_m12_2, x8.2.2.2)]))), (.tree .int y21.2.2)])]) trivial (by kernel_rfl) (by kernel_rfl) (gm_cons (by kernel_rfl) (gm_cons (gd_agg (gm_cons (by kernel_rfl) (gm_cons (gd_own (e := 51) (by kernel_rfl) rfl) (gm_cons (gd_own (e := 3) (by kernel_rfl) rfl) gm_nil)))) gm_nil)) (by kernel_rfl) (ok_spec_crIf h33) hb_spec_crIf (by kernel_rfl) ?_
              refine rs0 (.agg [(.int .i64 z33_1.1), (.own (4, 15) (.pair .int (.pair .int (.pair .int .int))) 0 (((y21.2.1.set a2.toNat (5, ((a1_1.length : Nat) : Int), 0, 0)) ++ ([(x8.1, x23.2.1, l24_m12_2, x8.2.2.2)])).length)), (.own (5, 1) .int 0 y21.2.2.length)]) (by kernel_rfl) ?_
              refine rs0 (.bool z33_1.2) (by kernel_rfl) ?_
              refine rsn2 (1, 1) (1, 1) (.cells 31 [(.int .i64 z33_1.1), (.own (4, 15) (.pair .int (.pair .int (.pair .int .int))) 0 (((y21.2.1.set a2.toNat (5, ((a1_1.length : Nat) : Int), 0, 0)) ++ ([(x8.1, x23.2.1, l24_m12_2, x8.2.2.2)])).length)), (.own (5, 1) .int 0 y21.2.2.length)]) (by kernel_rfl) ?_
              refine rs0 (.bool z33_1.2) (by kernel_rfl) ?_
              refine rnil (tn_ ?_)
              obtain rfl := Option.some.inj h
              exact ⟨_, (weak_ren (renF [((0, 1), (1, 1)), ((1, 1), (4, 15)), ((2, 1), (5, 1))]) (by kernel_rfl) (by kernel_rfl) (by kernel_rfl)), ⟨z33_1.2, z33_1.1, (y21.2.1.set a2.toNat (5, ((a1_1.length : Nat) : Int), 0, 0)) ++ ([(x8.1, x23.2.1, l24_m12_2, x8.2.2.2)]), y21.2.2, rfl, rfl⟩⟩
          · rintro _ _ ⟨l32_m7, l32_m6_0, l32_m6_1, l32_m6_2, rfl, rfl⟩ h
            (try dsimp only at h)
            refine awp_ret_ ?_
            obtain rfl := Option.some.inj h
            exact ret_ [(.agg [(.int .i64 l32_m6_0), (.own (1, 1) (.pair .int (.pair .int (.pair .int .int))) 0 l32_m6_1.length), (.own (2, 1) .int 0 l32_m6_2.length)]), (.bool l32_m7)] (by simp) (by kernel_rfl) (p_agg (l_cons (l_sc (by kernel_rfl)) (l_cons (l_own (by kernel_rfl) rfl) (l_cons (l_own (by kernel_rfl) rfl) l_nil))) (p_one rfl (l_sc (by kernel_rfl)) p_nil)) (by kernel_rfl) (by kernel_rfl)
def m_impl_isWorking : AC :=
  (.seq (.region [⟨(some 1), none, (.i (.box 51 (.tmp 0)))⟩, ⟨(some 2), none, (.i (.mov (.cst (.bool false))))⟩] false [])
  (.seq (.region [⟨(some 3), none, (.i (.fld 0 (.tmp 1)))⟩, ⟨(some 4), none, (.i (.ld true 1 (.tmp 3)))⟩, ⟨(some 5), none, (.i (.bin .eql (.tmp 4) (.cst (.int .i64 3))))⟩, ⟨(some 6), none, (.i (.mov (.tmp 5)))⟩, ⟨(some 7), (some (6, false)), (.i (.fld 0 (.tmp 1)))⟩, ⟨(some 8), (some (6, false)), (.i (.ld true 1 (.tmp 7)))⟩, ⟨(some 9), (some (6, false)), (.i (.bin .eql (.tmp 8) (.cst (.int .i64 4))))⟩, ⟨(some 10), none, (.i (.pick (.tmp 6) (.cst (.bool true)) (.tmp 9)))⟩, ⟨(some 2), none, (.i (.mov (.tmp 10)))⟩] false [])
  .ret))
def r_impl_isWorking : List Res := [.tmp 2]
theorem c_impl_isWorking : compiled Tryd.prog Tryd.f53 = some (m_impl_isWorking, r_impl_isWorking) := by kernel_rfl
theorem hb_impl_isWorking : hasBody Tryd.prog 53 = true := by kernel_rfl
def L_impl_isWorking (a0_0 : Int) (a0_1 : Int) (a0_2 : Int) (a0_3 : Int) : Option Bool :=
  Option.bind (cond (a0_0 == 3)
    (some true)
    (some (a0_0 == 4))) fun l2_m2 =>
some l2_m2
def rv_impl_isWorking (r : Bool) : RV := ⟨false, [(false, [.sc (.bool r)])]⟩
theorem ok_impl_isWorking {a0_0 : Int} {a0_1 : Int} {a0_2 : Int} {a0_3 : Int} {r : Bool} (h : L_impl_isWorking a0_0 a0_1 a0_2 a0_3 = some r) : CallOK Tryd.prog Tab 53 [(.agg [(.int .i64 a0_0), (.int .i64 a0_1), (.int .i64 a0_2), (.int .i64 a0_3)])] (rv_impl_isWorking r) := by
  refine call_of_ (by kernel_rfl) Tryd.func53 c_impl_isWorking (n := 11) (by kernel_rfl) (by simp) (tl := [(0, (.agg [(.int .i64 a0_0), (.int .i64 a0_1), (.int .i64 a0_2), (.int .i64 a0_3)]))]) rfl ?_
  unfold m_impl_isWorking
  unfold L_impl_isWorking at h
  refine awp_seq_ ?_
  refine awp_region_ 3 (by kernel_rfl) ?_
  refine rs1 (.box (1, 1) 0) (1, 1) (.cells 51 [(.int .i64 a0_0), (.int .i64 a0_1), (.int .i64 a0_2), (.int .i64 a0_3)]) (by kernel_rfl) ?_
  refine rs0 (.bool false) (by kernel_rfl) ?_
  refine rnil (tn_ ?_)
  refine awp_seqB h (fun (l2_m2 : Bool) S_ => S_ = ⟨mkTm [(2, (.bool l2_m2))], mkOb (someL []), 2⟩) ?_ ?_
  · intro v_ h
    rcases cond_some h with ⟨q3, h⟩ | ⟨q3, h⟩
    · refine awp_region_ 12 (by kernel_rfl) ?_
      refine rs0 (.box (1, 1) 0) (by kernel_rfl) ?_
      refine rsl (.int .i64 a0_0) (by kernel_rfl) ?_
      refine rs0 (.bool (a0_0 == 3)) (by kernel_rfl) ?_
      refine rs0 (.bool (a0_0 == 3)) (by kernel_rfl) ?_
      refine rs0 (.tup []) (s_skip (by kernel_rfl) q3) ?_
      refine rs0 (.tup []) (s_skip (by kernel_rfl) q3) ?_
      refine rs0 (.tup []) (s_skip (by kernel_rfl) q3) ?_
      refine rs0 (.bool true) (s_pickT (by kernel_rfl) q3) ?_
      refine rs0 (.bool true) (by kernel_rfl) ?_
      refine rnil (tn_ ?_)
      obtain rfl := Option.some.inj h
      exact ⟨_, (weak_ren (renF []) (by kernel_rfl) (by kernel_rfl) (by kernel_rfl)), rfl⟩
    · refine awp_region_ 12 (by kernel_rfl) ?_
      refine rs0 (.box (1, 1) 0) (by kernel_rfl) ?_
      refine rsl (.int .i64 a0_0) (by kernel_rfl) ?_
      refine rs0 (.bool (a0_0 == 3)) (by kernel_rfl) ?_
      refine rs0 (.bool (a0_0 == 3)) (by kernel_rfl) ?_
      refine rs0 (.box (1, 1) 0) (s_gd (by kernel_rfl) q3 (by kernel_rfl)) ?_
      refine rsl (.int .i64 a0_0) (s_gd (by kernel_rfl) q3 (by kernel_rfl)) ?_
      refine rs0 (.bool (a0_0 == 4)) (s_gd (by kernel_rfl) q3 (by kernel_rfl)) ?_
      refine rs0 (.bool (a0_0 == 4)) (s_pickF (by kernel_rfl) q3) ?_
      refine rs0 (.bool (a0_0 == 4)) (by kernel_rfl) ?_
      refine rnil (tn_ ?_)
      obtain rfl := Option.some.inj h
      exact ⟨_, (weak_ren (renF []) (by kernel_rfl) (by kernel_rfl) (by kernel_rfl)), rfl⟩
  · rintro l2_m2 _ rfl h
    (try dsimp only at h)
    refine awp_ret_ ?_
    obtain rfl := Option.some.inj h
    exact ret_ [(.bool l2_m2)] (by simp) (by kernel_rfl) (p_one rfl (l_sc (by kernel_rfl)) p_nil) (by kernel_rfl) (by kernel_rfl)
def m_impl_RetimeGate_1 : AC :=
  (.seq (.region [⟨(some 3), none, (.i (.mov (.cst (.int .i64 0))))⟩] false [])
  (.seq (.region [⟨(some 4), none, (.i (.fld 1 (.tmp 1)))⟩, ⟨(some 5), none, (.i (.ld true 1 (.tmp 4)))⟩, ⟨(some 6), none, (.i (.mov (.tmp 0)))⟩, ⟨(some 7), none, (.i (.idx 4 (.tmp 5) (.tmp 6)))⟩, ⟨(some 8), none, (.i (.fld 1 (.tmp 7)))⟩, ⟨(some 9), none, (.i (.ld true 1 (.tmp 8)))⟩, ⟨(some 3), none, (.i (.mov (.tmp 9)))⟩] false [])
  .ret))
def r_impl_RetimeGate_1 : List Res := [.tmp 3]
theorem c_impl_RetimeGate_1 : compiled Tryd.prog Tryd.f57 = some (m_impl_RetimeGate_1, r_impl_RetimeGate_1) := by kernel_rfl
theorem hb_impl_RetimeGate_1 : hasBody Tryd.prog 57 = true := by kernel_rfl
def L_impl_RetimeGate_1 (a0 : Int) (c0_0 : Int) (c0_1 : List (Int × Int × Int × Int)) (c0_2 : List Int) : Option Int :=
  Option.bind (getI c0_1 a0) fun x3 =>
some x3.2.1
def rv_impl_RetimeGate_1 (r : Int) : RV := ⟨false, [(false, [.sc (.int .i64 r)])]⟩
theorem ok_impl_RetimeGate_1 {a0 : Int} {c0_0 : Int} {c0_1 : List (Int × Int × Int × Int)} {c0_2 : List Int} {r : Int} (h : L_impl_RetimeGate_1 a0 c0_0 c0_1 c0_2 = some r) : CallOK Tryd.prog Tab 57 [(.int .i64 a0), (.ref [(.int .i64 c0_0), (.tree (.pair .int (.pair .int (.pair .int .int))) c0_1), (.tree .int c0_2)])] (rv_impl_RetimeGate_1 r) := by
  refine call_of_ (by kernel_rfl) Tryd.func57 c_impl_RetimeGate_1 (n := 10) (by kernel_rfl) (by simp) (tl := [(0, (.int .i64 a0)), (1, (.ref [(.int .i64 c0_0), (.tree (.pair .int (.pair .int (.pair .int .int))) c0_1), (.tree .int c0_2)]))]) rfl ?_
  unfold m_impl_RetimeGate_1
  unfold L_impl_RetimeGate_1 at h
  refine awp_seq_ ?_
  refine awp_region_ 2 (by kernel_rfl) ?_
  refine rs0 (.int .i64 0) (by kernel_rfl) ?_
  refine rnil (tn_ ?_)
  refine awp_seq_ ?_
  obtain ⟨x3, f3, h⟩ := ob_some h
  obtain ⟨p3, b3, e3⟩ := getI_some f3
  refine awp_region_ 9 (by kernel_rfl) ?_
  refine rs0 (.ref [(.tree (.pair .int (.pair .int (.pair .int .int))) c0_1), (.tree .int c0_2)]) (by kernel_rfl) ?_
  refine rs0 (.tree (.pair .int (.pair .int (.pair .int .int))) c0_1) (by kernel_rfl) ?_
  refine rs0 (.int .i64 a0) (by kernel_rfl) ?_
  refine rs0 (.telt (.pair .int (.pair .int (.pair .int .int))) x3 0) (s_idxT (t := (.pair .int (.pair .int (.pair .int .int)))) (xs := c0_1) (k := .i64) (m := a0) (by kernel_rfl) (by kernel_rfl) rfl p3 rfl e3) ?_
  refine rs0 (.telt (.pair .int (.pair .int (.pair .int .int))) x3 1) (by kernel_rfl) ?_
  refine rs0 (.int .i64 x3.2.1) (by kernel_rfl) ?_
  refine rs0 (.int .i64 x3.2.1) (by kernel_rfl) ?_
  refine rnil (tn_ ?_)
  refine awp_ret_ ?_
  obtain rfl := Option.some.inj h
  exact ret_ [(.int .i64 x3.2.1)] (by simp) (by kernel_rfl) (p_one rfl (l_sc (by kernel_rfl)) p_nil) (by kernel_rfl) (by kernel_rfl)
def m_impl_Gate_withOperands : AC :=
  (.seq (.region [⟨(some 2), none, (.i (.box 51 (.tmp 0)))⟩, ⟨(some 4), none, (.i (.alloc 51 [(.int .i64 0), (.int .i64 0), (.int .i64 0), (.int .i64 0)]))⟩] false [])
  (.seq (.seq (.region [⟨(some 5), none, (.i (.fld 0 (.tmp 2)))⟩, ⟨(some 6), none, (.i (.ld true 1 (.tmp 5)))⟩] false [])
  (.block 0 (.seq (.region [⟨(some 8), none, (.i (.bin .eql (.tmp 6) (.cst (.int .i64 3))))⟩, ⟨(some 7), none, (.i (.mov (.tmp 8)))⟩] false [])
  (.cond (.tmp 7)
    (.region [⟨(some 9), none, (.i (.mov (.tmp 1)))⟩, ⟨(some 10), none, (.i (.fld 1 (.tmp 2)))⟩, ⟨(some 11), none, (.i (.ld true 1 (.tmp 10)))⟩, ⟨(some 12), none, (.call (.tmp 9) [(.tmp 11)] [[]])⟩, ⟨(some 13), none, (.i (.mov (.tmp 1)))⟩, ⟨(some 14), none, (.i (.fld 2 (.tmp 2)))⟩, ⟨(some 15), none, (.i (.ld true 1 (.tmp 14)))⟩, ⟨(some 16), none, (.call (.tmp 13) [(.tmp 15)] [[]])⟩, ⟨(some 17), none, (.i (.fld 1 (.tmp 2)))⟩, ⟨none, none, (.st true 1 (.tmp 17) (.tmp 12))⟩, ⟨(some 18), none, (.i (.fld 2 (.tmp 2)))⟩, ⟨none, none, (.st true 1 (.tmp 18) (.tmp 16))⟩] true [(3, 6)])
    (.seq (.seq (.region [⟨(some 20), none, (.i (.bin .eql (.tmp 6) (.cst (.int .i64 4))))⟩, ⟨(some 19), none, (.i (.mov (.tmp 20)))⟩] false [])
    (.cond (.tmp 19)
      .skip
      (.region [⟨(some 21), none, (.i (.bin .eql (.tmp 6) (.cst (.int .i64 5))))⟩, ⟨(some 19), none, (.i (.mov (.tmp 21)))⟩] false [])))
    (.cond (.tmp 19)
      (.region [⟨(some 22), none, (.i (.mov (.tmp 1)))⟩, ⟨(some 23), none, (.i (.fld 1 (.tmp 2)))⟩, ⟨(some 24), none, (.i (.ld true 1 (.tmp 23)))⟩, ⟨(some 25), none, (.call (.tmp 22) [(.tmp 24)] [[]])⟩, ⟨(some 26), none, (.i (.fld 1 (.tmp 2)))⟩, ⟨none, none, (.st true 1 (.tmp 26) (.tmp 25))⟩] false [])
      .skip))))))
  (.seq (.region [⟨(some 27), none, (.i (.ld false 4 (.tmp 2)))⟩, ⟨none, none, (.st false 4 (.tmp 4) (.tmp 27))⟩] false [])
  .ret)))
def r_impl_Gate_withOperands : List Res := [.cell 4 false 4]
theorem c_impl_Gate_withOperands : compiled Tryd.prog Tryd.f54 = some (m_impl_Gate_withOperands, r_impl_Gate_withOperands) := by kernel_rfl
theorem hb_impl_Gate_withOperands : hasBody Tryd.prog 54 = true := by kernel_rfl
def L_impl_Gate_withOperands_for_impl_RetimeGate_1 (a0_0 : Int) (a0_1 : Int) (a0_2 : Int) (a0_3 : Int) (a1_0_0 : Int) (a1_0_1 : List (Int × Int × Int × Int)) (a1_0_2 : List Int) : Option (Int × Int × Int × Int) :=
  Option.bind (cond (a0_0 == 3)
    (Option.bind (L_impl_RetimeGate_1 a0_1 a1_0_0 a1_0_1 a1_0_2) fun y6 =>
    Option.bind (L_impl_RetimeGate_1 a0_2 a1_0_0 a1_0_1 a1_0_2) fun y7 =>
    some (y6, y7))
    (Option.bind (cond (a0_0 == 4)
        (some (a0_0 == 4))
        (some (a0_0 == 5))) fun l8_m19 =>
    cond l8_m19
      (Option.bind (L_impl_RetimeGate_1 a0_1 a1_0_0 a1_0_1 a1_0_2) fun y12 =>
      some (y12, a0_2))
      (some (a0_1, a0_2)))) fun (l2_m2_1, l2_m2_2) =>
some (a0_0, l2_m2_1, l2_m2_2, a0_3)
def rv_impl_Gate_withOperands_for_impl_RetimeGate_1 (r : Int × Int × Int × Int) : RV := ⟨false, [(true, [.sc (.int .i64 r.1), .sc (.int .i64 r.2.1), .sc (.int .i64 r.2.2.1), .sc (.int .i64 r.2.2.2)])]⟩
theorem ok_impl_Gate_withOperands_for_impl_RetimeGate_1 {a0_0 : Int} {a0_1 : Int} {a0_2 : Int} {a0_3 : Int} {a1_0_0 : Int} {a1_0_1 : List (Int × Int × Int × Int)} {a1_0_2 : List Int} {r : Int × Int × Int × Int} (h : L_impl_Gate_withOperands_for_impl_RetimeGate_1 a0_0 a0_1 a0_2 a0_3 a1_0_0 a1_0_1 a1_0_2 = some r) : CallOK Tryd.prog Tab 54 [(.agg [(.int .i64 a0_0), (.int .i64 a0_1), (.int .i64 a0_2), (.int .i64 a0_3)]), (.fn 57 [(.ref [(.int .i64 a1_0_0), (.tree (.pair .int (.pair .int (.pair .int .int))) a1_0_1), (.tree .int a1_0_2)])])] (rv_impl_Gate_withOperands_for_impl_RetimeGate_1 r) := by
  refine call_of_ (by kernel_rfl) Tryd.func54 c_impl_Gate_withOperands (n := 28) (by kernel_rfl) (by simp) (tl := [(0, (.agg [(.int .i64 a0_0), (.int .i64 a0_1), (.int .i64 a0_2), (.int .i64 a0_3)])), (1, (.fn 57 [(.ref [(.int .i64 a1_0_0), (.tree (.pair .int (.pair .int (.pair .int .int))) a1_0_1), (.tree .int a1_0_2)])]))]) rfl ?_
  unfold m_impl_Gate_withOperands
  unfold L_impl_Gate_withOperands_for_impl_RetimeGate_1 at h
  refine awp_seq_ ?_
  refine awp_region_ 3 (by kernel_rfl) ?_
  refine rs1 (.box (2, 1) 0) (2, 1) (.cells 51 [(.int .i64 a0_0), (.int .i64 a0_1), (.int .i64 a0_2), (.int .i64 a0_3)]) (by kernel_rfl) ?_
  refine rs1 (.box (4, 2) 0) (4, 2) (.cells 51 [(.int .i64 0), (.int .i64 0), (.int .i64 0), (.int .i64 0)]) (by kernel_rfl) ?_
  refine rnil (tn_ ?_)
  refine awp_seqB h (fun t_ S_ => ∃ (l2_m2_1 : Int), ∃ (l2_m2_2 : Int), t_ = (l2_m2_1, l2_m2_2) ∧ S_ = ⟨mkTm [(2, (.box (0, 1) 0)), (4, (.box (1, 1) 0))], mkOb (someL [((0, 1), .cells 51 [(.int .i64 a0_0), (.int .i64 l2_m2_1), (.int .i64 l2_m2_2), (.int .i64 a0_3)]), ((1, 1), .cells 51 [(.int .i64 0), (.int .i64 0), (.int .i64 0), (.int .i64 0)])]), 2⟩) ?_ ?_
  · intro v_ h
    refine awp_seq_ ?_
    refine awp_region_ 5 (by kernel_rfl) ?_
    refine rs0 (.box (2, 1) 0) (by kernel_rfl) ?_
    refine rsl (.int .i64 a0_0) (by kernel_rfl) ?_
    refine rnil (tn_ ?_)
    refine awp_block_ ?_
    refine awp_seq_ ?_
    refine awp_region_ 7 (by kernel_rfl) ?_
    refine rs0 (.bool (a0_0 == 3)) (by kernel_rfl) ?_
    refine rs0 (.bool (a0_0 == 3)) (by kernel_rfl) ?_
    refine rnil (tn_ ?_)
    rcases cond_some h with ⟨q5, h⟩ | ⟨q5, h⟩
    · refine awp_condT_ q5 (by kernel_rfl) ?_
      obtain ⟨y6, h6, h⟩ := ob_some h
      obtain ⟨y7, h7, h⟩ := ob_some h
      refine awp_regionD_ 19 (by kernel_rfl) ?_
      refine ds0 (.fn 57 [(.ref [(.int .i64 a1_0_0), (.tree (.pair .int (.pair .int (.pair .int .int))) a1_0_1), (.tree .int a1_0_2)])]) (by kernel_rfl) ?_
      refine ds0 (.box (2, 1) 1) (by kernel_rfl) ?_
      refine dsl (.int .i64 a0_1) (by kernel_rfl) ?_
      refine dcall (.int .i64 y6) [] [(.int .i64 a0_1), (.ref [(.int .i64 a1_0_0), (.tree (.pair .int (.pair .int (.pair .int .int))) a1_0_1), (.tree .int a1_0_2)])] _ (caps := [(.ref [(.int .i64 a1_0_0), (.tree (.pair .int (.pair .int (.pair .int .int))) a1_0_1), (.tree .int a1_0_2)])]) (args0 := [(.int .i64 a0_1), (.ref [(.int .i64 a1_0_0), (.tree (.pair .int (.pair .int (.pair .int .int))) a1_0_1), (.tree .int a1_0_2)])]) trivial (by kernel_rfl) (by kernel_rfl) (by kernel_rfl) (by kernel_rfl) (ok_impl_RetimeGate_1 h6) hb_impl_RetimeGate_1 (by kernel_rfl) ?_
      refine ds0 (.fn 57 [(.ref [(.int .i64 a1_0_0), (.tree (.pair .int (.pair .int (.pair .int .int))) a1_0_1), (.tree .int a1_0_2)])]) (by kernel_rfl) ?_
      refine ds0 (.box (2, 1) 2) (by kernel_rfl) ?_
      refine dsl (.int .i64 a0_2) (by kernel_rfl) ?_
      refine dcall (.int .i64 y7) [] [(.int .i64 a0_2), (.ref [(.int .i64 a1_0_0), (.tree (.pair .int (.pair .int (.pair .int .int))) a1_0_1), (.tree .int a1_0_2)])] _ (caps := [(.ref [(.int .i64 a1_0_0), (.tree (.pair .int (.pair .int (.pair .int .int))) a1_0_1), (.tree .int a1_0_2)])]) (args0 := [(.int .i64 a0_2), (.ref [(.int .i64 a1_0_0), (.tree (.pair .int (.pair .int (.pair .int .int))) a1_0_1), (.tree .int a1_0_2)])]) trivial (by kernel_rfl) (by kernel_rfl) (by kernel_rfl) (by kernel_rfl) (ok_impl_RetimeGate_1 h7) hb_impl_RetimeGate_1 (by kernel_rfl) ?_
      refine ds0 (.box (2, 1) 1) (by kernel_rfl) ?_
      refine dsn2 (2, 1) (2, 1) (.cells 51 [(.int .i64 a0_0), (.int .i64 y6), (.int .i64 a0_2), (.int .i64 a0_3)]) (by kernel_rfl) ?_
      refine ds0 (.box (2, 1) 2) (by kernel_rfl) ?_
      refine dsn2 (2, 1) (2, 1) (.cells 51 [(.int .i64 a0_0), (.int .i64 y6), (.int .i64 y7), (.int .i64 a0_3)]) (by kernel_rfl) ?_
      refine dnil (by kernel_rfl) (bn_ (tn_ ?_))
      obtain rfl := Option.some.inj h
      exact ⟨_, (weak_ren (renF [((0, 1), (2, 1)), ((1, 1), (4, 2))]) (by kernel_rfl) (by kernel_rfl) (by kernel_rfl)), ⟨y6, y7, rfl, rfl⟩⟩
    · refine awp_condF_ q5 (by kernel_rfl) ?_
      refine awp_seqB h (fun (l8_m19 : Bool) S_ => S_ = ⟨mkTm [(1, (.fn 57 [(.ref [(.int .i64 a1_0_0), (.tree (.pair .int (.pair .int (.pair .int .int))) a1_0_1), (.tree .int a1_0_2)])])), (2, (.box (0, 1) 0)), (4, (.box (1, 1) 0)), (19, (.bool l8_m19))], mkOb (someL [((0, 1), .cells 51 [(.int .i64 a0_0), (.int .i64 a0_1), (.int .i64 a0_2), (.int .i64 a0_3)]), ((1, 1), .cells 51 [(.int .i64 0), (.int .i64 0), (.int .i64 0), (.int .i64 0)])]), 2⟩) ?_ ?_
      · intro v_ h
        refine awp_seq_ ?_
        refine awp_region_ 9 (by kernel_rfl) ?_
        refine rs0 (.bool (a0_0 == 4)) (by kernel_rfl) ?_
        refine rs0 (.bool (a0_0 == 4)) (by kernel_rfl) ?_
        refine rnil (tn_ ?_)
        rcases cond_some h with ⟨q10, h⟩ | ⟨q10, h⟩
        · refine awp_condT_ q10 (by kernel_rfl) ?_
          refine awp_skip_ (tn_ ?_)
          obtain rfl := Option.some.inj h
          exact ⟨_, (weak_ren (renF [((0, 1), (2, 1)), ((1, 1), (4, 2))]) (by kernel_rfl) (by kernel_rfl) (by kernel_rfl)), rfl⟩
        · refine awp_condF_ q10 (by kernel_rfl) ?_
          refine awp_region_ 11 (by kernel_rfl) ?_
          refine rs0 (.bool (a0_0 == 5)) (by kernel_rfl) ?_
          refine rs0 (.bool (a0_0 == 5)) (by kernel_rfl) ?_
          refine rnil (tn_ ?_)
          obtain rfl := Option.some.inj h
          exact ⟨_, (weak_ren (renF [((0, 1), (2, 1)), ((1, 1), (4, 2))]) (by kernel_rfl) (by kernel_rfl) (by kernel_rfl)), rfl⟩
      · rintro l8_m19 _ rfl h
        (try dsimp only at h)
        rcases cond_some h with ⟨q11, h⟩ | ⟨q11, h⟩
        · refine awp_condT_ q11 (by kernel_rfl) ?_
          obtain ⟨y12, h12, h⟩ := ob_some h
          refine awp_region_ 8 (by kernel_rfl) ?_
          refine rs0 (.fn 57 [(.ref [(.int .i64 a1_0_0), (.tree (.pair .int (.pair .int (.pair .int .int))) a1_0_1), (.tree .int a1_0_2)])]) (by kernel_rfl) ?_
          refine rs0 (.box (0, 1) 1) (by kernel_rfl) ?_
          refine rsl (.int .i64 a0_1) (by kernel_rfl) ?_
          refine rcall (.int .i64 y12) [] [(.int .i64 a0_1), (.ref [(.int .i64 a1_0_0), (.tree (.pair .int (.pair .int (.pair .int .int))) a1_0_1), (.tree .int a1_0_2)])] _ (caps := [(.ref [(.int .i64 a1_0_0), (.tree (.pair .int (.pair .int (.pair .int .int))) a1_0_1), (.tree .int a1_0_2)])]) (args0 := [(.int .i64 a0_1), (.ref [(.int .i64 a1_0_0), (.tree (.pair .int (.pair .int (.pair .int .int))) a1_0_1), (.tree .int a1_0_2)])]) trivial (by kernel_rfl) (by kernel_rfl) (by kernel_rfl) (by kernel_rfl) (ok_impl_RetimeGate_1 h12) hb_impl_RetimeGate_1 (by kernel_rfl) ?_
          refine rs0 (.box (0, 1) 1) (by kernel_rfl) ?_
          refine rsn2 (0, 1) (0, 1) (.cells 51 [(.int .i64 a0_0), (.int .i64 y12), (.int .i64 a0_2), (.int .i64 a0_3)]) (by kernel_rfl) ?_
          refine rnil (bn_ (tn_ ?_))
          obtain rfl := Option.some.inj h
          exact ⟨_, (weak_ren (renF []) (by kernel_rfl) (by kernel_rfl) (by kernel_rfl)), ⟨y12, a0_2, rfl, rfl⟩⟩
        · refine awp_condF_ q11 (by kernel_rfl) ?_
          refine awp_skip_ (bn_ (tn_ ?_))
          obtain rfl := Option.some.inj h
          exact ⟨_, (weak_ren (renF []) (by kernel_rfl) (by kernel_rfl) (by kernel_rfl)), ⟨a0_1, a0_2, rfl, rfl⟩⟩
  · rintro _ _ ⟨l2_m2_1, l2_m2_2, rfl, rfl⟩ h
    (try dsimp only at h)
    refine awp_seq_ ?_
    refine awp_region_ 4 (by kernel_rfl) ?_
    refine rsl (.agg [(.int .i64 a0_0), (.int .i64 l2_m2_1), (.int .i64 l2_m2_2), (.int .i64 a0_3)]) (by kernel_rfl) ?_
    refine rsn2 (1, 1) (1, 1) (.cells 51 [(.int .i64 a0_0), (.int .i64 l2_m2_1), (.int .i64 l2_m2_2), (.int .i64 a0_3)]) (by kernel_rfl) ?_
    refine rnil (tn_ ?_)
    refine awp_ret_ ?_
    obtain rfl := Option.some.inj h
    exact ret_ [(.agg [(.int .i64 a0_0), (.int .i64 l2_m2_1), (.int .i64 l2_m2_2), (.int .i64 a0_3)])] (by simp) (by kernel_rfl) (p_agg (l_cons (l_sc (by kernel_rfl)) (l_cons (l_sc (by kernel_rfl)) (l_cons (l_sc (by kernel_rfl)) (l_cons (l_sc (by kernel_rfl)) l_nil)))) p_nil) (by kernel_rfl) (by kernel_rfl)
def m_impl_RetimeGate_l1 : AC :=
  (.seq (.region [⟨(some 44), none, (.i (.bin .lss (.tmp 43) (.tmp 42)))⟩] false [])
  (.seq (.cond (.tmp 44)
    .skip
    (.exit 0))
  (.seq (.block 1 (.seq (.region [⟨(some 45), none, (.i (.idx 1 (.tmp 41) (.tmp 43)))⟩, ⟨(some 46), none, (.i (.ld true 1 (.tmp 45)))⟩, ⟨(some 10), none, (.i (.mov (.tmp 46)))⟩] false [])
  (.seq (.region [⟨(some 47), none, (.i (.fld 1 (.tmp 4)))⟩, ⟨(some 48), none, (.i (.ld true 1 (.tmp 47)))⟩, ⟨(some 49), none, (.i (.mov (.tmp 10)))⟩, ⟨(some 50), none, (.i (.idx 4 (.tmp 48) (.tmp 49)))⟩, ⟨(some 51), none, (.i (.fld 0 (.tmp 50)))⟩, ⟨(some 52), none, (.i (.ld true 1 (.tmp 51)))⟩, ⟨(some 53), none, (.i (.bin .neq (.tmp 52) (.cst (.int .i64 5))))⟩] false [])
  (.cond (.tmp 53)
    (.seq (.region [⟨(some 54), none, (.build [(.int .i64 0), .nils, .nils] [])⟩, ⟨none, none, (.st false 3 (.tmp 6) (.tmp 54))⟩, ⟨(some 7), none, (.i (.mov (.cst (.bool false))))⟩] false [])
    .ret)
    .skip))))
  (.region [⟨(some 55), none, (.i (.bin .add (.tmp 43) (.cst (.int .i64 1))))⟩, ⟨(some 43), none, (.i (.mov (.tmp 55)))⟩] false []))))
def m_impl_RetimeGate : AC :=
  (.seq (.region [⟨(some 4), none, (.i (.box 31 (.tmp 1)))⟩, ⟨(some 6), none, (.i (.alloc 31 [(.int .i64 0), .nils, .nils]))⟩, ⟨(some 7), none, (.i (.mov (.cst (.bool false))))⟩] false [])
  (.seq (.seq (.region [⟨(some 12), none, (.i (.mov (.tmp 0)))⟩, ⟨(some 13), none, (.i (.ld false 3 (.tmp 4)))⟩, ⟨(some 14), none, (.call (.cst (.fn 37 [])) [(.tmp 12), (.tmp 13)] [[], [none, (some (.pair .int (.pair .int (.pair .int .int)))), (some .int)]])⟩, ⟨(some 15), none, (.i (.not (.tmp 14)))⟩, ⟨(some 16), none, (.i (.mov (.tmp 15)))⟩, ⟨(some 17), (some (16, false)), (.i (.mov (.tmp 2)))⟩, ⟨(some 18), (some (16, false)), (.i (.fld 1 (.tmp 4)))⟩, ⟨(some 19), (some (16, false)), (.i (.ld true 1 (.tmp 18)))⟩, ⟨(some 20), (some (16, false)), (.i (.len (.tmp 19)))⟩, ⟨(some 21), (some (16, false)), (.i (.bin .sub (.tmp 20) (.cst (.int .i64 1))))⟩, ⟨(some 22), (some (16, false)), (.call (.cst (.fn 45 [])) [(.tmp 17), (.cst (.int .i64 0)), (.tmp 21)] [[], [], []])⟩, ⟨(some 23), (some (16, false)), (.i (.not (.tmp 22)))⟩, ⟨(some 24), none, (.i (.pick (.tmp 16) (.cst (.bool true)) (.tmp 23)))⟩, ⟨(some 25), none, (.i (.mov (.tmp 24)))⟩, ⟨(some 26), (some (25, false)), (.i (.fld 1 (.tmp 4)))⟩, ⟨(some 27), (some (25, false)), (.i (.ld true 1 (.tmp 26)))⟩, ⟨(some 28), (some (25, false)), (.i (.mov (.tmp 2)))⟩, ⟨(some 29), (some (25, false)), (.i (.idx 4 (.tmp 27) (.tmp 28)))⟩, ⟨(some 30), (some (25, false)), (.i (.ld false 4 (.tmp 29)))⟩, ⟨(some 31), (some (25, false)), (.call (.cst (.fn 53 [])) [(.tmp 30)] [[none, none, none, none]])⟩, ⟨(some 32), (some (25, false)), (.i (.not (.tmp 31)))⟩, ⟨(some 33), none, (.i (.pick (.tmp 25) (.cst (.bool true)) (.tmp 32)))⟩] false [])
  (.cond (.tmp 33)
    (.seq (.region [⟨(some 34), none, (.build [(.int .i64 0), .nils, .nils] [])⟩, ⟨none, none, (.st false 3 (.tmp 6) (.tmp 34))⟩, ⟨(some 7), none, (.i (.mov (.cst (.bool false))))⟩] false [])
    .ret)
    .skip))
  (.seq (.region [⟨(some 35), none, (.i (.fld 1 (.tmp 4)))⟩, ⟨(some 36), none, (.i (.ld true 1 (.tmp 35)))⟩, ⟨(some 37), none, (.i (.mov (.tmp 2)))⟩, ⟨(some 38), none, (.i (.idx 4 (.tmp 36) (.tmp 37)))⟩, ⟨(some 39), none, (.i (.ld false 4 (.tmp 38)))⟩, ⟨(some 8), none, (.i (.alloc 51 [(.int .i64 0), (.int .i64 0), (.int .i64 0), (.int .i64 0)]))⟩, ⟨none, none, (.st false 4 (.tmp 8) (.tmp 39))⟩] false [])
  (.seq (.seq (.region [⟨(some 40), none, (.i (.ld false 4 (.tmp 8)))⟩, ⟨(some 41), none, (.call (.cst (.fn 56 [])) [(.tmp 40)] [[none, none, none, none]])⟩, ⟨(some 42), none, (.i (.len (.tmp 41)))⟩, ⟨(some 43), none, (.i (.mov (.cst (.int .i64 0))))⟩] false [])
  (.block 0 (.loop m_impl_RetimeGate_l1)))
  (.seq (.region [⟨(some 56), none, (.i (.ld false 3 (.tmp 4)))⟩, ⟨(some 57), none, (.call (.cst (.fn 46 [])) [(.tmp 56)] [[none, (some (.pair .int (.pair .int (.pair .int .int)))), (some .int)]])⟩, ⟨(some 11), none, (.i (.alloc 31 [(.int .i64 0), .nils, .nils]))⟩, ⟨none, none, (.st false 3 (.tmp 11) (.tmp 57))⟩] false [])
  (.seq (.region [⟨(some 58), none, (.i (.fld 1 (.tmp 11)))⟩, ⟨(some 59), none, (.i (.ld true 1 (.tmp 58)))⟩, ⟨(some 60), none, (.i (.mov (.tmp 2)))⟩, ⟨(some 61), none, (.i (.fld 1 (.tmp 4)))⟩, ⟨(some 62), none, (.i (.ld true 1 (.tmp 61)))⟩, ⟨(some 63), none, (.i (.len (.tmp 62)))⟩, ⟨(some 64), none, (.build [(.int .i64 0), (.int .i64 0), (.int .i64 0), (.int .i64 0)] [(0, 1, (.cst (.int .i64 5))), (1, 1, (.tmp 63))])⟩, ⟨(some 65), none, (.i (.idx 4 (.tmp 59) (.tmp 60)))⟩, ⟨none, none, (.st false 4 (.tmp 65) (.tmp 64))⟩] false [])
  (.seq (.region [⟨(some 66), none, (.i (.fld 1 (.tmp 11)))⟩, ⟨(some 67), none, (.i (.ld true 1 (.tmp 66)))⟩, ⟨(some 68), none, (.i (.ld false 4 (.tmp 8)))⟩, ⟨(some 69), none, (.i (.mkfn 57 [(.tmp 4)]))⟩, ⟨(some 70), none, (.call (.cst (.fn 54 [])) [(.tmp 68), (.tmp 69)] [[none, none, none, none], []])⟩, ⟨(some 71), none, (.mkS 51 (.pair .int (.pair .int (.pair .int .int))) [(.tmp 70)])⟩, ⟨(some 72), none, (.append 51 (.pair .int (.pair .int (.pair .int .int))) 32 (.tmp 67) (.tmp 71))⟩, ⟨(some 73), none, (.i (.fld 1 (.tmp 11)))⟩, ⟨none, none, (.st true 1 (.tmp 73) (.tmp 72))⟩] true [(1, 4)])
  (.seq (.region [⟨(some 74), none, (.i (.mov (.tmp 0)))⟩, ⟨(some 75), none, (.i (.ld false 3 (.tmp 11)))⟩, ⟨(some 76), none, (.call (.cst (.fn 48 [])) [(.tmp 74), (.tmp 75)] [[], [none, (some (.pair .int (.pair .int (.pair .int .int)))), (some .int)]])⟩, ⟨(some 77), none, (.i (.extr 0 (.tmp 76)))⟩, ⟨(some 78), none, (.i (.extr 1 (.tmp 76)))⟩, ⟨none, none, (.st false 3 (.tmp 6) (.tmp 77))⟩, ⟨(some 7), none, (.i (.mov (.tmp 78)))⟩] false [])
  .ret))))))))
def r_impl_RetimeGate : List Res := [.cell 6 false 3, .tmp 7]
theorem c_impl_RetimeGate : compiled Tryd.prog Tryd.f25 = some (m_impl_RetimeGate, r_impl_RetimeGate) := by kernel_rfl
theorem hb_impl_RetimeGate : hasBody Tryd.prog 25 = true := by kernel_rfl
def L_impl_RetimeGate_l1 (y16 : List Int) (a1_1 : List (Int × Int × Int × Int)) (l17_m43 : Nat) : Option (Ctl Nat (Ctl Unit (Int × (List (Int × Int × Int × Int)) × List Int × Bool))) :=
  cond (decide (((l17_m43 : Nat) : Int) < ((y16.length : Nat) : Int)))
  (Option.bind (y16[l17_m43]?) fun x23 =>
  Option.bind (getI a1_1 x23) fun x25 =>
  cond (x25.1 != 5)
    (some (Ctl.out (Ctl.out (0, [], [], false))))
    (og (l17_m43 + 1 < 4611686018427387904) <|
    some (Ctl.next (l17_m43 + 1))))
  (some (Ctl.out (Ctl.next ())))
def L_impl_RetimeGate (a0 : Int) (a1_0 : Int) (a1_1 : List (Int × Int × Int × Int)) (a1_2 : List Int) (a2 : Int) : Option (Int × (List (Int × Int × Int × Int)) × List Int × Bool) :=
  Option.bind (Option.bind (L_impl_isCircuit a0 a1_0 a1_1 a1_2) fun y4 =>
  cond (!y4)
    (some true)
    (Option.bind (L_impl_within a2 0 (IntKind.i64.wrap (((a1_1.length : Nat) : Int) - 1))) fun y6 =>
    cond (!y6)
      (some true)
      (Option.bind (getI a1_1 a2) fun x8 =>
      Option.bind (L_impl_isWorking x8.1 x8.2.1 x8.2.2.1 x8.2.2.2) fun y9 =>
      some (!y9)))) fun l3_m33 =>
cond l3_m33
  (some (0, [], [], false))
  (Option.bind (getI a1_1 a2) fun x13 =>
  seqC (Option.bind (L_impl_Gate_operands x13.1 x13.2.1 x13.2.2.1 x13.2.2.2) fun y16 =>
    loopM (fun s_ : Nat => L_impl_RetimeGate_l1 y16 a1_1 s_) 4611686018427387904 0) fun _ =>
  Option.bind (L_impl_Circuit_copy a1_0 a1_1 a1_2) fun y30 =>
  Option.bind (getI y30.2.1 a2) fun x32 =>
  Option.bind (L_impl_Gate_withOperands_for_impl_RetimeGate_1 x13.1 x13.2.1 x13.2.2.1 x13.2.2.2 a1_0 a1_1 a1_2) fun y34 =>
  og (((y30.2.1.set a2.toNat (5, ((a1_1.length : Nat) : Int), 0, 0)).length) + 1 ≤ 1073741824 ∧ (((y30.2.1.set a2.toNat (5, ((a1_1.length : Nat) : Int), 0, 0)).length) + 1) * 32 ≤ 140737488355328) <|
  Option.bind (Option.bind (L_impl_validCircuit a0 y30.1 ((y30.2.1.set a2.toNat (5, ((a1_1.length : Nat) : Int), 0, 0)) ++ ([y34])) y30.2.2) fun y37 =>
    (Sum.elim (fun z37_0 =>
    some (z37_0.2, z37_0.1, [], [])) (fun z37_1 =>
    some (z37_1.2, z37_1.1, (y30.2.1.set a2.toNat (5, ((a1_1.length : Nat) : Int), 0, 0)) ++ ([y34]), y30.2.2))) y37) fun (l36_m7, l36_m6_0, l36_m6_1, l36_m6_2) =>
  some (l36_m6_0, l36_m6_1, l36_m6_2, l36_m7))
def rv_impl_RetimeGate (r : Int × (List (Int × Int × Int × Int)) × List Int × Bool) : RV := ⟨true, [(true, [.sc (.int .i64 r.1), .new 51 (.pair .int (.pair .int (.pair .int .int))) r.2.1, .new 3 .int r.2.2.1]), (false, [.sc (.bool r.2.2.2)])]⟩
theorem ok_impl_RetimeGate {a0 : Int} {a1_0 : Int} {a1_1 : List (Int × Int × Int × Int)} {a1_2 : List Int} {a2 : Int} {r : Int × (List (Int × Int × Int × Int)) × List Int × Bool} (h : L_impl_RetimeGate a0 a1_0 a1_1 a1_2 a2 = some r) : CallOK Tryd.prog Tab 25 [(.int .i64 a0), (.agg [(.int .i64 a1_0), (.tree (.pair .int (.pair .int (.pair .int .int))) a1_1), (.tree .int a1_2)]), (.int .i64 a2)] (rv_impl_RetimeGate r) := by
  refine call_of_ (by kernel_rfl) Tryd.func25 c_impl_RetimeGate (n := 79) (by kernel_rfl) (by simp) (tl := [(0, (.int .i64 a0)), (1, (.agg [(.int .i64 a1_0), (.tree (.pair .int (.pair .int (.pair .int .int))) a1_1), (.tree .int a1_2)])), (2, (.int .i64 a2))]) rfl ?_
  unfold m_impl_RetimeGate
  unfold L_impl_RetimeGate at h
  refine awp_seq_ ?_
  refine awp_region_ 4 (by kernel_rfl) ?_
  refine rs1 (.box (4, 1) 0) (4, 1) (.cells 31 [(.int .i64 a1_0), (.tree (.pair .int (.pair .int (.pair .int .int))) a1_1), (.tree .int a1_2)]) (by kernel_rfl) ?_
  refine rs1 (.box (6, 2) 0) (6, 2) (.cells 31 [(.int .i64 0), .nils, .nils]) (by kernel_rfl) ?_
  refine rs0 (.bool false) (by kernel_rfl) ?_
  refine rnil (tn_ ?_)
  refine awp_seq_ ?_
  refine awp_seqB h (fun (l3_m33 : Bool) S_ => S_ = ⟨mkTm [(0, (.int .i64 a0)), (2, (.int .i64 a2)), (4, (.box (0, 1) 0)), (6, (.box (1, 1) 0)), (33, (.bool l3_m33))], mkOb (someL [((0, 1), .cells 31 [(.int .i64 a1_0), (.tree (.pair .int (.pair .int (.pair .int .int))) a1_1), (.tree .int a1_2)]), ((1, 1), .cells 31 [(.int .i64 0), .nils, .nils])]), 2⟩) ?_ ?_
  · intro v_ h
    obtain ⟨y4, h4, h⟩ := ob_some h
    rcases cond_some h with ⟨q5, h⟩ | ⟨q5, h⟩
    · refine awp_region_ 26 (by kernel_rfl) ?_
      refine rs0 (.int .i64 a0) (by kernel_rfl) ?_
      refine rsl (.agg [(.int .i64 a1_0), (.tree (.pair .int (.pair .int (.pair .int .int))) a1_1), (.tree .int a1_2)]) (by kernel_rfl) ?_
      refine rcall (.bool y4) [] [(.int .i64 a0), (.agg [(.int .i64 a1_0), (.tree (.pair .int (.pair .int (.pair .int .int))) a1_1), (.tree .int a1_2)])] _ (caps := []) (args0 := [(.int .i64 a0), (.agg [(.int .i64 a1_0), (.tree (.pair .int (.pair .int (.pair .int .int))) a1_1), (.tree .int a1_2)])]) trivial (by kernel_rfl) (by kernel_rfl) (by kernel_rfl) (by kernel_rfl) (ok_impl_isCircuit h4) hb_impl_isCircuit (by kernel_rfl) ?_
      refine rs0 (.bool (!y4)) (by kernel_rfl) ?_
      refine rs0 (.bool (!y4)) (by kernel_rfl) ?_
      refine rs0 (.tup []) (s_skip (by kernel_rfl) q5) ?_
      refine rs0 (.tup []) (s_skip (by kernel_rfl) q5) ?_
      refine rs0 (.tup []) (s_skip (by kernel_rfl) q5) ?_
      refine rs0 (.tup []) (s_skip (by kernel_rfl) q5) ?_
      refine rs0 (.tup []) (s_skip (by kernel_rfl) q5) ?_
      refine rs0 (.tup []) (s_skip (by kernel_rfl) q5) ?_
      refine rs0 (.tup []) (s_skip (by kernel_rfl) q5) ?_
      refine rs0 (.bool true) (s_pickT (by kernel_rfl) q5) ?_
      refine rs0 (.bool true) (by kernel_rfl) ?_
      refine rs0 (.tup []) (by kernel_rfl) ?_
      refine rs0 (.tup []) (by kernel_rfl) ?_
      refine rs0 (.tup []) (by kernel_rfl) ?_
      refine rs0 (.tup []) (by kernel_rfl) ?_
      refine rs0 (.tup []) (by kernel_rfl) ?_
      refine rs0 (.tup []) (by kernel_rfl) ?_
      refine rs0 (.tup []) (by kernel_rfl) ?_
      refine rs0 (.bool true) (by kernel_rfl) ?_
      refine rnil (tn_ ?_)
      obtain rfl := Option.some.inj h
      exact ⟨_, (weak_ren (renF [((0, 1), (4, 1)), ((1, 1), (6, 2))]) (by kernel_rfl) (by kernel_rfl) (by kernel_rfl)), rfl⟩
    · obtain ⟨y6, h6, h⟩ := ob_some h
      rcases cond_some h with ⟨q7, h⟩ | ⟨q7, h⟩
      · refine awp_region_ 26 (by kernel_rfl) ?_
        refine rs0 (.int .i64 a0) (by kernel_rfl) ?_
        refine rsl (.agg [(.int .i64 a1_0), (.tree (.pair .int (.pair .int (.pair .int .int))) a1_1), (.tree .int a1_2)]) (by kernel_rfl) ?_
        refine rcall (.bool y4) [] [(.int .i64 a0), (.agg [(.int .i64 a1_0), (.tree (.pair .int (.pair .int (.pair .int .int))) a1_1), (.tree .int a1_2)])] _ (caps := []) (args0 := [(.int .i64 a0), (.agg [(.int .i64 a1_0), (.tree (.pair .int (.pair .int (.pair .int .int))) a1_1), (.tree .int a1_2)])]) trivial (by kernel_rfl) (by kernel_rfl) (by kernel_rfl) (by kernel_rfl) (ok_impl_isCircuit h4) hb_impl_isCircuit (by kernel_rfl) ?_
        refine rs0 (.bool (!y4)) (by kernel_rfl) ?_
        refine rs0 (.bool (!y4)) (by kernel_rfl) ?_
        refine rs0 (.int .i64 a2) (s_gd (by kernel_rfl) q5 (by kernel_rfl)) ?_
        refine rs0 (.box (4, 1) 1) (s_gd (by kernel_rfl) q5 (by kernel_rfl)) ?_
        refine rsl (.tree (.pair .int (.pair .int (.pair .int .int))) a1_1) (s_gd (by kernel_rfl) q5 (by kernel_rfl)) ?_
        refine rs0 (.int .i64 ((a1_1.length : Nat) : Int)) (s_gd (by kernel_rfl) q5 (by kernel_rfl)) ?_
        refine rs0 (.int .i64 (IntKind.i64.wrap (((a1_1.length : Nat) : Int) - 1))) (s_gd (by kernel_rfl) q5 (by kernel_rfl)) ?_
        refine rcall (.bool y6) [] [(.int .i64 a2), (.int .i64 0), (.int .i64 (IntKind.i64.wrap (((a1_1.length : Nat) : Int) - 1)))] _ (caps := []) (args0 := [(.int .i64 a2), (.int .i64 0), (.int .i64 (IntKind.i64.wrap (((a1_1.length : Nat) : Int) - 1)))]) (gdOK_b (by kernel_rfl) q5) (by kernel_rfl) (by kernel_rfl) (by kernel_rfl) (by kernel_rfl) (ok_impl_within h6) hb_impl_within (by kernel_rfl) ?_
        refine rs0 (.bool (!y6)) (s_gd (by kernel_rfl) q5 (by kernel_rfl)) ?_
        refine rs0 (.bool (!y6)) (s_pickF (by kernel_rfl) q5) ?_
        refine rs0 (.bool (!y6)) (by kernel_rfl) ?_
        refine rs0 (.tup []) (s_skip (by kernel_rfl) q7) ?_
        refine rs0 (.tup []) (s_skip (by kernel_rfl) q7) ?_
        refine rs0 (.tup []) (s_skip (by kernel_rfl) q7) ?_
        refine rs0 (.tup []) (s_skip (by kernel_rfl) q7) ?_
        refine rs0 (.tup []) (s_skip (by kernel_rfl) q7) ?_
        refine rs0 (.tup []) (s_skip (by kernel_rfl) q7) ?_
        refine rs0 (.tup []) (s_skip (by kernel_rfl) q7) ?_
        refine rs0 (.bool true) (s_pickT (by kernel_rfl) q7) ?_
        refine rnil (tn_ ?_)
        obtain rfl := Option.some.inj h
        exact ⟨_, (weak_ren (renF [((0, 1), (4, 1)), ((1, 1), (6, 2))]) (by kernel_rfl) (by kernel_rfl) (by kernel_rfl)), rfl⟩
      · obtain ⟨x8, f8, h⟩ := ob_some h
        obtain ⟨p8, b8, e8⟩ := getI_some f8
        obtain ⟨y9, h9, h⟩ := ob_some h
        refine awp_region_ 26 (by kernel_rfl) ?_
        refine rs0 (.int .i64 a0) (by kernel_rfl) ?_
        refine rsl (.agg [(.int .i64 a1_0), (.tree (.pair .int (.pair .int (.pair .int .int))) a1_1), (.tree .int a1_2)]) (by kernel_rfl) ?_
        refine rcall (.bool y4) [] [(.int .i64 a0), (.agg [(.int .i64 a1_0), (.tree (.pair .int (.pair .int (.pair .int .int))) a1_1), (.tree .int a1_2)])] _ (caps := []) (args0 := [(.int .i64 a0), (.agg [(.int .i64 a1_0), (.tree (.pair .int (.pair .int (.pair .int .int))) a1_1), (.tree .int a1_2)])]) trivial (by kernel_rfl) (by kernel_rfl) (by kernel_rfl) (by kernel_rfl) (ok_impl_isCircuit h4) hb_impl_isCircuit (by kernel_rfl) ?_
        refine rs0 (.bool (!y4)) (by kernel_rfl) ?_
        refine rs0 (.bool (!y4)) (by kernel_rfl) ?_
        refine rs0 (.int .i64 a2) (s_gd (by kernel_rfl) q5 (by kernel_rfl)) ?_
        refine rs0 (.box (4, 1) 1) (s_gd (by kernel_rfl) q5 (by kernel_rfl)) ?_
        refine rsl (.tree (.pair .int (.pair .int (.pair .int .int))) a1_1) (s_gd (by kernel_rfl) q5 (by kernel_rfl)) ?_
        refine rs0 (.int .i64 ((a1_1.length : Nat) : Int)) (s_gd (by kernel_rfl) q5 (by kernel_rfl)) ?_
        refine rs0 (.int .i64 (IntKind.i64.wrap (((a1_1.length : Nat) : Int) - 1))) (s_gd (by kernel_rfl) q5 (by kernel_rfl)) ?_
        refine rcall (.bool y6) [] [(.int .i64 a2), (.int .i64 0), (.int .i64 (IntKind.i64.wrap (((a1_1.length : Nat) : Int) - 1)))] _ (caps := []) (args0 := [(.int .i64 a2), (.int .i64 0), (.int .i64 (IntKind.i64.wrap (((a1_1.length : Nat) : Int) - 1)))]) (gdOK_b (by kernel_rfl) q5) (by kernel_rfl) (by kernel_rfl) (by kernel_rfl) (by kernel_rfl) (ok_impl_within h6) hb_impl_within (by kernel_rfl) ?_
        refine rs0 (.bool (!y6)) (s_gd (by kernel_rfl) q5 (by kernel_rfl)) ?_
        refine rs0 (.bool (!y6)) (s_pickF (by kernel_rfl) q5) ?_
        refine rs0 (.bool (!y6)) (by kernel_rfl) ?_
        refine rs0 (.box (4, 1) 1) (s_gd (by kernel_rfl) q7 (by kernel_rfl)) ?_
        refine rsl (.tree (.pair .int (.pair .int (.pair .int .int))) a1_1) (s_gd (by kernel_rfl) q7 (by kernel_rfl)) ?_
        refine rs0 (.int .i64 a2) (s_gd (by kernel_rfl) q7 (by kernel_rfl)) ?_
        refine rs0 (.telt (.pair .int (.pair .int (.pair .int .int))) x8 0) (s_gd (by kernel_rfl) q7 (s_idxT (t := (.pair .int (.pair .int (.pair .int .int)))) (xs := a1_1) (k := .i64) (m := a2) (by kernel_rfl) (by kernel_rfl) rfl p8 rfl e8)) ?_
        refine rs0 (.agg [(.int .i64 x8.1), (.int .i64 x8.2.1), (.int .i64 x8.2.2.1), (.int .i64 x8.2.2.2)]) (s_gd (by kernel_rfl) q7 (by kernel_rfl)) ?_
        refine rcall (.bool y9) [] [(.agg [(.int .i64 x8.1), (.int .i64 x8.2.1), (.int .i64 x8.2.2.1), (.int .i64 x8.2.2.2)])] _ (caps := []) (args0 := [(.agg [(.int .i64 x8.1), (.int .i64 x8.2.1), (.int .i64 x8.2.2.1), (.int .i64 x8.2.2.2)])]) (gdOK_b (by kernel_rfl) q7) (by kernel_rfl) (by kernel_rfl) (by kernel_rfl) (by kernel_rfl) (ok_impl_isWorking h9) hb_impl_isWorking (by kernel_rfl) ?_
        refine rs0 (.bool (!y9)) (s_gd (by kernel_rfl) q7 (by kernel_rfl)) ?_
        refine rs0 (.bool (!y9)) (s_pickF (by kernel_rfl) q7) ?_
        refine rnil (tn_ ?_)
        obtain rfl := Option.some.inj h
        exact ⟨_, (weak_ren (renF [((0, 1), (4, 1)), ((1, 1), (6, 2))]) (by kernel_rfl) (by kernel_rfl) (by kernel_rfl)), rfl⟩
  · rintro l3_m33 _ rfl h
    (try dsimp only at h)
    rcases cond_some h with ⟨q10, h⟩ | ⟨q10, h⟩
    · refine awp_condT_ q10 (by kernel_rfl) ?_
      refine awp_seq_ ?_
      refine awp_region_ 5 (by kernel_rfl) ?_
      refine rs0 (.agg [(.int .i64 0), .nils, .nils]) (by kernel_rfl) ?_
      refine rsn2 (1, 1) (1, 1) (.cells 31 [(.int .i64 0), .nils, .nils]) (by kernel_rfl) ?_
      refine rs0 (.bool false) (by kernel_rfl) ?_
      refine rnil (tn_ ?_)
      refine awp_ret_ (tr_ ?_)
      obtain rfl := Option.some.inj h
      exact ret_ [(.agg [(.int .i64 0), .nils, .nils]), (.bool false)] (by simp) (by kernel_rfl) (p_agg (l_cons (l_sc (by kernel_rfl)) (l_cons (l_nils rfl) (l_cons (l_nils rfl) l_nil))) (p_one rfl (l_sc (by kernel_rfl)) p_nil)) (by kernel_rfl) (by kernel_rfl)
    · refine awp_condF_ q10 (by kernel_rfl) ?_
      refine awp_skip_ (tn_ ?_)
      refine awp_seq_ ?_
      obtain ⟨x13, f13, h⟩ := ob_some h
      obtain ⟨p13, b13, e13⟩ := getI_some f13
      refine awp_region_ 9 (by kernel_rfl) ?_
      refine rs0 (.box (0, 1) 1) (by kernel_rfl) ?_
      refine rsl (.tree (.pair .int (.pair .int (.pair .int .int))) a1_1) (by kernel_rfl) ?_
      refine rs0 (.int .i64 a2) (by kernel_rfl) ?_
      refine rs0 (.telt (.pair .int (.pair .int (.pair .int .int))) x13 0) (s_idxT (t := (.pair .int (.pair .int (.pair .int .int)))) (xs := a1_1) (k := .i64) (m := a2) (by kernel_rfl) (by kernel_rfl) rfl p13 rfl e13) ?_
      refine rs0 (.agg [(.int .i64 x13.1), (.int .i64 x13.2.1), (.int .i64 x13.2.2.1), (.int .i64 x13.2.2.2)]) (by kernel_rfl) ?_
      refine rs1 (.box (8, 7) 0) (8, 7) (.cells 51 [(.int .i64 0), (.int .i64 0), (.int .i64 0), (.int .i64 0)]) (by kernel_rfl) ?_
      refine rsn2 (8, 7) (8, 7) (.cells 51 [(.int .i64 x13.1), (.int .i64 x13.2.1), (.int .i64 x13.2.2.1), (.int .i64 x13.2.2.2)]) (by kernel_rfl) ?_
      refine rnil (tn_ ?_)
      refine awp_seqC h (fun (_ : Unit) S_ => S_ = ⟨mkTm [(0, (.int .i64 a0)), (2, (.int .i64 a2)), (4, (.box (0, 1) 0)), (6, (.box (1, 1) 0)), (8, (.box (2, 1) 0))], mkOb (someL [((0, 1), .cells 31 [(.int .i64 a1_0), (.tree (.pair .int (.pair .int (.pair .int .int))) a1_1), (.tree .int a1_2)]), ((1, 1), .cells 31 [(.int .i64 0), .nils, .nils]), ((2, 1), .cells 51 [(.int .i64 x13.1), (.int .i64 x13.2.1), (.int .i64 x13.2.2.1), (.int .i64 x13.2.2.2)])]), 2⟩) ?_ ?_
      · intro v_ h hk14
        refine awp_seq_ ?_
        obtain ⟨y16, h16, h⟩ := ob_some h
        refine awp_region_ 13 (by kernel_rfl) ?_
        refine rsl (.agg [(.int .i64 x13.1), (.int .i64 x13.2.1), (.int .i64 x13.2.2.1), (.int .i64 x13.2.2.2)]) (by kernel_rfl) ?_
        refine rcall (.own (656, 10) .int 0 y16.length) [((656, 10), some (.arr 3 .int y16))] [(.agg [(.int .i64 x13.1), (.int .i64 x13.2.1), (.int .i64 x13.2.2.1), (.int .i64 x13.2.2.2)])] _ (caps := []) (args0 := [(.agg [(.int .i64 x13.1), (.int .i64 x13.2.1), (.int .i64 x13.2.2.1), (.int .i64 x13.2.2.2)])]) trivial (by kernel_rfl) (by kernel_rfl) (by kernel_rfl) (by kernel_rfl) (ok_impl_Gate_operands h16) hb_impl_Gate_operands (by kernel_rfl) ?_
        refine rs0 (.int .i64 ((y16.length : Nat) : Int)) (by kernel_rfl) ?_
        refine rs0 (.int .i64 0) (by kernel_rfl) ?_
        refine rnil (tn_ ?_)
        refine awp_block_ ?_
        refine awp_loopL h (fun (l17_m43 : Nat) S_ => S_ = ⟨mkTm [(0, (.int .i64 a0)), (2, (.int .i64 a2)), (4, (.box (0, 1) 0)), (6, (.box (1, 1) 0)), (8, (.box (2, 1) 0)), (41, (.own (3, 1) .int 0 y16.length)), (42, (.int .i64 ((y16.length : Nat) : Int))), (43, (.int .i64 ((l17_m43 : Nat) : Int)))], mkOb (someL [((0, 1), .cells 31 [(.int .i64 a1_0), (.tree (.pair .int (.pair .int (.pair .int .int))) a1_1), (.tree .int a1_2)]), ((1, 1), .cells 31 [(.int .i64 0), .nils, .nils]), ((2, 1), .cells 51 [(.int .i64 x13.1), (.int .i64 x13.2.1), (.int .i64 x13.2.2.1), (.int .i64 x13.2.2.2)]), ((3, 1), .arr 3 .int y16)]), 2⟩) ⟨_, (weak_ren (renF [((2, 1), (8, 7)), ((3, 1), (656, 10))]) (by kernel_rfl) (by kernel_rfl) (by kernel_rfl)), rfl⟩ ?_
        · rintro n_ l17_m43 _ c_ rfl h hn17
          (try dsimp only at h)
          unfold L_impl_RetimeGate_l1 at h
          unfold m_impl_RetimeGate_l1
          refine awp_seq_ ?_
          refine awp_region_ 3 (by kernel_rfl) ?_
          refine rs0 (.bool (decide (((l17_m43 : Nat) : Int) < ((y16.length : Nat) : Int)))) (by kernel_rfl) ?_
          refine rnil (tn_ ?_)
          refine awp_seq_ ?_
          rcases cond_some h with ⟨q20, h⟩ | ⟨q20, h⟩
          · have q20_ := of_decide_eq_true q20
            refine awp_condT_ q20 (by kernel_rfl) ?_
            refine awp_skip_ (tn_ ?_)
            refine awp_seq_ ?_
            refine awp_block_ ?_
            refine awp_seq_ ?_
            obtain ⟨x23, e23, h⟩ := ob_some h
            refine awp_region_ 6 (by kernel_rfl) ?_
            refine rs0 (.elt (3, 1) l17_m43 0) (s_idxO (t := .int) (o := (3, 1)) (len := y16.length) (k := .i64) (m := ((l17_m43 : Nat) : Int)) (by kernel_rfl) (by kernel_rfl) rfl (nat_nn _) rfl (getN_lt e23)) ?_
            refine rsl (.int .i64 x23) (s_ldE (i := (3, 1)) (j := l17_m43) (k := 0) (e := 3) (t := .int) (xs := y16) (by kernel_rfl) (by kernel_rfl) e23 (by kernel_rfl)) ?_
            refine rs0 (.int .i64 x23) (by kernel_rfl) ?_
            refine rnil (tn_ ?_)
            refine awp_seq_ ?_
            obtain ⟨x25, f25, h⟩ := ob_some h
            obtain ⟨p25, b25, e25⟩ := getI_some f25
            refine awp_region_ 13 (by kernel_rfl) ?_
            refine rs0 (.box (0, 1) 1) (by kernel_rfl) ?_
            refine rsl (.tree (.pair .int (.pair .int (.pair .int .int))) a1_1) (by kernel_rfl) ?_
            refine rs0 (.int .i64 x23) (by kernel_rfl) ?_
            refine rs0 (.telt (.pair .int (.pair .int (.pair .int .int))) x25 0) (s_idxT (t := (.pair .int (.pair .int (.pair .int .int)))) (xs := a1_1) (k := .i64) (m := x23) (by kernel_rfl) (by kernel_rfl) rfl p25 rfl e25) ?_
            refine rs0 (.telt (.pair .int (.pair .int (.pair .int .int))) x25 0) (by kernel_rfl) ?_
            refine rs0 (.int .i64 x25.1) (by kernel_rfl) ?_
            refine rs0 (.bool (x25.1 != 5)) (by kernel_rfl) ?_
            refine rnil (tn_ ?_)
            rcases cond_some h with ⟨q26, h⟩ | ⟨q26, h⟩
            · refine awp_condT_ q26 (by kernel_rfl) ?_
              refine awp_seq_ ?_
              refine awp_region_ 16 (by kernel_rfl) ?_
              refine rs0 (.agg [(.int .i64 0), .nils, .nils]) (by kernel_rfl) ?_
              refine rsn2 (1, 1) (1, 1) (.cells 31 [(.int .i64 0), .nils, .nils]) (by kernel_rfl) ?_
              refine rs0 (.bool false) (by kernel_rfl) ?_
              refine rnil (tn_ ?_)
              refine awp_ret_ (br_ (tr_ (tr_ (br_ (tr_ ?_)))))
              obtain rfl := Option.some.inj h
              have h := hn17
              (try dsimp only at h)
              obtain rfl := Option.some.inj h
              have h := hk14
              (try dsimp only at h)
              obtain rfl := Option.some.inj h
              exact ret_ [(.agg [(.int .i64 0), .nils, .nils]), (.bool false)] (by simp) (by kernel_rfl) (p_agg (l_cons (l_sc (by kernel_rfl)) (l_cons (l_nils rfl) (l_cons (l_nils rfl) l_nil))) (p_one rfl (l_sc (by kernel_rfl)) p_nil)) (by kernel_rfl) (by kernel_rfl)
            · refine awp_condF_ q26 (by kernel_rfl) ?_
              refine awp_skip_ (bn_ (tn_ ?_))
              obtain ⟨g28, h⟩ := og_some h
              refine awp_region_ 15 (by kernel_rfl) ?_
              refine rs0 (.int .i64 ((l17_m43 + 1 : Nat) : Int)) (s_add1 (j := l17_m43) (by kernel_rfl) (by kernel_rfl) g28) ?_
              refine rs0 (.int .i64 ((l17_m43 + 1 : Nat) : Int)) (by kernel_rfl) ?_
              refine rnil (tn_ ?_)
              obtain rfl := Option.some.inj h
              exact ⟨l17_m43 + 1, _, (weak_ren (renF []) (by kernel_rfl) (by kernel_rfl) (by kernel_rfl)), rfl, hn17⟩
          · have q20_ := of_decide_eq_false q20
            refine awp_condF_ q20 (by kernel_rfl) ?_
            refine awp_exit_ (te_ (te_ (be_ (tn_ ?_))))
            obtain rfl := Option.some.inj h
            have h := hn17
            (try dsimp only at h)
            obtain rfl := Option.some.inj h
            exact ⟨(), _, rfl, (weak_ren (renF []) (by kernel_rfl) (by kernel_rfl) (by kernel_rfl)), rfl⟩
      · rintro _ _ rfl h
        (try dsimp only at h)
        refine awp_seq_ ?_
        obtain ⟨y30, h30, h⟩ := ob_some h
        refine awp_region_ 6 (by kernel_rfl) ?_
        refine rsl (.agg [(.int .i64 a1_0), (.tree (.pair .int (.pair .int (.pair .int .int))) a1_1), (.tree .int a1_2)]) (by kernel_rfl) ?_
        refine rcall (.agg [(.int .i64 y30.1), (.own (912, 3) (.pair .int (.pair .int (.pair .int .int))) 0 y30.2.1.length), (.own (913, 3) .int 0 y30.2.2.length)]) [((912, 3), some (.arr 51 (.pair .int (.pair .int (.pair .int .int))) y30.2.1)), ((913, 3), some (.arr 3 .int y30.2.2))] [(.agg [(.int .i64 a1_0), (.tree (.pair .int (.pair .int (.pair .int .int))) a1_1), (.tree .int a1_2)])] _ (caps := []) (args0 := [(.agg [(.int .i64 a1_0), (.tree (.pair .int (.pair .int (.pair .int .int))) a1_1), (.tree .int a1_2)])]) trivial (by kernel_rfl) (by kernel_rfl) (by kernel_rfl) (by kernel_rfl) (ok_impl_Circuit_copy h30) hb_impl_Circuit_copy (by kernel_rfl) ?_
        refine rs1 (.box (11, 4) 0) (11, 4) (.cells 31 [(.int .i64 0), .nils, .nils]) (by kernel_rfl) ?_
        refine rsn2 (11, 4) (11, 4) (.cells 31 [(.int .i64 y30.1), (.own (912, 3) (.pair .int (.pair .int (.pair .int .int))) 0 y30.2.1.length), (.own (913, 3) .int 0 y30.2.2.length)]) (by kernel_rfl) ?_
        refine rnil (tn_ ?_)
        refine awp_seq_ ?_
        obtain ⟨x32, f32, h⟩ := ob_some h
        obtain ⟨p32, b32, e32⟩ := getI_some f32
        refine awp_region_ 15 (by kernel_rfl) ?_
        refine rs0 (.box (11, 4) 1) (by kernel_rfl) ?_
        refine rsl (.own (912, 3) (.pair .int (.pair .int (.pair .int .int))) 0 y30.2.1.length) (by kernel_rfl) ?_
        refine rs0 (.int .i64 a2) (by kernel_rfl) ?_
        refine rs0 (.box (0, 1) 1) (by kernel_rfl) ?_
        refine rsl (.tree (.pair .int (.pair .int (.pair .int .int))) a1_1) (by kernel_rfl) ?_
        refine rs0 (.int .i64 ((a1_1.length : Nat) : Int)) (by kernel_rfl) ?_
        refine rs0 (.agg [(.int .i64 5), (.int .i64 ((a1_1.length : Nat) : Int)), (.int .i64 0), (.int .i64 0)]) (by kernel_rfl) ?_
        refine rs0 (.elt (912, 3) a2.toNat 0) (s_idxO (t := (.pair .int (.pair .int (.pair .int .int)))) (o := (912, 3)) (len := y30.2.1.length) (k := .i64) (m := a2) (by kernel_rfl) (by kernel_rfl) rfl p32 rfl (getN_lt e32)) ?_
        refine rsn2 (912, 3) (912, 3) (.arr 51 (.pair .int (.pair .int (.pair .int .int))) (y30.2.1.set a2.toNat (5, ((a1_1.length : Nat) : Int), 0, 0))) (s_stE (i := (912, 3)) (j := a2.toNat) (k := 0) (e := 51) (t := (.pair .int (.pair .int (.pair .int .int)))) (xs := y30.2.1) (cs := [(.int .i64 5), (.int .i64 ((a1_1.length : Nat) : Int)), (.int .i64 0), (.int .i64 0)]) (x1 := (5, ((a1_1.length : Nat) : Int), 0, 0)) (by kernel_rfl) (by kernel_rfl) e32 (by kernel_rfl) (by kernel_rfl)) ?_
        refine rnil (tn_ ?_)
        refine awp_seq_ ?_
        obtain ⟨y34, h34, h⟩ := ob_some h
        obtain ⟨g35, h⟩ := og_some h
        refine awp_regionD_ 24 (by kernel_rfl) ?_
        refine ds0 (.box (11, 4) 1) (by kernel_rfl) ?_
        refine dsl (.own (912, 3) (.pair .int (.pair .int (.pair .int .int))) 0 y30.2.1.length) (by kernel_rfl) ?_
        refine dsl (.agg [(.int .i64 x13.1), (.int .i64 x13.2.1), (.int .i64 x13.2.2.1), (.int .i64 x13.2.2.2)]) (by kernel_rfl) ?_
        refine ds0 (.fn 57 [(.box (0, 1) 0)]) (by kernel_rfl) ?_
        refine dcall (.agg [(.int .i64 y34.1), (.int .i64 y34.2.1), (.int .i64 y34.2.2.1), (.int .i64 y34.2.2.2)]) [] [(.agg [(.int .i64 x13.1), (.int .i64 x13.2.1), (.int .i64 x13.2.2.1), (.int .i64 x13.2.2.2)]), (.fn 57 [(.box (0, 1) 0)])] _ (caps := []) (args0 := [(.agg [(.int .i64 x13.1), (.int .i64 x13.2.1), (.int .i64 x13.2.2.1), (.int .i64 x13.2.2.2)]), (.fn 57 [(.ref [(.int .i64 a1_0), (.tree (.pair .int (.pair .int (.pair .int .int))) a1_1), (.tree .int a1_2)])])]) trivial (by kernel_rfl) (by kernel_rfl) (by kernel_rfl) (by kernel_rfl) (ok_impl_Gate_withOperands_for_impl_RetimeGate_1 h34) hb_impl_Gate_withOperands (by kernel_rfl) ?_
        refine ds1 (.own (71, 20) (.pair .int (.pair .int (.pair .int .int))) 0 1) (71, 20) (.arr 51 (.pair .int (.pair .int (.pair .int .int))) ([y34])) (by kernel_rfl) ?_
        refine ds2 (.own (912, 21) (.pair .int (.pair .int (.pair .int .int))) 0 (((y30.2.1.set a2.toNat (5, ((a1_1.length : Nat) : Int), 0, 0)) ++ ([y34])).length)) (912, 3) (912, 21) (.arr 51 (.pair .int (.pair .int (.pair .int .int))) ((y30.2.1.set a2.toNat (5, ((a1_1.length : Nat) : Int), 0, 0)) ++ ([y34]))) (s_appO (t := (.pair .int (.pair .int (.pair .int .int)))) (t' := (.pair .int (.pair .int (.pair .int .int)))) (xs := y30.2.1.set a2.toNat (5, ((a1_1.length : Nat) : Int), 0, 0)) (ys := [y34]) (zs := (y30.2.1.set a2.toNat (5, ((a1_1.length : Nat) : Int), 0, 0)) ++ ([y34])) (j := (912, 3)) (len := y30.2.1.length) (c := (.own (71, 20) (.pair .int (.pair .int (.pair .int .int))) 0 1)) (by kernel_rfl) (by kernel_rfl) ((rfl : y30.2.1.length = y30.2.1.length).trans List.length_set.symm) (by kernel_rfl) (sr_own (e := 51) (by kernel_rfl) rfl) rfl g35) ?_
        refine ds0 (.box (11, 4) 1) (by kernel_rfl) ?_
        refine dsn2 (11, 4) (11, 4) (.cells 31 [(.int .i64 y30.1), (.own (912, 21) (.pair .int (.pair .int (.pair .int .int))) 0 (((y30.2.1.set a2.toNat (5, ((a1_1.length : Nat) : Int), 0, 0)) ++ ([y34])).length)), (.own (913, 3) .int 0 y30.2.2.length)]) (by kernel_rfl) ?_
        refine dnil (by kernel_rfl) (tn_ ?_)
        refine awp_seqB h (fun t_ S_ => ∃ (l36_m7 : Bool), ∃ (l36_m6_0 : Int), ∃ (l36_m6_1 : List (Int × Int × Int × Int)), ∃ (l36_m6_2 : List Int), t_ = (l36_m7, l36_m6_0, l36_m6_1, l36_m6_2) ∧ S_ = ⟨mkTm [(6, (.box (0, 1) 0)), (7, (.bool l36_m7))], mkOb (someL [((0, 1), .cells 31 [(.int .i64 l36_m6_0), (.own (1, 1) (.pair .int (.pair .int (.pair .int .int))) 0 l36_m6_1.length), (.own (2, 1) .int 0 l36_m6_2.length)]), ((1, 1), .arr 51 (.pair .int (.pair .int (.pair .int .int))) l36_m6_1), ((2, 1), .arr 3 .int l36_m6_2)]), 2⟩) ?_ ?_
        · intro v_ h
          obtain ⟨y37, h37, h⟩ := ob_some h
          rcases y37 with z37_0 | z37_1
          · (try simp only [Sum.elim_inl, Sum.elim_inr] at h)
            refine awp_region_ 31 (by kernel_rfl) ?_
            refine rs0 (.int .i64 a0) (by kernel_rfl) ?_
            refine rsl (.agg [(.int .i64 y30.1), (.own (912, 21) (.pair .int (.pair .int (.pair .int .int))) 0 (((y30.2.1.set a2.toNat (5, ((a1_1.length : Nat) : Int), 0, 0)) ++ ([y34])).length)), (.own (913, 3) .int 0 y30.2.2.length)]) (by kernel_rfl) ?_
            refine rcall (.tup [(.agg [(.int .i64 z37_0.1), .nils, .nils]), (.bool z37_0.2)]) [] [(.int .i64 a0), (.agg [(.int .i64 y30.1), (.own (912, 21) (.pair .int (.pair .int (.pair .int .int))) 0 (((y30.2.1.set a2.toNat (5, ((a1_1.length : Nat) : Int), 0, 0)) ++ ([y34])).length)), (.own (913, 3) .int 0 y30.2.2.length)])] _ (caps := []) (args0 := [(.int .i64 a0), (.agg [(.int .i64 y30.1), (.tree (.pair .int (.pair .int (.pair .int .int))) ((y30.2.1.set a2.toNat (5, ((a1_1.length : Nat) : Int), 0, 0)) ++ ([y34]))), (.tree .int y30.2.2)])]) trivial (by kernel_rfl) (by kernel_rfl) (gm_cons (by kernel_rfl) (gm_cons (gd_agg (gm_cons (by kernel_rfl) (gm_cons (gd_own (e := 51) (by kernel_rfl) rfl) (gm_cons (gd_own (e := 3) (by kernel_rfl) rfl) gm_nil)))) gm_nil)) (by kernel_rfl) (ok_impl_validCircuit h37) hb_impl_validCircuit (by kernel_rfl) ?_
            refine rs0 (.agg [(.int .i64 z37_0.1), .nils, .nils]) (by kernel_rfl) ?_
            refine rs0 (.bool z37_0.2) (by kernel_rfl) ?_
            refine rsn2 (1, 1) (1, 1) (.cells 31 [(.int .i64 z37_0.1), .nils, .nils]) (by kernel_rfl) ?_
            refine rs0 (.bool z37_0.2) (by kernel_rfl) ?_
            refine rnil (tn_ ?_)
            obtain rfl := Option.some.inj h
            exact ⟨_, ((weak_nil_cell_ 9000 (1, 1) 1 31 [(.int .i64 z37_0.1), .nils, .nils] [(.int .i64 z37_0.1), (.own (9000, 31) (.pair .int (.pair .int (.pair .int .int))) 0 0), .nils] 51 (.pair .int (.pair .int (.pair .int .int))) rfl (by kernel_rfl) (by kernel_rfl) (by kernel_rfl)).trans ((weak_nil_cell_ 9001 (1, 1) 2 31 [(.int .i64 z37_0.1), (.own (9000, 31) (.pair .int (.pair .int (.pair .int .int))) 0 0), .nils] [(.int .i64 z37_0.1), (.own (9000, 31) (.pair .int (.pair .int (.pair .int .int))) 0 0), (.own (9001, 32) .int 0 0)] 3 .int rfl (by kernel_rfl) (by kernel_rfl) (by kernel_rfl)).trans (weak_ren (renF [((0, 1), (1, 1)), ((1, 1), (9000, 31)), ((2, 1), (9001, 32))]) (by kernel_rfl) (by kernel_rfl) (by kernel_rfl)))), ⟨z37_0.2, z37_0.1, [], [], rfl, rfl⟩⟩
          · (try simp only [Sum.elim_inl, Sum.elim_inr] at h)
            refine awp_region_ 31 (by kernel_rfl) ?_
            refine rs0 (.int .i64 a0) (by kernel_rfl) ?_
            refine rsl (.agg [(.int .i64 y30.1), (.own (912, 21) (.pair .int (.pair .int (.pair .int .int))) 0 (((y30.2.1.set a2.toNat (5, ((a1_1.length : Nat) : Int), 0, 0)) ++ ([y34])).length)), (.own (913, 3) .int 0 y30.2.2.length)]) (by kernel_rfl) ?_
            refine rcall (.tup [(.agg [(.int .i64 z37_1.1), (.own (912, 21) (.pair .int (.pair .int (.pair .int .int))) 0 (((y30.2.1.set a2.toNat (5, ((a1_1.length : Nat) : Int), 0, 0)) ++ ([y34])).length)), (.own (913, 3) .int 0 y30.2.2.length)]), (.bool z37_1.2)]) [] [(.int .i64 a0), (.agg [(.int .i64 y30.1), (.own (912, 21) (.pair .int (.pair .int (.pair .int .int))) 0 (((y30.2.1.set a2.toNat (5, ((a1_1.length : Nat) : Int), 0, 0)) ++ ([y34])).length)), (.own (913, 3) .int 0 y30.2.2.length)])] _ (caps := []) (args0 := [(.int .i64 a0), (.agg [(.int .i64 y30.1), (.tree (.pair .int (.pair .int (.pair .int .int))) ((y30.2.1.set a2.toNat (5, ((a1_1.length : Nat) : Int), 0, 0)) ++ ([y34]))), (.tree .int y30.2.2)])]) trivial (by kernel_rfl) (by kernel_rfl) (gm_cons (by kernel_rfl) (gm_cons (gd_agg (gm_cons (by kernel_rfl) (gm_cons (gd_own (e := 51) (by kernel_rfl) rfl) (gm_cons (gd_own (e := 3) (by kernel_rfl) rfl) gm_nil)))) gm_nil)) (by kernel_rfl) (ok_impl_validCircuit h37) hb_impl_validCircuit (by kernel_rfl) ?_
            refine rs0 (.agg [(.int .i64 z37_1.1), (.own (912, 21) (.pair .int (.pair .int (.pair .int .int))) 0 (((y30.2.1.set a2.toNat (5, ((a1_1.length : Nat) : Int), 0, 0)) ++ ([y34])).length)), (.own (913, 3) .int 0 y30.2.2.length)]) (by kernel_rfl) ?_
            refine rs0 (.bool z37_1.2) (by kernel_rfl) ?_
            refine rsn2 (1, 1) (1, 1) (.cells 31 [(.int .i64 z37_1.1), (.own (912, 21) (.pair .int (.pair .int (.pair .int .int))) 0 (((y30.2.1.set a2.toNat (5, ((a1_1.length : Nat) : Int), 0, 0)) ++ ([y34])).length)), (.own (913, 3) .int 0 y30.2.2.length)]) (by kernel_rfl) ?_
            refine rs0 (.bool z37_1.2) (by kernel_rfl) ?_
            refine rnil (tn_ ?_)
            obtain rfl := Option.some.inj h
            exact ⟨_, (weak_ren (renF [((0, 1), (1, 1)), ((1, 1), (912, 21)), ((2, 1), (913, 3))]) (by kernel_rfl) (by kernel_rfl) (by kernel_rfl)), ⟨z37_1.2, z37_1.1, (y30.2.1.set a2.toNat (5, ((a1_1.length : Nat) : Int), 0, 0)) ++ ([y34]), y30.2.2, rfl, rfl⟩⟩
        · rintro _ _ ⟨l36_m7, l36_m6_0, l36_m6_1, l36_m6_2, rfl, rfl⟩ h
          (try dsimp only at h)
          refine awp_ret_ ?_
          obtain rfl := Option.some.inj h
          exact ret_ [(.agg [(.int .i64 l36_m6_0), (.own (1, 1) (.pair .int (.pair .int (.pair .int .int))) 0 l36_m6_1.length), (.own (2, 1) .int 0 l36_m6_2.length)]), (.bool l36_m7)] (by simp) (by kernel_rfl) (p_agg (l_cons (l_sc (by kernel_rfl)) (l_cons (l_own (by kernel_rfl) rfl) (l_cons (l_own (by kernel_rfl) rfl) l_nil))) (p_one rfl (l_sc (by kernel_rfl)) p_nil)) (by kernel_rfl) (by kernel_rfl)
def m_laws_FnExactRetimeGate : AC :=
  (.seq (.region [⟨(some 4), none, (.i (.box 25 (.tmp 1)))⟩, ⟨(some 6), none, (.i (.mov (.cst (.bool false))))⟩] false [])
  (.seq (.region [⟨(some 7), none, (.i (.mov (.cst (.int .i64 1048576))))⟩] false [])
  (.seq (.region [⟨(some 18), none, (.i (.ld false 3 (.tmp 4)))⟩, ⟨(some 19), none, (.i (.mov (.tmp 7)))⟩, ⟨(some 20), none, (.call (.cst (.fn 10 [])) [(.tmp 18), (.tmp 19)] [[none, (some (.pair .int (.pair .int (.pair .int .int)))), (some .int)], []])⟩, ⟨(some 7), none, (.i (.mov (.tmp 20)))⟩] false [])
  (.seq (.seq (.region [⟨(some 21), none, (.i (.mov (.tmp 7)))⟩, ⟨(some 22), none, (.i (.bin .lss (.tmp 21) (.cst (.int .i64 0))))⟩] false [])
  (.cond (.tmp 22)
    (.seq (.region [⟨(some 6), none, (.i (.mov (.cst (.bool true))))⟩] false [])
    .ret)
    .skip))
  (.seq (.region [⟨(some 24), none, (.i (.mov (.tmp 0)))⟩, ⟨(some 25), none, (.i (.ld false 3 (.tmp 4)))⟩, ⟨(some 26), none, (.call (.cst (.fn 12 [])) [(.tmp 25)] [[none, (some (.pair .int (.pair .int (.pair .int .int)))), (some .int)]])⟩, ⟨(some 27), none, (.i (.mov (.tmp 2)))⟩, ⟨(some 28), none, (.call (.cst (.fn 24 [])) [(.tmp 24), (.tmp 26), (.tmp 27)] [[], [none, (some (.pair .int (.pair .int (.pair .int .int)))), (some .int)], []])⟩, ⟨(some 23), none, (.i (.mov (.tmp 28)))⟩, ⟨(some 29), none, (.i (.extr 0 (.tmp 23)))⟩, ⟨(some 30), none, (.i (.extr 1 (.tmp 23)))⟩, ⟨(some 8), none, (.i (.alloc 31 [(.int .i64 0), .nils, .nils]))⟩, ⟨none, none, (.st false 3 (.tmp 8) (.tmp 29))⟩, ⟨(some 9), none, (.i (.mov (.tmp 30)))⟩] false [])
  (.seq (.region [⟨(some 31), none, (.i (.ld false 3 (.tmp 4)))⟩, ⟨(some 32), none, (.call (.cst (.fn 12 [])) [(.tmp 31)] [[none, (some (.pair .int (.pair .int (.pair .int .int)))), (some .int)]])⟩, ⟨(some 10), none, (.i (.alloc 31 [(.int .i64 0), .nils, .nils]))⟩, ⟨none, none, (.st false 3 (.tmp 10) (.tmp 32))⟩] false [])
  (.seq (.region [⟨(some 34), none, (.i (.mov (.tmp 0)))⟩, ⟨(some 35), none, (.i (.ld false 3 (.tmp 10)))⟩, ⟨(some 36), none, (.i (.mov (.tmp 2)))⟩, ⟨(some 37), none, (.call (.cst (.fn 25 [])) [(.tmp 34), (.tmp 35), (.tmp 36)] [[], [none, (some (.pair .int (.pair .int (.pair .int .int)))), (some .int)], []])⟩, ⟨(some 33), none, (.i (.mov (.tmp 37)))⟩, ⟨(some 38), none, (.i (.extr 0 (.tmp 33)))⟩, ⟨(some 39), none, (.i (.extr 1 (.tmp 33)))⟩, ⟨(some 11), none, (.i (.alloc 31 [(.int .i64 0), .nils, .nils]))⟩, ⟨none, none, (.st false 3 (.tmp 11) (.tmp 38))⟩, ⟨(some 12), none, (.i (.mov (.tmp 39)))⟩] false [])
  (.seq (.seq (.region [⟨(some 40), none, (.i (.ld false 3 (.tmp 11)))⟩, ⟨(some 41), none, (.i (.ld false 3 (.tmp 8)))⟩, ⟨(some 42), none, (.call (.cst (.fn 15 [])) [(.tmp 40), (.tmp 41)] [[none, (some (.pair .int (.pair .int (.pair .int .int)))), (some .int)], [none, (some (.pair .int (.pair .int (.pair .int .int)))), (some .int)]])⟩, ⟨(some 43), none, (.i (.not (.tmp 42)))⟩, ⟨(some 44), none, (.i (.mov (.tmp 43)))⟩, ⟨(some 45), (some (44, false)), (.i (.mov (.tmp 12)))⟩, ⟨(some 46), (some (44, false)), (.i (.mov (.tmp 9)))⟩, ⟨(some 47), (some (44, false)), (.i (.cmp true 0 (.tmp 45) (.tmp 46)))⟩, ⟨(some 48), none, (.i (.pick (.tmp 44) (.cst (.bool true)) (.tmp 47)))⟩] false [])
  (.cond (.tmp 48)
    (.seq (.region [⟨(some 6), none, (.i (.mov (.cst (.bool false))))⟩] false [])
    .ret)
    .skip))
  (.seq (.seq (.region [⟨(some 49), none, (.i (.ld false 3 (.tmp 10)))⟩, ⟨(some 50), none, (.i (.ld false 3 (.tmp 4)))⟩, ⟨(some 51), none, (.call (.cst (.fn 12 [])) [(.tmp 50)] [[none, (some (.pair .int (.pair .int (.pair .int .int)))), (some .int)]])⟩, ⟨(some 52), none, (.call (.cst (.fn 15 [])) [(.tmp 49), (.tmp 51)] [[none, (some (.pair .int (.pair .int (.pair .int .int)))), (some .int)], [none, (some (.pair .int (.pair .int (.pair .int .int)))), (some .int)]])⟩, ⟨(some 53), none, (.i (.not (.tmp 52)))⟩] true [(0, 2)])
  (.cond (.tmp 53)
    (.seq (.region [⟨(some 6), none, (.i (.mov (.cst (.bool false))))⟩] false [])
    .ret)
    .skip))
  (.seq (.region [⟨(some 13), none, (.i (.mov (.cst (.int .i64 1))))⟩] false [])
  (.seq (.region [⟨(some 54), none, (.i (.ld false 3 (.tmp 10)))⟩, ⟨(some 55), none, (.i (.mov (.tmp 13)))⟩, ⟨(some 56), none, (.call (.cst (.fn 16 [])) [(.tmp 54), (.tmp 55)] [[none, (some (.pair .int (.pair .int (.pair .int .int)))), (some .int)], []])⟩, ⟨(some 13), none, (.i (.mov (.tmp 56)))⟩] false [])
  (.seq (.seq (.region [⟨(some 57), none, (.i (.mov (.tmp 13)))⟩, ⟨(some 58), none, (.i (.bin .lss (.tmp 57) (.cst (.int .i64 0))))⟩, ⟨(some 59), none, (.i (.mov (.tmp 58)))⟩, ⟨(some 60), (some (59, false)), (.i (.ld false 3 (.tmp 11)))⟩, ⟨(some 61), (some (59, false)), (.i (.ld false 3 (.tmp 8)))⟩, ⟨(some 62), (some (59, false)), (.call (.cst (.fn 15 [])) [(.tmp 60), (.tmp 61)] [[none, (some (.pair .int (.pair .int (.pair .int .int)))), (some .int)], [none, (some (.pair .int (.pair .int (.pair .int .int)))), (some .int)]])⟩, ⟨(some 63), (some (59, false)), (.i (.not (.tmp 62)))⟩, ⟨(some 64), none, (.i (.pick (.tmp 59) (.cst (.bool true)) (.tmp 63)))⟩, ⟨(some 65), none, (.i (.mov (.tmp 64)))⟩, ⟨(some 66), (some (65, false)), (.i (.mov (.tmp 12)))⟩, ⟨(some 67), (some (65, false)), (.i (.mov (.tmp 9)))⟩, ⟨(some 68), (some (65, false)), (.i (.cmp true 0 (.tmp 66) (.tmp 67)))⟩, ⟨(some 69), none, (.i (.pick (.tmp 65) (.cst (.bool true)) (.tmp 68)))⟩] false [])
  (.cond (.tmp 69)
    (.seq (.region [⟨(some 6), none, (.i (.mov (.cst (.bool false))))⟩] false [])
    .ret)
    .skip))
  (.seq (.region [⟨(some 14), none, (.i (.mov (.cst (.int .i64 1))))⟩] false [])
  (.seq (.region [⟨(some 70), none, (.i (.ld false 3 (.tmp 11)))⟩, ⟨(some 71), none, (.i (.mov (.tmp 14)))⟩, ⟨(some 72), none, (.call (.cst (.fn 16 [])) [(.tmp 70), (.tmp 71)] [[none, (some (.pair .int (.pair .int (.pair .int .int)))), (some .int)], []])⟩, ⟨(some 14), none, (.i (.mov (.tmp 72)))⟩] false [])
  (.seq (.region [⟨(some 15), none, (.i (.mov (.cst (.int .i64 1))))⟩] false [])
  (.seq (.region [⟨(some 73), none, (.i (.ld false 3 (.tmp 11)))⟩, ⟨(some 74), none, (.i (.mov (.tmp 15)))⟩, ⟨(some 75), none, (.call (.cst (.fn 21 [])) [(.tmp 73), (.tmp 74)] [[none, (some (.pair .int (.pair .int (.pair .int .int)))), (some .int)], []])⟩, ⟨(some 15), none, (.i (.mov (.tmp 75)))⟩] false [])
  (.seq (.seq (.region [⟨(some 76), none, (.i (.mov (.tmp 15)))⟩, ⟨(some 77), none, (.i (.bin .lss (.tmp 76) (.cst (.int .i64 0))))⟩] false [])
  (.cond (.tmp 77)
    (.seq (.region [⟨(some 6), none, (.i (.mov (.cst (.bool false))))⟩] false [])
    .ret)
    .skip))
  (.seq (.seq (.region [⟨(some 78), none, (.i (.mov (.tmp 15)))⟩, ⟨(some 79), none, (.i (.mov (.tmp 14)))⟩, ⟨(some 80), none, (.i (.bin .neq (.tmp 78) (.tmp 79)))⟩] false [])
  (.cond (.tmp 80)
    (.seq (.region [⟨(some 6), none, (.i (.mov (.cst (.bool false))))⟩] false [])
    .ret)
    .skip))
  (.seq (.region [⟨(some 82), none, (.i (.mov (.tmp 0)))⟩, ⟨(some 83), none, (.i (.ld false 3 (.tmp 4)))⟩, ⟨(some 84), none, (.call (.cst (.fn 12 [])) [(.tmp 83)] [[none, (some (.pair .int (.pair .int (.pair .int .int)))), (some .int)]])⟩, ⟨(some 85), none, (.i (.mov (.tmp 2)))⟩, ⟨(some 86), none, (.call (.cst (.fn 25 [])) [(.tmp 82), (.tmp 84), (.tmp 85)] [[], [none, (some (.pair .int (.pair .int (.pair .int .int)))), (some .int)], []])⟩, ⟨(some 81), none, (.i (.mov (.tmp 86)))⟩, ⟨(some 87), none, (.i (.extr 0 (.tmp 81)))⟩, ⟨(some 88), none, (.i (.extr 1 (.tmp 81)))⟩, ⟨(some 16), none, (.i (.alloc 31 [(.int .i64 0), .nils, .nils]))⟩, ⟨none, none, (.st false 3 (.tmp 16) (.tmp 87))⟩, ⟨(some 17), none, (.i (.mov (.tmp 88)))⟩] false [])
  (.seq (.seq (.region [⟨(some 89), none, (.i (.ld false 3 (.tmp 16)))⟩, ⟨(some 90), none, (.i (.ld false 3 (.tmp 8)))⟩, ⟨(some 91), none, (.call (.cst (.fn 15 [])) [(.tmp 89), (.tmp 90)] [[none, (some (.pair .int (.pair .int (.pair .int .int)))), (some .int)], [none, (some (.pair .int (.pair .int (.pair .int .int)))), (some .int)]])⟩, ⟨(some 92), none, (.i (.not (.tmp 91)))⟩, ⟨(some 93), none, (.i (.mov (.tmp 92)))⟩, ⟨(some 94), (some (93, false)), (.i (.mov (.tmp 17)))⟩, ⟨(some 95), (some (93, false)), (.i (.mov (.tmp 9)))⟩, ⟨(some 96), (some (93, false)), (.i (.cmp true 0 (.tmp 94) (.tmp 95)))⟩, ⟨(some 97), none, (.i (.pick (.tmp 93) (.cst (.bool true)) (.tmp 96)))⟩] false [])
  (.cond (.tmp 97)
    (.seq (.region [⟨(some 6), none, (.i (.mov (.cst (.bool false))))⟩] false [])
    .ret)
    .skip))
  (.seq (.region [⟨(some 15), none, (.i (.mov (.cst (.int .i64 1))))⟩] false [])
  (.seq (.region [⟨(some 98), none, (.i (.ld false 3 (.tmp 11)))⟩, ⟨(some 99), none, (.i (.mov (.tmp 15)))⟩, ⟨(some 100), none, (.call (.cst (.fn 21 [])) [(.tmp 98), (.tmp 99)] [[none, (some (.pair .int (.pair .int (.pair .int .int)))), (some .int)], []])⟩, ⟨(some 15), none, (.i (.mov (.tmp 100)))⟩] false [])
  (.seq (.seq (.region [⟨(some 101), none, (.i (.mov (.tmp 15)))⟩, ⟨(some 102), none, (.i (.bin .lss (.tmp 101) (.cst (.int .i64 0))))⟩] false [])
  (.cond (.tmp 102)
    (.seq (.region [⟨(some 6), none, (.i (.mov (.cst (.bool false))))⟩] false [])
    .ret)
    .skip))
  (.seq (.seq (.region [⟨(some 103), none, (.i (.mov (.tmp 15)))⟩, ⟨(some 104), none, (.i (.mov (.tmp 14)))⟩, ⟨(some 105), none, (.i (.bin .neq (.tmp 103) (.tmp 104)))⟩] false [])
  (.cond (.tmp 105)
    (.seq (.region [⟨(some 6), none, (.i (.mov (.cst (.bool false))))⟩] false [])
    .ret)
    .skip))
  (.seq (.region [⟨(some 6), none, (.i (.mov (.cst (.bool true))))⟩] false [])
  .ret)))))))))))))))))))))))))
def r_laws_FnExactRetimeGate : List Res := [.tmp 6]
theorem c_laws_FnExactRetimeGate : compiled Tryd.prog Tryd.f6 = some (m_laws_FnExactRetimeGate, r_laws_FnExactRetimeGate) := by kernel_rfl
theorem hb_laws_FnExactRetimeGate : hasBody Tryd.prog 6 = true := by kernel_rfl
def L_laws_FnExactRetimeGate (a0 : Int) (a1_0 : Int) (a1_1 : List (Int × Int × Int × Int)) (a1_2 : List Int) (a2 : Int) : Option Bool :=
  Option.bind (L_laws_szCircuit a1_0 a1_1 a1_2 1048576) fun y4 =>
cond (decide (y4 < 0))
  (some true)
  (Option.bind (L_laws_toCircuit a1_0 a1_1 a1_2) fun y10 =>
  Option.bind (L_spec_RetimeGate a0 y10.1 y10.2.1 y10.2.2 a2) fun y11 =>
  Option.bind (L_laws_toCircuit a1_0 a1_1 a1_2) fun y13 =>
  Option.bind (L_impl_RetimeGate a0 y13.1 y13.2.1 y13.2.2 a2) fun y15 =>
  Option.bind (Option.bind (L_laws_eqCircuit y15.1 y15.2.1 y15.2.2.1 y11.1 y11.2.1 y11.2.2.1) fun y18 =>
    cond (!y18)
      (some true)
      (some (y15.2.2.2 != y11.2.2.2))) fun l17_m48 =>
  cond l17_m48
    (some false)
    (Option.bind (L_laws_toCircuit a1_0 a1_1 a1_2) fun y24 =>
    Option.bind (L_laws_eqCircuit y13.1 y13.2.1 y13.2.2 y24.1 y24.2.1 y24.2.2) fun y25 =>
    cond (!y25)
      (some false)
      (Option.bind (L_laws_markCircuit y13.1 y13.2.1 y13.2.2 1) fun y30 =>
      og (y30.1.length = y13.2.1.length) <|
      og (y30.2.1.length = y13.2.2.length) <|
      Option.bind (cond (decide (y30.2.2 < 0))
          (some true)
          (Option.bind (L_laws_eqCircuit y15.1 y15.2.1 y15.2.2.1 y11.1 y11.2.1 y11.2.2.1) fun y36 =>
          cond (!y36)
            (some true)
            (some (y15.2.2.2 != y11.2.2.2)))) fun l34_m69 =>
      cond l34_m69
        (some false)
        (Option.bind (L_laws_markCircuit y15.1 y15.2.1 y15.2.2.1 1) fun y42 =>
        og (y42.1.length = y15.2.1.length) <|
        og (y42.2.1.length = y15.2.2.1.length) <|
        Option.bind (L_laws_heldCircuit y15.1 y42.1 y42.2.1 1) fun y47 =>
        cond (decide (y47 < 0))
          (some false)
          (cond (y47 != y42.2.2)
            (some false)
            (Option.bind (L_laws_toCircuit a1_0 a1_1 a1_2) fun y57 =>
            Option.bind (L_impl_RetimeGate a0 y57.1 y57.2.1 y57.2.2 a2) fun y58 =>
            Option.bind (Option.bind (L_laws_eqCircuit y58.1 y58.2.1 y58.2.2.1 y11.1 y11.2.1 y11.2.2.1) fun y61 =>
              cond (!y61)
                (some true)
                (some (y58.2.2.2 != y11.2.2.2))) fun l60_m97 =>
            cond l60_m97
              (some false)
              (Option.bind (L_laws_heldCircuit y15.1 y42.1 y42.2.1 1) fun y67 =>
              cond (decide (y67 < 0))
                (some false)
                (cond (y67 != y42.2.2)
                  (some false)
                  (some true)))))))))
def rv_laws_FnExactRetimeGate (r : Bool) : RV := ⟨false, [(false, [.sc (.bool r)])]⟩
theorem ok_laws_FnExactRetimeGate {a0 : Int} {a1_0 : Int} {a1_1 : List (Int × Int × Int × Int)} {a1_2 : List Int} {a2 : Int} {r : Bool} (h : L_laws_FnExactRetimeGate a0 a1_0 a1_1 a1_2 a2 = some r) : CallOK Tryd.prog Tab 6 [(.int .i64 a0), (.agg [(.int .i64 a1_0), (.tree (.pair .int (.pair .int (.pair .int .int))) a1_1), (.tree .int a1_2)]), (.int .i64 a2)] (rv_laws_FnExactRetimeGate r) := by
  refine call_of_ (by kernel_rfl) Tryd.func6 c_laws_FnExactRetimeGate (n := 106) (by kernel_rfl) (by simp) (tl := [(0, (.int .i64 a0)), (1, (.agg [(.int .i64 a1_0), (.tree (.pair .int (.pair .int (.pair .int .int))) a1_1), (.tree .int a1_2)])), (2, (.int .i64 a2))]) rfl ?_
  unfold m_laws_FnExactRetimeGate
  unfold L_laws_FnExactRetimeGate at h
  refine awp_seq_ ?_
  refine awp_region_ 3 (by kernel_rfl) ?_
  refine rs1 (.box (4, 1) 0) (4, 1) (.cells 25 [(.int .i64 a1_0), (.tree (.pair .int (.pair .int (.pair .int .int))) a1_1), (.tree .int a1_2)]) (by kernel_rfl) ?_
  refine rs0 (.bool false) (by kernel_rfl) ?_
  refine rnil (tn_ ?_)
  refine awp_seq_ ?_
  refine awp_region_ 4 (by kernel_rfl) ?_
  refine rs0 (.int .i64 1048576) (by kernel_rfl) ?_
  refine rnil (tn_ ?_)
  refine awp_seq_ ?_
  obtain ⟨y4, h4, h⟩ := ob_some h
  refine awp_region_ 8 (by kernel_rfl) ?_
  refine rsl (.agg [(.int .i64 a1_0), (.tree (.pair .int (.pair .int (.pair .int .int))) a1_1), (.tree .int a1_2)]) (by kernel_rfl) ?_
  refine rs0 (.int .i64 1048576) (by kernel_rfl) ?_
  refine rcall (.int .i64 y4) [] [(.agg [(.int .i64 a1_0), (.tree (.pair .int (.pair .int (.pair .int .int))) a1_1), (.tree .int a1_2)]), (.int .i64 1048576)] _ (caps := []) (args0 := [(.agg [(.int .i64 a1_0), (.tree (.pair .int (.pair .int (.pair .int .int))) a1_1), (.tree .int a1_2)]), (.int .i64 1048576)]) trivial (by kernel_rfl) (by kernel_rfl) (by kernel_rfl) (by kernel_rfl) (ok_laws_szCircuit h4) hb_laws_szCircuit (by kernel_rfl) ?_
  refine rs0 (.int .i64 y4) (by kernel_rfl) ?_
  refine rnil (tn_ ?_)
  refine awp_seq_ ?_
  refine awp_seq_ ?_
  refine awp_region_ 10 (by kernel_rfl) ?_
  refine rs0 (.int .i64 y4) (by kernel_rfl) ?_
  refine rs0 (.bool (decide (y4 < 0))) (by kernel_rfl) ?_
  refine rnil (tn_ ?_)
  rcases cond_some h with ⟨q7, h⟩ | ⟨q7, h⟩
  · have q7_ := of_decide_eq_true q7
    refine awp_condT_ q7 (by kernel_rfl) ?_
    refine awp_seq_ ?_
    refine awp_region_ 11 (by kernel_rfl) ?_
    refine rs0 (.bool true) (by kernel_rfl) ?_
    refine rnil (tn_ ?_)
    refine awp_ret_ (tr_ ?_)
    obtain rfl := Option.some.inj h
    exact ret_ [(.bool true)] (by simp) (by kernel_rfl) (p_one rfl (l_sc (by kernel_rfl)) p_nil) (by kernel_rfl) (by kernel_rfl)
  · have q7_ := of_decide_eq_false q7
    refine awp_condF_ q7 (by kernel_rfl) ?_
    refine awp_skip_ (tn_ ?_)
    refine awp_seq_ ?_
    obtain ⟨y10, h10, h⟩ := ob_some h
    obtain ⟨y11, h11, h⟩ := ob_some h
    refine awp_region_ 21 (by kernel_rfl) ?_
    refine rs0 (.int .i64 a0) (by kernel_rfl) ?_
    refine rsl (.agg [(.int .i64 a1_0), (.tree (.pair .int (.pair .int (.pair .int .int))) a1_1), (.tree .int a1_2)]) (by kernel_rfl) ?_
    refine rcall (.agg [(.int .i64 y10.1), (.own (416, 12) (.pair .int (.pair .int (.pair .int .int))) 0 y10.2.1.length), (.own (417, 12) .int 0 y10.2.2.length)]) [((416, 12), some (.arr 51 (.pair .int (.pair .int (.pair .int .int))) y10.2.1)), ((417, 12), some (.arr 3 .int y10.2.2))] [(.agg [(.int .i64 a1_0), (.tree (.pair .int (.pair .int (.pair .int .int))) a1_1), (.tree .int a1_2)])] _ (caps := []) (args0 := [(.agg [(.int .i64 a1_0), (.tree (.pair .int (.pair .int (.pair .int .int))) a1_1), (.tree .int a1_2)])]) trivial (by kernel_rfl) (by kernel_rfl) (by kernel_rfl) (by kernel_rfl) (ok_laws_toCircuit h10) hb_laws_toCircuit (by kernel_rfl) ?_
    refine rs0 (.int .i64 a2) (by kernel_rfl) ?_
    refine rcall (.tup [(.agg [(.int .i64 y11.1), (.own (448, 14) (.pair .int (.pair .int (.pair .int .int))) 0 y11.2.1.length), (.own (449, 14) .int 0 y11.2.2.1.length)]), (.bool y11.2.2.2)]) [((448, 14), some (.arr 51 (.pair .int (.pair .int (.pair .int .int))) y11.2.1)), ((449, 14), some (.arr 3 .int y11.2.2.1))] [(.int .i64 a0), (.agg [(.int .i64 y10.1), (.own (416, 12) (.pair .int (.pair .int (.pair .int .int))) 0 y10.2.1.length), (.own (417, 12) .int 0 y10.2.2.length)]), (.int .i64 a2)] _ (caps := []) (args0 := [(.int .i64 a0), (.agg [(.int .i64 y10.1), (.tree (.pair .int (.pair .int (.pair .int .int))) y10.2.1), (.tree .int y10.2.2)]), (.int .i64 a2)]) trivial (by kernel_rfl) (by kernel_rfl) (gm_cons (by kernel_rfl) (gm_cons (gd_agg (gm_cons (by kernel_rfl) (gm_cons (gd_own (e := 51) (by kernel_rfl) rfl) (gm_cons (gd_own (e := 3) (by kernel_rfl) rfl) gm_nil)))) (gm_cons (by kernel_rfl) gm_nil))) (by kernel_rfl) (ok_spec_RetimeGate h11) hb_spec_RetimeGate (by kernel_rfl) ?_
    refine rs0 (.tup [(.agg [(.int .i64 y11.1), (.own (448, 14) (.pair .int (.pair .int (.pair .int .int))) 0 y11.2.1.length), (.own (449, 14) .int 0 y11.2.2.1.length)]), (.bool y11.2.2.2)]) (by kernel_rfl) ?_
    refine rs0 (.agg [(.int .i64 y11.1), (.own (448, 14) (.pair .int (.pair .int (.pair .int .int))) 0 y11.2.1.length), (.own (449, 14) .int 0 y11.2.2.1.length)]) (by kernel_rfl) ?_
    refine rs0 (.bool y11.2.2.2) (by kernel_rfl) ?_
    refine rs1 (.box (8, 18) 0) (8, 18) (.cells 31 [(.int .i64 0), .nils, .nils]) (by kernel_rfl) ?_
    refine rsn2 (8, 18) (8, 18) (.cells 31 [(.int .i64 y11.1), (.own (448, 14) (.pair .int (.pair .int (.pair .int .int))) 0 y11.2.1.length), (.own (449, 14) .int 0 y11.2.2.1.length)]) (by kernel_rfl) ?_
    refine rs0 (.bool y11.2.2.2) (by kernel_rfl) ?_
    refine rnil (tn_ ?_)
    refine awp_seq_ ?_
    obtain ⟨y13, h13, h⟩ := ob_some h
    refine awp_region_ 25 (by kernel_rfl) ?_
    refine rsl (.agg [(.int .i64 a1_0), (.tree (.pair .int (.pair .int (.pair .int .int))) a1_1), (.tree .int a1_2)]) (by kernel_rfl) ?_
    refine rcall (.agg [(.int .i64 y13.1), (.own (512, 22) (.pair .int (.pair .int (.pair .int .int))) 0 y13.2.1.length), (.own (513, 22) .int 0 y13.2.2.length)]) [((512, 22), some (.arr 51 (.pair .int (.pair .int (.pair .int .int))) y13.2.1)), ((513, 22), some (.arr 3 .int y13.2.2))] [(.agg [(.int .i64 a1_0), (.tree (.pair .int (.pair .int (.pair .int .int))) a1_1), (.tree .int a1_2)])] _ (caps := []) (args0 := [(.agg [(.int .i64 a1_0), (.tree (.pair .int (.pair .int (.pair .int .int))) a1_1), (.tree .int a1_2)])]) trivial (by kernel_rfl) (by kernel_rfl) (by kernel_rfl) (by kernel_rfl) (ok_laws_toCircuit h13) hb_laws_toCircuit (by kernel_rfl) ?_
    refine rs1 (.box (10, 23) 0) (10, 23) (.cells 31 [(.int .i64 0), .nils, .nils]) (by kernel_rfl) ?_
    refine rsn2 (10, 23) (10, 23) (.cells 31 [(.int .i64 y13.1), (.own (512, 22) (.pair .int (.pair .int (.pair .int .int))) 0 y13.2.1.length), (.own (513, 22) .int 0 y13.2.2.length)]) (by kernel_rfl) ?_
    refine rnil (tn_ ?_)
    refine awp_seq_ ?_
    obtain ⟨y15, h15, h⟩ := ob_some h
    refine awp_region_ 35 (by kernel_rfl) ?_
    refine rs0 (.int .i64 a0) (by kernel_rfl) ?_
    refine rsl (.agg [(.int .i64 y13.1), (.own (512, 22) (.pair .int (.pair .int (.pair .int .int))) 0 y13.2.1.length), (.own (513, 22) .int 0 y13.2.2.length)]) (by kernel_rfl) ?_
    refine rs0 (.int .i64 a2) (by kernel_rfl) ?_
    refine rcall (.tup [(.agg [(.int .i64 y15.1), (.own (592, 28) (.pair .int (.pair .int (.pair .int .int))) 0 y15.2.1.length), (.own (593, 28) .int 0 y15.2.2.1.length)]), (.bool y15.2.2.2)]) [((592, 28), some (.arr 51 (.pair .int (.pair .int (.pair .int .int))) y15.2.1)), ((593, 28), some (.arr 3 .int y15.2.2.1))] [(.int .i64 a0), (.agg [(.int .i64 y13.1), (.own (512, 22) (.pair .int (.pair .int (.pair .int .int))) 0 y13.2.1.length), (.own (513, 22) .int 0 y13.2.2.length)]), (.int .i64 a2)] _ (caps := []) (args0 := [(.int .i64 a0), (.agg [(.int .i64 y13.1), (.tree (.pair .int (.pair .int (.pair .int .int))) y13.2.1), (.tree .int y13.2.2)]), (.int .i64 a2)]) trivial (by kernel_rfl) (by kernel_rfl) (gm_cons (by kernel_rfl) (gm_cons (gd_agg (gm_cons (by kernel_rfl) (gm_cons (gd_own (e := 51) (by kernel_rfl) rfl) (gm_cons (gd_own (e := 3) (by kernel_rfl) rfl) gm_nil)))) (gm_cons (by kernel_rfl) gm_nil))) (by kernel_rfl) (ok_impl_RetimeGate h15) hb_impl_RetimeGate (by kernel_rfl) ?_
    refine rs0 (.tup [(.agg [(.int .i64 y15.1), (.own (592, 28) (.pair .int (.pair .int (.pair .int .int))) 0 y15.2.1.length), (.own (593, 28) .int 0 y15.2.2.1.length)]), (.bool y15.2.2.2)]) (by kernel_rfl) ?_
    refine rs0 (.agg [(.int .i64 y15.1), (.own (592, 28) (.pair .int (.pair .int (.pair .int .int))) 0 y15.2.1.length), (.own (593, 28) .int 0 y15.2.2.1.length)]) (by kernel_rfl) ?_
    refine rs0 (.bool y15.2.2.2) (by kernel_rfl) ?_
    refine rs1 (.box (11, 32) 0) (11, 32) (.cells 31 [(.int .i64 0), .nils, .nils]) (by kernel_rfl) ?_
    refine rsn2 (11, 32) (11, 32) (.cells 31 [(.int .i64 y15.1), (.own (592, 28) (.pair .int (.pair .int (.pair .int .int))) 0 y15.2.1.length), (.own (593, 28) .int 0 y15.2.2.1.length)]) (by kernel_rfl) ?_
    refine rs0 (.bool y15.2.2.2) (by kernel_rfl) ?_
    refine rnil (tn_ ?_)
    refine awp_seq_ ?_
    refine awp_seqB h (fun (l17_m48 : Bool) S_ => S_ = ⟨mkTm [(0, (.int .i64 a0)), (2, (.int .i64 a2)), (4, (.box (0, 1) 0)), (8, (.box (1, 1) 0)), (9, (.bool y11.2.2.2)), (10, (.box (2, 1) 0)), (11, (.box (3, 1) 0)), (12, (.bool y15.2.2.2)), (48, (.bool l17_m48))], mkOb (someL [((0, 1), .cells 25 [(.int .i64 a1_0), (.tree (.pair .int (.pair .int (.pair .int .int))) a1_1), (.tree .int a1_2)]), ((1, 1), .cells 31 [(.int .i64 y11.1), (.own (4, 1) (.pair .int (.pair .int (.pair .int .int))) 0 y11.2.1.length), (.own (5, 1) .int 0 y11.2.2.1.length)]), ((2, 1), .cells 31 [(.int .i64 y13.1), (.own (6, 1) (.pair .int (.pair .int (.pair .int .int))) 0 y13.2.1.length), (.own (7, 1) .int 0 y13.2.2.length)]), ((3, 1), .cells 31 [(.int .i64 y15.1), (.own (8, 1) (.pair .int (.pair .int (.pair .int .int))) 0 y15.2.1.length), (.own (9, 1) .int 0 y15.2.2.1.length)]), ((4, 1), .arr 51 (.pair .int (.pair .int (.pair .int .int))) y11.2.1), ((5, 1), .arr 3 .int y11.2.2.1), ((6, 1), .arr 51 (.pair .int (.pair .int (.pair .int .int))) y13.2.1), ((7, 1), .arr 3 .int y13.2.2), ((8, 1), .arr 51 (.pair .int (.pair .int (.pair .int .int))) y15.2.1), ((9, 1), .arr 3 .int y15.2.2.1)]), 2⟩) ?_ ?_
    · intro v_ h
      obtain ⟨y18, h18, h⟩ := ob_some h
      rcases cond_some h with ⟨q19, h⟩ | ⟨q19, h⟩
      · refine awp_region_ 44 (by kernel_rfl) ?_
        refine rsl (.agg [(.int .i64 y15.1), (.own (592, 28) (.pair .int (.pair .int (.pair .int .int))) 0 y15.2.1.length), (.own (593, 28) .int 0 y15.2.2.1.length)]) (by kernel_rfl) ?_
        refine rsl (.agg [(.int .i64 y11.1), (.own (448, 14) (.pair .int (.pair .int (.pair .int .int))) 0 y11.2.1.length), (.own (449, 14) .int 0 y11.2.2.1.length)]) (by kernel_rfl) ?_
        refine rcall (.bool y18) [] [(.agg [(.int .i64 y15.1), (.own (592, 28) (.pair .int (.pair .int (.pair .int .int))) 0 y15.2.1.length), (.own (593, 28) .int 0 y15.2.2.1.length)]), (.agg [(.int .i64 y11.1), (.own (448, 14) (.pair .int (.pair .int (.pair .int .int))) 0 y11.2.1.length), (.own (449, 14) .int 0 y11.2.2.1.length)])] _ (caps := []) (args0 := [(.agg [(.int .i64 y15.1), (.tree (.pair .int (.pair .int (.pair .int .int))) y15.2.1), (.tree .int y15.2.2.1)]), (.agg [(.int .i64 y11.1), (.tree (.pair .int (.pair .int (.pair .int .int))) y11.2.1), (.tree .int y11.2.2.1)])]) trivial (by kernel_rfl) (by kernel_rfl) (gm_cons (gd_agg (gm_cons (by kernel_rfl) (gm_cons (gd_own (e := 51) (by kernel_rfl) rfl) (gm_cons (gd_own (e := 3) (by kernel_rfl) rfl) gm_nil)))) (gm_cons (gd_agg (gm_cons (by kernel_rfl) (gm_cons (gd_own (e := 51) (by kernel_rfl) rfl) (gm_cons (gd_own (e := 3) (by kernel_rfl) rfl) gm_nil)))) gm_nil)) (by kernel_rfl) (ok_laws_eqCircuit h18) hb_laws_eqCircuit (by kernel_rfl) ?_
        refine rs0 (.bool (!y18)) (by kernel_rfl) ?_
        refine rs0 (.bool (!y18)) (by kernel_rfl) ?_
        refine rs0 (.tup []) (s_skip (by kernel_rfl) q19) ?_
        refine rs0 (.tup []) (s_skip (by kernel_rfl) q19) ?_
        refine rs0 (.tup []) (s_skip (by kernel_rfl) q19) ?_
        refine rs0 (.bool true) (s_pickT (by kernel_rfl) q19) ?_
        refine rnil (tn_ ?_)
        obtain rfl := Option.some.inj h
        exact ⟨_, (weak_ren (renF [((0, 1), (4, 1)), ((1, 1), (8, 18)), ((4, 1), (448, 14)), ((5, 1), (449, 14)), ((2, 1), (10, 23)), ((6, 1), (512, 22)), ((7, 1), (513, 22)), ((3, 1), (11, 32)), ((8, 1), (592, 28)), ((9, 1), (593, 28))]) (by kernel_rfl) (by kernel_rfl) (by kernel_rfl)), rfl⟩
      · refine awp_region_ 44 (by kernel_rfl) ?_
        refine rsl (.agg [(.int .i64 y15.1), (.own (592, 28) (.pair .int (.pair .int (.pair .int .int))) 0 y15.2.1.length), (.own (593, 28) .int 0 y15.2.2.1.length)]) (by kernel_rfl) ?_
        refine rsl (.agg [(.int .i64 y11.1), (.own (448, 14) (.pair .int (.pair .int (.pair .int .int))) 0 y11.2.1.length), (.own (449, 14) .int 0 y11.2.2.1.length)]) (by kernel_rfl) ?_
        refine rcall (.bool y18) [] [(.agg [(.int .i64 y15.1), (.own (592, 28) (.pair .int (.pair .int (.pair .int .int))) 0 y15.2.1.length), (.own (593, 28) .int 0 y15.2.2.1.length)]), (.agg [(.int .i64 y11.1), (.own (448, 14) (.pair .int (.pair .int (.pair .int .int))) 0 y11.2.1.length), (.own (449, 14) .int 0 y11.2.2.1.length)])] _ (caps := []) (args0 := [(.agg [(.int .i64 y15.1), (.tree (.pair .int (.pair .int (.pair .int .int))) y15.2.1), (.tree .int y15.2.2.1)]), (.agg [(.int .i64 y11.1), (.tree (.pair .int (.pair .int (.pair .int .int))) y11.2.1), (.tree .int y11.2.2.1)])]) trivial (by kernel_rfl) (by kernel_rfl) (gm_cons (gd_agg (gm_cons (by kernel_rfl) (gm_cons (gd_own (e := 51) (by kernel_rfl) rfl) (gm_cons (gd_own (e := 3) (by kernel_rfl) rfl) gm_nil)))) (gm_cons (gd_agg (gm_cons (by kernel_rfl) (gm_cons (gd_own (e := 51) (by kernel_rfl) rfl) (gm_cons (gd_own (e := 3) (by kernel_rfl) rfl) gm_nil)))) gm_nil)) (by kernel_rfl) (ok_laws_eqCircuit h18) hb_laws_eqCircuit (by kernel_rfl) ?_
        refine rs0 (.bool (!y18)) (by kernel_rfl) ?_
        refine rs0 (.bool (!y18)) (by kernel_rfl) ?_
        refine rs0 (.bool y15.2.2.2) (s_gd (by kernel_rfl) q19 (by kernel_rfl)) ?_
        refine rs0 (.bool y11.2.2.2) (s_gd (by kernel_rfl) q19 (by kernel_rfl)) ?_
        refine rs0 (.bool (y15.2.2.2 != y11.2.2.2)) (s_gd (by kernel_rfl) q19 (by kernel_rfl)) ?_
        refine rs0 (.bool (y15.2.2.2 != y11.2.2.2)) (s_pickF (by kernel_rfl) q19) ?_
        refine rnil (tn_ ?_)
        obtain rfl := Option.some.inj h
        exact ⟨_, (weak_ren (renF [((0, 1), (4, 1)), ((1, 1), (8, 18)), ((4, 1), (448, 14)), ((5, 1), (449, 14)), ((2, 1), (10, 23)), ((6, 1), (512, 22)), ((7, 1), (513, 22)), ((3, 1), (11, 32)), ((8, 1), (592, 28)), ((9, 1), (593, 28))]) (by kernel_rfl) (by kernel_rfl) (by kernel_rfl)), rfl⟩
    · rintro l17_m48 _ rfl h
      (try dsimp only at h)
      rcases cond_some h with ⟨q20, h⟩ | ⟨q20, h⟩
      · refine awp_condT_ q20 (by kernel_rfl) ?_
        refine awp_seq_ ?_
        refine awp_region_ 3 (by kernel_rfl) ?_
        refine rs0 (.bool false) (by kernel_rfl) ?_
        refine rnil (tn_ ?_)
        refine awp_ret_ (tr_ ?_)
        obtain rfl := Option.some.inj h
        exact ret_ [(.bool false)] (by simp) (by kernel_rfl) (p_one rfl (l_sc (by kernel_rfl)) p_nil) (by kernel_rfl) (by kernel_rfl)
      · refine awp_condF_ q20 (by kernel_rfl) ?_
        refine awp_skip_ (tn_ ?_)
        refine awp_seq_ ?_
        refine awp_seq_ ?_
        obtain ⟨y24, h24, h⟩ := ob_some h
        obtain ⟨y25, h25, h⟩ := ob_some h
        refine awp_regionD_ 7 (by kernel_rfl) ?_
        refine dsl (.agg [(.int .i64 y13.1), (.own (6, 1) (.pair .int (.pair .int (.pair .int .int))) 0 y13.2.1.length), (.own (7, 1) .int 0 y13.2.2.length)]) (by kernel_rfl) ?_
        refine dsl (.agg [(.int .i64 a1_0), (.tree (.pair .int (.pair .int (.pair .int .int))) a1_1), (.tree .int a1_2)]) (by kernel_rfl) ?_
        refine dcall (.agg [(.int .i64 y24.1), (.own (816, 4) (.pair .int (.pair .int (.pair .int .int))) 0 y24.2.1.length), (.own (817, 4) .int 0 y24.2.2.length)]) [((816, 4), some (.arr 51 (.pair .int (.pair .int (.pair .int .int))) y24.2.1)), ((817, 4), some (.arr 3 .int y24.2.2))] [(.agg [(.int .i64 a1_0), (.tree (.pair .int (.pair .int (.pair .int .int))) a1_1), (.tree .int a1_2)])] _ (caps := []) (args0 := [(.agg [(.int .i64 a1_0), (.tree (.pair .int (.pair .int (.pair .int .int))) a1_1), (.tree .int a1_2)])]) trivial (by kernel_rfl) (by kernel_rfl) (by kernel_rfl) (by kernel_rfl) (ok_laws_toCircuit h24) hb_laws_toCircuit (by kernel_rfl) ?_
        refine dcall (.bool y25) [] [(.agg [(.int .i64 y13.1), (.own (6, 1) (.pair .int (.pair .int (.pair .int .int))) 0 y13.2.1.length), (.own (7, 1) .int 0 y13.2.2.length)]), (.agg [(.int .i64 y24.1), (.own (816, 4) (.pair .int (.pair .int (.pair .int .int))) 0 y24.2.1.length), (.own (817, 4) .int 0 y24.2.2.length)])] _ (caps := []) (args0 := [(.agg [(.int .i64 y13.1), (.tree (.pair .int (.pair .int (.pair .int .int))) y13.2.1), (.tree .int y13.2.2)]), (.agg [(.int .i64 y24.1), (.tree (.pair .int (.pair .int (.pair .int .int))) y24.2.1), (.tree .int y24.2.2)])]) trivial (by kernel_rfl) (by kernel_rfl) (gm_cons (gd_agg (gm_cons (by kernel_rfl) (gm_cons (gd_own (e := 51) (by kernel_rfl) rfl) (gm_cons (gd_own (e := 3) (by kernel_rfl) rfl) gm_nil)))) (gm_cons (gd_agg (gm_cons (by kernel_rfl) (gm_cons (gd_own (e := 51) (by kernel_rfl) rfl) (gm_cons (gd_own (e := 3) (by kernel_rfl) rfl) gm_nil)))) gm_nil)) (by kernel_rfl) (ok_laws_eqCircuit h25) hb_laws_eqCircuit (by kernel_rfl) ?_
        refine ds0 (.bool (!y25)) (by kernel_rfl) ?_
        refine dnil (by kernel_rfl) (tn_ ?_)
        rcases cond_some h with ⟨q26, h⟩ | ⟨q26, h⟩
        · refine awp_condT_ q26 (by kernel_rfl) ?_
          refine awp_seq_ ?_
          refine awp_region_ 8 (by kernel_rfl) ?_
          refine rs0 (.bool false) (by kernel_rfl) ?_
          refine rnil (tn_ ?_)
          refine awp_ret_ (tr_ ?_)
          obtain rfl := Option.some.inj h
          exact ret_ [(.bool false)] (by simp) (by kernel_rfl) (p_one rfl (l_sc (by kernel_rfl)) p_nil) (by kernel_rfl) (by kernel_rfl)
        · refine awp_condF_ q26 (by kernel_rfl) ?_
          refine awp_skip_ (tn_ ?_)
          refine awp_seq_ ?_
          refine awp_region_ 8 (by kernel_rfl) ?_
          refine rs0 (.int .i64 1) (by kernel_rfl) ?_
          refine rnil (tn_ ?_)
          refine awp_seq_ ?_
          obtain ⟨y30, h30, h⟩ := ob_some h
          obtain ⟨g31, h⟩ := og_some h
          obtain ⟨g32, h⟩ := og_some h
          refine awp_region_ 12 (by kernel_rfl) ?_
          refine rsl (.agg [(.int .i64 y13.1), (.own (6, 1) (.pair .int (.pair .int (.pair .int .int))) 0 y13.2.1.length), (.own (7, 1) .int 0 y13.2.2.length)]) (by kernel_rfl) ?_
          refine rs0 (.int .i64 1) (by kernel_rfl) ?_
          refine rcallM (.int .i64 y30.2.2) [((0, 0), (6, 1)), ((1, 0), (7, 1))] [(.agg [(.int .i64 y13.1), (.own (6, 1) (.pair .int (.pair .int (.pair .int .int))) 0 y13.2.1.length), (.own (7, 1) .int 0 y13.2.2.length)]), (.int .i64 1)] (caps := []) trivial (by kernel_rfl) (by kernel_rfl) (ok_laws_markCircuit h30 rfl rfl) (by kernel_rfl) (by kernel_rfl) (by kernel_rfl) (by kernel_rfl) (by kernel_rfl) hb_laws_markCircuit ?_
          refine rs0 (.int .i64 y30.2.2) (by kernel_rfl) ?_
          refine rnil (tn_ ?_)
          refine awp_seq_ ?_
          refine awp_seqB h (fun (l34_m69 : Bool) S_ => S_ = ⟨mkTm [(0, (.int .i64 a0)), (2, (.int .i64 a2)), (4, (.box (0, 1) 0)), (8, (.box (1, 1) 0)), (9, (.bool y11.2.2.2)), (11, (.box (2, 1) 0)), (69, (.bool l34_m69))], mkOb (someL [((0, 1), .cells 25 [(.int .i64 a1_0), (.tree (.pair .int (.pair .int (.pair .int .int))) a1_1), (.tree .int a1_2)]), ((1, 1), .cells 31 [(.int .i64 y11.1), (.own (3, 1) (.pair .int (.pair .int (.pair .int .int))) 0 y11.2.1.length), (.own (4, 1) .int 0 y11.2.2.1.length)]), ((2, 1), .cells 31 [(.int .i64 y15.1), (.own (5, 1) (.pair .int (.pair .int (.pair .int .int))) 0 y15.2.1.length), (.own (6, 1) .int 0 y15.2.2.1.length)]), ((3, 1), .arr 51 (.pair .int (.pair .int (.pair .int .int))) y11.2.1), ((4, 1), .arr 3 .int y11.2.2.1), ((5, 1), .arr 51 (.pair .int (.pair .int (.pair .int .int))) y15.2.1), ((6, 1), .arr 3 .int y15.2.2.1)]), 2⟩) ?_ ?_
          · intro v_ h
            rcases cond_some h with ⟨q35, h⟩ | ⟨q35, h⟩
            · have q35_ := of_decide_eq_true q35
              refine awp_region_ 25 (by kernel_rfl) ?_
              refine rs0 (.int .i64 y30.2.2) (by kernel_rfl) ?_
              refine rs0 (.bool (decide (y30.2.2 < 0))) (by kernel_rfl) ?_
              refine rs0 (.bool (decide (y30.2.2 < 0))) (by kernel_rfl) ?_
              refine rs0 (.tup []) (s_skip (by kernel_rfl) q35) ?_
              refine rs0 (.tup []) (s_skip (by kernel_rfl) q35) ?_
              refine rs0 (.tup []) (s_skip (by kernel_rfl) q35) ?_
              refine rs0 (.tup []) (s_skip (by kernel_rfl) q35) ?_
              refine rs0 (.bool true) (s_pickT (by kernel_rfl) q35) ?_
              refine rs0 (.bool true) (by kernel_rfl) ?_
              refine rs0 (.tup []) (by kernel_rfl) ?_
              refine rs0 (.tup []) (by kernel_rfl) ?_
              refine rs0 (.tup []) (by kernel_rfl) ?_
              refine rs0 (.bool true) (by kernel_rfl) ?_
              refine rnil (tn_ ?_)
              obtain rfl := Option.some.inj h
              exact ⟨_, (weak_ren (renF [((3, 1), (4, 1)), ((4, 1), (5, 1)), ((2, 1), (3, 1)), ((5, 1), (8, 1)), ((6, 1), (9, 1))]) (by kernel_rfl) (by kernel_rfl) (by kernel_rfl)), rfl⟩
            · have q35_ := of_decide_eq_false q35
              obtain ⟨y36, h36, h⟩ := ob_some h
              rcases cond_some h with ⟨q37, h⟩ | ⟨q37, h⟩
              · refine awp_region_ 25 (by kernel_rfl) ?_
                refine rs0 (.int .i64 y30.2.2) (by kernel_rfl) ?_
                refine rs0 (.bool (decide (y30.2.2 < 0))) (by kernel_rfl) ?_
                refine rs0 (.bool (decide (y30.2.2 < 0))) (by kernel_rfl) ?_
                refine rsl (.agg [(.int .i64 y15.1), (.own (8, 1) (.pair .int (.pair .int (.pair .int .int))) 0 y15.2.1.length), (.own (9, 1) .int 0 y15.2.2.1.length)]) (s_gd (by kernel_rfl) q35 (by kernel_rfl)) ?_
                refine rsl (.agg [(.int .i64 y11.1), (.own (4, 1) (.pair .int (.pair .int (.pair .int .int))) 0 y11.2.1.length), (.own (5, 1) .int 0 y11.2.2.1.length)]) (s_gd (by kernel_rfl) q35 (by kernel_rfl)) ?_
                refine rcall (.bool y36) [] [(.agg [(.int .i64 y15.1), (.own (8, 1) (.pair .int (.pair .int (.pair .int .int))) 0 y15.2.1.length), (.own (9, 1) .int 0 y15.2.2.1.length)]), (.agg [(.int .i64 y11.1), (.own (4, 1) (.pair .int (.pair .int (.pair .int .int))) 0 y11.2.1.length), (.own (5, 1) .int 0 y11.2.2.1.length)])] _ (caps := []) (args0 := [(.agg [(.int .i64 y15.1), (.tree (.pair .int (.pair .int (.pair .int .int))) y15.2.1), (.tree .int y15.2.2.1)]), (.agg [(.int .i64 y11.1), (.tree (.pair .int (.pair .int (.pair .int .int))) y11.2.1), (.tree .int y11.2.2.1)])]) (gdOK_b (by kernel_rfl) q35) (by kernel_rfl) (by kernel_rfl) (gm_cons (gd_agg (gm_cons (by kernel_rfl) (gm_cons (gd_own (e := 51) (by kernel_rfl) rfl) (gm_cons (gd_own (e := 3) (by kernel_rfl) rfl) gm_nil)))) (gm_cons (gd_agg (gm_cons (by kernel_rfl) (gm_cons (gd_own (e := 51) (by kernel_rfl) rfl) (gm_cons (gd_own (e := 3) (by kernel_rfl) rfl) gm_nil)))) gm_nil)) (by kernel_rfl) (ok_laws_eqCircuit h36) hb_laws_eqCircuit (by kernel_rfl) ?_
                refine rs0 (.bool (!y36)) (s_gd (by kernel_rfl) q35 (by kernel_rfl)) ?_
                refine rs0 (.bool (!y36)) (s_pickF (by kernel_rfl) q35) ?_
                refine rs0 (.bool (!y36)) (by kernel_rfl) ?_
                refine rs0 (.tup []) (s_skip (by kernel_rfl) q37) ?_
                refine rs0 (.tup []) (s_skip (by kernel_rfl) q37) ?_
                refine rs0 (.tup []) (s_skip (by kernel_rfl) q37) ?_
                refine rs0 (.bool true) (s_pickT (by kernel_rfl) q37) ?_
                refine rnil (tn_ ?_)
                obtain rfl := Option.some.inj h
                exact ⟨_, (weak_ren (renF [((3, 1), (4, 1)), ((4, 1), (5, 1)), ((2, 1), (3, 1)), ((5, 1), (8, 1)), ((6, 1), (9, 1))]) (by kernel_rfl) (by kernel_rfl) (by kernel_rfl)), rfl⟩
              · refine awp_region_ 25 (by kernel_rfl) ?_
                refine rs0 (.int .i64 y30.2.2) (by kernel_rfl) ?_
                refine rs0 (.bool (decide (y30.2.2 < 0))) (by kernel_rfl) ?_
                refine rs0 (.bool (decide (y30.2.2 < 0))) (by kernel_rfl) ?_
                refine rsl (.agg [(.int .i64 y15.1), (.own (8, 1) (.pair .int (.pair .int (.pair .int .int))) 0 y15.2.1.length), (.own (9, 1) .int 0 y15.2.2.1.length)]) (s_gd (by kernel_rfl) q35 (by kernel_rfl)) ?_
                refine rsl (.agg [(.int .i64 y11.1), (.own (4, 1) (.pair .int (.pair .int (.pair .int .int))) 0 y11.2.1.length), (.own (5, 1) .int 0 y11.2.2.1.length)]) (s_gd (by kernel_rfl) q35 (by kernel_rfl)) ?_
                refine rcall (.bool y36) [] [(.agg [(.int .i64 y15.1), (.own (8, 1) (.pair .int (.pair .int (.pair .int .int))) 0 y15.2.1.length), (.own (9, 1) .int 0 y15.2.2.1.length)]), (.agg [(.int .i64 y11.1), (.own (4, 1) (.pair .int (.pair .int (.pair .int .int))) 0 y11.2.1.length), (.own (5, 1) .int 0 y11.2.2.1.length)])] _ (caps := []) (args0 := [(.agg [(.int .i64 y15.1), (.tree (.pair .int (.pair .int (.pair .int .int))) y15.2.1), (.tree .int y15.2.2.1)]), (.agg [(.int .i64 y11.1), (.tree (.pair .int (.pair .int (.pair .int .int))) y11.2.1), (.tree .int y11.2.2.1)])]) (gdOK_b (by kernel_rfl) q35) (by kernel_rfl) (by kernel_rfl) (gm_cons (gd_agg (gm_cons (by kernel_rfl) (gm_cons (gd_own (e := 51) (by kernel_rfl) rfl) (gm_cons (gd_own (e := 3) (by kernel_rfl) rfl) gm_nil)))) (gm_cons (gd_agg (gm_cons (by kernel_rfl) (gm_cons (gd_own (e := 51) (by kernel_rfl) rfl) (gm_cons (gd_own (e := 3) (by kernel_rfl) rfl) gm_nil)))) gm_nil)) (by kernel_rfl) (ok_laws_eqCircuit h36) hb_laws_eqCircuit (by kernel_rfl) ?_
                refine rs0 (.bool (!y36)) (s_gd (by kernel_rfl) q35 (by kernel_rfl)) ?_
                refine rs0 (.bool (!y36)) (s_pickF (by kernel_rfl) q35) ?_
                refine rs0 (.bool (!y36)) (by kernel_rfl) ?_
                refine rs0 (.bool y15.2.2.2) (s_gd (by kernel_rfl) q37 (by kernel_rfl)) ?_
                refine rs0 (.bool y11.2.2.2) (s_gd (by kernel_rfl) q37 (by kernel_rfl)) ?_
                refine rs0 (.bool (y15.2.2.2 != y11.2.2.2)) (s_gd (by kernel_rfl) q37 (by kernel_rfl)) ?_
                refine rs0 (.bool (y15.2.2.2 != y11.2.2.2)) (s_pickF (by kernel_rfl) q37) ?_
                refine rnil (tn_ ?_)
                obtain rfl := Option.some.inj h
                exact ⟨_, (weak_ren (renF [((3, 1), (4, 1)), ((4, 1), (5, 1)), ((2, 1), (3, 1)), ((5, 1), (8, 1)), ((6, 1), (9, 1))]) (by kernel_rfl) (by kernel_rfl) (by kernel_rfl)), rfl⟩
          · rintro l34_m69 _ rfl h
            (try dsimp only at h)
            rcases cond_some h with ⟨q38, h⟩ | ⟨q38, h⟩
            · refine awp_condT_ q38 (by kernel_rfl) ?_
              refine awp_seq_ ?_
              refine awp_region_ 3 (by kernel_rfl) ?_
              refine rs0 (.bool false) (by kernel_rfl) ?_
              refine rnil (tn_ ?_)
              refine awp_ret_ (tr_ ?_)
              obtain rfl := Option.some.inj h
              exact ret_ [(.bool false)] (by simp) (by kernel_rfl) (p_one rfl (l_sc (by kernel_rfl)) p_nil) (by kernel_rfl) (by kernel_rfl)
            · refine awp_condF_ q38 (by kernel_rfl) ?_
              refine awp_skip_ (tn_ ?_)
              refine awp_seq_ ?_
              refine awp_region_ 3 (by kernel_rfl) ?_
              refine rs0 (.int .i64 1) (by kernel_rfl) ?_
              refine rnil (tn_ ?_)
              refine awp_seq_ ?_
              obtain ⟨y42, h42, h⟩ := ob_some h
              obtain ⟨g43, h⟩ := og_some h
              obtain ⟨g44, h⟩ := og_some h
              refine awp_region_ 7 (by kernel_rfl) ?_
              refine rsl (.agg [(.int .i64 y15.1), (.own (5, 1) (.pair .int (.pair .int (.pair .int .int))) 0 y15.2.1.length), (.own (6, 1) .int 0 y15.2.2.1.length)]) (by kernel_rfl) ?_
              refine rs0 (.int .i64 1) (by kernel_rfl) ?_
              refine rcallM (.int .i64 y42.2.2) [((0, 0), (5, 1)), ((1, 0), (6, 1))] [(.agg [(.int .i64 y15.1), (.own (5, 1) (.pair .int (.pair .int (.pair .int .int))) 0 y15.2.1.length), (.own (6, 1) .int 0 y15.2.2.1.length)]), (.int .i64 1)] (caps := []) trivial (by kernel_rfl) (by kernel_rfl) (ok_laws_markCircuit h42 rfl rfl) (by kernel_rfl) (by kernel_rfl) (by kernel_rfl) (by kernel_rfl) (by kernel_rfl) hb_laws_markCircuit ?_
              refine rs0 (.int .i64 y42.2.2) (by kernel_rfl) ?_
              refine rnil (tn_ ?_)
              refine awp_seq_ ?_
              refine awp_region_ 8 (by kernel_rfl) ?_
              refine rs0 (.int .i64 1) (by kernel_rfl) ?_
              refine rnil (tn_ ?_)
              refine awp_seq_ ?_
              obtain ⟨y47, h47, h⟩ := ob_some h
              refine awp_region_ 12 (by kernel_rfl) ?_
              refine rsl (.agg [(.int .i64 y15.1), (.own (5, 1) (.pair .int (.pair .int (.pair .int .int))) 0 y15.2.1.length), (.own (6, 1) .int 0 y15.2.2.1.length)]) (by kernel_rfl) ?_
              refine rs0 (.int .i64 1) (by kernel_rfl) ?_
              refine rcall (.int .i64 y47) [] [(.agg [(.int .i64 y15.1), (.own (5, 1) (.pair .int (.pair .int (.pair .int .int))) 0 y15.2.1.length), (.own (6, 1) .int 0 y15.2.2.1.length)]), (.int .i64 1)] _ (caps := []) (args0 := [(.agg [(.int .i64 y15.1), (.tree (.pair .int (.pair .int (.pair .int .int))) y42.1), (.tree .int y42.2.1)]), (.int .i64 1)]) trivial (by kernel_rfl) (by kernel_rfl) (gm_cons (gd_agg (gm_cons (by kernel_rfl) (gm_cons (gd_own (e := 51) (by kernel_rfl) g43.symm) (gm_cons (gd_own (e := 3) (by kernel_rfl) g44.symm) gm_nil)))) (gm_cons (by kernel_rfl) gm_nil)) (by kernel_rfl) (ok_laws_heldCircuit h47) hb_laws_heldCircuit (by kernel_rfl) ?_
              refine rs0 (.int .i64 y47) (by kernel_rfl) ?_
              refine rnil (tn_ ?_)
              refine awp_seq_ ?_
              refine awp_seq_ ?_
              refine awp_region_ 14 (by kernel_rfl) ?_
              refine rs0 (.int .i64 y47) (by kernel_rfl) ?_
              refine rs0 (.bool (decide (y47 < 0))) (by kernel_rfl) ?_
              refine rnil (tn_ ?_)
              rcases cond_some h with ⟨q50, h⟩ | ⟨q50, h⟩
              · have q50_ := of_decide_eq_true q50
                refine awp_condT_ q50 (by kernel_rfl) ?_
                refine awp_seq_ ?_
                refine awp_region_ 15 (by kernel_rfl) ?_
                refine rs0 (.bool false) (by kernel_rfl) ?_
                refine rnil (tn_ ?_)
                refine awp_ret_ (tr_ ?_)
                obtain rfl := Option.some.inj h
                exact ret_ [(.bool false)] (by simp) (by kernel_rfl) (p_one rfl (l_sc (by kernel_rfl)) p_nil) (by kernel_rfl) (by kernel_rfl)
              · have q50_ := of_decide_eq_false q50
                refine awp_condF_ q50 (by kernel_rfl) ?_
                refine awp_skip_ (tn_ ?_)
                refine awp_seq_ ?_
                refine awp_seq_ ?_
                refine awp_region_ 17 (by kernel_rfl) ?_
                refine rs0 (.int .i64 y47) (by kernel_rfl) ?_
                refine rs0 (.int .i64 y42.2.2) (by kernel_rfl) ?_
                refine rs0 (.bool (y47 != y42.2.2)) (by kernel_rfl) ?_
                refine rnil (tn_ ?_)
                rcases cond_some h with ⟨q54, h⟩ | ⟨q54, h⟩
                · refine awp_condT_ q54 (by kernel_rfl) ?_
                  refine awp_seq_ ?_
                  refine awp_region_ 18 (by kernel_rfl) ?_
                  refine rs0 (.bool false) (by kernel_rfl) ?_
                  refine rnil (tn_ ?_)
                  refine awp_ret_ (tr_ ?_)
                  obtain rfl := Option.some.inj h
                  exact ret_ [(.bool false)] (by simp) (by kernel_rfl) (p_one rfl (l_sc (by kernel_rfl)) p_nil) (by kernel_rfl) (by kernel_rfl)
                · refine awp_condF_ q54 (by kernel_rfl) ?_
                  refine awp_skip_ (tn_ ?_)
                  refine awp_seq_ ?_
                  obtain ⟨y57, h57, h⟩ := ob_some h
                  obtain ⟨y58, h58, h⟩ := ob_some h
                  refine awp_region_ 28 (by kernel_rfl) ?_
                  refine rs0 (.int .i64 a0) (by kernel_rfl) ?_
                  refine rsl (.agg [(.int .i64 a1_0), (.tree (.pair .int (.pair .int (.pair .int .int))) a1_1), (.tree .int a1_2)]) (by kernel_rfl) ?_
                  refine rcall (.agg [(.int .i64 y57.1), (.own (1344, 19) (.pair .int (.pair .int (.pair .int .int))) 0 y57.2.1.length), (.own (1345, 19) .int 0 y57.2.2.length)]) [((1344, 19), some (.arr 51 (.pair .int (.pair .int (.pair .int .int))) y57.2.1)), ((1345, 19), some (.arr 3 .int y57.2.2))] [(.agg [(.int .i64 a1_0), (.tree (.pair .int (.pair .int (.pair .int .int))) a1_1), (.tree .int a1_2)])] _ (caps := []) (args0 := [(.agg [(.int .i64 a1_0), (.tree (.pair .int (.pair .int (.pair .int .int))) a1_1), (.tree .int a1_2)])]) trivial (by kernel_rfl) (by kernel_rfl) (by kernel_rfl) (by kernel_rfl) (ok_laws_toCircuit h57) hb_laws_toCircuit (by kernel_rfl) ?_
                  refine rs0 (.int .i64 a2) (by kernel_rfl) ?_
                  refine rcall (.tup [(.agg [(.int .i64 y58.1), (.own (1376, 21) (.pair .int (.pair .int (.pair .int .int))) 0 y58.2.1.length), (.own (1377, 21) .int 0 y58.2.2.1.length)]), (.bool y58.2.2.2)]) [((1376, 21), some (.arr 51 (.pair .int (.pair .int (.pair .int .int))) y58.2.1)), ((1377, 21), some (.arr 3 .int y58.2.2.1))] [(.int .i64 a0), (.agg [(.int .i64 y57.1), (.own (1344, 19) (.pair .int (.pair .int (.pair .int .int))) 0 y57.2.1.length), (.own (1345, 19) .int 0 y57.2.2.length)]), (.int .i64 a2)] _ (caps := []) (args0 := [(.int .i64 a0), (.agg [(.int .i64 y57.1), (.tree (.pair .int (.pair .int (.pair .int .int))) y57.2.1), (.tree .int y57.2.2)]), (.int .i64 a2)]) trivial (by kernel_rfl) (by kernel_rfl) (gm_cons (by kernel_rfl) (gm_cons (gd_agg (gm_cons (by kernel_rfl) (gm_cons (gd_own (e := 51) (by kernel_rfl) rfl) (gm_cons (gd_own (e := 3) (by kernel_rfl) rfl) gm_nil)))) (gm_cons (by kernel_rfl) gm_nil))) (by kernel_rfl) (ok_impl_RetimeGate h58) hb_impl_RetimeGate (by kernel_rfl) ?_
                  refine rs0 (.tup [(.agg [(.int .i64 y58.1), (.own (1376, 21) (.pair .int (.pair .int (.pair .int .int))) 0 y58.2.1.length), (.own (1377, 21) .int 0 y58.2.2.1.length)]), (.bool y58.2.2.2)]) (by kernel_rfl) ?_
                  refine rs0 (.agg [(.int .i64 y58.1), (.own (1376, 21) (.pair .int (.pair .int (.pair .int .int))) 0 y58.2.1.length), (.own (1377, 21) .int 0 y58.2.2.1.length)]) (by kernel_rfl) ?_
                  refine rs0 (.bool y58.2.2.2) (by kernel_rfl) ?_
                  refine rs1 (.box (16, 25) 0) (16, 25) (.cells 31 [(.int .i64 0), .nils, .nils]) (by kernel_rfl) ?_
                  refine rsn2 (16, 25) (16, 25) (.cells 31 [(.int .i64 y58.1), (.own (1376, 21) (.pair .int (.pair .int (.pair .int .int))) 0 y58.2.1.length), (.own (1377, 21) .int 0 y58.2.2.1.length)]) (by kernel_rfl) ?_
                  refine rs0 (.bool y58.2.2.2) (by kernel_rfl) ?_
                  refine rnil (tn_ ?_)
                  refine awp_seq_ ?_
                  refine awp_seqB h (fun (l60_m97 : Bool) S_ => S_ = ⟨mkTm [(11, (.box (0, 1) 0)), (14, (.int .i64 y42.2.2)), (97, (.bool l60_m97))], mkOb (someL [((0, 1), .cells 31 [(.int .i64 y15.1), (.own (1, 1) (.pair .int (.pair .int (.pair .int .int))) 0 y42.1.length), (.own (2, 1) .int 0 y42.2.1.length)]), ((1, 1), .arr 51 (.pair .int (.pair .int (.pair .int .int))) y42.1), ((2, 1), .arr 3 .int y42.2.1)]), 2⟩) ?_ ?_
                  · intro v_ h
                    obtain ⟨y61, h61, h⟩ := ob_some h
                    rcases cond_some h with ⟨q62, h⟩ | ⟨q62, h⟩
                    · refine awp_region_ 37 (by kernel_rfl) ?_
                      refine rsl (.agg [(.int .i64 y58.1), (.own (1376, 21) (.pair .int (.pair .int (.pair .int .int))) 0 y58.2.1.length), (.own (1377, 21) .int 0 y58.2.2.1.length)]) (by kernel_rfl) ?_
                      refine rsl (.agg [(.int .i64 y11.1), (.own (3, 1) (.pair .int (.pair .int (.pair .int .int))) 0 y11.2.1.length), (.own (4, 1) .int 0 y11.2.2.1.length)]) (by kernel_rfl) ?_
                      refine rcall (.bool y61) [] [(.agg [(.int .i64 y58.1), (.own (1376, 21) (.pair .int (.pair .int (.pair .int .int))) 0 y58.2.1.length), (.own (1377, 21) .int 0 y58.2.2.1.length)]), (.agg [(.int .i64 y11.1), (.own (3, 1) (.pair .int (.pair .int (.pair .int .int))) 0 y11.2.1.length), (.own (4, 1) .int 0 y11.2.2.1.length)])] _ (caps := []) (args0 := [(.agg [(.int .i64 y58.1), (.tree (.pair .int (.pair .int (.pair .int .int))) y58.2.1), (.tree .int y58.2.2.1)]), (.agg [(.int .i64 y11.1), (.tree (.pair .int (.pair .int (.pair .int .int))) y11.2.1), (.tree .int y11.2.2.1)])]) trivial (by kernel_rfl) (by kernel_rfl) (gm_cons (gd_agg (gm_cons (by kernel_rfl) (gm_cons (gd_own (e := 51) (by kernel_rfl) rfl) (gm_cons (gd_own (e := 3) (by kernel_rfl) rfl) gm_nil)))) (gm_cons (gd_agg (gm_cons (by kernel_rfl) (gm_cons (gd_own (e := 51) (by kernel_rfl) rfl) (gm_cons (gd_own (e := 3) (by kernel_rfl) rfl) gm_nil)))) gm_nil)) (by kernel_rfl) (ok_laws_eqCircuit h61) hb_laws_eqCircuit (by kernel_rfl) ?_
                      refine rs0 (.bool (!y61)) (by kernel_rfl) ?_
                      refine rs0 (.bool (!y61)) (by kernel_rfl) ?_
                      refine rs0 (.tup []) (s_skip (by kernel_rfl) q62) ?_
                      refine rs0 (.tup []) (s_skip (by kernel_rfl) q62) ?_
                      refine rs0 (.tup []) (s_skip (by kernel_rfl) q62) ?_
                      refine rs0 (.bool true) (s_pickT (by kernel_rfl) q62) ?_
                      refine rnil (tn_ ?_)
                      obtain rfl := Option.some.inj h
                      exact ⟨_, ((weak_ob_ (2, 1) (.cells 31 [(.int .i64 y15.1), (.own (5, 1) (.pair .int (.pair .int (.pair .int .int))) 0 y15.2.1.length), (.own (6, 1) .int 0 y15.2.2.1.length)]) (.cells 31 [(.int .i64 y15.1), (.own (5, 1) (.pair .int (.pair .int (.pair .int .int))) 0 y42.1.length), (.own (6, 1) .int 0 y15.2.2.1.length)]) (by kernel_rfl) (congrArg (fun z_ => (.cells 31 [(.int .i64 y15.1), (.own (5, 1) (.pair .int (.pair .int (.pair .int .int))) 0 z_), (.own (6, 1) .int 0 y15.2.2.1.length)] : Ob)) (g43.symm : y15.2.1.length = y42.1.length))).trans ((weak_ob_ (2, 1) (.cells 31 [(.int .i64 y15.1), (.own (5, 1) (.pair .int (.pair .int (.pair .int .int))) 0 y42.1.length), (.own (6, 1) .int 0 y15.2.2.1.length)]) (.cells 31 [(.int .i64 y15.1), (.own (5, 1) (.pair .int (.pair .int (.pair .int .int))) 0 y42.1.length), (.own (6, 1) .int 0 y42.2.1.length)]) (by kernel_rfl) (congrArg (fun z_ => (.cells 31 [(.int .i64 y15.1), (.own (5, 1) (.pair .int (.pair .int (.pair .int .int))) 0 y42.1.length), (.own (6, 1) .int 0 z_)] : Ob)) (g44.symm : y15.2.2.1.length = y42.2.1.length))).trans (weak_ren (renF [((0, 1), (2, 1)), ((1, 1), (5, 1)), ((2, 1), (6, 1))]) (by kernel_rfl) (by kernel_rfl) (by kernel_rfl)))), rfl⟩
                    · refine awp_region_ 37 (by kernel_rfl) ?_
                      refine rsl (.agg [(.int .i64 y58.1), (.own (1376, 21) (.pair .int (.pair .int (.pair .int .int))) 0 y58.2.1.length), (.own (1377, 21) .int 0 y58.2.2.1.length)]) (by kernel_rfl) ?_
                      refine rsl (.agg [(.int .i64 y11.1), (.own (3, 1) (.pair .int (.pair .int (.pair .int .int))) 0 y11.2.1.length), (.own (4, 1) .int 0 y11.2.2.1.length)]) (by kernel_rfl) ?_
                      refine rcall (.bool y61) [] [(.agg [(.int .i64 y58.1), (.own (1376, 21) (.pair .int (.pair .int (.pair .int .int))) 0 y58.2.1.length), (.own (1377, 21) .int 0 y58.2.2.1.length)]), (.agg [(.int .i64 y11.1), (.own (3, 1) (.pair .int (.pair .int (.pair .int .int))) 0 y11.2.1.length), (.own (4, 1) .int 0 y11.2.2.1.length)])] _ (caps := []) (args0 := [(.agg [(.int .i64 y58.1), (.tree (.pair .int (.pair .int (.pair .int .int))) y58.2.1), (.tree .int y58.2.2.1)]), (.agg [(.int .i64 y11.1), (.tree (.pair .int (.pair .int (.pair .int .int))) y11.2.1), (.tree .int y11.2.2.1)])]) trivial (by kernel_rfl) (by kernel_rfl) (gm_cons (gd_agg (gm_cons (by kernel_rfl) (gm_cons (gd_own (e := 51) (by kernel_rfl) rfl) (gm_cons (gd_own (e := 3) (by kernel_rfl) rfl) gm_nil)))) (gm_cons (gd_agg (gm_cons (by kernel_rfl) (gm_cons (gd_own (e := 51) (by kernel_rfl) rfl) (gm_cons (gd_own (e := 3) (by kernel_rfl) rfl) gm_nil)))) gm_nil)) (by kernel_rfl) (ok_laws_eqCircuit h61) hb_laws_eqCircuit (by kernel_rfl) ?_
                      refine rs0 (.bool (!y61)) (by kernel_rfl) ?_
                      refine rs0 (.bool (!y61)) (by kernel_rfl) ?_
                      refine rs0 (.bool y58.2.2.2) (s_gd (by kernel_rfl) q62 (by kernel_rfl)) ?_
                      refine rs0 (.bool y11.2.2.2) (s_gd (by kernel_rfl) q62 (by kernel_rfl)) ?_
                      refine rs0 (.bool (y58.2.2.2 != y11.2.2.2)) (s_gd (by kernel_rfl) q62 (by kernel_rfl)) ?_
                      refine rs0 (.bool (y58.2.2.2 != y11.2.2.2)) (s_pickF (by kernel_rfl) q62) ?_
                      refine rnil (tn_ ?_)
                      obtain rfl := Option.some.inj h
                      exact ⟨_, ((weak_ob_ (2, 1) (.cells 31 [(.int .i64 y15.1), (.own (5, 1) (.pair .int (.pair .int (.pair .int .int))) 0 y15.2.1.length), (.own (6, 1) .int 0 y15.2.2.1.length)]) (.cells 31 [(.int .i64 y15.1), (.own (5, 1) (.pair .int (.pair .int (.pair .int .int))) 0 y42.1.length), (.own (6, 1) .int 0 y15.2.2.1.length)]) (by kernel_rfl) (congrArg (fun z_ => (.cells 31 [(.int .i64 y15.1), (.own (5, 1) (.pair .int (.pair .int (.pair .int .int))) 0 z_), (.own (6, 1) .int 0 y15.2.2.1.length)] : Ob)) (g43.symm : y15.2.1.length = y42.1.length))).trans ((weak_ob_ (2, 1) (.cells 31 [(.int .i64 y15.1), (.own (5, 1) (.pair .int (.pair .int (.pair .int .int))) 0 y42.1.length), (.own (6, 1) .int 0 y15.2.2.1.length)]) (.cells 31 [(.int .i64 y15.1), (.own (5, 1) (.pair .int (.pair .int (.pair .int .int))) 0 y42.1.length), (.own (6, 1) .int 0 y42.2.1.length)]) (by kernel_rfl) (congrArg (fun z_ => (.cells 31 [(.int .i64 y15.1), (.own (5, 1) (.pair .int (.pair .int (.pair .int .int))) 0 y42.1.length), (.own (6, 1) .int 0 z_)] : Ob)) (g44.symm : y15.2.2.1.length = y42.2.1.length))).trans (weak_ren (renF [((0, 1), (2, 1)), ((1, 1), (5, 1)), ((2, 1), (6, 1))]) (by kernel_rfl) (by kernel_rfl) (by kernel_rfl)))), rfl⟩
                  · rintro l60_m97 _ rfl h
                    (try dsimp only at h)
                    rcases cond_some h with ⟨q63, h⟩ | ⟨q63, h⟩
                    · refine awp_condT_ q63 (by kernel_rfl) ?_
                      refine awp_seq_ ?_
                      refine awp_region_ 3 (by kernel_rfl) ?_
                      refine rs0 (.bool false) (by kernel_rfl) ?_
                      refine rnil (tn_ ?_)
                      refine awp_ret_ (tr_ ?_)
                      obtain rfl := Option.some.inj h
                      exact ret_ [(.bool false)] (by simp) (by kernel_rfl) (p_one rfl (l_sc (by kernel_rfl)) p_nil) (by kernel_rfl) (by kernel_rfl)
                    · refine awp_condF_ q63 (by kernel_rfl) ?_
                      refine awp_skip_ (tn_ ?_)
                      refine awp_seq_ ?_
                      refine awp_region_ 3 (by kernel_rfl) ?_
                      refine rs0 (.int .i64 1) (by kernel_rfl) ?_
                      refine rnil (tn_ ?_)
                      refine awp_seq_ ?_
                      obtain ⟨y67, h67, h⟩ := ob_some h
                      refine awp_region_ 7 (by kernel_rfl) ?_
                      refine rsl (.agg [(.int .i64 y15.1), (.own (1, 1) (.pair .int (.pair .int (.pair .int .int))) 0 y42.1.length), (.own (2, 1) .int 0 y42.2.1.length)]) (by kernel_rfl) ?_
                      refine rs0 (.int .i64 1) (by kernel_rfl) ?_
                      refine rcall (.int .i64 y67) [] [(.agg [(.int .i64 y15.1), (.own (1, 1) (.pair .int (.pair .int (.pair .int .int))) 0 y42.1.length), (.own (2, 1) .int 0 y42.2.1.length)]), (.int .i64 1)] _ (caps := []) (args0 := [(.agg [(.int .i64 y15.1), (.tree (.pair .int (.pair .int (.pair .int .int))) y42.1), (.tree .int y42.2.1)]), (.int .i64 1)]) trivial (by kernel_rfl) (by kernel_rfl) (gm_cons (gd_agg (gm_cons (by kernel_rfl) (gm_cons (gd_own (e := 51) (by kernel_rfl) rfl) (gm_cons (gd_own (e := 3) (by kernel_rfl) rfl) gm_nil)))) (gm_cons (by kernel_rfl) gm_nil)) (by kernel_rfl) (ok_laws_heldCircuit h67) hb_laws_heldCircuit (by kernel_rfl) ?_
                      refine rs0 (.int .i64 y67) (by kernel_rfl) ?_
                      refine rnil (tn_ ?_)
                      refine awp_seq_ ?_
                      refine awp_seq_ ?_
                      refine awp_region_ 9 (by kernel_rfl) ?_
                      refine rs0 (.int .i64 y67) (by kernel_rfl) ?_
                      refine rs0 (.bool (decide (y67 < 0))) (by kernel_rfl) ?_
                      refine rnil (tn_ ?_)
                      rcases cond_some h with ⟨q70, h⟩ | ⟨q70, h⟩
                      · have q70_ := of_decide_eq_true q70
                        refine awp_condT_ q70 (by kernel_rfl) ?_
                        refine awp_seq_ ?_
                        refine awp_region_ 10 (by kernel_rfl) ?_
                        refine rs0 (.bool false) (by kernel_rfl) ?_
                        refine rnil (tn_ ?_)
                        refine awp_ret_ (tr_ ?_)
                        obtain rfl := Option.some.inj h
                        exact ret_ [(.bool false)] (by simp) (by kernel_rfl) (p_one rfl (l_sc (by kernel_rfl)) p_nil) (by kernel_rfl) (by kernel_rfl)
                      · have q70_ := of_decide_eq_false q70
                        refine awp_condF_ q70 (by kernel_rfl) ?_
                        refine awp_skip_ (tn_ ?_)
                        refine awp_seq_ ?_
                        refine awp_seq_ ?_
                        refine awp_region_ 12 (by kernel_rfl) ?_
                        refine rs0 (.int .i64 y67) (by kernel_rfl) ?_
                        refine rs0 (.int .i64 y42.2.2) (by kernel_rfl) ?_
                        refine rs0 (.bool (y67 != y42.2.2)) (by kernel_rfl) ?_
                        refine rnil (tn_ ?_)
                        rcases cond_some h with ⟨q74, h⟩ | ⟨q74, h⟩
                        · refine awp_condT_ q74 (by kernel_rfl) ?_
                          refine awp_seq_ ?_
                          refine awp_region_ 13 (by kernel_rfl) ?_
                          refine rs0 (.bool false) (by kernel_rfl) ?_
                          refine rnil (tn_ ?_)
                          refine awp_ret_ (tr_ ?_)
                          obtain rfl := Option.some.inj h
                          exact ret_ [(.bool false)] (by simp) (by kernel_rfl) (p_one rfl (l_sc (by kernel_rfl)) p_nil) (by kernel_rfl) (by kernel_rfl)
                        · refine awp_condF_ q74 (by kernel_rfl) ?_
                          refine awp_skip_ (tn_ ?_)
                          refine awp_seq_ ?_
                          refine awp_region_ 13 (by kernel_rfl) ?_
                          refine rs0 (.bool true) (by kernel_rfl) ?_
                          refine rnil (tn_ ?_)
                          refine awp_ret_ ?_
                          obtain rfl := Option.some.inj h
                          exact ret_ [(.bool true)] (by simp) (by kernel_rfl) (p_one rfl (l_sc (by kernel_rfl)) p_nil) (by kernel_rfl) (by kernel_rfl)
end Go.Proofs.YthjdknddcceigaaDoor
