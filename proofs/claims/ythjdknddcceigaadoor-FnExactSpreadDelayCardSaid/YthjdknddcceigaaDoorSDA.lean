/- Partial functions in place of code, and that the code does what they say: SDA. No condition. -/
import Derived.Test.YthjdknddcceigaaDoorB3
namespace Go.Proofs.YthjdknddcceigaaDoor
open Go.RowKit Go.Deep
set_option maxRecDepth 4000
def m_spec_opGate : AC :=
  (.seq (rg [xo 4 (.i (.box 31 (tm 1))), xo 6 (qm (cb false))])
  (.seq (rg [xo 7 (qm (tm 0)), xo 8 (.i (.ld false 3 (tm 4))), ⟨(some 9), none, (qc 35 [(tm 7), (tm 8)] [[], [none, (some (.pair .int (.pair .int (.pair .int .int)))), (some .int)]])⟩, xo 10 (qm (tm 9)), ⟨(some 11), (some (10, true)), (qm (tm 2))⟩, ⟨(some 12), (some (10, true)), (qf 1 (tm 4))⟩, ⟨(some 13), (some (10, true)), (ql (tm 12))⟩, ⟨(some 14), (some (10, true)), (.i (.len (tm 13)))⟩, ⟨(some 15), (some (10, true)), (qb .sub (tm 14) (ci 1))⟩, ⟨(some 16), (some (10, true)), (qc 41 [(tm 11), (ci 0), (tm 15)] [[], [], []])⟩, xo 17 (.i (.pick (tm 10) (tm 16) (cb false))), xo 6 (qm (tm 17))])
  .ret))
def r_spec_opGate : List Res := [.tmp 6]
theorem c_spec_opGate : compiled Tryd.prog Tryd.f50 = some (m_spec_opGate, r_spec_opGate) := by kernel_rfl
theorem hb_spec_opGate : hasBody Tryd.prog 50 = true := by kernel_rfl
def L_spec_opGate (a0 : Int) (a1_0 : Int) (a1_1 : List (Int × Int × Int × Int)) (a1_2 : List Int) (a2 : Int) : Option Bool :=
  Option.bind (Option.bind (L_spec_crGood a0 a1_0 a1_1 a1_2) fun y3 =>
  cond y3
    (Option.bind (L_spec_l1In a2 0 (IntKind.i64.wrap (((a1_1.length : Nat) : Int) - 1))) fun y5 =>
    some y5)
    (some false)) fun l2_m6 =>
some l2_m6
def rv_spec_opGate (r : Bool) : RV := ⟨false, [(false, [.sc (.bool r)])]⟩
theorem ok_spec_opGate {a0 : Int} {a1_0 : Int} {a1_1 : List (Int × Int × Int × Int)} {a1_2 : List Int} {a2 : Int} {r : Bool} (h : L_spec_opGate a0 a1_0 a1_1 a1_2 a2 = some r) : CallOK Tryd.prog Tab 50 [(ai a0), (.agg [(ai a1_0), (.tree (.pair .int (.pair .int (.pair .int .int))) a1_1), (.tree .int a1_2)]), (ai a2)] (rv_spec_opGate r) := by
  refine call_of_ (by kernel_rfl) Tryd.func50 c_spec_opGate (n := 18) (by kernel_rfl) (by simp) (tl := [(0, (ai a0)), (1, (.agg [(ai a1_0), (.tree (.pair .int (.pair .int (.pair .int .int))) a1_1), (.tree .int a1_2)])), (2, (ai a2))]) rfl ?_
  unfold m_spec_opGate
  unfold L_spec_opGate at h
  refine seqR ?_
  refine awp_seqB h (fun (l2_m6 : Bool) S_ => S_ = ⟨mkTm [(6, (.bool l2_m6))], mkOb (someL []), 2⟩) ?_ ?_
  · intro v_ h
    obtain ⟨y3, h3, h⟩ := ob_some h
    rcases cond_some h with ⟨q4, h⟩ | ⟨q4, h⟩
    · obtain ⟨y5, h5, h⟩ := ob_some h
      refine awp_region_ 15 ?_
      refine rs0 (ai a0) (by kernel_rfl) ?_
      refine rsl (.agg [(ai a1_0), (.tree (.pair .int (.pair .int (.pair .int .int))) a1_1), (.tree .int a1_2)]) (by kernel_rfl) ?_
      refine rcall (.bool y3) [] [(ai a0), (.agg [(ai a1_0), (.tree (.pair .int (.pair .int (.pair .int .int))) a1_1), (.tree .int a1_2)])] _ (caps := []) (args0 := [(ai a0), (.agg [(ai a1_0), (.tree (.pair .int (.pair .int (.pair .int .int))) a1_1), (.tree .int a1_2)])]) trivial (by kernel_rfl) (ok_spec_crGood h3) hb_spec_crGood ?_
      refine rs0 (.bool y3) (by kernel_rfl) ?_
      refine rs0 (ai a2) (s_gd (by kernel_rfl) q4 (by kernel_rfl)) ?_
      refine rs0 (.box (oi 4 1) 1) (s_gd (by kernel_rfl) q4 (by kernel_rfl)) ?_
      refine rsl (.tree (.pair .int (.pair .int (.pair .int .int))) a1_1) (s_gd (by kernel_rfl) q4 (by kernel_rfl)) ?_
      refine rs0 (ai ((a1_1.length : Nat) : Int)) (s_gd (by kernel_rfl) q4 (by kernel_rfl)) ?_
      refine rs0 (ai (IntKind.i64.wrap (((a1_1.length : Nat) : Int) - 1))) (s_gd (by kernel_rfl) q4 (by kernel_rfl)) ?_
      refine rcall (.bool y5) [] [(ai a2), (ai 0), (ai (IntKind.i64.wrap (((a1_1.length : Nat) : Int) - 1)))] _ (caps := []) (args0 := [(ai a2), (ai 0), (ai (IntKind.i64.wrap (((a1_1.length : Nat) : Int) - 1)))]) (gdOK_b (by kernel_rfl) q4) (by kernel_rfl) (ok_spec_l1In h5) hb_spec_l1In ?_
      refine rs0 (.bool y5) (s_pickT (by kernel_rfl) q4) ?_
      refine rsB 1 ?_
      refine rnil (tn_ ?_)
      obtain rfl := Option.some.inj h
      exact ⟨_, (weak_ren []), rfl⟩
    refine awp_region_ 15 ?_
    refine rs0 (ai a0) (by kernel_rfl) ?_
    refine rsl (.agg [(ai a1_0), (.tree (.pair .int (.pair .int (.pair .int .int))) a1_1), (.tree .int a1_2)]) (by kernel_rfl) ?_
    refine rcall (.bool y3) [] [(ai a0), (.agg [(ai a1_0), (.tree (.pair .int (.pair .int (.pair .int .int))) a1_1), (.tree .int a1_2)])] _ (caps := []) (args0 := [(ai a0), (.agg [(ai a1_0), (.tree (.pair .int (.pair .int (.pair .int .int))) a1_1), (.tree .int a1_2)])]) trivial (by kernel_rfl) (ok_spec_crGood h3) hb_spec_crGood ?_
    refine rs0 (.bool y3) (by kernel_rfl) ?_
    refine rs0 (.tup []) (s_skip (by kernel_rfl) q4) ?_
    refine rs0 (.tup []) (s_skip (by kernel_rfl) q4) ?_
    refine rs0 (.tup []) (s_skip (by kernel_rfl) q4) ?_
    refine rs0 (.tup []) (s_skip (by kernel_rfl) q4) ?_
    refine rs0 (.tup []) (s_skip (by kernel_rfl) q4) ?_
    refine rs0 (.tup []) (s_skip (by kernel_rfl) q4) ?_
    refine rs0 (.bool false) (s_pickF (by kernel_rfl) q4) ?_
    refine rsB 1 ?_
    refine rnil (tn_ ?_)
    obtain rfl := Option.some.inj h
    exact ⟨_, (weak_ren []), rfl⟩
  rintro l2_m6 _ rfl h
  (try dsimp only at h)
  refine awp_ret_ ?_
  obtain rfl := Option.some.inj h
  exact ret_ [(.bool l2_m6)] (p_one rfl (l_sc (by kernel_rfl)) p_nil)
def m_spec_opCombines : AC :=
  (.seq (rg [xo 1 (.i (.box 51 (tm 0))), xo 2 (qm (ci 0)), xo 3 (qm (cb false))])
  (.seq (.seq (rg [xo 4 (qf 0 (tm 1)), xo 5 (ql (tm 4))])
  (.block 0 (.seq (rg [xo 7 (qb .eql (tm 5) (ci 3)), xo 6 (qm (tm 7))])
  (.cond (tm 6)
    (.seq (rg [xo 2 (qm (ci 2)), xo 3 (qm (cb true))])
    .ret)
    (.seq (rg [xo 9 (qb .eql (tm 5) (ci 4)), xo 8 (qm (tm 9))])
    (.cond (tm 8)
      (.seq (rg [xo 2 (qm (ci 1)), xo 3 (qm (cb true))])
      .ret)
      .skip))))))
  (.seq (rg [xo 2 (qm (ci 0)), xo 3 (qm (cb false))])
  .ret)))
def r_spec_opCombines : List Res := [.tmp 2, .tmp 3]
theorem c_spec_opCombines : compiled Tryd.prog Tryd.f51 = some (m_spec_opCombines, r_spec_opCombines) := by kernel_rfl
theorem hb_spec_opCombines : hasBody Tryd.prog 51 = true := by kernel_rfl
def L_spec_opCombines (a0_0 : Int) (a0_1 : Int) (a0_2 : Int) (a0_3 : Int) : Option (Int × Bool) :=
  cond (a0_0 == 3)
  (some (2, true))
  (cond (a0_0 == 4)
    (some (1, true))
    (some (0, false)))
def rv_spec_opCombines (r : Int × Bool) : RV := ⟨true, [(false, [.sc (.int .i64 r.1)]), (false, [.sc (.bool r.2)])]⟩
theorem ok_spec_opCombines {a0_0 : Int} {a0_1 : Int} {a0_2 : Int} {a0_3 : Int} {r : Int × Bool} (h : L_spec_opCombines a0_0 a0_1 a0_2 a0_3 = some r) : CallOK Tryd.prog Tab 51 [(.agg [(ai a0_0), (ai a0_1), (ai a0_2), (ai a0_3)])] (rv_spec_opCombines r) := by
  refine call_of_ (by kernel_rfl) Tryd.func51 c_spec_opCombines (n := 10) (by kernel_rfl) (by simp) (tl := [(0, (.agg [(ai a0_0), (ai a0_1), (ai a0_2), (ai a0_3)]))]) rfl ?_
  unfold m_spec_opCombines
  unfold L_spec_opCombines at h
  refine seqR ?_
  refine awp_seqv_ ?_
  refine seqR ?_
  refine awp_block_ ?_
  refine seqR ?_
  rcases cond_some h with ⟨q5, h⟩ | ⟨q5, h⟩
  · refine awp_condT_ q5 ?_
    refine seqR ?_
    refine awp_ret_ (br_ (tr_ ?_))
    obtain rfl := Option.some.inj h
    exact ret_ [(ai 2), (.bool true)] (p_one rfl (l_sc (by kernel_rfl)) (p_one rfl (l_sc (by kernel_rfl)) p_nil))
  refine awp_condF_ q5 ?_
  refine seqR ?_
  rcases cond_some h with ⟨q8, h⟩ | ⟨q8, h⟩
  · refine awp_condT_ q8 ?_
    refine seqR ?_
    refine awp_ret_ (br_ (tr_ ?_))
    obtain rfl := Option.some.inj h
    exact ret_ [(ai 1), (.bool true)] (p_one rfl (l_sc (by kernel_rfl)) (p_one rfl (l_sc (by kernel_rfl)) p_nil))
  refine awp_condF_ q8 ?_
  refine awp_skip_ (bn_ (tn_ ?_))
  refine ⟨_, Weak.refl _, ?_⟩
  refine seqR ?_
  refine awp_ret_ ?_
  obtain rfl := Option.some.inj h
  exact ret_ [(ai 0), (.bool false)] (p_one rfl (l_sc (by kernel_rfl)) (p_one rfl (l_sc (by kernel_rfl)) p_nil))
def m_spec_opOwn : AC :=
  (.seq (rg [xo 1 (.i (.box 31 (tm 0))), xo 2 (.i (.alloc 31 [(.int .i64 0), .nils, .nils]))])
  (.seq (.region [xo 3 (qf 0 (tm 1)), xo 4 (ql (tm 3)), ⟨(some 5), none, (.mkS 51 (.pair .int (.pair .int (.pair .int .int))) [])⟩, xo 6 (qf 1 (tm 1)), xo 7 (ql (tm 6)), ⟨(some 8), none, (.append 51 (.pair .int (.pair .int (.pair .int .int))) 32 (tm 5) (tm 7))⟩, xo 9 (qf 2 (tm 1)), xo 10 (ql (tm 9)), xo 11 (qc 79 [(tm 10)] [[(some .int)]]), xo 12 (.build [(.int .i64 0), .nils, .nils] [(0, 1, (tm 4)), (1, 1, (tm 8)), (2, 1, (tm 11))]), xn (.st false 3 (tm 2) (tm 12))] true [(1, 5), (5, 7), (1, 8)])
  .ret))
def r_spec_opOwn : List Res := [.cell 2 false 3]
theorem c_spec_opOwn : compiled Tryd.prog Tryd.f52 = some (m_spec_opOwn, r_spec_opOwn) := by kernel_rfl
theorem hb_spec_opOwn : hasBody Tryd.prog 52 = true := by kernel_rfl
def L_spec_opOwn (a0_0 : Int) (a0_1 : List (Int × Int × Int × Int)) (a0_2 : List Int) : Option (Int × (List (Int × Int × Int × Int)) × List Int) :=
  og (0 + a0_1.length ≤ 1073741824 ∧ (0 + a0_1.length) * 32 ≤ 140737488355328) <|
Option.bind (L_spec_l1Own a0_2) fun y4 =>
some (a0_0, a0_1, y4)
def rv_spec_opOwn (r : Int × (List (Int × Int × Int × Int)) × List Int) : RV := ⟨false, [(true, [.sc (.int .i64 r.1), .new 51 (.pair .int (.pair .int (.pair .int .int))) r.2.1, .new 3 .int r.2.2])]⟩
theorem ok_spec_opOwn {a0_0 : Int} {a0_1 : List (Int × Int × Int × Int)} {a0_2 : List Int} {r : Int × (List (Int × Int × Int × Int)) × List Int} (h : L_spec_opOwn a0_0 a0_1 a0_2 = some r) : CallOK Tryd.prog Tab 52 [(.agg [(ai a0_0), (.tree (.pair .int (.pair .int (.pair .int .int))) a0_1), (.tree .int a0_2)])] (rv_spec_opOwn r) := by
  refine call_of_ (by kernel_rfl) Tryd.func52 c_spec_opOwn (n := 13) (by kernel_rfl) (by simp) (tl := [(0, (.agg [(ai a0_0), (.tree (.pair .int (.pair .int (.pair .int .int))) a0_1), (.tree .int a0_2)]))]) rfl ?_
  unfold m_spec_opOwn
  unfold L_spec_opOwn at h
  refine seqR ?_
  refine awp_seqv_ ?_
  obtain ⟨g3, h⟩ := og_some h
  obtain ⟨y4, h4, h⟩ := ob_some h
  refine awp_regionD_ 14 ?_
  refine ds0 (.box (oi 1 1) 0) (by kernel_rfl) ?_
  refine dsl (ai a0_0) (by kernel_rfl) ?_
  refine ds1 (.own (oi 5 5) (.pair .int (.pair .int (.pair .int .int))) 0 0) (oi 5 5) (.arr 51 (.pair .int (.pair .int (.pair .int .int))) []) (by kernel_rfl) ?_
  refine ds0 (.box (oi 1 1) 1) (by kernel_rfl) ?_
  refine dsl (.tree (.pair .int (.pair .int (.pair .int .int))) a0_1) (by kernel_rfl) ?_
  refine ds2 (.own (oi 5 8) (.pair .int (.pair .int (.pair .int .int))) 0 a0_1.length) (oi 5 5) (oi 5 8) (.arr 51 (.pair .int (.pair .int (.pair .int .int))) a0_1) (s_appO (t := (.pair .int (.pair .int (.pair .int .int)))) (t' := (.pair .int (.pair .int (.pair .int .int)))) (xs := []) (ys := a0_1) (zs := a0_1) (j := (oi 5 5)) (len := 0) (c := (.tree (.pair .int (.pair .int (.pair .int .int))) a0_1)) (by kernel_rfl) (by kernel_rfl) rfl (by kernel_rfl) sr_tree rfl g3) ?_
  refine ds0 (.box (oi 1 1) 2) (by kernel_rfl) ?_
  refine dsl (.tree .int a0_2) (by kernel_rfl) ?_
  refine dcall (.own (oi 176 11) .int 0 y4.length) [((oi 176 11), some (.arr 3 .int y4))] [(.tree .int a0_2)] _ (caps := []) (args0 := [(.tree .int a0_2)]) trivial (by kernel_rfl) (ok_spec_l1Own h4) hb_spec_l1Own ?_
  refine ds0 (.agg [(ai a0_0), (.own (oi 5 8) (.pair .int (.pair .int (.pair .int .int))) 0 a0_1.length), (.own (oi 176 11) .int 0 y4.length)]) (by kernel_rfl) ?_
  refine dsn2 (oi 2 2) (oi 2 2) (.cells 31 [(ai a0_0), (.own (oi 5 8) (.pair .int (.pair .int (.pair .int .int))) 0 a0_1.length), (.own (oi 176 11) .int 0 y4.length)]) (by kernel_rfl) ?_
  refine dnil (badB_spec (by kernel_rfl)) (tn_ ?_)
  refine ⟨_, Weak.refl _, ?_⟩
  refine awp_ret_ ?_
  obtain rfl := Option.some.inj h
  exact ret_ [(.agg [(ai a0_0), (.own (oi 5 8) (.pair .int (.pair .int (.pair .int .int))) 0 a0_1.length), (.own (oi 176 11) .int 0 y4.length)])] (p_agg (l_cons (l_sc (by kernel_rfl)) (l_cons (l_own (by kernel_rfl) rfl) (l_cons (l_own (by kernel_rfl) rfl) l_nil))) p_nil)
def m_spec_SpreadDelay : AC :=
  (.seq (rg [xo 4 (.i (.box 31 (tm 1))), xo 6 (.i (.alloc 31 [(.int .i64 0), .nils, .nils])), xo 7 (qm (cb false))])
  (.seq (.seq (rg [xo 13 (qm (tm 0)), xo 14 (.i (.ld false 3 (tm 4))), xo 15 (qm (tm 2)), ⟨(some 16), none, (qc 50 [(tm 13), (tm 14), (tm 15)] [[], [none, (some (.pair .int (.pair .int (.pair .int .int)))), (some .int)], []])⟩, xo 17 (.i (.not (tm 16))), xo 18 (qm (tm 17)), ⟨(some 19), (some (18, false)), (qf 1 (tm 4))⟩, ⟨(some 20), (some (18, false)), (ql (tm 19))⟩, ⟨(some 21), (some (18, false)), (qm (tm 2))⟩, ⟨(some 22), (some (18, false)), (qx 4 (tm 20) (tm 21))⟩, ⟨(some 23), (some (18, false)), (qf 0 (tm 22))⟩, ⟨(some 24), (some (18, false)), (ql (tm 23))⟩, ⟨(some 25), (some (18, false)), (qb .neq (tm 24) (ci 5))⟩, xo 26 (.i (.pick (tm 18) (cb true) (tm 25)))])
  (.cond (tm 26)
    (.seq (rg [xo 27 (.build [(.int .i64 0), .nils, .nils] []), xn (.st false 3 (tm 6) (tm 27)), xo 7 (qm (cb false))])
    .ret)
    .skip))
  (.seq (.region [xo 28 (qf 1 (tm 4)), xo 29 (ql (tm 28)), xo 30 (qf 1 (tm 4)), xo 31 (ql (tm 30)), xo 32 (qm (tm 2)), xo 33 (qx 4 (tm 31) (tm 32)), xo 34 (qf 1 (tm 33)), xo 35 (ql (tm 34)), xo 36 (qx 4 (tm 29) (tm 35)), xo 37 (.i (.ld false 4 (tm 36))), xo 8 (.i (.alloc 51 [(.int .i64 0), (.int .i64 0), (.int .i64 0), (.int .i64 0)])), xn (.st false 4 (tm 8) (tm 37))] true [])
  (.seq (rg [xo 39 (.i (.ld false 4 (tm 8))), xo 40 (qc 51 [(tm 39)] [[none, none, none, none]]), xo 38 (qm (tm 40)), xo 41 (.i (.extr 0 (tm 38))), xo 42 (.i (.extr 1 (tm 38))), xo 9 (qm (tm 41)), xo 10 (qm (tm 42))])
  (.seq (.seq (rg [xo 43 (qm (tm 10)), xo 44 (.i (.not (tm 43)))])
  (.cond (tm 44)
    (.seq (rg [xo 45 (.build [(.int .i64 0), .nils, .nils] []), xn (.st false 3 (tm 6) (tm 45)), xo 7 (qm (cb false))])
    .ret)
    .skip))
  (.seq (rg [xo 46 (.i (.ld false 3 (tm 4))), ⟨(some 47), none, (qc 52 [(tm 46)] [[none, (some (.pair .int (.pair .int (.pair .int .int)))), (some .int)]])⟩, xo 11 (.i (.alloc 31 [(.int .i64 0), .nils, .nils])), xn (.st false 3 (tm 11) (tm 47))])
  (.seq (rg [xo 48 (qf 0 (tm 8)), xo 49 (ql (tm 48)), xo 50 (qf 3 (tm 8)), xo 51 (ql (tm 50)), xo 52 (qf 1 (tm 4)), xo 53 (ql (tm 52)), xo 54 (.i (.len (tm 53))), xo 55 (.build [(.int .i64 0), (.int .i64 0), (.int .i64 0), (.int .i64 0)] [(0, 1, (tm 49)), (3, 1, (tm 51)), (1, 1, (tm 54))]), xo 12 (.i (.alloc 51 [(.int .i64 0), (.int .i64 0), (.int .i64 0), (.int .i64 0)])), xn (.st false 4 (tm 12) (tm 55))])
  (.seq (rg [xo 56 (qf 1 (tm 11)), xo 57 (ql (tm 56)), xo 58 (qf 1 (tm 8)), xo 59 (ql (tm 58)), xo 60 (.build [(.int .i64 0), (.int .i64 0), (.int .i64 0), (.int .i64 0)] [(0, 1, (ci 5)), (1, 1, (tm 59))]), ⟨(some 61), none, (.mkS 51 (.pair .int (.pair .int (.pair .int .int))) [(tm 60)])⟩, ⟨(some 62), none, (.append 51 (.pair .int (.pair .int (.pair .int .int))) 32 (tm 57) (tm 61))⟩, xo 63 (qf 1 (tm 11)), xn (qs (tm 63) (tm 62))])
  (.seq (.seq (rg [xo 64 (qm (tm 9)), xo 65 (qb .eql (tm 64) (ci 2))])
  (.cond (tm 65)
    (.seq (rg [xo 66 (qf 1 (tm 11)), xo 67 (ql (tm 66)), xo 68 (.i (.len (tm 67))), xo 69 (qf 2 (tm 12)), xn (qs (tm 69) (tm 68))])
    (rg [xo 70 (qf 1 (tm 11)), xo 71 (ql (tm 70)), xo 72 (qf 2 (tm 8)), xo 73 (ql (tm 72)), xo 74 (.build [(.int .i64 0), (.int .i64 0), (.int .i64 0), (.int .i64 0)] [(0, 1, (ci 5)), (1, 1, (tm 73))]), ⟨(some 75), none, (.mkS 51 (.pair .int (.pair .int (.pair .int .int))) [(tm 74)])⟩, ⟨(some 76), none, (.append 51 (.pair .int (.pair .int (.pair .int .int))) 32 (tm 71) (tm 75))⟩, xo 77 (qf 1 (tm 11)), xn (qs (tm 77) (tm 76))]))
    .skip))
  (.seq (rg [xo 78 (qf 1 (tm 11)), xo 79 (ql (tm 78)), xo 80 (qm (tm 2)), xo 81 (.i (.ld false 4 (tm 12))), xo 82 (qx 4 (tm 79) (tm 80)), xn (.st false 4 (tm 82) (tm 81))])
  (.seq (rg [xo 83 (qm (tm 0)), xo 84 (.i (.ld false 3 (tm 11))), ⟨(some 85), none, (qc 43 [(tm 83), (tm 84)] [[], [none, (some (.pair .int (.pair .int (.pair .int .int)))), (some .int)]])⟩, xo 86 (.i (.extr 0 (tm 85))), xo 87 (.i (.extr 1 (tm 85))), xn (.st false 3 (tm 6) (tm 86)), xo 7 (qm (tm 87))])
  .ret)))))))))))
def r_spec_SpreadDelay : List Res := [.cell 6 false 3, .tmp 7]
theorem c_spec_SpreadDelay : compiled Tryd.prog Tryd.f22 = some (m_spec_SpreadDelay, r_spec_SpreadDelay) := by kernel_rfl
theorem hb_spec_SpreadDelay : hasBody Tryd.prog 22 = true := by kernel_rfl
def L_spec_SpreadDelay (a0 : Int) (a1_0 : Int) (a1_1 : List (Int × Int × Int × Int)) (a1_2 : List Int) (a2 : Int) : Option (Int × (List (Int × Int × Int × Int)) × List Int × Bool) :=
  Option.bind (Option.bind (L_spec_opGate a0 a1_0 a1_1 a1_2 a2) fun y4 =>
  cond (!y4)
    (some true)
    (Option.bind (getI a1_1 a2) fun x6 =>
    some (x6.1 != 5))) fun l3_m26 =>
cond l3_m26
  (some (0, [], [], false))
  (Option.bind (getI a1_1 a2) fun x10 =>
  Option.bind (getI a1_1 x10.2.1) fun x11 =>
  Option.bind (L_spec_opCombines x11.1 x11.2.1 x11.2.2.1 x11.2.2.2) fun y13 =>
  cond (!y13.2)
    (some (0, [], [], false))
    (Option.bind (L_spec_opOwn a1_0 a1_1 a1_2) fun y19 =>
    og (y19.2.1.length + 1 ≤ 1073741824 ∧ (y19.2.1.length + 1) * 32 ≤ 140737488355328) <|
    Option.bind (cond (y13.1 == 2)
        (og (((y19.2.1 ++ ([(5, x11.2.1, 0, 0)])).length) + 1 ≤ 1073741824 ∧ (((y19.2.1 ++ ([(5, x11.2.1, 0, 0)])).length) + 1) * 32 ≤ 140737488355328) <|
        some ((y19.2.1 ++ ([(5, x11.2.1, 0, 0)])).length, (y19.2.1 ++ ([(5, x11.2.1, 0, 0)])) ++ ([(5, x11.2.2.1, 0, 0)])))
        (some (0, y19.2.1 ++ ([(5, x11.2.1, 0, 0)])))) fun (l23_m12_2, l23_m11_1) =>
    Option.bind (getI l23_m11_1 a2) fun x29 =>
    Option.bind (Option.bind (L_spec_crIf a0 y19.1 (l23_m11_1.set a2.toNat (x11.1, ((a1_1.length : Nat) : Int), ((l23_m12_2 : Nat) : Int), x11.2.2.2)) y19.2.2) fun y31 =>
      (Sum.elim (fun z31_0 =>
      some (z31_0.2, z31_0.1, [], [])) (fun z31_1 =>
      some (z31_1.2, z31_1.1, l23_m11_1.set a2.toNat (x11.1, ((a1_1.length : Nat) : Int), ((l23_m12_2 : Nat) : Int), x11.2.2.2), y19.2.2))) y31) fun (l30_m7, l30_m6_0, l30_m6_1, l30_m6_2) =>
    some (l30_m6_0, l30_m6_1, l30_m6_2, l30_m7)))
def rv_spec_SpreadDelay (r : Int × (List (Int × Int × Int × Int)) × List Int × Bool) : RV := ⟨true, [(true, [.sc (.int .i64 r.1), .new 51 (.pair .int (.pair .int (.pair .int .int))) r.2.1, .new 3 .int r.2.2.1]), (false, [.sc (.bool r.2.2.2)])]⟩
theorem ok_spec_SpreadDelay {a0 : Int} {a1_0 : Int} {a1_1 : List (Int × Int × Int × Int)} {a1_2 : List Int} {a2 : Int} {r : Int × (List (Int × Int × Int × Int)) × List Int × Bool} (h : L_spec_SpreadDelay a0 a1_0 a1_1 a1_2 a2 = some r) : CallOK Tryd.prog Tab 22 [(ai a0), (.agg [(ai a1_0), (.tree (.pair .int (.pair .int (.pair .int .int))) a1_1), (.tree .int a1_2)]), (ai a2)] (rv_spec_SpreadDelay r) := by
  refine call_of_ (by kernel_rfl) Tryd.func22 c_spec_SpreadDelay (n := 88) (by kernel_rfl) (by simp) (tl := [(0, (ai a0)), (1, (.agg [(ai a1_0), (.tree (.pair .int (.pair .int (.pair .int .int))) a1_1), (.tree .int a1_2)])), (2, (ai a2))]) rfl ?_
  unfold m_spec_SpreadDelay
  unfold L_spec_SpreadDelay at h
  refine seqR ?_
  refine awp_seqv_ ?_
  refine awp_seqB h (fun (l3_m26 : Bool) S_ => S_ = ⟨mkTm [(0, (ai a0)), (2, (ai a2)), (4, (.box (oi 0 1) 0)), (6, (.box (oi 1 1) 0)), (26, (.bool l3_m26))], mkOb (someL [((oi 0 1), .cells 31 [(ai a1_0), (.tree (.pair .int (.pair .int (.pair .int .int))) a1_1), (.tree .int a1_2)]), ((oi 1 1), .cells 31 [(ai 0), .nils, .nils])]), 2⟩) ?_ ?_
  · intro v_ h
    obtain ⟨y4, h4, h⟩ := ob_some h
    rcases cond_some h with ⟨q5, h⟩ | ⟨q5, h⟩
    · refine awp_region_ 18 ?_
      refine rs0 (ai a0) (by kernel_rfl) ?_
      refine rsl (.agg [(ai a1_0), (.tree (.pair .int (.pair .int (.pair .int .int))) a1_1), (.tree .int a1_2)]) (by kernel_rfl) ?_
      refine rs0 (ai a2) (by kernel_rfl) ?_
      refine rcall (.bool y4) [] [(ai a0), (.agg [(ai a1_0), (.tree (.pair .int (.pair .int (.pair .int .int))) a1_1), (.tree .int a1_2)]), (ai a2)] _ (caps := []) (args0 := [(ai a0), (.agg [(ai a1_0), (.tree (.pair .int (.pair .int (.pair .int .int))) a1_1), (.tree .int a1_2)]), (ai a2)]) trivial (by kernel_rfl) (ok_spec_opGate h4) hb_spec_opGate ?_
      refine rs0 (.bool (!y4)) (by kernel_rfl) ?_
      refine rs0 (.bool (!y4)) (by kernel_rfl) ?_
      refine rs0 (.tup []) (s_skip (by kernel_rfl) q5) ?_
      refine rs0 (.tup []) (s_skip (by kernel_rfl) q5) ?_
      refine rs0 (.tup []) (s_skip (by kernel_rfl) q5) ?_
      refine rs0 (.tup []) (s_skip (by kernel_rfl) q5) ?_
      refine rs0 (.tup []) (s_skip (by kernel_rfl) q5) ?_
      refine rs0 (.tup []) (s_skip (by kernel_rfl) q5) ?_
      refine rs0 (.tup []) (s_skip (by kernel_rfl) q5) ?_
      refine rs0 (.bool true) (s_pickT (by kernel_rfl) q5) ?_
      refine rnil (tn_ ?_)
      obtain rfl := Option.some.inj h
      exact ⟨_, (weak_ren [((oi 0 1), (oi 4 1)), ((oi 1 1), (oi 6 2))]), rfl⟩
    obtain ⟨x6, f6, h⟩ := ob_some h
    obtain ⟨p6, b6, e6⟩ := getI_some f6
    refine awp_region_ 18 ?_
    refine rs0 (ai a0) (by kernel_rfl) ?_
    refine rsl (.agg [(ai a1_0), (.tree (.pair .int (.pair .int (.pair .int .int))) a1_1), (.tree .int a1_2)]) (by kernel_rfl) ?_
    refine rs0 (ai a2) (by kernel_rfl) ?_
    refine rcall (.bool y4) [] [(ai a0), (.agg [(ai a1_0), (.tree (.pair .int (.pair .int (.pair .int .int))) a1_1), (.tree .int a1_2)]), (ai a2)] _ (caps := []) (args0 := [(ai a0), (.agg [(ai a1_0), (.tree (.pair .int (.pair .int (.pair .int .int))) a1_1), (.tree .int a1_2)]), (ai a2)]) trivial (by kernel_rfl) (ok_spec_opGate h4) hb_spec_opGate ?_
    refine rs0 (.bool (!y4)) (by kernel_rfl) ?_
    refine rs0 (.bool (!y4)) (by kernel_rfl) ?_
    refine rs0 (.box (oi 4 1) 1) (s_gd (by kernel_rfl) q5 (by kernel_rfl)) ?_
    refine rsl (.tree (.pair .int (.pair .int (.pair .int .int))) a1_1) (s_gd (by kernel_rfl) q5 (by kernel_rfl)) ?_
    refine rs0 (ai a2) (s_gd (by kernel_rfl) q5 (by kernel_rfl)) ?_
    refine rs0 (.telt (.pair .int (.pair .int (.pair .int .int))) x6 0) (s_gd (by kernel_rfl) q5 (s_idxT (t := (.pair .int (.pair .int (.pair .int .int)))) (xs := a1_1) (k := .i64) (m := a2) (by kernel_rfl) (by kernel_rfl) rfl p6 rfl e6)) ?_
    refine rs0 (.telt (.pair .int (.pair .int (.pair .int .int))) x6 0) (s_gd (by kernel_rfl) q5 (by kernel_rfl)) ?_
    refine rs0 (ai x6.1) (s_gd (by kernel_rfl) q5 (by kernel_rfl)) ?_
    refine rs0 (.bool (x6.1 != 5)) (s_gd (by kernel_rfl) q5 (by kernel_rfl)) ?_
    refine rs0 (.bool (x6.1 != 5)) (s_pickF (by kernel_rfl) q5) ?_
    refine rnil (tn_ ?_)
    obtain rfl := Option.some.inj h
    exact ⟨_, (weak_ren [((oi 0 1), (oi 4 1)), ((oi 1 1), (oi 6 2))]), rfl⟩
  rintro l3_m26 _ rfl h
  (try dsimp only at h)
  rcases cond_some h with ⟨q7, h⟩ | ⟨q7, h⟩
  · refine awp_condT_ q7 ?_
    refine seqR ?_
    refine awp_ret_ (tr_ ?_)
    obtain rfl := Option.some.inj h
    exact ret_ [(.agg [(ai 0), .nils, .nils]), (.bool false)] (p_agg (l_cons (l_sc (by kernel_rfl)) (l_cons (l_nils rfl) (l_cons (l_nils rfl) l_nil))) (p_one rfl (l_sc (by kernel_rfl)) p_nil))
  refine awp_condF_ q7 ?_
  refine awp_skip_ (tn_ ?_)
  refine ⟨_, Weak.refl _, ?_⟩
  refine awp_seqv_ ?_
  obtain ⟨x10, f10, h⟩ := ob_some h
  obtain ⟨p10, b10, e10⟩ := getI_some f10
  obtain ⟨x11, f11, h⟩ := ob_some h
  obtain ⟨p11, b11, e11⟩ := getI_some f11
  refine awp_regionD_ 14 ?_
  refine ds0 (.box (oi 0 1) 1) (by kernel_rfl) ?_
  refine dsl (.tree (.pair .int (.pair .int (.pair .int .int))) a1_1) (by kernel_rfl) ?_
  refine ds0 (.box (oi 0 1) 1) (by kernel_rfl) ?_
  refine dsl (.tree (.pair .int (.pair .int (.pair .int .int))) a1_1) (by kernel_rfl) ?_
  refine ds0 (ai a2) (by kernel_rfl) ?_
  refine ds0 (.telt (.pair .int (.pair .int (.pair .int .int))) x10 0) (s_idxT (t := (.pair .int (.pair .int (.pair .int .int)))) (xs := a1_1) (k := .i64) (m := a2) (by kernel_rfl) (by kernel_rfl) rfl p10 rfl e10) ?_
  refine ds0 (.telt (.pair .int (.pair .int (.pair .int .int))) x10 1) (by kernel_rfl) ?_
  refine ds0 (ai x10.2.1) (by kernel_rfl) ?_
  refine ds0 (.telt (.pair .int (.pair .int (.pair .int .int))) x11 0) (s_idxT (t := (.pair .int (.pair .int (.pair .int .int)))) (xs := a1_1) (k := .i64) (m := x10.2.1) (by kernel_rfl) (by kernel_rfl) rfl p11 rfl e11) ?_
  refine ds0 (.agg [(ai x11.1), (ai x11.2.1), (ai x11.2.2.1), (ai x11.2.2.2)]) (by kernel_rfl) ?_
  refine ds1 (.box (oi 8 12) 0) (oi 8 12) (.cells 51 [(ai 0), (ai 0), (ai 0), (ai 0)]) (by kernel_rfl) ?_
  refine dsn2 (oi 8 12) (oi 8 12) (.cells 51 [(ai x11.1), (ai x11.2.1), (ai x11.2.2.1), (ai x11.2.2.2)]) (by kernel_rfl) ?_
  refine dnil (badB_spec (by kernel_rfl)) (tn_ ?_)
  refine ⟨_, Weak.refl _, ?_⟩
  refine awp_seqv_ ?_
  obtain ⟨y13, h13, h⟩ := ob_some h
  refine awp_region_ 21 ?_
  refine rsl (.agg [(ai x11.1), (ai x11.2.1), (ai x11.2.2.1), (ai x11.2.2.2)]) (by kernel_rfl) ?_
  refine rcall (.tup [(ai y13.1), (.bool y13.2)]) [] [(.agg [(ai x11.1), (ai x11.2.1), (ai x11.2.2.1), (ai x11.2.2.2)])] _ (caps := []) (args0 := [(.agg [(ai x11.1), (ai x11.2.1), (ai x11.2.2.1), (ai x11.2.2.2)])]) trivial (by kernel_rfl) (ok_spec_opCombines h13) hb_spec_opCombines ?_
  refine rsB 5 ?_
  refine rnil (tn_ ?_)
  refine ⟨_, Weak.refl _, ?_⟩
  refine awp_seqv_ ?_
  refine seqR ?_
  rcases cond_some h with ⟨q16, h⟩ | ⟨q16, h⟩
  · refine awp_condT_ q16 ?_
    refine seqR ?_
    refine awp_ret_ (tr_ ?_)
    obtain rfl := Option.some.inj h
    exact ret_ [(.agg [(ai 0), .nils, .nils]), (.bool false)] (p_agg (l_cons (l_sc (by kernel_rfl)) (l_cons (l_nils rfl) (l_cons (l_nils rfl) l_nil))) (p_one rfl (l_sc (by kernel_rfl)) p_nil))
  refine awp_condF_ q16 ?_
  refine awp_skip_ (tn_ ?_)
  refine ⟨_, Weak.refl _, ?_⟩
  refine awp_seqv_ ?_
  obtain ⟨y19, h19, h⟩ := ob_some h
  refine awp_region_ 27 ?_
  refine rsl (.agg [(ai a1_0), (.tree (.pair .int (.pair .int (.pair .int .int))) a1_1), (.tree .int a1_2)]) (by kernel_rfl) ?_
  refine rcall (.agg [(ai y19.1), (.own (oi 752 24) (.pair .int (.pair .int (.pair .int .int))) 0 y19.2.1.length), (.own (oi 753 24) .int 0 y19.2.2.length)]) [((oi 752 24), some (.arr 51 (.pair .int (.pair .int (.pair .int .int))) y19.2.1)), ((oi 753 24), some (.arr 3 .int y19.2.2))] [(.agg [(ai a1_0), (.tree (.pair .int (.pair .int (.pair .int .int))) a1_1), (.tree .int a1_2)])] _ (caps := []) (args0 := [(.agg [(ai a1_0), (.tree (.pair .int (.pair .int (.pair .int .int))) a1_1), (.tree .int a1_2)])]) trivial (by kernel_rfl) (ok_spec_opOwn h19) hb_spec_opOwn ?_
  refine rsB 2 ?_
  refine rnil (tn_ ?_)
  refine ⟨_, Weak.refl _, ?_⟩
  refine seqR ?_
  refine awp_seqv_ ?_
  obtain ⟨g22, h⟩ := og_some h
  refine awp_region_ 46 ?_
  refine rs0 (.box (oi 11 25) 1) (by kernel_rfl) ?_
  refine rsl (.own (oi 752 24) (.pair .int (.pair .int (.pair .int .int))) 0 y19.2.1.length) (by kernel_rfl) ?_
  refine rs0 (.box (oi 8 12) 1) (by kernel_rfl) ?_
  refine rsl (ai x11.2.1) (by kernel_rfl) ?_
  refine rs0 (.agg [(ai 5), (ai x11.2.1), (ai 0), (ai 0)]) (by kernel_rfl) ?_
  refine rs1 (.own (oi 61 42) (.pair .int (.pair .int (.pair .int .int))) 0 1) (oi 61 42) (.arr 51 (.pair .int (.pair .int (.pair .int .int))) ([(5, x11.2.1, 0, 0)])) (by kernel_rfl) ?_
  refine rs2 (.own (oi 752 43) (.pair .int (.pair .int (.pair .int .int))) 0 ((y19.2.1 ++ ([(5, x11.2.1, 0, 0)])).length)) (oi 752 24) (oi 752 43) (.arr 51 (.pair .int (.pair .int (.pair .int .int))) (y19.2.1 ++ ([(5, x11.2.1, 0, 0)]))) (s_appO (t := (.pair .int (.pair .int (.pair .int .int)))) (t' := (.pair .int (.pair .int (.pair .int .int)))) (xs := y19.2.1) (ys := [(5, x11.2.1, 0, 0)]) (zs := y19.2.1 ++ ([(5, x11.2.1, 0, 0)])) (j := (oi 752 24)) (len := y19.2.1.length) (c := (.own (oi 61 42) (.pair .int (.pair .int (.pair .int .int))) 0 1)) (by kernel_rfl) (by kernel_rfl) rfl (by kernel_rfl) (sr_own (e := 51) (by kernel_rfl) rfl) rfl g22) ?_
  refine rsB 2 ?_
  refine rnil (tn_ ?_)
  refine ⟨_, Weak.refl _, ?_⟩
  refine awp_seqB h (fun t_ S_ => ∃ (l23_m12_2 : Nat), ∃ (l23_m11_1 : List (Int × Int × Int × Int)), t_ = (l23_m12_2, l23_m11_1) ∧ S_ = ⟨mkTm [(0, (ai a0)), (2, (ai a2)), (6, (.box (oi 0 1) 0)), (11, (.box (oi 1 1) 0)), (12, (.box (oi 2 1) 0))], mkOb (someL [((oi 0 1), .cells 31 [(ai 0), .nils, .nils]), ((oi 1 1), .cells 31 [(ai y19.1), (.own (oi 3 1) (.pair .int (.pair .int (.pair .int .int))) 0 l23_m11_1.length), (.own (oi 4 1) .int 0 y19.2.2.length)]), ((oi 2 1), .cells 51 [(ai x11.1), (ai ((a1_1.length : Nat) : Int)), (ai ((l23_m12_2 : Nat) : Int)), (ai x11.2.2.2)]), ((oi 3 1), .arr 51 (.pair .int (.pair .int (.pair .int .int))) l23_m11_1), ((oi 4 1), .arr 3 .int y19.2.2)]), 2⟩) ?_ ?_
  · intro v_ h
    refine seqR ?_
    rcases cond_some h with ⟨q25, h⟩ | ⟨q25, h⟩
    · refine awp_condT_ q25 ?_
      refine seqR ?_
      obtain ⟨g27, h⟩ := og_some h
      refine awp_region_ 62 ?_
      refine rs0 (.box (oi 11 25) 1) (by kernel_rfl) ?_
      refine rsl (.own (oi 752 43) (.pair .int (.pair .int (.pair .int .int))) 0 ((y19.2.1 ++ ([(5, x11.2.1, 0, 0)])).length)) (by kernel_rfl) ?_
      refine rs0 (.box (oi 8 12) 2) (by kernel_rfl) ?_
      refine rsl (ai x11.2.2.1) (by kernel_rfl) ?_
      refine rs0 (.agg [(ai 5), (ai x11.2.2.1), (ai 0), (ai 0)]) (by kernel_rfl) ?_
      refine rs1 (.own (oi 75 58) (.pair .int (.pair .int (.pair .int .int))) 0 1) (oi 75 58) (.arr 51 (.pair .int (.pair .int (.pair .int .int))) ([(5, x11.2.2.1, 0, 0)])) (by kernel_rfl) ?_
      refine rs2 (.own (oi 752 59) (.pair .int (.pair .int (.pair .int .int))) 0 (((y19.2.1 ++ ([(5, x11.2.1, 0, 0)])) ++ ([(5, x11.2.2.1, 0, 0)])).length)) (oi 752 43) (oi 752 59) (.arr 51 (.pair .int (.pair .int (.pair .int .int))) ((y19.2.1 ++ ([(5, x11.2.1, 0, 0)])) ++ ([(5, x11.2.2.1, 0, 0)]))) (s_appO (t := (.pair .int (.pair .int (.pair .int .int)))) (t' := (.pair .int (.pair .int (.pair .int .int)))) (xs := y19.2.1 ++ ([(5, x11.2.1, 0, 0)])) (ys := [(5, x11.2.2.1, 0, 0)]) (zs := (y19.2.1 ++ ([(5, x11.2.1, 0, 0)])) ++ ([(5, x11.2.2.1, 0, 0)])) (j := (oi 752 43)) (len := (y19.2.1 ++ ([(5, x11.2.1, 0, 0)])).length) (c := (.own (oi 75 58) (.pair .int (.pair .int (.pair .int .int))) 0 1)) (by kernel_rfl) (by kernel_rfl) rfl (by kernel_rfl) (sr_own (e := 51) (by kernel_rfl) rfl) rfl g27) ?_
      refine rsB 2 ?_
      refine rnil (tn_ ?_)
      obtain rfl := Option.some.inj h
      exact ⟨_, (weak_ren [((oi 0 1), (oi 1 1)), ((oi 1 1), (oi 11 25)), ((oi 3 1), (oi 752 59)), ((oi 4 1), (oi 753 24)), ((oi 2 1), (oi 12 35))]), ⟨(y19.2.1 ++ ([(5, x11.2.1, 0, 0)])).length, (y19.2.1 ++ ([(5, x11.2.1, 0, 0)])) ++ ([(5, x11.2.2.1, 0, 0)]), rfl, rfl⟩⟩
    refine awp_condF_ q25 ?_
    refine awp_skip_ (tn_ ?_)
    obtain rfl := Option.some.inj h
    exact ⟨_, (weak_ren [((oi 0 1), (oi 1 1)), ((oi 1 1), (oi 11 25)), ((oi 3 1), (oi 752 43)), ((oi 4 1), (oi 753 24)), ((oi 2 1), (oi 12 35))]), ⟨0, y19.2.1 ++ ([(5, x11.2.1, 0, 0)]), rfl, rfl⟩⟩
  rintro _ _ ⟨l23_m12_2, l23_m11_1, rfl, rfl⟩ h
  (try dsimp only at h)
  refine awp_seqv_ ?_
  obtain ⟨x29, f29, h⟩ := ob_some h
  obtain ⟨p29, b29, e29⟩ := getI_some f29
  refine awp_region_ 8 ?_
  refine rs0 (.box (oi 1 1) 1) (by kernel_rfl) ?_
  refine rsl (.own (oi 3 1) (.pair .int (.pair .int (.pair .int .int))) 0 l23_m11_1.length) (by kernel_rfl) ?_
  refine rs0 (ai a2) (by kernel_rfl) ?_
  refine rsl (.agg [(ai x11.1), (ai ((a1_1.length : Nat) : Int)), (ai ((l23_m12_2 : Nat) : Int)), (ai x11.2.2.2)]) (by kernel_rfl) ?_
  refine rs0 (.elt (oi 3 1) a2.toNat 0) (s_idxO (t := (.pair .int (.pair .int (.pair .int .int)))) (o := (oi 3 1)) (len := l23_m11_1.length) (k := .i64) (m := a2) (by kernel_rfl) (by kernel_rfl) rfl p29 rfl (getN_lt e29)) ?_
  refine rsn2 (oi 3 1) (oi 3 1) (.arr 51 (.pair .int (.pair .int (.pair .int .int))) (l23_m11_1.set a2.toNat (x11.1, ((a1_1.length : Nat) : Int), ((l23_m12_2 : Nat) : Int), x11.2.2.2))) (s_stE (i := (oi 3 1)) (j := a2.toNat) (k := 0) (e := 51) (t := (.pair .int (.pair .int (.pair .int .int)))) (xs := l23_m11_1) (cs := [(ai x11.1), (ai ((a1_1.length : Nat) : Int)), (ai ((l23_m12_2 : Nat) : Int)), (ai x11.2.2.2)]) (x1 := (x11.1, ((a1_1.length : Nat) : Int), ((l23_m12_2 : Nat) : Int), x11.2.2.2)) (by kernel_rfl) (by kernel_rfl) e29 (by kernel_rfl) (by kernel_rfl)) ?_
  refine rnil (tn_ ?_)
  refine ⟨_, Weak.refl _, ?_⟩
  refine awp_seqB h (fun t_ S_ => ∃ (l30_m7 : Bool), ∃ (l30_m6_0 : Int), ∃ (l30_m6_1 : List (Int × Int × Int × Int)), ∃ (l30_m6_2 : List Int), t_ = (l30_m7, l30_m6_0, l30_m6_1, l30_m6_2) ∧ S_ = ⟨mkTm [(6, (.box (oi 0 1) 0)), (7, (.bool l30_m7))], mkOb (someL [((oi 0 1), .cells 31 [(ai l30_m6_0), (.own (oi 1 1) (.pair .int (.pair .int (.pair .int .int))) 0 l30_m6_1.length), (.own (oi 2 1) .int 0 l30_m6_2.length)]), ((oi 1 1), .arr 51 (.pair .int (.pair .int (.pair .int .int))) l30_m6_1), ((oi 2 1), .arr 3 .int l30_m6_2)]), 2⟩) ?_ ?_
  · intro v_ h
    obtain ⟨y31, h31, h⟩ := ob_some h
    rcases y31 with z31_0 | z31_1
    · (try simp only [Sum.elim_inl, Sum.elim_inr] at h)
      refine awp_region_ 15 ?_
      refine rs0 (ai a0) (by kernel_rfl) ?_
      refine rsl (.agg [(ai y19.1), (.own (oi 3 1) (.pair .int (.pair .int (.pair .int .int))) 0 l23_m11_1.length), (.own (oi 4 1) .int 0 y19.2.2.length)]) (by kernel_rfl) ?_
      refine rcall (.tup [(.agg [(ai z31_0.1), .nils, .nils]), (.bool z31_0.2)]) [] [(ai a0), (.agg [(ai y19.1), (.own (oi 3 1) (.pair .int (.pair .int (.pair .int .int))) 0 l23_m11_1.length), (.own (oi 4 1) .int 0 y19.2.2.length)])] _ (caps := []) (args0 := [(ai a0), (.agg [(ai y19.1), (.tree (.pair .int (.pair .int (.pair .int .int))) (l23_m11_1.set a2.toNat (x11.1, ((a1_1.length : Nat) : Int), ((l23_m12_2 : Nat) : Int), x11.2.2.2))), (.tree .int y19.2.2)])]) trivial (gm_cons (by kernel_rfl) (gm_cons (gd_agg (gm_cons (by kernel_rfl) (gm_cons (gd_own (e := 51) (by kernel_rfl) ((rfl : l23_m11_1.length = l23_m11_1.length).trans List.length_set.symm)) (gm_cons (gd_own (e := 3) (by kernel_rfl) rfl) gm_nil)))) gm_nil)) (ok_spec_crIf h31) hb_spec_crIf ?_
      refine rsB 4 ?_
      refine rnil (tn_ ?_)
      obtain rfl := Option.some.inj h
      exact ⟨_, ((weak_nil_cell_ 9000 (oi 0 1) 1 31 [(ai z31_0.1), .nils, .nils] [(ai z31_0.1), (.own (oi 9000 15) (.pair .int (.pair .int (.pair .int .int))) 0 0), .nils] 51 (.pair .int (.pair .int (.pair .int .int))) rfl (by kernel_rfl) (by kernel_rfl) (by kernel_rfl)).trans ((weak_nil_cell_ 9001 (oi 0 1) 2 31 [(ai z31_0.1), (.own (oi 9000 15) (.pair .int (.pair .int (.pair .int .int))) 0 0), .nils] [(ai z31_0.1), (.own (oi 9000 15) (.pair .int (.pair .int (.pair .int .int))) 0 0), (.own (oi 9001 16) .int 0 0)] 3 .int rfl (by kernel_rfl) (by kernel_rfl) (by kernel_rfl)).trans (weak_ren [((oi 1 1), (oi 9000 15)), ((oi 2 1), (oi 9001 16))]))), ⟨z31_0.2, z31_0.1, [], [], rfl, rfl⟩⟩
    (try simp only [Sum.elim_inl, Sum.elim_inr] at h)
    refine awp_region_ 15 ?_
    refine rs0 (ai a0) (by kernel_rfl) ?_
    refine rsl (.agg [(ai y19.1), (.own (oi 3 1) (.pair .int (.pair .int (.pair .int .int))) 0 l23_m11_1.length), (.own (oi 4 1) .int 0 y19.2.2.length)]) (by kernel_rfl) ?_
    refine rcall (.tup [(.agg [(ai z31_1.1), (.own (oi 3 1) (.pair .int (.pair .int (.pair .int .int))) 0 l23_m11_1.length), (.own (oi 4 1) .int 0 y19.2.2.length)]), (.bool z31_1.2)]) [] [(ai a0), (.agg [(ai y19.1), (.own (oi 3 1) (.pair .int (.pair .int (.pair .int .int))) 0 l23_m11_1.length), (.own (oi 4 1) .int 0 y19.2.2.length)])] _ (caps := []) (args0 := [(ai a0), (.agg [(ai y19.1), (.tree (.pair .int (.pair .int (.pair .int .int))) (l23_m11_1.set a2.toNat (x11.1, ((a1_1.length : Nat) : Int), ((l23_m12_2 : Nat) : Int), x11.2.2.2))), (.tree .int y19.2.2)])]) trivial (gm_cons (by kernel_rfl) (gm_cons (gd_agg (gm_cons (by kernel_rfl) (gm_cons (gd_own (e := 51) (by kernel_rfl) ((rfl : l23_m11_1.length = l23_m11_1.length).trans List.length_set.symm)) (gm_cons (gd_own (e := 3) (by kernel_rfl) rfl) gm_nil)))) gm_nil)) (ok_spec_crIf h31) hb_spec_crIf ?_
    refine rsB 4 ?_
    refine rnil (tn_ ?_)
    obtain rfl := Option.some.inj h
    exact ⟨_, ((weak_ob_ (oi 0 1) (.cells 31 [(ai z31_1.1), (.own (oi 3 1) (.pair .int (.pair .int (.pair .int .int))) 0 l23_m11_1.length), (.own (oi 4 1) .int 0 y19.2.2.length)]) (.cells 31 [(ai z31_1.1), (.own (oi 3 1) (.pair .int (.pair .int (.pair .int .int))) 0 ((l23_m11_1.set a2.toNat (x11.1, ((a1_1.length : Nat) : Int), ((l23_m12_2 : Nat) : Int), x11.2.2.2)).length)), (.own (oi 4 1) .int 0 y19.2.2.length)]) (by kernel_rfl) (congrArg (fun z_ => (.cells 31 [(ai z31_1.1), (.own (oi 3 1) (.pair .int (.pair .int (.pair .int .int))) 0 z_), (.own (oi 4 1) .int 0 y19.2.2.length)] : Ob)) (((rfl : l23_m11_1.length = l23_m11_1.length).trans List.length_set.symm) : l23_m11_1.length = (l23_m11_1.set a2.toNat (x11.1, ((a1_1.length : Nat) : Int), ((l23_m12_2 : Nat) : Int), x11.2.2.2)).length))).trans (weak_ren [((oi 1 1), (oi 3 1)), ((oi 2 1), (oi 4 1))])), ⟨z31_1.2, z31_1.1, l23_m11_1.set a2.toNat (x11.1, ((a1_1.length : Nat) : Int), ((l23_m12_2 : Nat) : Int), x11.2.2.2), y19.2.2, rfl, rfl⟩⟩
  rintro _ _ ⟨l30_m7, l30_m6_0, l30_m6_1, l30_m6_2, rfl, rfl⟩ h
  (try dsimp only at h)
  refine awp_ret_ ?_
  obtain rfl := Option.some.inj h
  exact ret_ [(.agg [(ai l30_m6_0), (.own (oi 1 1) (.pair .int (.pair .int (.pair .int .int))) 0 l30_m6_1.length), (.own (oi 2 1) .int 0 l30_m6_2.length)]), (.bool l30_m7)] (p_agg (l_cons (l_sc (by kernel_rfl)) (l_cons (l_own (by kernel_rfl) rfl) (l_cons (l_own (by kernel_rfl) rfl) l_nil))) (p_one rfl (l_sc (by kernel_rfl)) p_nil))
def m_impl_isWorking : AC :=
  (.seq (rg [xo 1 (.i (.box 51 (tm 0))), xo 2 (qm (cb false))])
  (.seq (rg [xo 3 (qf 0 (tm 1)), xo 4 (ql (tm 3)), xo 5 (qb .eql (tm 4) (ci 3)), xo 6 (qm (tm 5)), ⟨(some 7), (some (6, false)), (qf 0 (tm 1))⟩, ⟨(some 8), (some (6, false)), (ql (tm 7))⟩, ⟨(some 9), (some (6, false)), (qb .eql (tm 8) (ci 4))⟩, xo 10 (.i (.pick (tm 6) (cb true) (tm 9))), xo 2 (qm (tm 10))])
  .ret))
def r_impl_isWorking : List Res := [.tmp 2]
theorem c_impl_isWorking : compiled Tryd.prog Tryd.f53 = some (m_impl_isWorking, r_impl_isWorking) := by kernel_rfl
theorem hb_impl_isWorking : hasBody Tryd.prog 53 = true := by kernel_rfl
def L_impl_isWorking (a0_0 : Int) (a0_1 : Int) (a0_2 : Int) (a0_3 : Int) : Option Bool :=
  Option.bind (cond (a0_0 == 3)
    (some true)
    (some (a0_0 == 4))) fun l2_m2 =>
some l2_m2
def rv_impl_isWorking (r : Bool) : RV := ⟨false, [(false, [.sc (.bool r)])]⟩
theorem ok_impl_isWorking {a0_0 : Int} {a0_1 : Int} {a0_2 : Int} {a0_3 : Int} {r : Bool} (h : L_impl_isWorking a0_0 a0_1 a0_2 a0_3 = some r) : CallOK Tryd.prog Tab 53 [(.agg [(ai a0_0), (ai a0_1), (ai a0_2), (ai a0_3)])] (rv_impl_isWorking r) := by
  refine call_of_ (by kernel_rfl) Tryd.func53 c_impl_isWorking (n := 11) (by kernel_rfl) (by simp) (tl := [(0, (.agg [(ai a0_0), (ai a0_1), (ai a0_2), (ai a0_3)]))]) rfl ?_
  unfold m_impl_isWorking
  unfold L_impl_isWorking at h
  refine seqR ?_
  refine awp_seqB h (fun (l2_m2 : Bool) S_ => S_ = ⟨mkTm [(2, (.bool l2_m2))], mkOb (someL []), 2⟩) ?_ ?_
  · intro v_ h
    rcases cond_some h with ⟨q3, h⟩ | ⟨q3, h⟩
    · refine awp_region_ 12 ?_
      refine rs0 (.box (oi 1 1) 0) (by kernel_rfl) ?_
      refine rsl (ai a0_0) (by kernel_rfl) ?_
      refine rs0 (.bool (a0_0 == 3)) (by kernel_rfl) ?_
      refine rs0 (.bool (a0_0 == 3)) (by kernel_rfl) ?_
      refine rs0 (.tup []) (s_skip (by kernel_rfl) q3) ?_
      refine rs0 (.tup []) (s_skip (by kernel_rfl) q3) ?_
      refine rs0 (.tup []) (s_skip (by kernel_rfl) q3) ?_
      refine rs0 (.bool true) (s_pickT (by kernel_rfl) q3) ?_
      refine rsB 1 ?_
      refine rnil (tn_ ?_)
      obtain rfl := Option.some.inj h
      exact ⟨_, (weak_ren []), rfl⟩
    refine awp_region_ 12 ?_
    refine rs0 (.box (oi 1 1) 0) (by kernel_rfl) ?_
    refine rsl (ai a0_0) (by kernel_rfl) ?_
    refine rs0 (.bool (a0_0 == 3)) (by kernel_rfl) ?_
    refine rs0 (.bool (a0_0 == 3)) (by kernel_rfl) ?_
    refine rs0 (.box (oi 1 1) 0) (s_gd (by kernel_rfl) q3 (by kernel_rfl)) ?_
    refine rsl (ai a0_0) (s_gd (by kernel_rfl) q3 (by kernel_rfl)) ?_
    refine rs0 (.bool (a0_0 == 4)) (s_gd (by kernel_rfl) q3 (by kernel_rfl)) ?_
    refine rs0 (.bool (a0_0 == 4)) (s_pickF (by kernel_rfl) q3) ?_
    refine rsB 1 ?_
    refine rnil (tn_ ?_)
    obtain rfl := Option.some.inj h
    exact ⟨_, (weak_ren []), rfl⟩
  rintro l2_m2 _ rfl h
  (try dsimp only at h)
  refine awp_ret_ ?_
  obtain rfl := Option.some.inj h
  exact ret_ [(.bool l2_m2)] (p_one rfl (l_sc (by kernel_rfl)) p_nil)
def m_impl_SpreadDelay_1 : AC :=
  (.seq (rg [xo 3 (qm (ci 0))])
  (.seq (rg [xo 4 (qf 1 (tm 1)), xo 5 (ql (tm 4)), xo 6 (qm (tm 0)), xo 7 (.build [(.int .i64 0), (.int .i64 0), (.int .i64 0), (.int .i64 0)] [(0, 1, (ci 5)), (1, 1, (tm 6))]), ⟨(some 8), none, (.mkS 51 (.pair .int (.pair .int (.pair .int .int))) [(tm 7)])⟩, ⟨(some 9), none, (.append 51 (.pair .int (.pair .int (.pair .int .int))) 32 (tm 5) (tm 8))⟩, xo 10 (qf 1 (tm 1)), xn (qs (tm 10) (tm 9))])
  (.seq (rg [xo 11 (qf 1 (tm 1)), xo 12 (ql (tm 11)), xo 13 (.i (.len (tm 12))), xo 14 (qb .sub (tm 13) (ci 1)), xo 3 (qm (tm 14))])
  .ret)))
def r_impl_SpreadDelay_1 : List Res := [.tmp 3]
theorem c_impl_SpreadDelay_1 : compiled Tryd.prog Tryd.f55 = some (m_impl_SpreadDelay_1, r_impl_SpreadDelay_1) := by kernel_rfl
theorem hb_impl_SpreadDelay_1 : hasBody Tryd.prog 55 = true := by kernel_rfl
def L_impl_SpreadDelay_1 (a0 : Int) (c0_0 : Int) (c0_1 : List (Int × Int × Int × Int)) (c0_2 : List Int) : Option Unit :=
  og (c0_1.length + 1 ≤ 1073741824 ∧ (c0_1.length + 1) * 32 ≤ 140737488355328) <|
some ()
theorem ok_impl_SpreadDelay_1 {a0 : Int} {c0_0 : Int} {c0_1 : List (Int × Int × Int × Int)} {c0_2 : List Int} {r : Unit} (h : L_impl_SpreadDelay_1 a0 c0_0 c0_1 c0_2 = some r) : CallM Tryd.prog Tab 55 [(ai a0), (.box (oi 0 0) 0)] [((oi 0 0), .cells 31 [(ai c0_0), (.own (oi 1 0) (.pair .int (.pair .int (.pair .int .int))) 0 c0_1.length), (.own (oi 2 0) .int 0 c0_2.length)]), ((oi 1 0), .arr 51 (.pair .int (.pair .int (.pair .int .int))) c0_1), ((oi 2 0), .arr 3 .int c0_2)] (ai (IntKind.i64.wrap ((((c0_1 ++ ([(5, a0, 0, 0)])).length : Nat) : Int) - 1))) [((oi 0 0), .cells 31 [(ai c0_0), (.own (oi 0 1) (.pair .int (.pair .int (.pair .int .int))) 0 ((c0_1 ++ ([(5, a0, 0, 0)])).length)), (.own (oi 2 0) .int 0 c0_2.length)]), ((oi 2 0), .arr 3 .int c0_2), ((oi 0 1), .arr 51 (.pair .int (.pair .int (.pair .int .int))) (c0_1 ++ ([(5, a0, 0, 0)])))] := by
  refine callM_of_ (by kernel_rfl) Tryd.func55 c_impl_SpreadDelay_1 (n := 15) (by kernel_rfl) (by simp) (tl := [(0, (ai a0)), (1, (.box (oi 0 0) 0))]) rfl (by kernel_rfl) ⟨trivial, ⟨trivial, ⟨trivial, trivial⟩⟩⟩ ⟨trivial, ⟨trivial, ⟨trivial, trivial⟩⟩⟩ ?_
  unfold m_impl_SpreadDelay_1
  unfold L_impl_SpreadDelay_1 at h
  refine seqR ?_
  refine awp_seqv_ ?_
  obtain ⟨g4, h⟩ := og_some h
  refine awp_region_ 10 ?_
  refine rs0 (.box (oi 0 0) 1) (by kernel_rfl) ?_
  refine rsl (.own (oi 1 0) (.pair .int (.pair .int (.pair .int .int))) 0 c0_1.length) (by kernel_rfl) ?_
  refine rs0 (ai a0) (by kernel_rfl) ?_
  refine rs0 (.agg [(ai 5), (ai a0), (ai 0), (ai 0)]) (by kernel_rfl) ?_
  refine rs1 (.own (oi 8 6) (.pair .int (.pair .int (.pair .int .int))) 0 1) (oi 8 6) (.arr 51 (.pair .int (.pair .int (.pair .int .int))) ([(5, a0, 0, 0)])) (by kernel_rfl) ?_
  refine rs2 (.own (oi 1 7) (.pair .int (.pair .int (.pair .int .int))) 0 ((c0_1 ++ ([(5, a0, 0, 0)])).length)) (oi 1 0) (oi 1 7) (.arr 51 (.pair .int (.pair .int (.pair .int .int))) (c0_1 ++ ([(5, a0, 0, 0)]))) (s_appO (t := (.pair .int (.pair .int (.pair .int .int)))) (t' := (.pair .int (.pair .int (.pair .int .int)))) (xs := c0_1) (ys := [(5, a0, 0, 0)]) (zs := c0_1 ++ ([(5, a0, 0, 0)])) (j := (oi 1 0)) (len := c0_1.length) (c := (.own (oi 8 6) (.pair .int (.pair .int (.pair .int .int))) 0 1)) (by kernel_rfl) (by kernel_rfl) rfl (by kernel_rfl) (sr_own (e := 51) (by kernel_rfl) rfl) rfl g4) ?_
  refine rsB 2 ?_
  refine rnil (tn_ ?_)
  refine ⟨_, Weak.refl _, ?_⟩
  refine seqR ?_
  refine awp_ret_ ?_
  obtain rfl := Option.some.inj h
  exact retM_ [(ai (IntKind.i64.wrap ((((c0_1 ++ ([(5, a0, 0, 0)])).length : Nat) : Int) - 1)))] (weak_ren (tl := [(3, (ai (IntKind.i64.wrap ((((c0_1 ++ ([(5, a0, 0, 0)])).length : Nat) : Int) - 1))))]) (g := 2) [((oi 0 1), (oi 1 7))])
def m_impl_Gate_withOperands : AC :=
  (.seq (rg [xo 2 (.i (.box 51 (tm 0))), xo 4 (.i (.alloc 51 [(.int .i64 0), (.int .i64 0), (.int .i64 0), (.int .i64 0)]))])
  (.seq (.seq (rg [xo 5 (qf 0 (tm 2)), xo 6 (ql (tm 5))])
  (.block 0 (.seq (rg [xo 8 (qb .eql (tm 6) (ci 3)), xo 7 (qm (tm 8))])
  (.cond (tm 7)
    (.region [xo 9 (qm (tm 1)), xo 10 (qf 1 (tm 2)), xo 11 (ql (tm 10)), xo 12 (.call (tm 9) [(tm 11)] [[]]), xo 13 (qm (tm 1)), xo 14 (qf 2 (tm 2)), xo 15 (ql (tm 14)), xo 16 (.call (tm 13) [(tm 15)] [[]]), xo 17 (qf 1 (tm 2)), xn (qs (tm 17) (tm 12)), xo 18 (qf 2 (tm 2)), xn (qs (tm 18) (tm 16))] true [(3, 6)])
    (.seq (.seq (rg [xo 20 (qb .eql (tm 6) (ci 4)), xo 19 (qm (tm 20))])
    (.cond (tm 19)
      .skip
      (rg [xo 21 (qb .eql (tm 6) (ci 5)), xo 19 (qm (tm 21))])))
    (.cond (tm 19)
      (rg [xo 22 (qm (tm 1)), xo 23 (qf 1 (tm 2)), xo 24 (ql (tm 23)), xo 25 (.call (tm 22) [(tm 24)] [[]]), xo 26 (qf 1 (tm 2)), xn (qs (tm 26) (tm 25))])
      .skip))))))
  (.seq (rg [xo 27 (.i (.ld false 4 (tm 2))), xn (.st false 4 (tm 4) (tm 27))])
  .ret)))
def r_impl_Gate_withOperands : List Res := [.cell 4 false 4]
theorem c_impl_Gate_withOperands : compiled Tryd.prog Tryd.f54 = some (m_impl_Gate_withOperands, r_impl_Gate_withOperands) := by kernel_rfl
theorem hb_impl_Gate_withOperands : hasBody Tryd.prog 54 = true := by kernel_rfl
def L_impl_Gate_withOperands_for_impl_SpreadDelay_1 (a0_0 : Int) (a0_1 : Int) (a0_2 : Int) (a0_3 : Int) (a1_0_0 : Int) (a1_0_1 : List (Int × Int × Int × Int)) (a1_0_2 : List Int) : Option ((List (Int × Int × Int × Int)) × Int × Int) :=
  Option.bind (cond (a0_0 == 3)
    (Option.bind (L_impl_SpreadDelay_1 a0_1 a1_0_0 a1_0_1 a1_0_2) fun y7 =>
    Option.bind (L_impl_SpreadDelay_1 a0_2 a1_0_0 (a1_0_1 ++ ([(5, a0_1, 0, 0)])) a1_0_2) fun y8 =>
    some (IntKind.i64.wrap ((((a1_0_1 ++ ([(5, a0_1, 0, 0)])).length : Nat) : Int) - 1), IntKind.i64.wrap ((((((a1_0_1 ++ ([(5, a0_1, 0, 0)]))) ++ ([(5, a0_2, 0, 0)])).length : Nat) : Int) - 1), ((a1_0_1 ++ ([(5, a0_1, 0, 0)]))) ++ ([(5, a0_2, 0, 0)])))
    (Option.bind (cond (a0_0 == 4)
        (some (a0_0 == 4))
        (some (a0_0 == 5))) fun l9_m19 =>
    cond l9_m19
      (Option.bind (L_impl_SpreadDelay_1 a0_1 a1_0_0 a1_0_1 a1_0_2) fun y13 =>
      some (IntKind.i64.wrap ((((a1_0_1 ++ ([(5, a0_1, 0, 0)])).length : Nat) : Int) - 1), a0_2, a1_0_1 ++ ([(5, a0_1, 0, 0)])))
      (some (a0_1, a0_2, a1_0_1)))) fun (l3_m2_1, l3_m2_2, l3_p0_1) =>
some (l3_p0_1, l3_m2_1, l3_m2_2)
theorem ok_impl_Gate_withOperands_for_impl_SpreadDelay_1 {a0_0 : Int} {a0_1 : Int} {a0_2 : Int} {a0_3 : Int} {a1_0_0 : Int} {a1_0_1 : List (Int × Int × Int × Int)} {a1_0_2 : List Int} {r : (List (Int × Int × Int × Int)) × Int × Int} (h : L_impl_Gate_withOperands_for_impl_SpreadDelay_1 a0_0 a0_1 a0_2 a0_3 a1_0_0 a1_0_1 a1_0_2 = some r) : CallM Tryd.prog Tab 54 [(.agg [(ai a0_0), (ai a0_1), (ai a0_2), (ai a0_3)]), (.fn 55 [(.box (oi 0 0) 0)])] [((oi 0 0), .cells 31 [(ai a1_0_0), (.own (oi 1 0) (.pair .int (.pair .int (.pair .int .int))) 0 a1_0_1.length), (.own (oi 2 0) .int 0 a1_0_2.length)]), ((oi 1 0), .arr 51 (.pair .int (.pair .int (.pair .int .int))) a1_0_1), ((oi 2 0), .arr 3 .int a1_0_2)] (.agg [(ai a0_0), (ai r.2.1), (ai r.2.2), (ai a0_3)]) [((oi 0 0), .cells 31 [(ai a1_0_0), (.own (oi 0 1) (.pair .int (.pair .int (.pair .int .int))) 0 r.1.length), (.own (oi 2 0) .int 0 a1_0_2.length)]), ((oi 2 0), .arr 3 .int a1_0_2), ((oi 0 1), .arr 51 (.pair .int (.pair .int (.pair .int .int))) r.1), ((oi 1 1), .cells 51 [(ai a0_0), (ai r.2.1), (ai r.2.2), (ai a0_3)])] := by
  refine callM_of_ (by kernel_rfl) Tryd.func54 c_impl_Gate_withOperands (n := 28) (by kernel_rfl) (by simp) (tl := [(0, (.agg [(ai a0_0), (ai a0_1), (ai a0_2), (ai a0_3)])), (1, (.fn 55 [(.box (oi 0 0) 0)]))]) rfl (by kernel_rfl) ⟨trivial, ⟨trivial, ⟨trivial, trivial⟩⟩⟩ ⟨trivial, ⟨trivial, ⟨trivial, ⟨trivial, trivial⟩⟩⟩⟩ ?_
  unfold m_impl_Gate_withOperands
  unfold L_impl_Gate_withOperands_for_impl_SpreadDelay_1 at h
  refine seqR ?_
  refine awp_seqB h (fun t_ S_ => ∃ (l3_m2_1 : Int), ∃ (l3_m2_2 : Int), ∃ (l3_p0_1 : List (Int × Int × Int × Int)), t_ = (l3_m2_1, l3_m2_2, l3_p0_1) ∧ S_ = ⟨mkTm [(2, (.box (oi 0 1) 0)), (4, (.box (oi 1 1) 0))], mkOb (someL [((oi 0 1), .cells 51 [(ai a0_0), (ai l3_m2_1), (ai l3_m2_2), (ai a0_3)]), ((oi 1 1), .cells 51 [(ai 0), (ai 0), (ai 0), (ai 0)]), ((oi 0 0), .cells 31 [(ai a1_0_0), (.own (oi 2 1) (.pair .int (.pair .int (.pair .int .int))) 0 l3_p0_1.length), (.own (oi 2 0) .int 0 a1_0_2.length)]), ((oi 2 0), .arr 3 .int a1_0_2), ((oi 2 1), .arr 51 (.pair .int (.pair .int (.pair .int .int))) l3_p0_1)]), 2⟩) ?_ ?_
  · intro v_ h
    refine seqR ?_
    refine awp_block_ ?_
    refine seqR ?_
    rcases cond_some h with ⟨q6, h⟩ | ⟨q6, h⟩
    · refine awp_condT_ q6 ?_
      obtain ⟨y7, h7, h⟩ := ob_some h
      obtain ⟨y8, h8, h⟩ := ob_some h
      refine awp_regionD_ 19 ?_
      refine ds0 (.fn 55 [(.box (oi 0 0) 0)]) (by kernel_rfl) ?_
      refine ds0 (.box (oi 2 1) 1) (by kernel_rfl) ?_
      refine dsl (ai a0_1) (by kernel_rfl) ?_
      refine dcallM (ai (IntKind.i64.wrap ((((a1_0_1 ++ ([(5, a0_1, 0, 0)])).length : Nat) : Int) - 1))) [((oi 0 0), some (.cells 31 [(ai a1_0_0), (.own (oi 192 10) (.pair .int (.pair .int (.pair .int .int))) 0 ((a1_0_1 ++ ([(5, a0_1, 0, 0)])).length)), (.own (oi 2 0) .int 0 a1_0_2.length)])), ((oi 2 0), some (.arr 3 .int a1_0_2)), ((oi 192 10), some (.arr 51 (.pair .int (.pair .int (.pair .int .int))) (a1_0_1 ++ ([(5, a0_1, 0, 0)])))), ((oi 0 0), none), ((oi 1 0), none), ((oi 2 0), none)] [] [(ai a0_1), (.box (oi 0 0) 0)] (caps := [(.box (oi 0 0) 0)]) trivial (ok_impl_SpreadDelay_1 h7) hb_impl_SpreadDelay_1 ⟨(by kernel_rfl), ⟨(by kernel_rfl), ⟨(by kernel_rfl), trivial⟩⟩⟩ (.cons (.ren (by kernel_rfl)) (.cons (.ren (by kernel_rfl)) .nil)) (reachL_mem (by kernel_rfl) (by kernel_rfl) ⟨(re_arg (by kernel_rfl)), ⟨(re_cells (k := (oi 0 0)) (ty := 31) (cs := [(ai a1_0_0), (.own (oi 1 0) (.pair .int (.pair .int (.pair .int .int))) 0 a1_0_1.length), (.own (oi 2 0) .int 0 a1_0_2.length)]) (re_arg (by kernel_rfl)) (by kernel_rfl) (by kernel_rfl)), ⟨(re_cells (k := (oi 0 0)) (ty := 31) (cs := [(ai a1_0_0), (.own (oi 1 0) (.pair .int (.pair .int (.pair .int .int))) 0 a1_0_1.length), (.own (oi 2 0) .int 0 a1_0_2.length)]) (re_arg (by kernel_rfl)) (by kernel_rfl) (by kernel_rfl)), trivial⟩⟩⟩) (rd_all (by kernel_rfl)) ?_
      refine ds0 (.fn 55 [(.box (oi 0 0) 0)]) (by kernel_rfl) ?_
      refine ds0 (.box (oi 2 1) 2) (by kernel_rfl) ?_
      refine dsl (ai a0_2) (by kernel_rfl) ?_
      refine dcallM (ai (IntKind.i64.wrap ((((((a1_0_1 ++ ([(5, a0_1, 0, 0)]))) ++ ([(5, a0_2, 0, 0)])).length : Nat) : Int) - 1))) [((oi 0 0), some (.cells 31 [(ai a1_0_0), (.own (oi 256 14) (.pair .int (.pair .int (.pair .int .int))) 0 ((((a1_0_1 ++ ([(5, a0_1, 0, 0)]))) ++ ([(5, a0_2, 0, 0)])).length)), (.own (oi 2 0) .int 0 a1_0_2.length)])), ((oi 2 0), some (.arr 3 .int a1_0_2)), ((oi 256 14), some (.arr 51 (.pair .int (.pair .int (.pair .int .int))) (((a1_0_1 ++ ([(5, a0_1, 0, 0)]))) ++ ([(5, a0_2, 0, 0)])))), ((oi 0 0), none), ((oi 192 10), none), ((oi 2 0), none)] [((oi 1 0), (oi 192 10))] [(ai a0_2), (.box (oi 0 0) 0)] (caps := [(.box (oi 0 0) 0)]) trivial (ok_impl_SpreadDelay_1 h8) hb_impl_SpreadDelay_1 ⟨(by kernel_rfl), ⟨(by kernel_rfl), ⟨(by kernel_rfl), trivial⟩⟩⟩ (.cons (.ren (by kernel_rfl)) (.cons (.ren (by kernel_rfl)) .nil)) (reachL_mem (by kernel_rfl) (by kernel_rfl) ⟨(re_arg (by kernel_rfl)), ⟨(re_cells (k := (oi 0 0)) (ty := 31) (cs := [(ai a1_0_0), (.own (oi 192 10) (.pair .int (.pair .int (.pair .int .int))) 0 ((a1_0_1 ++ ([(5, a0_1, 0, 0)])).length)), (.own (oi 2 0) .int 0 a1_0_2.length)]) (re_arg (by kernel_rfl)) (by kernel_rfl) (by kernel_rfl)), ⟨(re_cells (k := (oi 0 0)) (ty := 31) (cs := [(ai a1_0_0), (.own (oi 192 10) (.pair .int (.pair .int (.pair .int .int))) 0 ((a1_0_1 ++ ([(5, a0_1, 0, 0)])).length)), (.own (oi 2 0) .int 0 a1_0_2.length)]) (re_arg (by kernel_rfl)) (by kernel_rfl) (by kernel_rfl)), trivial⟩⟩⟩) (rd_all (by kernel_rfl)) ?_
      refine ds0 (.box (oi 2 1) 1) (by kernel_rfl) ?_
      refine dsn2 (oi 2 1) (oi 2 1) (.cells 51 [(ai a0_0), (ai (IntKind.i64.wrap ((((a1_0_1 ++ ([(5, a0_1, 0, 0)])).length : Nat) : Int) - 1))), (ai a0_2), (ai a0_3)]) (by kernel_rfl) ?_
      refine ds0 (.box (oi 2 1) 2) (by kernel_rfl) ?_
      refine dsn2 (oi 2 1) (oi 2 1) (.cells 51 [(ai a0_0), (ai (IntKind.i64.wrap ((((a1_0_1 ++ ([(5, a0_1, 0, 0)])).length : Nat) : Int) - 1))), (ai (IntKind.i64.wrap ((((((a1_0_1 ++ ([(5, a0_1, 0, 0)]))) ++ ([(5, a0_2, 0, 0)])).length : Nat) : Int) - 1))), (ai a0_3)]) (by kernel_rfl) ?_
      refine dnil ⟨(pair_j (by kernel_rfl)), trivial⟩ (bn_ (tn_ ?_))
      obtain rfl := Option.some.inj h
      exact ⟨_, (weak_ren [((oi 0 1), (oi 2 1)), ((oi 1 1), (oi 4 2)), ((oi 2 1), (oi 256 14))]), ⟨IntKind.i64.wrap ((((a1_0_1 ++ ([(5, a0_1, 0, 0)])).length : Nat) : Int) - 1), IntKind.i64.wrap ((((((a1_0_1 ++ ([(5, a0_1, 0, 0)]))) ++ ([(5, a0_2, 0, 0)])).length : Nat) : Int) - 1), ((a1_0_1 ++ ([(5, a0_1, 0, 0)]))) ++ ([(5, a0_2, 0, 0)]), rfl, rfl⟩⟩
    refine awp_condF_ q6 ?_
    refine awp_seqB h (fun (l9_m19 : Bool) S_ => S_ = ⟨mkTm [(1, (.fn 55 [(.box (oi 0 0) 0)])), (2, (.box (oi 0 1) 0)), (4, (.box (oi 1 1) 0)), (19, (.bool l9_m19))], mkOb (someL [((oi 0 0), .cells 31 [(ai a1_0_0), (.own (oi 1 0) (.pair .int (.pair .int (.pair .int .int))) 0 a1_0_1.length), (.own (oi 2 0) .int 0 a1_0_2.length)]), ((oi 0 1), .cells 51 [(ai a0_0), (ai a0_1), (ai a0_2), (ai a0_3)]), ((oi 1 1), .cells 51 [(ai 0), (ai 0), (ai 0), (ai 0)]), ((oi 1 0), .arr 51 (.pair .int (.pair .int (.pair .int .int))) a1_0_1), ((oi 2 0), .arr 3 .int a1_0_2)]), 2⟩) ?_ ?_
    · intro v_ h
      refine seqR ?_
      rcases cond_some h with ⟨q11, h⟩ | ⟨q11, h⟩
      · refine awp_condT_ q11 ?_
        refine awp_skip_ (tn_ ?_)
        obtain rfl := Option.some.inj h
        exact ⟨_, (weak_ren [((oi 0 1), (oi 2 1)), ((oi 1 1), (oi 4 2))]), rfl⟩
      refine awp_condF_ q11 ?_
      refine awp_region_ 11 ?_
      refine rsB 2 ?_
      refine rnil (tn_ ?_)
      obtain rfl := Option.some.inj h
      exact ⟨_, (weak_ren [((oi 0 1), (oi 2 1)), ((oi 1 1), (oi 4 2))]), rfl⟩
    rintro l9_m19 _ rfl h
    (try dsimp only at h)
    rcases cond_some h with ⟨q12, h⟩ | ⟨q12, h⟩
    · refine awp_condT_ q12 ?_
      obtain ⟨y13, h13, h⟩ := ob_some h
      refine awp_region_ 8 ?_
      refine rs0 (.fn 55 [(.box (oi 0 0) 0)]) (by kernel_rfl) ?_
      refine rs0 (.box (oi 0 1) 1) (by kernel_rfl) ?_
      refine rsl (ai a0_1) (by kernel_rfl) ?_
      refine rcallM (ai (IntKind.i64.wrap ((((a1_0_1 ++ ([(5, a0_1, 0, 0)])).length : Nat) : Int) - 1))) [((oi 0 0), some (.cells 31 [(ai a1_0_0), (.own (oi 400 5) (.pair .int (.pair .int (.pair .int .int))) 0 ((a1_0_1 ++ ([(5, a0_1, 0, 0)])).length)), (.own (oi 2 0) .int 0 a1_0_2.length)])), ((oi 2 0), some (.arr 3 .int a1_0_2)), ((oi 400 5), some (.arr 51 (.pair .int (.pair .int (.pair .int .int))) (a1_0_1 ++ ([(5, a0_1, 0, 0)])))), ((oi 0 0), none), ((oi 1 0), none), ((oi 2 0), none)] [] [(ai a0_1), (.box (oi 0 0) 0)] (caps := [(.box (oi 0 0) 0)]) trivial (ok_impl_SpreadDelay_1 h13) hb_impl_SpreadDelay_1 ⟨(by kernel_rfl), ⟨(by kernel_rfl), ⟨(by kernel_rfl), trivial⟩⟩⟩ (.cons (.ren (by kernel_rfl)) (.cons (.ren (by kernel_rfl)) .nil)) (reachL_mem (by kernel_rfl) (by kernel_rfl) ⟨(re_arg (by kernel_rfl)), ⟨(re_cells (k := (oi 0 0)) (ty := 31) (cs := [(ai a1_0_0), (.own (oi 1 0) (.pair .int (.pair .int (.pair .int .int))) 0 a1_0_1.length), (.own (oi 2 0) .int 0 a1_0_2.length)]) (re_arg (by kernel_rfl)) (by kernel_rfl) (by kernel_rfl)), ⟨(re_cells (k := (oi 0 0)) (ty := 31) (cs := [(ai a1_0_0), (.own (oi 1 0) (.pair .int (.pair .int (.pair .int .int))) 0 a1_0_1.length), (.own (oi 2 0) .int 0 a1_0_2.length)]) (re_arg (by kernel_rfl)) (by kernel_rfl) (by kernel_rfl)), trivial⟩⟩⟩) ?_
      refine rsB 2 ?_
      refine rnil (bn_ (tn_ ?_))
      obtain rfl := Option.some.inj h
      exact ⟨_, (weak_ren [((oi 2 1), (oi 400 5))]), ⟨IntKind.i64.wrap ((((a1_0_1 ++ ([(5, a0_1, 0, 0)])).length : Nat) : Int) - 1), a0_2, a1_0_1 ++ ([(5, a0_1, 0, 0)]), rfl, rfl⟩⟩
    refine awp_condF_ q12 ?_
    refine awp_skip_ (bn_ (tn_ ?_))
    obtain rfl := Option.some.inj h
    exact ⟨_, (weak_ren [((oi 2 1), (oi 1 0))]), ⟨a0_1, a0_2, a1_0_1, rfl, rfl⟩⟩
  rintro _ _ ⟨l3_m2_1, l3_m2_2, l3_p0_1, rfl, rfl⟩ h
  (try dsimp only at h)
  refine seqR ?_
  refine awp_ret_ ?_
  obtain rfl := Option.some.inj h
  exact retM_ [(.agg [(ai a0_0), (ai l3_m2_1), (ai l3_m2_2), (ai a0_3)])] (weak_ren (tl := [(4, (.box (oi 1 1) 0))]) (g := 2) [((oi 0 1), (oi 2 1))])
def m_impl_SpreadDelay : AC :=
  (.seq (rg [xo 4 (.i (.box 31 (tm 1))), xo 6 (.i (.alloc 31 [(.int .i64 0), .nils, .nils])), xo 7 (qm (cb false))])
  (.seq (.seq (.region [xo 10 (qm (tm 0)), xo 11 (.i (.ld false 3 (tm 4))), ⟨(some 12), none, (qc 37 [(tm 10), (tm 11)] [[], [none, (some (.pair .int (.pair .int (.pair .int .int)))), (some .int)]])⟩, xo 13 (.i (.not (tm 12))), xo 14 (qm (tm 13)), ⟨(some 15), (some (14, false)), (qm (tm 2))⟩, ⟨(some 16), (some (14, false)), (qf 1 (tm 4))⟩, ⟨(some 17), (some (14, false)), (ql (tm 16))⟩, ⟨(some 18), (some (14, false)), (.i (.len (tm 17)))⟩, ⟨(some 19), (some (14, false)), (qb .sub (tm 18) (ci 1))⟩, ⟨(some 20), (some (14, false)), (qc 45 [(tm 15), (ci 0), (tm 19)] [[], [], []])⟩, ⟨(some 21), (some (14, false)), (.i (.not (tm 20)))⟩, xo 22 (.i (.pick (tm 14) (cb true) (tm 21))), xo 23 (qm (tm 22)), ⟨(some 24), (some (23, false)), (qf 1 (tm 4))⟩, ⟨(some 25), (some (23, false)), (ql (tm 24))⟩, ⟨(some 26), (some (23, false)), (qm (tm 2))⟩, ⟨(some 27), (some (23, false)), (qx 4 (tm 25) (tm 26))⟩, ⟨(some 28), (some (23, false)), (qf 0 (tm 27))⟩, ⟨(some 29), (some (23, false)), (ql (tm 28))⟩, ⟨(some 30), (some (23, false)), (qb .neq (tm 29) (ci 5))⟩, xo 31 (.i (.pick (tm 23) (cb true) (tm 30))), xo 32 (qm (tm 31)), ⟨(some 33), (some (32, false)), (qf 1 (tm 4))⟩, ⟨(some 34), (some (32, false)), (ql (tm 33))⟩, ⟨(some 35), (some (32, false)), (qf 1 (tm 4))⟩, ⟨(some 36), (some (32, false)), (ql (tm 35))⟩, ⟨(some 37), (some (32, false)), (qm (tm 2))⟩, ⟨(some 38), (some (32, false)), (qx 4 (tm 36) (tm 37))⟩, ⟨(some 39), (some (32, false)), (qf 1 (tm 38))⟩, ⟨(some 40), (some (32, false)), (ql (tm 39))⟩, ⟨(some 41), (some (32, false)), (qx 4 (tm 34) (tm 40))⟩, ⟨(some 42), (some (32, false)), (.i (.ld false 4 (tm 41)))⟩, ⟨(some 43), (some (32, false)), (qc 53 [(tm 42)] [[none, none, none, none]])⟩, ⟨(some 44), (some (32, false)), (.i (.not (tm 43)))⟩, xo 45 (.i (.pick (tm 32) (cb true) (tm 44)))] true [])
  (.cond (tm 45)
    (.seq (rg [xo 46 (.build [(.int .i64 0), .nils, .nils] []), xn (.st false 3 (tm 6) (tm 46)), xo 7 (qm (cb false))])
    .ret)
    .skip))
  (.seq (rg [xo 47 (.i (.ld false 3 (tm 4))), ⟨(some 48), none, (qc 46 [(tm 47)] [[none, (some (.pair .int (.pair .int (.pair .int .int)))), (some .int)]])⟩, xo 8 (.i (.alloc 31 [(.int .i64 0), .nils, .nils])), xn (.st false 3 (tm 8) (tm 48))])
  (.seq (.region [xo 49 (qf 1 (tm 4)), xo 50 (ql (tm 49)), xo 51 (qf 1 (tm 4)), xo 52 (ql (tm 51)), xo 53 (qm (tm 2)), xo 54 (qx 4 (tm 52) (tm 53)), xo 55 (qf 1 (tm 54)), xo 56 (ql (tm 55)), xo 57 (qx 4 (tm 50) (tm 56)), xo 58 (.i (.ld false 4 (tm 57))), xo 59 (.i (.mkfn 55 [(tm 8)])), xo 60 (qc 54 [(tm 58), (tm 59)] [[none, none, none, none], []]), xo 9 (.i (.alloc 51 [(.int .i64 0), (.int .i64 0), (.int .i64 0), (.int .i64 0)])), xn (.st false 4 (tm 9) (tm 60))] true [(11, 12)])
  (.seq (rg [xo 61 (qf 1 (tm 8)), xo 62 (ql (tm 61)), xo 63 (qm (tm 2)), xo 64 (.i (.ld false 4 (tm 9))), xo 65 (qx 4 (tm 62) (tm 63)), xn (.st false 4 (tm 65) (tm 64))])
  (.seq (rg [xo 66 (qm (tm 0)), xo 67 (.i (.ld false 3 (tm 8))), ⟨(some 68), none, (qc 48 [(tm 66), (tm 67)] [[], [none, (some (.pair .int (.pair .int (.pair .int .int)))), (some .int)]])⟩, xo 69 (.i (.extr 0 (tm 68))), xo 70 (.i (.extr 1 (tm 68))), xn (.st false 3 (tm 6) (tm 69)), xo 7 (qm (tm 70))])
  .ret))))))
def r_impl_SpreadDelay : List Res := [.cell 6 false 3, .tmp 7]
theorem c_impl_SpreadDelay : compiled Tryd.prog Tryd.f23 = some (m_impl_SpreadDelay, r_impl_SpreadDelay) := by kernel_rfl
theorem hb_impl_SpreadDelay : hasBody Tryd.prog 23 = true := by kernel_rfl
def L_impl_SpreadDelay (a0 : Int) (a1_0 : Int) (a1_1 : List (Int × Int × Int × Int)) (a1_2 : List Int) (a2 : Int) : Option (Int × (List (Int × Int × Int × Int)) × List Int × Bool) :=
  Option.bind (Option.bind (L_impl_isCircuit a0 a1_0 a1_1 a1_2) fun y4 =>
  cond (!y4)
    (some true)
    (Option.bind (L_impl_within a2 0 (IntKind.i64.wrap (((a1_1.length : Nat) : Int) - 1))) fun y6 =>
    cond (!y6)
      (some true)
      (Option.bind (getI a1_1 a2) fun x8 =>
      cond (x8.1 != 5)
        (some true)
        (Option.bind (getI a1_1 x8.2.1) fun x10 =>
        Option.bind (L_impl_isWorking x10.1 x10.2.1 x10.2.2.1 x10.2.2.2) fun y11 =>
        some (!y11))))) fun l3_m45 =>
cond l3_m45
  (some (0, [], [], false))
  (Option.bind (L_impl_Circuit_copy a1_0 a1_1 a1_2) fun y15 =>
  Option.bind (getI a1_1 a2) fun x17 =>
  Option.bind (getI a1_1 x17.2.1) fun x18 =>
  Option.bind (L_impl_Gate_withOperands_for_impl_SpreadDelay_1 x18.1 x18.2.1 x18.2.2.1 x18.2.2.2 y15.1 y15.2.1 y15.2.2) fun y19 =>
  Option.bind (getI y19.1 a2) fun x21 =>
  Option.bind (Option.bind (L_impl_validCircuit a0 y15.1 (y19.1.set a2.toNat (x18.1, y19.2.1, y19.2.2, x18.2.2.2)) y15.2.2) fun y23 =>
    (Sum.elim (fun z23_0 =>
    some (z23_0.2, z23_0.1, [], [])) (fun z23_1 =>
    some (z23_1.2, z23_1.1, y19.1.set a2.toNat (x18.1, y19.2.1, y19.2.2, x18.2.2.2), y15.2.2))) y23) fun (l22_m7, l22_m6_0, l22_m6_1, l22_m6_2) =>
  some (l22_m6_0, l22_m6_1, l22_m6_2, l22_m7))
def rv_impl_SpreadDelay (r : Int × (List (Int × Int × Int × Int)) × List Int × Bool) : RV := ⟨true, [(true, [.sc (.int .i64 r.1), .new 51 (.pair .int (.pair .int (.pair .int .int))) r.2.1, .new 3 .int r.2.2.1]), (false, [.sc (.bool r.2.2.2)])]⟩
theorem ok_impl_SpreadDelay {a0 : Int} {a1_0 : Int} {a1_1 : List (Int × Int × Int × Int)} {a1_2 : List Int} {a2 : Int} {r : Int × (List (Int × Int × Int × Int)) × List Int × Bool} (h : L_impl_SpreadDelay a0 a1_0 a1_1 a1_2 a2 = some r) : CallOK Tryd.prog Tab 23 [(ai a0), (.agg [(ai a1_0), (.tree (.pair .int (.pair .int (.pair .int .int))) a1_1), (.tree .int a1_2)]), (ai a2)] (rv_impl_SpreadDelay r) := by
  refine call_of_ (by kernel_rfl) Tryd.func23 c_impl_SpreadDelay (n := 71) (by kernel_rfl) (by simp) (tl := [(0, (ai a0)), (1, (.agg [(ai a1_0), (.tree (.pair .int (.pair .int (.pair .int .int))) a1_1), (.tree .int a1_2)])), (2, (ai a2))]) rfl ?_
  unfold m_impl_SpreadDelay
  unfold L_impl_SpreadDelay at h
  refine seqR ?_
  refine awp_seqv_ ?_
  refine awp_seqB h (fun (l3_m45 : Bool) S_ => S_ = ⟨mkTm [(0, (ai a0)), (2, (ai a2)), (4, (.box (oi 0 1) 0)), (6, (.box (oi 1 1) 0)), (45, (.bool l3_m45))], mkOb (someL [((oi 0 1), .cells 31 [(ai a1_0), (.tree (.pair .int (.pair .int (.pair .int .int))) a1_1), (.tree .int a1_2)]), ((oi 1 1), .cells 31 [(ai 0), .nils, .nils])]), 2⟩) ?_ ?_
  · intro v_ h
    obtain ⟨y4, h4, h⟩ := ob_some h
    rcases cond_some h with ⟨q5, h⟩ | ⟨q5, h⟩
    · refine awp_regionD_ 40 ?_
      refine ds0 (ai a0) (by kernel_rfl) ?_
      refine dsl (.agg [(ai a1_0), (.tree (.pair .int (.pair .int (.pair .int .int))) a1_1), (.tree .int a1_2)]) (by kernel_rfl) ?_
      refine dcall (.bool y4) [] [(ai a0), (.agg [(ai a1_0), (.tree (.pair .int (.pair .int (.pair .int .int))) a1_1), (.tree .int a1_2)])] _ (caps := []) (args0 := [(ai a0), (.agg [(ai a1_0), (.tree (.pair .int (.pair .int (.pair .int .int))) a1_1), (.tree .int a1_2)])]) trivial (by kernel_rfl) (ok_impl_isCircuit h4) hb_impl_isCircuit ?_
      refine ds0 (.bool (!y4)) (by kernel_rfl) ?_
      refine ds0 (.bool (!y4)) (by kernel_rfl) ?_
      refine ds0 (.tup []) (s_skip (by kernel_rfl) q5) ?_
      refine ds0 (.tup []) (s_skip (by kernel_rfl) q5) ?_
      refine ds0 (.tup []) (s_skip (by kernel_rfl) q5) ?_
      refine ds0 (.tup []) (s_skip (by kernel_rfl) q5) ?_
      refine ds0 (.tup []) (s_skip (by kernel_rfl) q5) ?_
      refine ds0 (.tup []) (s_skip (by kernel_rfl) q5) ?_
      refine ds0 (.tup []) (s_skip (by kernel_rfl) q5) ?_
      refine ds0 (.bool true) (s_pickT (by kernel_rfl) q5) ?_
      refine ds0 (.bool true) (by kernel_rfl) ?_
      refine ds0 (.tup []) (by kernel_rfl) ?_
      refine ds0 (.tup []) (by kernel_rfl) ?_
      refine ds0 (.tup []) (by kernel_rfl) ?_
      refine ds0 (.tup []) (by kernel_rfl) ?_
      refine ds0 (.tup []) (by kernel_rfl) ?_
      refine ds0 (.tup []) (by kernel_rfl) ?_
      refine ds0 (.tup []) (by kernel_rfl) ?_
      refine ds0 (.bool true) (by kernel_rfl) ?_
      refine ds0 (.bool true) (by kernel_rfl) ?_
      refine ds0 (.tup []) (by kernel_rfl) ?_
      refine ds0 (.tup []) (by kernel_rfl) ?_
      refine ds0 (.tup []) (by kernel_rfl) ?_
      refine ds0 (.tup []) (by kernel_rfl) ?_
      refine ds0 (.tup []) (by kernel_rfl) ?_
      refine ds0 (.tup []) (by kernel_rfl) ?_
      refine ds0 (.tup []) (by kernel_rfl) ?_
      refine ds0 (.tup []) (by kernel_rfl) ?_
      refine ds0 (.tup []) (by kernel_rfl) ?_
      refine ds0 (.tup []) (by kernel_rfl) ?_
      refine ds0 (.tup []) (by kernel_rfl) ?_
      refine ds0 (.tup []) (by kernel_rfl) ?_
      refine ds0 (.bool true) (by kernel_rfl) ?_
      refine dnil (badB_spec (by kernel_rfl)) (tn_ ?_)
      obtain rfl := Option.some.inj h
      exact ⟨_, (weak_ren [((oi 0 1), (oi 4 1)), ((oi 1 1), (oi 6 2))]), rfl⟩
    obtain ⟨y6, h6, h⟩ := ob_some h
    rcases cond_some h with ⟨q7, h⟩ | ⟨q7, h⟩
    · refine awp_regionD_ 40 ?_
      refine ds0 (ai a0) (by kernel_rfl) ?_
      refine dsl (.agg [(ai a1_0), (.tree (.pair .int (.pair .int (.pair .int .int))) a1_1), (.tree .int a1_2)]) (by kernel_rfl) ?_
      refine dcall (.bool y4) [] [(ai a0), (.agg [(ai a1_0), (.tree (.pair .int (.pair .int (.pair .int .int))) a1_1), (.tree .int a1_2)])] _ (caps := []) (args0 := [(ai a0), (.agg [(ai a1_0), (.tree (.pair .int (.pair .int (.pair .int .int))) a1_1), (.tree .int a1_2)])]) trivial (by kernel_rfl) (ok_impl_isCircuit h4) hb_impl_isCircuit ?_
      refine ds0 (.bool (!y4)) (by kernel_rfl) ?_
      refine ds0 (.bool (!y4)) (by kernel_rfl) ?_
      refine ds0 (ai a2) (s_gd (by kernel_rfl) q5 (by kernel_rfl)) ?_
      refine ds0 (.box (oi 4 1) 1) (s_gd (by kernel_rfl) q5 (by kernel_rfl)) ?_
      refine dsl (.tree (.pair .int (.pair .int (.pair .int .int))) a1_1) (s_gd (by kernel_rfl) q5 (by kernel_rfl)) ?_
      refine ds0 (ai ((a1_1.length : Nat) : Int)) (s_gd (by kernel_rfl) q5 (by kernel_rfl)) ?_
      refine ds0 (ai (IntKind.i64.wrap (((a1_1.length : Nat) : Int) - 1))) (s_gd (by kernel_rfl) q5 (by kernel_rfl)) ?_
      refine dcall (.bool y6) [] [(ai a2), (ai 0), (ai (IntKind.i64.wrap (((a1_1.length : Nat) : Int) - 1)))] _ (caps := []) (args0 := [(ai a2), (ai 0), (ai (IntKind.i64.wrap (((a1_1.length : Nat) : Int) - 1)))]) (gdOK_b (by kernel_rfl) q5) (by kernel_rfl) (ok_impl_within h6) hb_impl_within ?_
      refine ds0 (.bool (!y6)) (s_gd (by kernel_rfl) q5 (by kernel_rfl)) ?_
      refine ds0 (.bool (!y6)) (s_pickF (by kernel_rfl) q5) ?_
      refine ds0 (.bool (!y6)) (by kernel_rfl) ?_
      refine ds0 (.tup []) (s_skip (by kernel_rfl) q7) ?_
      refine ds0 (.tup []) (s_skip (by kernel_rfl) q7) ?_
      refine ds0 (.tup []) (s_skip (by kernel_rfl) q7) ?_
      refine ds0 (.tup []) (s_skip (by kernel_rfl) q7) ?_
      refine ds0 (.tup []) (s_skip (by kernel_rfl) q7) ?_
      refine ds0 (.tup []) (s_skip (by kernel_rfl) q7) ?_
      refine ds0 (.tup []) (s_skip (by kernel_rfl) q7) ?_
      refine ds0 (.bool true) (s_pickT (by kernel_rfl) q7) ?_
      refine ds0 (.bool true) (by kernel_rfl) ?_
      refine ds0 (.tup []) (by kernel_rfl) ?_
      refine ds0 (.tup []) (by kernel_rfl) ?_
      refine ds0 (.tup []) (by kernel_rfl) ?_
      refine ds0 (.tup []) (by kernel_rfl) ?_
      refine ds0 (.tup []) (by kernel_rfl) ?_
      refine ds0 (.tup []) (by kernel_rfl) ?_
      refine ds0 (.tup []) (by kernel_rfl) ?_
      refine ds0 (.tup []) (by kernel_rfl) ?_
      refine ds0 (.tup []) (by kernel_rfl) ?_
      refine ds0 (.tup []) (by kernel_rfl) ?_
      refine ds0 (.tup []) (by kernel_rfl) ?_
      refine ds0 (.tup []) (by kernel_rfl) ?_
      refine ds0 (.bool true) (by kernel_rfl) ?_
      refine dnil (badB_spec (by kernel_rfl)) (tn_ ?_)
      obtain rfl := Option.some.inj h
      exact ⟨_, (weak_ren [((oi 0 1), (oi 4 1)), ((oi 1 1), (oi 6 2))]), rfl⟩
    obtain ⟨x8, f8, h⟩ := ob_some h
    obtain ⟨p8, b8, e8⟩ := getI_some f8
    rcases cond_some h with ⟨q9, h⟩ | ⟨q9, h⟩
    · refine awp_regionD_ 40 ?_
      refine ds0 (ai a0) (by kernel_rfl) ?_
      refine dsl (.agg [(ai a1_0), (.tree (.pair .int (.pair .int (.pair .int .int))) a1_1), (.tree .int a1_2)]) (by kernel_rfl) ?_
      refine dcall (.bool y4) [] [(ai a0), (.agg [(ai a1_0), (.tree (.pair .int (.pair .int (.pair .int .int))) a1_1), (.tree .int a1_2)])] _ (caps := []) (args0 := [(ai a0), (.agg [(ai a1_0), (.tree (.pair .int (.pair .int (.pair .int .int))) a1_1), (.tree .int a1_2)])]) trivial (by kernel_rfl) (ok_impl_isCircuit h4) hb_impl_isCircuit ?_
      refine ds0 (.bool (!y4)) (by kernel_rfl) ?_
      refine ds0 (.bool (!y4)) (by kernel_rfl) ?_
      refine ds0 (ai a2) (s_gd (by kernel_rfl) q5 (by kernel_rfl)) ?_
      refine ds0 (.box (oi 4 1) 1) (s_gd (by kernel_rfl) q5 (by kernel_rfl)) ?_
      refine dsl (.tree (.pair .int (.pair .int (.pair .int .int))) a1_1) (s_gd (by kernel_rfl) q5 (by kernel_rfl)) ?_
      refine ds0 (ai ((a1_1.length : Nat) : Int)) (s_gd (by kernel_rfl) q5 (by kernel_rfl)) ?_
      refine ds0 (ai (IntKind.i64.wrap (((a1_1.length : Nat) : Int) - 1))) (s_gd (by kernel_rfl) q5 (by kernel_rfl)) ?_
      refine dcall (.bool y6) [] [(ai a2), (ai 0), (ai (IntKind.i64.wrap (((a1_1.length : Nat) : Int) - 1)))] _ (caps := []) (args0 := [(ai a2), (ai 0), (ai (IntKind.i64.wrap (((a1_1.length : Nat) : Int) - 1)))]) (gdOK_b (by kernel_rfl) q5) (by kernel_rfl) (ok_impl_within h6) hb_impl_within ?_
      refine ds0 (.bool (!y6)) (s_gd (by kernel_rfl) q5 (by kernel_rfl)) ?_
      refine ds0 (.bool (!y6)) (s_pickF (by kernel_rfl) q5) ?_
      refine ds0 (.bool (!y6)) (by kernel_rfl) ?_
      refine ds0 (.box (oi 4 1) 1) (s_gd (by kernel_rfl) q7 (by kernel_rfl)) ?_
      refine dsl (.tree (.pair .int (.pair .int (.pair .int .int))) a1_1) (s_gd (by kernel_rfl) q7 (by kernel_rfl)) ?_
      refine ds0 (ai a2) (s_gd (by kernel_rfl) q7 (by kernel_rfl)) ?_
      refine ds0 (.telt (.pair .int (.pair .int (.pair .int .int))) x8 0) (s_gd (by kernel_rfl) q7 (s_idxT (t := (.pair .int (.pair .int (.pair .int .int)))) (xs := a1_1) (k := .i64) (m := a2) (by kernel_rfl) (by kernel_rfl) rfl p8 rfl e8)) ?_
      refine ds0 (.telt (.pair .int (.pair .int (.pair .int .int))) x8 0) (s_gd (by kernel_rfl) q7 (by kernel_rfl)) ?_
      refine ds0 (ai x8.1) (s_gd (by kernel_rfl) q7 (by kernel_rfl)) ?_
      refine ds0 (.bool (x8.1 != 5)) (s_gd (by kernel_rfl) q7 (by kernel_rfl)) ?_
      refine ds0 (.bool (x8.1 != 5)) (s_pickF (by kernel_rfl) q7) ?_
      refine ds0 (.bool (x8.1 != 5)) (by kernel_rfl) ?_
      refine ds0 (.tup []) (s_skip (by kernel_rfl) q9) ?_
      refine ds0 (.tup []) (s_skip (by kernel_rfl) q9) ?_
      refine ds0 (.tup []) (s_skip (by kernel_rfl) q9) ?_
      refine ds0 (.tup []) (s_skip (by kernel_rfl) q9) ?_
      refine ds0 (.tup []) (s_skip (by kernel_rfl) q9) ?_
      refine ds0 (.tup []) (s_skip (by kernel_rfl) q9) ?_
      refine ds0 (.tup []) (s_skip (by kernel_rfl) q9) ?_
      refine ds0 (.tup []) (s_skip (by kernel_rfl) q9) ?_
      refine ds0 (.tup []) (s_skip (by kernel_rfl) q9) ?_
      refine ds0 (.tup []) (s_skip (by kernel_rfl) q9) ?_
      refine ds0 (.tup []) (s_skip (by kernel_rfl) q9) ?_
      refine ds0 (.tup []) (s_skip (by kernel_rfl) q9) ?_
      refine ds0 (.bool true) (s_pickT (by kernel_rfl) q9) ?_
      refine dnil (badB_spec (by kernel_rfl)) (tn_ ?_)
      obtain rfl := Option.some.inj h
      exact ⟨_, (weak_ren [((oi 0 1), (oi 4 1)), ((oi 1 1), (oi 6 2))]), rfl⟩
    obtain ⟨x10, f10, h⟩ := ob_some h
    obtain ⟨p10, b10, e10⟩ := getI_some f10
    obtain ⟨y11, h11, h⟩ := ob_some h
    refine awp_regionD_ 40 ?_
    refine ds0 (ai a0) (by kernel_rfl) ?_
    refine dsl (.agg [(ai a1_0), (.tree (.pair .int (.pair .int (.pair .int .int))) a1_1), (.tree .int a1_2)]) (by kernel_rfl) ?_
    refine dcall (.bool y4) [] [(ai a0), (.agg [(ai a1_0), (.tree (.pair .int (.pair .int (.pair .int .int))) a1_1), (.tree .int a1_2)])] _ (caps := []) (args0 := [(ai a0), (.agg [(ai a1_0), (.tree (.pair .int (.pair .int (.pair .int .int))) a1_1), (.tree .int a1_2)])]) trivial (by kernel_rfl) (ok_impl_isCircuit h4) hb_impl_isCircuit ?_
    refine ds0 (.bool (!y4)) (by kernel_rfl) ?_
    refine ds0 (.bool (!y4)) (by kernel_rfl) ?_
    refine ds0 (ai a2) (s_gd (by kernel_rfl) q5 (by kernel_rfl)) ?_
    refine ds0 (.box (oi 4 1) 1) (s_gd (by kernel_rfl) q5 (by kernel_rfl)) ?_
    refine dsl (.tree (.pair .int (.pair .int (.pair .int .int))) a1_1) (s_gd (by kernel_rfl) q5 (by kernel_rfl)) ?_
    refine ds0 (ai ((a1_1.length : Nat) : Int)) (s_gd (by kernel_rfl) q5 (by kernel_rfl)) ?_
    refine ds0 (ai (IntKind.i64.wrap (((a1_1.length : Nat) : Int) - 1))) (s_gd (by kernel_rfl) q5 (by kernel_rfl)) ?_
    refine dcall (.bool y6) [] [(ai a2), (ai 0), (ai (IntKind.i64.wrap (((a1_1.length : Nat) : Int) - 1)))] _ (caps := []) (args0 := [(ai a2), (ai 0), (ai (IntKind.i64.wrap (((a1_1.length : Nat) : Int) - 1)))]) (gdOK_b (by kernel_rfl) q5) (by kernel_rfl) (ok_impl_within h6) hb_impl_within ?_
    refine ds0 (.bool (!y6)) (s_gd (by kernel_rfl) q5 (by kernel_rfl)) ?_
    refine ds0 (.bool (!y6)) (s_pickF (by kernel_rfl) q5) ?_
    refine ds0 (.bool (!y6)) (by kernel_rfl) ?_
    refine ds0 (.box (oi 4 1) 1) (s_gd (by kernel_rfl) q7 (by kernel_rfl)) ?_
    refine dsl (.tree (.pair .int (.pair .int (.pair .int .int))) a1_1) (s_gd (by kernel_rfl) q7 (by kernel_rfl)) ?_
    refine ds0 (ai a2) (s_gd (by kernel_rfl) q7 (by kernel_rfl)) ?_
    refine ds0 (.telt (.pair .int (.pair .int (.pair .int .int))) x8 0) (s_gd (by kernel_rfl) q7 (s_idxT (t := (.pair .int (.pair .int (.pair .int .int)))) (xs := a1_1) (k := .i64) (m := a2) (by kernel_rfl) (by kernel_rfl) rfl p8 rfl e8)) ?_
    refine ds0 (.telt (.pair .int (.pair .int (.pair .int .int))) x8 0) (s_gd (by kernel_rfl) q7 (by kernel_rfl)) ?_
    refine ds0 (ai x8.1) (s_gd (by kernel_rfl) q7 (by kernel_rfl)) ?_
    refine ds0 (.bool (x8.1 != 5)) (s_gd (by kernel_rfl) q7 (by kernel_rfl)) ?_
    refine ds0 (.bool (x8.1 != 5)) (s_pickF (by kernel_rfl) q7) ?_
    refine ds0 (.bool (x8.1 != 5)) (by kernel_rfl) ?_
    refine ds0 (.box (oi 4 1) 1) (s_gd (by kernel_rfl) q9 (by kernel_rfl)) ?_
    refine dsl (.tree (.pair .int (.pair .int (.pair .int .int))) a1_1) (s_gd (by kernel_rfl) q9 (by kernel_rfl)) ?_
    refine ds0 (.box (oi 4 1) 1) (s_gd (by kernel_rfl) q9 (by kernel_rfl)) ?_
    refine dsl (.tree (.pair .int (.pair .int (.pair .int .int))) a1_1) (s_gd (by kernel_rfl) q9 (by kernel_rfl)) ?_
    refine ds0 (ai a2) (s_gd (by kernel_rfl) q9 (by kernel_rfl)) ?_
    refine ds0 (.telt (.pair .int (.pair .int (.pair .int .int))) x8 0) (s_gd (by kernel_rfl) q9 (s_idxT (t := (.pair .int (.pair .int (.pair .int .int)))) (xs := a1_1) (k := .i64) (m := a2) (by kernel_rfl) (by kernel_rfl) rfl p8 rfl e8)) ?_
    refine ds0 (.telt (.pair .int (.pair .int (.pair .int .int))) x8 1) (s_gd (by kernel_rfl) q9 (by kernel_rfl)) ?_
    refine ds0 (ai x8.2.1) (s_gd (by kernel_rfl) q9 (by kernel_rfl)) ?_
    refine ds0 (.telt (.pair .int (.pair .int (.pair .int .int))) x10 0) (s_gd (by kernel_rfl) q9 (s_idxT (t := (.pair .int (.pair .int (.pair .int .int)))) (xs := a1_1) (k := .i64) (m := x8.2.1) (by kernel_rfl) (by kernel_rfl) rfl p10 rfl e10)) ?_
    refine ds0 (.agg [(ai x10.1), (ai x10.2.1), (ai x10.2.2.1), (ai x10.2.2.2)]) (s_gd (by kernel_rfl) q9 (by kernel_rfl)) ?_
    refine dcall (.bool y11) [] [(.agg [(ai x10.1), (ai x10.2.1), (ai x10.2.2.1), (ai x10.2.2.2)])] _ (caps := []) (args0 := [(.agg [(ai x10.1), (ai x10.2.1), (ai x10.2.2.1), (ai x10.2.2.2)])]) (gdOK_b (by kernel_rfl) q9) (by kernel_rfl) (ok_impl_isWorking h11) hb_impl_isWorking ?_
    refine ds0 (.bool (!y11)) (s_gd (by kernel_rfl) q9 (by kernel_rfl)) ?_
    refine ds0 (.bool (!y11)) (s_pickF (by kernel_rfl) q9) ?_
    refine dnil (badB_spec (by kernel_rfl)) (tn_ ?_)
    obtain rfl := Option.some.inj h
    exact ⟨_, (weak_ren [((oi 0 1), (oi 4 1)), ((oi 1 1), (oi 6 2))]), rfl⟩
  rintro l3_m45 _ rfl h
  (try dsimp only at h)
  rcases cond_some h with ⟨q12, h⟩ | ⟨q12, h⟩
  · refine awp_condT_ q12 ?_
    refine seqR ?_
    refine awp_ret_ (tr_ ?_)
    obtain rfl := Option.some.inj h
    exact ret_ [(.agg [(ai 0), .nils, .nils]), (.bool false)] (p_agg (l_cons (l_sc (by kernel_rfl)) (l_cons (l_nils rfl) (l_cons (l_nils rfl) l_nil))) (p_one rfl (l_sc (by kernel_rfl)) p_nil))
  refine awp_condF_ q12 ?_
  refine awp_skip_ (tn_ ?_)
  refine ⟨_, Weak.refl _, ?_⟩
  refine awp_seqv_ ?_
  obtain ⟨y15, h15, h⟩ := ob_some h
  refine awp_region_ 6 ?_
  refine rsl (.agg [(ai a1_0), (.tree (.pair .int (.pair .int (.pair .int .int))) a1_1), (.tree .int a1_2)]) (by kernel_rfl) ?_
  refine rcall (.agg [(ai y15.1), (.own (oi 768 3) (.pair .int (.pair .int (.pair .int .int))) 0 y15.2.1.length), (.own (oi 769 3) .int 0 y15.2.2.length)]) [((oi 768 3), some (.arr 51 (.pair .int (.pair .int (.pair .int .int))) y15.2.1)), ((oi 769 3), some (.arr 3 .int y15.2.2))] [(.agg [(ai a1_0), (.tree (.pair .int (.pair .int (.pair .int .int))) a1_1), (.tree .int a1_2)])] _ (caps := []) (args0 := [(.agg [(ai a1_0), (.tree (.pair .int (.pair .int (.pair .int .int))) a1_1), (.tree .int a1_2)])]) trivial (by kernel_rfl) (ok_impl_Circuit_copy h15) hb_impl_Circuit_copy ?_
  refine rsB 2 ?_
  refine rnil (tn_ ?_)
  refine ⟨_, Weak.refl _, ?_⟩
  refine awp_seqv_ ?_
  obtain ⟨x17, f17, h⟩ := ob_some h
  obtain ⟨p17, b17, e17⟩ := getI_some f17
  obtain ⟨x18, f18, h⟩ := ob_some h
  obtain ⟨p18, b18, e18⟩ := getI_some f18
  obtain ⟨y19, h19, h⟩ := ob_some h
  refine awp_regionD_ 20 ?_
  refine ds0 (.box (oi 0 1) 1) (by kernel_rfl) ?_
  refine dsl (.tree (.pair .int (.pair .int (.pair .int .int))) a1_1) (by kernel_rfl) ?_
  refine ds0 (.box (oi 0 1) 1) (by kernel_rfl) ?_
  refine dsl (.tree (.pair .int (.pair .int (.pair .int .int))) a1_1) (by kernel_rfl) ?_
  refine ds0 (ai a2) (by kernel_rfl) ?_
  refine ds0 (.telt (.pair .int (.pair .int (.pair .int .int))) x17 0) (s_idxT (t := (.pair .int (.pair .int (.pair .int .int)))) (xs := a1_1) (k := .i64) (m := a2) (by kernel_rfl) (by kernel_rfl) rfl p17 rfl e17) ?_
  refine ds0 (.telt (.pair .int (.pair .int (.pair .int .int))) x17 1) (by kernel_rfl) ?_
  refine ds0 (ai x17.2.1) (by kernel_rfl) ?_
  refine ds0 (.telt (.pair .int (.pair .int (.pair .int .int))) x18 0) (s_idxT (t := (.pair .int (.pair .int (.pair .int .int)))) (xs := a1_1) (k := .i64) (m := x17.2.1) (by kernel_rfl) (by kernel_rfl) rfl p18 rfl e18) ?_
  refine ds0 (.agg [(ai x18.1), (ai x18.2.1), (ai x18.2.2.1), (ai x18.2.2.2)]) (by kernel_rfl) ?_
  refine ds0 (.fn 55 [(.box (oi 8 4) 0)]) (by kernel_rfl) ?_
  refine dcallM (.agg [(ai x18.1), (ai y19.2.1), (ai y19.2.2), (ai x18.2.2.2)]) [((oi 8 4), some (.cells 31 [(ai y15.1), (.own (oi 960 17) (.pair .int (.pair .int (.pair .int .int))) 0 y19.1.length), (.own (oi 769 3) .int 0 y15.2.2.length)])), ((oi 769 3), some (.arr 3 .int y15.2.2)), ((oi 960 17), some (.arr 51 (.pair .int (.pair .int (.pair .int .int))) y19.1)), ((oi 961 17), some (.cells 51 [(ai x18.1), (ai y19.2.1), (ai y19.2.2), (ai x18.2.2.2)])), ((oi 8 4), none), ((oi 768 3), none), ((oi 769 3), none)] [((oi 0 0), (oi 8 4)), ((oi 1 0), (oi 768 3)), ((oi 2 0), (oi 769 3))] [(.agg [(ai x18.1), (ai x18.2.1), (ai x18.2.2.1), (ai x18.2.2.2)]), (.fn 55 [(.box (oi 8 4) 0)])] (caps := []) trivial (ok_impl_Gate_withOperands_for_impl_SpreadDelay_1 h19) hb_impl_Gate_withOperands ⟨(by kernel_rfl), ⟨(by kernel_rfl), ⟨(by kernel_rfl), trivial⟩⟩⟩ (.cons (.ren (by kernel_rfl)) (.cons (.ren (by kernel_rfl)) .nil)) (reachL_mem (by kernel_rfl) (by kernel_rfl) ⟨(re_arg (by kernel_rfl)), ⟨(re_cells (k := (oi 8 4)) (ty := 31) (cs := [(ai y15.1), (.own (oi 768 3) (.pair .int (.pair .int (.pair .int .int))) 0 y15.2.1.length), (.own (oi 769 3) .int 0 y15.2.2.length)]) (re_arg (by kernel_rfl)) (by kernel_rfl) (by kernel_rfl)), ⟨(re_cells (k := (oi 8 4)) (ty := 31) (cs := [(ai y15.1), (.own (oi 768 3) (.pair .int (.pair .int (.pair .int .int))) 0 y15.2.1.length), (.own (oi 769 3) .int 0 y15.2.2.length)]) (re_arg (by kernel_rfl)) (by kernel_rfl) (by kernel_rfl)), trivial⟩⟩⟩) (rd_all (by kernel_rfl)) ?_
  refine ds1 (.box (oi 9 18) 0) (oi 9 18) (.cells 51 [(ai 0), (ai 0), (ai 0), (ai 0)]) (by kernel_rfl) ?_
  refine dsn2 (oi 9 18) (oi 9 18) (.cells 51 [(ai x18.1), (ai y19.2.1), (ai y19.2.2), (ai x18.2.2.2)]) (by kernel_rfl) ?_
  refine dnil ⟨(pair_j (by kernel_rfl)), trivial⟩ (tn_ ?_)
  refine ⟨_, Weak.refl _, ?_⟩
  refine awp_seqv_ ?_
  obtain ⟨x21, f21, h⟩ := ob_some h
  obtain ⟨p21, b21, e21⟩ := getI_some f21
  refine awp_region_ 26 ?_
  refine rs0 (.box (oi 8 4) 1) (by kernel_rfl) ?_
  refine rsl (.own (oi 960 17) (.pair .int (.pair .int (.pair .int .int))) 0 y19.1.length) (by kernel_rfl) ?_
  refine rs0 (ai a2) (by kernel_rfl) ?_
  refine rsl (.agg [(ai x18.1), (ai y19.2.1), (ai y19.2.2), (ai x18.2.2.2)]) (by kernel_rfl) ?_
  refine rs0 (.elt (oi 960 17) a2.toNat 0) (s_idxO (t := (.pair .int (.pair .int (.pair .int .int)))) (o := (oi 960 17)) (len := y19.1.length) (k := .i64) (m := a2) (by kernel_rfl) (by kernel_rfl) rfl p21 rfl (getN_lt e21)) ?_
  refine rsn2 (oi 960 17) (oi 960 17) (.arr 51 (.pair .int (.pair .int (.pair .int .int))) (y19.1.set a2.toNat (x18.1, y19.2.1, y19.2.2, x18.2.2.2))) (s_stE (i := (oi 960 17)) (j := a2.toNat) (k := 0) (e := 51) (t := (.pair .int (.pair .int (.pair .int .int)))) (xs := y19.1) (cs := [(ai x18.1), (ai y19.2.1), (ai y19.2.2), (ai x18.2.2.2)]) (x1 := (x18.1, y19.2.1, y19.2.2, x18.2.2.2)) (by kernel_rfl) (by kernel_rfl) e21 (by kernel_rfl) (by kernel_rfl)) ?_
  refine rnil (tn_ ?_)
  refine ⟨_, Weak.refl _, ?_⟩
  refine awp_seqB h (fun t_ S_ => ∃ (l22_m7 : Bool), ∃ (l22_m6_0 : Int), ∃ (l22_m6_1 : List (Int × Int × Int × Int)), ∃ (l22_m6_2 : List Int), t_ = (l22_m7, l22_m6_0, l22_m6_1, l22_m6_2) ∧ S_ = ⟨mkTm [(6, (.box (oi 0 1) 0)), (7, (.bool l22_m7))], mkOb (someL [((oi 0 1), .cells 31 [(ai l22_m6_0), (.own (oi 1 1) (.pair .int (.pair .int (.pair .int .int))) 0 l22_m6_1.length), (.own (oi 2 1) .int 0 l22_m6_2.length)]), ((oi 1 1), .arr 51 (.pair .int (.pair .int (.pair .int .int))) l22_m6_1), ((oi 2 1), .arr 3 .int l22_m6_2)]), 2⟩) ?_ ?_
  · intro v_ h
    obtain ⟨y23, h23, h⟩ := ob_some h
    rcases y23 with z23_0 | z23_1
    · (try simp only [Sum.elim_inl, Sum.elim_inr] at h)
      refine awp_region_ 33 ?_
      refine rs0 (ai a0) (by kernel_rfl) ?_
      refine rsl (.agg [(ai y15.1), (.own (oi 960 17) (.pair .int (.pair .int (.pair .int .int))) 0 y19.1.length), (.own (oi 769 3) .int 0 y15.2.2.length)]) (by kernel_rfl) ?_
      refine rcall (.tup [(.agg [(ai z23_0.1), .nils, .nils]), (.bool z23_0.2)]) [] [(ai a0), (.agg [(ai y15.1), (.own (oi 960 17) (.pair .int (.pair .int (.pair .int .int))) 0 y19.1.length), (.own (oi 769 3) .int 0 y15.2.2.length)])] _ (caps := []) (args0 := [(ai a0), (.agg [(ai y15.1), (.tree (.pair .int (.pair .int (.pair .int .int))) (y19.1.set a2.toNat (x18.1, y19.2.1, y19.2.2, x18.2.2.2))), (.tree .int y15.2.2)])]) trivial (gm_cons (by kernel_rfl) (gm_cons (gd_agg (gm_cons (by kernel_rfl) (gm_cons (gd_own (e := 51) (by kernel_rfl) ((rfl : y19.1.length = y19.1.length).trans List.length_set.symm)) (gm_cons (gd_own (e := 3) (by kernel_rfl) rfl) gm_nil)))) gm_nil)) (ok_impl_validCircuit h23) hb_impl_validCircuit ?_
      refine rsB 4 ?_
      refine rnil (tn_ ?_)
      obtain rfl := Option.some.inj h
      exact ⟨_, ((weak_nil_cell_ 9000 (oi 1 1) 1 31 [(ai z23_0.1), .nils, .nils] [(ai z23_0.1), (.own (oi 9000 33) (.pair .int (.pair .int (.pair .int .int))) 0 0), .nils] 51 (.pair .int (.pair .int (.pair .int .int))) rfl (by kernel_rfl) (by kernel_rfl) (by kernel_rfl)).trans ((weak_nil_cell_ 9001 (oi 1 1) 2 31 [(ai z23_0.1), (.own (oi 9000 33) (.pair .int (.pair .int (.pair .int .int))) 0 0), .nils] [(ai z23_0.1), (.own (oi 9000 33) (.pair .int (.pair .int (.pair .int .int))) 0 0), (.own (oi 9001 34) .int 0 0)] 3 .int rfl (by kernel_rfl) (by kernel_rfl) (by kernel_rfl)).trans (weak_ren [((oi 0 1), (oi 1 1)), ((oi 1 1), (oi 9000 33)), ((oi 2 1), (oi 9001 34))]))), ⟨z23_0.2, z23_0.1, [], [], rfl, rfl⟩⟩
    (try simp only [Sum.elim_inl, Sum.elim_inr] at h)
    refine awp_region_ 33 ?_
    refine rs0 (ai a0) (by kernel_rfl) ?_
    refine rsl (.agg [(ai y15.1), (.own (oi 960 17) (.pair .int (.pair .int (.pair .int .int))) 0 y19.1.length), (.own (oi 769 3) .int 0 y15.2.2.length)]) (by kernel_rfl) ?_
    refine rcall (.tup [(.agg [(ai z23_1.1), (.own (oi 960 17) (.pair .int (.pair .int (.pair .int .int))) 0 y19.1.length), (.own (oi 769 3) .int 0 y15.2.2.length)]), (.bool z23_1.2)]) [] [(ai a0), (.agg [(ai y15.1), (.own (oi 960 17) (.pair .int (.pair .int (.pair .int .int))) 0 y19.1.length), (.own (oi 769 3) .int 0 y15.2.2.length)])] _ (caps := []) (args0 := [(ai a0), (.agg [(ai y15.1), (.tree (.pair .int (.pair .int (.pair .int .int))) (y19.1.set a2.toNat (x18.1, y19.2.1, y19.2.2, x18.2.2.2))), (.tree .int y15.2.2)])]) trivial (gm_cons (by kernel_rfl) (gm_cons (gd_agg (gm_cons (by kernel_rfl) (gm_cons (gd_own (e := 51) (by kernel_rfl) ((rfl : y19.1.length = y19.1.length).trans List.length_set.symm)) (gm_cons (gd_own (e := 3) (by kernel_rfl) rfl) gm_nil)))) gm_nil)) (ok_impl_validCircuit h23) hb_impl_validCircuit ?_
    refine rsB 4 ?_
    refine rnil (tn_ ?_)
    obtain rfl := Option.some.inj h
    exact ⟨_, ((weak_ob_ (oi 1 1) (.cells 31 [(ai z23_1.1), (.own (oi 960 17) (.pair .int (.pair .int (.pair .int .int))) 0 y19.1.length), (.own (oi 769 3) .int 0 y15.2.2.length)]) (.cells 31 [(ai z23_1.1), (.own (oi 960 17) (.pair .int (.pair .int (.pair .int .int))) 0 ((y19.1.set a2.toNat (x18.1, y19.2.1, y19.2.2, x18.2.2.2)).length)), (.own (oi 769 3) .int 0 y15.2.2.length)]) (by kernel_rfl) (congrArg (fun z_ => (.cells 31 [(ai z23_1.1), (.own (oi 960 17) (.pair .int (.pair .int (.pair .int .int))) 0 z_), (.own (oi 769 3) .int 0 y15.2.2.length)] : Ob)) (((rfl : y19.1.length = y19.1.length).trans List.length_set.symm) : y19.1.length = (y19.1.set a2.toNat (x18.1, y19.2.1, y19.2.2, x18.2.2.2)).length))).trans (weak_ren [((oi 0 1), (oi 1 1)), ((oi 1 1), (oi 960 17)), ((oi 2 1), (oi 769 3))])), ⟨z23_1.2, z23_1.1, y19.1.set a2.toNat (x18.1, y19.2.1, y19.2.2, x18.2.2.2), y15.2.2, rfl, rfl⟩⟩
  rintro _ _ ⟨l22_m7, l22_m6_0, l22_m6_1, l22_m6_2, rfl, rfl⟩ h
  (try dsimp only at h)
  refine awp_ret_ ?_
  obtain rfl := Option.some.inj h
  exact ret_ [(.agg [(ai l22_m6_0), (.own (oi 1 1) (.pair .int (.pair .int (.pair .int .int))) 0 l22_m6_1.length), (.own (oi 2 1) .int 0 l22_m6_2.length)]), (.bool l22_m7)] (p_agg (l_cons (l_sc (by kernel_rfl)) (l_cons (l_own (by kernel_rfl) rfl) (l_cons (l_own (by kernel_rfl) rfl) l_nil))) (p_one rfl (l_sc (by kernel_rfl)) p_nil))
def m_laws_FnExactSpreadDelay : AC :=
  (.seq (rg [xo 4 (.i (.box 25 (tm 1))), xo 6 (qm (cb false))])
  (.seq (rg [xo 7 (qm (ci 1048576))])
  (.seq (rg [xo 18 (.i (.ld false 3 (tm 4))), xo 19 (qm (tm 7)), ⟨(some 20), none, (qc 10 [(tm 18), (tm 19)] [[none, (some (.pair .int (.pair .int (.pair .int .int)))), (some .int)], []])⟩, xo 7 (qm (tm 20))])
  (.seq (.seq (rg [xo 21 (qm (tm 7)), xo 22 (qb .lss (tm 21) (ci 0))])
  (.cond (tm 22)
    (.seq (rg [xo 6 (qm (cb true))])
    .ret)
    .skip))
  (.seq (rg [xo 24 (qm (tm 0)), xo 25 (.i (.ld false 3 (tm 4))), ⟨(some 26), none, (qc 12 [(tm 25)] [[none, (some (.pair .int (.pair .int (.pair .int .int)))), (some .int)]])⟩, xo 27 (qm (tm 2)), ⟨(some 28), none, (qc 22 [(tm 24), (tm 26), (tm 27)] [[], [none, (some (.pair .int (.pair .int (.pair .int .int)))), (some .int)], []])⟩, xo 23 (qm (tm 28)), xo 29 (.i (.extr 0 (tm 23))), xo 30 (.i (.extr 1 (tm 23))), xo 8 (.i (.alloc 31 [(.int .i64 0), .nils, .nils])), xn (.st false 3 (tm 8) (tm 29)), xo 9 (qm (tm 30))])
  (.seq (rg [xo 31 (.i (.ld false 3 (tm 4))), ⟨(some 32), none, (qc 12 [(tm 31)] [[none, (some (.pair .int (.pair .int (.pair .int .int)))), (some .int)]])⟩, xo 10 (.i (.alloc 31 [(.int .i64 0), .nils, .nils])), xn (.st false 3 (tm 10) (tm 32))])
  (.seq (rg [xo 34 (qm (tm 0)), xo 35 (.i (.ld false 3 (tm 10))), xo 36 (qm (tm 2)), ⟨(some 37), none, (qc 23 [(tm 34), (tm 35), (tm 36)] [[], [none, (some (.pair .int (.pair .int (.pair .int .int)))), (some .int)], []])⟩, xo 33 (qm (tm 37)), xo 38 (.i (.extr 0 (tm 33))), xo 39 (.i (.extr 1 (tm 33))), xo 11 (.i (.alloc 31 [(.int .i64 0), .nils, .nils])), xn (.st false 3 (tm 11) (tm 38)), xo 12 (qm (tm 39))])
  (.seq (.seq (rg [xo 40 (.i (.ld false 3 (tm 11))), xo 41 (.i (.ld false 3 (tm 8))), ⟨(some 42), none, (qc 15 [(tm 40), (tm 41)] [[none, (some (.pair .int (.pair .int (.pair .int .int)))), (some .int)], [none, (some (.pair .int (.pair .int (.pair .int .int)))), (some .int)]])⟩, xo 43 (.i (.not (tm 42))), xo 44 (qm (tm 43)), ⟨(some 45), (some (44, false)), (qm (tm 12))⟩, ⟨(some 46), (some (44, false)), (qm (tm 9))⟩, ⟨(some 47), (some (44, false)), (.i (.cmp true 0 (tm 45) (tm 46)))⟩, xo 48 (.i (.pick (tm 44) (cb true) (tm 47)))])
  (.cond (tm 48)
    (.seq (rg [xo 6 (qm (cb false))])
    .ret)
    .skip))
  (.seq (.seq (.region [xo 49 (.i (.ld false 3 (tm 10))), xo 50 (.i (.ld false 3 (tm 4))), ⟨(some 51), none, (qc 12 [(tm 50)] [[none, (some (.pair .int (.pair .int (.pair .int .int)))), (some .int)]])⟩, ⟨(some 52), none, (qc 15 [(tm 49), (tm 51)] [[none, (some (.pair .int (.pair .int (.pair .int .int)))), (some .int)], [none, (some (.pair .int (.pair .int (.pair .int .int)))), (some .int)]])⟩, xo 53 (.i (.not (tm 52)))] true [(0, 2)])
  (.cond (tm 53)
    (.seq (rg [xo 6 (qm (cb false))])
    .ret)
    .skip))
  (.seq (rg [xo 13 (qm (ci 1))])
  (.seq (rg [xo 54 (.i (.ld false 3 (tm 10))), xo 55 (qm (tm 13)), ⟨(some 56), none, (qc 16 [(tm 54), (tm 55)] [[none, (some (.pair .int (.pair .int (.pair .int .int)))), (some .int)], []])⟩, xo 13 (qm (tm 56))])
  (.seq (.seq (rg [xo 57 (qm (tm 13)), xo 58 (qb .lss (tm 57) (ci 0)), xo 59 (qm (tm 58)), ⟨(some 60), (some (59, false)), (.i (.ld false 3 (tm 11)))⟩, ⟨(some 61), (some (59, false)), (.i (.ld false 3 (tm 8)))⟩, ⟨(some 62), (some (59, false)), (qc 15 [(tm 60), (tm 61)] [[none, (some (.pair .int (.pair .int (.pair .int .int)))), (some .int)], [none, (some (.pair .int (.pair .int (.pair .int .int)))), (some .int)]])⟩, ⟨(some 63), (some (59, false)), (.i (.not (tm 62)))⟩, xo 64 (.i (.pick (tm 59) (cb true) (tm 63))), xo 65 (qm (tm 64)), ⟨(some 66), (some (65, false)), (qm (tm 12))⟩, ⟨(some 67), (some (65, false)), (qm (tm 9))⟩, ⟨(some 68), (some (65, false)), (.i (.cmp true 0 (tm 66) (tm 67)))⟩, xo 69 (.i (.pick (tm 65) (cb true) (tm 68)))])
  (.cond (tm 69)
    (.seq (rg [xo 6 (qm (cb false))])
    .ret)
    .skip))
  (.seq (rg [xo 14 (qm (ci 1))])
  (.seq (rg [xo 70 (.i (.ld false 3 (tm 11))), xo 71 (qm (tm 14)), ⟨(some 72), none, (qc 16 [(tm 70), (tm 71)] [[none, (some (.pair .int (.pair .int (.pair .int .int)))), (some .int)], []])⟩, xo 14 (qm (tm 72))])
  (.seq (rg [xo 15 (qm (ci 1))])
  (.seq (rg [xo 73 (.i (.ld false 3 (tm 11))), xo 74 (qm (tm 15)), ⟨(some 75), none, (qc 21 [(tm 73), (tm 74)] [[none, (some (.pair .int (.pair .int (.pair .int .int)))), (some .int)], []])⟩, xo 15 (qm (tm 75))])
  (.seq (.seq (rg [xo 76 (qm (tm 15)), xo 77 (qb .lss (tm 76) (ci 0))])
  (.cond (tm 77)
    (.seq (rg [xo 6 (qm (cb false))])
    .ret)
    .skip))
  (.seq (.seq (rg [xo 78 (qm (tm 15)), xo 79 (qm (tm 14)), xo 80 (qb .neq (tm 78) (tm 79))])
  (.cond (tm 80)
    (.seq (rg [xo 6 (qm (cb false))])
    .ret)
    .skip))
  (.seq (rg [xo 82 (qm (tm 0)), xo 83 (.i (.ld false 3 (tm 4))), ⟨(some 84), none, (qc 12 [(tm 83)] [[none, (some (.pair .int (.pair .int (.pair .int .int)))), (some .int)]])⟩, xo 85 (qm (tm 2)), ⟨(some 86), none, (qc 23 [(tm 82), (tm 84), (tm 85)] [[], [none, (some (.pair .int (.pair .int (.pair .int .int)))), (some .int)], []])⟩, xo 81 (qm (tm 86)), xo 87 (.i (.extr 0 (tm 81))), xo 88 (.i (.extr 1 (tm 81))), xo 16 (.i (.alloc 31 [(.int .i64 0), .nils, .nils])), xn (.st false 3 (tm 16) (tm 87)), xo 17 (qm (tm 88))])
  (.seq (.seq (rg [xo 89 (.i (.ld false 3 (tm 16))), xo 90 (.i (.ld false 3 (tm 8))), ⟨(some 91), none, (qc 15 [(tm 89), (tm 90)] [[none, (some (.pair .int (.pair .int (.pair .int .int)))), (some .int)], [none, (some (.pair .int (.pair .int (.pair .int .int)))), (some .int)]])⟩, xo 92 (.i (.not (tm 91))), xo 93 (qm (tm 92)), ⟨(some 94), (some (93, false)), (qm (tm 17))⟩, ⟨(some 95), (some (93, false)), (qm (tm 9))⟩, ⟨(some 96), (some (93, false)), (.i (.cmp true 0 (tm 94) (tm 95)))⟩, xo 97 (.i (.pick (tm 93) (cb true) (tm 96)))])
  (.cond (tm 97)
    (.seq (rg [xo 6 (qm (cb false))])
    .ret)
    .skip))
  (.seq (rg [xo 15 (qm (ci 1))])
  (.seq (rg [xo 98 (.i (.ld false 3 (tm 11))), xo 99 (qm (tm 15)), ⟨(some 100), none, (qc 21 [(tm 98), (tm 99)] [[none, (some (.pair .int (.pair .int (.pair .int .int)))), (some .int)], []])⟩, xo 15 (qm (tm 100))])
  (.seq (.seq (rg [xo 101 (qm (tm 15)), xo 102 (qb .lss (tm 101) (ci 0))])
  (.cond (tm 102)
    (.seq (rg [xo 6 (qm (cb false))])
    .ret)
    .skip))
  (.seq (.seq (rg [xo 103 (qm (tm 15)), xo 104 (qm (tm 14)), xo 105 (qb .neq (tm 103) (tm 104))])
  (.cond (tm 105)
    (.seq (rg [xo 6 (qm (cb false))])
    .ret)
    .skip))
  (.seq (rg [xo 6 (qm (cb true))])
  .ret)))))))))))))))))))))))))
def r_laws_FnExactSpreadDelay : List Res := [.tmp 6]
theorem c_laws_FnExactSpreadDelay : compiled Tryd.prog Tryd.f5 = some (m_laws_FnExactSpreadDelay, r_laws_FnExactSpreadDelay) := by kernel_rfl
theorem hb_laws_FnExactSpreadDelay : hasBody Tryd.prog 5 = true := by kernel_rfl
def L_laws_FnExactSpreadDelay (a0 : Int) (a1_0 : Int) (a1_1 : List (Int × Int × Int × Int)) (a1_2 : List Int) (a2 : Int) : Option Bool :=
  Option.bind (L_laws_szCircuit a1_0 a1_1 a1_2 1048576) fun y4 =>
cond (decide (y4 < 0))
  (some true)
  (Option.bind (L_laws_toCircuit a1_0 a1_1 a1_2) fun y10 =>
  Option.bind (L_spec_SpreadDelay a0 y10.1 y10.2.1 y10.2.2 a2) fun y11 =>
  Option.bind (L_laws_toCircuit a1_0 a1_1 a1_2) fun y13 =>
  Option.bind (L_impl_SpreadDelay a0 y13.1 y13.2.1 y13.2.2 a2) fun y15 =>
  Option.bind (Option.bind (L_laws_eqCircuit y15.1 y15.2.1 y15.2.2.1 y11.1 y11.2.1 y11.2.2.1) fun y18 =>
    cond (!y18)
      (some true)
      (some (y15.2.2.2 != y11.2.2.2))) fun l17_m48 =>
  cond l17_m48
    (some false)
    (Option.bind (L_laws_toCircuit a1_0 a1_1 a1_2) fun y24 =>
    Option.bind (L_laws_eqCircuit y13.1 y13.2.1 y13.2.2 y24.1 y24.2.1 y24.2.2) fun y25 =>
    cond (!y25)
      (some false)
      (Option.bind (L_laws_markCircuit y13.1 y13.2.1 y13.2.2 1) fun y30 =>
      og (y30.1.length = y13.2.1.length) <|
      og (y30.2.1.length = y13.2.2.length) <|
      Option.bind (cond (decide (y30.2.2 < 0))
          (some true)
          (Option.bind (L_laws_eqCircuit y15.1 y15.2.1 y15.2.2.1 y11.1 y11.2.1 y11.2.2.1) fun y36 =>
          cond (!y36)
            (some true)
            (some (y15.2.2.2 != y11.2.2.2)))) fun l34_m69 =>
      cond l34_m69
        (some false)
        (Option.bind (L_laws_markCircuit y15.1 y15.2.1 y15.2.2.1 1) fun y42 =>
        og (y42.1.length = y15.2.1.length) <|
        og (y42.2.1.length = y15.2.2.1.length) <|
        Option.bind (L_laws_heldCircuit y15.1 y42.1 y42.2.1 1) fun y47 =>
        cond (decide (y47 < 0))
          (some false)
          (cond (y47 != y42.2.2)
            (some false)
            (Option.bind (L_laws_toCircuit a1_0 a1_1 a1_2) fun y57 =>
            Option.bind (L_impl_SpreadDelay a0 y57.1 y57.2.1 y57.2.2 a2) fun y58 =>
            Option.bind (Option.bind (L_laws_eqCircuit y58.1 y58.2.1 y58.2.2.1 y11.1 y11.2.1 y11.2.2.1) fun y61 =>
              cond (!y61)
                (some true)
                (some (y58.2.2.2 != y11.2.2.2))) fun l60_m97 =>
            cond l60_m97
              (some false)
              (Option.bind (L_laws_heldCircuit y15.1 y42.1 y42.2.1 1) fun y67 =>
              cond (decide (y67 < 0))
                (some false)
                (cond (y67 != y42.2.2)
                  (some false)
                  (some true)))))))))
def rv_laws_FnExactSpreadDelay (r : Bool) : RV := ⟨false, [(false, [.sc (.bool r)])]⟩
theorem ok_laws_FnExactSpreadDelay {a0 : Int} {a1_0 : Int} {a1_1 : List (Int × Int × Int × Int)} {a1_2 : List Int} {a2 : Int} {r : Bool} (h : L_laws_FnExactSpreadDelay a0 a1_0 a1_1 a1_2 a2 = some r) : CallOK Tryd.prog Tab 5 [(ai a0), (.agg [(ai a1_0), (.tree (.pair .int (.pair .int (.pair .int .int))) a1_1), (.tree .int a1_2)]), (ai a2)] (rv_laws_FnExactSpreadDelay r) := by
  refine call_of_ (by kernel_rfl) Tryd.func5 c_laws_FnExactSpreadDelay (n := 106) (by kernel_rfl) (by simp) (tl := [(0, (ai a0)), (1, (.agg [(ai a1_0), (.tree (.pair .int (.pair .int (.pair .int .int))) a1_1), (.tree .int a1_2)])), (2, (ai a2))]) rfl ?_
  unfold m_laws_FnExactSpreadDelay
  unfold L_laws_FnExactSpreadDelay at h
  refine seqR ?_
  refine seqR ?_
  refine awp_seqv_ ?_
  obtain ⟨y4, h4, h⟩ := ob_some h
  refine awp_region_ 8 ?_
  refine rsl (.agg [(ai a1_0), (.tree (.pair .int (.pair .int (.pair .int .int))) a1_1), (.tree .int a1_2)]) (by kernel_rfl) ?_
  refine rs0 (ai 1048576) (by kernel_rfl) ?_
  refine rcall (ai y4) [] [(.agg [(ai a1_0), (.tree (.pair .int (.pair .int (.pair .int .int))) a1_1), (.tree .int a1_2)]), (ai 1048576)] _ (caps := []) (args0 := [(.agg [(ai a1_0), (.tree (.pair .int (.pair .int (.pair .int .int))) a1_1), (.tree .int a1_2)]), (ai 1048576)]) trivial (by kernel_rfl) (ok_laws_szCircuit h4) hb_laws_szCircuit ?_
  refine rsB 1 ?_
  refine rnil (tn_ ?_)
  refine ⟨_, Weak.refl _, ?_⟩
  refine awp_seqv_ ?_
  refine seqR ?_
  rcases cond_some h with ⟨q7, h⟩ | ⟨q7, h⟩
  · have q7_ := of_decide_eq_true q7
    refine awp_condT_ q7 ?_
    refine seqR ?_
    refine awp_ret_ (tr_ ?_)
    obtain rfl := Option.some.inj h
    exact ret_ [(.bool true)] (p_one rfl (l_sc (by kernel_rfl)) p_nil)
  have q7_ := of_decide_eq_false q7
  refine awp_condF_ q7 ?_
  refine awp_skip_ (tn_ ?_)
  refine ⟨_, Weak.refl _, ?_⟩
  refine awp_seqv_ ?_
  obtain ⟨y10, h10, h⟩ := ob_some h
  obtain ⟨y11, h11, h⟩ := ob_some h
  refine awp_region_ 21 ?_
  refine rs0 (ai a0) (by kernel_rfl) ?_
  refine rsl (.agg [(ai a1_0), (.tree (.pair .int (.pair .int (.pair .int .int))) a1_1), (.tree .int a1_2)]) (by kernel_rfl) ?_
  refine rcall (.agg [(ai y10.1), (.own (oi 416 12) (.pair .int (.pair .int (.pair .int .int))) 0 y10.2.1.length), (.own (oi 417 12) .int 0 y10.2.2.length)]) [((oi 416 12), some (.arr 51 (.pair .int (.pair .int (.pair .int .int))) y10.2.1)), ((oi 417 12), some (.arr 3 .int y10.2.2))] [(.agg [(ai a1_0), (.tree (.pair .int (.pair .int (.pair .int .int))) a1_1), (.tree .int a1_2)])] _ (caps := []) (args0 := [(.agg [(ai a1_0), (.tree (.pair .int (.pair .int (.pair .int .int))) a1_1), (.tree .int a1_2)])]) trivial (by kernel_rfl) (ok_laws_toCircuit h10) hb_laws_toCircuit ?_
  refine rs0 (ai a2) (by kernel_rfl) ?_
  refine rcall (.tup [(.agg [(ai y11.1), (.own (oi 448 14) (.pair .int (.pair .int (.pair .int .int))) 0 y11.2.1.length), (.own (oi 449 14) .int 0 y11.2.2.1.length)]), (.bool y11.2.2.2)]) [((oi 448 14), some (.arr 51 (.pair .int (.pair .int (.pair .int .int))) y11.2.1)), ((oi 449 14), some (.arr 3 .int y11.2.2.1))] [(ai a0), (.agg [(ai y10.1), (.own (oi 416 12) (.pair .int (.pair .int (.pair .int .int))) 0 y10.2.1.length), (.own (oi 417 12) .int 0 y10.2.2.length)]), (ai a2)] _ (caps := []) (args0 := [(ai a0), (.agg [(ai y10.1), (.tree (.pair .int (.pair .int (.pair .int .int))) y10.2.1), (.tree .int y10.2.2)]), (ai a2)]) trivial (gm_cons (by kernel_rfl) (gm_cons (gd_agg (gm_cons (by kernel_rfl) (gm_cons (gd_own (e := 51) (by kernel_rfl) rfl) (gm_cons (gd_own (e := 3) (by kernel_rfl) rfl) gm_nil)))) (gm_cons (by kernel_rfl) gm_nil))) (ok_spec_SpreadDelay h11) hb_spec_SpreadDelay ?_
  refine rsB 6 ?_
  refine rnil (tn_ ?_)
  refine ⟨_, Weak.refl _, ?_⟩
  refine awp_seqv_ ?_
  obtain ⟨y13, h13, h⟩ := ob_some h
  refine awp_region_ 25 ?_
  refine rsl (.agg [(ai a1_0), (.tree (.pair .int (.pair .int (.pair .int .int))) a1_1), (.tree .int a1_2)]) (by kernel_rfl) ?_
  refine rcall (.agg [(ai y13.1), (.own (oi 512 22) (.pair .int (.pair .int (.pair .int .int))) 0 y13.2.1.length), (.own (oi 513 22) .int 0 y13.2.2.length)]) [((oi 512 22), some (.arr 51 (.pair .int (.pair .int (.pair .int .int))) y13.2.1)), ((oi 513 22), some (.arr 3 .int y13.2.2))] [(.agg [(ai a1_0), (.tree (.pair .int (.pair .int (.pair .int .int))) a1_1), (.tree .int a1_2)])] _ (caps := []) (args0 := [(.agg [(ai a1_0), (.tree (.pair .int (.pair .int (.pair .int .int))) a1_1), (.tree .int a1_2)])]) trivial (by kernel_rfl) (ok_laws_toCircuit h13) hb_laws_toCircuit ?_
  refine rsB 2 ?_
  refine rnil (tn_ ?_)
  refine ⟨_, Weak.refl _, ?_⟩
  refine awp_seqv_ ?_
  obtain ⟨y15, h15, h⟩ := ob_some h
  refine awp_region_ 35 ?_
  refine rs0 (ai a0) (by kernel_rfl) ?_
  refine rsl (.agg [(ai y13.1), (.own (oi 512 22) (.pair .int (.pair .int (.pair .int .int))) 0 y13.2.1.length), (.own (oi 513 22) .int 0 y13.2.2.length)]) (by kernel_rfl) ?_
  refine rs0 (ai a2) (by kernel_rfl) ?_
  refine rcall (.tup [(.agg [(ai y15.1), (.own (oi 592 28) (.pair .int (.pair .int (.pair .int .int))) 0 y15.2.1.length), (.own (oi 593 28) .int 0 y15.2.2.1.length)]), (.bool y15.2.2.2)]) [((oi 592 28), some (.arr 51 (.pair .int (.pair .int (.pair .int .int))) y15.2.1)), ((oi 593 28), some (.arr 3 .int y15.2.2.1))] [(ai a0), (.agg [(ai y13.1), (.own (oi 512 22) (.pair .int (.pair .int (.pair .int .int))) 0 y13.2.1.length), (.own (oi 513 22) .int 0 y13.2.2.length)]), (ai a2)] _ (caps := []) (args0 := [(ai a0), (.agg [(ai y13.1), (.tree (.pair .int (.pair .int (.pair .int .int))) y13.2.1), (.tree .int y13.2.2)]), (ai a2)]) trivial (gm_cons (by kernel_rfl) (gm_cons (gd_agg (gm_cons (by kernel_rfl) (gm_cons (gd_own (e := 51) (by kernel_rfl) rfl) (gm_cons (gd_own (e := 3) (by kernel_rfl) rfl) gm_nil)))) (gm_cons (by kernel_rfl) gm_nil))) (ok_impl_SpreadDelay h15) hb_impl_SpreadDelay ?_
  refine rsB 6 ?_
  refine rnil (tn_ ?_)
  refine ⟨_, Weak.refl _, ?_⟩
  refine awp_seqv_ ?_
  refine awp_seqB h (fun (l17_m48 : Bool) S_ => S_ = ⟨mkTm [(0, (ai a0)), (2, (ai a2)), (4, (.box (oi 0 1) 0)), (8, (.box (oi 1 1) 0)), (9, (.bool y11.2.2.2)), (10, (.box (oi 2 1) 0)), (11, (.box (oi 3 1) 0)), (12, (.bool y15.2.2.2)), (48, (.bool l17_m48))], mkOb (someL [((oi 0 1), .cells 25 [(ai a1_0), (.tree (.pair .int (.pair .int (.pair .int .int))) a1_1), (.tree .int a1_2)]), ((oi 1 1), .cells 31 [(ai y11.1), (.own (oi 4 1) (.pair .int (.pair .int (.pair .int .int))) 0 y11.2.1.length), (.own (oi 5 1) .int 0 y11.2.2.1.length)]), ((oi 2 1), .cells 31 [(ai y13.1), (.own (oi 6 1) (.pair .int (.pair .int (.pair .int .int))) 0 y13.2.1.length), (.own (oi 7 1) .int 0 y13.2.2.length)]), ((oi 3 1), .cells 31 [(ai y15.1), (.own (oi 8 1) (.pair .int (.pair .int (.pair .int .int))) 0 y15.2.1.length), (.own (oi 9 1) .int 0 y15.2.2.1.length)]), ((oi 4 1), .arr 51 (.pair .int (.pair .int (.pair .int .int))) y11.2.1), ((oi 5 1), .arr 3 .int y11.2.2.1), ((oi 6 1), .arr 51 (.pair .int (.pair .int (.pair .int .int))) y13.2.1), ((oi 7 1), .arr 3 .int y13.2.2), ((oi 8 1), .arr 51 (.pair .int (.pair .int (.pair .int .int))) y15.2.1), ((oi 9 1), .arr 3 .int y15.2.2.1)]), 2⟩) ?_ ?_
  · intro v_ h
    obtain ⟨y18, h18, h⟩ := ob_some h
    rcases cond_some h with ⟨q19, h⟩ | ⟨q19, h⟩
    · refine awp_region_ 44 ?_
      refine rsl (.agg [(ai y15.1), (.own (oi 592 28) (.pair .int (.pair .int (.pair .int .int))) 0 y15.2.1.length), (.own (oi 593 28) .int 0 y15.2.2.1.length)]) (by kernel_rfl) ?_
      refine rsl (.agg [(ai y11.1), (.own (oi 448 14) (.pair .int (.pair .int (.pair .int .int))) 0 y11.2.1.length), (.own (oi 449 14) .int 0 y11.2.2.1.length)]) (by kernel_rfl) ?_
      refine rcall (.bool y18) [] [(.agg [(ai y15.1), (.own (oi 592 28) (.pair .int (.pair .int (.pair .int .int))) 0 y15.2.1.length), (.own (oi 593 28) .int 0 y15.2.2.1.length)]), (.agg [(ai y11.1), (.own (oi 448 14) (.pair .int (.pair .int (.pair .int .int))) 0 y11.2.1.length), (.own (oi 449 14) .int 0 y11.2.2.1.length)])] _ (caps := []) (args0 := [(.agg [(ai y15.1), (.tree (.pair .int (.pair .int (.pair .int .int))) y15.2.1), (.tree .int y15.2.2.1)]), (.agg [(ai y11.1), (.tree (.pair .int (.pair .int (.pair .int .int))) y11.2.1), (.tree .int y11.2.2.1)])]) trivial (gm_cons (gd_agg (gm_cons (by kernel_rfl) (gm_cons (gd_own (e := 51) (by kernel_rfl) rfl) (gm_cons (gd_own (e := 3) (by kernel_rfl) rfl) gm_nil)))) (gm_cons (gd_agg (gm_cons (by kernel_rfl) (gm_cons (gd_own (e := 51) (by kernel_rfl) rfl) (gm_cons (gd_own (e := 3) (by kernel_rfl) rfl) gm_nil)))) gm_nil)) (ok_laws_eqCircuit h18) hb_laws_eqCircuit ?_
      refine rs0 (.bool (!y18)) (by kernel_rfl) ?_
      refine rs0 (.bool (!y18)) (by kernel_rfl) ?_
      refine rs0 (.tup []) (s_skip (by kernel_rfl) q19) ?_
      refine rs0 (.tup []) (s_skip (by kernel_rfl) q19) ?_
      refine rs0 (.tup []) (s_skip (by kernel_rfl) q19) ?_
      refine rs0 (.bool true) (s_pickT (by kernel_rfl) q19) ?_
      refine rnil (tn_ ?_)
      obtain rfl := Option.some.inj h
      exact ⟨_, (weak_ren [((oi 0 1), (oi 4 1)), ((oi 1 1), (oi 8 18)), ((oi 4 1), (oi 448 14)), ((oi 5 1), (oi 449 14)), ((oi 2 1), (oi 10 23)), ((oi 6 1), (oi 512 22)), ((oi 7 1), (oi 513 22)), ((oi 3 1), (oi 11 32)), ((oi 8 1), (oi 592 28)), ((oi 9 1), (oi 593 28))]), rfl⟩
    refine awp_region_ 44 ?_
    refine rsl (.agg [(ai y15.1), (.own (oi 592 28) (.pair .int (.pair .int (.pair .int .int))) 0 y15.2.1.length), (.own (oi 593 28) .int 0 y15.2.2.1.length)]) (by kernel_rfl) ?_
    refine rsl (.agg [(ai y11.1), (.own (oi 448 14) (.pair .int (.pair .int (.pair .int .int))) 0 y11.2.1.length), (.own (oi 449 14) .int 0 y11.2.2.1.length)]) (by kernel_rfl) ?_
    refine rcall (.bool y18) [] [(.agg [(ai y15.1), (.own (oi 592 28) (.pair .int (.pair .int (.pair .int .int))) 0 y15.2.1.length), (.own (oi 593 28) .int 0 y15.2.2.1.length)]), (.agg [(ai y11.1), (.own (oi 448 14) (.pair .int (.pair .int (.pair .int .int))) 0 y11.2.1.length), (.own (oi 449 14) .int 0 y11.2.2.1.length)])] _ (caps := []) (args0 := [(.agg [(ai y15.1), (.tree (.pair .int (.pair .int (.pair .int .int))) y15.2.1), (.tree .int y15.2.2.1)]), (.agg [(ai y11.1), (.tree (.pair .int (.pair .int (.pair .int .int))) y11.2.1), (.tree .int y11.2.2.1)])]) trivial (gm_cons (gd_agg (gm_cons (by kernel_rfl) (gm_cons (gd_own (e := 51) (by kernel_rfl) rfl) (gm_cons (gd_own (e := 3) (by kernel_rfl) rfl) gm_nil)))) (gm_cons (gd_agg (gm_cons (by kernel_rfl) (gm_cons (gd_own (e := 51) (by kernel_rfl) rfl) (gm_cons (gd_own (e := 3) (by kernel_rfl) rfl) gm_nil)))) gm_nil)) (ok_laws_eqCircuit h18) hb_laws_eqCircuit ?_
    refine rs0 (.bool (!y18)) (by kernel_rfl) ?_
    refine rs0 (.bool (!y18)) (by kernel_rfl) ?_
    refine rs0 (.bool y15.2.2.2) (s_gd (by kernel_rfl) q19 (by kernel_rfl)) ?_
    refine rs0 (.bool y11.2.2.2) (s_gd (by kernel_rfl) q19 (by kernel_rfl)) ?_
    refine rs0 (.bool (y15.2.2.2 != y11.2.2.2)) (s_gd (by kernel_rfl) q19 (by kernel_rfl)) ?_
    refine rs0 (.bool (y15.2.2.2 != y11.2.2.2)) (s_pickF (by kernel_rfl) q19) ?_
    refine rnil (tn_ ?_)
    obtain rfl := Option.some.inj h
    exact ⟨_, (weak_ren [((oi 0 1), (oi 4 1)), ((oi 1 1), (oi 8 18)), ((oi 4 1), (oi 448 14)), ((oi 5 1), (oi 449 14)), ((oi 2 1), (oi 10 23)), ((oi 6 1), (oi 512 22)), ((oi 7 1), (oi 513 22)), ((oi 3 1), (oi 11 32)), ((oi 8 1), (oi 592 28)), ((oi 9 1), (oi 593 28))]), rfl⟩
  rintro l17_m48 _ rfl h
  (try dsimp only at h)
  rcases cond_some h with ⟨q20, h⟩ | ⟨q20, h⟩
  · refine awp_condT_ q20 ?_
    refine seqR ?_
    refine awp_ret_ (tr_ ?_)
    obtain rfl := Option.some.inj h
    exact ret_ [(.bool false)] (p_one rfl (l_sc (by kernel_rfl)) p_nil)
  refine awp_condF_ q20 ?_
  refine awp_skip_ (tn_ ?_)
  refine ⟨_, Weak.refl _, ?_⟩
  refine awp_seqv_ ?_
  refine awp_seqv_ ?_
  obtain ⟨y24, h24, h⟩ := ob_some h
  obtain ⟨y25, h25, h⟩ := ob_some h
  refine awp_regionD_ 7 ?_
  refine dsl (.agg [(ai y13.1), (.own (oi 6 1) (.pair .int (.pair .int (.pair .int .int))) 0 y13.2.1.length), (.own (oi 7 1) .int 0 y13.2.2.length)]) (by kernel_rfl) ?_
  refine dsl (.agg [(ai a1_0), (.tree (.pair .int (.pair .int (.pair .int .int))) a1_1), (.tree .int a1_2)]) (by kernel_rfl) ?_
  refine dcall (.agg [(ai y24.1), (.own (oi 816 4) (.pair .int (.pair .int (.pair .int .int))) 0 y24.2.1.length), (.own (oi 817 4) .int 0 y24.2.2.length)]) [((oi 816 4), some (.arr 51 (.pair .int (.pair .int (.pair .int .int))) y24.2.1)), ((oi 817 4), some (.arr 3 .int y24.2.2))] [(.agg [(ai a1_0), (.tree (.pair .int (.pair .int (.pair .int .int))) a1_1), (.tree .int a1_2)])] _ (caps := []) (args0 := [(.agg [(ai a1_0), (.tree (.pair .int (.pair .int (.pair .int .int))) a1_1), (.tree .int a1_2)])]) trivial (by kernel_rfl) (ok_laws_toCircuit h24) hb_laws_toCircuit ?_
  refine dcall (.bool y25) [] [(.agg [(ai y13.1), (.own (oi 6 1) (.pair .int (.pair .int (.pair .int .int))) 0 y13.2.1.length), (.own (oi 7 1) .int 0 y13.2.2.length)]), (.agg [(ai y24.1), (.own (oi 816 4) (.pair .int (.pair .int (.pair .int .int))) 0 y24.2.1.length), (.own (oi 817 4) .int 0 y24.2.2.length)])] _ (caps := []) (args0 := [(.agg [(ai y13.1), (.tree (.pair .int (.pair .int (.pair .int .int))) y13.2.1), (.tree .int y13.2.2)]), (.agg [(ai y24.1), (.tree (.pair .int (.pair .int (.pair .int .int))) y24.2.1), (.tree .int y24.2.2)])]) trivial (gm_cons (gd_agg (gm_cons (by kernel_rfl) (gm_cons (gd_own (e := 51) (by kernel_rfl) rfl) (gm_cons (gd_own (e := 3) (by kernel_rfl) rfl) gm_nil)))) (gm_cons (gd_agg (gm_cons (by kernel_rfl) (gm_cons (gd_own (e := 51) (by kernel_rfl) rfl) (gm_cons (gd_own (e := 3) (by kernel_rfl) rfl) gm_nil)))) gm_nil)) (ok_laws_eqCircuit h25) hb_laws_eqCircuit ?_
  refine ds0 (.bool (!y25)) (by kernel_rfl) ?_
  refine dnil (badB_spec (by kernel_rfl)) (tn_ ?_)
  refine ⟨_, Weak.refl _, ?_⟩
  rcases cond_some h with ⟨q26, h⟩ | ⟨q26, h⟩
  · refine awp_condT_ q26 ?_
    refine seqR ?_
    refine awp_ret_ (tr_ ?_)
    obtain rfl := Option.some.inj h
    exact ret_ [(.bool false)] (p_one rfl (l_sc (by kernel_rfl)) p_nil)
  refine awp_condF_ q26 ?_
  refine awp_skip_ (tn_ ?_)
  refine ⟨_, Weak.refl _, ?_⟩
  refine seqR ?_
  refine awp_seqv_ ?_
  obtain ⟨y30, h30, h⟩ := ob_some h
  obtain ⟨g31, h⟩ := og_some h
  obtain ⟨g32, h⟩ := og_some h
  refine awp_region_ 12 ?_
  refine rsl (.agg [(ai y13.1), (.own (oi 6 1) (.pair .int (.pair .int (.pair .int .int))) 0 y13.2.1.length), (.own (oi 7 1) .int 0 y13.2.2.length)]) (by kernel_rfl) ?_
  refine rs0 (ai 1) (by kernel_rfl) ?_
  refine rcallM (ai y30.2.2) [((oi 6 1), some (.arr 51 (.pair .int (.pair .int (.pair .int .int))) y30.1)), ((oi 7 1), some (.arr 3 .int y30.2.1)), ((oi 6 1), none), ((oi 7 1), none)] [((oi 0 0), (oi 6 1)), ((oi 1 0), (oi 7 1))] [(.agg [(ai y13.1), (.own (oi 6 1) (.pair .int (.pair .int (.pair .int .int))) 0 y13.2.1.length), (.own (oi 7 1) .int 0 y13.2.2.length)]), (ai 1)] (caps := []) trivial (ok_laws_markCircuit h30 rfl rfl) hb_laws_markCircuit ⟨(by kernel_rfl), ⟨(by kernel_rfl), trivial⟩⟩ (.cons (.agg (.cons (.ren (by kernel_rfl)) (.cons (.ren (by kernel_rfl)) (.cons (.ren (by kernel_rfl)) .nil)))) (.cons (.ren (by kernel_rfl)) .nil)) (reachL_mem (by kernel_rfl) (by kernel_rfl) ⟨(re_arg (by kernel_rfl)), ⟨(re_arg (by kernel_rfl)), trivial⟩⟩) ?_
  refine rsB 1 ?_
  refine rnil (tn_ ?_)
  refine ⟨_, Weak.refl _, ?_⟩
  refine awp_seqv_ ?_
  refine awp_seqB h (fun (l34_m69 : Bool) S_ => S_ = ⟨mkTm [(0, (ai a0)), (2, (ai a2)), (4, (.box (oi 0 1) 0)), (8, (.box (oi 1 1) 0)), (9, (.bool y11.2.2.2)), (11, (.box (oi 2 1) 0)), (69, (.bool l34_m69))], mkOb (someL [((oi 0 1), .cells 25 [(ai a1_0), (.tree (.pair .int (.pair .int (.pair .int .int))) a1_1), (.tree .int a1_2)]), ((oi 1 1), .cells 31 [(ai y11.1), (.own (oi 3 1) (.pair .int (.pair .int (.pair .int .int))) 0 y11.2.1.length), (.own (oi 4 1) .int 0 y11.2.2.1.length)]), ((oi 2 1), .cells 31 [(ai y15.1), (.own (oi 5 1) (.pair .int (.pair .int (.pair .int .int))) 0 y15.2.1.length), (.own (oi 6 1) .int 0 y15.2.2.1.length)]), ((oi 3 1), .arr 51 (.pair .int (.pair .int (.pair .int .int))) y11.2.1), ((oi 4 1), .arr 3 .int y11.2.2.1), ((oi 5 1), .arr 51 (.pair .int (.pair .int (.pair .int .int))) y15.2.1), ((oi 6 1), .arr 3 .int y15.2.2.1)]), 2⟩) ?_ ?_
  · intro v_ h
    rcases cond_some h with ⟨q35, h⟩ | ⟨q35, h⟩
    · have q35_ := of_decide_eq_true q35
      refine awp_region_ 25 ?_
      refine rs0 (ai y30.2.2) (by kernel_rfl) ?_
      refine rs0 (.bool (decide (y30.2.2 < 0))) (by kernel_rfl) ?_
      refine rs0 (.bool (decide (y30.2.2 < 0))) (by kernel_rfl) ?_
      refine rs0 (.tup []) (s_skip (by kernel_rfl) q35) ?_
      refine rs0 (.tup []) (s_skip (by kernel_rfl) q35) ?_
      refine rs0 (.tup []) (s_skip (by kernel_rfl) q35) ?_
      refine rs0 (.tup []) (s_skip (by kernel_rfl) q35) ?_
      refine rs0 (.bool true) (s_pickT (by kernel_rfl) q35) ?_
      refine rsB 5 ?_
      refine rnil (tn_ ?_)
      obtain rfl := Option.some.inj h
      exact ⟨_, (weak_ren [((oi 3 1), (oi 4 1)), ((oi 4 1), (oi 5 1)), ((oi 2 1), (oi 3 1)), ((oi 5 1), (oi 8 1)), ((oi 6 1), (oi 9 1))]), rfl⟩
    have q35_ := of_decide_eq_false q35
    obtain ⟨y36, h36, h⟩ := ob_some h
    rcases cond_some h with ⟨q37, h⟩ | ⟨q37, h⟩
    · refine awp_region_ 25 ?_
      refine rs0 (ai y30.2.2) (by kernel_rfl) ?_
      refine rs0 (.bool (decide (y30.2.2 < 0))) (by kernel_rfl) ?_
      refine rs0 (.bool (decide (y30.2.2 < 0))) (by kernel_rfl) ?_
      refine rsl (.agg [(ai y15.1), (.own (oi 8 1) (.pair .int (.pair .int (.pair .int .int))) 0 y15.2.1.length), (.own (oi 9 1) .int 0 y15.2.2.1.length)]) (s_gd (by kernel_rfl) q35 (by kernel_rfl)) ?_
      refine rsl (.agg [(ai y11.1), (.own (oi 4 1) (.pair .int (.pair .int (.pair .int .int))) 0 y11.2.1.length), (.own (oi 5 1) .int 0 y11.2.2.1.length)]) (s_gd (by kernel_rfl) q35 (by kernel_rfl)) ?_
      refine rcall (.bool y36) [] [(.agg [(ai y15.1), (.own (oi 8 1) (.pair .int (.pair .int (.pair .int .int))) 0 y15.2.1.length), (.own (oi 9 1) .int 0 y15.2.2.1.length)]), (.agg [(ai y11.1), (.own (oi 4 1) (.pair .int (.pair .int (.pair .int .int))) 0 y11.2.1.length), (.own (oi 5 1) .int 0 y11.2.2.1.length)])] _ (caps := []) (args0 := [(.agg [(ai y15.1), (.tree (.pair .int (.pair .int (.pair .int .int))) y15.2.1), (.tree .int y15.2.2.1)]), (.agg [(ai y11.1), (.tree (.pair .int (.pair .int (.pair .int .int))) y11.2.1), (.tree .int y11.2.2.1)])]) (gdOK_b (by kernel_rfl) q35) (gm_cons (gd_agg (gm_cons (by kernel_rfl) (gm_cons (gd_own (e := 51) (by kernel_rfl) rfl) (gm_cons (gd_own (e := 3) (by kernel_rfl) rfl) gm_nil)))) (gm_cons (gd_agg (gm_cons (by kernel_rfl) (gm_cons (gd_own (e := 51) (by kernel_rfl) rfl) (gm_cons (gd_own (e := 3) (by kernel_rfl) rfl) gm_nil)))) gm_nil)) (ok_laws_eqCircuit h36) hb_laws_eqCircuit ?_
      refine rs0 (.bool (!y36)) (s_gd (by kernel_rfl) q35 (by kernel_rfl)) ?_
      refine rs0 (.bool (!y36)) (s_pickF (by kernel_rfl) q35) ?_
      refine rs0 (.bool (!y36)) (by kernel_rfl) ?_
      refine rs0 (.tup []) (s_skip (by kernel_rfl) q37) ?_
      refine rs0 (.tup []) (s_skip (by kernel_rfl) q37) ?_
      refine rs0 (.tup []) (s_skip (by kernel_rfl) q37) ?_
      refine rs0 (.bool true) (s_pickT (by kernel_rfl) q37) ?_
      refine rnil (tn_ ?_)
      obtain rfl := Option.some.inj h
      exact ⟨_, (weak_ren [((oi 3 1), (oi 4 1)), ((oi 4 1), (oi 5 1)), ((oi 2 1), (oi 3 1)), ((oi 5 1), (oi 8 1)), ((oi 6 1), (oi 9 1))]), rfl⟩
    refine awp_region_ 25 ?_
    refine rs0 (ai y30.2.2) (by kernel_rfl) ?_
    refine rs0 (.bool (decide (y30.2.2 < 0))) (by kernel_rfl) ?_
    refine rs0 (.bool (decide (y30.2.2 < 0))) (by kernel_rfl) ?_
    refine rsl (.agg [(ai y15.1), (.own (oi 8 1) (.pair .int (.pair .int (.pair .int .int))) 0 y15.2.1.length), (.own (oi 9 1) .int 0 y15.2.2.1.length)]) (s_gd (by kernel_rfl) q35 (by kernel_rfl)) ?_
    refine rsl (.agg [(ai y11.1), (.own (oi 4 1) (.pair .int (.pair .int (.pair .int .int))) 0 y11.2.1.length), (.own (oi 5 1) .int 0 y11.2.2.1.length)]) (s_gd (by kernel_rfl) q35 (by kernel_rfl)) ?_
    refine rcall (.bool y36) [] [(.agg [(ai y15.1), (.own (oi 8 1) (.pair .int (.pair .int (.pair .int .int))) 0 y15.2.1.length), (.own (oi 9 1) .int 0 y15.2.2.1.length)]), (.agg [(ai y11.1), (.own (oi 4 1) (.pair .int (.pair .int (.pair .int .int))) 0 y11.2.1.length), (.own (oi 5 1) .int 0 y11.2.2.1.length)])] _ (caps := []) (args0 := [(.agg [(ai y15.1), (.tree (.pair .int (.pair .int (.pair .int .int))) y15.2.1), (.tree .int y15.2.2.1)]), (.agg [(ai y11.1), (.tree (.pair .int (.pair .int (.pair .int .int))) y11.2.1), (.tree .int y11.2.2.1)])]) (gdOK_b (by kernel_rfl) q35) (gm_cons (gd_agg (gm_cons (by kernel_rfl) (gm_cons (gd_own (e := 51) (by kernel_rfl) rfl) (gm_cons (gd_own (e := 3) (by kernel_rfl) rfl) gm_nil)))) (gm_cons (gd_agg (gm_cons (by kernel_rfl) (gm_cons (gd_own (e := 51) (by kernel_rfl) rfl) (gm_cons (gd_own (e := 3) (by kernel_rfl) rfl) gm_nil)))) gm_nil)) (ok_laws_eqCircuit h36) hb_laws_eqCircuit ?_
    refine rs0 (.bool (!y36)) (s_gd (by kernel_rfl) q35 (by kernel_rfl)) ?_
    refine rs0 (.bool (!y36)) (s_pickF (by kernel_rfl) q35) ?_
    refine rs0 (.bool (!y36)) (by kernel_rfl) ?_
    refine rs0 (.bool y15.2.2.2) (s_gd (by kernel_rfl) q37 (by kernel_rfl)) ?_
    refine rs0 (.bool y11.2.2.2) (s_gd (by kernel_rfl) q37 (by kernel_rfl)) ?_
    refine rs0 (.bool (y15.2.2.2 != y11.2.2.2)) (s_gd (by kernel_rfl) q37 (by kernel_rfl)) ?_
    refine rs0 (.bool (y15.2.2.2 != y11.2.2.2)) (s_pickF (by kernel_rfl) q37) ?_
    refine rnil (tn_ ?_)
    obtain rfl := Option.some.inj h
    exact ⟨_, (weak_ren [((oi 3 1), (oi 4 1)), ((oi 4 1), (oi 5 1)), ((oi 2 1), (oi 3 1)), ((oi 5 1), (oi 8 1)), ((oi 6 1), (oi 9 1))]), rfl⟩
  rintro l34_m69 _ rfl h
  (try dsimp only at h)
  rcases cond_some h with ⟨q38, h⟩ | ⟨q38, h⟩
  · refine awp_condT_ q38 ?_
    refine seqR ?_
    refine awp_ret_ (tr_ ?_)
    obtain rfl := Option.some.inj h
    exact ret_ [(.bool false)] (p_one rfl (l_sc (by kernel_rfl)) p_nil)
  refine awp_condF_ q38 ?_
  refine awp_skip_ (tn_ ?_)
  refine ⟨_, Weak.refl _, ?_⟩
  refine seqR ?_
  refine awp_seqv_ ?_
  obtain ⟨y42, h42, h⟩ := ob_some h
  obtain ⟨g43, h⟩ := og_some h
  obtain ⟨g44, h⟩ := og_some h
  refine awp_region_ 7 ?_
  refine rsl (.agg [(ai y15.1), (.own (oi 5 1) (.pair .int (.pair .int (.pair .int .int))) 0 y15.2.1.length), (.own (oi 6 1) .int 0 y15.2.2.1.length)]) (by kernel_rfl) ?_
  refine rs0 (ai 1) (by kernel_rfl) ?_
  refine rcallM (ai y42.2.2) [((oi 5 1), some (.arr 51 (.pair .int (.pair .int (.pair .int .int))) y42.1)), ((oi 6 1), some (.arr 3 .int y42.2.1)), ((oi 5 1), none), ((oi 6 1), none)] [((oi 0 0), (oi 5 1)), ((oi 1 0), (oi 6 1))] [(.agg [(ai y15.1), (.own (oi 5 1) (.pair .int (.pair .int (.pair .int .int))) 0 y15.2.1.length), (.own (oi 6 1) .int 0 y15.2.2.1.length)]), (ai 1)] (caps := []) trivial (ok_laws_markCircuit h42 rfl rfl) hb_laws_markCircuit ⟨(by kernel_rfl), ⟨(by kernel_rfl), trivial⟩⟩ (.cons (.agg (.cons (.ren (by kernel_rfl)) (.cons (.ren (by kernel_rfl)) (.cons (.ren (by kernel_rfl)) .nil)))) (.cons (.ren (by kernel_rfl)) .nil)) (reachL_mem (by kernel_rfl) (by kernel_rfl) ⟨(re_arg (by kernel_rfl)), ⟨(re_arg (by kernel_rfl)), trivial⟩⟩) ?_
  refine rsB 1 ?_
  refine rnil (tn_ ?_)
  refine ⟨_, Weak.refl _, ?_⟩
  refine seqR ?_
  refine awp_seqv_ ?_
  obtain ⟨y47, h47, h⟩ := ob_some h
  refine awp_region_ 12 ?_
  refine rsl (.agg [(ai y15.1), (.own (oi 5 1) (.pair .int (.pair .int (.pair .int .int))) 0 y15.2.1.length), (.own (oi 6 1) .int 0 y15.2.2.1.length)]) (by kernel_rfl) ?_
  refine rs0 (ai 1) (by kernel_rfl) ?_
  refine rcall (ai y47) [] [(.agg [(ai y15.1), (.own (oi 5 1) (.pair .int (.pair .int (.pair .int .int))) 0 y15.2.1.length), (.own (oi 6 1) .int 0 y15.2.2.1.length)]), (ai 1)] _ (caps := []) (args0 := [(.agg [(ai y15.1), (.tree (.pair .int (.pair .int (.pair .int .int))) y42.1), (.tree .int y42.2.1)]), (ai 1)]) trivial (gm_cons (gd_agg (gm_cons (by kernel_rfl) (gm_cons (gd_own (e := 51) (by kernel_rfl) g43.symm) (gm_cons (gd_own (e := 3) (by kernel_rfl) g44.symm) gm_nil)))) (gm_cons (by kernel_rfl) gm_nil)) (ok_laws_heldCircuit h47) hb_laws_heldCircuit ?_
  refine rsB 1 ?_
  refine rnil (tn_ ?_)
  refine ⟨_, Weak.refl _, ?_⟩
  refine awp_seqv_ ?_
  refine seqR ?_
  rcases cond_some h with ⟨q50, h⟩ | ⟨q50, h⟩
  · have q50_ := of_decide_eq_true q50
    refine awp_condT_ q50 ?_
    refine seqR ?_
    refine awp_ret_ (tr_ ?_)
    obtain rfl := Option.some.inj h
    exact ret_ [(.bool false)] (p_one rfl (l_sc (by kernel_rfl)) p_nil)
  have q50_ := of_decide_eq_false q50
  refine awp_condF_ q50 ?_
  refine awp_skip_ (tn_ ?_)
  refine ⟨_, Weak.refl _, ?_⟩
  refine awp_seqv_ ?_
  refine seqR ?_
  rcases cond_some h with ⟨q54, h⟩ | ⟨q54, h⟩
  · refine awp_condT_ q54 ?_
    refine seqR ?_
    refine awp_ret_ (tr_ ?_)
    obtain rfl := Option.some.inj h
    exact ret_ [(.bool false)] (p_one rfl (l_sc (by kernel_rfl)) p_nil)
  refine awp_condF_ q54 ?_
  refine awp_skip_ (tn_ ?_)
  refine ⟨_, Weak.refl _, ?_⟩
  refine awp_seqv_ ?_
  obtain ⟨y57, h57, h⟩ := ob_some h
  obtain ⟨y58, h58, h⟩ := ob_some h
  refine awp_region_ 28 ?_
  refine rs0 (ai a0) (by kernel_rfl) ?_
  refine rsl (.agg [(ai a1_0), (.tree (.pair .int (.pair .int (.pair .int .int))) a1_1), (.tree .int a1_2)]) (by kernel_rfl) ?_
  refine rcall (.agg [(ai y57.1), (.own (oi 1344 19) (.pair .int (.pair .int (.pair .int .int))) 0 y57.2.1.length), (.own (oi 1345 19) .int 0 y57.2.2.length)]) [((oi 1344 19), some (.arr 51 (.pair .int (.pair .int (.pair .int .int))) y57.2.1)), ((oi 1345 19), some (.arr 3 .int y57.2.2))] [(.agg [(ai a1_0), (.tree (.pair .int (.pair .int (.pair .int .int))) a1_1), (.tree .int a1_2)])] _ (caps := []) (args0 := [(.agg [(ai a1_0), (.tree (.pair .int (.pair .int (.pair .int .int))) a1_1), (.tree .int a1_2)])]) trivial (by kernel_rfl) (ok_laws_toCircuit h57) hb_laws_toCircuit ?_
  refine rs0 (ai a2) (by kernel_rfl) ?_
  refine rcall (.tup [(.agg [(ai y58.1), (.own (oi 1376 21) (.pair .int (.pair .int (.pair .int .int))) 0 y58.2.1.length), (.own (oi 1377 21) .int 0 y58.2.2.1.length)]), (.bool y58.2.2.2)]) [((oi 1376 21), some (.arr 51 (.pair .int (.pair .int (.pair .int .int))) y58.2.1)), ((oi 1377 21), some (.arr 3 .int y58.2.2.1))] [(ai a0), (.agg [(ai y57.1), (.own (oi 1344 19) (.pair .int (.pair .int (.pair .int .int))) 0 y57.2.1.length), (.own (oi 1345 19) .int 0 y57.2.2.length)]), (ai a2)] _ (caps := []) (args0 := [(ai a0), (.agg [(ai y57.1), (.tree (.pair .int (.pair .int (.pair .int .int))) y57.2.1), (.tree .int y57.2.2)]), (ai a2)]) trivial (gm_cons (by kernel_rfl) (gm_cons (gd_agg (gm_cons (by kernel_rfl) (gm_cons (gd_own (e := 51) (by kernel_rfl) rfl) (gm_cons (gd_own (e := 3) (by kernel_rfl) rfl) gm_nil)))) (gm_cons (by kernel_rfl) gm_nil))) (ok_impl_SpreadDelay h58) hb_impl_SpreadDelay ?_
  refine rsB 6 ?_
  refine rnil (tn_ ?_)
  refine ⟨_, Weak.refl _, ?_⟩
  refine awp_seqv_ ?_
  refine awp_seqB h (fun (l60_m97 : Bool) S_ => S_ = ⟨mkTm [(11, (.box (oi 0 1) 0)), (14, (ai y42.2.2)), (97, (.bool l60_m97))], mkOb (someL [((oi 0 1), .cells 31 [(ai y15.1), (.own (oi 1 1) (.pair .int (.pair .int (.pair .int .int))) 0 y42.1.length), (.own (oi 2 1) .int 0 y42.2.1.length)]), ((oi 1 1), .arr 51 (.pair .int (.pair .int (.pair .int .int))) y42.1), ((oi 2 1), .arr 3 .int y42.2.1)]), 2⟩) ?_ ?_
  · intro v_ h
    obtain ⟨y61, h61, h⟩ := ob_some h
    rcases cond_some h with ⟨q62, h⟩ | ⟨q62, h⟩
    · refine awp_region_ 37 ?_
      refine rsl (.agg [(ai y58.1), (.own (oi 1376 21) (.pair .int (.pair .int (.pair .int .int))) 0 y58.2.1.length), (.own (oi 1377 21) .int 0 y58.2.2.1.length)]) (by kernel_rfl) ?_
      refine rsl (.agg [(ai y11.1), (.own (oi 3 1) (.pair .int (.pair .int (.pair .int .int))) 0 y11.2.1.length), (.own (oi 4 1) .int 0 y11.2.2.1.length)]) (by kernel_rfl) ?_
      refine rcall (.bool y61) [] [(.agg [(ai y58.1), (.own (oi 1376 21) (.pair .int (.pair .int (.pair .int .int))) 0 y58.2.1.length), (.own (oi 1377 21) .int 0 y58.2.2.1.length)]), (.agg [(ai y11.1), (.own (oi 3 1) (.pair .int (.pair .int (.pair .int .int))) 0 y11.2.1.length), (.own (oi 4 1) .int 0 y11.2.2.1.length)])] _ (caps := []) (args0 := [(.agg [(ai y58.1), (.tree (.pair .int (.pair .int (.pair .int .int))) y58.2.1), (.tree .int y58.2.2.1)]), (.agg [(ai y11.1), (.tree (.pair .int (.pair .int (.pair .int .int))) y11.2.1), (.tree .int y11.2.2.1)])]) trivial (gm_cons (gd_agg (gm_cons (by kernel_rfl) (gm_cons (gd_own (e := 51) (by kernel_rfl) rfl) (gm_cons (gd_own (e := 3) (by kernel_rfl) rfl) gm_nil)))) (gm_cons (gd_agg (gm_cons (by kernel_rfl) (gm_cons (gd_own (e := 51) (by kernel_rfl) rfl) (gm_cons (gd_own (e := 3) (by kernel_rfl) rfl) gm_nil)))) gm_nil)) (ok_laws_eqCircuit h61) hb_laws_eqCircuit ?_
      refine rs0 (.bool (!y61)) (by kernel_rfl) ?_
      refine rs0 (.bool (!y61)) (by kernel_rfl) ?_
      refine rs0 (.tup []) (s_skip (by kernel_rfl) q62) ?_
      refine rs0 (.tup []) (s_skip (by kernel_rfl) q62) ?_
      refine rs0 (.tup []) (s_skip (by kernel_rfl) q62) ?_
      refine rs0 (.bool true) (s_pickT (by kernel_rfl) q62) ?_
      refine rnil (tn_ ?_)
      obtain rfl := Option.some.inj h
      exact ⟨_, ((weak_ob_ (oi 2 1) (.cells 31 [(ai y15.1), (.own (oi 5 1) (.pair .int (.pair .int (.pair .int .int))) 0 y15.2.1.length), (.own (oi 6 1) .int 0 y15.2.2.1.length)]) (.cells 31 [(ai y15.1), (.own (oi 5 1) (.pair .int (.pair .int (.pair .int .int))) 0 y42.1.length), (.own (oi 6 1) .int 0 y15.2.2.1.length)]) (by kernel_rfl) (congrArg (fun z_ => (.cells 31 [(ai y15.1), (.own (oi 5 1) (.pair .int (.pair .int (.pair .int .int))) 0 z_), (.own (oi 6 1) .int 0 y15.2.2.1.length)] : Ob)) (g43.symm : y15.2.1.length = y42.1.length))).trans ((weak_ob_ (oi 2 1) (.cells 31 [(ai y15.1), (.own (oi 5 1) (.pair .int (.pair .int (.pair .int .int))) 0 y42.1.length), (.own (oi 6 1) .int 0 y15.2.2.1.length)]) (.cells 31 [(ai y15.1), (.own (oi 5 1) (.pair .int (.pair .int (.pair .int .int))) 0 y42.1.length), (.own (oi 6 1) .int 0 y42.2.1.length)]) (by kernel_rfl) (congrArg (fun z_ => (.cells 31 [(ai y15.1), (.own (oi 5 1) (.pair .int (.pair .int (.pair .int .int))) 0 y42.1.length), (.own (oi 6 1) .int 0 z_)] : Ob)) (g44.symm : y15.2.2.1.length = y42.2.1.length))).trans (weak_ren [((oi 0 1), (oi 2 1)), ((oi 1 1), (oi 5 1)), ((oi 2 1), (oi 6 1))]))), rfl⟩
    refine awp_region_ 37 ?_
    refine rsl (.agg [(ai y58.1), (.own (oi 1376 21) (.pair .int (.pair .int (.pair .int .int))) 0 y58.2.1.length), (.own (oi 1377 21) .int 0 y58.2.2.1.length)]) (by kernel_rfl) ?_
    refine rsl (.agg [(ai y11.1), (.own (oi 3 1) (.pair .int (.pair .int (.pair .int .int))) 0 y11.2.1.length), (.own (oi 4 1) .int 0 y11.2.2.1.length)]) (by kernel_rfl) ?_
    refine rcall (.bool y61) [] [(.agg [(ai y58.1), (.own (oi 1376 21) (.pair .int (.pair .int (.pair .int .int))) 0 y58.2.1.length), (.own (oi 1377 21) .int 0 y58.2.2.1.length)]), (.agg [(ai y11.1), (.own (oi 3 1) (.pair .int (.pair .int (.pair .int .int))) 0 y11.2.1.length), (.own (oi 4 1) .int 0 y11.2.2.1.length)])] _ (caps := []) (args0 := [(.agg [(ai y58.1), (.tree (.pair .int (.pair .int (.pair .int .int))) y58.2.1), (.tree .int y58.2.2.1)]), (.agg [(ai y11.1), (.tree (.pair .int (.pair .int (.pair .int .int))) y11.2.1), (.tree .int y11.2.2.1)])]) trivial (gm_cons (gd_agg (gm_cons (by kernel_rfl) (gm_cons (gd_own (e := 51) (by kernel_rfl) rfl) (gm_cons (gd_own (e := 3) (by kernel_rfl) rfl) gm_nil)))) (gm_cons (gd_agg (gm_cons (by kernel_rfl) (gm_cons (gd_own (e := 51) (by kernel_rfl) rfl) (gm_cons (gd_own (e := 3) (by kernel_rfl) rfl) gm_nil)))) gm_nil)) (ok_laws_eqCircuit h61) hb_laws_eqCircuit ?_
    refine rs0 (.bool (!y61)) (by kernel_rfl) ?_
    refine rs0 (.bool (!y61)) (by kernel_rfl) ?_
    refine rs0 (.bool y58.2.2.2) (s_gd (by kernel_rfl) q62 (by kernel_rfl)) ?_
    refine rs0 (.bool y11.2.2.2) (s_gd (by kernel_rfl) q62 (by kernel_rfl)) ?_
    refine rs0 (.bool (y58.2.2.2 != y11.2.2.2)) (s_gd (by kernel_rfl) q62 (by kernel_rfl)) ?_
    refine rs0 (.bool (y58.2.2.2 != y11.2.2.2)) (s_pickF (by kernel_rfl) q62) ?_
    refine rnil (tn_ ?_)
    obtain rfl := Option.some.inj h
    exact ⟨_, ((weak_ob_ (oi 2 1) (.cells 31 [(ai y15.1), (.own (oi 5 1) (.pair .int (.pair .int (.pair .int .int))) 0 y15.2.1.length), (.own (oi 6 1) .int 0 y15.2.2.1.length)]) (.cells 31 [(ai y15.1), (.own (oi 5 1) (.pair .int (.pair .int (.pair .int .int))) 0 y42.1.length), (.own (oi 6 1) .int 0 y15.2.2.1.length)]) (by kernel_rfl) (congrArg (fun z_ => (.cells 31 [(ai y15.1), (.own (oi 5 1) (.pair .int (.pair .int (.pair .int .int))) 0 z_), (.own (oi 6 1) .int 0 y15.2.2.1.length)] : Ob)) (g43.symm : y15.2.1.length = y42.1.length))).trans ((weak_ob_ (oi 2 1) (.cells 31 [(ai y15.1), (.own (oi 5 1) (.pair .int (.pair .int (.pair .int .int))) 0 y42.1.length), (.own (oi 6 1) .int 0 y15.2.2.1.length)]) (.cells 31 [(ai y15.1), (.own (oi 5 1) (.pair .int (.pair .int (.pair .int .int))) 0 y42.1.length), (.own (oi 6 1) .int 0 y42.2.1.length)]) (by kernel_rfl) (congrArg (fun z_ => (.cells 31 [(ai y15.1), (.own (oi 5 1) (.pair .int (.pair .int (.pair .int .int))) 0 y42.1.length), (.own (oi 6 1) .int 0 z_)] : Ob)) (g44.symm : y15.2.2.1.length = y42.2.1.length))).trans (weak_ren [((oi 0 1), (oi 2 1)), ((oi 1 1), (oi 5 1)), ((oi 2 1), (oi 6 1))]))), rfl⟩
  rintro l60_m97 _ rfl h
  (try dsimp only at h)
  rcases cond_some h with ⟨q63, h⟩ | ⟨q63, h⟩
  · refine awp_condT_ q63 ?_
    refine seqR ?_
    refine awp_ret_ (tr_ ?_)
    obtain rfl := Option.some.inj h
    exact ret_ [(.bool false)] (p_one rfl (l_sc (by kernel_rfl)) p_nil)
  refine awp_condF_ q63 ?_
  refine awp_skip_ (tn_ ?_)
  refine ⟨_, Weak.refl _, ?_⟩
  refine seqR ?_
  refine awp_seqv_ ?_
  obtain ⟨y67, h67, h⟩ := ob_some h
  refine awp_region_ 7 ?_
  refine rsl (.agg [(ai y15.1), (.own (oi 1 1) (.pair .int (.pair .int (.pair .int .int))) 0 y42.1.length), (.own (oi 2 1) .int 0 y42.2.1.length)]) (by kernel_rfl) ?_
  refine rs0 (ai 1) (by kernel_rfl) ?_
  refine rcall (ai y67) [] [(.agg [(ai y15.1), (.own (oi 1 1) (.pair .int (.pair .int (.pair .int .int))) 0 y42.1.length), (.own (oi 2 1) .int 0 y42.2.1.length)]), (ai 1)] _ (caps := []) (args0 := [(.agg [(ai y15.1), (.tree (.pair .int (.pair .int (.pair .int .int))) y42.1), (.tree .int y42.2.1)]), (ai 1)]) trivial (gm_cons (gd_agg (gm_cons (by kernel_rfl) (gm_cons (gd_own (e := 51) (by kernel_rfl) rfl) (gm_cons (gd_own (e := 3) (by kernel_rfl) rfl) gm_nil)))) (gm_cons (by kernel_rfl) gm_nil)) (ok_laws_heldCircuit h67) hb_laws_heldCircuit ?_
  refine rsB 1 ?_
  refine rnil (tn_ ?_)
  refine ⟨_, Weak.refl _, ?_⟩
  refine awp_seqv_ ?_
  refine seqR ?_
  rcases cond_some h with ⟨q70, h⟩ | ⟨q70, h⟩
  · have q70_ := of_decide_eq_true q70
    refine awp_condT_ q70 ?_
    refine seqR ?_
    refine awp_ret_ (tr_ ?_)
    obtain rfl := Option.some.inj h
    exact ret_ [(.bool false)] (p_one rfl (l_sc (by kernel_rfl)) p_nil)
  have q70_ := of_decide_eq_false q70
  refine awp_condF_ q70 ?_
  refine awp_skip_ (tn_ ?_)
  refine ⟨_, Weak.refl _, ?_⟩
  refine awp_seqv_ ?_
  refine seqR ?_
  rcases cond_some h with ⟨q74, h⟩ | ⟨q74, h⟩
  · refine awp_condT_ q74 ?_
    refine seqR ?_
    refine awp_ret_ (tr_ ?_)
    obtain rfl := Option.some.inj h
    exact ret_ [(.bool false)] (p_one rfl (l_sc (by kernel_rfl)) p_nil)
  refine awp_condF_ q74 ?_
  refine awp_skip_ (tn_ ?_)
  refine ⟨_, Weak.refl _, ?_⟩
  refine seqR ?_
  refine awp_ret_ ?_
  obtain rfl := Option.some.inj h
  exact ret_ [(.bool true)] (p_one rfl (l_sc (by kernel_rfl)) p_nil)
end Go.Proofs.YthjdknddcceigaaDoor
