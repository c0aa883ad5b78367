/- Partial functions in place of code, and that the code does what they say: IPA. No condition. -/
import Derived.Test.YtomijolkdmaimaaDoorB2
namespace Go.Proofs.YtomijolkdmaimaaDoor
open Go.RowKit Go.Deep
set_option maxRecDepth 4000
def m_spec_IsProgram : AC :=
  (.seq (.region [⟨(some 3), none, (.i (.box 29 (.tmp 1)))⟩, ⟨(some 4), none, (.i (.mov (.cst (.bool false))))⟩] false [])
  (.seq (.region [⟨(some 5), none, (.i (.mov (.tmp 0)))⟩, ⟨(some 6), none, (.i (.ld false 5 (.tmp 3)))⟩, ⟨(some 7), none, (.call (.cst (.fn 33 [])) [(.tmp 5), (.tmp 6)] [[], [none, none, none, none, (some (.pair .int (.pair .int (.pair .int (.pair .int .int)))))]])⟩, ⟨(some 4), none, (.i (.mov (.tmp 7)))⟩] false [])
  .ret))
def r_spec_IsProgram : List Res := [.tmp 4]
theorem c_spec_IsProgram : compiled Tryd.prog Tryd.f9 = some (m_spec_IsProgram, r_spec_IsProgram) := by kernel_rfl
theorem hb_spec_IsProgram : hasBody Tryd.prog 9 = true := by kernel_rfl
def L_spec_IsProgram (a0 : Int) (a1_0 : Int) (a1_1 : Int) (a1_2 : Int) (a1_3 : Int) (a1_4 : List (Int × Int × Int × Int × Int)) : Option Bool :=
  Option.bind (L_spec_cmGood a0 a1_0 a1_1 a1_2 a1_3 a1_4) fun y3 =>
some y3
def rv_spec_IsProgram (r : Bool) : RV := ⟨false, [(false, [.sc (.bool r)])]⟩
theorem ok_spec_IsProgram {a0 : Int} {a1_0 : Int} {a1_1 : Int} {a1_2 : Int} {a1_3 : Int} {a1_4 : List (Int × Int × Int × Int × Int)} {r : Bool} (h : L_spec_IsProgram a0 a1_0 a1_1 a1_2 a1_3 a1_4 = some r) : CallOK Tryd.prog Tab 9 [(.int .i64 a0), (.agg [(.int .i64 a1_0), (.int .i64 a1_1), (.int .i64 a1_2), (.int .i64 a1_3), (.tree (.pair .int (.pair .int (.pair .int (.pair .int .int)))) a1_4)])] (rv_spec_IsProgram r) := by
  refine call_of_ (by kernel_rfl) Tryd.func9 c_spec_IsProgram (n := 8) (by kernel_rfl) (by simp) (tl := [(0, (.int .i64 a0)), (1, (.agg [(.int .i64 a1_0), (.int .i64 a1_1), (.int .i64 a1_2), (.int .i64 a1_3), (.tree (.pair .int (.pair .int (.pair .int (.pair .int .int)))) a1_4)]))]) rfl ?_
  unfold m_spec_IsProgram
  unfold L_spec_IsProgram at h
  refine awp_seq_ ?_
  refine awp_region_ 3 (by kernel_rfl) ?_
  refine rs1 (.box (3, 1) 0) (3, 1) (.cells 29 [(.int .i64 a1_0), (.int .i64 a1_1), (.int .i64 a1_2), (.int .i64 a1_3), (.tree (.pair .int (.pair .int (.pair .int (.pair .int .int)))) a1_4)]) (by kernel_rfl) ?_
  refine rs0 (.bool false) (by kernel_rfl) ?_
  refine rnil (tn_ ?_)
  refine awp_seq_ ?_
  obtain ⟨y3, h3, h⟩ := ob_some h
  refine awp_region_ 7 (by kernel_rfl) ?_
  refine rs0 (.int .i64 a0) (by kernel_rfl) ?_
  refine rsl (.agg [(.int .i64 a1_0), (.int .i64 a1_1), (.int .i64 a1_2), (.int .i64 a1_3), (.tree (.pair .int (.pair .int (.pair .int (.pair .int .int)))) a1_4)]) (by kernel_rfl) ?_
  refine rcall (.bool y3) [] [(.int .i64 a0), (.agg [(.int .i64 a1_0), (.int .i64 a1_1), (.int .i64 a1_2), (.int .i64 a1_3), (.tree (.pair .int (.pair .int (.pair .int (.pair .int .int)))) a1_4)])] _ (caps := []) (args0 := [(.int .i64 a0), (.agg [(.int .i64 a1_0), (.int .i64 a1_1), (.int .i64 a1_2), (.int .i64 a1_3), (.tree (.pair .int (.pair .int (.pair .int (.pair .int .int)))) a1_4)])]) trivial (by kernel_rfl) (by kernel_rfl) (by kernel_rfl) (by kernel_rfl) (ok_spec_cmGood h3) hb_spec_cmGood (by kernel_rfl) ?_
  refine rs0 (.bool y3) (by kernel_rfl) ?_
  refine rnil (tn_ ?_)
  refine awp_ret_ ?_
  obtain rfl := Option.some.inj h
  exact ret_ [(.bool y3)] (by simp) (by kernel_rfl) (p_one rfl (l_sc (by kernel_rfl)) p_nil) (by kernel_rfl) (by kernel_rfl)
def m_impl_IsProgram : AC :=
  (.seq (.region [⟨(some 3), none, (.i (.box 29 (.tmp 1)))⟩, ⟨(some 4), none, (.i (.mov (.cst (.bool false))))⟩] false [])
  (.seq (.region [⟨(some 5), none, (.i (.mov (.tmp 0)))⟩, ⟨(some 6), none, (.i (.ld false 5 (.tmp 3)))⟩, ⟨(some 7), none, (.call (.cst (.fn 35 [])) [(.tmp 5), (.tmp 6)] [[], [none, none, none, none, (some (.pair .int (.pair .int (.pair .int (.pair .int .int)))))]])⟩, ⟨(some 4), none, (.i (.mov (.tmp 7)))⟩] false [])
  .ret))
def r_impl_IsProgram : List Res := [.tmp 4]
theorem c_impl_IsProgram : compiled Tryd.prog Tryd.f11 = some (m_impl_IsProgram, r_impl_IsProgram) := by kernel_rfl
theorem hb_impl_IsProgram : hasBody Tryd.prog 11 = true := by kernel_rfl
def L_impl_IsProgram (a0 : Int) (a1_0 : Int) (a1_1 : Int) (a1_2 : Int) (a1_3 : Int) (a1_4 : List (Int × Int × Int × Int × Int)) : Option Bool :=
  Option.bind (L_impl_isProgram a0 a1_0 a1_1 a1_2 a1_3 a1_4) fun y3 =>
some y3
def rv_impl_IsProgram (r : Bool) : RV := ⟨false, [(false, [.sc (.bool r)])]⟩
theorem ok_impl_IsProgram {a0 : Int} {a1_0 : Int} {a1_1 : Int} {a1_2 : Int} {a1_3 : Int} {a1_4 : List (Int × Int × Int × Int × Int)} {r : Bool} (h : L_impl_IsProgram a0 a1_0 a1_1 a1_2 a1_3 a1_4 = some r) : CallOK Tryd.prog Tab 11 [(.int .i64 a0), (.agg [(.int .i64 a1_0), (.int .i64 a1_1), (.int .i64 a1_2), (.int .i64 a1_3), (.tree (.pair .int (.pair .int (.pair .int (.pair .int .int)))) a1_4)])] (rv_impl_IsProgram r) := by
  refine call_of_ (by kernel_rfl) Tryd.func11 c_impl_IsProgram (n := 8) (by kernel_rfl) (by simp) (tl := [(0, (.int .i64 a0)), (1, (.agg [(.int .i64 a1_0), (.int .i64 a1_1), (.int .i64 a1_2), (.int .i64 a1_3), (.tree (.pair .int (.pair .int (.pair .int (.pair .int .int)))) a1_4)]))]) rfl ?_
  unfold m_impl_IsProgram
  unfold L_impl_IsProgram at h
  refine awp_seq_ ?_
  refine awp_region_ 3 (by kernel_rfl) ?_
  refine rs1 (.box (3, 1) 0) (3, 1) (.cells 29 [(.int .i64 a1_0), (.int .i64 a1_1), (.int .i64 a1_2), (.int .i64 a1_3), (.tree (.pair .int (.pair .int (.pair .int (.pair .int .int)))) a1_4)]) (by kernel_rfl) ?_
  refine rs0 (.bool false) (by kernel_rfl) ?_
  refine rnil (tn_ ?_)
  refine awp_seq_ ?_
  obtain ⟨y3, h3, h⟩ := ob_some h
  refine awp_region_ 7 (by kernel_rfl) ?_
  refine rs0 (.int .i64 a0) (by kernel_rfl) ?_
  refine rsl (.agg [(.int .i64 a1_0), (.int .i64 a1_1), (.int .i64 a1_2), (.int .i64 a1_3), (.tree (.pair .int (.pair .int (.pair .int (.pair .int .int)))) a1_4)]) (by kernel_rfl) ?_
  refine rcall (.bool y3) [] [(.int .i64 a0), (.agg [(.int .i64 a1_0), (.int .i64 a1_1), (.int .i64 a1_2), (.int .i64 a1_3), (.tree (.pair .int (.pair .int (.pair .int (.pair .int .int)))) a1_4)])] _ (caps := []) (args0 := [(.int .i64 a0), (.agg [(.int .i64 a1_0), (.int .i64 a1_1), (.int .i64 a1_2), (.int .i64 a1_3), (.tree (.pair .int (.pair .int (.pair .int (.pair .int .int)))) a1_4)])]) trivial (by kernel_rfl) (by kernel_rfl) (by kernel_rfl) (by kernel_rfl) (ok_impl_isProgram h3) hb_impl_isProgram (by kernel_rfl) ?_
  refine rs0 (.bool y3) (by kernel_rfl) ?_
  refine rnil (tn_ ?_)
  refine awp_ret_ ?_
  obtain rfl := Option.some.inj h
  exact ret_ [(.bool y3)] (by simp) (by kernel_rfl) (p_one rfl (l_sc (by kernel_rfl)) p_nil) (by kernel_rfl) (by kernel_rfl)
def m_laws_FnExactIsProgram : AC :=
  (.seq (.region [⟨(some 3), none, (.i (.box 24 (.tmp 1)))⟩, ⟨(some 4), none, (.i (.mov (.cst (.bool false))))⟩] false [])
  (.seq (.region [⟨(some 5), none, (.i (.mov (.cst (.int .i64 1048576))))⟩] false [])
  (.seq (.region [⟨(some 9), none, (.i (.ld false 5 (.tmp 3)))⟩, ⟨(some 10), none, (.i (.mov (.tmp 5)))⟩, ⟨(some 11), none, (.call (.cst (.fn 8 [])) [(.tmp 9), (.tmp 10)] [[none, none, none, none, (some (.pair .int (.pair .int (.pair .int (.pair .int .int)))))], []])⟩, ⟨(some 5), none, (.i (.mov (.tmp 11)))⟩] false [])
  (.seq (.seq (.region [⟨(some 12), none, (.i (.mov (.tmp 5)))⟩, ⟨(some 13), none, (.i (.bin .lss (.tmp 12) (.cst (.int .i64 0))))⟩] false [])
  (.cond (.tmp 13)
    (.seq (.region [⟨(some 4), none, (.i (.mov (.cst (.bool true))))⟩] false [])
    .ret)
    .skip))
  (.seq (.region [⟨(some 14), none, (.i (.mov (.tmp 0)))⟩, ⟨(some 15), none, (.i (.ld false 5 (.tmp 3)))⟩, ⟨(some 16), none, (.call (.cst (.fn 10 [])) [(.tmp 15)] [[none, none, none, none, (some (.pair .int (.pair .int (.pair .int (.pair .int .int)))))]])⟩, ⟨(some 17), none, (.call (.cst (.fn 9 [])) [(.tmp 14), (.tmp 16)] [[], [none, none, none, none, (some (.pair .int (.pair .int (.pair .int (.pair .int .int)))))]])⟩, ⟨(some 6), none, (.i (.mov (.tmp 17)))⟩] false [])
  (.seq (.region [⟨(some 18), none, (.i (.ld false 5 (.tmp 3)))⟩, ⟨(some 19), none, (.call (.cst (.fn 10 [])) [(.tmp 18)] [[none, none, none, none, (some (.pair .int (.pair .int (.pair .int (.pair .int .int)))))]])⟩, ⟨(some 7), none, (.i (.alloc 29 [(.int .i64 0), (.int .i64 0), (.int .i64 0), (.int .i64 0), .nils]))⟩, ⟨none, none, (.st false 5 (.tmp 7) (.tmp 19))⟩] false [])
  (.seq (.region [⟨(some 20), none, (.i (.mov (.tmp 0)))⟩, ⟨(some 21), none, (.i (.ld false 5 (.tmp 7)))⟩, ⟨(some 22), none, (.call (.cst (.fn 11 [])) [(.tmp 20), (.tmp 21)] [[], [none, none, none, none, (some (.pair .int (.pair .int (.pair .int (.pair .int .int)))))]])⟩, ⟨(some 8), none, (.i (.mov (.tmp 22)))⟩] false [])
  (.seq (.seq (.region [⟨(some 23), none, (.i (.mov (.tmp 8)))⟩, ⟨(some 24), none, (.i (.mov (.tmp 6)))⟩, ⟨(some 25), none, (.i (.cmp true 0 (.tmp 23) (.tmp 24)))⟩] false [])
  (.cond (.tmp 25)
    (.seq (.region [⟨(some 4), none, (.i (.mov (.cst (.bool false))))⟩] false [])
    .ret)
    .skip))
  (.seq (.seq (.region [⟨(some 26), none, (.i (.ld false 5 (.tmp 7)))⟩, ⟨(some 27), none, (.i (.ld false 5 (.tmp 3)))⟩, ⟨(some 28), none, (.call (.cst (.fn 10 [])) [(.tmp 27)] [[none, none, none, none, (some (.pair .int (.pair .int (.pair .int (.pair .int .int)))))]])⟩, ⟨(some 29), none, (.call (.cst (.fn 12 [])) [(.tmp 26), (.tmp 28)] [[none, none, none, none, (some (.pair .int (.pair .int (.pair .int (.pair .int .int)))))], [none, none, none, none, (some (.pair .int (.pair .int (.pair .int (.pair .int .int)))))]])⟩, ⟨(some 30), none, (.i (.not (.tmp 29)))⟩] true [(0, 2)])
  (.cond (.tmp 30)
    (.seq (.region [⟨(some 4), none, (.i (.mov (.cst (.bool false))))⟩] false [])
    .ret)
    .skip))
  (.seq (.region [⟨(some 4), none, (.i (.mov (.cst (.bool true))))⟩] false [])
  .ret))))))))))
def r_laws_FnExactIsProgram : List Res := [.tmp 4]
theorem c_laws_FnExactIsProgram : compiled Tryd.prog Tryd.f3 = some (m_laws_FnExactIsProgram, r_laws_FnExactIsProgram) := by kernel_rfl
theorem hb_laws_FnExactIsProgram : hasBody Tryd.prog 3 = true := by kernel_rfl
def L_laws_FnExactIsProgram (a0 : Int) (a1_0 : Int) (a1_1 : Int) (a1_2 : Int) (a1_3 : Int) (a1_4 : List (Int × Int × Int × Int × Int)) : Option Bool :=
  Option.bind (L_laws_szProgram a1_0 a1_1 a1_2 a1_3 a1_4 1048576) fun y4 =>
cond (decide (y4 < 0))
  (some true)
  (Option.bind (L_laws_toProgram a1_0 a1_1 a1_2 a1_3 a1_4) fun y10 =>
  Option.bind (L_spec_IsProgram a0 y10.1 y10.2.1 y10.2.2.1 y10.2.2.2.1 y10.2.2.2.2) fun y11 =>
  Option.bind (L_laws_toProgram a1_0 a1_1 a1_2 a1_3 a1_4) fun y13 =>
  Option.bind (L_impl_IsProgram a0 y13.1 y13.2.1 y13.2.2.1 y13.2.2.2.1 y13.2.2.2.2) fun y15 =>
  cond (y15 != y11)
    (some false)
    (Option.bind (L_laws_toProgram a1_0 a1_1 a1_2 a1_3 a1_4) fun y22 =>
    Option.bind (L_laws_eqProgram y13.1 y13.2.1 y13.2.2.1 y13.2.2.2.1 y13.2.2.2.2 y22.1 y22.2.1 y22.2.2.1 y22.2.2.2.1 y22.2.2.2.2) fun y23 =>
    cond (!y23)
      (some false)
      (some true)))
def rv_laws_FnExactIsProgram (r : Bool) : RV := ⟨false, [(false, [.sc (.bool r)])]⟩
theorem ok_laws_FnExactIsProgram {a0 : Int} {a1_0 : Int} {a1_1 : Int} {a1_2 : Int} {a1_3 : Int} {a1_4 : List (Int × Int × Int × Int × Int)} {r : Bool} (h : L_laws_FnExactIsProgram a0 a1_0 a1_1 a1_2 a1_3 a1_4 = some r) : CallOK Tryd.prog Tab 3 [(.int .i64 a0), (.agg [(.int .i64 a1_0), (.int .i64 a1_1), (.int .i64 a1_2), (.int .i64 a1_3), (.tree (.pair .int (.pair .int (.pair .int (.pair .int .int)))) a1_4)])] (rv_laws_FnExactIsProgram r) := by
  refine call_of_ (by kernel_rfl) Tryd.func3 c_laws_FnExactIsProgram (n := 31) (by kernel_rfl) (by simp) (tl := [(0, (.int .i64 a0)), (1, (.agg [(.int .i64 a1_0), (.int .i64 a1_1), (.int .i64 a1_2), (.int .i64 a1_3), (.tree (.pair .int (.pair .int (.pair .int (.pair .int .int)))) a1_4)]))]) rfl ?_
  unfold m_laws_FnExactIsProgram
  unfold L_laws_FnExactIsProgram at h
  refine awp_seq_ ?_
  refine awp_region_ 3 (by kernel_rfl) ?_
  refine rs1 (.box (3, 1) 0) (3, 1) (.cells 24 [(.int .i64 a1_0), (.int .i64 a1_1), (.int .i64 a1_2), (.int .i64 a1_3), (.tree (.pair .int (.pair .int (.pair .int (.pair .int .int)))) a1_4)]) (by kernel_rfl) ?_
  refine rs0 (.bool false) (by kernel_rfl) ?_
  refine rnil (tn_ ?_)
  refine awp_seq_ ?_
  refine awp_region_ 4 (by kernel_rfl) ?_
  refine rs0 (.int .i64 1048576) (by kernel_rfl) ?_
  refine rnil (tn_ ?_)
  refine awp_seq_ ?_
  obtain ⟨y4, h4, h⟩ := ob_some h
  refine awp_region_ 8 (by kernel_rfl) ?_
  refine rsl (.agg [(.int .i64 a1_0), (.int .i64 a1_1), (.int .i64 a1_2), (.int .i64 a1_3), (.tree (.pair .int (.pair .int (.pair .int (.pair .int .int)))) a1_4)]) (by kernel_rfl) ?_
  refine rs0 (.int .i64 1048576) (by kernel_rfl) ?_
  refine rcall (.int .i64 y4) [] [(.agg [(.int .i64 a1_0), (.int .i64 a1_1), (.int .i64 a1_2), (.int .i64 a1_3), (.tree (.pair .int (.pair .int (.pair .int (.pair .int .int)))) a1_4)]), (.int .i64 1048576)] _ (caps := []) (args0 := [(.agg [(.int .i64 a1_0), (.int .i64 a1_1), (.int .i64 a1_2), (.int .i64 a1_3), (.tree (.pair .int (.pair .int (.pair .int (.pair .int .int)))) a1_4)]), (.int .i64 1048576)]) trivial (by kernel_rfl) (by kernel_rfl) (by kernel_rfl) (by kernel_rfl) (ok_laws_szProgram h4) hb_laws_szProgram (by kernel_rfl) ?_
  refine rs0 (.int .i64 y4) (by kernel_rfl) ?_
  refine rnil (tn_ ?_)
  refine awp_seq_ ?_
  refine awp_seq_ ?_
  refine awp_region_ 10 (by kernel_rfl) ?_
  refine rs0 (.int .i64 y4) (by kernel_rfl) ?_
  refine rs0 (.bool (decide (y4 < 0))) (by kernel_rfl) ?_
  refine rnil (tn_ ?_)
  rcases cond_some h with ⟨q7, h⟩ | ⟨q7, h⟩
  · have q7_ := of_decide_eq_true q7
    refine awp_condT_ q7 (by kernel_rfl) ?_
    refine awp_seq_ ?_
    refine awp_region_ 11 (by kernel_rfl) ?_
    refine rs0 (.bool true) (by kernel_rfl) ?_
    refine rnil (tn_ ?_)
    refine awp_ret_ (tr_ ?_)
    obtain rfl := Option.some.inj h
    exact ret_ [(.bool true)] (by simp) (by kernel_rfl) (p_one rfl (l_sc (by kernel_rfl)) p_nil) (by kernel_rfl) (by kernel_rfl)
  · have q7_ := of_decide_eq_false q7
    refine awp_condF_ q7 (by kernel_rfl) ?_
    refine awp_skip_ (tn_ ?_)
    refine awp_seq_ ?_
    obtain ⟨y10, h10, h⟩ := ob_some h
    obtain ⟨y11, h11, h⟩ := ob_some h
    refine awp_region_ 15 (by kernel_rfl) ?_
    refine rs0 (.int .i64 a0) (by kernel_rfl) ?_
    refine rsl (.agg [(.int .i64 a1_0), (.int .i64 a1_1), (.int .i64 a1_2), (.int .i64 a1_3), (.tree (.pair .int (.pair .int (.pair .int (.pair .int .int)))) a1_4)]) (by kernel_rfl) ?_
    refine rcall (.agg [(.int .i64 y10.1), (.int .i64 y10.2.1), (.int .i64 y10.2.2.1), (.int .i64 y10.2.2.2.1), (.own (256, 12) (.pair .int (.pair .int (.pair .int (.pair .int .int)))) 0 y10.2.2.2.2.length)]) [((256, 12), some (.arr 69 (.pair .int (.pair .int (.pair .int (.pair .int .int)))) y10.2.2.2.2))] [(.agg [(.int .i64 a1_0), (.int .i64 a1_1), (.int .i64 a1_2), (.int .i64 a1_3), (.tree (.pair .int (.pair .int (.pair .int (.pair .int .int)))) a1_4)])] _ (caps := []) (args0 := [(.agg [(.int .i64 a1_0), (.int .i64 a1_1), (.int .i64 a1_2), (.int .i64 a1_3), (.tree (.pair .int (.pair .int (.pair .int (.pair .int .int)))) a1_4)])]) trivial (by kernel_rfl) (by kernel_rfl) (by kernel_rfl) (by kernel_rfl) (ok_laws_toProgram h10) hb_laws_toProgram (by kernel_rfl) ?_
    refine rcall (.bool y11) [] [(.int .i64 a0), (.agg [(.int .i64 y10.1), (.int .i64 y10.2.1), (.int .i64 y10.2.2.1), (.int .i64 y10.2.2.2.1), (.own (256, 12) (.pair .int (.pair .int (.pair .int (.pair .int .int)))) 0 y10.2.2.2.2.length)])] _ (caps := []) (args0 := [(.int .i64 a0), (.agg [(.int .i64 y10.1), (.int .i64 y10.2.1), (.int .i64 y10.2.2.1), (.int .i64 y10.2.2.2.1), (.tree (.pair .int (.pair .int (.pair .int (.pair .int .int)))) y10.2.2.2.2)])]) trivial (by kernel_rfl) (by kernel_rfl) (gm_cons (by kernel_rfl) (gm_cons (gd_agg (gm_cons (by kernel_rfl) (gm_cons (by kernel_rfl) (gm_cons (by kernel_rfl) (gm_cons (by kernel_rfl) (gm_cons (gd_own (e := 69) (by kernel_rfl) rfl) gm_nil)))))) gm_nil)) (by kernel_rfl) (ok_spec_IsProgram h11) hb_spec_IsProgram (by kernel_rfl) ?_
    refine rs0 (.bool y11) (by kernel_rfl) ?_
    refine rnil (tn_ ?_)
    refine awp_seq_ ?_
    obtain ⟨y13, h13, h⟩ := ob_some h
    refine awp_region_ 19 (by kernel_rfl) ?_
    refine rsl (.agg [(.int .i64 a1_0), (.int .i64 a1_1), (.int .i64 a1_2), (.int .i64 a1_3), (.tree (.pair .int (.pair .int (.pair .int (.pair .int .int)))) a1_4)]) (by kernel_rfl) ?_
    refine rcall (.agg [(.int .i64 y13.1), (.int .i64 y13.2.1), (.int .i64 y13.2.2.1), (.int .i64 y13.2.2.2.1), (.own (304, 16) (.pair .int (.pair .int (.pair .int (.pair .int .int)))) 0 y13.2.2.2.2.length)]) [((304, 16), some (.arr 69 (.pair .int (.pair .int (.pair .int (.pair .int .int)))) y13.2.2.2.2))] [(.agg [(.int .i64 a1_0), (.int .i64 a1_1), (.int .i64 a1_2), (.int .i64 a1_3), (.tree (.pair .int (.pair .int (.pair .int (.pair .int .int)))) a1_4)])] _ (caps := []) (args0 := [(.agg [(.int .i64 a1_0), (.int .i64 a1_1), (.int .i64 a1_2), (.int .i64 a1_3), (.tree (.pair .int (.pair .int (.pair .int (.pair .int .int)))) a1_4)])]) trivial (by kernel_rfl) (by kernel_rfl) (by kernel_rfl) (by kernel_rfl) (ok_laws_toProgram h13) hb_laws_toProgram (by kernel_rfl) ?_
    refine rs1 (.box (7, 17) 0) (7, 17) (.cells 29 [(.int .i64 0), (.int .i64 0), (.int .i64 0), (.int .i64 0), .nils]) (by kernel_rfl) ?_
    refine rsn2 (7, 17) (7, 17) (.cells 29 [(.int .i64 y13.1), (.int .i64 y13.2.1), (.int .i64 y13.2.2.1), (.int .i64 y13.2.2.2.1), (.own (304, 16) (.pair .int (.pair .int (.pair .int (.pair .int .int)))) 0 y13.2.2.2.2.length)]) (by kernel_rfl) ?_
    refine rnil (tn_ ?_)
    refine awp_seq_ ?_
    obtain ⟨y15, h15, h⟩ := ob_some h
    refine awp_region_ 23 (by kernel_rfl) ?_
    refine rs0 (.int .i64 a0) (by kernel_rfl) ?_
    refine rsl (.agg [(.int .i64 y13.1), (.int .i64 y13.2.1), (.int .i64 y13.2.2.1), (.int .i64 y13.2.2.2.1), (.own (304, 16) (.pair .int (.pair .int (.pair .int (.pair .int .int)))) 0 y13.2.2.2.2.length)]) (by kernel_rfl) ?_
    refine rcall (.bool y15) [] [(.int .i64 a0), (.agg [(.int .i64 y13.1), (.int .i64 y13.2.1), (.int .i64 y13.2.2.1), (.int .i64 y13.2.2.2.1), (.own (304, 16) (.pair .int (.pair .int (.pair .int (.pair .int .int)))) 0 y13.2.2.2.2.length)])] _ (caps := []) (args0 := [(.int .i64 a0), (.agg [(.int .i64 y13.1), (.int .i64 y13.2.1), (.int .i64 y13.2.2.1), (.int .i64 y13.2.2.2.1), (.tree (.pair .int (.pair .int (.pair .int (.pair .int .int)))) y13.2.2.2.2)])]) trivial (by kernel_rfl) (by kernel_rfl) (gm_cons (by kernel_rfl) (gm_cons (gd_agg (gm_cons (by kernel_rfl) (gm_cons (by kernel_rfl) (gm_cons (by kernel_rfl) (gm_cons (by kernel_rfl) (gm_cons (gd_own (e := 69) (by kernel_rfl) rfl) gm_nil)))))) gm_nil)) (by kernel_rfl) (ok_impl_IsProgram h15) hb_impl_IsProgram (by kernel_rfl) ?_
    refine rs0 (.bool y15) (by kernel_rfl) ?_
    refine rnil (tn_ ?_)
    refine awp_seq_ ?_
    refine awp_seq_ ?_
    refine awp_region_ 26 (by kernel_rfl) ?_
    refine rs0 (.bool y15) (by kernel_rfl) ?_
    refine rs0 (.bool y11) (by kernel_rfl) ?_
    refine rs0 (.bool (y15 != y11)) (by kernel_rfl) ?_
    refine rnil (tn_ ?_)
    rcases cond_some h with ⟨q18, h⟩ | ⟨q18, h⟩
    · refine awp_condT_ q18 (by kernel_rfl) ?_
      refine awp_seq_ ?_
      refine awp_region_ 27 (by kernel_rfl) ?_
      refine rs0 (.bool false) (by kernel_rfl) ?_
      refine rnil (tn_ ?_)
      refine awp_ret_ (tr_ ?_)
      obtain rfl := Option.some.inj h
      exact ret_ [(.bool false)] (by simp) (by kernel_rfl) (p_one rfl (l_sc (by kernel_rfl)) p_nil) (by kernel_rfl) (by kernel_rfl)
    · refine awp_condF_ q18 (by kernel_rfl) ?_
      refine awp_skip_ (tn_ ?_)
      refine awp_seq_ ?_
      refine awp_seq_ ?_
      obtain ⟨y22, h22, h⟩ := ob_some h
      obtain ⟨y23, h23, h⟩ := ob_some h
      refine awp_regionD_ 31 (by kernel_rfl) ?_
      refine dsl (.agg [(.int .i64 y13.1), (.int .i64 y13.2.1), (.int .i64 y13.2.2.1), (.int .i64 y13.2.2.2.1), (.own (304, 16) (.pair .int (.pair .int (.pair .int (.pair .int .int)))) 0 y13.2.2.2.2.length)]) (by kernel_rfl) ?_
      refine dsl (.agg [(.int .i64 a1_0), (.int .i64 a1_1), (.int .i64 a1_2), (.int .i64 a1_3), (.tree (.pair .int (.pair .int (.pair .int (.pair .int .int)))) a1_4)]) (by kernel_rfl) ?_
      refine dcall (.agg [(.int .i64 y22.1), (.int .i64 y22.2.1), (.int .i64 y22.2.2.1), (.int .i64 y22.2.2.2.1), (.own (448, 28) (.pair .int (.pair .int (.pair .int (.pair .int .int)))) 0 y22.2.2.2.2.length)]) [((448, 28), some (.arr 69 (.pair .int (.pair .int (.pair .int (.pair .int .int)))) y22.2.2.2.2))] [(.agg [(.int .i64 a1_0), (.int .i64 a1_1), (.int .i64 a1_2), (.int .i64 a1_3), (.tree (.pair .int (.pair .int (.pair .int (.pair .int .int)))) a1_4)])] _ (caps := []) (args0 := [(.agg [(.int .i64 a1_0), (.int .i64 a1_1), (.int .i64 a1_2), (.int .i64 a1_3), (.tree (.pair .int (.pair .int (.pair .int (.pair .int .int)))) a1_4)])]) trivial (by kernel_rfl) (by kernel_rfl) (by kernel_rfl) (by kernel_rfl) (ok_laws_toProgram h22) hb_laws_toProgram (by kernel_rfl) ?_
      refine dcall (.bool y23) [] [(.agg [(.int .i64 y13.1), (.int .i64 y13.2.1), (.int .i64 y13.2.2.1), (.int .i64 y13.2.2.2.1), (.own (304, 16) (.pair .int (.pair .int (.pair .int (.pair .int .int)))) 0 y13.2.2.2.2.length)]), (.agg [(.int .i64 y22.1), (.int .i64 y22.2.1), (.int .i64 y22.2.2.1), (.int .i64 y22.2.2.2.1), (.own (448, 28) (.pair .int (.pair .int (.pair .int (.pair .int .int)))) 0 y22.2.2.2.2.length)])] _ (caps := []) (args0 := [(.agg [(.int .i64 y13.1), (.int .i64 y13.2.1), (.int .i64 y13.2.2.1), (.int .i64 y13.2.2.2.1), (.tree (.pair .int (.pair .int (.pair .int (.pair .int .int)))) y13.2.2.2.2)]), (.agg [(.int .i64 y22.1), (.int .i64 y22.2.1), (.int .i64 y22.2.2.1), (.int .i64 y22.2.2.2.1), (.tree (.pair .int (.pair .int (.pair .int (.pair .int .int)))) y22.2.2.2.2)])]) trivial (by kernel_rfl) (by kernel_rfl) (gm_cons (gd_agg (gm_cons (by kernel_rfl) (gm_cons (by kernel_rfl) (gm_cons (by kernel_rfl) (gm_cons (by kernel_rfl) (gm_cons (gd_own (e := 69) (by kernel_rfl) rfl) gm_nil)))))) (gm_cons (gd_agg (gm_cons (by kernel_rfl) (gm_cons (by kernel_rfl) (gm_cons (by kernel_rfl) (gm_cons (by kernel_rfl) (gm_cons (gd_own (e := 69) (by kernel_rfl) rfl) gm_nil)))))) gm_nil)) (by kernel_rfl) (ok_laws_eqProgram h23) hb_laws_eqProgram (by kernel_rfl) ?_
      refine ds0 (.bool (!y23)) (by kernel_rfl) ?_
      refine dnil (by kernel_rfl) (tn_ ?_)
      rcases cond_some h with ⟨q24, h⟩ | ⟨q24, h⟩
      · refine awp_condT_ q24 (by kernel_rfl) ?_
        refine awp_seq_ ?_
        refine awp_region_ 32 (by kernel_rfl) ?_
        refine rs0 (.bool false) (by kernel_rfl) ?_
        refine rnil (tn_ ?_)
        refine awp_ret_ (tr_ ?_)
        obtain rfl := Option.some.inj h
        exact ret_ [(.bool false)] (by simp) (by kernel_rfl) (p_one rfl (l_sc (by kernel_rfl)) p_nil) (by kernel_rfl) (by kernel_rfl)
      · refine awp_condF_ q24 (by kernel_rfl) ?_
        refine awp_skip_ (tn_ ?_)
        refine awp_seq_ ?_
        refine awp_region_ 32 (by kernel_rfl) ?_
        refine rs0 (.bool true) (by kernel_rfl) ?_
        refine rnil (tn_ ?_)
        refine awp_ret_ ?_
        obtain rfl := Option.some.inj h
        exact ret_ [(.bool true)] (by simp) (by kernel_rfl) (p_one rfl (l_sc (by kernel_rfl)) p_nil) (by kernel_rfl) (by kernel_rfl)
end Go.Proofs.YtomijolkdmaimaaDoor
