/- Partial functions in place of code, and that the code does what they say: B1. No condition. -/
import Derived.Test.YthjdknddcceigaaDoorB0
namespace Go.Proofs.YthjdknddcceigaaDoor
open Go.RowKit Go.Deep
set_option maxRecDepth 4000
def m_laws_szGateS : AC :=
  (.seq (.region [⟨(some 4), none, (.i (.mov (.cst (.int .i64 0))))⟩] false [])
  (.seq (.region [⟨(some 5), none, (.i (.mov (.tmp 1)))⟩, ⟨(some 6), none, (.i (.mov (.tmp 0)))⟩, ⟨(some 7), none, (.i (.len (.tmp 6)))⟩, ⟨(some 8), none, (.i (.bin .sub (.tmp 5) (.tmp 7)))⟩, ⟨(some 1), none, (.i (.mov (.tmp 8)))⟩] false [])
  (.seq (.seq (.region [⟨(some 9), none, (.i (.mov (.tmp 1)))⟩, ⟨(some 10), none, (.i (.bin .lss (.tmp 9) (.cst (.int .i64 0))))⟩] false [])
  (.cond (.tmp 10)
    (.seq (.region [⟨(some 4), none, (.i (.mov (.cst (.int .i64 (-1)))))⟩] false [])
    .ret)
    .skip))
  (.seq (.region [⟨(some 11), none, (.i (.mov (.tmp 1)))⟩, ⟨(some 4), none, (.i (.mov (.tmp 11)))⟩] false [])
  .ret))))
def r_laws_szGateS : List Res := [.tmp 4]
theorem c_laws_szGateS : compiled Tryd.prog Tryd.f33 = some (m_laws_szGateS, r_laws_szGateS) := by kernel_rfl
theorem hb_laws_szGateS : hasBody Tryd.prog 33 = true := by kernel_rfl
def L_laws_szGateS (a0 : List (Int × Int × Int × Int)) (a1 : Int) : Option Int :=
  cond (decide (IntKind.i64.wrap (a1 - ((a0.length : Nat) : Int)) < 0))
  (some (-1))
  (some (IntKind.i64.wrap (a1 - ((a0.length : Nat) : Int))))
def rv_laws_szGateS (r : Int) : RV := ⟨false, [(false, [.sc (.int .i64 r)])]⟩
theorem ok_laws_szGateS {a0 : List (Int × Int × Int × Int)} {a1 : Int} {r : Int} (h : L_laws_szGateS a0 a1 = some r) : CallOK Tryd.prog Tab 33 [(.tree (.pair .int (.pair .int (.pair .int .int))) a0), (.int .i64 a1)] (rv_laws_szGateS r) := by
  refine call_of_ (by kernel_rfl) Tryd.func33 c_laws_szGateS (n := 12) (by kernel_rfl) (by simp) (tl := [(0, (.tree (.pair .int (.pair .int (.pair .int .int))) a0)), (1, (.int .i64 a1))]) rfl ?_
  unfold m_laws_szGateS
  unfold L_laws_szGateS at h
  refine awp_seq_ ?_
  refine awp_region_ 2 (by kernel_rfl) ?_
  refine rs0 (.int .i64 0) (by kernel_rfl) ?_
  refine rnil (tn_ ?_)
  refine awp_seq_ ?_
  refine awp_region_ 7 (by kernel_rfl) ?_
  refine rs0 (.int .i64 a1) (by kernel_rfl) ?_
  refine rs0 (.tree (.pair .int (.pair .int (.pair .int .int))) a0) (by kernel_rfl) ?_
  refine rs0 (.int .i64 ((a0.length : Nat) : Int)) (by kernel_rfl) ?_
  refine rs0 (.int .i64 (IntKind.i64.wrap (a1 - ((a0.length : Nat) : Int)))) (by kernel_rfl) ?_
  refine rs0 (.int .i64 (IntKind.i64.wrap (a1 - ((a0.length : Nat) : Int)))) (by kernel_rfl) ?_
  refine rnil (tn_ ?_)
  refine awp_seq_ ?_
  refine awp_seq_ ?_
  refine awp_region_ 9 (by kernel_rfl) ?_
  refine rs0 (.int .i64 (IntKind.i64.wrap (a1 - ((a0.length : Nat) : Int)))) (by kernel_rfl) ?_
  refine rs0 (.bool (decide (IntKind.i64.wrap (a1 - ((a0.length : Nat) : Int)) < 0))) (by kernel_rfl) ?_
  refine rnil (tn_ ?_)
  rcases cond_some h with ⟨q5, h⟩ | ⟨q5, h⟩
  · have q5_ := of_decide_eq_true q5
    refine awp_condT_ q5 (by kernel_rfl) ?_
    refine awp_seq_ ?_
    refine awp_region_ 10 (by kernel_rfl) ?_
    refine rs0 (.int .i64 (-1)) (by kernel_rfl) ?_
    refine rnil (tn_ ?_)
    refine awp_ret_ (tr_ ?_)
    obtain rfl := Option.some.inj h
    exact ret_ [(.int .i64 (-1))] (by simp) (by kernel_rfl) (p_one rfl (l_sc (by kernel_rfl)) p_nil) (by kernel_rfl) (by kernel_rfl)
  · have q5_ := of_decide_eq_false q5
    refine awp_condF_ q5 (by kernel_rfl) ?_
    refine awp_skip_ (tn_ ?_)
    refine awp_seq_ ?_
    refine awp_region_ 11 (by kernel_rfl) ?_
    refine rs0 (.int .i64 (IntKind.i64.wrap (a1 - ((a0.length : Nat) : Int)))) (by kernel_rfl) ?_
    refine rs0 (.int .i64 (IntKind.i64.wrap (a1 - ((a0.length : Nat) : Int)))) (by kernel_rfl) ?_
    refine rnil (tn_ ?_)
    refine awp_ret_ ?_
    obtain rfl := Option.some.inj h
    exact ret_ [(.int .i64 (IntKind.i64.wrap (a1 - ((a0.length : Nat) : Int))))] (by simp) (by kernel_rfl) (p_one rfl (l_sc (by kernel_rfl)) p_nil) (by kernel_rfl) (by kernel_rfl)
def m_laws_szCircuit : AC :=
  (.seq (.region [⟨(some 2), none, (.i (.box 25 (.tmp 0)))⟩, ⟨(some 4), none, (.i (.mov (.cst (.int .i64 0))))⟩] false [])
  (.seq (.region [⟨(some 5), none, (.i (.fld 1 (.tmp 2)))⟩, ⟨(some 6), none, (.i (.ld true 1 (.tmp 5)))⟩, ⟨(some 7), none, (.i (.mov (.tmp 1)))⟩, ⟨(some 8), none, (.call (.cst (.fn 33 [])) [(.tmp 6), (.tmp 7)] [[(some (.pair .int (.pair .int (.pair .int .int))))], []])⟩, ⟨(some 1), none, (.i (.mov (.tmp 8)))⟩] false [])
  (.seq (.seq (.region [⟨(some 9), none, (.i (.mov (.tmp 1)))⟩, ⟨(some 10), none, (.i (.bin .lss (.tmp 9) (.cst (.int .i64 0))))⟩] false [])
  (.cond (.tmp 10)
    (.seq (.region [⟨(some 4), none, (.i (.mov (.cst (.int .i64 (-1)))))⟩] false [])
    .ret)
    .skip))
  (.seq (.region [⟨(some 11), none, (.i (.fld 2 (.tmp 2)))⟩, ⟨(some 12), none, (.i (.ld true 1 (.tmp 11)))⟩, ⟨(some 13), none, (.i (.mov (.tmp 1)))⟩, ⟨(some 14), none, (.call (.cst (.fn 34 [])) [(.tmp 12), (.tmp 13)] [[(some .int)], []])⟩, ⟨(some 1), none, (.i (.mov (.tmp 14)))⟩] false [])
  (.seq (.seq (.region [⟨(some 15), none, (.i (.mov (.tmp 1)))⟩, ⟨(some 16), none, (.i (.bin .lss (.tmp 15) (.cst (.int .i64 0))))⟩] false [])
  (.cond (.tmp 16)
    (.seq (.region [⟨(some 4), none, (.i (.mov (.cst (.int .i64 (-1)))))⟩] false [])
    .ret)
    .skip))
  (.seq (.region [⟨(some 17), none, (.i (.mov (.tmp 1)))⟩, ⟨(some 4), none, (.i (.mov (.tmp 17)))⟩] false [])
  .ret))))))
def r_laws_szCircuit : List Res := [.tmp 4]
theorem c_laws_szCircuit : compiled Tryd.prog Tryd.f10 = some (m_laws_szCircuit, r_laws_szCircuit) := by kernel_rfl
theorem hb_laws_szCircuit : hasBody Tryd.prog 10 = true := by kernel_rfl
def L_laws_szCircuit (a0_0 : Int) (a0_1 : List (Int × Int × Int × Int)) (a0_2 : List Int) (a1 : Int) : Option Int :=
  Option.bind (L_laws_szGateS a0_1 a1) fun y3 =>
cond (decide (y3 < 0))
  (some (-1))
  (Option.bind (L_laws_szIntS a0_2 y3) fun y9 =>
  cond (decide (y9 < 0))
    (some (-1))
    (some y9))
def rv_laws_szCircuit (r : Int) : RV := ⟨false, [(false, [.sc (.int .i64 r)])]⟩
theorem ok_laws_szCircuit {a0_0 : Int} {a0_1 : List (Int × Int × Int × Int)} {a0_2 : List Int} {a1 : Int} {r : Int} (h : L_laws_szCircuit a0_0 a0_1 a0_2 a1 = some r) : CallOK Tryd.prog Tab 10 [(.agg [(.int .i64 a0_0), (.tree (.pair .int (.pair .int (.pair .int .int))) a0_1), (.tree .int a0_2)]), (.int .i64 a1)] (rv_laws_szCircuit r) := by
  refine call_of_ (by kernel_rfl) Tryd.func10 c_laws_szCircuit (n := 18) (by kernel_rfl) (by simp) (tl := [(0, (.agg [(.int .i64 a0_0), (.tree (.pair .int (.pair .int (.pair .int .int))) a0_1), (.tree .int a0_2)])), (1, (.int .i64 a1))]) rfl ?_
  unfold m_laws_szCircuit
  unfold L_laws_szCircuit at h
  refine awp_seq_ ?_
  refine awp_region_ 3 (by kernel_rfl) ?_
  refine rs1 (.box (2, 1) 0) (2, 1) (.cells 25 [(.int .i64 a0_0), (.tree (.pair .int (.pair .int (.pair .int .int))) a0_1), (.tree .int a0_2)]) (by kernel_rfl) ?_
  refine rs0 (.int .i64 0) (by kernel_rfl) ?_
  refine rnil (tn_ ?_)
  refine awp_seq_ ?_
  obtain ⟨y3, h3, h⟩ := ob_some h
  refine awp_region_ 8 (by kernel_rfl) ?_
  refine rs0 (.box (2, 1) 1) (by kernel_rfl) ?_
  refine rsl (.tree (.pair .int (.pair .int (.pair .int .int))) a0_1) (by kernel_rfl) ?_
  refine rs0 (.int .i64 a1) (by kernel_rfl) ?_
  refine rcall (.int .i64 y3) [] [(.tree (.pair .int (.pair .int (.pair .int .int))) a0_1), (.int .i64 a1)] _ (caps := []) (args0 := [(.tree (.pair .int (.pair .int (.pair .int .int))) a0_1), (.int .i64 a1)]) trivial (by kernel_rfl) (by kernel_rfl) (by kernel_rfl) (by kernel_rfl) (ok_laws_szGateS h3) hb_laws_szGateS (by kernel_rfl) ?_
  refine rs0 (.int .i64 y3) (by kernel_rfl) ?_
  refine rnil (tn_ ?_)
  refine awp_seq_ ?_
  refine awp_seq_ ?_
  refine awp_region_ 10 (by kernel_rfl) ?_
  refine rs0 (.int .i64 y3) (by kernel_rfl) ?_
  refine rs0 (.bool (decide (y3 < 0))) (by kernel_rfl) ?_
  refine rnil (tn_ ?_)
  rcases cond_some h with ⟨q6, h⟩ | ⟨q6, h⟩
  · have q6_ := of_decide_eq_true q6
    refine awp_condT_ q6 (by kernel_rfl) ?_
    refine awp_seq_ ?_
    refine awp_region_ 11 (by kernel_rfl) ?_
    refine rs0 (.int .i64 (-1)) (by kernel_rfl) ?_
    refine rnil (tn_ ?_)
    refine awp_ret_ (tr_ ?_)
    obtain rfl := Option.some.inj h
    exact ret_ [(.int .i64 (-1))] (by simp) (by kernel_rfl) (p_one rfl (l_sc (by kernel_rfl)) p_nil) (by kernel_rfl) (by kernel_rfl)
  · have q6_ := of_decide_eq_false q6
    refine awp_condF_ q6 (by kernel_rfl) ?_
    refine awp_skip_ (tn_ ?_)
    refine awp_seq_ ?_
    obtain ⟨y9, h9, h⟩ := ob_some h
    refine awp_region_ 15 (by kernel_rfl) ?_
    refine rs0 (.box (2, 1) 2) (by kernel_rfl) ?_
    refine rsl (.tree .int a0_2) (by kernel_rfl) ?_
    refine rs0 (.int .i64 y3) (by kernel_rfl) ?_
    refine rcall (.int .i64 y9) [] [(.tree .int a0_2), (.int .i64 y3)] _ (caps := []) (args0 := [(.tree .int a0_2), (.int .i64 y3)]) trivial (by kernel_rfl) (by kernel_rfl) (by kernel_rfl) (by kernel_rfl) (ok_laws_szIntS h9) hb_laws_szIntS (by kernel_rfl) ?_
    refine rs0 (.int .i64 y9) (by kernel_rfl) ?_
    refine rnil (tn_ ?_)
    refine awp_seq_ ?_
    refine awp_seq_ ?_
    refine awp_region_ 17 (by kernel_rfl) ?_
    refine rs0 (.int .i64 y9) (by kernel_rfl) ?_
    refine rs0 (.bool (decide (y9 < 0))) (by kernel_rfl) ?_
    refine rnil (tn_ ?_)
    rcases cond_some h with ⟨q12, h⟩ | ⟨q12, h⟩
    · have q12_ := of_decide_eq_true q12
      refine awp_condT_ q12 (by kernel_rfl) ?_
      refine awp_seq_ ?_
      refine awp_region_ 18 (by kernel_rfl) ?_
      refine rs0 (.int .i64 (-1)) (by kernel_rfl) ?_
      refine rnil (tn_ ?_)
      refine awp_ret_ (tr_ ?_)
      obtain rfl := Option.some.inj h
      exact ret_ [(.int .i64 (-1))] (by simp) (by kernel_rfl) (p_one rfl (l_sc (by kernel_rfl)) p_nil) (by kernel_rfl) (by kernel_rfl)
    · have q12_ := of_decide_eq_false q12
      refine awp_condF_ q12 (by kernel_rfl) ?_
      refine awp_skip_ (tn_ ?_)
      refine awp_seq_ ?_
      refine awp_region_ 19 (by kernel_rfl) ?_
      refine rs0 (.int .i64 y9) (by kernel_rfl) ?_
      refine rs0 (.int .i64 y9) (by kernel_rfl) ?_
      refine rnil (tn_ ?_)
      refine awp_ret_ ?_
      obtain rfl := Option.some.inj h
      exact ret_ [(.int .i64 y9)] (by simp) (by kernel_rfl) (p_one rfl (l_sc (by kernel_rfl)) p_nil) (by kernel_rfl) (by kernel_rfl)
def m_laws_toGate : AC :=
  (.seq (.region [⟨(some 1), none, (.i (.box 79 (.tmp 0)))⟩, ⟨(some 2), none, (.i (.alloc 51 [(.int .i64 0), (.int .i64 0), (.int .i64 0), (.int .i64 0)]))⟩] false [])
  (.seq (.region [⟨(some 3), none, (.i (.alloc 51 [(.int .i64 0), (.int .i64 0), (.int .i64 0), (.int .i64 0)]))⟩] false [])
  (.seq (.region [⟨(some 4), none, (.i (.fld 0 (.tmp 1)))⟩, ⟨(some 5), none, (.i (.ld true 1 (.tmp 4)))⟩, ⟨(some 6), none, (.i (.fld 0 (.tmp 3)))⟩, ⟨none, none, (.st true 1 (.tmp 6) (.tmp 5))⟩] false [])
  (.seq (.region [⟨(some 7), none, (.i (.fld 1 (.tmp 1)))⟩, ⟨(some 8), none, (.i (.ld true 1 (.tmp 7)))⟩, ⟨(some 9), none, (.i (.fld 1 (.tmp 3)))⟩, ⟨none, none, (.st true 1 (.tmp 9) (.tmp 8))⟩] false [])
  (.seq (.region [⟨(some 10), none, (.i (.fld 2 (.tmp 1)))⟩, ⟨(some 11), none, (.i (.ld true 1 (.tmp 10)))⟩, ⟨(some 12), none, (.i (.fld 2 (.tmp 3)))⟩, ⟨none, none, (.st true 1 (.tmp 12) (.tmp 11))⟩] false [])
  (.seq (.region [⟨(some 13), none, (.i (.fld 3 (.tmp 1)))⟩, ⟨(some 14), none, (.i (.ld true 1 (.tmp 13)))⟩, ⟨(some 15), none, (.i (.fld 3 (.tmp 3)))⟩, ⟨none, none, (.st true 1 (.tmp 15) (.tmp 14))⟩] false [])
  (.seq (.region [⟨(some 16), none, (.i (.ld false 4 (.tmp 3)))⟩, ⟨none, none, (.st false 4 (.tmp 2) (.tmp 16))⟩] false [])
  .ret)))))))
def r_laws_toGate : List Res := [.cell 2 false 4]
theorem c_laws_toGate : compiled Tryd.prog Tryd.f73 = some (m_laws_toGate, r_laws_toGate) := by kernel_rfl
theorem hb_laws_toGate : hasBody Tryd.prog 73 = true := by kernel_rfl
def L_laws_toGate (a0_0 : Int) (a0_1 : Int) (a0_2 : Int) (a0_3 : Int) : Option (Int × Int × Int × Int) :=
  some (a0_0, a0_1, a0_2, a0_3)
def rv_laws_toGate (r : Int × Int × Int × Int) : RV := ⟨false, [(true, [.sc (.int .i64 r.1), .sc (.int .i64 r.2.1), .sc (.int .i64 r.2.2.1), .sc (.int .i64 r.2.2.2)])]⟩
theorem ok_laws_toGate {a0_0 : Int} {a0_1 : Int} {a0_2 : Int} {a0_3 : Int} {r : Int × Int × Int × Int} (h : L_laws_toGate a0_0 a0_1 a0_2 a0_3 = some r) : CallOK Tryd.prog Tab 73 [(.agg [(.int .i64 a0_0), (.int .i64 a0_1), (.int .i64 a0_2), (.int .i64 a0_3)])] (rv_laws_toGate r) := by
  refine call_of_ (by kernel_rfl) Tryd.func73 c_laws_toGate (n := 17) (by kernel_rfl) (by simp) (tl := [(0, (.agg [(.int .i64 a0_0), (.int .i64 a0_1), (.int .i64 a0_2), (.int .i64 a0_3)]))]) rfl ?_
  unfold m_laws_toGate
  unfold L_laws_toGate at h
  refine awp_seq_ ?_
  refine awp_region_ 3 (by kernel_rfl) ?_
  refine rs1 (.box (1, 1) 0) (1, 1) (.cells 79 [(.int .i64 a0_0), (.int .i64 a0_1), (.int .i64 a0_2), (.int .i64 a0_3)]) (by kernel_rfl) ?_
  refine rs1 (.box (2, 2) 0) (2, 2) (.cells 51 [(.int .i64 0), (.int .i64 0), (.int .i64 0), (.int .i64 0)]) (by kernel_rfl) ?_
  refine rnil (tn_ ?_)
  refine awp_seq_ ?_
  refine awp_region_ 4 (by kernel_rfl) ?_
  refine rs1 (.box (3, 3) 0) (3, 3) (.cells 51 [(.int .i64 0), (.int .i64 0), (.int .i64 0), (.int .i64 0)]) (by kernel_rfl) ?_
  refine rnil (tn_ ?_)
  refine awp_seq_ ?_
  refine awp_region_ 8 (by kernel_rfl) ?_
  refine rs0 (.box (1, 1) 0) (by kernel_rfl) ?_
  refine rsl (.int .i64 a0_0) (by kernel_rfl) ?_
  refine rs0 (.box (3, 3) 0) (by kernel_rfl) ?_
  refine rsn2 (3, 3) (3, 3) (.cells 51 [(.int .i64 a0_0), (.int .i64 0), (.int .i64 0), (.int .i64 0)]) (by kernel_rfl) ?_
  refine rnil (tn_ ?_)
  refine awp_seq_ ?_
  refine awp_region_ 12 (by kernel_rfl) ?_
  refine rs0 (.box (1, 1) 1) (by kernel_rfl) ?_
  refine rsl (.int .i64 a0_1) (by kernel_rfl) ?_
  refine rs0 (.box (3, 3) 1) (by kernel_rfl) ?_
  refine rsn2 (3, 3) (3, 3) (.cells 51 [(.int .i64 a0_0), (.int .i64 a0_1), (.int .i64 0), (.int .i64 0)]) (by kernel_rfl) ?_
  refine rnil (tn_ ?_)
  refine awp_seq_ ?_
  refine awp_region_ 16 (by kernel_rfl) ?_
  refine rs0 (.box (1, 1) 2) (by kernel_rfl) ?_
  refine rsl (.int .i64 a0_2) (by kernel_rfl) ?_
  refine rs0 (.box (3, 3) 2) (by kernel_rfl) ?_
  refine rsn2 (3, 3) (3, 3) (.cells 51 [(.int .i64 a0_0), (.int .i64 a0_1), (.int .i64 a0_2), (.int .i64 0)]) (by kernel_rfl) ?_
  refine rnil (tn_ ?_)
  refine awp_seq_ ?_
  refine awp_region_ 20 (by kernel_rfl) ?_
  refine rs0 (.box (1, 1) 3) (by kernel_rfl) ?_
  refine rsl (.int .i64 a0_3) (by kernel_rfl) ?_
  refine rs0 (.box (3, 3) 3) (by kernel_rfl) ?_
  refine rsn2 (3, 3) (3, 3) (.cells 51 [(.int .i64 a0_0), (.int .i64 a0_1), (.int .i64 a0_2), (.int .i64 a0_3)]) (by kernel_rfl) ?_
  refine rnil (tn_ ?_)
  refine awp_seq_ ?_
  refine awp_region_ 22 (by kernel_rfl) ?_
  refine rsl (.agg [(.int .i64 a0_0), (.int .i64 a0_1), (.int .i64 a0_2), (.int .i64 a0_3)]) (by kernel_rfl) ?_
  refine rsn2 (2, 2) (2, 2) (.cells 51 [(.int .i64 a0_0), (.int .i64 a0_1), (.int .i64 a0_2), (.int .i64 a0_3)]) (by kernel_rfl) ?_
  refine rnil (tn_ ?_)
  refine awp_ret_ ?_
  obtain rfl := Option.some.inj h
  exact ret_ [(.agg [(.int .i64 a0_0), (.int .i64 a0_1), (.int .i64 a0_2), (.int .i64 a0_3)])] (by simp) (by kernel_rfl) (p_agg (l_cons (l_sc (by kernel_rfl)) (l_cons (l_sc (by kernel_rfl)) (l_cons (l_sc (by kernel_rfl)) (l_cons (l_sc (by kernel_rfl)) l_nil)))) p_nil) (by kernel_rfl) (by kernel_rfl)
def m_laws_toGateS_l1 : AC :=
  (.seq (.seq (.region [⟨(some 8), none, (.i (.mov (.tmp 4)))⟩, ⟨(some 9), none, (.i (.mov (.tmp 0)))⟩, ⟨(some 10), none, (.i (.len (.tmp 9)))⟩, ⟨(some 11), none, (.i (.bin .lss (.tmp 8) (.tmp 10)))⟩] false [])
  (.cond (.tmp 11)
    .skip
    (.exit 0)))
  (.seq (.block 1 (.region [⟨(some 14), none, (.i (.mov (.tmp 3)))⟩, ⟨(some 15), none, (.i (.mov (.tmp 4)))⟩, ⟨(some 16), none, (.i (.mov (.tmp 0)))⟩, ⟨(some 17), none, (.i (.mov (.tmp 4)))⟩, ⟨(some 18), none, (.i (.idx 4 (.tmp 16) (.tmp 17)))⟩, ⟨(some 19), none, (.i (.ld false 4 (.tmp 18)))⟩, ⟨(some 20), none, (.call (.cst (.fn 73 [])) [(.tmp 19)] [[none, none, none, none]])⟩, ⟨(some 21), none, (.i (.idx 4 (.tmp 14) (.tmp 15)))⟩, ⟨none, none, (.st false 4 (.tmp 21) (.tmp 20))⟩] false []))
  (.region [⟨(some 12), none, (.i (.mov (.tmp 4)))⟩, ⟨(some 13), none, (.i (.bin .add (.tmp 12) (.cst (.int .i64 1))))⟩, ⟨(some 4), none, (.i (.mov (.tmp 13)))⟩] false [])))
def m_laws_toGateS : AC :=
  (.seq (.region [⟨(some 2), none, (.i (.mov (.cst .nils)))⟩] false [])
  (.seq (.region [⟨(some 5), none, (.i (.mov (.tmp 0)))⟩, ⟨(some 6), none, (.i (.len (.tmp 5)))⟩, ⟨(some 7), none, (.make 51 (.pair .int (.pair .int (.pair .int .int))) 32 (.tmp 6) (.tmp 6))⟩, ⟨(some 3), none, (.i (.mov (.tmp 7)))⟩] false [])
  (.seq (.seq (.region [⟨(some 4), none, (.i (.mov (.cst (.int .i64 0))))⟩] false [])
  (.block 0 (.loop m_laws_toGateS_l1)))
  (.seq (.region [⟨(some 22), none, (.i (.mov (.tmp 3)))⟩, ⟨(some 2), none, (.i (.mov (.tmp 22)))⟩] false [])
  .ret))))
def r_laws_toGateS : List Res := [.tmp 2]
theorem c_laws_toGateS : compiled Tryd.prog Tryd.f36 = some (m_laws_toGateS, r_laws_toGateS) := by kernel_rfl
theorem hb_laws_toGateS : hasBody Tryd.prog 36 = true := by kernel_rfl
def L_laws_toGateS_l1 (a0 : List (Int × Int × Int × Int)) (l6_m4 : Nat) (l6_m3 : List (Int × Int × Int × Int)) : Option (Ctl (Nat × (List (Int × Int × Int × Int))) (List (Int × Int × Int × Int))) :=
  cond (decide (((l6_m4 : Nat) : Int) < ((a0.length : Nat) : Int)))
  (Option.bind (a0[l6_m4]?) fun x11 =>
  Option.bind (L_laws_toGate x11.1 x11.2.1 x11.2.2.1 x11.2.2.2) fun y12 =>
  Option.bind (l6_m3[l6_m4]?) fun x13 =>
  og (l6_m4 + 1 < 4611686018427387904) <|
  some (Ctl.next (l6_m4 + 1, l6_m3.set l6_m4 y12)))
  (some (Ctl.out l6_m3))
def L_laws_toGateS (a0 : List (Int × Int × Int × Int)) : Option (List (Int × Int × Int × Int)) :=
  og (0 ≤ ((a0.length : Nat) : Int) ∧ ((a0.length : Nat) : Int) ≤ ((a0.length : Nat) : Int) ∧ ((a0.length : Nat) : Int) ≤ 1073741824 ∧ (32 : Int) * ((a0.length : Nat) : Int) ≤ 140737488355328) <|
Option.bind (loopM (fun s_ : Nat × (List (Int × Int × Int × Int)) => L_laws_toGateS_l1 a0 s_.1 s_.2) 4611686018427387904 (0, List.replicate a0.length ((0, 0, 0, 0) : Int × Int × Int × Int))) fun l4_m3 =>
some l4_m3
def rv_laws_toGateS (r : List (Int × Int × Int × Int)) : RV := ⟨false, [(false, [.new 51 (.pair .int (.pair .int (.pair .int .int))) r])]⟩
theorem ok_laws_toGateS {a0 : List (Int × Int × Int × Int)} {r : List (Int × Int × Int × Int)} (h : L_laws_toGateS a0 = some r) : CallOK Tryd.prog Tab 36 [(.tree (.pair .int (.pair .int (.pair .int .int))) a0)] (rv_laws_toGateS r) := by
  refine call_of_ (by kernel_rfl) Tryd.func36 c_laws_toGateS (n := 23) (by kernel_rfl) (by simp) (tl := [(0, (.tree (.pair .int (.pair .int (.pair .int .int))) a0))]) rfl ?_
  unfold m_laws_toGateS
  unfold L_laws_toGateS at h
  refine awp_seq_ ?_
  refine awp_region_ 2 (by kernel_rfl) ?_
  refine rs0 .nils (by kernel_rfl) ?_
  refine rnil (tn_ ?_)
  refine awp_seq_ ?_
  obtain ⟨g3, h⟩ := og_some h
  refine awp_region_ 6 (by kernel_rfl) ?_
  refine rs0 (.tree (.pair .int (.pair .int (.pair .int .int))) a0) (by kernel_rfl) ?_
  refine rs0 (.int .i64 ((a0.length : Nat) : Int)) (by kernel_rfl) ?_
  refine rs1 (.own (7, 4) (.pair .int (.pair .int (.pair .int .int))) 0 a0.length) (7, 4) (.arr 51 (.pair .int (.pair .int (.pair .int .int))) (List.replicate a0.length ((0, 0, 0, 0) : Int × Int × Int × Int))) (s_make (t := (.pair .int (.pair .int (.pair .int .int)))) (k := .i64) (k' := .i64) (m := ((a0.length : Nat) : Int)) (m' := ((a0.length : Nat) : Int)) (by kernel_rfl) (by kernel_rfl) g3 rfl) ?_
  refine rs0 (.own (7, 4) (.pair .int (.pair .int (.pair .int .int))) 0 a0.length) (by kernel_rfl) ?_
  refine rnil (tn_ ?_)
  refine awp_seqB h (fun (l4_m3 : List (Int × Int × Int × Int)) S_ => S_ = ⟨mkTm [(3, (.own (0, 1) (.pair .int (.pair .int (.pair .int .int))) 0 l4_m3.length))], mkOb (someL [((0, 1), .arr 51 (.pair .int (.pair .int (.pair .int .int))) l4_m3)]), 2⟩) ?_ ?_
  · intro v_ h
    refine awp_seq_ ?_
    refine awp_region_ 7 (by kernel_rfl) ?_
    refine rs0 (.int .i64 0) (by kernel_rfl) ?_
    refine rnil (tn_ ?_)
    refine awp_block_ ?_
    refine awp_loopL h (fun t_ S_ => ∃ (l6_m4 : Nat), ∃ (l6_m3 : List (Int × Int × Int × Int)), t_ = (l6_m4, l6_m3) ∧ S_ = ⟨mkTm [(0, (.tree (.pair .int (.pair .int (.pair .int .int))) a0)), (3, (.own (0, 1) (.pair .int (.pair .int (.pair .int .int))) 0 l6_m3.length)), (4, (.int .i64 ((l6_m4 : Nat) : Int)))], mkOb (someL [((0, 1), .arr 51 (.pair .int (.pair .int (.pair .int .int))) l6_m3)]), 2⟩) ⟨_, ((weak_tm_ 3 (.own (7, 4) (.pair .int (.pair .int (.pair .int .int))) 0 a0.length) (.own (7, 4) (.pair .int (.pair .int (.pair .int .int))) 0 ((List.replicate a0.length ((0, 0, 0, 0) : Int × Int × Int × Int)).length)) (by kernel_rfl) (congrArg (fun z_ => ((.own (7, 4) (.pair .int (.pair .int (.pair .int .int))) 0 z_) : AV)) (List.length_replicate.symm : a0.length = (List.replicate a0.length ((0, 0, 0, 0) : Int × Int × Int × Int)).length))).trans (weak_ren (renF [((0, 1), (7, 4))]) (by kernel_rfl) (by kernel_rfl) (by kernel_rfl))), ⟨0, List.replicate a0.length ((0, 0, 0, 0) : Int × Int × Int × Int), rfl, rfl⟩⟩ ?_
    · rintro n_ _ _ c_ ⟨l6_m4, l6_m3, rfl, rfl⟩ h hn6
      (try dsimp only at h)
      unfold L_laws_toGateS_l1 at h
      unfold m_laws_toGateS_l1
      refine awp_seq_ ?_
      refine awp_seq_ ?_
      refine awp_region_ 6 (by kernel_rfl) ?_
      refine rs0 (.int .i64 ((l6_m4 : Nat) : Int)) (by kernel_rfl) ?_
      refine rs0 (.tree (.pair .int (.pair .int (.pair .int .int))) a0) (by kernel_rfl) ?_
      refine rs0 (.int .i64 ((a0.length : Nat) : Int)) (by kernel_rfl) ?_
      refine rs0 (.bool (decide (((l6_m4 : Nat) : Int) < ((a0.length : Nat) : Int)))) (by kernel_rfl) ?_
      refine rnil (tn_ ?_)
      rcases cond_some h with ⟨q9, h⟩ | ⟨q9, h⟩
      · have q9_ := of_decide_eq_true q9
        refine awp_condT_ q9 (by kernel_rfl) ?_
        refine awp_skip_ (tn_ ?_)
        refine awp_seq_ ?_
        refine awp_block_ ?_
        obtain ⟨x11, e11, h⟩ := ob_some h
        obtain ⟨y12, h12, h⟩ := ob_some h
        obtain ⟨x13, e13, h⟩ := ob_some h
        refine awp_region_ 15 (by kernel_rfl) ?_
        refine rs0 (.own (0, 1) (.pair .int (.pair .int (.pair .int .int))) 0 l6_m3.length) (by kernel_rfl) ?_
        refine rs0 (.int .i64 ((l6_m4 : Nat) : Int)) (by kernel_rfl) ?_
        refine rs0 (.tree (.pair .int (.pair .int (.pair .int .int))) a0) (by kernel_rfl) ?_
        refine rs0 (.int .i64 ((l6_m4 : Nat) : Int)) (by kernel_rfl) ?_
        refine rs0 (.telt (.pair .int (.pair .int (.pair .int .int))) x11 0) (s_idxT (t := (.pair .int (.pair .int (.pair .int .int)))) (xs := a0) (k := .i64) (m := ((l6_m4 : Nat) : Int)) (by kernel_rfl) (by kernel_rfl) rfl (nat_nn _) rfl e11) ?_
        refine rs0 (.agg [(.int .i64 x11.1), (.int .i64 x11.2.1), (.int .i64 x11.2.2.1), (.int .i64 x11.2.2.2)]) (by kernel_rfl) ?_
        refine rcall (.agg [(.int .i64 y12.1), (.int .i64 y12.2.1), (.int .i64 y12.2.2.1), (.int .i64 y12.2.2.2)]) [] [(.agg [(.int .i64 x11.1), (.int .i64 x11.2.1), (.int .i64 x11.2.2.1), (.int .i64 x11.2.2.2)])] _ (caps := []) (args0 := [(.agg [(.int .i64 x11.1), (.int .i64 x11.2.1), (.int .i64 x11.2.2.1), (.int .i64 x11.2.2.2)])]) trivial (by kernel_rfl) (by kernel_rfl) (by kernel_rfl) (by kernel_rfl) (ok_laws_toGate h12) hb_laws_toGate (by kernel_rfl) ?_
        refine rs0 (.elt (0, 1) l6_m4 0) (s_idxO (t := (.pair .int (.pair .int (.pair .int .int)))) (o := (0, 1)) (len := l6_m3.length) (k := .i64) (m := ((l6_m4 : Nat) : Int)) (by kernel_rfl) (by kernel_rfl) rfl (nat_nn _) rfl (getN_lt e13)) ?_
        refine rsn2 (0, 1) (0, 1) (.arr 51 (.pair .int (.pair .int (.pair .int .int))) (l6_m3.set l6_m4 y12)) (s_stE (i := (0, 1)) (j := l6_m4) (k := 0) (e := 51) (t := (.pair .int (.pair .int (.pair .int .int)))) (xs := l6_m3) (cs := [(.int .i64 y12.1), (.int .i64 y12.2.1), (.int .i64 y12.2.2.1), (.int .i64 y12.2.2.2)]) (x1 := y12) (by kernel_rfl) (by kernel_rfl) e13 (by kernel_rfl) (by kernel_rfl)) ?_
        refine rnil (bn_ (tn_ ?_))
        obtain ⟨g14, h⟩ := og_some h
        refine awp_region_ 18 (by kernel_rfl) ?_
        refine rs0 (.int .i64 ((l6_m4 : Nat) : Int)) (by kernel_rfl) ?_
        refine rs0 (.int .i64 ((l6_m4 + 1 : Nat) : Int)) (s_add1 (j := l6_m4) (by kernel_rfl) (by kernel_rfl) g14) ?_
        refine rs0 (.int .i64 ((l6_m4 + 1 : Nat) : Int)) (by kernel_rfl) ?_
        refine rnil (tn_ ?_)
        obtain rfl := Option.some.inj h
        exact ⟨(l6_m4 + 1, l6_m3.set l6_m4 y12), _, ((weak_tm_ 3 (.own (0, 1) (.pair .int (.pair .int (.pair .int .int))) 0 l6_m3.length) (.own (0, 1) (.pair .int (.pair .int (.pair .int .int))) 0 ((l6_m3.set l6_m4 y12).length)) (by kernel_rfl) (congrArg (fun z_ => ((.own (0, 1) (.pair .int (.pair .int (.pair .int .int))) 0 z_) : AV)) (((rfl : l6_m3.length = l6_m3.length).trans List.length_set.symm) : l6_m3.length = (l6_m3.set l6_m4 y12).length))).trans (weak_ren (renF []) (by kernel_rfl) (by kernel_rfl) (by kernel_rfl))), ⟨l6_m4 + 1, l6_m3.set l6_m4 y12, rfl, rfl⟩, hn6⟩
      · have q9_ := of_decide_eq_false q9
        refine awp_condF_ q9 (by kernel_rfl) ?_
        refine awp_exit_ (te_ (te_ (be_ (tn_ ?_))))
        obtain rfl := Option.some.inj h
        have h := hn6
        (try dsimp only at h)
        obtain rfl := Option.some.inj h
        exact ⟨_, (weak_ren (renF []) (by kernel_rfl) (by kernel_rfl) (by kernel_rfl)), rfl⟩
  · rintro l4_m3 _ rfl h
    (try dsimp only at h)
    refine awp_seq_ ?_
    refine awp_region_ 4 (by kernel_rfl) ?_
    refine rs0 (.own (0, 1) (.pair .int (.pair .int (.pair .int .int))) 0 l4_m3.length) (by kernel_rfl) ?_
    refine rs0 (.own (0, 1) (.pair .int (.pair .int (.pair .int .int))) 0 l4_m3.length) (by kernel_rfl) ?_
    refine rnil (tn_ ?_)
    refine awp_ret_ ?_
    obtain rfl := Option.some.inj h
    exact ret_ [(.own (0, 1) (.pair .int (.pair .int (.pair .int .int))) 0 l4_m3.length)] (by simp) (by kernel_rfl) (p_one rfl (l_own (by kernel_rfl) rfl) p_nil) (by kernel_rfl) (by kernel_rfl)
def m_laws_toCircuit : AC :=
  (.seq (.region [⟨(some 1), none, (.i (.box 25 (.tmp 0)))⟩, ⟨(some 2), none, (.i (.alloc 31 [(.int .i64 0), .nils, .nils]))⟩] false [])
  (.seq (.region [⟨(some 3), none, (.i (.alloc 31 [(.int .i64 0), .nils, .nils]))⟩] false [])
  (.seq (.region [⟨(some 4), none, (.i (.fld 0 (.tmp 1)))⟩, ⟨(some 5), none, (.i (.ld true 1 (.tmp 4)))⟩, ⟨(some 6), none, (.i (.fld 0 (.tmp 3)))⟩, ⟨none, none, (.st true 1 (.tmp 6) (.tmp 5))⟩] false [])
  (.seq (.region [⟨(some 7), none, (.i (.fld 1 (.tmp 1)))⟩, ⟨(some 8), none, (.i (.ld true 1 (.tmp 7)))⟩, ⟨(some 9), none, (.call (.cst (.fn 36 [])) [(.tmp 8)] [[(some (.pair .int (.pair .int (.pair .int .int))))]])⟩, ⟨(some 10), none, (.i (.fld 1 (.tmp 3)))⟩, ⟨none, none, (.st true 1 (.tmp 10) (.tmp 9))⟩] false [])
  (.seq (.region [⟨(some 11), none, (.i (.fld 2 (.tmp 1)))⟩, ⟨(some 12), none, (.i (.ld true 1 (.tmp 11)))⟩, ⟨(some 13), none, (.call (.cst (.fn 27 [])) [(.tmp 12)] [[(some .int)]])⟩, ⟨(some 14), none, (.i (.fld 2 (.tmp 3)))⟩, ⟨none, none, (.st true 1 (.tmp 14) (.tmp 13))⟩] false [])
  (.seq (.region [⟨(some 15), none, (.i (.ld false 3 (.tmp 3)))⟩, ⟨none, none, (.st false 3 (.tmp 2) (.tmp 15))⟩] false [])
  .ret))))))
def r_laws_toCircuit : List Res := [.cell 2 false 3]
theorem c_laws_toCircuit : compiled Tryd.prog Tryd.f12 = some (m_laws_toCircuit, r_laws_toCircuit) := by kernel_rfl
theorem hb_laws_toCircuit : hasBody Tryd.prog 12 = true := by kernel_rfl
def L_laws_toCircuit (a0_0 : Int) (a0_1 : List (Int × Int × Int × Int)) (a0_2 : List Int) : Option (Int × (List (Int × Int × Int × Int)) × List Int) :=
  Option.bind (L_laws_toGateS a0_1) fun y5 =>
Option.bind (L_laws_toIntS a0_2) fun y7 =>
some (a0_0, y5, y7)
def rv_laws_toCircuit (r : Int × (List (Int × Int × Int × Int)) × List Int) : RV := ⟨false, [(true, [.sc (.int .i64 r.1), .new 51 (.pair .int (.pair .int (.pair .int .int))) r.2.1, .new 3 .int r.2.2])]⟩
theorem ok_laws_toCircuit {a0_0 : Int} {a0_1 : List (Int × Int × Int × Int)} {a0_2 : List Int} {r : Int × (List (Int × Int × Int × Int)) × List Int} (h : L_laws_toCircuit a0_0 a0_1 a0_2 = some r) : CallOK Tryd.prog Tab 12 [(.agg [(.int .i64 a0_0), (.tree (.pair .int (.pair .int (.pair .int .int))) a0_1), (.tree .int a0_2)])] (rv_laws_toCircuit r) := by
  refine call_of_ (by kernel_rfl) Tryd.func12 c_laws_toCircuit (n := 16) (by kernel_rfl) (by simp) (tl := [(0, (.agg [(.int .i64 a0_0), (.tree (.pair .int (.pair .int (.pair .int .int))) a0_1), (.tree .int a0_2)]))]) rfl ?_
  unfold m_laws_toCircuit
  unfold L_laws_toCircuit at h
  refine awp_seq_ ?_
  refine awp_region_ 3 (by kernel_rfl) ?_
  refine rs1 (.box (1, 1) 0) (1, 1) (.cells 25 [(.int .i64 a0_0), (.tree (.pair .int (.pair .int (.pair .int .int))) a0_1), (.tree .int a0_2)]) (by kernel_rfl) ?_
  refine rs1 (.box (2, 2) 0) (2, 2) (.cells 31 [(.int .i64 0), .nils, .nils]) (by kernel_rfl) ?_
  refine rnil (tn_ ?_)
  refine awp_seq_ ?_
  refine awp_region_ 4 (by kernel_rfl) ?_
  refine rs1 (.box (3, 3) 0) (3, 3) (.cells 31 [(.int .i64 0), .nils, .nils]) (by kernel_rfl) ?_
  refine rnil (tn_ ?_)
  refine awp_seq_ ?_
  refine awp_region_ 8 (by kernel_rfl) ?_
  refine rs0 (.box (1, 1) 0) (by kernel_rfl) ?_
  refine rsl (.int .i64 a0_0) (by kernel_rfl) ?_
  refine rs0 (.box (3, 3) 0) (by kernel_rfl) ?_
  refine rsn2 (3, 3) (3, 3) (.cells 31 [(.int .i64 a0_0), .nils, .nils]) (by kernel_rfl) ?_
  refine rnil (tn_ ?_)
  refine awp_seq_ ?_
  obtain ⟨y5, h5, h⟩ := ob_some h
  refine awp_region_ 13 (by kernel_rfl) ?_
  refine rs0 (.box (1, 1) 1) (by kernel_rfl) ?_
  refine rsl (.tree (.pair .int (.pair .int (.pair .int .int))) a0_1) (by kernel_rfl) ?_
  refine rcall (.own (144, 10) (.pair .int (.pair .int (.pair .int .int))) 0 y5.length) [((144, 10), some (.arr 51 (.pair .int (.pair .int (.pair .int .int))) y5))] [(.tree (.pair .int (.pair .int (.pair .int .int))) a0_1)] _ (caps := []) (args0 := [(.tree (.pair .int (.pair .int (.pair .int .int))) a0_1)]) trivial (by kernel_rfl) (by kernel_rfl) (by kernel_rfl) (by kernel_rfl) (ok_laws_toGateS h5) hb_laws_toGateS (by kernel_rfl) ?_
  refine rs0 (.box (3, 3) 1) (by kernel_rfl) ?_
  refine rsn2 (3, 3) (3, 3) (.cells 31 [(.int .i64 a0_0), (.own (144, 10) (.pair .int (.pair .int (.pair .int .int))) 0 y5.length), .nils]) (by kernel_rfl) ?_
  refine rnil (tn_ ?_)
  refine awp_seq_ ?_
  obtain ⟨y7, h7, h⟩ := ob_some h
  refine awp_region_ 18 (by kernel_rfl) ?_
  refine rs0 (.box (1, 1) 2) (by kernel_rfl) ?_
  refine rsl (.tree .int a0_2) (by kernel_rfl) ?_
  refine rcall (.own (208, 15) .int 0 y7.length) [((208, 15), some (.arr 3 .int y7))] [(.tree .int a0_2)] _ (caps := []) (args0 := [(.tree .int a0_2)]) trivial (by kernel_rfl) (by kernel_rfl) (by kernel_rfl) (by kernel_rfl) (ok_laws_toIntS h7) hb_laws_toIntS (by kernel_rfl) ?_
  refine rs0 (.box (3, 3) 2) (by kernel_rfl) ?_
  refine rsn2 (3, 3) (3, 3) (.cells 31 [(.int .i64 a0_0), (.own (144, 10) (.pair .int (.pair .int (.pair .int .int))) 0 y5.length), (.own (208, 15) .int 0 y7.length)]) (by kernel_rfl) ?_
  refine rnil (tn_ ?_)
  refine awp_seq_ ?_
  refine awp_region_ 20 (by kernel_rfl) ?_
  refine rsl (.agg [(.int .i64 a0_0), (.own (144, 10) (.pair .int (.pair .int (.pair .int .int))) 0 y5.length), (.own (208, 15) .int 0 y7.length)]) (by kernel_rfl) ?_
  refine rsn2 (2, 2) (2, 2) (.cells 31 [(.int .i64 a0_0), (.own (144, 10) (.pair .int (.pair .int (.pair .int .int))) 0 y5.length), (.own (208, 15) .int 0 y7.length)]) (by kernel_rfl) ?_
  refine rnil (tn_ ?_)
  refine awp_ret_ ?_
  obtain rfl := Option.some.inj h
  exact ret_ [(.agg [(.int .i64 a0_0), (.own (144, 10) (.pair .int (.pair .int (.pair .int .int))) 0 y5.length), (.own (208, 15) .int 0 y7.length)])] (by simp) (by kernel_rfl) (p_agg (l_cons (l_sc (by kernel_rfl)) (l_cons (l_own (by kernel_rfl) rfl) (l_cons (l_own (by kernel_rfl) rfl) l_nil))) p_nil) (by kernel_rfl) (by kernel_rfl)
def m_laws_eqGate : AC :=
  (.seq (.region [⟨(some 2), none, (.i (.box 51 (.tmp 0)))⟩, ⟨(some 3), none, (.i (.box 51 (.tmp 1)))⟩, ⟨(some 4), none, (.i (.mov (.cst (.bool false))))⟩] false [])
  (.seq (.seq (.region [⟨(some 5), none, (.i (.fld 0 (.tmp 2)))⟩, ⟨(some 6), none, (.i (.ld true 1 (.tmp 5)))⟩, ⟨(some 7), none, (.i (.fld 0 (.tmp 3)))⟩, ⟨(some 8), none, (.i (.ld true 1 (.tmp 7)))⟩, ⟨(some 9), none, (.i (.bin .neq (.tmp 6) (.tmp 8)))⟩] false [])
  (.cond (.tmp 9)
    (.seq (.region [⟨(some 4), none, (.i (.mov (.cst (.bool false))))⟩] false [])
    .ret)
    .skip))
  (.seq (.seq (.region [⟨(some 10), none, (.i (.fld 1 (.tmp 2)))⟩, ⟨(some 11), none, (.i (.ld true 1 (.tmp 10)))⟩, ⟨(some 12), none, (.i (.fld 1 (.tmp 3)))⟩, ⟨(some 13), none, (.i (.ld true 1 (.tmp 12)))⟩, ⟨(some 14), none, (.i (.bin .neq (.tmp 11) (.tmp 13)))⟩] false [])
  (.cond (.tmp 14)
    (.seq (.region [⟨(some 4), none, (.i (.mov (.cst (.bool false))))⟩] false [])
    .ret)
    .skip))
  (.seq (.seq (.region [⟨(some 15), none, (.i (.fld 2 (.tmp 2)))⟩, ⟨(some 16), none, (.i (.ld true 1 (.tmp 15)))⟩, ⟨(some 17), none, (.i (.fld 2 (.tmp 3)))⟩, ⟨(some 18), none, (.i (.ld true 1 (.tmp 17)))⟩, ⟨(some 19), none, (.i (.bin .neq (.tmp 16) (.tmp 18)))⟩] false [])
  (.cond (.tmp 19)
    (.seq (.region [⟨(some 4), none, (.i (.mov (.cst (.bool false))))⟩] false [])
    .ret)
    .skip))
  (.seq (.seq (.region [⟨(some 20), none, (.i (.fld 3 (.tmp 2)))⟩, ⟨(some 21), none, (.i (.ld true 1 (.tmp 20)))⟩, ⟨(some 22), none, (.i (.fld 3 (.tmp 3)))⟩, ⟨(some 23), none, (.i (.ld true 1 (.tmp 22)))⟩, ⟨(some 24), none, (.i (.bin .neq (.tmp 21) (.tmp 23)))⟩] false [])
  (.cond (.tmp 24)
    (.seq (.region [⟨(some 4), none, (.i (.mov (.cst (.bool false))))⟩] false [])
    .ret)
    .skip))
  (.seq (.region [⟨(some 4), none, (.i (.mov (.cst (.bool true))))⟩] false [])
  .ret))))))
def r_laws_eqGate : List Res := [.tmp 4]
theorem c_laws_eqGate : compiled Tryd.prog Tryd.f78 = some (m_laws_eqGate, r_laws_eqGate) := by kernel_rfl
theorem hb_laws_eqGate : hasBody Tryd.prog 78 = true := by kernel_rfl
def L_laws_eqGate (a0_0 : Int) (a0_1 : Int) (a0_2 : Int) (a0_3 : Int) (a1_0 : Int) (a1_1 : Int) (a1_2 : Int) (a1_3 : Int) : Option Bool :=
  cond (a0_0 != a1_0)
  (some false)
  (cond (a0_1 != a1_1)
    (some false)
    (cond (a0_2 != a1_2)
      (some false)
      (cond (a0_3 != a1_3)
        (some false)
        (some true))))
def rv_laws_eqGate (r : Bool) : RV := ⟨false, [(false, [.sc (.bool r)])]⟩
theorem ok_laws_eqGate {a0_0 : Int} {a0_1 : Int} {a0_2 : Int} {a0_3 : Int} {a1_0 : Int} {a1_1 : Int} {a1_2 : Int} {a1_3 : Int} {r : Bool} (h : L_laws_eqGate a0_0 a0_1 a0_2 a0_3 a1_0 a1_1 a1_2 a1_3 = some r) : CallOK Tryd.prog Tab 78 [(.agg [(.int .i64 a0_0), (.int .i64 a0_1), (.int .i64 a0_2), (.int .i64 a0_3)]), (.agg [(.int .i64 a1_0), (.int .i64 a1_1), (.int .i64 a1_2), (.int .i64 a1_3)])] (rv_laws_eqGate r) := by
  refine call_of_ (by kernel_rfl) Tryd.func78 c_laws_eqGate (n := 25) (by kernel_rfl) (by simp) (tl := [(0, (.agg [(.int .i64 a0_0), (.int .i64 a0_1), (.int .i64 a0_2), (.int .i64 a0_3)])), (1, (.agg [(.int .i64 a1_0), (.int .i64 a1_1), (.int .i64 a1_2), (.int .i64 a1_3)]))]) rfl ?_
  unfold m_laws_eqGate
  unfold L_laws_eqGate at h
  refine awp_seq_ ?_
  refine awp_region_ 4 (by kernel_rfl) ?_
  refine rs1 (.box (2, 1) 0) (2, 1) (.cells 51 [(.int .i64 a0_0), (.int .i64 a0_1), (.int .i64 a0_2), (.int .i64 a0_3)]) (by kernel_rfl) ?_
  refine rs1 (.box (3, 2) 0) (3, 2) (.cells 51 [(.int .i64 a1_0), (.int .i64 a1_1), (.int .i64 a1_2), (.int .i64 a1_3)]) (by kernel_rfl) ?_
  refine rs0 (.bool false) (by kernel_rfl) ?_
  refine rnil (tn_ ?_)
  refine awp_seq_ ?_
  refine awp_seq_ ?_
  refine awp_region_ 9 (by kernel_rfl) ?_
  refine rs0 (.box (2, 1) 0) (by kernel_rfl) ?_
  refine rsl (.int .i64 a0_0) (by kernel_rfl) ?_
  refine rs0 (.box (3, 2) 0) (by kernel_rfl) ?_
  refine rsl (.int .i64 a1_0) (by kernel_rfl) ?_
  refine rs0 (.bool (a0_0 != a1_0)) (by kernel_rfl) ?_
  refine rnil (tn_ ?_)
  rcases cond_some h with ⟨q4, h⟩ | ⟨q4, h⟩
  · refine awp_condT_ q4 (by kernel_rfl) ?_
    refine awp_seq_ ?_
    refine awp_region_ 10 (by kernel_rfl) ?_
    refine rs0 (.bool false) (by kernel_rfl) ?_
    refine rnil (tn_ ?_)
    refine awp_ret_ (tr_ ?_)
    obtain rfl := Option.some.inj h
    exact ret_ [(.bool false)] (by simp) (by kernel_rfl) (p_one rfl (l_sc (by kernel_rfl)) p_nil) (by kernel_rfl) (by kernel_rfl)
  · refine awp_condF_ q4 (by kernel_rfl) ?_
    refine awp_skip_ (tn_ ?_)
    refine awp_seq_ ?_
    refine awp_seq_ ?_
    refine awp_region_ 14 (by kernel_rfl) ?_
    refine rs0 (.box (2, 1) 1) (by kernel_rfl) ?_
    refine rsl (.int .i64 a0_1) (by kernel_rfl) ?_
    refine rs0 (.box (3, 2) 1) (by kernel_rfl) ?_
    refine rsl (.int .i64 a1_1) (by kernel_rfl) ?_
    refine rs0 (.bool (a0_1 != a1_1)) (by kernel_rfl) ?_
    refine rnil (tn_ ?_)
    rcases cond_some h with ⟨q8, h⟩ | ⟨q8, h⟩
    · refine awp_condT_ q8 (by kernel_rfl) ?_
      refine awp_seq_ ?_
      refine awp_region_ 15 (by kernel_rfl) ?_
      refine rs0 (.bool false) (by kernel_rfl) ?_
      refine rnil (tn_ ?_)
      refine awp_ret_ (tr_ ?_)
      obtain rfl := Option.some.inj h
      exact ret_ [(.bool false)] (by simp) (by kernel_rfl) (p_one rfl (l_sc (by kernel_rfl)) p_nil) (by kernel_rfl) (by kernel_rfl)
    · refine awp_condF_ q8 (by kernel_rfl) ?_
      refine awp_skip_ (tn_ ?_)
      refine awp_seq_ ?_
      refine awp_seq_ ?_
      refine awp_region_ 19 (by kernel_rfl) ?_
      refine rs0 (.box (2, 1) 2) (by kernel_rfl) ?_
      refine rsl (.int .i64 a0_2) (by kernel_rfl) ?_
      refine rs0 (.box (3, 2) 2) (by kernel_rfl) ?_
      refine rsl (.int .i64 a1_2) (by kernel_rfl) ?_
      refine rs0 (.bool (a0_2 != a1_2)) (by kernel_rfl) ?_
      refine rnil (tn_ ?_)
      rcases cond_some h with ⟨q12, h⟩ | ⟨q12, h⟩
      · refine awp_condT_ q12 (by kernel_rfl) ?_
        refine awp_seq_ ?_
        refine awp_region_ 20 (by kernel_rfl) ?_
        refine rs0 (.bool false) (by kernel_rfl) ?_
        refine rnil (tn_ ?_)
        refine awp_ret_ (tr_ ?_)
        obtain rfl := Option.some.inj h
        exact ret_ [(.bool false)] (by simp) (by kernel_rfl) (p_one rfl (l_sc (by kernel_rfl)) p_nil) (by kernel_rfl) (by kernel_rfl)
      · refine awp_condF_ q12 (by kernel_rfl) ?_
        refine awp_skip_ (tn_ ?_)
        refine awp_seq_ ?_
        refine awp_seq_ ?_
        refine awp_region_ 24 (by kernel_rfl) ?_
        refine rs0 (.box (2, 1) 3) (by kernel_rfl) ?_
        refine rsl (.int .i64 a0_3) (by kernel_rfl) ?_
        refine rs0 (.box (3, 2) 3) (by kernel_rfl) ?_
        refine rsl (.int .i64 a1_3) (by kernel_rfl) ?_
        refine rs0 (.bool (a0_3 != a1_3)) (by kernel_rfl) ?_
        refine rnil (tn_ ?_)
        rcases cond_some h with ⟨q16, h⟩ | ⟨q16, h⟩
        · refine awp_condT_ q16 (by kernel_rfl) ?_
          refine awp_seq_ ?_
          refine awp_region_ 25 (by kernel_rfl) ?_
          refine rs0 (.bool false) (by kernel_rfl) ?_
          refine rnil (tn_ ?_)
          refine awp_ret_ (tr_ ?_)
          obtain rfl := Option.some.inj h
          exact ret_ [(.bool false)] (by simp) (by kernel_rfl) (p_one rfl (l_sc (by kernel_rfl)) p_nil) (by kernel_rfl) (by kernel_rfl)
        · refine awp_condF_ q16 (by kernel_rfl) ?_
          refine awp_skip_ (tn_ ?_)
          refine awp_seq_ ?_
          refine awp_region_ 25 (by kernel_rfl) ?_
          refine rs0 (.bool true) (by kernel_rfl) ?_
          refine rnil (tn_ ?_)
          refine awp_ret_ ?_
          obtain rfl := Option.some.inj h
          exact ret_ [(.bool true)] (by simp) (by kernel_rfl) (p_one rfl (l_sc (by kernel_rfl)) p_nil) (by kernel_rfl) (by kernel_rfl)
def m_laws_eqGateS_l1 : AC :=
  (.seq (.seq (.region [⟨(some 11), none, (.i (.mov (.tmp 5)))⟩, ⟨(some 12), none, (.i (.mov (.tmp 0)))⟩, ⟨(some 13), none, (.i (.len (.tmp 12)))⟩, ⟨(some 14), none, (.i (.bin .lss (.tmp 11) (.tmp 13)))⟩] false [])
  (.cond (.tmp 14)
    .skip
    (.exit 0)))
  (.seq (.block 1 (.seq (.region [⟨(some 17), none, (.i (.mov (.tmp 0)))⟩, ⟨(some 18), none, (.i (.mov (.tmp 5)))⟩, ⟨(some 19), none, (.i (.idx 4 (.tmp 17) (.tmp 18)))⟩, ⟨(some 20), none, (.i (.ld false 4 (.tmp 19)))⟩, ⟨(some 21), none, (.i (.mov (.tmp 1)))⟩, ⟨(some 22), none, (.i (.mov (.tmp 5)))⟩, ⟨(some 23), none, (.i (.idx 4 (.tmp 21) (.tmp 22)))⟩, ⟨(some 24), none, (.i (.ld false 4 (.tmp 23)))⟩, ⟨(some 25), none, (.call (.cst (.fn 78 [])) [(.tmp 20), (.tmp 24)] [[none, none, none, none], [none, none, none, none]])⟩, ⟨(some 26), none, (.i (.not (.tmp 25)))⟩] true [])
  (.cond (.tmp 26)
    (.seq (.region [⟨(some 4), none, (.i (.mov (.cst (.bool false))))⟩] false [])
    .ret)
    .skip)))
  (.region [⟨(some 15), none, (.i (.mov (.tmp 5)))⟩, ⟨(some 16), none, (.i (.bin .add (.tmp 15) (.cst (.int .i64 1))))⟩, ⟨(some 5), none, (.i (.mov (.tmp 16)))⟩] false [])))
def m_laws_eqGateS : AC :=
  (.seq (.region [⟨(some 4), none, (.i (.mov (.cst (.bool false))))⟩] false [])
  (.seq (.seq (.region [⟨(some 6), none, (.i (.mov (.tmp 0)))⟩, ⟨(some 7), none, (.i (.len (.tmp 6)))⟩, ⟨(some 8), none, (.i (.mov (.tmp 1)))⟩, ⟨(some 9), none, (.i (.len (.tmp 8)))⟩, ⟨(some 10), none, (.i (.bin .neq (.tmp 7) (.tmp 9)))⟩] false [])
  (.cond (.tmp 10)
    (.seq (.region [⟨(some 4), none, (.i (.mov (.cst (.bool false))))⟩] false [])
    .ret)
    .skip))
  (.seq (.seq (.region [⟨(some 5), none, (.i (.mov (.cst (.int .i64 0))))⟩] false [])
  (.block 0 (.loop m_laws_eqGateS_l1)))
  (.seq (.region [⟨(some 4), none, (.i (.mov (.cst (.bool true))))⟩] false [])
  .ret))))
def r_laws_eqGateS : List Res := [.tmp 4]
theorem c_laws_eqGateS : compiled Tryd.prog Tryd.f39 = some (m_laws_eqGateS, r_laws_eqGateS) := by kernel_rfl
theorem hb_laws_eqGateS : hasBody Tryd.prog 39 = true := by kernel_rfl
def L_laws_eqGateS_l1 (a0 : List (Int × Int × Int × Int)) (a1 : List (Int × Int × Int × Int)) (l8_m5 : Nat) : Option (Ctl Nat (Ctl Unit Bool)) :=
  cond (decide (((l8_m5 : Nat) : Int) < ((a0.length : Nat) : Int)))
  (Option.bind (a0[l8_m5]?) fun x14 =>
  Option.bind (a1[l8_m5]?) fun x15 =>
  Option.bind (L_laws_eqGate x14.1 x14.2.1 x14.2.2.1 x14.2.2.2 x15.1 x15.2.1 x15.2.2.1 x15.2.2.2) fun y16 =>
  cond (!y16)
    (some (Ctl.out (Ctl.out false)))
    (og (l8_m5 + 1 < 4611686018427387904) <|
    some (Ctl.next (l8_m5 + 1))))
  (some (Ctl.out (Ctl.next ())))
def L_laws_eqGateS (a0 : List (Int × Int × Int × Int)) (a1 : List (Int × Int × Int × Int)) : Option Bool :=
  cond (((a0.length : Nat) : Int) != ((a1.length : Nat) : Int))
  (some false)
  (seqC (loopM (fun s_ : Nat => L_laws_eqGateS_l1 a0 a1 s_) 4611686018427387904 0) fun _ =>
  some true)
def rv_laws_eqGateS (r : Bool) : RV := ⟨false, [(false, [.sc (.bool r)])]⟩
theorem ok_laws_eqGateS {a0 : List (Int × Int × Int × Int)} {a1 : List (Int × Int × Int × Int)} {r : Bool} (h : L_laws_eqGateS a0 a1 = some r) : CallOK Tryd.prog Tab 39 [(.tree (.pair .int (.pair .int (.pair .int .int))) a0), (.tree (.pair .int (.pair .int (.pair .int .int))) a1)] (rv_laws_eqGateS r) := by
  refine call_of_ (by kernel_rfl) Tryd.func39 c_laws_eqGateS (n := 27) (by kernel_rfl) (by simp) (tl := [(0, (.tree (.pair .int (.pair .int (.pair .int .int))) a0)), (1, (.tree (.pair .int (.pair .int (.pair .int .int))) a1))]) rfl ?_
  unfold m_laws_eqGateS
  unfold L_laws_eqGateS at h
  refine awp_seq_ ?_
  refine awp_region_ 2 (by kernel_rfl) ?_
  refine rs0 (.bool false) (by kernel_rfl) ?_
  refine rnil (tn_ ?_)
  refine awp_seq_ ?_
  refine awp_seq_ ?_
  refine awp_region_ 7 (by kernel_rfl) ?_
  refine rs0 (.tree (.pair .int (.pair .int (.pair .int .int))) a0) (by kernel_rfl) ?_
  refine rs0 (.int .i64 ((a0.length : Nat) : Int)) (by kernel_rfl) ?_
  refine rs0 (.tree (.pair .int (.pair .int (.pair .int .int))) a1) (by kernel_rfl) ?_
  refine rs0 (.int .i64 ((a1.length : Nat) : Int)) (by kernel_rfl) ?_
  refine rs0 (.bool (((a0.length : Nat) : Int) != ((a1.length : Nat) : Int))) (by kernel_rfl) ?_
  refine rnil (tn_ ?_)
  rcases cond_some h with ⟨q4, h⟩ | ⟨q4, h⟩
  · refine awp_condT_ q4 (by kernel_rfl) ?_
    refine awp_seq_ ?_
    refine awp_region_ 8 (by kernel_rfl) ?_
    refine rs0 (.bool false) (by kernel_rfl) ?_
    refine rnil (tn_ ?_)
    refine awp_ret_ (tr_ ?_)
    obtain rfl := Option.some.inj h
    exact ret_ [(.bool false)] (by simp) (by kernel_rfl) (p_one rfl (l_sc (by kernel_rfl)) p_nil) (by kernel_rfl) (by kernel_rfl)
  · refine awp_condF_ q4 (by kernel_rfl) ?_
    refine awp_skip_ (tn_ ?_)
    refine awp_seqC h (fun (_ : Unit) S_ => S_ = ⟨mkTm [], mkOb (someL []), 2⟩) ?_ ?_
    · intro v_ h hk6
      refine awp_seq_ ?_
      refine awp_region_ 8 (by kernel_rfl) ?_
      refine rs0 (.int .i64 0) (by kernel_rfl) ?_
      refine rnil (tn_ ?_)
      refine awp_block_ ?_
      refine awp_loopL h (fun (l8_m5 : Nat) S_ => S_ = ⟨mkTm [(0, (.tree (.pair .int (.pair .int (.pair .int .int))) a0)), (1, (.tree (.pair .int (.pair .int (.pair .int .int))) a1)), (5, (.int .i64 ((l8_m5 : Nat) : Int)))], mkOb (someL []), 2⟩) ⟨_, (weak_ren (renF []) (by kernel_rfl) (by kernel_rfl) (by kernel_rfl)), rfl⟩ ?_
      · rintro n_ l8_m5 _ c_ rfl h hn8
        (try dsimp only at h)
        unfold L_laws_eqGateS_l1 at h
        unfold m_laws_eqGateS_l1
        refine awp_seq_ ?_
        refine awp_seq_ ?_
        refine awp_region_ 6 (by kernel_rfl) ?_
        refine rs0 (.int .i64 ((l8_m5 : Nat) : Int)) (by kernel_rfl) ?_
        refine rs0 (.tree (.pair .int (.pair .int (.pair .int .int))) a0) (by kernel_rfl) ?_
        refine rs0 (.int .i64 ((a0.length : Nat) : Int)) (by kernel_rfl) ?_
        refine rs0 (.bool (decide (((l8_m5 : Nat) : Int) < ((a0.length : Nat) : Int)))) (by kernel_rfl) ?_
        refine rnil (tn_ ?_)
        rcases cond_some h with ⟨q11, h⟩ | ⟨q11, h⟩
        · have q11_ := of_decide_eq_true q11
          refine awp_condT_ q11 (by kernel_rfl) ?_
          refine awp_skip_ (tn_ ?_)
          refine awp_seq_ ?_
          refine awp_block_ ?_
          refine awp_seq_ ?_
          obtain ⟨x14, e14, h⟩ := ob_some h
          obtain ⟨x15, e15, h⟩ := ob_some h
          obtain ⟨y16, h16, h⟩ := ob_some h
          refine awp_regionD_ 16 (by kernel_rfl) ?_
          refine ds0 (.tree (.pair .int (.pair .int (.pair .int .int))) a0) (by kernel_rfl) ?_
          refine ds0 (.int .i64 ((l8_m5 : Nat) : Int)) (by kernel_rfl) ?_
          refine ds0 (.telt (.pair .int (.pair .int (.pair .int .int))) x14 0) (s_idxT (t := (.pair .int (.pair .int (.pair .int .int)))) (xs := a0) (k := .i64) (m := ((l8_m5 : Nat) : Int)) (by kernel_rfl) (by kernel_rfl) rfl (nat_nn _) rfl e14) ?_
          refine ds0 (.agg [(.int .i64 x14.1), (.int .i64 x14.2.1), (.int .i64 x14.2.2.1), (.int .i64 x14.2.2.2)]) (by kernel_rfl) ?_
          refine ds0 (.tree (.pair .int (.pair .int (.pair .int .int))) a1) (by kernel_rfl) ?_
          refine ds0 (.int .i64 ((l8_m5 : Nat) : Int)) (by kernel_rfl) ?_
          refine ds0 (.telt (.pair .int (.pair .int (.pair .int .int))) x15 0) (s_idxT (t := (.pair .int (.pair .int (.pair .int .int)))) (xs := a1) (k := .i64) (m := ((l8_m5 : Nat) : Int)) (by kernel_rfl) (by kernel_rfl) rfl (nat_nn _) rfl e15) ?_
          refine ds0 (.agg [(.int .i64 x15.1), (.int .i64 x15.2.1), (.int .i64 x15.2.2.1), (.int .i64 x15.2.2.2)]) (by kernel_rfl) ?_
          refine dcall (.bool y16) [] [(.agg [(.int .i64 x14.1), (.int .i64 x14.2.1), (.int .i64 x14.2.2.1), (.int .i64 x14.2.2.2)]), (.agg [(.int .i64 x15.1), (.int .i64 x15.2.1), (.int .i64 x15.2.2.1), (.int .i64 x15.2.2.2)])] _ (caps := []) (args0 := [(.agg [(.int .i64 x14.1), (.int .i64 x14.2.1), (.int .i64 x14.2.2.1), (.int .i64 x14.2.2.2)]), (.agg [(.int .i64 x15.1), (.int .i64 x15.2.1), (.int .i64 x15.2.2.1), (.int .i64 x15.2.2.2)])]) trivial (by kernel_rfl) (by kernel_rfl) (by kernel_rfl) (by kernel_rfl) (ok_laws_eqGate h16) hb_laws_eqGate (by kernel_rfl) ?_
          refine ds0 (.bool (!y16)) (by kernel_rfl) ?_
          refine dnil (by kernel_rfl) (tn_ ?_)
          rcases cond_some h with ⟨q17, h⟩ | ⟨q17, h⟩
          · refine awp_condT_ q17 (by kernel_rfl) ?_
            refine awp_seq_ ?_
            refine awp_region_ 17 (by kernel_rfl) ?_
            refine rs0 (.bool false) (by kernel_rfl) ?_
            refine rnil (tn_ ?_)
            refine awp_ret_ (br_ (tr_ (tr_ (br_ (tr_ ?_)))))
            obtain rfl := Option.some.inj h
            have h := hn8
            (try dsimp only at h)
            obtain rfl := Option.some.inj h
            have h := hk6
            (try dsimp only at h)
            obtain rfl := Option.some.inj h
            exact ret_ [(.bool false)] (by simp) (by kernel_rfl) (p_one rfl (l_sc (by kernel_rfl)) p_nil) (by kernel_rfl) (by kernel_rfl)
          · refine awp_condF_ q17 (by kernel_rfl) ?_
            refine awp_skip_ (bn_ (tn_ ?_))
            obtain ⟨g19, h⟩ := og_some h
            refine awp_region_ 19 (by kernel_rfl) ?_
            refine rs0 (.int .i64 ((l8_m5 : Nat) : Int)) (by kernel_rfl) ?_
            refine rs0 (.int .i64 ((l8_m5 + 1 : Nat) : Int)) (s_add1 (j := l8_m5) (by kernel_rfl) (by kernel_rfl) g19) ?_
            refine rs0 (.int .i64 ((l8_m5 + 1 : Nat) : Int)) (by kernel_rfl) ?_
            refine rnil (tn_ ?_)
            obtain rfl := Option.some.inj h
            exact ⟨l8_m5 + 1, _, (weak_ren (renF []) (by kernel_rfl) (by kernel_rfl) (by kernel_rfl)), rfl, hn8⟩
        · have q11_ := of_decide_eq_false q11
          refine awp_condF_ q11 (by kernel_rfl) ?_
          refine awp_exit_ (te_ (te_ (be_ (tn_ ?_))))
          obtain rfl := Option.some.inj h
          have h := hn8
          (try dsimp only at h)
          obtain rfl := Option.some.inj h
          exact ⟨(), _, rfl, (weak_ren (renF []) (by kernel_rfl) (by kernel_rfl) (by kernel_rfl)), rfl⟩
    · rintro _ _ rfl h
      (try dsimp only at h)
      refine awp_seq_ ?_
      refine awp_region_ 3 (by kernel_rfl) ?_
      refine rs0 (.bool true) (by kernel_rfl) ?_
      refine rnil (tn_ ?_)
      refine awp_ret_ ?_
      obtain rfl := Option.some.inj h
      exact ret_ [(.bool true)] (by simp) (by kernel_rfl) (p_one rfl (l_sc (by kernel_rfl)) p_nil) (by kernel_rfl) (by kernel_rfl)
def m_laws_eqCircuit : AC :=
  (.seq (.region [⟨(some 2), none, (.i (.box 31 (.tmp 0)))⟩, ⟨(some 3), none, (.i (.box 31 (.tmp 1)))⟩, ⟨(some 4), none, (.i (.mov (.cst (.bool false))))⟩] false [])
  (.seq (.seq (.region [⟨(some 5), none, (.i (.fld 0 (.tmp 2)))⟩, ⟨(some 6), none, (.i (.ld true 1 (.tmp 5)))⟩, ⟨(some 7), none, (.i (.fld 0 (.tmp 3)))⟩, ⟨(some 8), none, (.i (.ld true 1 (.tmp 7)))⟩, ⟨(some 9), none, (.i (.bin .neq (.tmp 6) (.tmp 8)))⟩] false [])
  (.cond (.tmp 9)
    (.seq (.region [⟨(some 4), none, (.i (.mov (.cst (.bool false))))⟩] false [])
    .ret)
    .skip))
  (.seq (.seq (.region [⟨(some 10), none, (.i (.fld 1 (.tmp 2)))⟩, ⟨(some 11), none, (.i (.ld true 1 (.tmp 10)))⟩, ⟨(some 12), none, (.i (.fld 1 (.tmp 3)))⟩, ⟨(some 13), none, (.i (.ld true 1 (.tmp 12)))⟩, ⟨(some 14), none, (.call (.cst (.fn 39 [])) [(.tmp 11), (.tmp 13)] [[(some (.pair .int (.pair .int (.pair .int .int))))], [(some (.pair .int (.pair .int (.pair .int .int))))]])⟩, ⟨(some 15), none, (.i (.not (.tmp 14)))⟩] false [])
  (.cond (.tmp 15)
    (.seq (.region [⟨(some 4), none, (.i (.mov (.cst (.bool false))))⟩] false [])
    .ret)
    .skip))
  (.seq (.seq (.region [⟨(some 16), none, (.i (.fld 2 (.tmp 2)))⟩, ⟨(some 17), none, (.i (.ld true 1 (.tmp 16)))⟩, ⟨(some 18), none, (.i (.fld 2 (.tmp 3)))⟩, ⟨(some 19), none, (.i (.ld true 1 (.tmp 18)))⟩, ⟨(some 20), none, (.call (.cst (.fn 14 [])) [(.tmp 17), (.tmp 19)] [[(some .int)], [(some .int)]])⟩, ⟨(some 21), none, (.i (.not (.tmp 20)))⟩] false [])
  (.cond (.tmp 21)
    (.seq (.region [⟨(some 4), none, (.i (.mov (.cst (.bool false))))⟩] false [])
    .ret)
    .skip))
  (.seq (.region [⟨(some 4), none, (.i (.mov (.cst (.bool true))))⟩] false [])
  .ret)))))
def r_laws_eqCircuit : List Res := [.tmp 4]
theorem c_laws_eqCircuit : compiled Tryd.prog Tryd.f15 = some (m_laws_eqCircuit, r_laws_eqCircuit) := by kernel_rfl
theorem hb_laws_eqCircuit : hasBody Tryd.prog 15 = true := by kernel_rfl
def L_laws_eqCircuit (a0_0 : Int) (a0_1 : List (Int × Int × Int × Int)) (a0_2 : List Int) (a1_0 : Int) (a1_1 : List (Int × Int × Int × Int)) (a1_2 : List Int) : Option Bool :=
  cond (a0_0 != a1_0)
  (some false)
  (Option.bind (L_laws_eqGateS a0_1 a1_1) fun y8 =>
  cond (!y8)
    (some false)
    (Option.bind (L_laws_eqIntS a0_2 a1_2) fun y13 =>
    cond (!y13)
      (some false)
      (some true)))
def rv_laws_eqCircuit (r : Bool) : RV := ⟨false, [(false, [.sc (.bool r)])]⟩
theorem ok_laws_eqCircuit {a0_0 : Int} {a0_1 : List (Int × Int × Int × Int)} {a0_2 : List Int} {a1_0 : Int} {a1_1 : List (Int × Int × Int × Int)} {a1_2 : List Int} {r : Bool} (h : L_laws_eqCircuit a0_0 a0_1 a0_2 a1_0 a1_1 a1_2 = some r) : CallOK Tryd.prog Tab 15 [(.agg [(.int .i64 a0_0), (.tree (.pair .int (.pair .int (.pair .int .int))) a0_1), (.tree .int a0_2)]), (.agg [(.int .i64 a1_0), (.tree (.pair .int (.pair .int (.pair .int .int))) a1_1), (.tree .int a1_2)])] (rv_laws_eqCircuit r) := by
  refine call_of_ (by kernel_rfl) Tryd.func15 c_laws_eqCircuit (n := 22) (by kernel_rfl) (by simp) (tl := [(0, (.agg [(.int .i64 a0_0), (.tree (.pair .int (.pair .int (.pair .int .int))) a0_1), (.tree .int a0_2)])), (1, (.agg [(.int .i64 a1_0), (.tree (.pair .int (.pair .int (.pair .int .int))) a1_1), (.tree .int a1_2)]))]) rfl ?_
  unfold m_laws_eqCircuit
  unfold L_laws_eqCircuit at h
  refine awp_seq_ ?_
  refine awp_region_ 4 (by kernel_rfl) ?_
  refine rs1 (.box (2, 1) 0) (2, 1) (.cells 31 [(.int .i64 a0_0), (.tree (.pair .int (.pair .int (.pair .int .int))) a0_1), (.tree .int a0_2)]) (by kernel_rfl) ?_
  refine rs1 (.box (3, 2) 0) (3, 2) (.cells 31 [(.int .i64 a1_0), (.tree (.pair .int (.pair .int (.pair .int .int))) a1_1), (.tree .int a1_2)]) (by kernel_rfl) ?_
  refine rs0 (.bool false) (by kernel_rfl) ?_
  refine rnil (tn_ ?_)
  refine awp_seq_ ?_
  refine awp_seq_ ?_
  refine awp_region_ 9 (by kernel_rfl) ?_
  refine rs0 (.box (2, 1) 0) (by kernel_rfl) ?_
  refine rsl (.int .i64 a0_0) (by kernel_rfl) ?_
  refine rs0 (.box (3, 2) 0) (by kernel_rfl) ?_
  refine rsl (.int .i64 a1_0) (by kernel_rfl) ?_
  refine rs0 (.bool (a0_0 != a1_0)) (by kernel_rfl) ?_
  refine rnil (tn_ ?_)
  rcases cond_some h with ⟨q4, h⟩ | ⟨q4, h⟩
  · refine awp_condT_ q4 (by kernel_rfl) ?_
    refine awp_seq_ ?_
    refine awp_region_ 10 (by kernel_rfl) ?_
    refine rs0 (.bool false) (by kernel_rfl) ?_
    refine rnil (tn_ ?_)
    refine awp_ret_ (tr_ ?_)
    obtain rfl := Option.some.inj h
    exact ret_ [(.bool false)] (by simp) (by kernel_rfl) (p_one rfl (l_sc (by kernel_rfl)) p_nil) (by kernel_rfl) (by kernel_rfl)
  · refine awp_condF_ q4 (by kernel_rfl) ?_
    refine awp_skip_ (tn_ ?_)
    refine awp_seq_ ?_
    refine awp_seq_ ?_
    obtain ⟨y8, h8, h⟩ := ob_some h
    refine awp_region_ 15 (by kernel_rfl) ?_
    refine rs0 (.box (2, 1) 1) (by kernel_rfl) ?_
    refine rsl (.tree (.pair .int (.pair .int (.pair .int .int))) a0_1) (by kernel_rfl) ?_
    refine rs0 (.box (3, 2) 1) (by kernel_rfl) ?_
    refine rsl (.tree (.pair .int (.pair .int (.pair .int .int))) a1_1) (by kernel_rfl) ?_
    refine rcall (.bool y8) [] [(.tree (.pair .int (.pair .int (.pair .int .int))) a0_1), (.tree (.pair .int (.pair .int (.pair .int .int))) a1_1)] _ (caps := []) (args0 := [(.tree (.pair .int (.pair .int (.pair .int .int))) a0_1), (.tree (.pair .int (.pair .int (.pair .int .int))) a1_1)]) trivial (by kernel_rfl) (by kernel_rfl) (by kernel_rfl) (by kernel_rfl) (ok_laws_eqGateS h8) hb_laws_eqGateS (by kernel_rfl) ?_
    refine rs0 (.bool (!y8)) (by kernel_rfl) ?_
    refine rnil (tn_ ?_)
    rcases cond_some h with ⟨q9, h⟩ | ⟨q9, h⟩
    · refine awp_condT_ q9 (by kernel_rfl) ?_
      refine awp_seq_ ?_
      refine awp_region_ 16 (by kernel_rfl) ?_
      refine rs0 (.bool false) (by kernel_rfl) ?_
      refine rnil (tn_ ?_)
      refine awp_ret_ (tr_ ?_)
      obtain rfl := Option.some.inj h
      exact ret_ [(.bool false)] (by simp) (by kernel_rfl) (p_one rfl (l_sc (by kernel_rfl)) p_nil) (by kernel_rfl) (by kernel_rfl)
    · refine awp_condF_ q9 (by kernel_rfl) ?_
      refine awp_skip_ (tn_ ?_)
      refine awp_seq_ ?_
      refine awp_seq_ ?_
      obtain ⟨y13, h13, h⟩ := ob_some h
      refine awp_region_ 21 (by kernel_rfl) ?_
      refine rs0 (.box (2, 1) 2) (by kernel_rfl) ?_
      refine rsl (.tree .int a0_2) (by kernel_rfl) ?_
      refine rs0 (.box (3, 2) 2) (by kernel_rfl) ?_
      refine rsl (.tree .int a1_2) (by kernel_rfl) ?_
      refine rcall (.bool y13) [] [(.tree .int a0_2), (.tree .int a1_2)] _ (caps := []) (args0 := [(.tree .int a0_2), (.tree .int a1_2)]) trivial (by kernel_rfl) (by kernel_rfl) (by kernel_rfl) (by kernel_rfl) (ok_laws_eqIntS h13) hb_laws_eqIntS (by kernel_rfl) ?_
      refine rs0 (.bool (!y13)) (by kernel_rfl) ?_
      refine rnil (tn_ ?_)
      rcases cond_some h with ⟨q14, h⟩ | ⟨q14, h⟩
      · refine awp_condT_ q14 (by kernel_rfl) ?_
        refine awp_seq_ ?_
        refine awp_region_ 22 (by kernel_rfl) ?_
        refine rs0 (.bool false) (by kernel_rfl) ?_
        refine rnil (tn_ ?_)
        refine awp_ret_ (tr_ ?_)
        obtain rfl := Option.some.inj h
        exact ret_ [(.bool false)] (by simp) (by kernel_rfl) (p_one rfl (l_sc (by kernel_rfl)) p_nil) (by kernel_rfl) (by kernel_rfl)
      · refine awp_condF_ q14 (by kernel_rfl) ?_
        refine awp_skip_ (tn_ ?_)
        refine awp_seq_ ?_
        refine awp_region_ 22 (by kernel_rfl) ?_
        refine rs0 (.bool true) (by kernel_rfl) ?_
        refine rnil (tn_ ?_)
        refine awp_ret_ ?_
        obtain rfl := Option.some.inj h
        exact ret_ [(.bool true)] (by simp) (by kernel_rfl) (p_one rfl (l_sc (by kernel_rfl)) p_nil) (by kernel_rfl) (by kernel_rfl)
def m_laws_markGateS_l1 : AC :=
  (.seq (.seq (.region [⟨(some 6), none, (.i (.mov (.tmp 5)))⟩, ⟨(some 7), none, (.i (.mov (.tmp 0)))⟩, ⟨(some 8), none, (.i (.len (.tmp 7)))⟩, ⟨(some 9), none, (.i (.bin .lss (.tmp 6) (.tmp 8)))⟩] false [])
  (.cond (.tmp 9)
    .skip
    (.exit 0)))
  (.seq (.block 1 (.seq (.region [⟨(some 12), none, (.i (.mov (.tmp 0)))⟩, ⟨(some 13), none, (.i (.mov (.tmp 5)))⟩, ⟨(some 14), none, (.i (.mov (.tmp 1)))⟩, ⟨(some 15), none, (.i (.idx 4 (.tmp 12) (.tmp 13)))⟩, ⟨(some 16), none, (.i (.fld 0 (.tmp 15)))⟩, ⟨none, none, (.st true 1 (.tmp 16) (.tmp 14))⟩] false [])
  (.seq (.region [⟨(some 17), none, (.i (.mov (.tmp 1)))⟩, ⟨(some 18), none, (.i (.bin .add (.tmp 17) (.cst (.int .i64 1))))⟩, ⟨(some 1), none, (.i (.mov (.tmp 18)))⟩] false [])
  (.seq (.region [⟨(some 19), none, (.i (.mov (.tmp 0)))⟩, ⟨(some 20), none, (.i (.mov (.tmp 5)))⟩, ⟨(some 21), none, (.i (.mov (.tmp 1)))⟩, ⟨(some 22), none, (.i (.idx 4 (.tmp 19) (.tmp 20)))⟩, ⟨(some 23), none, (.i (.fld 1 (.tmp 22)))⟩, ⟨none, none, (.st true 1 (.tmp 23) (.tmp 21))⟩] false [])
  (.seq (.region [⟨(some 24), none, (.i (.mov (.tmp 1)))⟩, ⟨(some 25), none, (.i (.bin .add (.tmp 24) (.cst (.int .i64 1))))⟩, ⟨(some 1), none, (.i (.mov (.tmp 25)))⟩] false [])
  (.seq (.region [⟨(some 26), none, (.i (.mov (.tmp 0)))⟩, ⟨(some 27), none, (.i (.mov (.tmp 5)))⟩, ⟨(some 28), none, (.i (.mov (.tmp 1)))⟩, ⟨(some 29), none, (.i (.idx 4 (.tmp 26) (.tmp 27)))⟩, ⟨(some 30), none, (.i (.fld 2 (.tmp 29)))⟩, ⟨none, none, (.st true 1 (.tmp 30) (.tmp 28))⟩] false [])
  (.seq (.region [⟨(some 31), none, (.i (.mov (.tmp 1)))⟩, ⟨(some 32), none, (.i (.bin .add (.tmp 31) (.cst (.int .i64 1))))⟩, ⟨(some 1), none, (.i (.mov (.tmp 32)))⟩] false [])
  (.seq (.region [⟨(some 33), none, (.i (.mov (.tmp 0)))⟩, ⟨(some 34), none, (.i (.mov (.tmp 5)))⟩, ⟨(some 35), none, (.i (.mov (.tmp 1)))⟩, ⟨(some 36), none, (.i (.idx 4 (.tmp 33) (.tmp 34)))⟩, ⟨(some 37), none, (.i (.fld 3 (.tmp 36)))⟩, ⟨none, none, (.st true 1 (.tmp 37) (.tmp 35))⟩] false [])
  (.region [⟨(some 38), none, (.i (.mov (.tmp 1)))⟩, ⟨(some 39), none, (.i (.bin .add (.tmp 38) (.cst (.int .i64 1))))⟩, ⟨(some 1), none, (.i (.mov (.tmp 39)))⟩] false [])))))))))
  (.region [⟨(some 10), none, (.i (.mov (.tmp 5)))⟩, ⟨(some 11), none, (.i (.bin .add (.tmp 10) (.cst (.int .i64 1))))⟩, ⟨(some 5), none, (.i (.mov (.tmp 11)))⟩] false [])))
def m_laws_markGateS : AC :=
  (.seq (.region [⟨(some 4), none, (.i (.mov (.cst (.int .i64 0))))⟩] false [])
  (.seq (.seq (.region [⟨(some 5), none, (.i (.mov (.cst (.int .i64 0))))⟩] false [])
  (.block 0 (.loop m_laws_markGateS_l1)))
  (.seq (.region [⟨(some 40), none, (.i (.mov (.tmp 1)))⟩, ⟨(some 4), none, (.i (.mov (.tmp 40)))⟩] false [])
  .ret)))
def r_laws_markGateS : List Res := [.tmp 4]
theorem c_laws_markGateS : compiled Tryd.prog Tryd.f40 = some (m_laws_markGateS, r_laws_markGateS) := by kernel_rfl
theorem hb_laws_markGateS : hasBody Tryd.prog 40 = true := by kernel_rfl
def L_laws_markGateS_l1  (l4_m1 : Int) (l4_m5 : Nat) (l4_m0 : List (Int × Int × Int × Int)) : Option (Ctl (Int × Nat × (List (Int × Int × Int × Int))) (Int × (List (Int × Int × Int × Int)))) :=
  cond (decide (((l4_m5 : Nat) : Int) < ((l4_m0.length : Nat) : Int)))
  (Option.bind (l4_m0[l4_m5]?) fun x10 =>
  Option.bind ((l4_m0.set l4_m5 (l4_m1, x10.2))[l4_m5]?) fun x13 =>
  Option.bind (((l4_m0.set l4_m5 (l4_m1, x10.2)).set l4_m5 (x13.1, IntKind.i64.wrap (l4_m1 + 1), x13.2.2))[l4_m5]?) fun x16 =>
  Option.bind ((((l4_m0.set l4_m5 (l4_m1, x10.2)).set l4_m5 (x13.1, IntKind.i64.wrap (l4_m1 + 1), x13.2.2)).set l4_m5 (x16.1, x16.2.1, IntKind.i64.wrap (IntKind.i64.wrap (l4_m1 + 1) + 1), x16.2.2.2))[l4_m5]?) fun x19 =>
  og (l4_m5 + 1 < 4611686018427387904) <|
  some (Ctl.next (IntKind.i64.wrap (IntKind.i64.wrap (IntKind.i64.wrap (IntKind.i64.wrap (l4_m1 + 1) + 1) + 1) + 1), l4_m5 + 1, (((l4_m0.set l4_m5 (l4_m1, x10.2)).set l4_m5 (x13.1, IntKind.i64.wrap (l4_m1 + 1), x13.2.2)).set l4_m5 (x16.1, x16.2.1, IntKind.i64.wrap (IntKind.i64.wrap (l4_m1 + 1) + 1), x16.2.2.2)).set l4_m5 (x19.1, x19.2.1, x19.2.2.1, IntKind.i64.wrap (IntKind.i64.wrap (IntKind.i64.wrap (l4_m1 + 1) + 1) + 1)))))
  (some (Ctl.out (l4_m1, l4_m0)))
def L_laws_markGateS (a0 : List (Int × Int × Int × Int)) (a1 : Int) : Option (List (Int × Int × Int × Int) × Int) :=
  Option.bind (loopM (fun s_ : Int × Nat × (List (Int × Int × Int × Int)) => L_laws_markGateS_l1 s_.1 s_.2.1 s_.2.2) 4611686018427387904 (a1, 0, a0)) fun (l2_m1, l2_p0) =>
some (l2_p0, l2_m1)
theorem ok_laws_markGateS {a0 : List (Int × Int × Int × Int)} {a1 : Int} {r : List (Int × Int × Int × Int) × Int} (h : L_laws_markGateS a0 a1 = some r) {n_a0 : Nat} (hn_a0 : n_a0 = a0.length) : CallM Tryd.prog Tab 40 [(.own (0, 0) (.pair .int (.pair .int (.pair .int .int))) 0 n_a0), (.int .i64 a1)] [((0, 0), .arr 51 (.pair .int (.pair .int (.pair .int .int))) a0)] (.int .i64 r.2) [((0, 0), .arr 51 (.pair .int (.pair .int (.pair .int .int))) r.1)] := by
  refine callM_of_ (by kernel_rfl) Tryd.func40 c_laws_markGateS (n := 41) (by kernel_rfl) (by simp) (tl := [(0, (.own (0, 0) (.pair .int (.pair .int (.pair .int .int))) 0 n_a0)), (1, (.int .i64 a1))]) rfl (by kernel_rfl) (by kernel_rfl) (by kernel_rfl) (by kernel_rfl) (by kernel_rfl) (.inl rfl) ?_
  unfold m_laws_markGateS
  unfold L_laws_markGateS at h
  refine awp_seq_ ?_
  refine awp_region_ 2 (by kernel_rfl) ?_
  refine rs0 (.int .i64 0) (by kernel_rfl) ?_
  refine rnil (tn_ ?_)
  refine awp_seqB h (fun t_ S_ => ∃ (l2_m1 : Int), ∃ (l2_p0 : List (Int × Int × Int × Int)), t_ = (l2_m1, l2_p0) ∧ S_ = ⟨mkTm [(1, (.int .i64 l2_m1))], mkOb (someL [((0, 0), .arr 51 (.pair .int (.pair .int (.pair .int .int))) l2_p0)]), 2⟩) ?_ ?_
  · intro v_ h
    refine awp_seq_ ?_
    refine awp_region_ 3 (by kernel_rfl) ?_
    refine rs0 (.int .i64 0) (by kernel_rfl) ?_
    refine rnil (tn_ ?_)
    refine awp_block_ ?_
    refine awp_loopL h (fun t_ S_ => ∃ (l4_m1 : Int), ∃ (l4_m5 : Nat), ∃ (l4_m0 : List (Int × Int × Int × Int)), t_ = (l4_m1, l4_m5, l4_m0) ∧ S_ = ⟨mkTm [(0, (.own (0, 0) (.pair .int (.pair .int (.pair .int .int))) 0 l4_m0.length)), (1, (.int .i64 l4_m1)), (5, (.int .i64 ((l4_m5 : Nat) : Int)))], mkOb (someL [((0, 0), .arr 51 (.pair .int (.pair .int (.pair .int .int))) l4_m0)]), 2⟩) ⟨_, ((weak_tm_ 0 (.own (0, 0) (.pair .int (.pair .int (.pair .int .int))) 0 n_a0) (.own (0, 0) (.pair .int (.pair .int (.pair .int .int))) 0 a0.length) (by kernel_rfl) (congrArg (fun z_ => ((.own (0, 0) (.pair .int (.pair .int (.pair .int .int))) 0 z_) : AV)) (hn_a0 : n_a0 = a0.length))).trans (weak_ren (renF []) (by kernel_rfl) (by kernel_rfl) (by kernel_rfl))), ⟨a1, 0, a0, rfl, rfl⟩⟩ ?_
    · rintro n_ _ _ c_ ⟨l4_m1, l4_m5, l4_m0, rfl, rfl⟩ h hn4
      (try dsimp only at h)
      unfold L_laws_markGateS_l1 at h
      unfold m_laws_markGateS_l1
      refine awp_seq_ ?_
      refine awp_seq_ ?_
      refine awp_region_ 6 (by kernel_rfl) ?_
      refine rs0 (.int .i64 ((l4_m5 : Nat) : Int)) (by kernel_rfl) ?_
      refine rs0 (.own (0, 0) (.pair .int (.pair .int (.pair .int .int))) 0 l4_m0.length) (by kernel_rfl) ?_
      refine rs0 (.int .i64 ((l4_m0.length : Nat) : Int)) (by kernel_rfl) ?_
      refine rs0 (.bool (decide (((l4_m5 : Nat) : Int) < ((l4_m0.length : Nat) : Int)))) (by kernel_rfl) ?_
      refine rnil (tn_ ?_)
      rcases cond_some h with ⟨q7, h⟩ | ⟨q7, h⟩
      · have q7_ := of_decide_eq_true q7
        refine awp_condT_ q7 (by kernel_rfl) ?_
        refine awp_skip_ (tn_ ?_)
        refine awp_seq_ ?_
        refine awp_block_ ?_
        refine awp_seq_ ?_
        obtain ⟨x10, e10, h⟩ := ob_some h
        refine awp_region_ 12 (by kernel_rfl) ?_
        refine rs0 (.own (0, 0) (.pair .int (.pair .int (.pair .int .int))) 0 l4_m0.length) (by kernel_rfl) ?_
        refine rs0 (.int .i64 ((l4_m5 : Nat) : Int)) (by kernel_rfl) ?_
        refine rs0 (.int .i64 l4_m1) (by kernel_rfl) ?_
        refine rs0 (.elt (0, 0) l4_m5 0) (s_idxO (t := (.pair .int (.pair .int (.pair .int .int)))) (o := (0, 0)) (len := l4_m0.length) (k := .i64) (m := ((l4_m5 : Nat) : Int)) (by kernel_rfl) (by kernel_rfl) rfl (nat_nn _) rfl (getN_lt e10)) ?_
        refine rs0 (.elt (0, 0) l4_m5 0) (by kernel_rfl) ?_
        refine rsn2 (0, 0) (0, 0) (.arr 51 (.pair .int (.pair .int (.pair .int .int))) (l4_m0.set l4_m5 (l4_m1, x10.2))) (s_stE (i := (0, 0)) (j := l4_m5) (k := 0) (e := 51) (t := (.pair .int (.pair .int (.pair .int .int)))) (xs := l4_m0) (cs := [(.int .i64 l4_m1), (.int .i64 x10.2.1), (.int .i64 x10.2.2.1), (.int .i64 x10.2.2.2)]) (x1 := (l4_m1, x10.2)) (by kernel_rfl) (by kernel_rfl) e10 (by kernel_rfl) (by kernel_rfl)) ?_
        refine rnil (tn_ ?_)
        refine awp_seq_ ?_
        refine awp_region_ 15 (by kernel_rfl) ?_
        refine rs0 (.int .i64 l4_m1) (by kernel_rfl) ?_
        refine rs0 (.int .i64 (IntKind.i64.wrap (l4_m1 + 1))) (by kernel_rfl) ?_
        refine rs0 (.int .i64 (IntKind.i64.wrap (l4_m1 + 1))) (by kernel_rfl) ?_
        refine rnil (tn_ ?_)
        refine awp_seq_ ?_
        obtain ⟨x13, e13, h⟩ := ob_some h
        refine awp_region_ 21 (by kernel_rfl) ?_
        refine rs0 (.own (0, 0) (.pair .int (.pair .int (.pair .int .int))) 0 l4_m0.length) (by kernel_rfl) ?_
        refine rs0 (.int .i64 ((l4_m5 : Nat) : Int)) (by kernel_rfl) ?_
        refine rs0 (.int .i64 (IntKind.i64.wrap (l4_m1 + 1))) (by kernel_rfl) ?_
        refine rs0 (.elt (0, 0) l4_m5 0) (s_idxO (t := (.pair .int (.pair .int (.pair .int .int)))) (o := (0, 0)) (len := l4_m0.length) (k := .i64) (m := ((l4_m5 : Nat) : Int)) (by kernel_rfl) (by kernel_rfl) rfl (nat_nn _) rfl (by rw [((rfl : l4_m0.length = l4_m0.length).trans List.length_set.symm)]; exact getN_lt e13)) ?_
        refine rs0 (.elt (0, 0) l4_m5 1) (by kernel_rfl) ?_
        refine rsn2 (0, 0) (0, 0) (.arr 51 (.pair .int (.pair .int (.pair .int .int))) ((l4_m0.set l4_m5 (l4_m1, x10.2)).set l4_m5 (x13.1, IntKind.i64.wrap (l4_m1 + 1), x13.2.2))) (s_stE (i := (0, 0)) (j := l4_m5) (k := 1) (e := 51) (t := (.pair .int (.pair .int (.pair .int .int)))) (xs := l4_m0.set l4_m5 (l4_m1, x10.2)) (cs := [(.int .i64 x13.1), (.int .i64 (IntKind.i64.wrap (l4_m1 + 1))), (.int .i64 x13.2.2.1), (.int .i64 x13.2.2.2)]) (x1 := (x13.1, IntKind.i64.wrap (l4_m1 + 1), x13.2.2)) (by kernel_rfl) (by kernel_rfl) e13 (by kernel_rfl) (by kernel_rfl)) ?_
        refine rnil (tn_ ?_)
        refine awp_seq_ ?_
        refine awp_region_ 24 (by kernel_rfl) ?_
        refine rs0 (.int .i64 (IntKind.i64.wrap (l4_m1 + 1))) (by kernel_rfl) ?_
        refine rs0 (.int .i64 (IntKind.i64.wrap (IntKind.i64.wrap (l4_m1 + 1) + 1))) (by kernel_rfl) ?_
        refine rs0 (.int .i64 (IntKind.i64.wrap (IntKind.i64.wrap (l4_m1 + 1) + 1))) (by kernel_rfl) ?_
        refine rnil (tn_ ?_)
        refine awp_seq_ ?_
        obtain ⟨x16, e16, h⟩ := ob_some h
        refine awp_region_ 30 (by kernel_rfl) ?_
        refine rs0 (.own (0, 0) (.pair .int (.pair .int (.pair .int .int))) 0 l4_m0.length) (by kernel_rfl) ?_
        refine rs0 (.int .i64 ((l4_m5 : Nat) : Int)) (by kernel_rfl) ?_
        refine rs0 (.int .i64 (IntKind.i64.wrap (IntKind.i64.wrap (l4_m1 + 1) + 1))) (by kernel_rfl) ?_
        refine rs0 (.elt (0, 0) l4_m5 0) (s_idxO (t := (.pair .int (.pair .int (.pair .int .int)))) (o := (0, 0)) (len := l4_m0.length) (k := .i64) (m := ((l4_m5 : Nat) : Int)) (by kernel_rfl) (by kernel_rfl) rfl (nat_nn _) rfl (by rw [(((rfl : l4_m0.length = l4_m0.length).trans List.length_set.symm).trans List.length_set.symm)]; exact getN_lt e16)) ?_
        refine rs0 (.elt (0, 0) l4_m5 2) (by kernel_rfl) ?_
        refine rsn2 (0, 0) (0, 0) (.arr 51 (.pair .int (.pair .int (.pair .int .int))) (((l4_m0.set l4_m5 (l4_m1, x10.2)).set l4_m5 (x13.1, IntKind.i64.wrap (l4_m1 + 1), x13.2.2)).set l4_m5 (x16.1, x16.2.1, IntKind.i64.wrap (IntKind.i64.wrap (l4_m1 + 1) + 1), x16.2.2.2))) (s_stE (i := (0, 0)) (j := l4_m5) (k := 2) (e := 51) (t := (.pair .int (.pair .int (.pair .int .int)))) (xs := (l4_m0.set l4_m5 (l4_m1, x10.2)).set l4_m5 (x13.1, IntKind.i64.wrap (l4_m1 + 1), x13.2.2)) (cs := [(.int .i64 x16.1), (.int .i64 x16.2.1), (.int .i64 (IntKind.i64.wrap (IntKind.i64.wrap (l4_m1 + 1) + 1))), (.int .i64 x16.2.2.2)]) (x1 := (x16.1, x16.2.1, IntKind.i64.wrap (IntKind.i64.wrap (l4_m1 + 1) + 1), x16.2.2.2)) (by kernel_rfl) (by kernel_rfl) e16 (by kernel_rfl) (by kernel_rfl)) ?_
        refine rnil (tn_ ?_)
        refine awp_seq_ ?_
        refine awp_region_ 33 (by kernel_rfl) ?_
        refine rs0 (.int .i64 (IntKind.i64.wrap (IntKind.i64.wrap (l4_m1 + 1) + 1))) (by kernel_rfl) ?_
        refine rs0 (.int .i64 (IntKind.i64.wrap (IntKind.i64.wrap (IntKind.i64.wrap (l4_m1 + 1) + 1) + 1))) (by kernel_rfl) ?_
        refine rs0 (.int .i64 (IntKind.i64.wrap (IntKind.i64.wrap (IntKind.i64.wrap (l4_m1 + 1) + 1) + 1))) (by kernel_rfl) ?_
        refine rnil (tn_ ?_)
        refine awp_seq_ ?_
        obtain ⟨x19, e19, h⟩ := ob_some h
        refine awp_region_ 39 (by kernel_rfl) ?_
        refine rs0 (.own (0, 0) (.pair .int (.pair .int (.pair .int .int))) 0 l4_m0.length) (by kernel_rfl) ?_
        refine rs0 (.int .i64 ((l4_m5 : Nat) : Int)) (by kernel_rfl) ?_
        refine rs0 (.int .i64 (IntKind.i64.wrap (IntKind.i64.wrap (IntKind.i64.wrap (l4_m1 + 1) + 1) + 1))) (by kernel_rfl) ?_
        refine rs0 (.elt (0, 0) l4_m5 0) (s_idxO (t := (.pair .int (.pair .int (.pair .int .int)))) (o := (0, 0)) (len := l4_m0.length) (k := .i64) (m := ((l4_m5 : Nat) : Int)) (by kernel_rfl) (by kernel_rfl) rfl (nat_nn _) rfl (by rw [((((rfl : l4_m0.length = l4_m0.length).trans List.length_set.symm).trans List.length_set.symm).trans List.length_set.symm)]; exact getN_lt e19)) ?_
        refine rs0 (.elt (0, 0) l4_m5 3) (by kernel_rfl) ?_
        refine rsn2 (0, 0) (0, 0) (.arr 51 (.pair .int (.pair .int (.pair .int .int))) ((((l4_m0.set l4_m5 (l4_m1, x10.2)).set l4_m5 (x13.1, IntKind.i64.wrap (l4_m1 + 1), x13.2.2)).set l4_m5 (x16.1, x16.2.1, IntKind.i64.wrap (IntKind.i64.wrap (l4_m1 + 1) + 1), x16.2.2.2)).set l4_m5 (x19.1, x19.2.1, x19.2.2.1, IntKind.i64.wrap (IntKind.i64.wrap (IntKind.i64.wrap (l4_m1 + 1) + 1) + 1)))) (s_stE (i := (0, 0)) (j := l4_m5) (k := 3) (e := 51) (t := (.pair .int (.pair .int (.pair .int .int)))) (xs := ((l4_m0.set l4_m5 (l4_m1, x10.2)).set l4_m5 (x13.1, IntKind.i64.wrap (l4_m1 + 1), x13.2.2)).set l4_m5 (x16.1, x16.2.1, IntKind.i64.wrap (IntKind.i64.wrap (l4_m1 + 1) + 1), x16.2.2.2)) (cs := [(.int .i64 x19.1), (.int .i64 x19.2.1), (.int .i64 x19.2.2.1), (.int .i64 (IntKind.i64.wrap (IntKind.i64.wrap (IntKind.i64.wrap (l4_m1 + 1) + 1) + 1)))]) (x1 := (x19.1, x19.2.1, x19.2.2.1, IntKind.i64.wrap (IntKind.i64.wrap (IntKind.i64.wrap (l4_m1 + 1) + 1) + 1))) (by kernel_rfl) (by kernel_rfl) e19 (by kernel_rfl) (by kernel_rfl)) ?_
        refine rnil (tn_ ?_)
        refine awp_region_ 42 (by kernel_rfl) ?_
        refine rs0 (.int .i64 (IntKind.i64.wrap (IntKind.i64.wrap (IntKind.i64.wrap (l4_m1 + 1) + 1) + 1))) (by kernel_rfl) ?_
        refine rs0 (.int .i64 (IntKind.i64.wrap (IntKind.i64.wrap (IntKind.i64.wrap (IntKind.i64.wrap (l4_m1 + 1) + 1) + 1) + 1))) (by kernel_rfl) ?_
        refine rs0 (.int .i64 (IntKind.i64.wrap (IntKind.i64.wrap (IntKind.i64.wrap (IntKind.i64.wrap (l4_m1 + 1) + 1) + 1) + 1))) (by kernel_rfl) ?_
        refine rnil (bn_ (tn_ ?_))
        obtain ⟨g20, h⟩ := og_some h
        refine awp_region_ 45 (by kernel_rfl) ?_
        refine rs0 (.int .i64 ((l4_m5 : Nat) : Int)) (by kernel_rfl) ?_
        refine rs0 (.int .i64 ((l4_m5 + 1 : Nat) : Int)) (s_add1 (j := l4_m5) (by kernel_rfl) (by kernel_rfl) g20) ?_
        refine rs0 (.int .i64 ((l4_m5 + 1 : Nat) : Int)) (by kernel_rfl) ?_
        refine rnil (tn_ ?_)
        obtain rfl := Option.some.inj h
        exact ⟨(IntKind.i64.wrap (IntKind.i64.wrap (IntKind.i64.wrap (IntKind.i64.wrap (l4_m1 + 1) + 1) + 1) + 1), l4_m5 + 1, (((l4_m0.set l4_m5 (l4_m1, x10.2)).set l4_m5 (x13.1, IntKind.i64.wrap (l4_m1 + 1), x13.2.2)).set l4_m5 (x16.1, x16.2.1, IntKind.i64.wrap (IntKind.i64.wrap (l4_m1 + 1) + 1), x16.2.2.2)).set l4_m5 (x19.1, x19.2.1, x19.2.2.1, IntKind.i64.wrap (IntKind.i64.wrap (IntKind.i64.wrap (l4_m1 + 1) + 1) + 1))), _, ((weak_tm_ 0 (.own (0, 0) (.pair .int (.pair .int (.pair .int .int))) 0 l4_m0.length) (.own (0, 0) (.pair .int (.pair .int (.pair .int .int))) 0 (((((l4_m0.set l4_m5 (l4_m1, x10.2)).set l4_m5 (x13.1, IntKind.i64.wrap (l4_m1 + 1), x13.2.2)).set l4_m5 (x16.1, x16.2.1, IntKind.i64.wrap (IntKind.i64.wrap (l4_m1 + 1) + 1), x16.2.2.2)).set l4_m5 (x19.1, x19.2.1, x19.2.2.1, IntKind.i64.wrap (IntKind.i64.wrap (IntKind.i64.wrap (l4_m1 + 1) + 1) + 1))).length)) (by kernel_rfl) (congrArg (fun z_ => ((.own (0, 0) (.pair .int (.pair .int (.pair .int .int))) 0 z_) : AV)) ((((((rfl : l4_m0.length = l4_m0.length).trans List.length_set.symm).trans List.length_set.symm).trans List.length_set.symm).trans List.length_set.symm) : l4_m0.length = ((((l4_m0.set l4_m5 (l4_m1, x10.2)).set l4_m5 (x13.1, IntKind.i64.wrap (l4_m1 + 1), x13.2.2)).set l4_m5 (x16.1, x16.2.1, IntKind.i64.wrap (IntKind.i64.wrap (l4_m1 + 1) + 1), x16.2.2.2)).set l4_m5 (x19.1, x19.2.1, x19.2.2.1, IntKind.i64.wrap (IntKind.i64.wrap (IntKind.i64.wrap (l4_m1 + 1) + 1) + 1))).length))).trans (weak_ren (renF []) (by kernel_rfl) (by kernel_rfl) (by kernel_rfl))), ⟨IntKind.i64.wrap (IntKind.i64.wrap (IntKind.i64.wrap (IntKind.i64.wrap (l4_m1 + 1) + 1) + 1) + 1), l4_m5 + 1, (((l4_m0.set l4_m5 (l4_m1, x10.2)).set l4_m5 (x13.1, IntKind.i64.wrap (l4_m1 + 1), x13.2.2)).set l4_m5 (x16.1, x16.2.1, IntKind.i64.wrap (IntKind.i64.wrap (l4_m1 + 1) + 1), x16.2.2.2)).set l4_m5 (x19.1, x19.2.1, x19.2.2.1, IntKind.i64.wrap (IntKind.i64.wrap (IntKind.i64.wrap (l4_m1 + 1) + 1) + 1)), rfl, rfl⟩, hn4⟩
      · have q7_ := of_decide_eq_false q7
        refine awp_condF_ q7 (by kernel_rfl) ?_
        refine awp_exit_ (te_ (te_ (be_ (tn_ ?_))))
        obtain rfl := Option.some.inj h
        have h := hn4
        (try dsimp only at h)
        obtain rfl := Option.some.inj h
        exact ⟨_, (weak_ren (renF []) (by kernel_rfl) (by kernel_rfl) (by kernel_rfl)), ⟨l4_m1, l4_m0, rfl, rfl⟩⟩
  · rintro _ _ ⟨l2_m1, l2_p0, rfl, rfl⟩ h
    (try dsimp only at h)
    refine awp_seq_ ?_
    refine awp_region_ 4 (by kernel_rfl) ?_
    refine rs0 (.int .i64 l2_m1) (by kernel_rfl) ?_
    refine rs0 (.int .i64 l2_m1) (by kernel_rfl) ?_
    refine rnil (tn_ ?_)
    refine awp_ret_ ?_
    obtain rfl := Option.some.inj h
    exact retM_ (by simp) (by kernel_rfl) (by kernel_rfl)
def m_laws_markCircuit : AC :=
  (.seq (.region [⟨(some 2), none, (.i (.box 31 (.tmp 0)))⟩, ⟨(some 4), none, (.i (.mov (.cst (.int .i64 0))))⟩] false [])
  (.seq (.region [⟨(some 5), none, (.i (.fld 1 (.tmp 2)))⟩, ⟨(some 6), none, (.i (.ld true 1 (.tmp 5)))⟩, ⟨(some 7), none, (.i (.mov (.tmp 1)))⟩, ⟨(some 8), none, (.call (.cst (.fn 40 [])) [(.tmp 6), (.tmp 7)] [[(some (.pair .int (.pair .int (.pair .int .int))))], []])⟩, ⟨(some 1), none, (.i (.mov (.tmp 8)))⟩] false [])
  (.seq (.region [⟨(some 9), none, (.i (.fld 2 (.tmp 2)))⟩, ⟨(some 10), none, (.i (.ld true 1 (.tmp 9)))⟩, ⟨(some 11), none, (.i (.mov (.tmp 1)))⟩, ⟨(some 12), none, (.call (.cst (.fn 17 [])) [(.tmp 10), (.tmp 11)] [[(some .int)], []])⟩, ⟨(some 1), none, (.i (.mov (.tmp 12)))⟩] false [])
  (.seq (.region [⟨(some 13), none, (.i (.mov (.tmp 1)))⟩, ⟨(some 4), none, (.i (.mov (.tmp 13)))⟩] false [])
  .ret))))
def r_laws_markCircuit : List Res := [.tmp 4]
theorem c_laws_markCircuit : compiled Tryd.prog Tryd.f16 = some (m_laws_markCircuit, r_laws_markCircuit) := by kernel_rfl
theorem hb_laws_markCircuit : hasBody Tryd.prog 16 = true := by kernel_rfl
def L_laws_markCircuit (a0_0 : Int) (a0_1 : List (Int × Int × Int × Int)) (a0_2 : List Int) (a1 : Int) : Option (List (Int × Int × Int × Int) × List Int × Int) :=
  Option.bind (L_laws_markGateS a0_1 a1) fun y3 =>
og (y3.1.length = (a0_1.length)) <|
Option.bind (L_laws_markIntS a0_2 y3.2) fun y6 =>
og (y6.1.length = (a0_2.length)) <|
some (y3.1, y6.1, y6.2)
theorem ok_laws_markCircuit {a0_0 : Int} {a0_1 : List (Int × Int × Int × Int)} {a0_2 : List Int} {a1 : Int} {r : List (Int × Int × Int × Int) × List Int × Int} (h : L_laws_markCircuit a0_0 a0_1 a0_2 a1 = some r) {n_a0_1 : Nat} (hn_a0_1 : n_a0_1 = a0_1.length) {n_a0_2 : Nat} (hn_a0_2 : n_a0_2 = a0_2.length) : CallM Tryd.prog Tab 16 [(.agg [(.int .i64 a0_0), (.own (0, 0) (.pair .int (.pair .int (.pair .int .int))) 0 n_a0_1), (.own (1, 0) .int 0 n_a0_2)]), (.int .i64 a1)] [((0, 0), .arr 51 (.pair .int (.pair .int (.pair .int .int))) a0_1), ((1, 0), .arr 3 .int a0_2)] (.int .i64 r.2.2) [((0, 0), .arr 51 (.pair .int (.pair .int (.pair .int .int))) r.1), ((1, 0), .arr 3 .int r.2.1)] := by
  refine callM_of_ (by kernel_rfl) Tryd.func16 c_laws_markCircuit (n := 14) (by kernel_rfl) (by simp) (tl := [(0, (.agg [(.int .i64 a0_0), (.own (0, 0) (.pair .int (.pair .int (.pair .int .int))) 0 n_a0_1), (.own (1, 0) .int 0 n_a0_2)])), (1, (.int .i64 a1))]) rfl (by kernel_rfl) (by kernel_rfl) (by kernel_rfl) (by kernel_rfl) (by kernel_rfl) (.inl rfl) ?_
  unfold m_laws_markCircuit
  unfold L_laws_markCircuit at h
  (try rw [← hn_a0_1] at h)
  (try rw [← hn_a0_2] at h)
  refine awp_seq_ ?_
  refine awp_region_ 3 (by kernel_rfl) ?_
  refine rs1 (.box (2, 1) 0) (2, 1) (.cells 31 [(.int .i64 a0_0), (.own (0, 0) (.pair .int (.pair .int (.pair .int .int))) 0 n_a0_1), (.own (1, 0) .int 0 n_a0_2)]) (by kernel_rfl) ?_
  refine rs0 (.int .i64 0) (by kernel_rfl) ?_
  refine rnil (tn_ ?_)
  refine awp_seq_ ?_
  obtain ⟨y3, h3, h⟩ := ob_some h
  obtain ⟨g4, h⟩ := og_some h
  refine awp_region_ 8 (by kernel_rfl) ?_
  refine rs0 (.box (2, 1) 1) (by kernel_rfl) ?_
  refine rsl (.own (0, 0) (.pair .int (.pair .int (.pair .int .int))) 0 n_a0_1) (by kernel_rfl) ?_
  refine rs0 (.int .i64 a1) (by kernel_rfl) ?_
  refine rcallM (.int .i64 y3.2) [] [(.own (0, 0) (.pair .int (.pair .int (.pair .int .int))) 0 n_a0_1), (.int .i64 a1)] (caps := []) trivial (by kernel_rfl) (by kernel_rfl) (ok_laws_markGateS h3 hn_a0_1) (by kernel_rfl) (by kernel_rfl) (by kernel_rfl) (by kernel_rfl) (by kernel_rfl) hb_laws_markGateS ?_
  refine rs0 (.int .i64 y3.2) (by kernel_rfl) ?_
  refine rnil (tn_ ?_)
  refine awp_seq_ ?_
  obtain ⟨y6, h6, h⟩ := ob_some h
  obtain ⟨g7, h⟩ := og_some h
  refine awp_region_ 13 (by kernel_rfl) ?_
  refine rs0 (.box (2, 1) 2) (by kernel_rfl) ?_
  refine rsl (.own (1, 0) .int 0 n_a0_2) (by kernel_rfl) ?_
  refine rs0 (.int .i64 y3.2) (by kernel_rfl) ?_
  refine rcallM (.int .i64 y6.2) [((0, 0), (1, 0))] [(.own (1, 0) .int 0 n_a0_2), (.int .i64 y3.2)] (caps := []) trivial (by kernel_rfl) (by kernel_rfl) (ok_laws_markIntS h6 hn_a0_2) (by kernel_rfl) (by kernel_rfl) (by kernel_rfl) (by kernel_rfl) (by kernel_rfl) hb_laws_markIntS ?_
  refine rs0 (.int .i64 y6.2) (by kernel_rfl) ?_
  refine rnil (tn_ ?_)
  refine awp_seq_ ?_
  refine awp_region_ 15 (by kernel_rfl) ?_
  refine rs0 (.int .i64 y6.2) (by kernel_rfl) ?_
  refine rs0 (.int .i64 y6.2) (by kernel_rfl) ?_
  refine rnil (tn_ ?_)
  refine awp_ret_ ?_
  obtain rfl := Option.some.inj h
  exact retM_ (by simp) (by kernel_rfl) (by kernel_rfl)
def m_laws_heldGateS_l1 : AC :=
  (.seq (.seq (.region [⟨(some 6), none, (.i (.mov (.tmp 5)))⟩, ⟨(some 7), none, (.i (.mov (.tmp 0)))⟩, ⟨(some 8), none, (.i (.len (.tmp 7)))⟩, ⟨(some 9), none, (.i (.bin .lss (.tmp 6) (.tmp 8)))⟩] false [])
  (.cond (.tmp 9)
    .skip
    (.exit 0)))
  (.seq (.block 1 (.seq (.seq (.region [⟨(some 12), none, (.i (.mov (.tmp 0)))⟩, ⟨(some 13), none, (.i (.mov (.tmp 5)))⟩, ⟨(some 14), none, (.i (.idx 4 (.tmp 12) (.tmp 13)))⟩, ⟨(some 15), none, (.i (.fld 0 (.tmp 14)))⟩, ⟨(some 16), none, (.i (.ld true 1 (.tmp 15)))⟩, ⟨(some 17), none, (.i (.mov (.tmp 1)))⟩, ⟨(some 18), none, (.i (.bin .neq (.tmp 16) (.tmp 17)))⟩] false [])
  (.cond (.tmp 18)
    (.seq (.region [⟨(some 4), none, (.i (.mov (.cst (.int .i64 (-1)))))⟩] false [])
    .ret)
    .skip))
  (.seq (.region [⟨(some 19), none, (.i (.mov (.tmp 1)))⟩, ⟨(some 20), none, (.i (.bin .add (.tmp 19) (.cst (.int .i64 1))))⟩, ⟨(some 1), none, (.i (.mov (.tmp 20)))⟩] false [])
  (.seq (.seq (.region [⟨(some 21), none, (.i (.mov (.tmp 0)))⟩, ⟨(some 22), none, (.i (.mov (.tmp 5)))⟩, ⟨(some 23), none, (.i (.idx 4 (.tmp 21) (.tmp 22)))⟩, ⟨(some 24), none, (.i (.fld 1 (.tmp 23)))⟩, ⟨(some 25), none, (.i (.ld true 1 (.tmp 24)))⟩, ⟨(some 26), none, (.i (.mov (.tmp 1)))⟩, ⟨(some 27), none, (.i (.bin .neq (.tmp 25) (.tmp 26)))⟩] false [])
  (.cond (.tmp 27)
    (.seq (.region [⟨(some 4), none, (.i (.mov (.cst (.int .i64 (-1)))))⟩] false [])
    .ret)
    .skip))
  (.seq (.region [⟨(some 28), none, (.i (.mov (.tmp 1)))⟩, ⟨(some 29), none, (.i (.bin .add (.tmp 28) (.cst (.int .i64 1))))⟩, ⟨(some 1), none, (.i (.mov (.tmp 29)))⟩] false [])
  (.seq (.seq (.region [⟨(some 30), none, (.i (.mov (.tmp 0)))⟩, ⟨(some 31), none, (.i (.mov (.tmp 5)))⟩, ⟨(some 32), none, (.i (.idx 4 (.tmp 30) (.tmp 31)))⟩, ⟨(some 33), none, (.i (.fld 2 (.tmp 32)))⟩, ⟨(some 34), none, (.i (.ld true 1 (.tmp 33)))⟩, ⟨(some 35), none, (.i (.mov (.tmp 1)))⟩, ⟨(some 36), none, (.i (.bin .neq (.tmp 34) (.tmp 35)))⟩] false [])
  (.cond (.tmp 36)
    (.seq (.region [⟨(some 4), none, (.i (.mov (.cst (.int .i64 (-1)))))⟩] false [])
    .ret)
    .skip))
  (.seq (.region [⟨(some 37), none, (.i (.mov (.tmp 1)))⟩, ⟨(some 38), none, (.i (.bin .add (.tmp 37) (.cst (.int .i64 1))))⟩, ⟨(some 1), none, (.i (.mov (.tmp 38)))⟩] false [])
  (.seq (.seq (.region [⟨(some 39), none, (.i (.mov (.tmp 0)))⟩, ⟨(some 40), none, (.i (.mov (.tmp 5)))⟩, ⟨(some 41), none, (.i (.idx 4 (.tmp 39) (.tmp 40)))⟩, ⟨(some 42), none, (.i (.fld 3 (.tmp 41)))⟩, ⟨(some 43), none, (.i (.ld true 1 (.tmp 42)))⟩, ⟨(some 44), none, (.i (.mov (.tmp 1)))⟩, ⟨(some 45), none, (.i (.bin .neq (.tmp 43) (.tmp 44)))⟩] false [])
  (.cond (.tmp 45)
    (.seq (.region [⟨(some 4), none, (.i (.mov (.cst (.int .i64 (-1)))))⟩] false [])
    .ret)
    .skip))
  (.region [⟨(some 46), none, (.i (.mov (.tmp 1)))⟩, ⟨(some 47), none, (.i (.bin .add (.tmp 46) (.cst (.int .i64 1))))⟩, ⟨(some 1), none, (.i (.mov (.tmp 47)))⟩] false [])))))))))
  (.region [⟨(some 10), none, (.i (.mov (.tmp 5)))⟩, ⟨(some 11), none, (.i (.bin .add (.tmp 10) (.cst (.int .i64 1))))⟩, ⟨(some 5), none, (.i (.mov (.tmp 11)))⟩] false [])))
def m_laws_heldGateS : AC :=
  (.seq (.region [⟨(some 4), none, (.i (.mov (.cst (.int .i64 0))))⟩] false [])
  (.seq (.seq (.region [⟨(some 5), none, (.i (.mov (.cst (.int .i64 0))))⟩] false [])
  (.block 0 (.loop m_laws_heldGateS_l1)))
  (.seq (.region [⟨(some 48), none, (.i (.mov (.tmp 1)))⟩, ⟨(some 4), none, (.i (.mov (.tmp 48)))⟩] false [])
  .ret)))
def r_laws_heldGateS : List Res := [.tmp 4]
theorem c_laws_heldGateS : compiled Tryd.prog Tryd.f49 = some (m_laws_heldGateS, r_laws_heldGateS) := by kernel_rfl
theorem hb_laws_heldGateS : hasBody Tryd.prog 49 = true := by kernel_rfl
def L_laws_heldGateS_l1 (a0 : List (Int × Int × Int × Int)) (l4_m1 : Int) (l4_m5 : Nat) : Option (Ctl (Int × Nat) (Ctl Int Int)) :=
  cond (decide (((l4_m5 : Nat) : Int) < ((a0.length : Nat) : Int)))
  (Option.bind (a0[l4_m5]?) fun x11 =>
  cond (x11.1 != l4_m1)
    (some (Ctl.out (Ctl.out (-1))))
    (cond (x11.2.1 != (IntKind.i64.wrap (l4_m1 + 1)))
      (some (Ctl.out (Ctl.out (-1))))
      (cond (x11.2.2.1 != (IntKind.i64.wrap (IntKind.i64.wrap (l4_m1 + 1) + 1)))
        (some (Ctl.out (Ctl.out (-1))))
        (cond (x11.2.2.2 != (IntKind.i64.wrap (IntKind.i64.wrap (IntKind.i64.wrap (l4_m1 + 1) + 1) + 1)))
          (some (Ctl.out (Ctl.out (-1))))
          (og (l4_m5 + 1 < 4611686018427387904) <|
          some (Ctl.next (IntKind.i64.wrap (IntKind.i64.wrap (IntKind.i64.wrap (IntKind.i64.wrap (l4_m1 + 1) + 1) + 1) + 1), l4_m5 + 1)))))))
  (some (Ctl.out (Ctl.next l4_m1)))
def L_laws_heldGateS (a0 : List (Int × Int × Int × Int)) (a1 : Int) : Option Int :=
  seqC (loopM (fun s_ : Int × Nat => L_laws_heldGateS_l1 a0 s_.1 s_.2) 4611686018427387904 (a1, 0)) fun l2_m1 =>
some l2_m1
def rv_laws_heldGateS (r : Int) : RV := ⟨false, [(false, [.sc (.int .i64 r)])]⟩
theorem ok_laws_heldGateS {a0 : List (Int × Int × Int × Int)} {a1 : Int} {r : Int} (h : L_laws_heldGateS a0 a1 = some r) : CallOK Tryd.prog Tab 49 [(.tree (.pair .int (.pair .int (.pair .int .int))) a0), (.int .i64 a1)] (rv_laws_heldGateS r) := by
  refine call_of_ (by kernel_rfl) Tryd.func49 c_laws_heldGateS (n := 49) (by kernel_rfl) (by simp) (tl := [(0, (.tree (.pair .int (.pair .int (.pair .int .int))) a0)), (1, (.int .i64 a1))]) rfl ?_
  unfold m_laws_heldGateS
  unfold L_laws_heldGateS at h
  refine awp_seq_ ?_
  refine awp_region_ 2 (by kernel_rfl) ?_
  refine rs0 (.int .i64 0) (by kernel_rfl) ?_
  refine rnil (tn_ ?_)
  refine awp_seqC h (fun (l2_m1 : Int) S_ => S_ = ⟨mkTm [(1, (.int .i64 l2_m1))], mkOb (someL []), 2⟩) ?_ ?_
  · intro v_ h hk2
    refine awp_seq_ ?_
    refine awp_region_ 3 (by kernel_rfl) ?_
    refine rs0 (.int .i64 0) (by kernel_rfl) ?_
    refine rnil (tn_ ?_)
    refine awp_block_ ?_
    refine awp_loopL h (fun t_ S_ => ∃ (l4_m1 : Int), ∃ (l4_m5 : Nat), t_ = (l4_m1, l4_m5) ∧ S_ = ⟨mkTm [(0, (.tree (.pair .int (.pair .int (.pair .int .int))) a0)), (1, (.int .i64 l4_m1)), (5, (.int .i64 ((l4_m5 : Nat) : Int)))], mkOb (someL []), 2⟩) ⟨_, (weak_ren (renF []) (by kernel_rfl) (by kernel_rfl) (by kernel_rfl)), ⟨a1, 0, rfl, rfl⟩⟩ ?_
    · rintro n_ _ _ c_ ⟨l4_m1, l4_m5, rfl, rfl⟩ h hn4
      (try dsimp only at h)
      unfold L_laws_heldGateS_l1 at h
      unfold m_laws_heldGateS_l1
      refine awp_seq_ ?_
      refine awp_seq_ ?_
      refine awp_region_ 6 (by kernel_rfl) ?_
      refine rs0 (.int .i64 ((l4_m5 : Nat) : Int)) (by kernel_rfl) ?_
      refine rs0 (.tree (.pair .int (.pair .int (.pair .int .int))) a0) (by kernel_rfl) ?_
      refine rs0 (.int .i64 ((a0.length : Nat) : Int)) (by kernel_rfl) ?_
      refine rs0 (.bool (decide (((l4_m5 : Nat) : Int) < ((a0.length : Nat) : Int)))) (by kernel_rfl) ?_
      refine rnil (tn_ ?_)
      rcases cond_some h with ⟨q7, h⟩ | ⟨q7, h⟩
      · have q7_ := of_decide_eq_true q7
        refine awp_condT_ q7 (by kernel_rfl) ?_
        refine awp_skip_ (tn_ ?_)
        refine awp_seq_ ?_
        refine awp_block_ ?_
        refine awp_seq_ ?_
        refine awp_seq_ ?_
        obtain ⟨x11, e11, h⟩ := ob_some h
        refine awp_region_ 13 (by kernel_rfl) ?_
        refine rs0 (.tree (.pair .int (.pair .int (.pair .int .int))) a0) (by kernel_rfl) ?_
        refine rs0 (.int .i64 ((l4_m5 : Nat) : Int)) (by kernel_rfl) ?_
        refine rs0 (.telt (.pair .int (.pair .int (.pair .int .int))) x11 0) (s_idxT (t := (.pair .int (.pair .int (.pair .int .int)))) (xs := a0) (k := .i64) (m := ((l4_m5 : Nat) : Int)) (by kernel_rfl) (by kernel_rfl) rfl (nat_nn _) rfl e11) ?_
        refine rs0 (.telt (.pair .int (.pair .int (.pair .int .int))) x11 0) (by kernel_rfl) ?_
        refine rs0 (.int .i64 x11.1) (by kernel_rfl) ?_
        refine rs0 (.int .i64 l4_m1) (by kernel_rfl) ?_
        refine rs0 (.bool (x11.1 != l4_m1)) (by kernel_rfl) ?_
        refine rnil (tn_ ?_)
        rcases cond_some h with ⟨q12, h⟩ | ⟨q12, h⟩
        · refine awp_condT_ q12 (by kernel_rfl) ?_
          refine awp_seq_ ?_
          refine awp_region_ 14 (by kernel_rfl) ?_
          refine rs0 (.int .i64 (-1)) (by kernel_rfl) ?_
          refine rnil (tn_ ?_)
          refine awp_ret_ (tr_ (br_ (tr_ (tr_ (br_ (tr_ ?_))))))
          obtain rfl := Option.some.inj h
          have h := hn4
          (try dsimp only at h)
          obtain rfl := Option.some.inj h
          have h := hk2
          (try dsimp only at h)
          obtain rfl := Option.some.inj h
          exact ret_ [(.int .i64 (-1))] (by simp) (by kernel_rfl) (p_one rfl (l_sc (by kernel_rfl)) p_nil) (by kernel_rfl) (by kernel_rfl)
        · refine awp_condF_ q12 (by kernel_rfl) ?_
          refine awp_skip_ (tn_ ?_)
          refine awp_seq_ ?_
          refine awp_region_ 16 (by kernel_rfl) ?_
          refine rs0 (.int .i64 l4_m1) (by kernel_rfl) ?_
          refine rs0 (.int .i64 (IntKind.i64.wrap (l4_m1 + 1))) (by kernel_rfl) ?_
          refine rs0 (.int .i64 (IntKind.i64.wrap (l4_m1 + 1))) (by kernel_rfl) ?_
          refine rnil (tn_ ?_)
          refine awp_seq_ ?_
          refine awp_seq_ ?_
          refine awp_region_ 23 (by kernel_rfl) ?_
          refine rs0 (.tree (.pair .int (.pair .int (.pair .int .int))) a0) (by kernel_rfl) ?_
          refine rs0 (.int .i64 ((l4_m5 : Nat) : Int)) (by kernel_rfl) ?_
          refine rs0 (.telt (.pair .int (.pair .int (.pair .int .int))) x11 0) (s_idxT (t := (.pair .int (.pair .int (.pair .int .int)))) (xs := a0) (k := .i64) (m := ((l4_m5 : Nat) : Int)) (by kernel_rfl) (by kernel_rfl) rfl (nat_nn _) rfl e11) ?_
          refine rs0 (.telt (.pair .int (.pair .int (.pair .int .int))) x11 1) (by kernel_rfl) ?_
          refine rs0 (.int .i64 x11.2.1) (by kernel_rfl) ?_
          refine rs0 (.int .i64 (IntKind.i64.wrap (l4_m1 + 1))) (by kernel_rfl) ?_
          refine rs0 (.bool (x11.2.1 != (IntKind.i64.wrap (l4_m1 + 1)))) (by kernel_rfl) ?_
          refine rnil (tn_ ?_)
          rcases cond_some h with ⟨q17, h⟩ | ⟨q17, h⟩
          · refine awp_condT_ q17 (by kernel_rfl) ?_
            refine awp_seq_ ?_
            refine awp_region_ 24 (by kernel_rfl) ?_
            refine rs0 (.int .i64 (-1)) (by kernel_rfl) ?_
            refine rnil (tn_ ?_)
            refine awp_ret_ (tr_ (br_ (tr_ (tr_ (br_ (tr_ ?_))))))
            obtain rfl := Option.some.inj h
            have h := hn4
            (try dsimp only at h)
            obtain rfl := Option.some.inj h
            have h := hk2
            (try dsimp only at h)
            obtain rfl := Option.some.inj h
            exact ret_ [(.int .i64 (-1))] (by simp) (by kernel_rfl) (p_one rfl (l_sc (by kernel_rfl)) p_nil) (by kernel_rfl) (by kernel_rfl)
          · refine awp_condF_ q17 (by kernel_rfl) ?_
            refine awp_skip_ (tn_ ?_)
            refine awp_seq_ ?_
            refine awp_region_ 26 (by kernel_rfl) ?_
            refine rs0 (.int .i64 (IntKind.i64.wrap (l4_m1 + 1))) (by kernel_rfl) ?_
            refine rs0 (.int .i64 (IntKind.i64.wrap (IntKind.i64.wrap (l4_m1 + 1) + 1))) (by kernel_rfl) ?_
            refine rs0 (.int .i64 (IntKind.i64.wrap (IntKind.i64.wrap (l4_m1 + 1) + 1))) (by kernel_rfl) ?_
            refine rnil (tn_ ?_)
            refine awp_seq_ ?_
            refine awp_seq_ ?_
            refine awp_region_ 33 (by kernel_rfl) ?_
            refine rs0 (.tree (.pair .int (.pair .int (.pair .int .int))) a0) (by kernel_rfl) ?_
            refine rs0 (.int .i64 ((l4_m5 : Nat) : Int)) (by kernel_rfl) ?_
            refine rs0 (.telt (.pair .int (.pair .int (.pair .int .int))) x11 0) (s_idxT (t := (.pair .int (.pair .int (.pair .int .int)))) (xs := a0) (k := .i64) (m := ((l4_m5 : Nat) : Int)) (by kernel_rfl) (by kernel_rfl) rfl (nat_nn _) rfl e11) ?_
            refine rs0 (.telt (.pair .int (.pair .int (.pair .int .int))) x11 2) (by kernel_rfl) ?_
            refine rs0 (.int .i64 x11.2.2.1) (by kernel_rfl) ?_
            refine rs0 (.int .i64 (IntKind.i64.wrap (IntKind.i64.wrap (l4_m1 + 1) + 1))) (by kernel_rfl) ?_
            refine rs0 (.bool (x11.2.2.1 != (IntKind.i64.wrap (IntKind.i64.wrap (l4_m1 + 1) + 1)))) (by kernel_rfl) ?_
            refine rnil (tn_ ?_)
            rcases cond_some h with ⟨q22, h⟩ | ⟨q22, h⟩
            · refine awp_condT_ q22 (by kernel_rfl) ?_
              refine awp_seq_ ?_
              refine awp_region_ 34 (by kernel_rfl) ?_
              refine rs0 (.int .i64 (-1)) (by kernel_rfl) ?_
              refine rnil (tn_ ?_)
              refine awp_ret_ (tr_ (br_ (tr_ (tr_ (br_ (tr_ ?_))))))
              obtain rfl := Option.some.inj h
              have h := hn4
              (try dsimp only at h)
              obtain rfl := Option.some.inj h
              have h := hk2
              (try dsimp only at h)
              obtain rfl := Option.some.inj h
              exact ret_ [(.int .i64 (-1))] (by simp) (by kernel_rfl) (p_one rfl (l_sc (by kernel_rfl)) p_nil) (by kernel_rfl) (by kernel_rfl)
            · refine awp_condF_ q22 (by kernel_rfl) ?_
              refine awp_skip_ (tn_ ?_)
              refine awp_seq_ ?_
              refine awp_region_ 36 (by kernel_rfl) ?_
              refine rs0 (.int .i64 (IntKind.i64.wrap (IntKind.i64.wrap (l4_m1 + 1) + 1))) (by kernel_rfl) ?_
              refine rs0 (.int .i64 (IntKind.i64.wrap (IntKind.i64.wrap (IntKind.i64.wrap (l4_m1 + 1) + 1) + 1))) (by kernel_rfl) ?_
              refine rs0 (.int .i64 (IntKind.i64.wrap (IntKind.i64.wrap (IntKind.i64.wrap (l4_m1 + 1) + 1) + 1))) (by kernel_rfl) ?_
              refine rnil (tn_ ?_)
              refine awp_seq_ ?_
              refine awp_seq_ ?_
              refine awp_region_ 43 (by kernel_rfl) ?_
              refine rs0 (.tree (.pair .int (.pair .int (.pair .int .int))) a0) (by kernel_rfl) ?_
              refine rs0 (.int .i64 ((l4_m5 : Nat) : Int)) (by kernel_rfl) ?_
              refine rs0 (.telt (.pair .int (.pair .int (.pair .int .int))) x11 0) (s_idxT (t := (.pair .int (.pair .int (.pair .int .int)))) (xs := a0) (k := .i64) (m := ((l4_m5 : Nat) : Int)) (by kernel_rfl) (by kernel_rfl) rfl (nat_nn _) rfl e11) ?_
              refine rs0 (.telt (.pair .int (.pair .int (.pair .int .int))) x11 3) (by kernel_rfl) ?_
              refine rs0 (.int .i64 x11.2.2.2) (by kernel_rfl) ?_
              refine rs0 (.int .i64 (IntKind.i64.wrap (IntKind.i64.wrap (IntKind.i64.wrap (l4_m1 + 1) + 1) + 1))) (by kernel_rfl) ?_
              refine rs0 (.bool (x11.2.2.2 != (IntKind.i64.wrap (IntKind.i64.wrap (IntKind.i64.wrap (l4_m1 + 1) + 1) + 1)))) (by kernel_rfl) ?_
              refine rnil (tn_ ?_)
              rcases cond_some h with ⟨q27, h⟩ | ⟨q27, h⟩
              · refine awp_condT_ q27 (by kernel_rfl) ?_
                refine awp_seq_ ?_
                refine awp_region_ 44 (by kernel_rfl) ?_
                refine rs0 (.int .i64 (-1)) (by kernel_rfl) ?_
                refine rnil (tn_ ?_)
                refine awp_ret_ (tr_ (br_ (tr_ (tr_ (br_ (tr_ ?_))))))
                obtain rfl := Option.some.inj h
                have h := hn4
                (try dsimp only at h)
                obtain rfl := Option.some.inj h
                have h := hk2
                (try dsimp only at h)
                obtain rfl := Option.some.inj h
                exact ret_ [(.int .i64 (-1))] (by simp) (by kernel_rfl) (p_one rfl (l_sc (by kernel_rfl)) p_nil) (by kernel_rfl) (by kernel_rfl)
              · refine awp_condF_ q27 (by kernel_rfl) ?_
                refine awp_skip_ (tn_ ?_)
                refine awp_region_ 46 (by kernel_rfl) ?_
                refine rs0 (.int .i64 (IntKind.i64.wrap (IntKind.i64.wrap (IntKind.i64.wrap (l4_m1 + 1) + 1) + 1))) (by kernel_rfl) ?_
                refine rs0 (.int .i64 (IntKind.i64.wrap (IntKind.i64.wrap (IntKind.i64.wrap (IntKind.i64.wrap (l4_m1 + 1) + 1) + 1) + 1))) (by kernel_rfl) ?_
                refine rs0 (.int .i64 (IntKind.i64.wrap (IntKind.i64.wrap (IntKind.i64.wrap (IntKind.i64.wrap (l4_m1 + 1) + 1) + 1) + 1))) (by kernel_rfl) ?_
                refine rnil (bn_ (tn_ ?_))
                obtain ⟨g29, h⟩ := og_some h
                refine awp_region_ 49 (by kernel_rfl) ?_
                refine rs0 (.int .i64 ((l4_m5 : Nat) : Int)) (by kernel_rfl) ?_
                refine rs0 (.int .i64 ((l4_m5 + 1 : Nat) : Int)) (s_add1 (j := l4_m5) (by kernel_rfl) (by kernel_rfl) g29) ?_
                refine rs0 (.int .i64 ((l4_m5 + 1 : Nat) : Int)) (by kernel_rfl) ?_
                refine rnil (tn_ ?_)
                obtain rfl := Option.some.inj h
                exact ⟨(IntKind.i64.wrap (IntKind.i64.wrap (IntKind.i64.wrap (IntKind.i64.wrap (l4_m1 + 1) + 1) + 1) + 1), l4_m5 + 1), _, (weak_ren (renF []) (by kernel_rfl) (by kernel_rfl) (by kernel_rfl)), ⟨IntKind.i64.wrap (IntKind.i64.wrap (IntKind.i64.wrap (IntKind.i64.wrap (l4_m1 + 1) + 1) + 1) + 1), l4_m5 + 1, rfl, rfl⟩, hn4⟩
      · have q7_ := of_decide_eq_false q7
        refine awp_condF_ q7 (by kernel_rfl) ?_
        refine awp_exit_ (te_ (te_ (be_ (tn_ ?_))))
        obtain rfl := Option.some.inj h
        have h := hn4
        (try dsimp only at h)
        obtain rfl := Option.some.inj h
        exact ⟨l4_m1, _, rfl, (weak_ren (renF []) (by kernel_rfl) (by kernel_rfl) (by kernel_rfl)), rfl⟩
  · rintro l2_m1 _ rfl h
    (try dsimp only at h)
    refine awp_seq_ ?_
    refine awp_region_ 4 (by kernel_rfl) ?_
    refine rs0 (.int .i64 l2_m1) (by kernel_rfl) ?_
    refine rs0 (.int .i64 l2_m1) (by kernel_rfl) ?_
    refine rnil (tn_ ?_)
    refine awp_ret_ ?_
    obtain rfl := Option.some.inj h
    exact ret_ [(.int .i64 l2_m1)] (by simp) (by kernel_rfl) (p_one rfl (l_sc (by kernel_rfl)) p_nil) (by kernel_rfl) (by kernel_rfl)
def m_laws_heldCircuit : AC :=
  (.seq (.region [⟨(some 2), none, (.i (.box 31 (.tmp 0)))⟩, ⟨(some 4), none, (.i (.mov (.cst (.int .i64 0))))⟩] false [])
  (.seq (.region [⟨(some 5), none, (.i (.fld 1 (.tmp 2)))⟩, ⟨(some 6), none, (.i (.ld true 1 (.tmp 5)))⟩, ⟨(some 7), none, (.i (.mov (.tmp 1)))⟩, ⟨(some 8), none, (.call (.cst (.fn 49 [])) [(.tmp 6), (.tmp 7)] [[(some (.pair .int (.pair .int (.pair .int .int))))], []])⟩, ⟨(some 1), none, (.i (.mov (.tmp 8)))⟩] false [])
  (.seq (.seq (.region [⟨(some 9), none, (.i (.mov (.tmp 1)))⟩, ⟨(some 10), none, (.i (.bin .lss (.tmp 9) (.cst (.int .i64 0))))⟩] false [])
  (.cond (.tmp 10)
    (.seq (.region [⟨(some 4), none, (.i (.mov (.cst (.int .i64 (-1)))))⟩] false [])
    .ret)
    .skip))
  (.seq (.region [⟨(some 11), none, (.i (.fld 2 (.tmp 2)))⟩, ⟨(some 12), none, (.i (.ld true 1 (.tmp 11)))⟩, ⟨(some 13), none, (.i (.mov (.tmp 1)))⟩, ⟨(some 14), none, (.call (.cst (.fn 18 [])) [(.tmp 12), (.tmp 13)] [[(some .int)], []])⟩, ⟨(some 1), none, (.i (.mov (.tmp 14)))⟩] false [])
  (.seq (.seq (.region [⟨(some 15), none, (.i (.mov (.tmp 1)))⟩, ⟨(some 16), none, (.i (.bin .lss (.tmp 15) (.cst (.int .i64 0))))⟩] false [])
  (.cond (.tmp 16)
    (.seq (.region [⟨(some 4), none, (.i (.mov (.cst (.int .i64 (-1)))))⟩] false [])
    .ret)
    .skip))
  (.seq (.region [⟨(some 17), none, (.i (.mov (.tmp 1)))⟩, ⟨(some 4), none, (.i (.mov (.tmp 17)))⟩] false [])
  .ret))))))
def r_laws_heldCircuit : List Res := [.tmp 4]
theorem c_laws_heldCircuit : compiled Tryd.prog Tryd.f21 = some (m_laws_heldCircuit, r_laws_heldCircuit) := by kernel_rfl
theorem hb_laws_heldCircuit : hasBody Tryd.prog 21 = true := by kernel_rfl
def L_laws_heldCircuit (a0_0 : Int) (a0_1 : List (Int × Int × Int × Int)) (a0_2 : List Int) (a1 : Int) : Option Int :=
  Option.bind (L_laws_heldGateS a0_1 a1) fun y3 =>
cond (decide (y3 < 0))
  (some (-1))
  (Option.bind (L_laws_heldIntS a0_2 y3) fun y9 =>
  cond (decide (y9 < 0))
    (some (-1))
    (some y9))
def rv_laws_heldCircuit (r : Int) : RV := ⟨false, [(false, [.sc (.int .i64 r)])]⟩
theorem ok_laws_heldCircuit {a0_0 : Int} {a0_1 : List (Int × Int × Int × Int)} {a0_2 : List Int} {a1 : Int} {r : Int} (h : L_laws_heldCircuit a0_0 a0_1 a0_2 a1 = some r) : CallOK Tryd.prog Tab 21 [(.agg [(.int .i64 a0_0), (.tree (.pair .int (.pair .int (.pair .int .int))) a0_1), (.tree .int a0_2)]), (.int .i64 a1)] (rv_laws_heldCircuit r) := by
  refine call_of_ (by kernel_rfl) Tryd.func21 c_laws_heldCircuit (n := 18) (by kernel_rfl) (by simp) (tl := [(0, (.agg [(.int .i64 a0_0), (.tree (.pair .int (.pair .int (.pair .int .int))) a0_1), (.tree .int a0_2)])), (1, (.int .i64 a1))]) rfl ?_
  unfold m_laws_heldCircuit
  unfold L_laws_heldCircuit at h
  refine awp_seq_ ?_
  refine awp_region_ 3 (by kernel_rfl) ?_
  refine rs1 (.box (2, 1) 0) (2, 1) (.cells 31 [(.int .i64 a0_0), (.tree (.pair .int (.pair .int (.pair .int .int))) a0_1), (.tree .int a0_2)]) (by kernel_rfl) ?_
  refine rs0 (.int .i64 0) (by kernel_rfl) ?_
  refine rnil (tn_ ?_)
  refine awp_seq_ ?_
  obtain ⟨y3, h3, h⟩ := ob_some h
  refine awp_region_ 8 (by kernel_rfl) ?_
  refine rs0 (.box (2, 1) 1) (by kernel_rfl) ?_
  refine rsl (.tree (.pair .int (.pair .int (.pair .int .int))) a0_1) (by kernel_rfl) ?_
  refine rs0 (.int .i64 a1) (by kernel_rfl) ?_
  refine rcall (.int .i64 y3) [] [(.tree (.pair .int (.pair .int (.pair .int .int))) a0_1), (.int .i64 a1)] _ (caps := []) (args0 := [(.tree (.pair .int (.pair .int (.pair .int .int))) a0_1), (.int .i64 a1)]) trivial (by kernel_rfl) (by kernel_rfl) (by kernel_rfl) (by kernel_rfl) (ok_laws_heldGateS h3) hb_laws_heldGateS (by kernel_rfl) ?_
  refine rs0 (.int .i64 y3) (by kernel_rfl) ?_
  refine rnil (tn_ ?_)
  refine awp_seq_ ?_
  refine awp_seq_ ?_
  refine awp_region_ 10 (by kernel_rfl) ?_
  refine rs0 (.int .i64 y3) (by kernel_rfl) ?_
  refine rs0 (.bool (decide (y3 < 0))) (by kernel_rfl) ?_
  refine rnil (tn_ ?_)
  rcases cond_some h with ⟨q6, h⟩ | ⟨q6, h⟩
  · have q6_ := of_decide_eq_true q6
    refine awp_condT_ q6 (by kernel_rfl) ?_
    refine awp_seq_ ?_
    refine awp_region_ 11 (by kernel_rfl) ?_
    refine rs0 (.int .i64 (-1)) (by kernel_rfl) ?_
    refine rnil (tn_ ?_)
    refine awp_ret_ (tr_ ?_)
    obtain rfl := Option.some.inj h
    exact ret_ [(.int .i64 (-1))] (by simp) (by kernel_rfl) (p_one rfl (l_sc (by kernel_rfl)) p_nil) (by kernel_rfl) (by kernel_rfl)
  · have q6_ := of_decide_eq_false q6
    refine awp_condF_ q6 (by kernel_rfl) ?_
    refine awp_skip_ (tn_ ?_)
    refine awp_seq_ ?_
    obtain ⟨y9, h9, h⟩ := ob_some h
    refine awp_region_ 15 (by kernel_rfl) ?_
    refine rs0 (.box (2, 1) 2) (by kernel_rfl) ?_
    refine rsl (.tree .int a0_2) (by kernel_rfl) ?_
    refine rs0 (.int .i64 y3) (by kernel_rfl) ?_
    refine rcall (.int .i64 y9) [] [(.tree .int a0_2), (.int .i64 y3)] _ (caps := []) (args0 := [(.tree .int a0_2), (.int .i64 y3)]) trivial (by kernel_rfl) (by kernel_rfl) (by kernel_rfl) (by kernel_rfl) (ok_laws_heldIntS h9) hb_laws_heldIntS (by kernel_rfl) ?_
    refine rs0 (.int .i64 y9) (by kernel_rfl) ?_
    refine rnil (tn_ ?_)
    refine awp_seq_ ?_
    refine awp_seq_ ?_
    refine awp_region_ 17 (by kernel_rfl) ?_
    refine rs0 (.int .i64 y9) (by kernel_rfl) ?_
    refine rs0 (.bool (decide (y9 < 0))) (by kernel_rfl) ?_
    refine rnil (tn_ ?_)
    rcases cond_some h with ⟨q12, h⟩ | ⟨q12, h⟩
    · have q12_ := of_decide_eq_true q12
      refine awp_condT_ q12 (by kernel_rfl) ?_
      refine awp_seq_ ?_
      refine awp_region_ 18 (by kernel_rfl) ?_
      refine rs0 (.int .i64 (-1)) (by kernel_rfl) ?_
      refine rnil (tn_ ?_)
      refine awp_ret_ (tr_ ?_)
      obtain rfl := Option.some.inj h
      exact ret_ [(.int .i64 (-1))] (by simp) (by kernel_rfl) (p_one rfl (l_sc (by kernel_rfl)) p_nil) (by kernel_rfl) (by kernel_rfl)
    · have q12_ := of_decide_eq_false q12
      refine awp_condF_ q12 (by kernel_rfl) ?_
      refine awp_skip_ (tn_ ?_)
      refine awp_seq_ ?_
      refine awp_region_ 19 (by kernel_rfl) ?_
      refine rs0 (.int .i64 y9) (by kernel_rfl) ?_
      refine rs0 (.int .i64 y9) (by kernel_rfl) ?_
      refine rnil (tn_ ?_)
      refine awp_ret_ ?_
      obtain rfl := Option.some.inj h
      exact ret_ [(.int .i64 y9)] (by simp) (by kernel_rfl) (p_one rfl (l_sc (by kernel_rfl)) p_nil) (by kernel_rfl) (by kernel_rfl)
end Go.Proofs.YthjdknddcceigaaDoor
