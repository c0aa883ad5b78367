/- Partial functions in place of code, and that the code does what they say: GA. No condition. -/
import Derived.Test.YtefolocdfgelcaaDoorBA
namespace Go.Proofs.YtefolocdfgelcaaDoor
open Go.RowKit Go.Deep
set_option maxRecDepth 4000
def m_spec_l1Most : AC :=
  (.seq (.region [⟨(some 4), none, (.i (.mov (.cst (.int .i64 0))))⟩] false [])
  (.seq (.seq (.region [⟨(some 5), none, (.i (.mov (.tmp 0)))⟩, ⟨(some 6), none, (.i (.mov (.tmp 1)))⟩, ⟨(some 7), none, (.i (.bin .gtr (.tmp 5) (.tmp 6)))⟩] false [])
  (.cond (.tmp 7)
    (.seq (.region [⟨(some 8), none, (.i (.mov (.tmp 0)))⟩, ⟨(some 4), none, (.i (.mov (.tmp 8)))⟩] false [])
    .ret)
    .skip))
  (.seq (.region [⟨(some 9), none, (.i (.mov (.tmp 1)))⟩, ⟨(some 4), none, (.i (.mov (.tmp 9)))⟩] false [])
  .ret)))
def r_spec_l1Most : List Res := [.tmp 4]
theorem c_spec_l1Most : compiled Tryd.prog Tryd.f98 = some (m_spec_l1Most, r_spec_l1Most) := by kernel_rfl
theorem hb_spec_l1Most : hasBody Tryd.prog 98 = true := by kernel_rfl
def L_spec_l1Most (a0 : Int) (a1 : Int) : Option Int :=
  cond (decide (a1 < a0))
  (some a0)
  (some a1)
def rv_spec_l1Most (r : Int) : RV := ⟨false, [(false, [.sc (.int .i64 r)])]⟩
theorem ok_spec_l1Most {a0 : Int} {a1 : Int} {r : Int} (h : L_spec_l1Most a0 a1 = some r) : CallOK Tryd.prog Tab 98 [(.int .i64 a0), (.int .i64 a1)] (rv_spec_l1Most r) := by
  refine call_of_ (by kernel_rfl) Tryd.func98 c_spec_l1Most (n := 10) (by kernel_rfl) (by simp) (tl := [(0, (.int .i64 a0)), (1, (.int .i64 a1))]) rfl ?_
  unfold m_spec_l1Most
  unfold L_spec_l1Most at h
  refine awp_seq_ ?_
  refine awp_region_ 2 (by kernel_rfl) ?_
  refine rs0 (.int .i64 0) (by kernel_rfl) ?_
  refine rnil (tn_ ?_)
  refine awp_seq_ ?_
  refine awp_seq_ ?_
  refine awp_region_ 5 (by kernel_rfl) ?_
  refine rs0 (.int .i64 a0) (by kernel_rfl) ?_
  refine rs0 (.int .i64 a1) (by kernel_rfl) ?_
  refine rs0 (.bool (decide (a1 < a0))) (by kernel_rfl) ?_
  refine rnil (tn_ ?_)
  rcases cond_some h with ⟨q4, h⟩ | ⟨q4, h⟩
  · have q4_ := of_decide_eq_true q4
    refine awp_condT_ q4 (by kernel_rfl) ?_
    refine awp_seq_ ?_
    refine awp_region_ 7 (by kernel_rfl) ?_
    refine rs0 (.int .i64 a0) (by kernel_rfl) ?_
    refine rs0 (.int .i64 a0) (by kernel_rfl) ?_
    refine rnil (tn_ ?_)
    refine awp_ret_ (tr_ ?_)
    obtain rfl := Option.some.inj h
    exact ret_ [(.int .i64 a0)] (by simp) (by kernel_rfl) (p_one rfl (l_sc (by kernel_rfl)) p_nil) (by kernel_rfl) (by kernel_rfl)
  · have q4_ := of_decide_eq_false q4
    refine awp_condF_ q4 (by kernel_rfl) ?_
    refine awp_skip_ (tn_ ?_)
    refine awp_seq_ ?_
    refine awp_region_ 7 (by kernel_rfl) ?_
    refine rs0 (.int .i64 a1) (by kernel_rfl) ?_
    refine rs0 (.int .i64 a1) (by kernel_rfl) ?_
    refine rnil (tn_ ?_)
    refine awp_ret_ ?_
    obtain rfl := Option.some.inj h
    exact ret_ [(.int .i64 a1)] (by simp) (by kernel_rfl) (p_one rfl (l_sc (by kernel_rfl)) p_nil) (by kernel_rfl) (by kernel_rfl)
def m_spec_l1Least : AC :=
  (.seq (.region [⟨(some 4), none, (.i (.mov (.cst (.int .i64 0))))⟩] false [])
  (.seq (.seq (.region [⟨(some 5), none, (.i (.mov (.tmp 0)))⟩, ⟨(some 6), none, (.i (.mov (.tmp 1)))⟩, ⟨(some 7), none, (.i (.bin .lss (.tmp 5) (.tmp 6)))⟩] false [])
  (.cond (.tmp 7)
    (.seq (.region [⟨(some 8), none, (.i (.mov (.tmp 0)))⟩, ⟨(some 4), none, (.i (.mov (.tmp 8)))⟩] false [])
    .ret)
    .skip))
  (.seq (.region [⟨(some 9), none, (.i (.mov (.tmp 1)))⟩, ⟨(some 4), none, (.i (.mov (.tmp 9)))⟩] false [])
  .ret)))
def r_spec_l1Least : List Res := [.tmp 4]
theorem c_spec_l1Least : compiled Tryd.prog Tryd.f97 = some (m_spec_l1Least, r_spec_l1Least) := by kernel_rfl
theorem hb_spec_l1Least : hasBody Tryd.prog 97 = true := by kernel_rfl
def L_spec_l1Least (a0 : Int) (a1 : Int) : Option Int :=
  cond (decide (a0 < a1))
  (some a0)
  (some a1)
def rv_spec_l1Least (r : Int) : RV := ⟨false, [(false, [.sc (.int .i64 r)])]⟩
theorem ok_spec_l1Least {a0 : Int} {a1 : Int} {r : Int} (h : L_spec_l1Least a0 a1 = some r) : CallOK Tryd.prog Tab 97 [(.int .i64 a0), (.int .i64 a1)] (rv_spec_l1Least r) := by
  refine call_of_ (by kernel_rfl) Tryd.func97 c_spec_l1Least (n := 10) (by kernel_rfl) (by simp) (tl := [(0, (.int .i64 a0)), (1, (.int .i64 a1))]) rfl ?_
  unfold m_spec_l1Least
  unfold L_spec_l1Least at h
  refine awp_seq_ ?_
  refine awp_region_ 2 (by kernel_rfl) ?_
  refine rs0 (.int .i64 0) (by kernel_rfl) ?_
  refine rnil (tn_ ?_)
  refine awp_seq_ ?_
  refine awp_seq_ ?_
  refine awp_region_ 5 (by kernel_rfl) ?_
  refine rs0 (.int .i64 a0) (by kernel_rfl) ?_
  refine rs0 (.int .i64 a1) (by kernel_rfl) ?_
  refine rs0 (.bool (decide (a0 < a1))) (by kernel_rfl) ?_
  refine rnil (tn_ ?_)
  rcases cond_some h with ⟨q4, h⟩ | ⟨q4, h⟩
  · have q4_ := of_decide_eq_true q4
    refine awp_condT_ q4 (by kernel_rfl) ?_
    refine awp_seq_ ?_
    refine awp_region_ 7 (by kernel_rfl) ?_
    refine rs0 (.int .i64 a0) (by kernel_rfl) ?_
    refine rs0 (.int .i64 a0) (by kernel_rfl) ?_
    refine rnil (tn_ ?_)
    refine awp_ret_ (tr_ ?_)
    obtain rfl := Option.some.inj h
    exact ret_ [(.int .i64 a0)] (by simp) (by kernel_rfl) (p_one rfl (l_sc (by kernel_rfl)) p_nil) (by kernel_rfl) (by kernel_rfl)
  · have q4_ := of_decide_eq_false q4
    refine awp_condF_ q4 (by kernel_rfl) ?_
    refine awp_skip_ (tn_ ?_)
    refine awp_seq_ ?_
    refine awp_region_ 7 (by kernel_rfl) ?_
    refine rs0 (.int .i64 a1) (by kernel_rfl) ?_
    refine rs0 (.int .i64 a1) (by kernel_rfl) ?_
    refine rnil (tn_ ?_)
    refine awp_ret_ ?_
    obtain rfl := Option.some.inj h
    exact ret_ [(.int .i64 a1)] (by simp) (by kernel_rfl) (p_one rfl (l_sc (by kernel_rfl)) p_nil) (by kernel_rfl) (by kernel_rfl)
def m_spec_nwMap_l1 : AC :=
  (.seq (.region [⟨(some 24), none, (.i (.bin .lss (.tmp 23) (.tmp 22)))⟩] false [])
  (.seq (.cond (.tmp 24)
    .skip
    (.exit 0))
  (.seq (.block 1 (.seq (.region [⟨(some 25), none, (.i (.idx 3 (.tmp 21) (.tmp 23)))⟩, ⟨(some 26), none, (.i (.ld false 3 (.tmp 25)))⟩, ⟨(some 9), none, (.i (.alloc 59 [(.int .i64 0), (.int .i64 0), (.int .i64 0)]))⟩, ⟨none, none, (.st false 3 (.tmp 9) (.tmp 26))⟩] false [])
  (.seq (.region [⟨(some 27), none, (.i (.mov (.tmp 1)))⟩, ⟨(some 28), none, (.i (.fld 0 (.tmp 9)))⟩, ⟨(some 29), none, (.i (.ld true 1 (.tmp 28)))⟩, ⟨(some 30), none, (.i (.idx 1 (.tmp 27) (.tmp 29)))⟩, ⟨(some 31), none, (.i (.ld true 1 (.tmp 30)))⟩, ⟨(some 32), none, (.i (.mov (.tmp 1)))⟩, ⟨(some 33), none, (.i (.fld 1 (.tmp 9)))⟩, ⟨(some 34), none, (.i (.ld true 1 (.tmp 33)))⟩, ⟨(some 35), none, (.i (.idx 1 (.tmp 32) (.tmp 34)))⟩, ⟨(some 36), none, (.i (.ld true 1 (.tmp 35)))⟩, ⟨(some 37), none, (.i (.bin .neq (.tmp 31) (.tmp 36)))⟩] true [])
  (.cond (.tmp 37)
    (.region [⟨(some 38), none, (.i (.fld 1 (.tmp 7)))⟩, ⟨(some 39), none, (.i (.ld true 1 (.tmp 38)))⟩, ⟨(some 40), none, (.i (.mov (.tmp 1)))⟩, ⟨(some 41), none, (.i (.fld 0 (.tmp 9)))⟩, ⟨(some 42), none, (.i (.ld true 1 (.tmp 41)))⟩, ⟨(some 43), none, (.i (.idx 1 (.tmp 40) (.tmp 42)))⟩, ⟨(some 44), none, (.i (.ld true 1 (.tmp 43)))⟩, ⟨(some 45), none, (.i (.mov (.tmp 1)))⟩, ⟨(some 46), none, (.i (.fld 1 (.tmp 9)))⟩, ⟨(some 47), none, (.i (.ld true 1 (.tmp 46)))⟩, ⟨(some 48), none, (.i (.idx 1 (.tmp 45) (.tmp 47)))⟩, ⟨(some 49), none, (.i (.ld true 1 (.tmp 48)))⟩, ⟨(some 50), none, (.i (.fld 2 (.tmp 9)))⟩, ⟨(some 51), none, (.i (.ld true 1 (.tmp 50)))⟩, ⟨(some 52), none, (.build [(.int .i64 0), (.int .i64 0), (.int .i64 0)] [(0, 1, (.tmp 44)), (1, 1, (.tmp 49)), (2, 1, (.tmp 51))])⟩, ⟨(some 53), none, (.mkS 59 (.pair .int (.pair .int .int)) [(.tmp 52)])⟩, ⟨(some 54), none, (.append 59 (.pair .int (.pair .int .int)) 24 (.tmp 39) (.tmp 53))⟩, ⟨(some 55), none, (.i (.fld 1 (.tmp 7)))⟩, ⟨none, none, (.st true 1 (.tmp 55) (.tmp 54))⟩] true [])
    .skip))))
  (.region [⟨(some 56), none, (.i (.bin .add (.tmp 23) (.cst (.int .i64 1))))⟩, ⟨(some 23), none, (.i (.mov (.tmp 56)))⟩] false []))))
def m_spec_nwMap : AC :=
  (.seq (.region [⟨(some 3), none, (.i (.box 30 (.tmp 0)))⟩, ⟨(some 6), none, (.i (.alloc 30 [(.int .i64 0), .nils, .nils, .nils]))⟩] false [])
  (.seq (.region [⟨(some 10), none, (.i (.mov (.tmp 2)))⟩, ⟨(some 11), none, (.i (.fld 2 (.tmp 3)))⟩, ⟨(some 12), none, (.i (.ld true 1 (.tmp 11)))⟩, ⟨(some 13), none, (.i (.mov (.tmp 1)))⟩, ⟨(some 14), none, (.call (.cst (.fn 100 [])) [(.tmp 12), (.tmp 13)] [[(some .int)], [(some .int)]])⟩, ⟨(some 15), none, (.i (.fld 3 (.tmp 3)))⟩, ⟨(some 16), none, (.i (.ld true 1 (.tmp 15)))⟩, ⟨(some 17), none, (.i (.mov (.tmp 1)))⟩, ⟨(some 18), none, (.call (.cst (.fn 100 [])) [(.tmp 16), (.tmp 17)] [[(some .int)], [(some .int)]])⟩, ⟨(some 19), none, (.build [(.int .i64 0), .nils, .nils, .nils] [(0, 1, (.tmp 10)), (2, 1, (.tmp 14)), (3, 1, (.tmp 18))])⟩, ⟨(some 7), none, (.i (.alloc 30 [(.int .i64 0), .nils, .nils, .nils]))⟩, ⟨none, none, (.st false 4 (.tmp 7) (.tmp 19))⟩] true [(4, 6), (4, 10), (8, 10)])
  (.seq (.seq (.region [⟨(some 20), none, (.i (.fld 1 (.tmp 3)))⟩, ⟨(some 21), none, (.i (.ld true 1 (.tmp 20)))⟩, ⟨(some 22), none, (.i (.len (.tmp 21)))⟩, ⟨(some 23), none, (.i (.mov (.cst (.int .i64 0))))⟩] false [])
  (.block 0 (.loop m_spec_nwMap_l1)))
  (.seq (.region [⟨(some 57), none, (.i (.ld false 4 (.tmp 7)))⟩, ⟨none, none, (.st false 4 (.tmp 6) (.tmp 57))⟩] false [])
  .ret))))
def r_spec_nwMap : List Res := [.cell 6 false 4]
theorem c_spec_nwMap : compiled Tryd.prog Tryd.f102 = some (m_spec_nwMap, r_spec_nwMap) := by kernel_rfl
theorem hb_spec_nwMap : hasBody Tryd.prog 102 = true := by kernel_rfl
def L_spec_nwMap_l1 (a0_1 : List (Int × Int × Int)) (a1 : List Int) (l7_m23 : Nat) (l7_m7_1 : List (Int × Int × Int)) : Option (Ctl (Nat × (List (Int × Int × Int))) (List (Int × Int × Int))) :=
  cond (decide (((l7_m23 : Nat) : Int) < ((a0_1.length : Nat) : Int)))
  (Option.bind (Option.bind (a0_1[l7_m23]?) fun x13 =>
    Option.bind (getI a1 x13.1) fun x15 =>
    Option.bind (getI a1 x13.2.1) fun x16 =>
    cond (x15 != x16)
      (og (l7_m7_1.length + 1 ≤ 1073741824 ∧ (l7_m7_1.length + 1) * 24 ≤ 140737488355328) <|
      some (l7_m7_1 ++ ([(x15, x16, x13.2.2)])))
      (some l7_m7_1)) fun l11_m7_1 =>
  og (l7_m23 + 1 < 4611686018427387904) <|
  some (Ctl.next (l7_m23 + 1, l11_m7_1)))
  (some (Ctl.out l7_m7_1))
def L_spec_nwMap (a0_0 : Int) (a0_1 : List (Int × Int × Int)) (a0_2 : List Int) (a0_3 : List Int) (a1 : List Int) (a2 : Int) : Option (Int × (List (Int × Int × Int)) × List Int × List Int) :=
  Option.bind (L_spec_hgList a0_2 a1) fun y3 =>
Option.bind (L_spec_hgList a0_3 a1) fun y4 =>
Option.bind (loopM (fun s_ : Nat × (List (Int × Int × Int)) => L_spec_nwMap_l1 a0_1 a1 s_.1 s_.2) 4611686018427387904 (0, [])) fun l5_m7_1 =>
some (a2, l5_m7_1, y3, y4)
def rv_spec_nwMap (r : Int × (List (Int × Int × Int)) × List Int × List Int) : RV := ⟨false, [(true, [.sc (.int .i64 r.1), .new 59 (.pair .int (.pair .int .int)) r.2.1, .new 3 .int r.2.2.1, .new 3 .int r.2.2.2])]⟩
theorem ok_spec_nwMap {a0_0 : Int} {a0_1 : List (Int × Int × Int)} {a0_2 : List Int} {a0_3 : List Int} {a1 : List Int} {a2 : Int} {r : Int × (List (Int × Int × Int)) × List Int × List Int} (h : L_spec_nwMap a0_0 a0_1 a0_2 a0_3 a1 a2 = some r) : CallOK Tryd.prog Tab 102 [(.agg [(.int .i64 a0_0), (.tree (.pair .int (.pair .int .int)) a0_1), (.tree .int a0_2), (.tree .int a0_3)]), (.tree .int a1), (.int .i64 a2)] (rv_spec_nwMap r) := by
  refine call_of_ (by kernel_rfl) Tryd.func102 c_spec_nwMap (n := 58) (by kernel_rfl) (by simp) (tl := [(0, (.agg [(.int .i64 a0_0), (.tree (.pair .int (.pair .int .int)) a0_1), (.tree .int a0_2), (.tree .int a0_3)])), (1, (.tree .int a1)), (2, (.int .i64 a2))]) rfl ?_
  unfold m_spec_nwMap
  unfold L_spec_nwMap at h
  refine awp_seq_ ?_
  refine awp_region_ 3 (by kernel_rfl) ?_
  refine rs1 (.box (3, 1) 0) (3, 1) (.cells 30 [(.int .i64 a0_0), (.tree (.pair .int (.pair .int .int)) a0_1), (.tree .int a0_2), (.tree .int a0_3)]) (by kernel_rfl) ?_
  refine rs1 (.box (6, 2) 0) (6, 2) (.cells 30 [(.int .i64 0), .nils, .nils, .nils]) (by kernel_rfl) ?_
  refine rnil (tn_ ?_)
  refine awp_seq_ ?_
  obtain ⟨y3, h3, h⟩ := ob_some h
  obtain ⟨y4, h4, h⟩ := ob_some h
  refine awp_regionD_ 15 (by kernel_rfl) ?_
  refine ds0 (.int .i64 a2) (by kernel_rfl) ?_
  refine ds0 (.box (3, 1) 2) (by kernel_rfl) ?_
  refine dsl (.tree .int a0_2) (by kernel_rfl) ?_
  refine ds0 (.tree .int a1) (by kernel_rfl) ?_
  refine dcall (.own (224, 7) .int 0 y3.length) [((224, 7), some (.arr 3 .int y3))] [(.tree .int a0_2), (.tree .int a1)] _ (caps := []) (args0 := [(.tree .int a0_2), (.tree .int a1)]) trivial (by kernel_rfl) (by kernel_rfl) (by kernel_rfl) (by kernel_rfl) (ok_spec_hgList h3) hb_spec_hgList (by kernel_rfl) ?_
  refine ds0 (.box (3, 1) 3) (by kernel_rfl) ?_
  refine dsl (.tree .int a0_3) (by kernel_rfl) ?_
  refine ds0 (.tree .int a1) (by kernel_rfl) ?_
  refine dcall (.own (288, 11) .int 0 y4.length) [((288, 11), some (.arr 3 .int y4))] [(.tree .int a0_3), (.tree .int a1)] _ (caps := []) (args0 := [(.tree .int a0_3), (.tree .int a1)]) trivial (by kernel_rfl) (by kernel_rfl) (by kernel_rfl) (by kernel_rfl) (ok_spec_hgList h4) hb_spec_hgList (by kernel_rfl) ?_
  refine ds0 (.agg [(.int .i64 a2), .nils, (.own (224, 7) .int 0 y3.length), (.own (288, 11) .int 0 y4.length)]) (by kernel_rfl) ?_
  refine ds1 (.box (7, 13) 0) (7, 13) (.cells 30 [(.int .i64 0), .nils, .nils, .nils]) (by kernel_rfl) ?_
  refine dsn2 (7, 13) (7, 13) (.cells 30 [(.int .i64 a2), .nils, (.own (224, 7) .int 0 y3.length), (.own (288, 11) .int 0 y4.length)]) (by kernel_rfl) ?_
  refine dnil (by kernel_rfl) (tn_ ?_)
  refine awp_seqB h (fun (l5_m7_1 : List (Int × Int × Int)) S_ => S_ = ⟨mkTm [(6, (.box (0, 1) 0)), (7, (.box (1, 1) 0))], mkOb (someL [((0, 1), .cells 30 [(.int .i64 0), .nils, .nils, .nils]), ((1, 1), .cells 30 [(.int .i64 a2), (.own (2, 1) (.pair .int (.pair .int .int)) 0 l5_m7_1.length), (.own (3, 1) .int 0 y3.length), (.own (4, 1) .int 0 y4.length)]), ((2, 1), .arr 59 (.pair .int (.pair .int .int)) l5_m7_1), ((3, 1), .arr 3 .int y3), ((4, 1), .arr 3 .int y4)]), 2⟩) ?_ ?_
  · intro v_ h
    refine awp_seq_ ?_
    refine awp_region_ 19 (by kernel_rfl) ?_
    refine rs0 (.box (3, 1) 1) (by kernel_rfl) ?_
    refine rsl (.tree (.pair .int (.pair .int .int)) a0_1) (by kernel_rfl) ?_
    refine rs0 (.int .i64 ((a0_1.length : Nat) : Int)) (by kernel_rfl) ?_
    refine rs0 (.int .i64 0) (by kernel_rfl) ?_
    refine rnil (tn_ ?_)
    refine awp_block_ ?_
    refine awp_loopL h (fun t_ S_ => ∃ (l7_m23 : Nat), ∃ (l7_m7_1 : List (Int × Int × Int)), t_ = (l7_m23, l7_m7_1) ∧ S_ = ⟨mkTm [(1, (.tree .int a1)), (6, (.box (0, 1) 0)), (7, (.box (1, 1) 0)), (21, (.tree (.pair .int (.pair .int .int)) a0_1)), (22, (.int .i64 ((a0_1.length : Nat) : Int))), (23, (.int .i64 ((l7_m23 : Nat) : Int)))], mkOb (someL [((0, 1), .cells 30 [(.int .i64 0), .nils, .nils, .nils]), ((1, 1), .cells 30 [(.int .i64 a2), (.own (2, 1) (.pair .int (.pair .int .int)) 0 l7_m7_1.length), (.own (3, 1) .int 0 y3.length), (.own (4, 1) .int 0 y4.length)]), ((2, 1), .arr 59 (.pair .int (.pair .int .int)) l7_m7_1), ((3, 1), .arr 3 .int y3), ((4, 1), .arr 3 .int y4)]), 2⟩) ⟨_, ((weak_nil_cell_ 9000 (7, 13) 1 30 [(.int .i64 a2), .nils, (.own (224, 7) .int 0 y3.length), (.own (288, 11) .int 0 y4.length)] [(.int .i64 a2), (.own (9000, 19) (.pair .int (.pair .int .int)) 0 0), (.own (224, 7) .int 0 y3.length), (.own (288, 11) .int 0 y4.length)] 59 (.pair .int (.pair .int .int)) rfl (by kernel_rfl) (by kernel_rfl) (by kernel_rfl)).trans (weak_ren (renF [((0, 1), (6, 2)), ((1, 1), (7, 13)), ((2, 1), (9000, 19)), ((3, 1), (224, 7)), ((4, 1), (288, 11))]) (by kernel_rfl) (by kernel_rfl) (by kernel_rfl))), ⟨0, [], rfl, rfl⟩⟩ ?_
    · rintro n_ _ _ c_ ⟨l7_m23, l7_m7_1, rfl, rfl⟩ h hn7
      (try dsimp only at h)
      unfold L_spec_nwMap_l1 at h
      unfold m_spec_nwMap_l1
      refine awp_seq_ ?_
      refine awp_region_ 3 (by kernel_rfl) ?_
      refine rs0 (.bool (decide (((l7_m23 : Nat) : Int) < ((a0_1.length : Nat) : Int)))) (by kernel_rfl) ?_
      refine rnil (tn_ ?_)
      refine awp_seq_ ?_
      rcases cond_some h with ⟨q10, h⟩ | ⟨q10, h⟩
      · have q10_ := of_decide_eq_true q10
        refine awp_condT_ q10 (by kernel_rfl) ?_
        refine awp_skip_ (tn_ ?_)
        refine awp_seqB h (fun (l11_m7_1 : List (Int × Int × Int)) S_ => S_ = ⟨mkTm [(1, (.tree .int a1)), (6, (.box (0, 1) 0)), (7, (.box (1, 1) 0)), (21, (.tree (.pair .int (.pair .int .int)) a0_1)), (22, (.int .i64 ((a0_1.length : Nat) : Int))), (23, (.int .i64 ((l7_m23 : Nat) : Int)))], mkOb (someL [((0, 1), .cells 30 [(.int .i64 0), .nils, .nils, .nils]), ((1, 1), .cells 30 [(.int .i64 a2), (.own (2, 1) (.pair .int (.pair .int .int)) 0 l11_m7_1.length), (.own (3, 1) .int 0 y3.length), (.own (4, 1) .int 0 y4.length)]), ((2, 1), .arr 59 (.pair .int (.pair .int .int)) l11_m7_1), ((3, 1), .arr 3 .int y3), ((4, 1), .arr 3 .int y4)]), 2⟩) ?_ ?_
        · intro v_ h
          refine awp_block_ ?_
          refine awp_seq_ ?_
          obtain ⟨x13, e13, h⟩ := ob_some h
          refine awp_region_ 7 (by kernel_rfl) ?_
          refine rs0 (.telt (.pair .int (.pair .int .int)) x13 0) (s_idxT (t := (.pair .int (.pair .int .int))) (xs := a0_1) (k := .i64) (m := ((l7_m23 : Nat) : Int)) (by kernel_rfl) (by kernel_rfl) rfl (nat_nn _) rfl e13) ?_
          refine rs0 (.agg [(.int .i64 x13.1), (.int .i64 x13.2.1), (.int .i64 x13.2.2)]) (by kernel_rfl) ?_
          refine rs1 (.box (9, 5) 0) (9, 5) (.cells 59 [(.int .i64 0), (.int .i64 0), (.int .i64 0)]) (by kernel_rfl) ?_
          refine rsn2 (9, 5) (9, 5) (.cells 59 [(.int .i64 x13.1), (.int .i64 x13.2.1), (.int .i64 x13.2.2)]) (by kernel_rfl) ?_
          refine rnil (tn_ ?_)
          refine awp_seq_ ?_
          obtain ⟨x15, f15, h⟩ := ob_some h
          obtain ⟨p15, b15, e15⟩ := getI_some f15
          obtain ⟨x16, f16, h⟩ := ob_some h
          obtain ⟨p16, b16, e16⟩ := getI_some f16
          refine awp_regionD_ 18 (by kernel_rfl) ?_
          refine ds0 (.tree .int a1) (by kernel_rfl) ?_
          refine ds0 (.box (9, 5) 0) (by kernel_rfl) ?_
          refine dsl (.int .i64 x13.1) (by kernel_rfl) ?_
          refine ds0 (.telt .int x15 0) (s_idxT (t := .int) (xs := a1) (k := .i64) (m := x13.1) (by kernel_rfl) (by kernel_rfl) rfl p15 rfl e15) ?_
          refine ds0 (.int .i64 x15) (by kernel_rfl) ?_
          refine ds0 (.tree .int a1) (by kernel_rfl) ?_
          refine ds0 (.box (9, 5) 1) (by kernel_rfl) ?_
          refine dsl (.int .i64 x13.2.1) (by kernel_rfl) ?_
          refine ds0 (.telt .int x16 0) (s_idxT (t := .int) (xs := a1) (k := .i64) (m := x13.2.1) (by kernel_rfl) (by kernel_rfl) rfl p16 rfl e16) ?_
          refine ds0 (.int .i64 x16) (by kernel_rfl) ?_
          refine ds0 (.bool (x15 != x16)) (by kernel_rfl) ?_
          refine dnil (by kernel_rfl) (tn_ ?_)
          rcases cond_some h with ⟨q17, h⟩ | ⟨q17, h⟩
          · refine awp_condT_ q17 (by kernel_rfl) ?_
            obtain ⟨g18, h⟩ := og_some h
            refine awp_regionD_ 37 (by kernel_rfl) ?_
            refine ds0 (.box (1, 1) 1) (by kernel_rfl) ?_
            refine dsl (.own (2, 1) (.pair .int (.pair .int .int)) 0 l7_m7_1.length) (by kernel_rfl) ?_
            refine ds0 (.tree .int a1) (by kernel_rfl) ?_
            refine ds0 (.box (9, 5) 0) (by kernel_rfl) ?_
            refine dsl (.int .i64 x13.1) (by kernel_rfl) ?_
            refine ds0 (.telt .int x15 0) (s_idxT (t := .int) (xs := a1) (k := .i64) (m := x13.1) (by kernel_rfl) (by kernel_rfl) rfl p15 rfl e15) ?_
            refine ds0 (.int .i64 x15) (by kernel_rfl) ?_
            refine ds0 (.tree .int a1) (by kernel_rfl) ?_
            refine ds0 (.box (9, 5) 1) (by kernel_rfl) ?_
            refine dsl (.int .i64 x13.2.1) (by kernel_rfl) ?_
            refine ds0 (.telt .int x16 0) (s_idxT (t := .int) (xs := a1) (k := .i64) (m := x13.2.1) (by kernel_rfl) (by kernel_rfl) rfl p16 rfl e16) ?_
            refine ds0 (.int .i64 x16) (by kernel_rfl) ?_
            refine ds0 (.box (9, 5) 2) (by kernel_rfl) ?_
            refine dsl (.int .i64 x13.2.2) (by kernel_rfl) ?_
            refine ds0 (.agg [(.int .i64 x15), (.int .i64 x16), (.int .i64 x13.2.2)]) (by kernel_rfl) ?_
            refine ds1 (.own (53, 33) (.pair .int (.pair .int .int)) 0 1) (53, 33) (.arr 59 (.pair .int (.pair .int .int)) ([(x15, x16, x13.2.2)])) (by kernel_rfl) ?_
            refine ds2 (.own (2, 34) (.pair .int (.pair .int .int)) 0 ((l7_m7_1 ++ ([(x15, x16, x13.2.2)])).length)) (2, 1) (2, 34) (.arr 59 (.pair .int (.pair .int .int)) (l7_m7_1 ++ ([(x15, x16, x13.2.2)]))) (s_appO (t := (.pair .int (.pair .int .int))) (t' := (.pair .int (.pair .int .int))) (xs := l7_m7_1) (ys := [(x15, x16, x13.2.2)]) (zs := l7_m7_1 ++ ([(x15, x16, x13.2.2)])) (j := (2, 1)) (len := l7_m7_1.length) (c := (.own (53, 33) (.pair .int (.pair .int .int)) 0 1)) (by kernel_rfl) (by kernel_rfl) rfl (by kernel_rfl) (sr_own (e := 59) (by kernel_rfl) rfl) rfl g18) ?_
            refine ds0 (.box (1, 1) 1) (by kernel_rfl) ?_
            refine dsn2 (1, 1) (1, 1) (.cells 30 [(.int .i64 a2), (.own (2, 34) (.pair .int (.pair .int .int)) 0 ((l7_m7_1 ++ ([(x15, x16, x13.2.2)])).length)), (.own (3, 1) .int 0 y3.length), (.own (4, 1) .int 0 y4.length)]) (by kernel_rfl) ?_
            refine dnil (by kernel_rfl) (bn_ (tn_ ?_))
            obtain rfl := Option.some.inj h
            exact ⟨_, (weak_ren (renF [((2, 1), (2, 34))]) (by kernel_rfl) (by kernel_rfl) (by kernel_rfl)), rfl⟩
          · refine awp_condF_ q17 (by kernel_rfl) ?_
            refine awp_skip_ (bn_ (tn_ ?_))
            obtain rfl := Option.some.inj h
            exact ⟨_, (weak_ren (renF []) (by kernel_rfl) (by kernel_rfl) (by kernel_rfl)), rfl⟩
        · rintro l11_m7_1 _ rfl h
          (try dsimp only at h)
          obtain ⟨g19, h⟩ := og_some h
          refine awp_region_ 4 (by kernel_rfl) ?_
          refine rs0 (.int .i64 ((l7_m23 + 1 : Nat) : Int)) (s_add1 (j := l7_m23) (by kernel_rfl) (by kernel_rfl) g19) ?_
          refine rs0 (.int .i64 ((l7_m23 + 1 : Nat) : Int)) (by kernel_rfl) ?_
          refine rnil (tn_ ?_)
          obtain rfl := Option.some.inj h
          exact ⟨(l7_m23 + 1, l11_m7_1), _, (weak_ren (renF []) (by kernel_rfl) (by kernel_rfl) (by kernel_rfl)), ⟨l7_m23 + 1, l11_m7_1, rfl, rfl⟩, hn7⟩
      · have q10_ := of_decide_eq_false q10
        refine awp_condF_ q10 (by kernel_rfl) ?_
        refine awp_exit_ (te_ (te_ (be_ (tn_ ?_))))
        obtain rfl := Option.some.inj h
        have h := hn7
        (try dsimp only at h)
        obtain rfl := Option.some.inj h
        exact ⟨_, (weak_ren (renF []) (by kernel_rfl) (by kernel_rfl) (by kernel_rfl)), rfl⟩
  · rintro l5_m7_1 _ rfl h
    (try dsimp only at h)
    refine awp_seq_ ?_
    refine awp_region_ 4 (by kernel_rfl) ?_
    refine rsl (.agg [(.int .i64 a2), (.own (2, 1) (.pair .int (.pair .int .int)) 0 l5_m7_1.length), (.own (3, 1) .int 0 y3.length), (.own (4, 1) .int 0 y4.length)]) (by kernel_rfl) ?_
    refine rsn2 (0, 1) (0, 1) (.cells 30 [(.int .i64 a2), (.own (2, 1) (.pair .int (.pair .int .int)) 0 l5_m7_1.length), (.own (3, 1) .int 0 y3.length), (.own (4, 1) .int 0 y4.length)]) (by kernel_rfl) ?_
    refine rnil (tn_ ?_)
    refine awp_ret_ ?_
    obtain rfl := Option.some.inj h
    exact ret_ [(.agg [(.int .i64 a2), (.own (2, 1) (.pair .int (.pair .int .int)) 0 l5_m7_1.length), (.own (3, 1) .int 0 y3.length), (.own (4, 1) .int 0 y4.length)])] (by simp) (by kernel_rfl) (p_agg (l_cons (l_sc (by kernel_rfl)) (l_cons (l_own (by kernel_rfl) rfl) (l_cons (l_own (by kernel_rfl) rfl) (l_cons (l_own (by kernel_rfl) rfl) l_nil)))) p_nil) (by kernel_rfl) (by kernel_rfl)
def m_spec_nwGlue_l4 : AC :=
  (.seq (.region [⟨(some 94), none, (.i (.bin .lss (.tmp 93) (.tmp 92)))⟩] false [])
  (.seq (.cond (.tmp 94)
    .skip
    (.exit 6))
  (.seq (.block 7 (.seq (.region [⟨(some 95), none, (.i (.mov (.tmp 93)))⟩, ⟨(some 96), none, (.i (.idx 1 (.tmp 91) (.tmp 93)))⟩, ⟨(some 97), none, (.i (.ld true 1 (.tmp 96)))⟩, ⟨(some 16), none, (.i (.mov (.tmp 95)))⟩, ⟨(some 17), none, (.i (.mov (.tmp 97)))⟩] false [])
  (.seq (.region [⟨(some 98), none, (.i (.mov (.tmp 17)))⟩, ⟨(some 99), none, (.i (.mov (.tmp 16)))⟩, ⟨(some 100), none, (.i (.bin .eql (.tmp 98) (.tmp 99)))⟩] false [])
  (.cond (.tmp 100)
    (.seq (.region [⟨(some 101), none, (.i (.mov (.tmp 14)))⟩, ⟨(some 102), none, (.i (.mov (.tmp 16)))⟩, ⟨(some 103), none, (.i (.mov (.tmp 15)))⟩, ⟨(some 104), none, (.i (.idx 1 (.tmp 101) (.tmp 102)))⟩, ⟨none, none, (.st true 1 (.tmp 104) (.tmp 103))⟩] false [])
    (.region [⟨(some 105), none, (.i (.mov (.tmp 15)))⟩, ⟨(some 106), none, (.i (.bin .add (.tmp 105) (.cst (.int .i64 1))))⟩, ⟨(some 15), none, (.i (.mov (.tmp 106)))⟩] false []))
    (.region [⟨(some 107), none, (.i (.mov (.tmp 14)))⟩, ⟨(some 108), none, (.i (.mov (.tmp 16)))⟩, ⟨(some 109), none, (.i (.mov (.tmp 14)))⟩, ⟨(some 110), none, (.i (.mov (.tmp 17)))⟩, ⟨(some 111), none, (.i (.idx 1 (.tmp 109) (.tmp 110)))⟩, ⟨(some 112), none, (.i (.ld true 1 (.tmp 111)))⟩, ⟨(some 113), none, (.i (.idx 1 (.tmp 107) (.tmp 108)))⟩, ⟨none, none, (.st true 1 (.tmp 113) (.tmp 112))⟩] false [])))))
  (.region [⟨(some 114), none, (.i (.bin .add (.tmp 93) (.cst (.int .i64 1))))⟩, ⟨(some 93), none, (.i (.mov (.tmp 114)))⟩] false []))))
def m_spec_nwGlue_l3 : AC :=
  (.seq (.region [⟨(some 71), none, (.i (.bin .lss (.tmp 70) (.tmp 69)))⟩] false [])
  (.seq (.cond (.tmp 71)
    .skip
    (.exit 4))
  (.seq (.block 5 (.seq (.region [⟨(some 72), none, (.i (.mov (.tmp 70)))⟩, ⟨(some 73), none, (.i (.idx 1 (.tmp 68) (.tmp 70)))⟩, ⟨(some 74), none, (.i (.ld true 1 (.tmp 73)))⟩, ⟨(some 12), none, (.i (.mov (.tmp 72)))⟩, ⟨(some 13), none, (.i (.mov (.tmp 74)))⟩] false [])
  (.seq (.region [⟨(some 75), none, (.i (.mov (.tmp 13)))⟩, ⟨(some 76), none, (.i (.mov (.tmp 10)))⟩, ⟨(some 77), none, (.i (.mov (.tmp 11)))⟩, ⟨(some 78), none, (.call (.cst (.fn 98 [])) [(.tmp 76), (.tmp 77)] [[], []])⟩, ⟨(some 79), none, (.i (.bin .eql (.tmp 75) (.tmp 78)))⟩] false [])
  (.cond (.tmp 79)
    (.region [⟨(some 80), none, (.i (.mov (.tmp 6)))⟩, ⟨(some 81), none, (.i (.mov (.tmp 12)))⟩, ⟨(some 82), none, (.i (.mov (.tmp 10)))⟩, ⟨(some 83), none, (.i (.mov (.tmp 11)))⟩, ⟨(some 84), none, (.call (.cst (.fn 97 [])) [(.tmp 82), (.tmp 83)] [[], []])⟩, ⟨(some 85), none, (.i (.idx 1 (.tmp 80) (.tmp 81)))⟩, ⟨none, none, (.st true 1 (.tmp 85) (.tmp 84))⟩] false [])
    .skip))))
  (.region [⟨(some 86), none, (.i (.bin .add (.tmp 70) (.cst (.int .i64 1))))⟩, ⟨(some 70), none, (.i (.mov (.tmp 86)))⟩] false []))))
def m_spec_nwGlue_l2 : AC :=
  (.seq (.region [⟨(some 49), none, (.i (.bin .lss (.tmp 48) (.tmp 47)))⟩] false [])
  (.seq (.cond (.tmp 49)
    .skip
    (.exit 2))
  (.seq (.block 3 (.seq (.region [⟨(some 50), none, (.i (.mov (.tmp 48)))⟩, ⟨(some 51), none, (.i (.idx 1 (.tmp 46) (.tmp 48)))⟩, ⟨(some 52), none, (.i (.ld true 1 (.tmp 51)))⟩, ⟨(some 8), none, (.i (.mov (.tmp 50)))⟩, ⟨(some 9), none, (.i (.mov (.tmp 52)))⟩] false [])
  (.seq (.region [⟨(some 53), none, (.i (.mov (.tmp 6)))⟩, ⟨(some 54), none, (.i (.mov (.tmp 9)))⟩, ⟨(some 55), none, (.i (.idx 1 (.tmp 53) (.tmp 54)))⟩, ⟨(some 56), none, (.i (.ld true 1 (.tmp 55)))⟩, ⟨(some 57), none, (.i (.mov (.tmp 6)))⟩, ⟨(some 58), none, (.i (.fld 0 (.tmp 2)))⟩, ⟨(some 59), none, (.i (.ld true 1 (.tmp 58)))⟩, ⟨(some 60), none, (.i (.fld 2 (.tmp 3)))⟩, ⟨(some 61), none, (.i (.ld true 1 (.tmp 60)))⟩, ⟨(some 62), none, (.i (.mov (.tmp 8)))⟩, ⟨(some 63), none, (.i (.idx 1 (.tmp 61) (.tmp 62)))⟩, ⟨(some 64), none, (.i (.ld true 1 (.tmp 63)))⟩, ⟨(some 65), none, (.i (.bin .add (.tmp 59) (.tmp 64)))⟩, ⟨(some 66), none, (.i (.idx 1 (.tmp 57) (.tmp 65)))⟩, ⟨(some 67), none, (.i (.ld true 1 (.tmp 66)))⟩, ⟨(some 10), none, (.i (.mov (.tmp 56)))⟩, ⟨(some 11), none, (.i (.mov (.tmp 67)))⟩] true [])
  (.seq (.region [⟨(some 68), none, (.i (.mov (.tmp 6)))⟩, ⟨(some 69), none, (.i (.len (.tmp 68)))⟩, ⟨(some 70), none, (.i (.mov (.cst (.int .i64 0))))⟩] false [])
  (.block 4 (.loop m_spec_nwGlue_l3))))))
  (.region [⟨(some 87), none, (.i (.bin .add (.tmp 48) (.cst (.int .i64 1))))⟩, ⟨(some 48), none, (.i (.mov (.tmp 87)))⟩] false []))))
def m_spec_nwGlue_l1 : AC :=
  (.seq (.region [⟨(some 38), none, (.i (.bin .lss (.tmp 37) (.tmp 36)))⟩] false [])
  (.seq (.cond (.tmp 38)
    .skip
    (.exit 0))
  (.seq (.block 1 (.seq (.region [⟨(some 39), none, (.i (.mov (.tmp 37)))⟩, ⟨(some 7), none, (.i (.mov (.tmp 39)))⟩] false [])
  (.region [⟨(some 40), none, (.i (.mov (.tmp 6)))⟩, ⟨(some 41), none, (.i (.mov (.tmp 7)))⟩, ⟨(some 42), none, (.i (.mov (.tmp 7)))⟩, ⟨(some 43), none, (.i (.idx 1 (.tmp 40) (.tmp 41)))⟩, ⟨none, none, (.st true 1 (.tmp 43) (.tmp 42))⟩] false [])))
  (.region [⟨(some 44), none, (.i (.bin .add (.tmp 37) (.cst (.int .i64 1))))⟩, ⟨(some 37), none, (.i (.mov (.tmp 44)))⟩] false []))))
def m_spec_nwGlue : AC :=
  (.seq (.region [⟨(some 2), none, (.i (.box 30 (.tmp 0)))⟩, ⟨(some 3), none, (.i (.box 30 (.tmp 1)))⟩, ⟨(some 4), none, (.i (.alloc 30 [(.int .i64 0), .nils, .nils, .nils]))⟩] false [])
  (.seq (.region [⟨(some 18), none, (.i (.ld false 4 (.tmp 2)))⟩, ⟨(some 19), none, (.i (.ld false 4 (.tmp 3)))⟩, ⟨(some 20), none, (.call (.cst (.fn 67 [])) [(.tmp 18), (.tmp 19)] [[none, (some (.pair .int (.pair .int .int))), (some .int), (some .int)], [none, (some (.pair .int (.pair .int .int))), (some .int), (some .int)]])⟩, ⟨(some 5), none, (.i (.alloc 30 [(.int .i64 0), .nils, .nils, .nils]))⟩, ⟨none, none, (.st false 4 (.tmp 5) (.tmp 20))⟩] false [])
  (.seq (.region [⟨(some 21), none, (.i (.fld 2 (.tmp 2)))⟩, ⟨(some 22), none, (.i (.ld true 1 (.tmp 21)))⟩, ⟨(some 23), none, (.call (.cst (.fn 52 [])) [(.tmp 22)] [[(some .int)]])⟩, ⟨(some 24), none, (.i (.fld 2 (.tmp 5)))⟩, ⟨none, none, (.st true 1 (.tmp 24) (.tmp 23))⟩] false [])
  (.seq (.region [⟨(some 25), none, (.i (.fld 3 (.tmp 5)))⟩, ⟨(some 26), none, (.i (.ld true 1 (.tmp 25)))⟩, ⟨(some 27), none, (.i (.fld 3 (.tmp 2)))⟩, ⟨(some 28), none, (.i (.ld true 1 (.tmp 27)))⟩, ⟨(some 29), none, (.i (.len (.tmp 28)))⟩, ⟨(some 30), none, (.slice 1 (.tmp 26) (some (.tmp 29)) none none)⟩, ⟨(some 31), none, (.i (.fld 3 (.tmp 5)))⟩, ⟨none, none, (.st true 1 (.tmp 31) (.tmp 30))⟩] false [])
  (.seq (.region [⟨(some 32), none, (.i (.fld 0 (.tmp 5)))⟩, ⟨(some 33), none, (.i (.ld true 1 (.tmp 32)))⟩, ⟨(some 34), none, (.make 3 .int 8 (.tmp 33) (.tmp 33))⟩, ⟨(some 6), none, (.i (.mov (.tmp 34)))⟩] false [])
  (.seq (.seq (.region [⟨(some 35), none, (.i (.mov (.tmp 6)))⟩, ⟨(some 36), none, (.i (.len (.tmp 35)))⟩, ⟨(some 37), none, (.i (.mov (.cst (.int .i64 0))))⟩] false [])
  (.block 0 (.loop m_spec_nwGlue_l1)))
  (.seq (.seq (.region [⟨(some 45), none, (.i (.fld 3 (.tmp 2)))⟩, ⟨(some 46), none, (.i (.ld true 1 (.tmp 45)))⟩, ⟨(some 47), none, (.i (.len (.tmp 46)))⟩, ⟨(some 48), none, (.i (.mov (.cst (.int .i64 0))))⟩] false [])
  (.block 2 (.loop m_spec_nwGlue_l2)))
  (.seq (.region [⟨(some 88), none, (.i (.fld 0 (.tmp 5)))⟩, ⟨(some 89), none, (.i (.ld true 1 (.tmp 88)))⟩, ⟨(some 90), none, (.make 3 .int 8 (.tmp 89) (.tmp 89))⟩, ⟨(some 14), none, (.i (.mov (.tmp 90)))⟩] false [])
  (.seq (.region [⟨(some 15), none, (.i (.mov (.cst (.int .i64 0))))⟩] false [])
  (.seq (.seq (.region [⟨(some 91), none, (.i (.mov (.tmp 6)))⟩, ⟨(some 92), none, (.i (.len (.tmp 91)))⟩, ⟨(some 93), none, (.i (.mov (.cst (.int .i64 0))))⟩] false [])
  (.block 6 (.loop m_spec_nwGlue_l4)))
  (.seq (.region [⟨(some 115), none, (.i (.ld false 4 (.tmp 5)))⟩, ⟨(some 116), none, (.i (.mov (.tmp 14)))⟩, ⟨(some 117), none, (.i (.mov (.tmp 15)))⟩, ⟨(some 118), none, (.call (.cst (.fn 102 [])) [(.tmp 115), (.tmp 116), (.tmp 117)] [[none, (some (.pair .int (.pair .int .int))), (some .int), (some .int)], [(some .int)], []])⟩, ⟨none, none, (.st false 4 (.tmp 4) (.tmp 118))⟩] false [])
  .ret)))))))))))
def r_spec_nwGlue : List Res := [.cell 4 false 4]
theorem c_spec_nwGlue : compiled Tryd.prog Tryd.f73 = some (m_spec_nwGlue, r_spec_nwGlue) := by kernel_rfl
theorem hb_spec_nwGlue : hasBody Tryd.prog 73 = true := by kernel_rfl
def L_spec_nwGlue_l1 (y3 : Int × (List (Int × Int × Int)) × List Int × List Int) (l12_m37 : Nat) (l12_m6 : List Int) : Option (Ctl (Nat × List Int) (List Int)) :=
  cond (decide (((l12_m37 : Nat) : Int) < ((y3.1.toNat : Nat) : Int)))
  (Option.bind (l12_m6[l12_m37]?) fun x18 =>
  og (l12_m37 + 1 < 4611686018427387904) <|
  some (Ctl.next (l12_m37 + 1, l12_m6.set l12_m37 ((l12_m37 : Nat) : Int))))
  (some (Ctl.out l12_m6))
def L_spec_nwGlue_l3 (l22_m6 : List Int) (x30 : Int) (x33 : Int) (l35_m70 : Nat) (l35_m6 : List Int) : Option (Ctl (Nat × List Int) (List Int)) :=
  cond (decide (((l35_m70 : Nat) : Int) < ((l22_m6.length : Nat) : Int)))
  (Option.bind (Option.bind (l35_m6[l35_m70]?) fun x41 =>
    Option.bind (L_spec_l1Most x30 x33) fun y43 =>
    cond (x41 == y43)
      (Option.bind (L_spec_l1Least x30 x33) fun y45 =>
      some (l35_m6.set l35_m70 y45))
      (some l35_m6)) fun l39_m6 =>
  og (l35_m70 + 1 < 4611686018427387904) <|
  some (Ctl.next (l35_m70 + 1, l39_m6)))
  (some (Ctl.out l35_m6))
def L_spec_nwGlue_l2 (a0_3 : List Int) (a1_2 : List Int) (a0_0 : Int) (l22_m48 : Nat) (l22_m6 : List Int) : Option (Ctl (Nat × List Int) (List Int)) :=
  cond (decide (((l22_m48 : Nat) : Int) < ((a0_3.length : Nat) : Int)))
  (Option.bind (Option.bind (a0_3[l22_m48]?) fun x28 =>
    Option.bind (getI l22_m6 x28) fun x30 =>
    Option.bind (a1_2[l22_m48]?) fun x31 =>
    Option.bind (getI l22_m6 (IntKind.i64.wrap (a0_0 + x31))) fun x32 =>
    Option.bind (getI l22_m6 (IntKind.i64.wrap (a0_0 + x31))) fun x33 =>
    loopM (fun s_ : Nat × List Int => L_spec_nwGlue_l3 l22_m6 x30 x33 s_.1 s_.2) 4611686018427387904 (0, l22_m6)) fun l26_m6 =>
  og (l22_m48 + 1 < 4611686018427387904) <|
  some (Ctl.next (l22_m48 + 1, l26_m6)))
  (some (Ctl.out l22_m6))
def L_spec_nwGlue_l4 (l20_m6 : List Int) (l53_m15 : Nat) (l53_m93 : Nat) (l53_m14 : List Int) : Option (Ctl (Nat × Nat × List Int) (Nat × List Int)) :=
  cond (decide (((l53_m93 : Nat) : Int) < ((l20_m6.length : Nat) : Int)))
  (Option.bind (Option.bind (l20_m6[l53_m93]?) fun x59 =>
    cond (x59 == ((l53_m93 : Nat) : Int))
      (Option.bind (l53_m14[l53_m93]?) fun x63 =>
      og (l53_m15 + 1 < 4611686018427387904) <|
      some (l53_m15 + 1, l53_m14.set l53_m93 ((l53_m15 : Nat) : Int)))
      (Option.bind (getI l53_m14 x59) fun x65 =>
      Option.bind (l53_m14[l53_m93]?) fun x66 =>
      some (l53_m15, l53_m14.set l53_m93 x65))) fun (l57_m15, l57_m14) =>
  og (l53_m93 + 1 < 4611686018427387904) <|
  some (Ctl.next (l57_m15, l53_m93 + 1, l57_m14)))
  (some (Ctl.out (l53_m15, l53_m14)))
def L_spec_nwGlue (a0_0 : Int) (a0_1 : List (Int × Int × Int)) (a0_2 : List Int) (a0_3 : List Int) (a1_0 : Int) (a1_1 : List (Int × Int × Int)) (a1_2 : List Int) (a1_3 : List Int) : Option (Int × (List (Int × Int × Int)) × List Int × List Int) :=
  Option.bind (L_spec_nwBeside a0_0 a0_1 a0_2 a0_3 a1_0 a1_1 a1_2 a1_3) fun y3 =>
Option.bind (L_spec_l1Own a0_2) fun y5 =>
og (0 ≤ ((a0_3.length : Nat) : Int) ∧ ((a0_3.length : Nat) : Int) ≤ ((y3.2.2.2.length : Nat) : Int) ∧ ((y3.2.2.2.length : Nat) : Int) ≤ ((y3.2.2.2.length : Nat) : Int)) <|
og (0 ≤ y3.1 ∧ y3.1 ≤ y3.1 ∧ y3.1 ≤ 1073741824 ∧ (8 : Int) * y3.1 ≤ 140737488355328) <|
Option.bind (loopM (fun s_ : Nat × List Int => L_spec_nwGlue_l1 y3 s_.1 s_.2) 4611686018427387904 (0, List.replicate y3.1.toNat (0 : Int))) fun l10_m6 =>
Option.bind (loopM (fun s_ : Nat × List Int => L_spec_nwGlue_l2 a0_3 a1_2 a0_0 s_.1 s_.2) 4611686018427387904 (0, l10_m6)) fun l20_m6 =>
og (0 ≤ y3.1 ∧ y3.1 ≤ y3.1 ∧ y3.1 ≤ 1073741824 ∧ (8 : Int) * y3.1 ≤ 140737488355328) <|
Option.bind (loopM (fun s_ : Nat × Nat × List Int => L_spec_nwGlue_l4 l20_m6 s_.1 s_.2.1 s_.2.2) 4611686018427387904 (0, 0, List.replicate y3.1.toNat (0 : Int))) fun (l51_m15, l51_m14) =>
Option.bind (L_spec_nwMap y3.1 y3.2.1 y5 (y3.2.2.2.drop a0_3.length) l51_m14 ((l51_m15 : Nat) : Int)) fun y69 =>
some (y69.1, y69.2.1, y69.2.2.1, y69.2.2.2)
def rv_spec_nwGlue (r : Int × (List (Int × Int × Int)) × List Int × List Int) : RV := ⟨false, [(true, [.sc (.int .i64 r.1), .new 59 (.pair .int (.pair .int .int)) r.2.1, .new 3 .int r.2.2.1, .new 3 .int r.2.2.2])]⟩
theorem ok_spec_nwGlue {a0_0 : Int} {a0_1 : List (Int × Int × Int)} {a0_2 : List Int} {a0_3 : List Int} {a1_0 : Int} {a1_1 : List (Int × Int × Int)} {a1_2 : List Int} {a1_3 : List Int} {r : Int × (List (Int × Int × Int)) × List Int × List Int} (h : L_spec_nwGlue a0_0 a0_1 a0_2 a0_3 a1_0 a1_1 a1_2 a1_3 = some r) : CallOK Tryd.prog Tab 73 [(.agg [(.int .i64 a0_0), (.tree (.pair .int (.pair .int .int)) a0_1), (.tree .int a0_2), (.tree .int a0_3)]), (.agg [(.int .i64 a1_0), (.tree (.pair .int (.pair .int .int)) a1_1), (.tree .int a1_2), (.tree .int a1_3)])] (rv_spec_nwGlue r) := by
  refine call_of_ (by kernel_rfl) Tryd.func73 c_spec_nwGlue (n := 119) (by kernel_rfl) (by simp) (tl := [(0, (.agg [(.int .i64 a0_0), (.tree (.pair .int (.pair .int .int)) a0_1), (.tree .int a0_2), (.tree .int a0_3)])), (1, (.agg [(.int .i64 a1_0), (.tree (.pair .int (.pair .int .int)) a1_1), (.tree .int a1_2), (.tree .int a1_3)]))]) rfl ?_
  unfold m_spec_nwGlue
  unfold L_spec_nwGlue at h
  refine awp_seq_ ?_
  refine awp_region_ 4 (by kernel_rfl) ?_
  refine rs1 (.box (2, 1) 0) (2, 1) (.cells 30 [(.int .i64 a0_0), (.tree (.pair .int (.pair .int .int)) a0_1), (.tree .int a0_2), (.tree .int a0_3)]) (by kernel_rfl) ?_
  refine rs1 (.box (3, 2) 0) (3, 2) (.cells 30 [(.int .i64 a1_0), (.tree (.pair .int (.pair .int .int)) a1_1), (.tree .int a1_2), (.tree .int a1_3)]) (by kernel_rfl) ?_
  refine rs1 (.box (4, 3) 0) (4, 3) (.cells 30 [(.int .i64 0), .nils, .nils, .nils]) (by kernel_rfl) ?_
  refine rnil (tn_ ?_)
  refine awp_seq_ ?_
  obtain ⟨y3, h3, h⟩ := ob_some h
  refine awp_region_ 9 (by kernel_rfl) ?_
  refine rsl (.agg [(.int .i64 a0_0), (.tree (.pair .int (.pair .int .int)) a0_1), (.tree .int a0_2), (.tree .int a0_3)]) (by kernel_rfl) ?_
  refine rsl (.agg [(.int .i64 a1_0), (.tree (.pair .int (.pair .int .int)) a1_1), (.tree .int a1_2), (.tree .int a1_3)]) (by kernel_rfl) ?_
  refine rcall (.agg [(.int .i64 y3.1), (.own (320, 6) (.pair .int (.pair .int .int)) 0 y3.2.1.length), (.own (321, 6) .int 0 y3.2.2.1.length), (.own (322, 6) .int 0 y3.2.2.2.length)]) [((320, 6), some (.arr 59 (.pair .int (.pair .int .int)) y3.2.1)), ((321, 6), some (.arr 3 .int y3.2.2.1)), ((322, 6), some (.arr 3 .int y3.2.2.2))] [(.agg [(.int .i64 a0_0), (.tree (.pair .int (.pair .int .int)) a0_1), (.tree .int a0_2), (.tree .int a0_3)]), (.agg [(.int .i64 a1_0), (.tree (.pair .int (.pair .int .int)) a1_1), (.tree .int a1_2), (.tree .int a1_3)])] _ (caps := []) (args0 := [(.agg [(.int .i64 a0_0), (.tree (.pair .int (.pair .int .int)) a0_1), (.tree .int a0_2), (.tree .int a0_3)]), (.agg [(.int .i64 a1_0), (.tree (.pair .int (.pair .int .int)) a1_1), (.tree .int a1_2), (.tree .int a1_3)])]) trivial (by kernel_rfl) (by kernel_rfl) (by kernel_rfl) (by kernel_rfl) (ok_spec_nwBeside h3) hb_spec_nwBeside (by kernel_rfl) ?_
  refine rs1 (.box (5, 7) 0) (5, 7) (.cells 30 [(.int .i64 0), .nils, .nils, .nils]) (by kernel_rfl) ?_
  refine rsn2 (5, 7) (5, 7) (.cells 30 [(.int .i64 y3.1), (.own (320, 6) (.pair .int (.pair .int .int)) 0 y3.2.1.length), (.own (321, 6) .int 0 y3.2.2.1.length), (.own (322, 6) .int 0 y3.2.2.2.length)]) (by kernel_rfl) ?_
  refine rnil (tn_ ?_)
  refine awp_seq_ ?_
  obtain ⟨y5, h5, h⟩ := ob_some h
  refine awp_region_ 14 (by kernel_rfl) ?_
  refine rs0 (.box (2, 1) 2) (by kernel_rfl) ?_
  refine rsl (.tree .int a0_2) (by kernel_rfl) ?_
  refine rcall (.own (368, 11) .int 0 y5.length) [((368, 11), some (.arr 3 .int y5))] [(.tree .int a0_2)] _ (caps := []) (args0 := [(.tree .int a0_2)]) trivial (by kernel_rfl) (by kernel_rfl) (by kernel_rfl) (by kernel_rfl) (ok_spec_l1Own h5) hb_spec_l1Own (by kernel_rfl) ?_
  refine rs0 (.box (5, 7) 2) (by kernel_rfl) ?_
  refine rsn2 (5, 7) (5, 7) (.cells 30 [(.int .i64 y3.1), (.own (320, 6) (.pair .int (.pair .int .int)) 0 y3.2.1.length), (.own (368, 11) .int 0 y5.length), (.own (322, 6) .int 0 y3.2.2.2.length)]) (by kernel_rfl) ?_
  refine rnil (tn_ ?_)
  refine awp_seq_ ?_
  obtain ⟨g7, h⟩ := og_some h
  refine awp_region_ 22 (by kernel_rfl) ?_
  refine rs0 (.box (5, 7) 3) (by kernel_rfl) ?_
  refine rsl (.own (322, 6) .int 0 y3.2.2.2.length) (by kernel_rfl) ?_
  refine rs0 (.box (2, 1) 3) (by kernel_rfl) ?_
  refine rsl (.tree .int a0_3) (by kernel_rfl) ?_
  refine rs0 (.int .i64 ((a0_3.length : Nat) : Int)) (by kernel_rfl) ?_
  refine rs0 (.own (322, 6) .int a0_3.length (y3.2.2.2.length - a0_3.length)) (s_sliceO (t := .int) (i := (322, 6)) (off := 0) (len := y3.2.2.2.length) (l := ((a0_3.length : Nat) : Int)) (h := ((y3.2.2.2.length : Nat) : Int)) (by kernel_rfl) (by kernel_rfl) (by kernel_rfl) rfl g7 (Nat.zero_add _) (by omega)) ?_
  refine rs0 (.box (5, 7) 3) (by kernel_rfl) ?_
  refine rsn2 (5, 7) (5, 7) (.cells 30 [(.int .i64 y3.1), (.own (320, 6) (.pair .int (.pair .int .int)) 0 y3.2.1.length), (.own (368, 11) .int 0 y5.length), (.own (322, 6) .int a0_3.length (y3.2.2.2.length - a0_3.length))]) (by kernel_rfl) ?_
  refine rnil (tn_ ?_)
  refine awp_seq_ ?_
  obtain ⟨g9, h⟩ := og_some h
  refine awp_region_ 26 (by kernel_rfl) ?_
  refine rs0 (.box (5, 7) 0) (by kernel_rfl) ?_
  refine rsl (.int .i64 y3.1) (by kernel_rfl) ?_
  refine rs1 (.own (34, 24) .int 0 y3.1.toNat) (34, 24) (.arr 3 .int (List.replicate y3.1.toNat (0 : Int))) (s_make (t := .int) (k := .i64) (k' := .i64) (m := y3.1) (m' := y3.1) (by kernel_rfl) (by kernel_rfl) g9 rfl) ?_
  refine rs0 (.own (34, 24) .int 0 y3.1.toNat) (by kernel_rfl) ?_
  refine rnil (tn_ ?_)
  refine awp_seqB h (fun (l10_m6 : List Int) S_ => S_ = ⟨mkTm [(2, (.box (0, 1) 0)), (3, (.box (1, 1) 0)), (4, (.box (2, 1) 0)), (5, (.box (3, 1) 0)), (6, (.own (4, 1) .int 0 l10_m6.length))], mkOb (someL [((0, 1), .cells 30 [(.int .i64 a0_0), (.tree (.pair .int (.pair .int .int)) a0_1), (.tree .int a0_2), (.tree .int a0_3)]), ((1, 1), .cells 30 [(.int .i64 a1_0), (.tree (.pair .int (.pair .int .int)) a1_1), (.tree .int a1_2), (.tree .int a1_3)]), ((2, 1), .cells 30 [(.int .i64 0), .nils, .nils, .nils]), ((3, 1), .cells 30 [(.int .i64 y3.1), (.own (5, 1) (.pair .int (.pair .int .int)) 0 y3.2.1.length), (.own (6, 1) .int 0 y5.length), (.own (7, 1) .int a0_3.length (y3.2.2.2.length - a0_3.length))]), ((4, 1), .arr 3 .int l10_m6), ((5, 1), .arr 59 (.pair .int (.pair .int .int)) y3.2.1), ((6, 1), .arr 3 .int y5), ((7, 1), .arr 3 .int y3.2.2.2)]), 2⟩) ?_ ?_
  · intro v_ h
    refine awp_seq_ ?_
    refine awp_region_ 29 (by kernel_rfl) ?_
    refine rs0 (.own (34, 24) .int 0 y3.1.toNat) (by kernel_rfl) ?_
    refine rs0 (.int .i64 ((y3.1.toNat : Nat) : Int)) (by kernel_rfl) ?_
    refine rs0 (.int .i64 0) (by kernel_rfl) ?_
    refine rnil (tn_ ?_)
    refine awp_block_ ?_
    refine awp_loopL h (fun t_ S_ => ∃ (l12_m37 : Nat), ∃ (l12_m6 : List Int), t_ = (l12_m37, l12_m6) ∧ S_ = ⟨mkTm [(2, (.box (0, 1) 0)), (3, (.box (1, 1) 0)), (4, (.box (2, 1) 0)), (5, (.box (3, 1) 0)), (6, (.own (4, 1) .int 0 l12_m6.length)), (36, (.int .i64 ((y3.1.toNat : Nat) : Int))), (37, (.int .i64 ((l12_m37 : Nat) : Int)))], mkOb (someL [((0, 1), .cells 30 [(.int .i64 a0_0), (.tree (.pair .int (.pair .int .int)) a0_1), (.tree .int a0_2), (.tree .int a0_3)]), ((1, 1), .cells 30 [(.int .i64 a1_0), (.tree (.pair .int (.pair .int .int)) a1_1), (.tree .int a1_2), (.tree .int a1_3)]), ((2, 1), .cells 30 [(.int .i64 0), .nils, .nils, .nils]), ((3, 1), .cells 30 [(.int .i64 y3.1), (.own (5, 1) (.pair .int (.pair .int .int)) 0 y3.2.1.length), (.own (6, 1) .int 0 y5.length), (.own (7, 1) .int a0_3.length (y3.2.2.2.length - a0_3.length))]), ((4, 1), .arr 3 .int l12_m6), ((5, 1), .arr 59 (.pair .int (.pair .int .int)) y3.2.1), ((6, 1), .arr 3 .int y5), ((7, 1), .arr 3 .int y3.2.2.2)]), 2⟩) ⟨_, ((weak_tm_ 6 (.own (34, 24) .int 0 y3.1.toNat) (.own (34, 24) .int 0 ((List.replicate y3.1.toNat (0 : Int)).length)) (by kernel_rfl) (congrArg (fun z_ => ((.own (34, 24) .int 0 z_) : AV)) (List.length_replicate.symm : y3.1.toNat = (List.replicate y3.1.toNat (0 : Int)).length))).trans (weak_ren (renF [((0, 1), (2, 1)), ((1, 1), (3, 2)), ((2, 1), (4, 3)), ((3, 1), (5, 7)), ((5, 1), (320, 6)), ((6, 1), (368, 11)), ((7, 1), (322, 6)), ((4, 1), (34, 24))]) (by kernel_rfl) (by kernel_rfl) (by kernel_rfl))), ⟨0, List.replicate y3.1.toNat (0 : Int), rfl, rfl⟩⟩ ?_
    · rintro n_ _ _ c_ ⟨l12_m37, l12_m6, rfl, rfl⟩ h hn12
      (try dsimp only at h)
      unfold L_spec_nwGlue_l1 at h
      unfold m_spec_nwGlue_l1
      refine awp_seq_ ?_
      refine awp_region_ 3 (by kernel_rfl) ?_
      refine rs0 (.bool (decide (((l12_m37 : Nat) : Int) < ((y3.1.toNat : Nat) : Int)))) (by kernel_rfl) ?_
      refine rnil (tn_ ?_)
      refine awp_seq_ ?_
      rcases cond_some h with ⟨q15, h⟩ | ⟨q15, h⟩
      · have q15_ := of_decide_eq_true q15
        refine awp_condT_ q15 (by kernel_rfl) ?_
        refine awp_skip_ (tn_ ?_)
        refine awp_seq_ ?_
        refine awp_block_ ?_
        refine awp_seq_ ?_
        refine awp_region_ 5 (by kernel_rfl) ?_
        refine rs0 (.int .i64 ((l12_m37 : Nat) : Int)) (by kernel_rfl) ?_
        refine rs0 (.int .i64 ((l12_m37 : Nat) : Int)) (by kernel_rfl) ?_
        refine rnil (tn_ ?_)
        obtain ⟨x18, e18, h⟩ := ob_some h
        refine awp_region_ 10 (by kernel_rfl) ?_
        refine rs0 (.own (4, 1) .int 0 l12_m6.length) (by kernel_rfl) ?_
        refine rs0 (.int .i64 ((l12_m37 : Nat) : Int)) (by kernel_rfl) ?_
        refine rs0 (.int .i64 ((l12_m37 : Nat) : Int)) (by kernel_rfl) ?_
        refine rs0 (.elt (4, 1) l12_m37 0) (s_idxO (t := .int) (o := (4, 1)) (len := l12_m6.length) (k := .i64) (m := ((l12_m37 : Nat) : Int)) (by kernel_rfl) (by kernel_rfl) rfl (nat_nn _) rfl (getN_lt e18)) ?_
        refine rsn2 (4, 1) (4, 1) (.arr 3 .int (l12_m6.set l12_m37 ((l12_m37 : Nat) : Int))) (s_stE (i := (4, 1)) (j := l12_m37) (k := 0) (e := 3) (t := .int) (xs := l12_m6) (cs := [(.int .i64 ((l12_m37 : Nat) : Int))]) (x1 := ((l12_m37 : Nat) : Int)) (by kernel_rfl) (by kernel_rfl) e18 (by kernel_rfl) (by kernel_rfl)) ?_
        refine rnil (bn_ (tn_ ?_))
        obtain ⟨g19, h⟩ := og_some h
        refine awp_region_ 12 (by kernel_rfl) ?_
        refine rs0 (.int .i64 ((l12_m37 + 1 : Nat) : Int)) (s_add1 (j := l12_m37) (by kernel_rfl) (by kernel_rfl) g19) ?_
        refine rs0 (.int .i64 ((l12_m37 + 1 : Nat) : Int)) (by kernel_rfl) ?_
        refine rnil (tn_ ?_)
        obtain rfl := Option.some.inj h
        exact ⟨(l12_m37 + 1, l12_m6.set l12_m37 ((l12_m37 : Nat) : Int)), _, ((weak_tm_ 6 (.own (4, 1) .int 0 l12_m6.length) (.own (4, 1) .int 0 ((l12_m6.set l12_m37 ((l12_m37 : Nat) : Int)).length)) (by kernel_rfl) (congrArg (fun z_ => ((.own (4, 1) .int 0 z_) : AV)) (((rfl : l12_m6.length = l12_m6.length).trans List.length_set.symm) : l12_m6.length = (l12_m6.set l12_m37 ((l12_m37 : Nat) : Int)).length))).trans (weak_ren (renF []) (by kernel_rfl) (by kernel_rfl) (by kernel_rfl))), ⟨l12_m37 + 1, l12_m6.set l12_m37 ((l12_m37 : Nat) : Int), rfl, rfl⟩, hn12⟩
      · have q15_ := of_decide_eq_false q15
        refine awp_condF_ q15 (by kernel_rfl) ?_
        refine awp_exit_ (te_ (te_ (be_ (tn_ ?_))))
        obtain rfl := Option.some.inj h
        have h := hn12
        (try dsimp only at h)
        obtain rfl := Option.some.inj h
        exact ⟨_, (weak_ren (renF []) (by kernel_rfl) (by kernel_rfl) (by kernel_rfl)), rfl⟩
  · rintro l10_m6 _ rfl h
    (try dsimp only at h)
    refine awp_seqB h (fun (l20_m6 : List Int) S_ => S_ = ⟨mkTm [(4, (.box (0, 1) 0)), (5, (.box (1, 1) 0)), (6, (.own (2, 1) .int 0 l20_m6.length))], mkOb (someL [((0, 1), .cells 30 [(.int .i64 0), .nils, .nils, .nils]), ((1, 1), .cells 30 [(.int .i64 y3.1), (.own (3, 1) (.pair .int (.pair .int .int)) 0 y3.2.1.length), (.own (4, 1) .int 0 y5.length), (.own (5, 1) .int a0_3.length (y3.2.2.2.length - a0_3.length))]), ((2, 1), .arr 3 .int l20_m6), ((3, 1), .arr 59 (.pair .int (.pair .int .int)) y3.2.1), ((4, 1), .arr 3 .int y5), ((5, 1), .arr 3 .int y3.2.2.2)]), 2⟩) ?_ ?_
    · intro v_ h
      refine awp_seq_ ?_
      refine awp_region_ 6 (by kernel_rfl) ?_
      refine rs0 (.box (0, 1) 3) (by kernel_rfl) ?_
      refine rsl (.tree .int a0_3) (by kernel_rfl) ?_
      refine rs0 (.int .i64 ((a0_3.length : Nat) : Int)) (by kernel_rfl) ?_
      refine rs0 (.int .i64 0) (by kernel_rfl) ?_
      refine rnil (tn_ ?_)
      refine awp_block_ ?_
      refine awp_loopL h (fun t_ S_ => ∃ (l22_m48 : Nat), ∃ (l22_m6 : List Int), t_ = (l22_m48, l22_m6) ∧ S_ = ⟨mkTm [(2, (.box (0, 1) 0)), (3, (.box (1, 1) 0)), (4, (.box (2, 1) 0)), (5, (.box (3, 1) 0)), (6, (.own (4, 1) .int 0 l22_m6.length)), (46, (.tree .int a0_3)), (47, (.int .i64 ((a0_3.length : Nat) : Int))), (48, (.int .i64 ((l22_m48 : Nat) : Int)))], mkOb (someL [((0, 1), .cells 30 [(.int .i64 a0_0), (.tree (.pair .int (.pair .int .int)) a0_1), (.tree .int a0_2), (.tree .int a0_3)]), ((1, 1), .cells 30 [(.int .i64 a1_0), (.tree (.pair .int (.pair .int .int)) a1_1), (.tree .int a1_2), (.tree .int a1_3)]), ((2, 1), .cells 30 [(.int .i64 0), .nils, .nils, .nils]), ((3, 1), .cells 30 [(.int .i64 y3.1), (.own (5, 1) (.pair .int (.pair .int .int)) 0 y3.2.1.length), (.own (6, 1) .int 0 y5.length), (.own (7, 1) .int a0_3.length (y3.2.2.2.length - a0_3.length))]), ((4, 1), .arr 3 .int l22_m6), ((5, 1), .arr 59 (.pair .int (.pair .int .int)) y3.2.1), ((6, 1), .arr 3 .int y5), ((7, 1), .arr 3 .int y3.2.2.2)]), 2⟩) ⟨_, (weak_ren (renF []) (by kernel_rfl) (by kernel_rfl) (by kernel_rfl)), ⟨0, l10_m6, rfl, rfl⟩⟩ ?_
      · rintro n_ _ _ c_ ⟨l22_m48, l22_m6, rfl, rfl⟩ h hn22
        (try dsimp only at h)
        unfold L_spec_nwGlue_l2 at h
        unfold m_spec_nwGlue_l2
        refine awp_seq_ ?_
        refine awp_region_ 3 (by kernel_rfl) ?_
        refine rs0 (.bool (decide (((l22_m48 : Nat) : Int) < ((a0_3.length : Nat) : Int)))) (by kernel_rfl) ?_
        refine rnil (tn_ ?_)
        refine awp_seq_ ?_
        rcases cond_some h with ⟨q25, h⟩ | ⟨q25, h⟩
        · have q25_ := of_decide_eq_true q25
          refine awp_condT_ q25 (by kernel_rfl) ?_
          refine awp_skip_ (tn_ ?_)
          refine awp_seqB h (fun (l26_m6 : List Int) S_ => S_ = ⟨mkTm [(2, (.box (0, 1) 0)), (3, (.box (1, 1) 0)), (4, (.box (2, 1) 0)), (5, (.box (3, 1) 0)), (6, (.own (4, 1) .int 0 l26_m6.length)), (46, (.tree .int a0_3)), (47, (.int .i64 ((a0_3.length : Nat) : Int))), (48, (.int .i64 ((l22_m48 : Nat) : Int)))], mkOb (someL [((0, 1), .cells 30 [(.int .i64 a0_0), (.tree (.pair .int (.pair .int .int)) a0_1), (.tree .int a0_2), (.tree .int a0_3)]), ((1, 1), .cells 30 [(.int .i64 a1_0), (.tree (.pair .int (.pair .int .int)) a1_1), (.tree .int a1_2), (.tree .int a1_3)]), ((2, 1), .cells 30 [(.int .i64 0), .nils, .nils, .nils]), ((3, 1), .cells 30 [(.int .i64 y3.1), (.own (5, 1) (.pair .int (.pair .int .int)) 0 y3.2.1.length), (.own (6, 1) .int 0 y5.length), (.own (7, 1) .int a0_3.length (y3.2.2.2.length - a0_3.length))]), ((4, 1), .arr 3 .int l26_m6), ((5, 1), .arr 59 (.pair .int (.pair .int .int)) y3.2.1), ((6, 1), .arr 3 .int y5), ((7, 1), .arr 3 .int y3.2.2.2)]), 2⟩) ?_ ?_
          · intro v_ h
            refine awp_block_ ?_
            refine awp_seq_ ?_
            obtain ⟨x28, e28, h⟩ := ob_some h
            refine awp_region_ 8 (by kernel_rfl) ?_
            refine rs0 (.int .i64 ((l22_m48 : Nat) : Int)) (by kernel_rfl) ?_
            refine rs0 (.telt .int x28 0) (s_idxT (t := .int) (xs := a0_3) (k := .i64) (m := ((l22_m48 : Nat) : Int)) (by kernel_rfl) (by kernel_rfl) rfl (nat_nn _) rfl e28) ?_
            refine rs0 (.int .i64 x28) (by kernel_rfl) ?_
            refine rs0 (.int .i64 ((l22_m48 : Nat) : Int)) (by kernel_rfl) ?_
            refine rs0 (.int .i64 x28) (by kernel_rfl) ?_
            refine rnil (tn_ ?_)
            refine awp_seq_ ?_
            obtain ⟨x30, f30, h⟩ := ob_some h
            obtain ⟨p30, b30, e30⟩ := getI_some f30
            obtain ⟨x31, e31, h⟩ := ob_some h
            obtain ⟨x32, f32, h⟩ := ob_some h
            obtain ⟨p32, b32, e32⟩ := getI_some f32
            obtain ⟨x33, f33, h⟩ := ob_some h
            obtain ⟨p33, b33, e33⟩ := getI_some f33
            refine awp_regionD_ 25 (by kernel_rfl) ?_
            refine ds0 (.own (4, 1) .int 0 l22_m6.length) (by kernel_rfl) ?_
            refine ds0 (.int .i64 x28) (by kernel_rfl) ?_
            refine ds0 (.elt (4, 1) x28.toNat 0) (s_idxO (t := .int) (o := (4, 1)) (len := l22_m6.length) (k := .i64) (m := x28) (by kernel_rfl) (by kernel_rfl) rfl p30 rfl (getN_lt e30)) ?_
            refine dsl (.int .i64 x30) (s_ldE (i := (4, 1)) (j := x28.toNat) (k := 0) (e := 3) (t := .int) (xs := l22_m6) (by kernel_rfl) (by kernel_rfl) e30 (by kernel_rfl)) ?_
            refine ds0 (.own (4, 1) .int 0 l22_m6.length) (by kernel_rfl) ?_
            refine ds0 (.box (0, 1) 0) (by kernel_rfl) ?_
            refine dsl (.int .i64 a0_0) (by kernel_rfl) ?_
            refine ds0 (.box (1, 1) 2) (by kernel_rfl) ?_
            refine dsl (.tree .int a1_2) (by kernel_rfl) ?_
            refine ds0 (.int .i64 ((l22_m48 : Nat) : Int)) (by kernel_rfl) ?_
            refine ds0 (.telt .int x31 0) (s_idxT (t := .int) (xs := a1_2) (k := .i64) (m := ((l22_m48 : Nat) : Int)) (by kernel_rfl) (by kernel_rfl) rfl (nat_nn _) rfl e31) ?_
            refine ds0 (.int .i64 x31) (by kernel_rfl) ?_
            refine ds0 (.int .i64 (IntKind.i64.wrap (a0_0 + x31))) (by kernel_rfl) ?_
            refine ds0 (.elt (4, 1) ((IntKind.i64.wrap (a0_0 + x31)).toNat) 0) (s_idxO (t := .int) (o := (4, 1)) (len := l22_m6.length) (k := .i64) (m := IntKind.i64.wrap (a0_0 + x31)) (by kernel_rfl) (by kernel_rfl) rfl p32 rfl (getN_lt e32)) ?_
            refine dsl (.int .i64 x33) (s_ldE (i := (4, 1)) (j := (IntKind.i64.wrap (a0_0 + x31)).toNat) (k := 0) (e := 3) (t := .int) (xs := l22_m6) (by kernel_rfl) (by kernel_rfl) e33 (by kernel_rfl)) ?_
            refine ds0 (.int .i64 x30) (by kernel_rfl) ?_
            refine ds0 (.int .i64 x33) (by kernel_rfl) ?_
            refine dnil (by kernel_rfl) (tn_ ?_)
            refine awp_seq_ ?_
            refine awp_region_ 28 (by kernel_rfl) ?_
            refine rs0 (.own (4, 1) .int 0 l22_m6.length) (by kernel_rfl) ?_
            refine rs0 (.int .i64 ((l22_m6.length : Nat) : Int)) (by kernel_rfl) ?_
            refine rs0 (.int .i64 0) (by kernel_rfl) ?_
            refine rnil (tn_ ?_)
            refine awp_block_ ?_
            refine awp_loopL h (fun t_ S_ => ∃ (l35_m70 : Nat), ∃ (l35_m6 : List Int), t_ = (l35_m70, l35_m6) ∧ S_ = ⟨mkTm [(2, (.box (0, 1) 0)), (3, (.box (1, 1) 0)), (4, (.box (2, 1) 0)), (5, (.box (3, 1) 0)), (6, (.own (4, 1) .int 0 l35_m6.length)), (10, (.int .i64 x30)), (11, (.int .i64 x33)), (46, (.tree .int a0_3)), (47, (.int .i64 ((a0_3.length : Nat) : Int))), (48, (.int .i64 ((l22_m48 : Nat) : Int))), (68, (.own (4, 1) .int 0 l35_m6.length)), (69, (.int .i64 ((l22_m6.length : Nat) : Int))), (70, (.int .i64 ((l35_m70 : Nat) : Int)))], mkOb (someL [((0, 1), .cells 30 [(.int .i64 a0_0), (.tree (.pair .int (.pair .int .int)) a0_1), (.tree .int a0_2), (.tree .int a0_3)]), ((1, 1), .cells 30 [(.int .i64 a1_0), (.tree (.pair .int (.pair .int .int)) a1_1), (.tree .int a1_2), (.tree .int a1_3)]), ((2, 1), .cells 30 [(.int .i64 0), .nils, .nils, .nils]), ((3, 1), .cells 30 [(.int .i64 y3.1), (.own (5, 1) (.pair .int (.pair .int .int)) 0 y3.2.1.length), (.own (6, 1) .int 0 y5.length), (.own (7, 1) .int a0_3.length (y3.2.2.2.length - a0_3.length))]), ((4, 1), .arr 3 .int l35_m6), ((5, 1), .arr 59 (.pair .int (.pair .int .int)) y3.2.1), ((6, 1), .arr 3 .int y5), ((7, 1), .arr 3 .int y3.2.2.2)]), 2⟩) ⟨_, (weak_ren (renF []) (by kernel_rfl) (by kernel_rfl) (by kernel_rfl)), ⟨0, l22_m6, rfl, rfl⟩⟩ ?_
            · rintro n_ _ _ c_ ⟨l35_m70, l35_m6, rfl, rfl⟩ h hn35
              (try dsimp only at h)
              unfold L_spec_nwGlue_l3 at h
              unfold m_spec_nwGlue_l3
              refine awp_seq_ ?_
              refine awp_region_ 3 (by kernel_rfl) ?_
              refine rs0 (.bool (decide (((l35_m70 : Nat) : Int) < ((l22_m6.length : Nat) : Int)))) (by kernel_rfl) ?_
              refine rnil (tn_ ?_)
              refine awp_seq_ ?_
              rcases cond_some h with ⟨q38, h⟩ | ⟨q38, h⟩
              · have q38_ := of_decide_eq_true q38
                refine awp_condT_ q38 (by kernel_rfl) ?_
                refine awp_skip_ (tn_ ?_)
                refine awp_seqB h (fun (l39_m6 : List Int) S_ => S_ = ⟨mkTm [(2, (.box (0, 1) 0)), (3, (.box (1, 1) 0)), (4, (.box (2, 1) 0)), (5, (.box (3, 1) 0)), (6, (.own (4, 1) .int 0 l39_m6.length)), (10, (.int .i64 x30)), (11, (.int .i64 x33)), (46, (.tree .int a0_3)), (47, (.int .i64 ((a0_3.length : Nat) : Int))), (48, (.int .i64 ((l22_m48 : Nat) : Int))), (68, (.own (4, 1) .int 0 l39_m6.length)), (69, (.int .i64 ((l22_m6.length : Nat) : Int))), (70, (.int .i64 ((l35_m70 : Nat) : Int)))], mkOb (someL [((0, 1), .cells 30 [(.int .i64 a0_0), (.tree (.pair .int (.pair .int .int)) a0_1), (.tree .int a0_2), (.tree .int a0_3)]), ((1, 1), .cells 30 [(.int .i64 a1_0), (.tree (.pair .int (.pair .int .int)) a1_1), (.tree .int a1_2), (.tree .int a1_3)]), ((2, 1), .cells 30 [(.int .i64 0), .nils, .nils, .nils]), ((3, 1), .cells 30 [(.int .i64 y3.1), (.own (5, 1) (.pair .int (.pair .int .int)) 0 y3.2.1.length), (.own (6, 1) .int 0 y5.length), (.own (7, 1) .int a0_3.length (y3.2.2.2.length - a0_3.length))]), ((4, 1), .arr 3 .int l39_m6), ((5, 1), .arr 59 (.pair .int (.pair .int .int)) y3.2.1), ((6, 1), .arr 3 .int y5), ((7, 1), .arr 3 .int y3.2.2.2)]), 2⟩) ?_ ?_
                · intro v_ h
                  refine awp_block_ ?_
                  refine awp_seq_ ?_
                  obtain ⟨x41, e41, h⟩ := ob_some h
                  refine awp_region_ 8 (by kernel_rfl) ?_
                  refine rs0 (.int .i64 ((l35_m70 : Nat) : Int)) (by kernel_rfl) ?_
                  refine rs0 (.elt (4, 1) l35_m70 0) (s_idxO (t := .int) (o := (4, 1)) (len := l35_m6.length) (k := .i64) (m := ((l35_m70 : Nat) : Int)) (by kernel_rfl) (by kernel_rfl) rfl (nat_nn _) rfl (getN_lt e41)) ?_
                  refine rsl (.int .i64 x41) (s_ldE (i := (4, 1)) (j := l35_m70) (k := 0) (e := 3) (t := .int) (xs := l35_m6) (by kernel_rfl) (by kernel_rfl) e41 (by kernel_rfl)) ?_
                  refine rs0 (.int .i64 ((l35_m70 : Nat) : Int)) (by kernel_rfl) ?_
                  refine rs0 (.int .i64 x41) (by kernel_rfl) ?_
                  refine rnil (tn_ ?_)
                  refine awp_seq_ ?_
                  obtain ⟨y43, h43, h⟩ := ob_some h
                  refine awp_region_ 13 (by kernel_rfl) ?_
                  refine rs0 (.int .i64 x41) (by kernel_rfl) ?_
                  refine rs0 (.int .i64 x30) (by kernel_rfl) ?_
                  refine rs0 (.int .i64 x33) (by kernel_rfl) ?_
                  refine rcall (.int .i64 y43) [] [(.int .i64 x30), (.int .i64 x33)] _ (caps := []) (args0 := [(.int .i64 x30), (.int .i64 x33)]) trivial (by kernel_rfl) (by kernel_rfl) (by kernel_rfl) (by kernel_rfl) (ok_spec_l1Most h43) hb_spec_l1Most (by kernel_rfl) ?_
                  refine rs0 (.bool (x41 == y43)) (by kernel_rfl) ?_
                  refine rnil (tn_ ?_)
                  rcases cond_some h with ⟨q44, h⟩ | ⟨q44, h⟩
                  · refine awp_condT_ q44 (by kernel_rfl) ?_
                    obtain ⟨y45, h45, h⟩ := ob_some h
                    refine awp_region_ 20 (by kernel_rfl) ?_
                    refine rs0 (.own (4, 1) .int 0 l35_m6.length) (by kernel_rfl) ?_
                    refine rs0 (.int .i64 ((l35_m70 : Nat) : Int)) (by kernel_rfl) ?_
                    refine rs0 (.int .i64 x30) (by kernel_rfl) ?_
                    refine rs0 (.int .i64 x33) (by kernel_rfl) ?_
                    refine rcall (.int .i64 y45) [] [(.int .i64 x30), (.int .i64 x33)] _ (caps := []) (args0 := [(.int .i64 x30), (.int .i64 x33)]) trivial (by kernel_rfl) (by kernel_rfl) (by kernel_rfl) (by kernel_rfl) (ok_spec_l1Least h45) hb_spec_l1Least (by kernel_rfl) ?_
                    refine rs0 (.elt (4, 1) l35_m70 0) (s_idxO (t := .int) (o := (4, 1)) (len := l35_m6.length) (k := .i64) (m := ((l35_m70 : Nat) : Int)) (by kernel_rfl) (by kernel_rfl) rfl (nat_nn _) rfl (getN_lt e41)) ?_
                    refine rsn2 (4, 1) (4, 1) (.arr 3 .int (l35_m6.set l35_m70 y45)) (s_stE (i := (4, 1)) (j := l35_m70) (k := 0) (e := 3) (t := .int) (xs := l35_m6) (cs := [(.int .i64 y45)]) (x1 := y45) (by kernel_rfl) (by kernel_rfl) e41 (by kernel_rfl) (by kernel_rfl)) ?_
                    refine rnil (bn_ (tn_ ?_))
                    obtain rfl := Option.some.inj h
                    exact ⟨_, ((weak_tm_ 6 (.own (4, 1) .int 0 l35_m6.length) (.own (4, 1) .int 0 ((l35_m6.set l35_m70 y45).length)) (by kernel_rfl) (congrArg (fun z_ => ((.own (4, 1) .int 0 z_) : AV)) (((rfl : l35_m6.length = l35_m6.length).trans List.length_set.symm) : l35_m6.length = (l35_m6.set l35_m70 y45).length))).trans ((weak_tm_ 68 (.own (4, 1) .int 0 l35_m6.length) (.own (4, 1) .int 0 ((l35_m6.set l35_m70 y45).length)) (by kernel_rfl) (congrArg (fun z_ => ((.own (4, 1) .int 0 z_) : AV)) (((rfl : l35_m6.length = l35_m6.length).trans List.length_set.symm) : l35_m6.length = (l35_m6.set l35_m70 y45).length))).trans (weak_ren (renF []) (by kernel_rfl) (by kernel_rfl) (by kernel_rfl)))), rfl⟩
                  · refine awp_condF_ q44 (by kernel_rfl) ?_
                    refine awp_skip_ (bn_ (tn_ ?_))
                    obtain rfl := Option.some.inj h
                    exact ⟨_, (weak_ren (renF []) (by kernel_rfl) (by kernel_rfl) (by kernel_rfl)), rfl⟩
                · rintro l39_m6 _ rfl h
                  (try dsimp only at h)
                  obtain ⟨g46, h⟩ := og_some h
                  refine awp_region_ 4 (by kernel_rfl) ?_
                  refine rs0 (.int .i64 ((l35_m70 + 1 : Nat) : Int)) (s_add1 (j := l35_m70) (by kernel_rfl) (by kernel_rfl) g46) ?_
                  refine rs0 (.int .i64 ((l35_m70 + 1 : Nat) : Int)) (by kernel_rfl) ?_
                  refine rnil (tn_ ?_)
                  obtain rfl := Option.some.inj h
                  exact ⟨(l35_m70 + 1, l39_m6), _, (weak_ren (renF []) (by kernel_rfl) (by kernel_rfl) (by kernel_rfl)), ⟨l35_m70 + 1, l39_m6, rfl, rfl⟩, hn35⟩
              · have q38_ := of_decide_eq_false q38
                refine awp_condF_ q38 (by kernel_rfl) ?_
                refine awp_exit_ (te_ (te_ (be_ (bn_ (tn_ ?_)))))
                obtain rfl := Option.some.inj h
                have h := hn35
                (try dsimp only at h)
                obtain rfl := Option.some.inj h
                exact ⟨_, (weak_ren (renF []) (by kernel_rfl) (by kernel_rfl) (by kernel_rfl)), rfl⟩
          · rintro l26_m6 _ rfl h
            (try dsimp only at h)
            obtain ⟨g47, h⟩ := og_some h
            refine awp_region_ 4 (by kernel_rfl) ?_
            refine rs0 (.int .i64 ((l22_m48 + 1 : Nat) : Int)) (s_add1 (j := l22_m48) (by kernel_rfl) (by kernel_rfl) g47) ?_
            refine rs0 (.int .i64 ((l22_m48 + 1 : Nat) : Int)) (by kernel_rfl) ?_
            refine rnil (tn_ ?_)
            obtain rfl := Option.some.inj h
            exact ⟨(l22_m48 + 1, l26_m6), _, (weak_ren (renF []) (by kernel_rfl) (by kernel_rfl) (by kernel_rfl)), ⟨l22_m48 + 1, l26_m6, rfl, rfl⟩, hn22⟩
        · have q25_ := of_decide_eq_false q25
          refine awp_condF_ q25 (by kernel_rfl) ?_
          refine awp_exit_ (te_ (te_ (be_ (tn_ ?_))))
          obtain rfl := Option.some.inj h
          have h := hn22
          (try dsimp only at h)
          obtain rfl := Option.some.inj h
          exact ⟨_, (weak_ren (renF [((0, 1), (2, 1)), ((1, 1), (3, 1)), ((3, 1), (5, 1)), ((4, 1), (6, 1)), ((5, 1), (7, 1)), ((2, 1), (4, 1))]) (by kernel_rfl) (by kernel_rfl) (by kernel_rfl)), rfl⟩
    · rintro l20_m6 _ rfl h
      (try dsimp only at h)
      refine awp_seq_ ?_
      obtain ⟨g49, h⟩ := og_some h
      refine awp_region_ 6 (by kernel_rfl) ?_
      refine rs0 (.box (1, 1) 0) (by kernel_rfl) ?_
      refine rsl (.int .i64 y3.1) (by kernel_rfl) ?_
      refine rs1 (.own (90, 4) .int 0 y3.1.toNat) (90, 4) (.arr 3 .int (List.replicate y3.1.toNat (0 : Int))) (s_make (t := .int) (k := .i64) (k' := .i64) (m := y3.1) (m' := y3.1) (by kernel_rfl) (by kernel_rfl) g49 rfl) ?_
      refine rs0 (.own (90, 4) .int 0 y3.1.toNat) (by kernel_rfl) ?_
      refine rnil (tn_ ?_)
      refine awp_seq_ ?_
      refine awp_region_ 7 (by kernel_rfl) ?_
      refine rs0 (.int .i64 0) (by kernel_rfl) ?_
      refine rnil (tn_ ?_)
      refine awp_seqB h (fun t_ S_ => ∃ (l51_m15 : Nat), ∃ (l51_m14 : List Int), t_ = (l51_m15, l51_m14) ∧ S_ = ⟨mkTm [(4, (.box (0, 1) 0)), (5, (.box (1, 1) 0)), (14, (.own (2, 1) .int 0 l51_m14.length)), (15, (.int .i64 ((l51_m15 : Nat) : Int)))], mkOb (someL [((0, 1), .cells 30 [(.int .i64 0), .nils, .nils, .nils]), ((1, 1), .cells 30 [(.int .i64 y3.1), (.own (3, 1) (.pair .int (.pair .int .int)) 0 y3.2.1.length), (.own (4, 1) .int 0 y5.length), (.own (5, 1) .int a0_3.length (y3.2.2.2.length - a0_3.length))]), ((2, 1), .arr 3 .int l51_m14), ((3, 1), .arr 59 (.pair .int (.pair .int .int)) y3.2.1), ((4, 1), .arr 3 .int y5), ((5, 1), .arr 3 .int y3.2.2.2)]), 2⟩) ?_ ?_
      · intro v_ h
        refine awp_seq_ ?_
        refine awp_region_ 10 (by kernel_rfl) ?_
        refine rs0 (.own (2, 1) .int 0 l20_m6.length) (by kernel_rfl) ?_
        refine rs0 (.int .i64 ((l20_m6.length : Nat) : Int)) (by kernel_rfl) ?_
        refine rs0 (.int .i64 0) (by kernel_rfl) ?_
        refine rnil (tn_ ?_)
        refine awp_block_ ?_
        refine awp_loopL h (fun t_ S_ => ∃ (l53_m15 : Nat), ∃ (l53_m93 : Nat), ∃ (l53_m14 : List Int), t_ = (l53_m15, l53_m93, l53_m14) ∧ S_ = ⟨mkTm [(4, (.box (0, 1) 0)), (5, (.box (1, 1) 0)), (14, (.own (2, 1) .int 0 l53_m14.length)), (15, (.int .i64 ((l53_m15 : Nat) : Int))), (91, (.own (3, 1) .int 0 l20_m6.length)), (92, (.int .i64 ((l20_m6.length : Nat) : Int))), (93, (.int .i64 ((l53_m93 : Nat) : Int)))], mkOb (someL [((0, 1), .cells 30 [(.int .i64 0), .nils, .nils, .nils]), ((1, 1), .cells 30 [(.int .i64 y3.1), (.own (4, 1) (.pair .int (.pair .int .int)) 0 y3.2.1.length), (.own (5, 1) .int 0 y5.length), (.own (6, 1) .int a0_3.length (y3.2.2.2.length - a0_3.length))]), ((2, 1), .arr 3 .int l53_m14), ((3, 1), .arr 3 .int l20_m6), ((4, 1), .arr 59 (.pair .int (.pair .int .int)) y3.2.1), ((5, 1), .arr 3 .int y5), ((6, 1), .arr 3 .int y3.2.2.2)]), 2⟩) ⟨_, ((weak_tm_ 14 (.own (90, 4) .int 0 y3.1.toNat) (.own (90, 4) .int 0 ((List.replicate y3.1.toNat (0 : Int)).length)) (by kernel_rfl) (congrArg (fun z_ => ((.own (90, 4) .int 0 z_) : AV)) (List.length_replicate.symm : y3.1.toNat = (List.replicate y3.1.toNat (0 : Int)).length))).trans (weak_ren (renF [((4, 1), (3, 1)), ((5, 1), (4, 1)), ((6, 1), (5, 1)), ((2, 1), (90, 4)), ((3, 1), (2, 1))]) (by kernel_rfl) (by kernel_rfl) (by kernel_rfl))), ⟨0, 0, List.replicate y3.1.toNat (0 : Int), rfl, rfl⟩⟩ ?_
        · rintro n_ _ _ c_ ⟨l53_m15, l53_m93, l53_m14, rfl, rfl⟩ h hn53
          (try dsimp only at h)
          unfold L_spec_nwGlue_l4 at h
          unfold m_spec_nwGlue_l4
          refine awp_seq_ ?_
          refine awp_region_ 3 (by kernel_rfl) ?_
          refine rs0 (.bool (decide (((l53_m93 : Nat) : Int) < ((l20_m6.length : Nat) : Int)))) (by kernel_rfl) ?_
          refine rnil (tn_ ?_)
          refine awp_seq_ ?_
          rcases cond_some h with ⟨q56, h⟩ | ⟨q56, h⟩
          · have q56_ := of_decide_eq_true q56
            refine awp_condT_ q56 (by kernel_rfl) ?_
            refine awp_skip_ (tn_ ?_)
            refine awp_seqB h (fun t_ S_ => ∃ (l57_m15 : Nat), ∃ (l57_m14 : List Int), t_ = (l57_m15, l57_m14) ∧ S_ = ⟨mkTm [(4, (.box (0, 1) 0)), (5, (.box (1, 1) 0)), (14, (.own (2, 1) .int 0 l57_m14.length)), (15, (.int .i64 ((l57_m15 : Nat) : Int))), (91, (.own (3, 1) .int 0 l20_m6.length)), (92, (.int .i64 ((l20_m6.length : Nat) : Int))), (93, (.int .i64 ((l53_m93 : Nat) : Int)))], mkOb (someL [((0, 1), .cells 30 [(.int .i64 0), .nils, .nils, .nils]), ((1, 1), .cells 30 [(.int .i64 y3.1), (.own (4, 1) (.pair .int (.pair .int .int)) 0 y3.2.1.length), (.own (5, 1) .int 0 y5.length), (.own (6, 1) .int a0_3.length (y3.2.2.2.length - a0_3.length))]), ((2, 1), .arr 3 .int l57_m14), ((3, 1), .arr 3 .int l20_m6), ((4, 1), .arr 59 (.pair .int (.pair .int .int)) y3.2.1), ((5, 1), .arr 3 .int y5), ((6, 1), .arr 3 .int y3.2.2.2)]), 2⟩) ?_ ?_
            · intro v_ h
              refine awp_block_ ?_
              refine awp_seq_ ?_
              obtain ⟨x59, e59, h⟩ := ob_some h
              refine awp_region_ 8 (by kernel_rfl) ?_
              refine rs0 (.int .i64 ((l53_m93 : Nat) : Int)) (by kernel_rfl) ?_
              refine rs0 (.elt (3, 1) l53_m93 0) (s_idxO (t := .int) (o := (3, 1)) (len := l20_m6.length) (k := .i64) (m := ((l53_m93 : Nat) : Int)) (by kernel_rfl) (by kernel_rfl) rfl (nat_nn _) rfl (getN_lt e59)) ?_
              refine rsl (.int .i64 x59) (s_ldE (i := (3, 1)) (j := l53_m93) (k := 0) (e := 3) (t := .int) (xs := l20_m6) (by kernel_rfl) (by kernel_rfl) e59 (by kernel_rfl)) ?_
              refine rs0 (.int .i64 ((l53_m93 : Nat) : Int)) (by kernel_rfl) ?_
              refine rs0 (.int .i64 x59) (by kernel_rfl) ?_
              refine rnil (tn_ ?_)
              refine awp_seq_ ?_
              refine awp_region_ 11 (by kernel_rfl) ?_
              refine rs0 (.int .i64 x59) (by kernel_rfl) ?_
              refine rs0 (.int .i64 ((l53_m93 : Nat) : Int)) (by kernel_rfl) ?_
              refine rs0 (.bool (x59 == ((l53_m93 : Nat) : Int))) (by kernel_rfl) ?_
              refine rnil (tn_ ?_)
              rcases cond_some h with ⟨q61, h⟩ | ⟨q61, h⟩
              · refine awp_condT_ q61 (by kernel_rfl) ?_
                refine awp_seq_ ?_
                obtain ⟨x63, e63, h⟩ := ob_some h
                refine awp_region_ 16 (by kernel_rfl) ?_
                refine rs0 (.own (2, 1) .int 0 l53_m14.length) (by kernel_rfl) ?_
                refine rs0 (.int .i64 ((l53_m93 : Nat) : Int)) (by kernel_rfl) ?_
                refine rs0 (.int .i64 ((l53_m15 : Nat) : Int)) (by kernel_rfl) ?_
                refine rs0 (.elt (2, 1) l53_m93 0) (s_idxO (t := .int) (o := (2, 1)) (len := l53_m14.length) (k := .i64) (m := ((l53_m93 : Nat) : Int)) (by kernel_rfl) (by kernel_rfl) rfl (nat_nn _) rfl (getN_lt e63)) ?_
                refine rsn2 (2, 1) (2, 1) (.arr 3 .int (l53_m14.set l53_m93 ((l53_m15 : Nat) : Int))) (s_stE (i := (2, 1)) (j := l53_m93) (k := 0) (e := 3) (t := .int) (xs := l53_m14) (cs := [(.int .i64 ((l53_m15 : Nat) : Int))]) (x1 := ((l53_m15 : Nat) : Int)) (by kernel_rfl) (by kernel_rfl) e63 (by kernel_rfl) (by kernel_rfl)) ?_
                refine rnil (tn_ ?_)
                obtain ⟨g64, h⟩ := og_some h
                refine awp_region_ 19 (by kernel_rfl) ?_
                refine rs0 (.int .i64 ((l53_m15 : Nat) : Int)) (by kernel_rfl) ?_
                refine rs0 (.int .i64 ((l53_m15 + 1 : Nat) : Int)) (s_add1 (j := l53_m15) (by kernel_rfl) (by kernel_rfl) g64) ?_
                refine rs0 (.int .i64 ((l53_m15 + 1 : Nat) : Int)) (by kernel_rfl) ?_
                refine rnil (bn_ (tn_ ?_))
                obtain rfl := Option.some.inj h
                exact ⟨_, ((weak_tm_ 14 (.own (2, 1) .int 0 l53_m14.length) (.own (2, 1) .int 0 ((l53_m14.set l53_m93 ((l53_m15 : Nat) : Int)).length)) (by kernel_rfl) (congrArg (fun z_ => ((.own (2, 1) .int 0 z_) : AV)) (((rfl : l53_m14.length = l53_m14.length).trans List.length_set.symm) : l53_m14.length = (l53_m14.set l53_m93 ((l53_m15 : Nat) : Int)).length))).trans (weak_ren (renF []) (by kernel_rfl) (by kernel_rfl) (by kernel_rfl))), ⟨l53_m15 + 1, l53_m14.set l53_m93 ((l53_m15 : Nat) : Int), rfl, rfl⟩⟩
              · refine awp_condF_ q61 (by kernel_rfl) ?_
                obtain ⟨x65, f65, h⟩ := ob_some h
                obtain ⟨p65, b65, e65⟩ := getI_some f65
                obtain ⟨x66, e66, h⟩ := ob_some h
                refine awp_region_ 19 (by kernel_rfl) ?_
                refine rs0 (.own (2, 1) .int 0 l53_m14.length) (by kernel_rfl) ?_
                refine rs0 (.int .i64 ((l53_m93 : Nat) : Int)) (by kernel_rfl) ?_
                refine rs0 (.own (2, 1) .int 0 l53_m14.length) (by kernel_rfl) ?_
                refine rs0 (.int .i64 x59) (by kernel_rfl) ?_
                refine rs0 (.elt (2, 1) x59.toNat 0) (s_idxO (t := .int) (o := (2, 1)) (len := l53_m14.length) (k := .i64) (m := x59) (by kernel_rfl) (by kernel_rfl) rfl p65 rfl (getN_lt e65)) ?_
                refine rsl (.int .i64 x65) (s_ldE (i := (2, 1)) (j := x59.toNat) (k := 0) (e := 3) (t := .int) (xs := l53_m14) (by kernel_rfl) (by kernel_rfl) e65 (by kernel_rfl)) ?_
                refine rs0 (.elt (2, 1) l53_m93 0) (s_idxO (t := .int) (o := (2, 1)) (len := l53_m14.length) (k := .i64) (m := ((l53_m93 : Nat) : Int)) (by kernel_rfl) (by kernel_rfl) rfl (nat_nn _) rfl (getN_lt e66)) ?_
                refine rsn2 (2, 1) (2, 1) (.arr 3 .int (l53_m14.set l53_m93 x65)) (s_stE (i := (2, 1)) (j := l53_m93) (k := 0) (e := 3) (t := .int) (xs := l53_m14) (cs := [(.int .i64 x65)]) (x1 := x65) (by kernel_rfl) (by kernel_rfl) e66 (by kernel_rfl) (by kernel_rfl)) ?_
                refine rnil (bn_ (tn_ ?_))
                obtain rfl := Option.some.inj h
                exact ⟨_, ((weak_tm_ 14 (.own (2, 1) .int 0 l53_m14.length) (.own (2, 1) .int 0 ((l53_m14.set l53_m93 x65).length)) (by kernel_rfl) (congrArg (fun z_ => ((.own (2, 1) .int 0 z_) : AV)) (((rfl : l53_m14.length = l53_m14.length).trans List.length_set.symm) : l53_m14.length = (l53_m14.set l53_m93 x65).length))).trans (weak_ren (renF []) (by kernel_rfl) (by kernel_rfl) (by kernel_rfl))), ⟨l53_m15, l53_m14.set l53_m93 x65, rfl, rfl⟩⟩
            · rintro _ _ ⟨l57_m15, l57_m14, rfl, rfl⟩ h
              (try dsimp only at h)
              obtain ⟨g67, h⟩ := og_some h
              refine awp_region_ 4 (by kernel_rfl) ?_
              refine rs0 (.int .i64 ((l53_m93 + 1 : Nat) : Int)) (s_add1 (j := l53_m93) (by kernel_rfl) (by kernel_rfl) g67) ?_
              refine rs0 (.int .i64 ((l53_m93 + 1 : Nat) : Int)) (by kernel_rfl) ?_
              refine rnil (tn_ ?_)
              obtain rfl := Option.some.inj h
              exact ⟨(l57_m15, l53_m93 + 1, l57_m14), _, (weak_ren (renF []) (by kernel_rfl) (by kernel_rfl) (by kernel_rfl)), ⟨l57_m15, l53_m93 + 1, l57_m14, rfl, rfl⟩, hn53⟩
          · have q56_ := of_decide_eq_false q56
            refine awp_condF_ q56 (by kernel_rfl) ?_
            refine awp_exit_ (te_ (te_ (be_ (tn_ ?_))))
            obtain rfl := Option.some.inj h
            have h := hn53
            (try dsimp only at h)
            obtain rfl := Option.some.inj h
            exact ⟨_, (weak_ren (renF [((3, 1), (4, 1)), ((4, 1), (5, 1)), ((5, 1), (6, 1))]) (by kernel_rfl) (by kernel_rfl) (by kernel_rfl)), ⟨l53_m15, l53_m14, rfl, rfl⟩⟩
      · rintro _ _ ⟨l51_m15, l51_m14, rfl, rfl⟩ h
        (try dsimp only at h)
        refine awp_seq_ ?_
        obtain ⟨y69, h69, h⟩ := ob_some h
        refine awp_region_ 7 (by kernel_rfl) ?_
        refine rsl (.agg [(.int .i64 y3.1), (.own (3, 1) (.pair .int (.pair .int .int)) 0 y3.2.1.length), (.own (4, 1) .int 0 y5.length), (.own (5, 1) .int a0_3.length (y3.2.2.2.length - a0_3.length))]) (by kernel_rfl) ?_
        refine rs0 (.own (2, 1) .int 0 l51_m14.length) (by kernel_rfl) ?_
        refine rs0 (.int .i64 ((l51_m15 : Nat) : Int)) (by kernel_rfl) ?_
        refine rcall (.agg [(.int .i64 y69.1), (.own (1888, 5) (.pair .int (.pair .int .int)) 0 y69.2.1.length), (.own (1889, 5) .int 0 y69.2.2.1.length), (.own (1890, 5) .int 0 y69.2.2.2.length)]) [((1888, 5), some (.arr 59 (.pair .int (.pair .int .int)) y69.2.1)), ((1889, 5), some (.arr 3 .int y69.2.2.1)), ((1890, 5), some (.arr 3 .int y69.2.2.2))] [(.agg [(.int .i64 y3.1), (.own (3, 1) (.pair .int (.pair .int .int)) 0 y3.2.1.length), (.own (4, 1) .int 0 y5.length), (.own (5, 1) .int a0_3.length (y3.2.2.2.length - a0_3.length))]), (.own (2, 1) .int 0 l51_m14.length), (.int .i64 ((l51_m15 : Nat) : Int))] _ (caps := []) (args0 := [(.agg [(.int .i64 y3.1), (.tree (.pair .int (.pair .int .int)) y3.2.1), (.tree .int y5), (.tree .int (y3.2.2.2.drop a0_3.length))]), (.tree .int l51_m14), (.int .i64 ((l51_m15 : Nat) : Int))]) trivial (by kernel_rfl) (by kernel_rfl) (gm_cons (gd_agg (gm_cons (by kernel_rfl) (gm_cons (gd_own (e := 59) (by kernel_rfl) rfl) (gm_cons (gd_own (e := 3) (by kernel_rfl) rfl) (gm_cons (gd_sub (e := 3) (u := .int) (xs := y3.2.2.2) (by kernel_rfl) (by omega) (by rw [List.take_of_length_le (by rw [List.length_drop]; omega)])) gm_nil))))) (gm_cons (gd_own (e := 3) (by kernel_rfl) rfl) (gm_cons (by kernel_rfl) gm_nil))) (by kernel_rfl) (ok_spec_nwMap h69) hb_spec_nwMap (by kernel_rfl) ?_
        refine rsn2 (0, 1) (0, 1) (.cells 30 [(.int .i64 y69.1), (.own (1888, 5) (.pair .int (.pair .int .int)) 0 y69.2.1.length), (.own (1889, 5) .int 0 y69.2.2.1.length), (.own (1890, 5) .int 0 y69.2.2.2.length)]) (by kernel_rfl) ?_
        refine rnil (tn_ ?_)
        refine awp_ret_ ?_
        obtain rfl := Option.some.inj h
        exact ret_ [(.agg [(.int .i64 y69.1), (.own (1888, 5) (.pair .int (.pair .int .int)) 0 y69.2.1.length), (.own (1889, 5) .int 0 y69.2.2.1.length), (.own (1890, 5) .int 0 y69.2.2.2.length)])] (by simp) (by kernel_rfl) (p_agg (l_cons (l_sc (by kernel_rfl)) (l_cons (l_own (by kernel_rfl) rfl) (l_cons (l_own (by kernel_rfl) rfl) (l_cons (l_own (by kernel_rfl) rfl) l_nil)))) p_nil) (by kernel_rfl) (by kernel_rfl)
def m_spec_GlueNetworks : AC :=
  (.seq (.region [⟨(some 4), none, (.i (.box 30 (.tmp 1)))⟩, ⟨(some 5), none, (.i (.box 30 (.tmp 2)))⟩, ⟨(some 6), none, (.i (.alloc 30 [(.int .i64 0), .nils, .nils, .nils]))⟩, ⟨(some 7), none, (.i (.mov (.cst (.bool false))))⟩] false [])
  (.seq (.seq (.region [⟨(some 8), none, (.i (.mov (.tmp 0)))⟩, ⟨(some 9), none, (.i (.ld false 4 (.tmp 4)))⟩, ⟨(some 10), none, (.call (.cst (.fn 42 [])) [(.tmp 8), (.tmp 9)] [[], [none, (some (.pair .int (.pair .int .int))), (some .int), (some .int)]])⟩, ⟨(some 11), none, (.i (.not (.tmp 10)))⟩, ⟨(some 12), none, (.i (.mov (.tmp 11)))⟩, ⟨(some 13), (some (12, false)), (.i (.mov (.tmp 0)))⟩, ⟨(some 14), (some (12, false)), (.i (.ld false 4 (.tmp 5)))⟩, ⟨(some 15), (some (12, false)), (.call (.cst (.fn 42 [])) [(.tmp 13), (.tmp 14)] [[], [none, (some (.pair .int (.pair .int .int))), (some .int), (some .int)]])⟩, ⟨(some 16), (some (12, false)), (.i (.not (.tmp 15)))⟩, ⟨(some 17), none, (.i (.pick (.tmp 12) (.cst (.bool true)) (.tmp 16)))⟩, ⟨(some 18), none, (.i (.mov (.tmp 17)))⟩, ⟨(some 19), (some (18, false)), (.i (.fld 3 (.tmp 4)))⟩, ⟨(some 20), (some (18, false)), (.i (.ld true 1 (.tmp 19)))⟩, ⟨(some 21), (some (18, false)), (.i (.len (.tmp 20)))⟩, ⟨(some 22), (some (18, false)), (.i (.fld 2 (.tmp 5)))⟩, ⟨(some 23), (some (18, false)), (.i (.ld true 1 (.tmp 22)))⟩, ⟨(some 24), (some (18, false)), (.i (.len (.tmp 23)))⟩, ⟨(some 25), (some (18, false)), (.i (.bin .neq (.tmp 21) (.tmp 24)))⟩, ⟨(some 26), none, (.i (.pick (.tmp 18) (.cst (.bool true)) (.tmp 25)))⟩] false [])
  (.cond (.tmp 26)
    (.seq (.region [⟨(some 27), none, (.build [(.int .i64 0), .nils, .nils, .nils] [])⟩, ⟨none, none, (.st false 4 (.tmp 6) (.tmp 27))⟩, ⟨(some 7), none, (.i (.mov (.cst (.bool false))))⟩] false [])
    .ret)
    .skip))
  (.seq (.region [⟨(some 28), none, (.i (.mov (.tmp 0)))⟩, ⟨(some 29), none, (.i (.ld false 4 (.tmp 4)))⟩, ⟨(some 30), none, (.i (.ld false 4 (.tmp 5)))⟩, ⟨(some 31), none, (.call (.cst (.fn 73 [])) [(.tmp 29), (.tmp 30)] [[none, (some (.pair .int (.pair .int .int))), (some .int), (some .int)], [none, (some (.pair .int (.pair .int .int))), (some .int), (some .int)]])⟩, ⟨(some 32), none, (.call (.cst (.fn 64 [])) [(.tmp 28), (.tmp 31)] [[], [none, (some (.pair .int (.pair .int .int))), (some .int), (some .int)]])⟩, ⟨(some 33), none, (.i (.extr 0 (.tmp 32)))⟩, ⟨(some 34), none, (.i (.extr 1 (.tmp 32)))⟩, ⟨none, none, (.st false 4 (.tmp 6) (.tmp 33))⟩, ⟨(some 7), none, (.i (.mov (.tmp 34)))⟩] false [])
  .ret)))
def r_spec_GlueNetworks : List Res := [.cell 6 false 4, .tmp 7]
theorem c_spec_GlueNetworks : compiled Tryd.prog Tryd.f34 = some (m_spec_GlueNetworks, r_spec_GlueNetworks) := by kernel_rfl
theorem hb_spec_GlueNetworks : hasBody Tryd.prog 34 = true := by kernel_rfl
def L_spec_GlueNetworks (a0 : Int) (a1_0 : Int) (a1_1 : List (Int × Int × Int)) (a1_2 : List Int) (a1_3 : List Int) (a2_0 : Int) (a2_1 : List (Int × Int × Int)) (a2_2 : List Int) (a2_3 : List Int) : Option (Int × (List (Int × Int × Int)) × List Int × List Int × Bool) :=
  Option.bind (Option.bind (L_spec_nwGood a0 a1_0 a1_1 a1_2 a1_3) fun y4 =>
  cond (!y4)
    (some true)
    (Option.bind (L_spec_nwGood a0 a2_0 a2_1 a2_2 a2_3) fun y6 =>
    cond (!y6)
      (some true)
      (some (((a1_3.length : Nat) : Int) != ((a2_2.length : Nat) : Int))))) fun l3_m26 =>
cond l3_m26
  (some (0, [], [], [], false))
  (Option.bind (Option.bind (L_spec_nwGlue a1_0 a1_1 a1_2 a1_3 a2_0 a2_1 a2_2 a2_3) fun y11 =>
    Option.bind (L_spec_nwIf a0 y11.1 y11.2.1 y11.2.2.1 y11.2.2.2) fun y12 =>
    (Sum.elim (fun z12_0 =>
    some (z12_0.2, z12_0.1, [], [], [])) (fun z12_1 =>
    some (z12_1.2, z12_1.1, y11.2.1, y11.2.2.1, y11.2.2.2))) y12) fun (l10_m7, l10_m6_0, l10_m6_1, l10_m6_2, l10_m6_3) =>
  some (l10_m6_0, l10_m6_1, l10_m6_2, l10_m6_3, l10_m7))
def rv_spec_GlueNetworks (r : Int × (List (Int × Int × Int)) × List Int × List Int × Bool) : RV := ⟨true, [(true, [.sc (.int .i64 r.1), .new 59 (.pair .int (.pair .int .int)) r.2.1, .new 3 .int r.2.2.1, .new 3 .int r.2.2.2.1]), (false, [.sc (.bool r.2.2.2.2)])]⟩
theorem ok_spec_GlueNetworks {a0 : Int} {a1_0 : Int} {a1_1 : List (Int × Int × Int)} {a1_2 : List Int} {a1_3 : List Int} {a2_0 : Int} {a2_1 : List (Int × Int × Int)} {a2_2 : List Int} {a2_3 : List Int} {r : Int × (List (Int × Int × Int)) × List Int × List Int × Bool} (h : L_spec_GlueNetworks a0 a1_0 a1_1 a1_2 a1_3 a2_0 a2_1 a2_2 a2_3 = some r) : CallOK Tryd.prog Tab 34 [(.int .i64 a0), (.agg [(.int .i64 a1_0), (.tree (.pair .int (.pair .int .int)) a1_1), (.tree .int a1_2), (.tree .int a1_3)]), (.agg [(.int .i64 a2_0), (.tree (.pair .int (.pair .int .int)) a2_1), (.tree .int a2_2), (.tree .int a2_3)])] (rv_spec_GlueNetworks r) := by
  refine call_of_ (by kernel_rfl) Tryd.func34 c_spec_GlueNetworks (n := 35) (by kernel_rfl) (by simp) (tl := [(0, (.int .i64 a0)), (1, (.agg [(.int .i64 a1_0), (.tree (.pair .int (.pair .int .int)) a1_1), (.tree .int a1_2), (.tree .int a1_3)])), (2, (.agg [(.int .i64 a2_0), (.tree (.pair .int (.pair .int .int)) a2_1), (.tree .int a2_2), (.tree .int a2_3)]))]) rfl ?_
  unfold m_spec_GlueNetworks
  unfold L_spec_GlueNetworks at h
  refine awp_seq_ ?_
  refine awp_region_ 5 (by kernel_rfl) ?_
  refine rs1 (.box (4, 1) 0) (4, 1) (.cells 30 [(.int .i64 a1_0), (.tree (.pair .int (.pair .int .int)) a1_1), (.tree .int a1_2), (.tree .int a1_3)]) (by kernel_rfl) ?_
  refine rs1 (.box (5, 2) 0) (5, 2) (.cells 30 [(.int .i64 a2_0), (.tree (.pair .int (.pair .int .int)) a2_1), (.tree .int a2_2), (.tree .int a2_3)]) (by kernel_rfl) ?_
  refine rs1 (.box (6, 3) 0) (6, 3) (.cells 30 [(.int .i64 0), .nils, .nils, .nils]) (by kernel_rfl) ?_
  refine rs0 (.bool false) (by kernel_rfl) ?_
  refine rnil (tn_ ?_)
  refine awp_seq_ ?_
  refine awp_seqB h (fun (l3_m26 : Bool) S_ => S_ = ⟨mkTm [(0, (.int .i64 a0)), (4, (.box (0, 1) 0)), (5, (.box (1, 1) 0)), (6, (.box (2, 1) 0)), (26, (.bool l3_m26))], mkOb (someL [((0, 1), .cells 30 [(.int .i64 a1_0), (.tree (.pair .int (.pair .int .int)) a1_1), (.tree .int a1_2), (.tree .int a1_3)]), ((1, 1), .cells 30 [(.int .i64 a2_0), (.tree (.pair .int (.pair .int .int)) a2_1), (.tree .int a2_2), (.tree .int a2_3)]), ((2, 1), .cells 30 [(.int .i64 0), .nils, .nils, .nils])]), 2⟩) ?_ ?_
  · intro v_ h
    obtain ⟨y4, h4, h⟩ := ob_some h
    rcases cond_some h with ⟨q5, h⟩ | ⟨q5, h⟩
    · refine awp_region_ 24 (by kernel_rfl) ?_
      refine rs0 (.int .i64 a0) (by kernel_rfl) ?_
      refine rsl (.agg [(.int .i64 a1_0), (.tree (.pair .int (.pair .int .int)) a1_1), (.tree .int a1_2), (.tree .int a1_3)]) (by kernel_rfl) ?_
      refine rcall (.bool y4) [] [(.int .i64 a0), (.agg [(.int .i64 a1_0), (.tree (.pair .int (.pair .int .int)) a1_1), (.tree .int a1_2), (.tree .int a1_3)])] _ (caps := []) (args0 := [(.int .i64 a0), (.agg [(.int .i64 a1_0), (.tree (.pair .int (.pair .int .int)) a1_1), (.tree .int a1_2), (.tree .int a1_3)])]) trivial (by kernel_rfl) (by kernel_rfl) (by kernel_rfl) (by kernel_rfl) (ok_spec_nwGood h4) hb_spec_nwGood (by kernel_rfl) ?_
      refine rs0 (.bool (!y4)) (by kernel_rfl) ?_
      refine rs0 (.bool (!y4)) (by kernel_rfl) ?_
      refine rs0 .any (s_skip (by kernel_rfl) q5) ?_
      refine rs0 .any (s_skip (by kernel_rfl) q5) ?_
      refine rs0 .any (s_skip (by kernel_rfl) q5) ?_
      refine rs0 .any (s_skip (by kernel_rfl) q5) ?_
      refine rs0 (.bool true) (s_pickT (by kernel_rfl) q5) ?_
      refine rs0 (.bool true) (by kernel_rfl) ?_
      refine rs0 .any (by kernel_rfl) ?_
      refine rs0 .any (by kernel_rfl) ?_
      refine rs0 .any (by kernel_rfl) ?_
      refine rs0 .any (by kernel_rfl) ?_
      refine rs0 .any (by kernel_rfl) ?_
      refine rs0 .any (by kernel_rfl) ?_
      refine rs0 .any (by kernel_rfl) ?_
      refine rs0 (.bool true) (by kernel_rfl) ?_
      refine rnil (tn_ ?_)
      obtain rfl := Option.some.inj h
      exact ⟨_, (weak_ren (renF [((0, 1), (4, 1)), ((1, 1), (5, 2)), ((2, 1), (6, 3))]) (by kernel_rfl) (by kernel_rfl) (by kernel_rfl)), rfl⟩
    · obtain ⟨y6, h6, h⟩ := ob_some h
      rcases cond_some h with ⟨q7, h⟩ | ⟨q7, h⟩
      · refine awp_region_ 24 (by kernel_rfl) ?_
        refine rs0 (.int .i64 a0) (by kernel_rfl) ?_
        refine rsl (.agg [(.int .i64 a1_0), (.tree (.pair .int (.pair .int .int)) a1_1), (.tree .int a1_2), (.tree .int a1_3)]) (by kernel_rfl) ?_
        refine rcall (.bool y4) [] [(.int .i64 a0), (.agg [(.int .i64 a1_0), (.tree (.pair .int (.pair .int .int)) a1_1), (.tree .int a1_2), (.tree .int a1_3)])] _ (caps := []) (args0 := [(.int .i64 a0), (.agg [(.int .i64 a1_0), (.tree (.pair .int (.pair .int .int)) a1_1), (.tree .int a1_2), (.tree .int a1_3)])]) trivial (by kernel_rfl) (by kernel_rfl) (by kernel_rfl) (by kernel_rfl) (ok_spec_nwGood h4) hb_spec_nwGood (by kernel_rfl) ?_
        refine rs0 (.bool (!y4)) (by kernel_rfl) ?_
        refine rs0 (.bool (!y4)) (by kernel_rfl) ?_
        refine rs0 (.int .i64 a0) (s_gd (by kernel_rfl) q5 (by kernel_rfl)) ?_
        refine rsl (.agg [(.int .i64 a2_0), (.tree (.pair .int (.pair .int .int)) a2_1), (.tree .int a2_2), (.tree .int a2_3)]) (s_gd (by kernel_rfl) q5 (by kernel_rfl)) ?_
        refine rcall (.bool y6) [] [(.int .i64 a0), (.agg [(.int .i64 a2_0), (.tree (.pair .int (.pair .int .int)) a2_1), (.tree .int a2_2), (.tree .int a2_3)])] _ (caps := []) (args0 := [(.int .i64 a0), (.agg [(.int .i64 a2_0), (.tree (.pair .int (.pair .int .int)) a2_1), (.tree .int a2_2), (.tree .int a2_3)])]) (gdOK_b (by kernel_rfl) q5) (by kernel_rfl) (by kernel_rfl) (by kernel_rfl) (by kernel_rfl) (ok_spec_nwGood h6) hb_spec_nwGood (by kernel_rfl) ?_
        refine rs0 (.bool (!y6)) (s_gd (by kernel_rfl) q5 (by kernel_rfl)) ?_
        refine rs0 (.bool (!y6)) (s_pickF (by kernel_rfl) q5) ?_
        refine rs0 (.bool (!y6)) (by kernel_rfl) ?_
        refine rs0 .any (s_skip (by kernel_rfl) q7) ?_
        refine rs0 .any (s_skip (by kernel_rfl) q7) ?_
        refine rs0 .any (s_skip (by kernel_rfl) q7) ?_
        refine rs0 .any (s_skip (by kernel_rfl) q7) ?_
        refine rs0 .any (s_skip (by kernel_rfl) q7) ?_
        refine rs0 .any (s_skip (by kernel_rfl) q7) ?_
        refine rs0 .any (s_skip (by kernel_rfl) q7) ?_
        refine rs0 (.bool true) (s_pickT (by kernel_rfl) q7) ?_
        refine rnil (tn_ ?_)
        obtain rfl := Option.some.inj h
        exact ⟨_, (weak_ren (renF [((0, 1), (4, 1)), ((1, 1), (5, 2)), ((2, 1), (6, 3))]) (by kernel_rfl) (by kernel_rfl) (by kernel_rfl)), rfl⟩
      · refine awp_region_ 24 (by kernel_rfl) ?_
        refine rs0 (.int .i64 a0) (by kernel_rfl) ?_
        refine rsl (.agg [(.int .i64 a1_0), (.tree (.pair .int (.pair .int .int)) a1_1), (.tree .int a1_2), (.tree .int a1_3)]) (by kernel_rfl) ?_
        refine rcall (.bool y4) [] [(.int .i64 a0), (.agg [(.int .i64 a1_0), (.tree (.pair .int (.pair .int .int)) a1_1), (.tree .int a1_2), (.tree .int a1_3)])] _ (caps := []) (args0 := [(.int .i64 a0), (.agg [(.int .i64 a1_0), (.tree (.pair .int (.pair .int .int)) a1_1), (.tree .int a1_2), (.tree .int a1_3)])]) trivial (by kernel_rfl) (by kernel_rfl) (by kernel_rfl) (by kernel_rfl) (ok_spec_nwGood h4) hb_spec_nwGood (by kernel_rfl) ?_
        refine rs0 (.bool (!y4)) (by kernel_rfl) ?_
        refine rs0 (.bool (!y4)) (by kernel_rfl) ?_
        refine rs0 (.int .i64 a0) (s_gd (by kernel_rfl) q5 (by kernel_rfl)) ?_
        refine rsl (.agg [(.int .i64 a2_0), (.tree (.pair .int (.pair .int .int)) a2_1), (.tree .int a2_2), (.tree .int a2_3)]) (s_gd (by kernel_rfl) q5 (by kernel_rfl)) ?_
        refine rcall (.bool y6) [] [(.int .i64 a0), (.agg [(.int .i64 a2_0), (.tree (.pair .int (.pair .int .int)) a2_1), (.tree .int a2_2), (.tree .int a2_3)])] _ (caps := []) (args0 := [(.int .i64 a0), (.agg [(.int .i64 a2_0), (.tree (.pair .int (.pair .int .int)) a2_1), (.tree .int a2_2), (.tree .int a2_3)])]) (gdOK_b (by kernel_rfl) q5) (by kernel_rfl) (by kernel_rfl) (by kernel_rfl) (by kernel_rfl) (ok_spec_nwGood h6) hb_spec_nwGood (by kernel_rfl) ?_
        refine rs0 (.bool (!y6)) (s_gd (by kernel_rfl) q5 (by kernel_rfl)) ?_
        refine rs0 (.bool (!y6)) (s_pickF (by kernel_rfl) q5) ?_
        refine rs0 (.bool (!y6)) (by kernel_rfl) ?_
        refine rs0 (.box (4, 1) 3) (s_gd (by kernel_rfl) q7 (by kernel_rfl)) ?_
        refine rsl (.tree .int a1_3) (s_gd (by kernel_rfl) q7 (by kernel_rfl)) ?_
        refine rs0 (.int .i64 ((a1_3.length : Nat) : Int)) (s_gd (by kernel_rfl) q7 (by kernel_rfl)) ?_
        refine rs0 (.box (5, 2) 2) (s_gd (by kernel_rfl) q7 (by kernel_rfl)) ?_
        refine rsl (.tree .int a2_2) (s_gd (by kernel_rfl) q7 (by kernel_rfl)) ?_
        refine rs0 (.int .i64 ((a2_2.length : Nat) : Int)) (s_gd (by kernel_rfl) q7 (by kernel_rfl)) ?_
        refine rs0 (.bool (((a1_3.length : Nat) : Int) != ((a2_2.length : Nat) : Int))) (s_gd (by kernel_rfl) q7 (by kernel_rfl)) ?_
        refine rs0 (.bool (((a1_3.length : Nat) : Int) != ((a2_2.length : Nat) : Int))) (s_pickF (by kernel_rfl) q7) ?_
        refine rnil (tn_ ?_)
        obtain rfl := Option.some.inj h
        exact ⟨_, (weak_ren (renF [((0, 1), (4, 1)), ((1, 1), (5, 2)), ((2, 1), (6, 3))]) (by kernel_rfl) (by kernel_rfl) (by kernel_rfl)), rfl⟩
  · rintro l3_m26 _ rfl h
    (try dsimp only at h)
    rcases cond_some h with ⟨q8, h⟩ | ⟨q8, h⟩
    · refine awp_condT_ q8 (by kernel_rfl) ?_
      refine awp_seq_ ?_
      refine awp_region_ 5 (by kernel_rfl) ?_
      refine rs0 (.agg [(.int .i64 0), .nils, .nils, .nils]) (by kernel_rfl) ?_
      refine rsn2 (2, 1) (2, 1) (.cells 30 [(.int .i64 0), .nils, .nils, .nils]) (by kernel_rfl) ?_
      refine rs0 (.bool false) (by kernel_rfl) ?_
      refine rnil (tn_ ?_)
      refine awp_ret_ (tr_ ?_)
      obtain rfl := Option.some.inj h
      exact ret_ [(.agg [(.int .i64 0), .nils, .nils, .nils]), (.bool false)] (by simp) (by kernel_rfl) (p_agg (l_cons (l_sc (by kernel_rfl)) (l_cons (l_nils rfl) (l_cons (l_nils rfl) (l_cons (l_nils rfl) l_nil)))) (p_one rfl (l_sc (by kernel_rfl)) p_nil)) (by kernel_rfl) (by kernel_rfl)
    · refine awp_condF_ q8 (by kernel_rfl) ?_
      refine awp_skip_ (tn_ ?_)
      refine awp_seqB h (fun t_ S_ => ∃ (l10_m7 : Bool), ∃ (l10_m6_0 : Int), ∃ (l10_m6_1 : List (Int × Int × Int)), ∃ (l10_m6_2 : List Int), ∃ (l10_m6_3 : List Int), t_ = (l10_m7, l10_m6_0, l10_m6_1, l10_m6_2, l10_m6_3) ∧ S_ = ⟨mkTm [(6, (.box (0, 1) 0)), (7, (.bool l10_m7))], mkOb (someL [((0, 1), .cells 30 [(.int .i64 l10_m6_0), (.own (1, 1) (.pair .int (.pair .int .int)) 0 l10_m6_1.length), (.own (2, 1) .int 0 l10_m6_2.length), (.own (3, 1) .int 0 l10_m6_3.length)]), ((1, 1), .arr 59 (.pair .int (.pair .int .int)) l10_m6_1), ((2, 1), .arr 3 .int l10_m6_2), ((3, 1), .arr 3 .int l10_m6_3)]), 2⟩) ?_ ?_
      · intro v_ h
        obtain ⟨y11, h11, h⟩ := ob_some h
        obtain ⟨y12, h12, h⟩ := ob_some h
        rcases y12 with z12_0 | z12_1
        · (try simp only [Sum.elim_inl, Sum.elim_inr] at h)
          refine awp_region_ 11 (by kernel_rfl) ?_
          refine rs0 (.int .i64 a0) (by kernel_rfl) ?_
          refine rsl (.agg [(.int .i64 a1_0), (.tree (.pair .int (.pair .int .int)) a1_1), (.tree .int a1_2), (.tree .int a1_3)]) (by kernel_rfl) ?_
          refine rsl (.agg [(.int .i64 a2_0), (.tree (.pair .int (.pair .int .int)) a2_1), (.tree .int a2_2), (.tree .int a2_3)]) (by kernel_rfl) ?_
          refine rcall (.agg [(.int .i64 y11.1), (.own (496, 5) (.pair .int (.pair .int .int)) 0 y11.2.1.length), (.own (497, 5) .int 0 y11.2.2.1.length), (.own (498, 5) .int 0 y11.2.2.2.length)]) [((496, 5), some (.arr 59 (.pair .int (.pair .int .int)) y11.2.1)), ((497, 5), some (.arr 3 .int y11.2.2.1)), ((498, 5), some (.arr 3 .int y11.2.2.2))] [(.agg [(.int .i64 a1_0), (.tree (.pair .int (.pair .int .int)) a1_1), (.tree .int a1_2), (.tree .int a1_3)]), (.agg [(.int .i64 a2_0), (.tree (.pair .int (.pair .int .int)) a2_1), (.tree .int a2_2), (.tree .int a2_3)])] _ (caps := []) (args0 := [(.agg [(.int .i64 a1_0), (.tree (.pair .int (.pair .int .int)) a1_1), (.tree .int a1_2), (.tree .int a1_3)]), (.agg [(.int .i64 a2_0), (.tree (.pair .int (.pair .int .int)) a2_1), (.tree .int a2_2), (.tree .int a2_3)])]) trivial (by kernel_rfl) (by kernel_rfl) (by kernel_rfl) (by kernel_rfl) (ok_spec_nwGlue h11) hb_spec_nwGlue (by kernel_rfl) ?_
          refine rcall (.tup [(.agg [(.int .i64 z12_0.1), .nils, .nils, .nils]), (.bool z12_0.2)]) [] [(.int .i64 a0), (.agg [(.int .i64 y11.1), (.own (496, 5) (.pair .int (.pair .int .int)) 0 y11.2.1.length), (.own (497, 5) .int 0 y11.2.2.1.length), (.own (498, 5) .int 0 y11.2.2.2.length)])] _ (caps := []) (args0 := [(.int .i64 a0), (.agg [(.int .i64 y11.1), (.tree (.pair .int (.pair .int .int)) y11.2.1), (.tree .int y11.2.2.1), (.tree .int y11.2.2.2)])]) trivial (by kernel_rfl) (by kernel_rfl) (gm_cons (by kernel_rfl) (gm_cons (gd_agg (gm_cons (by kernel_rfl) (gm_cons (gd_own (e := 59) (by kernel_rfl) rfl) (gm_cons (gd_own (e := 3) (by kernel_rfl) rfl) (gm_cons (gd_own (e := 3) (by kernel_rfl) rfl) gm_nil))))) gm_nil)) (by kernel_rfl) (ok_spec_nwIf h12) hb_spec_nwIf (by kernel_rfl) ?_
          refine rs0 (.agg [(.int .i64 z12_0.1), .nils, .nils, .nils]) (by kernel_rfl) ?_
          refine rs0 (.bool z12_0.2) (by kernel_rfl) ?_
          refine rsn2 (2, 1) (2, 1) (.cells 30 [(.int .i64 z12_0.1), .nils, .nils, .nils]) (by kernel_rfl) ?_
          refine rs0 (.bool z12_0.2) (by kernel_rfl) ?_
          refine rnil (tn_ ?_)
          obtain rfl := Option.some.inj h
          exact ⟨_, ((weak_nil_cell_ 9000 (2, 1) 1 30 [(.int .i64 z12_0.1), .nils, .nils, .nils] [(.int .i64 z12_0.1), (.own (9000, 11) (.pair .int (.pair .int .int)) 0 0), .nils, .nils] 59 (.pair .int (.pair .int .int)) rfl (by kernel_rfl) (by kernel_rfl) (by kernel_rfl)).trans ((weak_nil_cell_ 9001 (2, 1) 2 30 [(.int .i64 z12_0.1), (.own (9000, 11) (.pair .int (.pair .int .int)) 0 0), .nils, .nils] [(.int .i64 z12_0.1), (.own (9000, 11) (.pair .int (.pair .int .int)) 0 0), (.own (9001, 12) .int 0 0), .nils] 3 .int rfl (by kernel_rfl) (by kernel_rfl) (by kernel_rfl)).trans ((weak_nil_cell_ 9002 (2, 1) 3 30 [(.int .i64 z12_0.1), (.own (9000, 11) (.pair .int (.pair .int .int)) 0 0), (.own (9001, 12) .int 0 0), .nils] [(.int .i64 z12_0.1), (.own (9000, 11) (.pair .int (.pair .int .int)) 0 0), (.own (9001, 12) .int 0 0), (.own (9002, 13) .int 0 0)] 3 .int rfl (by kernel_rfl) (by kernel_rfl) (by kernel_rfl)).trans (weak_ren (renF [((0, 1), (2, 1)), ((1, 1), (9000, 11)), ((2, 1), (9001, 12)), ((3, 1), (9002, 13))]) (by kernel_rfl) (by kernel_rfl) (by kernel_rfl))))), ⟨z12_0.2, z12_0.1, [], [], [], rfl, rfl⟩⟩
        · (try simp only [Sum.elim_inl, Sum.elim_inr] at h)
          refine awp_region_ 11 (by kernel_rfl) ?_
          refine rs0 (.int .i64 a0) (by kernel_rfl) ?_
          refine rsl (.agg [(.int .i64 a1_0), (.tree (.pair .int (.pair .int .int)) a1_1), (.tree .int a1_2), (.tree .int a1_3)]) (by kernel_rfl) ?_
          refine rsl (.agg [(.int .i64 a2_0), (.tree (.pair .int (.pair .int .int)) a2_1), (.tree .int a2_2), (.tree .int a2_3)]) (by kernel_rfl) ?_
          refine rcall (.agg [(.int .i64 y11.1), (.own (496, 5) (.pair .int (.pair .int .int)) 0 y11.2.1.length), (.own (497, 5) .int 0 y11.2.2.1.length), (.own (498, 5) .int 0 y11.2.2.2.length)]) [((496, 5), some (.arr 59 (.pair .int (.pair .int .int)) y11.2.1)), ((497, 5), some (.arr 3 .int y11.2.2.1)), ((498, 5), some (.arr 3 .int y11.2.2.2))] [(.agg [(.int .i64 a1_0), (.tree (.pair .int (.pair .int .int)) a1_1), (.tree .int a1_2), (.tree .int a1_3)]), (.agg [(.int .i64 a2_0), (.tree (.pair .int (.pair .int .int)) a2_1), (.tree .int a2_2), (.tree .int a2_3)])] _ (caps := []) (args0 := [(.agg [(.int .i64 a1_0), (.tree (.pair .int (.pair .int .int)) a1_1), (.tree .int a1_2), (.tree .int a1_3)]), (.agg [(.int .i64 a2_0), (.tree (.pair .int (.pair .int .int)) a2_1), (.tree .int a2_2), (.tree .int a2_3)])]) trivial (by kernel_rfl) (by kernel_rfl) (by kernel_rfl) (by kernel_rfl) (ok_spec_nwGlue h11) hb_spec_nwGlue (by kernel_rfl) ?_
          refine rcall (.tup [(.agg [(.int .i64 z12_1.1), (.own (496, 5) (.pair .int (.pair .int .int)) 0 y11.2.1.length), (.own (497, 5) .int 0 y11.2.2.1.length), (.own (498, 5) .int 0 y11.2.2.2.length)]), (.bool z12_1.2)]) [] [(.int .i64 a0), (.agg [(.int .i64 y11.1), (.own (496, 5) (.pair .int (.pair .int .int)) 0 y11.2.1.length), (.own (497, 5) .int 0 y11.2.2.1.length), (.own (498, 5) .int 0 y11.2.2.2.length)])] _ (caps := []) (args0 := [(.int .i64 a0), (.agg [(.int .i64 y11.1), (.tree (.pair .int (.pair .int .int)) y11.2.1), (.tree .int y11.2.2.1), (.tree .int y11.2.2.2)])]) trivial (by kernel_rfl) (by kernel_rfl) (gm_cons (by kernel_rfl) (gm_cons (gd_agg (gm_cons (by kernel_rfl) (gm_cons (gd_own (e := 59) (by kernel_rfl) rfl) (gm_cons (gd_own (e := 3) (by kernel_rfl) rfl) (gm_cons (gd_own (e := 3) (by kernel_rfl) rfl) gm_nil))))) gm_nil)) (by kernel_rfl) (ok_spec_nwIf h12) hb_spec_nwIf (by kernel_rfl) ?_
          refine rs0 (.agg [(.int .i64 z12_1.1), (.own (496, 5) (.pair .int (.pair .int .int)) 0 y11.2.1.length), (.own (497, 5) .int 0 y11.2.2.1.length), (.own (498, 5) .int 0 y11.2.2.2.length)]) (by kernel_rfl) ?_
          refine rs0 (.bool z12_1.2) (by kernel_rfl) ?_
          refine rsn2 (2, 1) (2, 1) (.cells 30 [(.int .i64 z12_1.1), (.own (496, 5) (.pair .int (.pair .int .int)) 0 y11.2.1.length), (.own (497, 5) .int 0 y11.2.2.1.length), (.own (498, 5) .int 0 y11.2.2.2.length)]) (by kernel_rfl) ?_
          refine rs0 (.bool z12_1.2) (by kernel_rfl) ?_
          refine rnil (tn_ ?_)
          obtain rfl := Option.some.inj h
          exact ⟨_, (weak_ren (renF [((0, 1), (2, 1)), ((1, 1), (496, 5)), ((2, 1), (497, 5)), ((3, 1), (498, 5))]) (by kernel_rfl) (by kernel_rfl) (by kernel_rfl)), ⟨z12_1.2, z12_1.1, y11.2.1, y11.2.2.1, y11.2.2.2, rfl, rfl⟩⟩
      · rintro _ _ ⟨l10_m7, l10_m6_0, l10_m6_1, l10_m6_2, l10_m6_3, rfl, rfl⟩ h
        (try dsimp only at h)
        refine awp_ret_ ?_
        obtain rfl := Option.some.inj h
        exact ret_ [(.agg [(.int .i64 l10_m6_0), (.own (1, 1) (.pair .int (.pair .int .int)) 0 l10_m6_1.length), (.own (2, 1) .int 0 l10_m6_2.length), (.own (3, 1) .int 0 l10_m6_3.length)]), (.bool l10_m7)] (by simp) (by kernel_rfl) (p_agg (l_cons (l_sc (by kernel_rfl)) (l_cons (l_own (by kernel_rfl) rfl) (l_cons (l_own (by kernel_rfl) rfl) (l_cons (l_own (by kernel_rfl) rfl) l_nil)))) (p_one rfl (l_sc (by kernel_rfl)) p_nil)) (by kernel_rfl) (by kernel_rfl)
def m_impl_zeros : AC :=
  (.seq (.region [⟨(some 2), none, (.i (.mov (.cst .nils)))⟩] false [])
  (.seq (.region [⟨(some 3), none, (.i (.mov (.tmp 0)))⟩, ⟨(some 4), none, (.make 3 .int 8 (.tmp 3) (.tmp 3))⟩, ⟨(some 2), none, (.i (.mov (.tmp 4)))⟩] false [])
  .ret))
def r_impl_zeros : List Res := [.tmp 2]
theorem c_impl_zeros : compiled Tryd.prog Tryd.f76 = some (m_impl_zeros, r_impl_zeros) := by kernel_rfl
theorem hb_impl_zeros : hasBody Tryd.prog 76 = true := by kernel_rfl
def L_impl_zeros (a0 : Int) : Option (List Int) :=
  og (0 ≤ a0 ∧ a0 ≤ a0 ∧ a0 ≤ 1073741824 ∧ (8 : Int) * a0 ≤ 140737488355328) <|
some (List.replicate a0.toNat (0 : Int))
def rv_impl_zeros (r : List Int) : RV := ⟨false, [(false, [.new 3 .int r])]⟩
theorem ok_impl_zeros {a0 : Int} {r : List Int} (h : L_impl_zeros a0 = some r) : CallOK Tryd.prog Tab 76 [(.int .i64 a0)] (rv_impl_zeros r) := by
  refine call_of_ (by kernel_rfl) Tryd.func76 c_impl_zeros (n := 5) (by kernel_rfl) (by simp) (tl := [(0, (.int .i64 a0))]) rfl ?_
  unfold m_impl_zeros
  unfold L_impl_zeros at h
  refine awp_seq_ ?_
  refine awp_region_ 2 (by kernel_rfl) ?_
  refine rs0 .nils (by kernel_rfl) ?_
  refine rnil (tn_ ?_)
  refine awp_seq_ ?_
  obtain ⟨g3, h⟩ := og_some h
  refine awp_region_ 5 (by kernel_rfl) ?_
  refine rs0 (.int .i64 a0) (by kernel_rfl) ?_
  refine rs1 (.own (4, 3) .int 0 a0.toNat) (4, 3) (.arr 3 .int (List.replicate a0.toNat (0 : Int))) (s_make (t := .int) (k := .i64) (k' := .i64) (m := a0) (m' := a0) (by kernel_rfl) (by kernel_rfl) g3 rfl) ?_
  refine rs0 (.own (4, 3) .int 0 a0.toNat) (by kernel_rfl) ?_
  refine rnil (tn_ ?_)
  refine awp_ret_ ?_
  obtain rfl := Option.some.inj h
  exact ret_ [(.own (4, 3) .int 0 a0.toNat)] (by simp) (by kernel_rfl) (p_one rfl (l_own (by kernel_rfl) List.length_replicate.symm) p_nil) (by kernel_rfl) (by kernel_rfl)
def m_impl_upTo_l1 : AC :=
  (.seq (.region [⟨(some 10), none, (.i (.bin .lss (.tmp 9) (.tmp 8)))⟩] false [])
  (.seq (.cond (.tmp 10)
    .skip
    (.exit 0))
  (.seq (.block 1 (.seq (.region [⟨(some 11), none, (.i (.mov (.tmp 9)))⟩, ⟨(some 4), none, (.i (.mov (.tmp 11)))⟩] false [])
  (.region [⟨(some 12), none, (.i (.mov (.tmp 3)))⟩, ⟨(some 13), none, (.i (.mov (.tmp 4)))⟩, ⟨(some 14), none, (.i (.mov (.tmp 4)))⟩, ⟨(some 15), none, (.i (.idx 1 (.tmp 12) (.tmp 13)))⟩, ⟨none, none, (.st true 1 (.tmp 15) (.tmp 14))⟩] false [])))
  (.region [⟨(some 16), none, (.i (.bin .add (.tmp 9) (.cst (.int .i64 1))))⟩, ⟨(some 9), none, (.i (.mov (.tmp 16)))⟩] false []))))
def m_impl_upTo : AC :=
  (.seq (.region [⟨(some 2), none, (.i (.mov (.cst .nils)))⟩] false [])
  (.seq (.region [⟨(some 5), none, (.i (.mov (.tmp 0)))⟩, ⟨(some 6), none, (.call (.cst (.fn 76 [])) [(.tmp 5)] [[]])⟩, ⟨(some 3), none, (.i (.mov (.tmp 6)))⟩] false [])
  (.seq (.seq (.region [⟨(some 7), none, (.i (.mov (.tmp 3)))⟩, ⟨(some 8), none, (.i (.len (.tmp 7)))⟩, ⟨(some 9), none, (.i (.mov (.cst (.int .i64 0))))⟩] false [])
  (.block 0 (.loop m_impl_upTo_l1)))
  (.seq (.region [⟨(some 17), none, (.i (.mov (.tmp 3)))⟩, ⟨(some 2), none, (.i (.mov (.tmp 17)))⟩] false [])
  .ret))))
def r_impl_upTo : List Res := [.tmp 2]
theorem c_impl_upTo : compiled Tryd.prog Tryd.f74 = some (m_impl_upTo, r_impl_upTo) := by kernel_rfl
theorem hb_impl_upTo : hasBody Tryd.prog 74 = true := by kernel_rfl
def L_impl_upTo_l1 (y3 : List Int) (l6_m9 : Nat) (l6_m3 : List Int) : Option (Ctl (Nat × List Int) (List Int)) :=
  cond (decide (((l6_m9 : Nat) : Int) < ((y3.length : Nat) : Int)))
  (Option.bind (l6_m3[l6_m9]?) fun x12 =>
  og (l6_m9 + 1 < 4611686018427387904) <|
  some (Ctl.next (l6_m9 + 1, l6_m3.set l6_m9 ((l6_m9 : Nat) : Int))))
  (some (Ctl.out l6_m3))
def L_impl_upTo (a0 : Int) : Option (List Int) :=
  Option.bind (L_impl_zeros a0) fun y3 =>
Option.bind (loopM (fun s_ : Nat × List Int => L_impl_upTo_l1 y3 s_.1 s_.2) 4611686018427387904 (0, y3)) fun l4_m3 =>
some l4_m3
def rv_impl_upTo (r : List Int) : RV := ⟨false, [(false, [.new 3 .int r])]⟩
theorem ok_impl_upTo {a0 : Int} {r : List Int} (h : L_impl_upTo a0 = some r) : CallOK Tryd.prog Tab 74 [(.int .i64 a0)] (rv_impl_upTo r) := by
  refine call_of_ (by kernel_rfl) Tryd.func74 c_impl_upTo (n := 18) (by kernel_rfl) (by simp) (tl := [(0, (.int .i64 a0))]) rfl ?_
  unfold m_impl_upTo
  unfold L_impl_upTo at h
  refine awp_seq_ ?_
  refine awp_region_ 2 (by kernel_rfl) ?_
  refine rs0 .nils (by kernel_rfl) ?_
  refine rnil (tn_ ?_)
  refine awp_seq_ ?_
  obtain ⟨y3, h3, h⟩ := ob_some h
  refine awp_region_ 5 (by kernel_rfl) ?_
  refine rs0 (.int .i64 a0) (by kernel_rfl) ?_
  refine rcall (.own (96, 3) .int 0 y3.length) [((96, 3), some (.arr 3 .int y3))] [(.int .i64 a0)] _ (caps := []) (args0 := [(.int .i64 a0)]) trivial (by kernel_rfl) (by kernel_rfl) (by kernel_rfl) (by kernel_rfl) (ok_impl_zeros h3) hb_impl_zeros (by kernel_rfl) ?_
  refine rs0 (.own (96, 3) .int 0 y3.length) (by kernel_rfl) ?_
  refine rnil (tn_ ?_)
  refine awp_seqB h (fun (l4_m3 : List Int) S_ => S_ = ⟨mkTm [(3, (.own (0, 1) .int 0 l4_m3.length))], mkOb (someL [((0, 1), .arr 3 .int l4_m3)]), 2⟩) ?_ ?_
  · intro v_ h
    refine awp_seq_ ?_
    refine awp_region_ 8 (by kernel_rfl) ?_
    refine rs0 (.own (96, 3) .int 0 y3.length) (by kernel_rfl) ?_
    refine rs0 (.int .i64 ((y3.length : Nat) : Int)) (by kernel_rfl) ?_
    refine rs0 (.int .i64 0) (by kernel_rfl) ?_
    refine rnil (tn_ ?_)
    refine awp_block_ ?_
    refine awp_loopL h (fun t_ S_ => ∃ (l6_m9 : Nat), ∃ (l6_m3 : List Int), t_ = (l6_m9, l6_m3) ∧ S_ = ⟨mkTm [(3, (.own (0, 1) .int 0 l6_m3.length)), (8, (.int .i64 ((y3.length : Nat) : Int))), (9, (.int .i64 ((l6_m9 : Nat) : Int)))], mkOb (someL [((0, 1), .arr 3 .int l6_m3)]), 2⟩) ⟨_, (weak_ren (renF [((0, 1), (96, 3))]) (by kernel_rfl) (by kernel_rfl) (by kernel_rfl)), ⟨0, y3, rfl, rfl⟩⟩ ?_
    · rintro n_ _ _ c_ ⟨l6_m9, l6_m3, rfl, rfl⟩ h hn6
      (try dsimp only at h)
      unfold L_impl_upTo_l1 at h
      unfold m_impl_upTo_l1
      refine awp_seq_ ?_
      refine awp_region_ 3 (by kernel_rfl) ?_
      refine rs0 (.bool (decide (((l6_m9 : Nat) : Int) < ((y3.length : Nat) : Int)))) (by kernel_rfl) ?_
      refine rnil (tn_ ?_)
      refine awp_seq_ ?_
      rcases cond_some h with ⟨q9, h⟩ | ⟨q9, h⟩
      · have q9_ := of_decide_eq_true q9
        refine awp_condT_ q9 (by kernel_rfl) ?_
        refine awp_skip_ (tn_ ?_)
        refine awp_seq_ ?_
        refine awp_block_ ?_
        refine awp_seq_ ?_
        refine awp_region_ 5 (by kernel_rfl) ?_
        refine rs0 (.int .i64 ((l6_m9 : Nat) : Int)) (by kernel_rfl) ?_
        refine rs0 (.int .i64 ((l6_m9 : Nat) : Int)) (by kernel_rfl) ?_
        refine rnil (tn_ ?_)
        obtain ⟨x12, e12, h⟩ := ob_some h
        refine awp_region_ 10 (by kernel_rfl) ?_
        refine rs0 (.own (0, 1) .int 0 l6_m3.length) (by kernel_rfl) ?_
        refine rs0 (.int .i64 ((l6_m9 : Nat) : Int)) (by kernel_rfl) ?_
        refine rs0 (.int .i64 ((l6_m9 : Nat) : Int)) (by kernel_rfl) ?_
        refine rs0 (.elt (0, 1) l6_m9 0) (s_idxO (t := .int) (o := (0, 1)) (len := l6_m3.length) (k := .i64) (m := ((l6_m9 : Nat) : Int)) (by kernel_rfl) (by kernel_rfl) rfl (nat_nn _) rfl (getN_lt e12)) ?_
        refine rsn2 (0, 1) (0, 1) (.arr 3 .int (l6_m3.set l6_m9 ((l6_m9 : Nat) : Int))) (s_stE (i := (0, 1)) (j := l6_m9) (k := 0) (e := 3) (t := .int) (xs := l6_m3) (cs := [(.int .i64 ((l6_m9 : Nat) : Int))]) (x1 := ((l6_m9 : Nat) : Int)) (by kernel_rfl) (by kernel_rfl) e12 (by kernel_rfl) (by kernel_rfl)) ?_
        refine rnil (bn_ (tn_ ?_))
        obtain ⟨g13, h⟩ := og_some h
        refine awp_region_ 12 (by kernel_rfl) ?_
        refine rs0 (.int .i64 ((l6_m9 + 1 : Nat) : Int)) (s_add1 (j := l6_m9) (by kernel_rfl) (by kernel_rfl) g13) ?_
        refine rs0 (.int .i64 ((l6_m9 + 1 : Nat) : Int)) (by kernel_rfl) ?_
        refine rnil (tn_ ?_)
        obtain rfl := Option.some.inj h
        exact ⟨(l6_m9 + 1, l6_m3.set l6_m9 ((l6_m9 : Nat) : Int)), _, ((weak_tm_ 3 (.own (0, 1) .int 0 l6_m3.length) (.own (0, 1) .int 0 ((l6_m3.set l6_m9 ((l6_m9 : Nat) : Int)).length)) (by kernel_rfl) (congrArg (fun z_ => ((.own (0, 1) .int 0 z_) : AV)) (((rfl : l6_m3.length = l6_m3.length).trans List.length_set.symm) : l6_m3.length = (l6_m3.set l6_m9 ((l6_m9 : Nat) : Int)).length))).trans (weak_ren (renF []) (by kernel_rfl) (by kernel_rfl) (by kernel_rfl))), ⟨l6_m9 + 1, l6_m3.set l6_m9 ((l6_m9 : Nat) : Int), rfl, rfl⟩, hn6⟩
      · have q9_ := of_decide_eq_false q9
        refine awp_condF_ q9 (by kernel_rfl) ?_
        refine awp_exit_ (te_ (te_ (be_ (tn_ ?_))))
        obtain rfl := Option.some.inj h
        have h := hn6
        (try dsimp only at h)
        obtain rfl := Option.some.inj h
        exact ⟨_, (weak_ren (renF []) (by kernel_rfl) (by kernel_rfl) (by kernel_rfl)), rfl⟩
  · rintro l4_m3 _ rfl h
    (try dsimp only at h)
    refine awp_seq_ ?_
    refine awp_region_ 4 (by kernel_rfl) ?_
    refine rs0 (.own (0, 1) .int 0 l4_m3.length) (by kernel_rfl) ?_
    refine rs0 (.own (0, 1) .int 0 l4_m3.length) (by kernel_rfl) ?_
    refine rnil (tn_ ?_)
    refine awp_ret_ ?_
    obtain rfl := Option.some.inj h
    exact ret_ [(.own (0, 1) .int 0 l4_m3.length)] (by simp) (by kernel_rfl) (p_one rfl (l_own (by kernel_rfl) rfl) p_nil) (by kernel_rfl) (by kernel_rfl)
def m_impl_classes_root_l1 : AC :=
  (.seq (.seq (.region [⟨(some 5), none, (.i (.mov (.tmp 0)))⟩, ⟨(some 6), none, (.i (.mov (.tmp 1)))⟩, ⟨(some 7), none, (.i (.idx 1 (.tmp 5) (.tmp 6)))⟩, ⟨(some 8), none, (.i (.ld true 1 (.tmp 7)))⟩, ⟨(some 9), none, (.i (.mov (.tmp 1)))⟩, ⟨(some 10), none, (.i (.bin .neq (.tmp 8) (.tmp 9)))⟩] false [])
  (.cond (.tmp 10)
    .skip
    (.exit 0)))
  (.block 1 (.region [⟨(some 11), none, (.i (.mov (.tmp 0)))⟩, ⟨(some 12), none, (.i (.mov (.tmp 1)))⟩, ⟨(some 13), none, (.i (.idx 1 (.tmp 11) (.tmp 12)))⟩, ⟨(some 14), none, (.i (.ld true 1 (.tmp 13)))⟩, ⟨(some 1), none, (.i (.mov (.tmp 14)))⟩] false [])))
def m_impl_classes_root : AC :=
  (.seq (.region [⟨(some 4), none, (.i (.mov (.cst (.int .i64 0))))⟩] false [])
  (.seq (.block 0 (.loop m_impl_classes_root_l1))
  (.seq (.region [⟨(some 15), none, (.i (.mov (.tmp 1)))⟩, ⟨(some 4), none, (.i (.mov (.tmp 15)))⟩] false [])
  .ret)))
def r_impl_classes_root : List Res := [.tmp 4]
theorem c_impl_classes_root : compiled Tryd.prog Tryd.f77 = some (m_impl_classes_root, r_impl_classes_root) := by kernel_rfl
theorem hb_impl_classes_root : hasBody Tryd.prog 77 = true := by kernel_rfl
def L_impl_classes_root_l1 (a0 : List Int) (l3_m1 : Int) : Option (Ctl Int Int) :=
  Option.bind (getI a0 l3_m1) fun x6 =>
cond (x6 != l3_m1)
  (some (Ctl.next x6))
  (some (Ctl.out l3_m1))
def L_impl_classes_root (a0 : List Int) (a1 : Int) : Option Int :=
  Option.bind (loopM (fun s_ : Int => L_impl_classes_root_l1 a0 s_) 4611686018427387904 a1) fun l2_m1 =>
some l2_m1
def rv_impl_classes_root (r : Int) : RV := ⟨false, [(false, [.sc (.int .i64 r)])]⟩
theorem ok_impl_classes_root {a0 : List Int} {a1 : Int} {r : Int} (h : L_impl_classes_root a0 a1 = some r) : CallOK Tryd.prog Tab 77 [(.tree .int a0), (.int .i64 a1)] (rv_impl_classes_root r) := by
  refine call_of_ (by kernel_rfl) Tryd.func77 c_impl_classes_root (n := 16) (by kernel_rfl) (by simp) (tl := [(0, (.tree .int a0)), (1, (.int .i64 a1))]) rfl ?_
  unfold m_impl_classes_root
  unfold L_impl_classes_root at h
  refine awp_seq_ ?_
  refine awp_region_ 2 (by kernel_rfl) ?_
  refine rs0 (.int .i64 0) (by kernel_rfl) ?_
  refine rnil (tn_ ?_)
  refine awp_seqB h (fun (l2_m1 : Int) S_ => S_ = ⟨mkTm [(1, (.int .i64 l2_m1))], mkOb (someL []), 2⟩) ?_ ?_
  · intro v_ h
    refine awp_block_ ?_
    refine awp_loopL h (fun (l3_m1 : Int) S_ => S_ = ⟨mkTm [(0, (.tree .int a0)), (1, (.int .i64 l3_m1))], mkOb (someL []), 2⟩) ⟨_, (weak_ren (renF []) (by kernel_rfl) (by kernel_rfl) (by kernel_rfl)), rfl⟩ ?_
    · rintro n_ l3_m1 _ c_ rfl h hn3
      (try dsimp only at h)
      unfold L_impl_classes_root_l1 at h
      unfold m_impl_classes_root_l1
      refine awp_seq_ ?_
      refine awp_seq_ ?_
      obtain ⟨x6, f6, h⟩ := ob_some h
      obtain ⟨p6, b6, e6⟩ := getI_some f6
      refine awp_region_ 8 (by kernel_rfl) ?_
      refine rs0 (.tree .int a0) (by kernel_rfl) ?_
      refine rs0 (.int .i64 l3_m1) (by kernel_rfl) ?_
      refine rs0 (.telt .int x6 0) (s_idxT (t := .int) (xs := a0) (k := .i64) (m := l3_m1) (by kernel_rfl) (by kernel_rfl) rfl p6 rfl e6) ?_
      refine rs0 (.int .i64 x6) (by kernel_rfl) ?_
      refine rs0 (.int .i64 l3_m1) (by kernel_rfl) ?_
      refine rs0 (.bool (x6 != l3_m1)) (by kernel_rfl) ?_
      refine rnil (tn_ ?_)
      rcases cond_some h with ⟨q7, h⟩ | ⟨q7, h⟩
      · refine awp_condT_ q7 (by kernel_rfl) ?_
        refine awp_skip_ (tn_ ?_)
        refine awp_block_ ?_
        refine awp_region_ 13 (by kernel_rfl) ?_
        refine rs0 (.tree .int a0) (by kernel_rfl) ?_
        refine rs0 (.int .i64 l3_m1) (by kernel_rfl) ?_
        refine rs0 (.telt .int x6 0) (s_idxT (t := .int) (xs := a0) (k := .i64) (m := l3_m1) (by kernel_rfl) (by kernel_rfl) rfl p6 rfl e6) ?_
        refine rs0 (.int .i64 x6) (by kernel_rfl) ?_
        refine rs0 (.int .i64 x6) (by kernel_rfl) ?_
        refine rnil (bn_ (tn_ ?_))
        obtain rfl := Option.some.inj h
        exact ⟨x6, _, (weak_ren (renF []) (by kernel_rfl) (by kernel_rfl) (by kernel_rfl)), rfl, hn3⟩
      · refine awp_condF_ q7 (by kernel_rfl) ?_
        refine awp_exit_ (te_ (te_ (be_ (tn_ ?_))))
        obtain rfl := Option.some.inj h
        have h := hn3
        (try dsimp only at h)
        obtain rfl := Option.some.inj h
        exact ⟨_, (weak_ren (renF []) (by kernel_rfl) (by kernel_rfl) (by kernel_rfl)), rfl⟩
  · rintro l2_m1 _ rfl h
    (try dsimp only at h)
    refine awp_seq_ ?_
    refine awp_region_ 4 (by kernel_rfl) ?_
    refine rs0 (.int .i64 l2_m1) (by kernel_rfl) ?_
    refine rs0 (.int .i64 l2_m1) (by kernel_rfl) ?_
    refine rnil (tn_ ?_)
    refine awp_ret_ ?_
    obtain rfl := Option.some.inj h
    exact ret_ [(.int .i64 l2_m1)] (by simp) (by kernel_rfl) (p_one rfl (l_sc (by kernel_rfl)) p_nil) (by kernel_rfl) (by kernel_rfl)
def m_impl_classes_join : AC :=
  (.seq (.region [⟨(some 8), none, (.i (.mov (.tmp 0)))⟩, ⟨(some 9), none, (.i (.mov (.tmp 1)))⟩, ⟨(some 10), none, (.call (.cst (.fn 77 [])) [(.tmp 8), (.tmp 9)] [[(some .int)], []])⟩, ⟨(some 11), none, (.i (.mov (.tmp 0)))⟩, ⟨(some 12), none, (.i (.mov (.tmp 2)))⟩, ⟨(some 13), none, (.call (.cst (.fn 77 [])) [(.tmp 11), (.tmp 12)] [[(some .int)], []])⟩, ⟨(some 6), none, (.i (.mov (.tmp 10)))⟩, ⟨(some 7), none, (.i (.mov (.tmp 13)))⟩] false [])
  (.region [⟨(some 14), none, (.i (.mov (.tmp 0)))⟩, ⟨(some 15), none, (.i (.mov (.tmp 6)))⟩, ⟨(some 16), none, (.i (.mov (.tmp 7)))⟩, ⟨(some 17), none, (.mm true (.tmp 15) (.tmp 16))⟩, ⟨(some 18), none, (.i (.mov (.tmp 6)))⟩, ⟨(some 19), none, (.i (.mov (.tmp 7)))⟩, ⟨(some 20), none, (.mm false (.tmp 18) (.tmp 19))⟩, ⟨(some 21), none, (.i (.idx 1 (.tmp 14) (.tmp 17)))⟩, ⟨none, none, (.st true 1 (.tmp 21) (.tmp 20))⟩] false []))
def r_impl_classes_join : List Res := []
theorem c_impl_classes_join : compiled Tryd.prog Tryd.f75 = some (m_impl_classes_join, r_impl_classes_join) := by kernel_rfl
theorem hb_impl_classes_join : hasBody Tryd.prog 75 = true := by kernel_rfl
def L_impl_classes_join (a0 : List Int) (a1 : Int) (a2 : Int) : Option (List Int) :=
  Option.bind (L_impl_classes_root a0 a1) fun y2 =>
Option.bind (L_impl_classes_root a0 a2) fun y3 =>
Option.bind (getI a0 (if y2 < y3 then y3 else y2)) fun x4 =>
Option.bind (getI a0 (if y2 < y3 then y3 else y2)) fun x5 =>
some (a0.set ((if y2 < y3 then y3 else y2).toNat) (if y3 < y2 then y3 else y2))
theorem ok_impl_classes_join {a0 : List Int} {a1 : Int} {a2 : Int} {r : List Int} (h : L_impl_classes_join a0 a1 a2 = some r) {n_a0 : Nat} (hn_a0 : n_a0 = a0.length) : CallM Tryd.prog Tab 75 [(.own (0, 0) .int 0 n_a0), (.int .i64 a1), (.int .i64 a2)] [((0, 0), .arr 3 .int a0)] (.tup []) [((0, 0), .arr 3 .int r)] := by
  refine callM_of_ (by kernel_rfl) Tryd.func75 c_impl_classes_join (n := 22) (by kernel_rfl) (by simp) (tl := [(0, (.own (0, 0) .int 0 n_a0)), (1, (.int .i64 a1)), (2, (.int .i64 a2))]) rfl (by kernel_rfl) (by kernel_rfl) (by kernel_rfl) (by kernel_rfl) (by kernel_rfl) (.inr rfl) ?_
  unfold m_impl_classes_join
  unfold L_impl_classes_join at h
  refine awp_seq_ ?_
  obtain ⟨y2, h2, h⟩ := ob_some h
  obtain ⟨y3, h3, h⟩ := ob_some h
  refine awp_region_ 9 (by kernel_rfl) ?_
  refine rs0 (.own (0, 0) .int 0 n_a0) (by kernel_rfl) ?_
  refine rs0 (.int .i64 a1) (by kernel_rfl) ?_
  refine rcall (.int .i64 y2) [] [(.own (0, 0) .int 0 n_a0), (.int .i64 a1)] _ (caps := []) (args0 := [(.tree .int a0), (.int .i64 a1)]) trivial (by kernel_rfl) (by kernel_rfl) (gm_cons (gd_own (e := 3) (by kernel_rfl) hn_a0) (gm_cons (by kernel_rfl) gm_nil)) (by kernel_rfl) (ok_impl_classes_root h2) hb_impl_classes_root (by kernel_rfl) ?_
  refine rs0 (.own (0, 0) .int 0 n_a0) (by kernel_rfl) ?_
  refine rs0 (.int .i64 a2) (by kernel_rfl) ?_
  refine rcall (.int .i64 y3) [] [(.own (0, 0) .int 0 n_a0), (.int .i64 a2)] _ (caps := []) (args0 := [(.tree .int a0), (.int .i64 a2)]) trivial (by kernel_rfl) (by kernel_rfl) (gm_cons (gd_own (e := 3) (by kernel_rfl) hn_a0) (gm_cons (by kernel_rfl) gm_nil)) (by kernel_rfl) (ok_impl_classes_root h3) hb_impl_classes_root (by kernel_rfl) ?_
  refine rs0 (.int .i64 y2) (by kernel_rfl) ?_
  refine rs0 (.int .i64 y3) (by kernel_rfl) ?_
  refine rnil (tn_ ?_)
  obtain ⟨x4, f4, h⟩ := ob_some h
  obtain ⟨p4, b4, e4⟩ := getI_some f4
  obtain ⟨x5, f5, h⟩ := ob_some h
  obtain ⟨p5, b5, e5⟩ := getI_some f5
  refine awp_region_ 18 (by kernel_rfl) ?_
  refine rs0 (.own (0, 0) .int 0 n_a0) (by kernel_rfl) ?_
  refine rs0 (.int .i64 y2) (by kernel_rfl) ?_
  refine rs0 (.int .i64 y3) (by kernel_rfl) ?_
  refine rs0 (.int .i64 (if y2 < y3 then y3 else y2)) (by kernel_rfl) ?_
  refine rs0 (.int .i64 y2) (by kernel_rfl) ?_
  refine rs0 (.int .i64 y3) (by kernel_rfl) ?_
  refine rs0 (.int .i64 (if y3 < y2 then y3 else y2)) (by kernel_rfl) ?_
  refine rs0 (.elt (0, 0) ((if y2 < y3 then y3 else y2).toNat) 0) (s_idxO (t := .int) (o := (0, 0)) (len := n_a0) (k := .i64) (m := if y2 < y3 then y3 else y2) (by kernel_rfl) (by kernel_rfl) rfl p4 rfl (by rw [hn_a0]; exact getN_lt e4)) ?_
  refine rsn2 (0, 0) (0, 0) (.arr 3 .int (a0.set ((if y2 < y3 then y3 else y2).toNat) (if y3 < y2 then y3 else y2))) (s_stE (i := (0, 0)) (j := (if y2 < y3 then y3 else y2).toNat) (k := 0) (e := 3) (t := .int) (xs := a0) (cs := [(.int .i64 (if y3 < y2 then y3 else y2))]) (x1 := if y3 < y2 then y3 else y2) (by kernel_rfl) (by kernel_rfl) e5 (by kernel_rfl) (by kernel_rfl)) ?_
  refine rnil ?_
  obtain rfl := Option.some.inj h
  exact retM_ (by simp) (by kernel_rfl) (by kernel_rfl)
def m_impl_GlueNetworks_1 : AC :=
  (.seq (.region [⟨(some 3), none, (.i (.mov (.cst (.int .i64 0))))⟩] false [])
  (.seq (.region [⟨(some 4), none, (.i (.ld true 1 (.tmp 1)))⟩, ⟨(some 5), none, (.i (.mov (.tmp 0)))⟩, ⟨(some 6), none, (.i (.idx 1 (.tmp 4) (.tmp 5)))⟩, ⟨(some 7), none, (.i (.ld true 1 (.tmp 6)))⟩, ⟨(some 3), none, (.i (.mov (.tmp 7)))⟩] false [])
  .ret))
def r_impl_GlueNetworks_1 : List Res := [.tmp 3]
theorem c_impl_GlueNetworks_1 : compiled Tryd.prog Tryd.f78 = some (m_impl_GlueNetworks_1, r_impl_GlueNetworks_1) := by kernel_rfl
theorem hb_impl_GlueNetworks_1 : hasBody Tryd.prog 78 = true := by kernel_rfl
def L_impl_GlueNetworks_1 (a0 : Int) (c0_0 : List Int) : Option Int :=
  Option.bind (getI c0_0 a0) fun x3 =>
some x3
def rv_impl_GlueNetworks_1 (r : Int) : RV := ⟨false, [(false, [.sc (.int .i64 r)])]⟩
theorem ok_impl_GlueNetworks_1 {a0 : Int} {c0_0 : List Int} {r : Int} (h : L_impl_GlueNetworks_1 a0 c0_0 = some r) : CallOK Tryd.prog Tab 78 [(.int .i64 a0), (.ref [(.tree .int c0_0)])] (rv_impl_GlueNetworks_1 r) := by
  refine call_of_ (by kernel_rfl) Tryd.func78 c_impl_GlueNetworks_1 (n := 8) (by kernel_rfl) (by simp) (tl := [(0, (.int .i64 a0)), (1, (.ref [(.tree .int c0_0)]))]) rfl ?_
  unfold m_impl_GlueNetworks_1
  unfold L_impl_GlueNetworks_1 at h
  refine awp_seq_ ?_
  refine awp_region_ 2 (by kernel_rfl) ?_
  refine rs0 (.int .i64 0) (by kernel_rfl) ?_
  refine rnil (tn_ ?_)
  refine awp_seq_ ?_
  obtain ⟨x3, f3, h⟩ := ob_some h
  obtain ⟨p3, b3, e3⟩ := getI_some f3
  refine awp_region_ 7 (by kernel_rfl) ?_
  refine rs0 (.tree .int c0_0) (by kernel_rfl) ?_
  refine rs0 (.int .i64 a0) (by kernel_rfl) ?_
  refine rs0 (.telt .int x3 0) (s_idxT (t := .int) (xs := c0_0) (k := .i64) (m := a0) (by kernel_rfl) (by kernel_rfl) rfl p3 rfl e3) ?_
  refine rs0 (.int .i64 x3) (by kernel_rfl) ?_
  refine rs0 (.int .i64 x3) (by kernel_rfl) ?_
  refine rnil (tn_ ?_)
  refine awp_ret_ ?_
  obtain rfl := Option.some.inj h
  exact ret_ [(.int .i64 x3)] (by simp) (by kernel_rfl) (p_one rfl (l_sc (by kernel_rfl)) p_nil) (by kernel_rfl) (by kernel_rfl)
def L_impl_mapList_for_impl_GlueNetworks_1_l1 (a0 : List Int) (a1_0_0 : List Int) (l5_m11 : Nat) (l5_m5 : List Int) : Option (Ctl (Nat × List Int) (List Int)) :=
  cond (decide (((l5_m11 : Nat) : Int) < ((a0.length : Nat) : Int)))
  (Option.bind (a0[l5_m11]?) fun x11 =>
  Option.bind (L_impl_GlueNetworks_1 x11 a1_0_0) fun y12 =>
  og (l5_m5.length + 1 ≤ 1073741824 ∧ (l5_m5.length + 1) * 8 ≤ 140737488355328) <|
  og (l5_m11 + 1 < 4611686018427387904) <|
  some (Ctl.next (l5_m11 + 1, l5_m5 ++ ([y12]))))
  (some (Ctl.out l5_m5))
def L_impl_mapList_for_impl_GlueNetworks_1 (a0 : List Int) (a1_0_0 : List Int) : Option (List Int) :=
  Option.bind (loopM (fun s_ : Nat × List Int => L_impl_mapList_for_impl_GlueNetworks_1_l1 a0 a1_0_0 s_.1 s_.2) 4611686018427387904 (0, [])) fun l3_m5 =>
some l3_m5
def rv_impl_mapList_for_impl_GlueNetworks_1 (r : List Int) : RV := ⟨false, [(false, [.new 3 .int r])]⟩
theorem ok_impl_mapList_for_impl_GlueNetworks_1 {a0 : List Int} {a1_0_0 : List Int} {r : List Int} (h : L_impl_mapList_for_impl_GlueNetworks_1 a0 a1_0_0 = some r) : CallOK Tryd.prog Tab 72 [(.tree .int a0), (.fn 78 [(.ref [(.tree .int a1_0_0)])])] (rv_impl_mapList_for_impl_GlueNetworks_1 r) := by
  refine call_of_ (by kernel_rfl) Tryd.func72 c_impl_mapList (n := 23) (by kernel_rfl) (by simp) (tl := [(0, (.tree .int a0)), (1, (.fn 78 [(.ref [(.tree .int a1_0_0)])]))]) rfl ?_
  unfold m_impl_mapList
  unfold L_impl_mapList_for_impl_GlueNetworks_1 at h
  refine awp_seq_ ?_
  refine awp_region_ 2 (by kernel_rfl) ?_
  refine rs0 .nils (by kernel_rfl) ?_
  refine rnil (tn_ ?_)
  refine awp_seq_ ?_
  refine awp_region_ 4 (by kernel_rfl) ?_
  refine rs1 (.own (8, 2) .int 0 0) (8, 2) (.arr 3 .int []) (by kernel_rfl) ?_
  refine rs0 (.own (8, 2) .int 0 0) (by kernel_rfl) ?_
  refine rnil (tn_ ?_)
  refine awp_seqB h (fun (l3_m5 : List Int) S_ => S_ = ⟨mkTm [(5, (.own (0, 1) .int 0 l3_m5.length))], mkOb (someL [((0, 1), .arr 3 .int l3_m5)]), 2⟩) ?_ ?_
  · intro v_ h
    refine awp_seq_ ?_
    refine awp_region_ 7 (by kernel_rfl) ?_
    refine rs0 (.tree .int a0) (by kernel_rfl) ?_
    refine rs0 (.int .i64 ((a0.length : Nat) : Int)) (by kernel_rfl) ?_
    refine rs0 (.int .i64 0) (by kernel_rfl) ?_
    refine rnil (tn_ ?_)
    refine awp_block_ ?_
    refine awp_loopL h (fun t_ S_ => ∃ (l5_m11 : Nat), ∃ (l5_m5 : List Int), t_ = (l5_m11, l5_m5) ∧ S_ = ⟨mkTm [(1, (.fn 78 [(.ref [(.tree .int a1_0_0)])])), (5, (.own (0, 1) .int 0 l5_m5.length)), (9, (.tree .int a0)), (10, (.int .i64 ((a0.length : Nat) : Int))), (11, (.int .i64 ((l5_m11 : Nat) : Int)))], mkOb (someL [((0, 1), .arr 3 .int l5_m5)]), 2⟩) ⟨_, (weak_ren (renF [((0, 1), (8, 2))]) (by kernel_rfl) (by kernel_rfl) (by kernel_rfl)), ⟨0, [], rfl, rfl⟩⟩ ?_
    · rintro n_ _ _ c_ ⟨l5_m11, l5_m5, rfl, rfl⟩ h hn5
      (try dsimp only at h)
      unfold L_impl_mapList_for_impl_GlueNetworks_1_l1 at h
      unfold m_impl_mapList_l1
      refine awp_seq_ ?_
      refine awp_region_ 3 (by kernel_rfl) ?_
      refine rs0 (.bool (decide (((l5_m11 : Nat) : Int) < ((a0.length : Nat) : Int)))) (by kernel_rfl) ?_
      refine rnil (tn_ ?_)
      refine awp_seq_ ?_
      rcases cond_some h with ⟨q8, h⟩ | ⟨q8, h⟩
      · have q8_ := of_decide_eq_true q8
        refine awp_condT_ q8 (by kernel_rfl) ?_
        refine awp_skip_ (tn_ ?_)
        refine awp_seq_ ?_
        refine awp_block_ ?_
        refine awp_seq_ ?_
        obtain ⟨x11, e11, h⟩ := ob_some h
        refine awp_region_ 6 (by kernel_rfl) ?_
        refine rs0 (.telt .int x11 0) (s_idxT (t := .int) (xs := a0) (k := .i64) (m := ((l5_m11 : Nat) : Int)) (by kernel_rfl) (by kernel_rfl) rfl (nat_nn _) rfl e11) ?_
        refine rs0 (.int .i64 x11) (by kernel_rfl) ?_
        refine rs0 (.int .i64 x11) (by kernel_rfl) ?_
        refine rnil (tn_ ?_)
        obtain ⟨y12, h12, h⟩ := ob_some h
        obtain ⟨g13, h⟩ := og_some h
        refine awp_region_ 13 (by kernel_rfl) ?_
        refine rs0 (.own (0, 1) .int 0 l5_m5.length) (by kernel_rfl) ?_
        refine rs0 (.fn 78 [(.ref [(.tree .int a1_0_0)])]) (by kernel_rfl) ?_
        refine rs0 (.int .i64 x11) (by kernel_rfl) ?_
        refine rcall (.int .i64 y12) [] [(.int .i64 x11), (.ref [(.tree .int a1_0_0)])] _ (caps := [(.ref [(.tree .int a1_0_0)])]) (args0 := [(.int .i64 x11), (.ref [(.tree .int a1_0_0)])]) trivial (by kernel_rfl) (by kernel_rfl) (by kernel_rfl) (by kernel_rfl) (ok_impl_GlueNetworks_1 h12) hb_impl_GlueNetworks_1 (by kernel_rfl) ?_
        refine rs1 (.own (19, 10) .int 0 1) (19, 10) (.arr 3 .int ([y12])) (by kernel_rfl) ?_
        refine rs2 (.own (0, 11) .int 0 ((l5_m5 ++ ([y12])).length)) (0, 1) (0, 11) (.arr 3 .int (l5_m5 ++ ([y12]))) (s_appO (t := .int) (t' := .int) (xs := l5_m5) (ys := [y12]) (zs := l5_m5 ++ ([y12])) (j := (0, 1)) (len := l5_m5.length) (c := (.own (19, 10) .int 0 1)) (by kernel_rfl) (by kernel_rfl) rfl (by kernel_rfl) (sr_own (e := 3) (by kernel_rfl) rfl) rfl g13) ?_
        refine rs0 (.own (0, 11) .int 0 ((l5_m5 ++ ([y12])).length)) (by kernel_rfl) ?_
        refine rnil (bn_ (tn_ ?_))
        obtain ⟨g14, h⟩ := og_some h
        refine awp_region_ 15 (by kernel_rfl) ?_
        refine rs0 (.int .i64 ((l5_m11 + 1 : Nat) : Int)) (s_add1 (j := l5_m11) (by kernel_rfl) (by kernel_rfl) g14) ?_
        refine rs0 (.int .i64 ((l5_m11 + 1 : Nat) : Int)) (by kernel_rfl) ?_
        refine rnil (tn_ ?_)
        obtain rfl := Option.some.inj h
        exact ⟨(l5_m11 + 1, l5_m5 ++ ([y12])), _, (weak_ren (renF [((0, 1), (0, 11))]) (by kernel_rfl) (by kernel_rfl) (by kernel_rfl)), ⟨l5_m11 + 1, l5_m5 ++ ([y12]), rfl, rfl⟩, hn5⟩
      · have q8_ := of_decide_eq_false q8
        refine awp_condF_ q8 (by kernel_rfl) ?_
        refine awp_exit_ (te_ (te_ (be_ (tn_ ?_))))
        obtain rfl := Option.some.inj h
        have h := hn5
        (try dsimp only at h)
        obtain rfl := Option.some.inj h
        exact ⟨_, (weak_ren (renF []) (by kernel_rfl) (by kernel_rfl) (by kernel_rfl)), rfl⟩
  · rintro l3_m5 _ rfl h
    (try dsimp only at h)
    refine awp_seq_ ?_
    refine awp_region_ 4 (by kernel_rfl) ?_
    refine rs0 (.own (0, 1) .int 0 l3_m5.length) (by kernel_rfl) ?_
    refine rs0 (.own (0, 1) .int 0 l3_m5.length) (by kernel_rfl) ?_
    refine rnil (tn_ ?_)
    refine awp_ret_ ?_
    obtain rfl := Option.some.inj h
    exact ret_ [(.own (0, 1) .int 0 l3_m5.length)] (by simp) (by kernel_rfl) (p_one rfl (l_own (by kernel_rfl) rfl) p_nil) (by kernel_rfl) (by kernel_rfl)
def L_impl_movedBranches_for_impl_GlueNetworks_1_l1 (a0 : List (Int × Int × Int)) (a1_0_0 : List Int) (l5_m11 : Nat) (l5_m5 : List (Int × Int × Int)) : Option (Ctl (Nat × (List (Int × Int × Int))) (List (Int × Int × Int))) :=
  cond (decide (((l5_m11 : Nat) : Int) < ((a0.length : Nat) : Int)))
  (Option.bind (a0[l5_m11]?) fun x11 =>
  Option.bind (L_impl_GlueNetworks_1 x11.1 a1_0_0) fun y12 =>
  Option.bind (L_impl_GlueNetworks_1 x11.2.1 a1_0_0) fun y13 =>
  og (l5_m5.length + 1 ≤ 1073741824 ∧ (l5_m5.length + 1) * 24 ≤ 140737488355328) <|
  og (l5_m11 + 1 < 4611686018427387904) <|
  some (Ctl.next (l5_m11 + 1, l5_m5 ++ ([(y12, y13, x11.2.2)]))))
  (some (Ctl.out l5_m5))
def L_impl_movedBranches_for_impl_GlueNetworks_1 (a0 : List (Int × Int × Int)) (a1_0_0 : List Int) : Option (List (Int × Int × Int)) :=
  Option.bind (loopM (fun s_ : Nat × (List (Int × Int × Int)) => L_impl_movedBranches_for_impl_GlueNetworks_1_l1 a0 a1_0_0 s_.1 s_.2) 4611686018427387904 (0, [])) fun l3_m5 =>
some l3_m5
def rv_impl_movedBranches_for_impl_GlueNetworks_1 (r : List (Int × Int × Int)) : RV := ⟨false, [(false, [.new 59 (.pair .int (.pair .int .int)) r])]⟩
theorem ok_impl_movedBranches_for_impl_GlueNetworks_1 {a0 : List (Int × Int × Int)} {a1_0_0 : List Int} {r : List (Int × Int × Int)} (h : L_impl_movedBranches_for_impl_GlueNetworks_1 a0 a1_0_0 = some r) : CallOK Tryd.prog Tab 70 [(.tree (.pair .int (.pair .int .int)) a0), (.fn 78 [(.ref [(.tree .int a1_0_0)])])] (rv_impl_movedBranches_for_impl_GlueNetworks_1 r) := by
  refine call_of_ (by kernel_rfl) Tryd.func70 c_impl_movedBranches (n := 31) (by kernel_rfl) (by simp) (tl := [(0, (.tree (.pair .int (.pair .int .int)) a0)), (1, (.fn 78 [(.ref [(.tree .int a1_0_0)])]))]) rfl ?_
  unfold m_impl_movedBranches
  unfold L_impl_movedBranches_for_impl_GlueNetworks_1 at h
  refine awp_seq_ ?_
  refine awp_region_ 2 (by kernel_rfl) ?_
  refine rs0 .nils (by kernel_rfl) ?_
  refine rnil (tn_ ?_)
  refine awp_seq_ ?_
  refine awp_region_ 4 (by kernel_rfl) ?_
  refine rs1 (.own (8, 2) (.pair .int (.pair .int .int)) 0 0) (8, 2) (.arr 59 (.pair .int (.pair .int .int)) []) (by kernel_rfl) ?_
  refine rs0 (.own (8, 2) (.pair .int (.pair .int .int)) 0 0) (by kernel_rfl) ?_
  refine rnil (tn_ ?_)
  refine awp_seqB h (fun (l3_m5 : List (Int × Int × Int)) S_ => S_ = ⟨mkTm [(5, (.own (0, 1) (.pair .int (.pair .int .int)) 0 l3_m5.length))], mkOb (someL [((0, 1), .arr 59 (.pair .int (.pair .int .int)) l3_m5)]), 2⟩) ?_ ?_
  · intro v_ h
    refine awp_seq_ ?_
    refine awp_region_ 7 (by kernel_rfl) ?_
    refine rs0 (.tree (.pair .int (.pair .int .int)) a0) (by kernel_rfl) ?_
    refine rs0 (.int .i64 ((a0.length : Nat) : Int)) (by kernel_rfl) ?_
    refine rs0 (.int .i64 0) (by kernel_rfl) ?_
    refine rnil (tn_ ?_)
    refine awp_block_ ?_
    refine awp_loopL h (fun t_ S_ => ∃ (l5_m11 : Nat), ∃ (l5_m5 : List (Int × Int × Int)), t_ = (l5_m11, l5_m5) ∧ S_ = ⟨mkTm [(1, (.fn 78 [(.ref [(.tree .int a1_0_0)])])), (5, (.own (0, 1) (.pair .int (.pair .int .int)) 0 l5_m5.length)), (9, (.tree (.pair .int (.pair .int .int)) a0)), (10, (.int .i64 ((a0.length : Nat) : Int))), (11, (.int .i64 ((l5_m11 : Nat) : Int)))], mkOb (someL [((0, 1), .arr 59 (.pair .int (.pair .int .int)) l5_m5)]), 2⟩) ⟨_, (weak_ren (renF [((0, 1), (8, 2))]) (by kernel_rfl) (by kernel_rfl) (by kernel_rfl)), ⟨0, [], rfl, rfl⟩⟩ ?_
    · rintro n_ _ _ c_ ⟨l5_m11, l5_m5, rfl, rfl⟩ h hn5
      (try dsimp only at h)
      unfold L_impl_movedBranches_for_impl_GlueNetworks_1_l1 at h
      unfold m_impl_movedBranches_l1
      refine awp_seq_ ?_
      refine awp_region_ 3 (by kernel_rfl) ?_
      refine rs0 (.bool (decide (((l5_m11 : Nat) : Int) < ((a0.length : Nat) : Int)))) (by kernel_rfl) ?_
      refine rnil (tn_ ?_)
      refine awp_seq_ ?_
      rcases cond_some h with ⟨q8, h⟩ | ⟨q8, h⟩
      · have q8_ := of_decide_eq_true q8
        refine awp_condT_ q8 (by kernel_rfl) ?_
        refine awp_skip_ (tn_ ?_)
        refine awp_seq_ ?_
        refine awp_block_ ?_
        refine awp_seq_ ?_
        obtain ⟨x11, e11, h⟩ := ob_some h
        refine awp_region_ 7 (by kernel_rfl) ?_
        refine rs0 (.telt (.pair .int (.pair .int .int)) x11 0) (s_idxT (t := (.pair .int (.pair .int .int))) (xs := a0) (k := .i64) (m := ((l5_m11 : Nat) : Int)) (by kernel_rfl) (by kernel_rfl) rfl (nat_nn _) rfl e11) ?_
        refine rs0 (.agg [(.int .i64 x11.1), (.int .i64 x11.2.1), (.int .i64 x11.2.2)]) (by kernel_rfl) ?_
        refine rs1 (.box (7, 5) 0) (7, 5) (.cells 59 [(.int .i64 0), (.int .i64 0), (.int .i64 0)]) (by kernel_rfl) ?_
        refine rsn2 (7, 5) (7, 5) (.cells 59 [(.int .i64 x11.1), (.int .i64 x11.2.1), (.int .i64 x11.2.2)]) (by kernel_rfl) ?_
        refine rnil (tn_ ?_)
        obtain ⟨y12, h12, h⟩ := ob_some h
        obtain ⟨y13, h13, h⟩ := ob_some h
        obtain ⟨g14, h⟩ := og_some h
        refine awp_regionD_ 22 (by kernel_rfl) ?_
        refine ds0 (.own (0, 1) (.pair .int (.pair .int .int)) 0 l5_m5.length) (by kernel_rfl) ?_
        refine ds0 (.fn 78 [(.ref [(.tree .int a1_0_0)])]) (by kernel_rfl) ?_
        refine ds0 (.box (7, 5) 0) (by kernel_rfl) ?_
        refine dsl (.int .i64 x11.1) (by kernel_rfl) ?_
        refine dcall (.int .i64 y12) [] [(.int .i64 x11.1), (.ref [(.tree .int a1_0_0)])] _ (caps := [(.ref [(.tree .int a1_0_0)])]) (args0 := [(.int .i64 x11.1), (.ref [(.tree .int a1_0_0)])]) trivial (by kernel_rfl) (by kernel_rfl) (by kernel_rfl) (by kernel_rfl) (ok_impl_GlueNetworks_1 h12) hb_impl_GlueNetworks_1 (by kernel_rfl) ?_
        refine ds0 (.fn 78 [(.ref [(.tree .int a1_0_0)])]) (by kernel_rfl) ?_
        refine ds0 (.box (7, 5) 1) (by kernel_rfl) ?_
        refine dsl (.int .i64 x11.2.1) (by kernel_rfl) ?_
        refine dcall (.int .i64 y13) [] [(.int .i64 x11.2.1), (.ref [(.tree .int a1_0_0)])] _ (caps := [(.ref [(.tree .int a1_0_0)])]) (args0 := [(.int .i64 x11.2.1), (.ref [(.tree .int a1_0_0)])]) trivial (by kernel_rfl) (by kernel_rfl) (by kernel_rfl) (by kernel_rfl) (ok_impl_GlueNetworks_1 h13) hb_impl_GlueNetworks_1 (by kernel_rfl) ?_
        refine ds0 (.box (7, 5) 2) (by kernel_rfl) ?_
        refine dsl (.int .i64 x11.2.2) (by kernel_rfl) ?_
        refine ds0 (.agg [(.int .i64 y12), (.int .i64 y13), (.int .i64 x11.2.2)]) (by kernel_rfl) ?_
        refine ds1 (.own (27, 19) (.pair .int (.pair .int .int)) 0 1) (27, 19) (.arr 59 (.pair .int (.pair .int .int)) ([(y12, y13, x11.2.2)])) (by kernel_rfl) ?_
        refine ds2 (.own (0, 20) (.pair .int (.pair .int .int)) 0 ((l5_m5 ++ ([(y12, y13, x11.2.2)])).length)) (0, 1) (0, 20) (.arr 59 (.pair .int (.pair .int .int)) (l5_m5 ++ ([(y12, y13, x11.2.2)]))) (s_appO (t := (.pair .int (.pair .int .int))) (t' := (.pair .int (.pair .int .int))) (xs := l5_m5) (ys := [(y12, y13, x11.2.2)]) (zs := l5_m5 ++ ([(y12, y13, x11.2.2)])) (j := (0, 1)) (len := l5_m5.length) (c := (.own (27, 19) (.pair .int (.pair .int .int)) 0 1)) (by kernel_rfl) (by kernel_rfl) rfl (by kernel_rfl) (sr_own (e := 59) (by kernel_rfl) rfl) rfl g14) ?_
        refine ds0 (.own (0, 20) (.pair .int (.pair .int .int)) 0 ((l5_m5 ++ ([(y12, y13, x11.2.2)])).length)) (by kernel_rfl) ?_
        refine dnil (by kernel_rfl) (bn_ (tn_ ?_))
        obtain ⟨g15, h⟩ := og_some h
        refine awp_region_ 24 (by kernel_rfl) ?_
        refine rs0 (.int .i64 ((l5_m11 + 1 : Nat) : Int)) (s_add1 (j := l5_m11) (by kernel_rfl) (by kernel_rfl) g15) ?_
        refine rs0 (.int .i64 ((l5_m11 + 1 : Nat) : Int)) (by kernel_rfl) ?_
        refine rnil (tn_ ?_)
        obtain rfl := Option.some.inj h
        exact ⟨(l5_m11 + 1, l5_m5 ++ ([(y12, y13, x11.2.2)])), _, (weak_ren (renF [((0, 1), (0, 20))]) (by kernel_rfl) (by kernel_rfl) (by kernel_rfl)), ⟨l5_m11 + 1, l5_m5 ++ ([(y12, y13, x11.2.2)]), rfl, rfl⟩, hn5⟩
      · have q8_ := of_decide_eq_false q8
        refine awp_condF_ q8 (by kernel_rfl) ?_
        refine awp_exit_ (te_ (te_ (be_ (tn_ ?_))))
        obtain rfl := Option.some.inj h
        have h := hn5
        (try dsimp only at h)
        obtain rfl := Option.some.inj h
        exact ⟨_, (weak_ren (renF []) (by kernel_rfl) (by kernel_rfl) (by kernel_rfl)), rfl⟩
  · rintro l3_m5 _ rfl h
    (try dsimp only at h)
    refine awp_seq_ ?_
    refine awp_region_ 4 (by kernel_rfl) ?_
    refine rs0 (.own (0, 1) (.pair .int (.pair .int .int)) 0 l3_m5.length) (by kernel_rfl) ?_
    refine rs0 (.own (0, 1) (.pair .int (.pair .int .int)) 0 l3_m5.length) (by kernel_rfl) ?_
    refine rnil (tn_ ?_)
    refine awp_ret_ ?_
    obtain rfl := Option.some.inj h
    exact ret_ [(.own (0, 1) (.pair .int (.pair .int .int)) 0 l3_m5.length)] (by simp) (by kernel_rfl) (p_one rfl (l_own (by kernel_rfl) rfl) p_nil) (by kernel_rfl) (by kernel_rfl)
def m_impl_GlueNetworks_l3 : AC :=
  (.seq (.region [⟨(some 122), none, (.i (.bin .lss (.tmp 121) (.tmp 120)))⟩] false [])
  (.seq (.cond (.tmp 122)
    .skip
    (.exit 4))
  (.seq (.block 5 (.seq (.region [⟨(some 123), none, (.i (.idx 3 (.tmp 119) (.tmp 121)))⟩, ⟨(some 124), none, (.i (.ld false 3 (.tmp 123)))⟩, ⟨(some 19), none, (.i (.alloc 59 [(.int .i64 0), (.int .i64 0), (.int .i64 0)]))⟩, ⟨none, none, (.st false 3 (.tmp 19) (.tmp 124))⟩] false [])
  (.seq (.region [⟨(some 125), none, (.i (.fld 0 (.tmp 19)))⟩, ⟨(some 126), none, (.i (.ld true 1 (.tmp 125)))⟩, ⟨(some 127), none, (.i (.fld 1 (.tmp 19)))⟩, ⟨(some 128), none, (.i (.ld true 1 (.tmp 127)))⟩, ⟨(some 129), none, (.i (.bin .neq (.tmp 126) (.tmp 128)))⟩] false [])
  (.cond (.tmp 129)
    (.region [⟨(some 130), none, (.i (.fld 1 (.tmp 17)))⟩, ⟨(some 131), none, (.i (.ld true 1 (.tmp 130)))⟩, ⟨(some 132), none, (.i (.ld false 3 (.tmp 19)))⟩, ⟨(some 133), none, (.mkS 59 (.pair .int (.pair .int .int)) [(.tmp 132)])⟩, ⟨(some 134), none, (.append 59 (.pair .int (.pair .int .int)) 24 (.tmp 131) (.tmp 133))⟩, ⟨(some 135), none, (.i (.fld 1 (.tmp 17)))⟩, ⟨none, none, (.st true 1 (.tmp 135) (.tmp 134))⟩] false [])
    .skip))))
  (.region [⟨(some 136), none, (.i (.bin .add (.tmp 121) (.cst (.int .i64 1))))⟩, ⟨(some 121), none, (.i (.mov (.tmp 136)))⟩] false []))))
def m_impl_GlueNetworks_l2 : AC :=
  (.seq (.region [⟨(some 72), none, (.i (.bin .lss (.tmp 71) (.tmp 70)))⟩] false [])
  (.seq (.cond (.tmp 72)
    .skip
    (.exit 2))
  (.seq (.block 3 (.seq (.region [⟨(some 73), none, (.i (.mov (.tmp 71)))⟩, ⟨(some 13), none, (.i (.mov (.tmp 73)))⟩] false [])
  (.seq (.seq (.region [⟨(some 74), none, (.i (.mov (.tmp 8)))⟩, ⟨(some 75), none, (.i (.mov (.tmp 13)))⟩, ⟨(some 76), none, (.call (.cst (.fn 77 [])) [(.tmp 74), (.tmp 75)] [[(some .int)], []])⟩, ⟨(some 14), none, (.i (.mov (.tmp 76)))⟩] false [])
  (.seq (.region [⟨(some 77), none, (.i (.mov (.tmp 14)))⟩, ⟨(some 78), none, (.i (.mov (.tmp 13)))⟩, ⟨(some 79), none, (.i (.bin .lss (.tmp 77) (.tmp 78)))⟩] false [])
  (.cond (.tmp 79)
    (.seq (.region [⟨(some 80), none, (.i (.ld true 1 (.tmp 11)))⟩, ⟨(some 81), none, (.i (.mov (.tmp 13)))⟩, ⟨(some 82), none, (.i (.ld true 1 (.tmp 11)))⟩, ⟨(some 83), none, (.i (.mov (.tmp 14)))⟩, ⟨(some 84), none, (.i (.idx 1 (.tmp 82) (.tmp 83)))⟩, ⟨(some 85), none, (.i (.ld true 1 (.tmp 84)))⟩, ⟨(some 86), none, (.i (.idx 1 (.tmp 80) (.tmp 81)))⟩, ⟨none, none, (.st true 1 (.tmp 86) (.tmp 85))⟩] true [])
    (.exit 3))
    .skip)))
  (.seq (.region [⟨(some 87), none, (.i (.ld true 1 (.tmp 11)))⟩, ⟨(some 88), none, (.i (.mov (.tmp 13)))⟩, ⟨(some 89), none, (.i (.mov (.tmp 12)))⟩, ⟨(some 90), none, (.i (.idx 1 (.tmp 87) (.tmp 88)))⟩, ⟨none, none, (.st true 1 (.tmp 90) (.tmp 89))⟩] false [])
  (.region [⟨(some 91), none, (.i (.mov (.tmp 12)))⟩, ⟨(some 92), none, (.i (.bin .add (.tmp 91) (.cst (.int .i64 1))))⟩, ⟨(some 12), none, (.i (.mov (.tmp 92)))⟩] false [])))))
  (.region [⟨(some 93), none, (.i (.bin .add (.tmp 71) (.cst (.int .i64 1))))⟩, ⟨(some 71), none, (.i (.mov (.tmp 93)))⟩] false []))))
def m_impl_GlueNetworks_l1 : AC :=
  (.seq (.region [⟨(some 50), none, (.i (.bin .lss (.tmp 49) (.tmp 48)))⟩] false [])
  (.seq (.cond (.tmp 50)
    .skip
    (.exit 0))
  (.seq (.block 1 (.seq (.region [⟨(some 51), none, (.i (.mov (.tmp 49)))⟩, ⟨(some 52), none, (.i (.idx 1 (.tmp 47) (.tmp 49)))⟩, ⟨(some 53), none, (.i (.ld true 1 (.tmp 52)))⟩, ⟨(some 9), none, (.i (.mov (.tmp 51)))⟩, ⟨(some 10), none, (.i (.mov (.tmp 53)))⟩] false [])
  (.region [⟨(some 54), none, (.i (.mov (.tmp 8)))⟩, ⟨(some 55), none, (.i (.mov (.tmp 10)))⟩, ⟨(some 56), none, (.i (.fld 0 (.tmp 4)))⟩, ⟨(some 57), none, (.i (.ld true 1 (.tmp 56)))⟩, ⟨(some 58), none, (.i (.fld 2 (.tmp 5)))⟩, ⟨(some 59), none, (.i (.ld true 1 (.tmp 58)))⟩, ⟨(some 60), none, (.i (.mov (.tmp 9)))⟩, ⟨(some 61), none, (.i (.idx 1 (.tmp 59) (.tmp 60)))⟩, ⟨(some 62), none, (.i (.ld true 1 (.tmp 61)))⟩, ⟨(some 63), none, (.i (.bin .add (.tmp 57) (.tmp 62)))⟩, ⟨(some 64), none, (.call (.cst (.fn 75 [])) [(.tmp 54), (.tmp 55), (.tmp 63)] [[(some .int)], [], []])⟩] true [])))
  (.region [⟨(some 65), none, (.i (.bin .add (.tmp 49) (.cst (.int .i64 1))))⟩, ⟨(some 49), none, (.i (.mov (.tmp 65)))⟩] false []))))
def m_impl_GlueNetworks : AC :=
  (.seq (.region [⟨(some 4), none, (.i (.box 30 (.tmp 1)))⟩, ⟨(some 5), none, (.i (.box 30 (.tmp 2)))⟩, ⟨(some 6), none, (.i (.alloc 30 [(.int .i64 0), .nils, .nils, .nils]))⟩, ⟨(some 7), none, (.i (.mov (.cst (.bool false))))⟩] false [])
  (.seq (.seq (.region [⟨(some 20), none, (.i (.mov (.tmp 0)))⟩, ⟨(some 21), none, (.i (.ld false 4 (.tmp 4)))⟩, ⟨(some 22), none, (.call (.cst (.fn 44 [])) [(.tmp 20), (.tmp 21)] [[], [none, (some (.pair .int (.pair .int .int))), (some .int), (some .int)]])⟩, ⟨(some 23), none, (.i (.not (.tmp 22)))⟩, ⟨(some 24), none, (.i (.mov (.tmp 23)))⟩, ⟨(some 25), (some (24, false)), (.i (.mov (.tmp 0)))⟩, ⟨(some 26), (some (24, false)), (.i (.ld false 4 (.tmp 5)))⟩, ⟨(some 27), (some (24, false)), (.call (.cst (.fn 44 [])) [(.tmp 25), (.tmp 26)] [[], [none, (some (.pair .int (.pair .int .int))), (some .int), (some .int)]])⟩, ⟨(some 28), (some (24, false)), (.i (.not (.tmp 27)))⟩, ⟨(some 29), none, (.i (.pick (.tmp 24) (.cst (.bool true)) (.tmp 28)))⟩, ⟨(some 30), none, (.i (.mov (.tmp 29)))⟩, ⟨(some 31), (some (30, false)), (.i (.fld 3 (.tmp 4)))⟩, ⟨(some 32), (some (30, false)), (.i (.ld true 1 (.tmp 31)))⟩, ⟨(some 33), (some (30, false)), (.i (.len (.tmp 32)))⟩, ⟨(some 34), (some (30, false)), (.i (.fld 2 (.tmp 5)))⟩, ⟨(some 35), (some (30, false)), (.i (.ld true 1 (.tmp 34)))⟩, ⟨(some 36), (some (30, false)), (.i (.len (.tmp 35)))⟩, ⟨(some 37), (some (30, false)), (.i (.bin .neq (.tmp 33) (.tmp 36)))⟩, ⟨(some 38), none, (.i (.pick (.tmp 30) (.cst (.bool true)) (.tmp 37)))⟩] false [])
  (.cond (.tmp 38)
    (.seq (.region [⟨(some 39), none, (.build [(.int .i64 0), .nils, .nils, .nils] [])⟩, ⟨none, none, (.st false 4 (.tmp 6) (.tmp 39))⟩, ⟨(some 7), none, (.i (.mov (.cst (.bool false))))⟩] false [])
    .ret)
    .skip))
  (.seq (.region [⟨(some 40), none, (.i (.fld 0 (.tmp 4)))⟩, ⟨(some 41), none, (.i (.ld true 1 (.tmp 40)))⟩, ⟨(some 42), none, (.i (.fld 0 (.tmp 5)))⟩, ⟨(some 43), none, (.i (.ld true 1 (.tmp 42)))⟩, ⟨(some 44), none, (.i (.bin .add (.tmp 41) (.tmp 43)))⟩, ⟨(some 45), none, (.call (.cst (.fn 74 [])) [(.tmp 44)] [[]])⟩, ⟨(some 8), none, (.i (.mov (.tmp 45)))⟩] false [])
  (.seq (.seq (.region [⟨(some 46), none, (.i (.fld 3 (.tmp 4)))⟩, ⟨(some 47), none, (.i (.ld true 1 (.tmp 46)))⟩, ⟨(some 48), none, (.i (.len (.tmp 47)))⟩, ⟨(some 49), none, (.i (.mov (.cst (.int .i64 0))))⟩] false [])
  (.block 0 (.loop m_impl_GlueNetworks_l1)))
  (.seq (.region [⟨(some 66), none, (.i (.mov (.tmp 8)))⟩, ⟨(some 67), none, (.i (.len (.tmp 66)))⟩, ⟨(some 68), none, (.call (.cst (.fn 76 [])) [(.tmp 67)] [[]])⟩, ⟨(some 11), none, (.i (.alloc 23 [.nils]))⟩, ⟨none, none, (.st true 1 (.tmp 11) (.tmp 68))⟩, ⟨(some 12), none, (.i (.mov (.cst (.int .i64 0))))⟩] false [])
  (.seq (.seq (.region [⟨(some 69), none, (.i (.ld true 1 (.tmp 11)))⟩, ⟨(some 70), none, (.i (.len (.tmp 69)))⟩, ⟨(some 71), none, (.i (.mov (.cst (.int .i64 0))))⟩] false [])
  (.block 2 (.loop m_impl_GlueNetworks_l2)))
  (.seq (.region [⟨(some 94), none, (.i (.mkfn 78 [(.tmp 11)]))⟩, ⟨(some 15), none, (.i (.mov (.tmp 94)))⟩] false [])
  (.seq (.region [⟨(some 95), none, (.i (.fld 0 (.tmp 4)))⟩, ⟨(some 96), none, (.i (.ld true 1 (.tmp 95)))⟩, ⟨(some 97), none, (.call (.cst (.fn 68 [])) [(.tmp 96)] [[]])⟩, ⟨(some 16), none, (.i (.mov (.tmp 97)))⟩] false [])
  (.seq (.region [⟨(some 98), none, (.i (.mov (.tmp 12)))⟩, ⟨(some 99), none, (.i (.fld 2 (.tmp 4)))⟩, ⟨(some 100), none, (.i (.ld true 1 (.tmp 99)))⟩, ⟨(some 101), none, (.i (.mov (.tmp 15)))⟩, ⟨(some 102), none, (.call (.cst (.fn 72 [])) [(.tmp 100), (.tmp 101)] [[(some .int)], []])⟩, ⟨(some 103), none, (.i (.fld 3 (.tmp 5)))⟩, ⟨(some 104), none, (.i (.ld true 1 (.tmp 103)))⟩, ⟨(some 105), none, (.i (.mov (.tmp 16)))⟩, ⟨(some 106), none, (.call (.cst (.fn 72 [])) [(.tmp 104), (.tmp 105)] [[(some .int)], []])⟩, ⟨(some 107), none, (.i (.mov (.tmp 15)))⟩, ⟨(some 108), none, (.call (.cst (.fn 72 [])) [(.tmp 106), (.tmp 107)] [[(some .int)], []])⟩, ⟨(some 109), none, (.build [(.int .i64 0), .nils, .nils, .nils] [(0, 1, (.tmp 98)), (2, 1, (.tmp 102)), (3, 1, (.tmp 108))])⟩, ⟨(some 17), none, (.i (.alloc 30 [(.int .i64 0), .nils, .nils, .nils]))⟩, ⟨none, none, (.st false 4 (.tmp 17) (.tmp 109))⟩] true [(4, 6), (4, 12), (8, 12), (10, 12)])
  (.seq (.seq (.region [⟨(some 110), none, (.i (.fld 1 (.tmp 4)))⟩, ⟨(some 111), none, (.i (.ld true 1 (.tmp 110)))⟩, ⟨(some 112), none, (.call (.cst (.fn 53 [])) [(.tmp 111)] [[(some (.pair .int (.pair .int .int)))]])⟩, ⟨(some 113), none, (.i (.fld 1 (.tmp 5)))⟩, ⟨(some 114), none, (.i (.ld true 1 (.tmp 113)))⟩, ⟨(some 115), none, (.i (.mov (.tmp 16)))⟩, ⟨(some 116), none, (.call (.cst (.fn 70 [])) [(.tmp 114), (.tmp 115)] [[(some (.pair .int (.pair .int .int)))], []])⟩, ⟨(some 117), none, (.append 59 (.pair .int (.pair .int .int)) 24 (.tmp 112) (.tmp 116))⟩, ⟨(some 118), none, (.i (.mov (.tmp 15)))⟩, ⟨(some 119), none, (.call (.cst (.fn 70 [])) [(.tmp 117), (.tmp 118)] [[(some (.pair .int (.pair .int .int)))], []])⟩, ⟨(some 120), none, (.i (.len (.tmp 119)))⟩, ⟨(some 121), none, (.i (.mov (.cst (.int .i64 0))))⟩] true [(2, 4)])
  (.block 4 (.loop m_impl_GlueNetworks_l3)))
  (.seq (.region [⟨(some 137), none, (.i (.mov (.tmp 0)))⟩, ⟨(some 138), none, (.i (.ld false 4 (.tmp 17)))⟩, ⟨(some 139), none, (.call (.cst (.fn 69 [])) [(.tmp 137), (.tmp 138)] [[], [none, (some (.pair .int (.pair .int .int))), (some .int), (some .int)]])⟩, ⟨(some 140), none, (.i (.extr 0 (.tmp 139)))⟩, ⟨(some 141), none, (.i (.extr 1 (.tmp 139)))⟩, ⟨none, none, (.st false 4 (.tmp 6) (.tmp 140))⟩, ⟨(some 7), none, (.i (.mov (.tmp 141)))⟩] false [])
  .ret)))))))))))
def r_impl_GlueNetworks : List Res := [.cell 6 false 4, .tmp 7]
theorem c_impl_GlueNetworks : compiled Tryd.prog Tryd.f35 = some (m_impl_GlueNetworks, r_impl_GlueNetworks) := by kernel_rfl
theorem hb_impl_GlueNetworks : hasBody Tryd.prog 35 = true := by kernel_rfl
def L_impl_GlueNetworks_l1 (a1_3 : List Int) (a2_2 : List Int) (a1_0 : Int) (l14_m49 : Nat) (l14_m8 : List Int) : Option (Ctl (Nat × List Int) (List Int)) :=
  cond (decide (((l14_m49 : Nat) : Int) < ((a1_3.length : Nat) : Int)))
  (Option.bind (a1_3[l14_m49]?) fun x20 =>
  Option.bind (a2_2[l14_m49]?) fun x21 =>
  Option.bind (L_impl_classes_join l14_m8 x20 (IntKind.i64.wrap (a1_0 + x21))) fun y22 =>
  og (y22.length = l14_m8.length) <|
  og (l14_m49 + 1 < 4611686018427387904) <|
  some (Ctl.next (l14_m49 + 1, y22)))
  (some (Ctl.out l14_m8))
def L_impl_GlueNetworks_l2 (y26 : List Int) (l12_m8 : List Int) (l29_m12 : Nat) (l29_m71 : Nat) (l29_m11_0 : List Int) : Option (Ctl (Nat × Nat × List Int) (Nat × List Int)) :=
  cond (decide (((l29_m71 : Nat) : Int) < ((y26.length : Nat) : Int)))
  (Option.bind (Option.bind (L_impl_classes_root l12_m8 ((l29_m71 : Nat) : Int)) fun y37 =>
    cond (decide (y37 < ((l29_m71 : Nat) : Int)))
      (Option.bind (getI l29_m11_0 y37) fun x41 =>
      Option.bind (l29_m11_0[l29_m71]?) fun x42 =>
      some (l29_m12, l29_m11_0.set l29_m71 x41))
      (Option.bind (l29_m11_0[l29_m71]?) fun x44 =>
      og (l29_m12 + 1 < 4611686018427387904) <|
      some (l29_m12 + 1, l29_m11_0.set l29_m71 ((l29_m12 : Nat) : Int)))) fun (l33_m12, l33_m11_0) =>
  og (l29_m71 + 1 < 4611686018427387904) <|
  some (Ctl.next (l33_m12, l29_m71 + 1, l33_m11_0)))
  (some (Ctl.out (l29_m12, l29_m11_0)))
def L_impl_GlueNetworks_l3 (y59 : List (Int × Int × Int)) (l60_m121 : Nat) (l60_m17_1 : List (Int × Int × Int)) : Option (Ctl (Nat × (List (Int × Int × Int))) (List (Int × Int × Int))) :=
  cond (decide (((l60_m121 : Nat) : Int) < ((y59.length : Nat) : Int)))
  (Option.bind (Option.bind (y59[l60_m121]?) fun x66 =>
    cond (x66.1 != x66.2.1)
      (og (l60_m17_1.length + 1 ≤ 1073741824 ∧ (l60_m17_1.length + 1) * 24 ≤ 140737488355328) <|
      some (l60_m17_1 ++ ([x66])))
      (some l60_m17_1)) fun l64_m17_1 =>
  og (l60_m121 + 1 < 4611686018427387904) <|
  some (Ctl.next (l60_m121 + 1, l64_m17_1)))
  (some (Ctl.out l60_m17_1))
def L_impl_GlueNetworks (a0 : Int) (a1_0 : Int) (a1_1 : List (Int × Int × Int)) (a1_2 : List Int) (a1_3 : List Int) (a2_0 : Int) (a2_1 : List (Int × Int × Int)) (a2_2 : List Int) (a2_3 : List Int) : Option (Int × (List (Int × Int × Int)) × List Int × List Int × Bool) :=
  Option.bind (Option.bind (L_impl_isNetwork a0 a1_0 a1_1 a1_2 a1_3) fun y4 =>
  cond (!y4)
    (some true)
    (Option.bind (L_impl_isNetwork a0 a2_0 a2_1 a2_2 a2_3) fun y6 =>
    cond (!y6)
      (some true)
      (some (((a1_3.length : Nat) : Int) != ((a2_2.length : Nat) : Int))))) fun l3_m38 =>
cond l3_m38
  (some (0, [], [], [], false))
  (Option.bind (L_impl_upTo (IntKind.i64.wrap (a1_0 + a2_0))) fun y11 =>
  Option.bind (loopM (fun s_ : Nat × List Int => L_impl_GlueNetworks_l1 a1_3 a2_2 a1_0 s_.1 s_.2) 4611686018427387904 (0, y11)) fun l12_m8 =>
  Option.bind (L_impl_zeros ((l12_m8.length : Nat) : Int)) fun y26 =>
  Option.bind (loopM (fun s_ : Nat × Nat × List Int => L_impl_GlueNetworks_l2 y26 l12_m8 s_.1 s_.2.1 s_.2.2) 4611686018427387904 (0, 0, y26)) fun (l27_m12, l27_m11_0) =>
  Option.bind (L_impl_shiftedBy a1_0) fun y49 =>
  Option.bind (L_impl_mapList_for_impl_GlueNetworks_1 a1_2 l27_m11_0) fun y51 =>
  Option.bind (L_impl_mapList_for_impl_shiftedBy_1 a2_3 y49) fun y52 =>
  Option.bind (L_impl_mapList_for_impl_GlueNetworks_1 y52 l27_m11_0) fun y53 =>
  Option.bind (Option.bind (L_slices_Clone_impl_Branch_impl_Branch a1_1) fun y56 =>
    Option.bind (L_impl_movedBranches_for_impl_shiftedBy_1 a2_1 y49) fun y57 =>
    og (y56.length + y57.length ≤ 1073741824 ∧ (y56.length + y57.length) * 24 ≤ 140737488355328) <|
    Option.bind (L_impl_movedBranches_for_impl_GlueNetworks_1 (y56 ++ y57) l27_m11_0) fun y59 =>
    loopM (fun s_ : Nat × (List (Int × Int × Int)) => L_impl_GlueNetworks_l3 y59 s_.1 s_.2) 4611686018427387904 (0, [])) fun l54_m17_1 =>
  Option.bind (Option.bind (L_impl_validNetwork a0 ((l27_m12 : Nat) : Int) l54_m17_1 y51 y53) fun y72 =>
    (Sum.elim (fun z72_0 =>
    some (z72_0.2, z72_0.1, [], [], [])) (fun z72_1 =>
    some (z72_1.2, z72_1.1, l54_m17_1, y51, y53))) y72) fun (l71_m7, l71_m6_0, l71_m6_1, l71_m6_2, l71_m6_3) =>
  some (l71_m6_0, l71_m6_1, l71_m6_2, l71_m6_3, l71_m7))
def rv_impl_GlueNetworks (r : Int × (List (Int × Int × Int)) × List Int × List Int × Bool) : RV := ⟨true, [(true, [.sc (.int .i64 r.1), .new 59 (.pair .int (.pair .int .int)) r.2.1, .new 3 .int r.2.2.1, .new 3 .int r.2.2.2.1]), (false, [.sc (.bool r.2.2.2.2)])]⟩
theorem ok_impl_GlueNetworks {a0 : Int} {a1_0 : Int} {a1_1 : List (Int × Int × Int)} {a1_2 : List Int} {a1_3 : List Int} {a2_0 : Int} {a2_1 : List (Int × Int × Int)} {a2_2 : List Int} {a2_3 : List Int} {r : Int × (List (Int × Int × Int)) × List Int × List Int × Bool} (h : L_impl_GlueNetworks a0 a1_0 a1_1 a1_2 a1_3 a2_0 a2_1 a2_2 a2_3 = some r) : CallOK Tryd.prog Tab 35 [(.int .i64 a0), (.agg [(.int .i64 a1_0), (.tree (.pair .int (.pair .int .int)) a1_1), (.tree .int a1_2), (.tree .int a1_3)]), (.agg [(.int .i64 a2_0), (.tree (.pair .int (.pair .int .int)) a2_1), (.tree .int a2_2), (.tree .int a2_3)])] (rv_impl_GlueNetworks r) := by
  refine call_of_ (by kernel_rfl) Tryd.func35 c_impl_GlueNetworks (n := 142) (by kernel_rfl) (by simp) (tl := [(0, (.int .i64 a0)), (1, (.agg [(.int .i64 a1_0), (.tree (.pair .int (.pair .int .int)) a1_1), (.tree .int a1_2), (.tree .int a1_3)])), (2, (.agg [(.int .i64 a2_0), (.tree (.pair .int (.pair .int .int)) a2_1), (.tree .int a2_2), (.tree .int a2_3)]))]) rfl ?_
  unfold m_impl_GlueNetworks
  unfold L_impl_GlueNetworks at h
  refine awp_seq_ ?_
  refine awp_region_ 5 (by kernel_rfl) ?_
  refine rs1 (.box (4, 1) 0) (4, 1) (.cells 30 [(.int .i64 a1_0), (.tree (.pair .int (.pair .int .int)) a1_1), (.tree .int a1_2), (.tree .int a1_3)]) (by kernel_rfl) ?_
  refine rs1 (.box (5, 2) 0) (5, 2) (.cells 30 [(.int .i64 a2_0), (.tree (.pair .int (.pair .int .int)) a2_1), (.tree .int a2_2), (.tree .int a2_3)]) (by kernel_rfl) ?_
  refine rs1 (.box (6, 3) 0) (6, 3) (.cells 30 [(.int .i64 0), .nils, .nils, .nils]) (by kernel_rfl) ?_
  refine rs0 (.bool false) (by kernel_rfl) ?_
  refine rnil (tn_ ?_)
  refine awp_seq_ ?_
  refine awp_seqB h (fun (l3_m38 : Bool) S_ => S_ = ⟨mkTm [(0, (.int .i64 a0)), (4, (.box (0, 1) 0)), (5, (.box (1, 1) 0)), (6, (.box (2, 1) 0)), (38, (.bool l3_m38))], mkOb (someL [((0, 1), .cells 30 [(.int .i64 a1_0), (.tree (.pair .int (.pair .int .int)) a1_1), (.tree .int a1_2), (.tree .int a1_3)]), ((1, 1), .cells 30 [(.int .i64 a2_0), (.tree (.pair .int (.pair .int .int)) a2_1), (.tree .int a2_2), (.tree .int a2_3)]), ((2, 1), .cells 30 [(.int .i64 0), .nils, .nils, .nils])]), 2⟩) ?_ ?_
  · intro v_ h
    obtain ⟨y4, h4, h⟩ := ob_some h
    rcases cond_some h with ⟨q5, h⟩ | ⟨q5, h⟩
    · refine awp_region_ 24 (by kernel_rfl) ?_
      refine rs0 (.int .i64 a0) (by kernel_rfl) ?_
      refine rsl (.agg [(.int .i64 a1_0), (.tree (.pair .int (.pair .int .int)) a1_1), (.tree .int a1_2), (.tree .int a1_3)]) (by kernel_rfl) ?_
      refine rcall (.bool y4) [] [(.int .i64 a0), (.agg [(.int .i64 a1_0), (.tree (.pair .int (.pair .int .int)) a1_1), (.tree .int a1_2), (.tree .int a1_3)])] _ (caps := []) (args0 := [(.int .i64 a0), (.agg [(.int .i64 a1_0), (.tree (.pair .int (.pair .int .int)) a1_1), (.tree .int a1_2), (.tree .int a1_3)])]) trivial (by kernel_rfl) (by kernel_rfl) (by kernel_rfl) (by kernel_rfl) (ok_impl_isNetwork h4) hb_impl_isNetwork (by kernel_rfl) ?_
      refine rs0 (.bool (!y4)) (by kernel_rfl) ?_
      refine rs0 (.bool (!y4)) (by kernel_rfl) ?_
      refine rs0 .any (s_skip (by kernel_rfl) q5) ?_
      refine rs0 .any (s_skip (by kernel_rfl) q5) ?_
      refine rs0 .any (s_skip (by kernel_rfl) q5) ?_
      refine rs0 .any (s_skip (by kernel_rfl) q5) ?_
      refine rs0 (.bool true) (s_pickT (by kernel_rfl) q5) ?_
      refine rs0 (.bool true) (by kernel_rfl) ?_
      refine rs0 .any (by kernel_rfl) ?_
      refine rs0 .any (by kernel_rfl) ?_
      refine rs0 .any (by kernel_rfl) ?_
      refine rs0 .any (by kernel_rfl) ?_
      refine rs0 .any (by kernel_rfl) ?_
      refine rs0 .any (by kernel_rfl) ?_
      refine rs0 .any (by kernel_rfl) ?_
      refine rs0 (.bool true) (by kernel_rfl) ?_
      refine rnil (tn_ ?_)
      obtain rfl := Option.some.inj h
      exact ⟨_, (weak_ren (renF [((0, 1), (4, 1)), ((1, 1), (5, 2)), ((2, 1), (6, 3))]) (by kernel_rfl) (by kernel_rfl) (by kernel_rfl)), rfl⟩
    · obtain ⟨y6, h6, h⟩ := ob_some h
      rcases cond_some h with ⟨q7, h⟩ | ⟨q7, h⟩
      · refine awp_region_ 24 (by kernel_rfl) ?_
        refine rs0 (.int .i64 a0) (by kernel_rfl) ?_
        refine rsl (.agg [(.int .i64 a1_0), (.tree (.pair .int (.pair .int .int)) a1_1), (.tree .int a1_2), (.tree .int a1_3)]) (by kernel_rfl) ?_
        refine rcall (.bool y4) [] [(.int .i64 a0), (.agg [(.int .i64 a1_0), (.tree (.pair .int (.pair .int .int)) a1_1), (.tree .int a1_2), (.tree .int a1_3)])] _ (caps := []) (args0 := [(.int .i64 a0), (.agg [(.int .i64 a1_0), (.tree (.pair .int (.pair .int .int)) a1_1), (.tree .int a1_2), (.tree .int a1_3)])]) trivial (by kernel_rfl) (by kernel_rfl) (by kernel_rfl) (by kernel_rfl) (ok_impl_isNetwork h4) hb_impl_isNetwork (by kernel_rfl) ?_
        refine rs0 (.bool (!y4)) (by kernel_rfl) ?_
        refine rs0 (.bool (!y4)) (by kernel_rfl) ?_
        refine rs0 (.int .i64 a0) (s_gd (by kernel_rfl) q5 (by kernel_rfl)) ?_
        refine rsl (.agg [(.int .i64 a2_0), (.tree (.pair .int (.pair .int .int)) a2_1), (.tree .int a2_2), (.tree .int a2_3)]) (s_gd (by kernel_rfl) q5 (by kernel_rfl)) ?_
        refine rcall (.bool y6) [] [(.int .i64 a0), (.agg [(.int .i64 a2_0), (.tree (.pair .int (.pair .int .int)) a2_1), (.tree .int a2_2), (.tree .int a2_3)])] _ (caps := []) (args0 := [(.int .i64 a0), (.agg [(.int .i64 a2_0), (.tree (.pair .int (.pair .int .int)) a2_1), (.tree .int a2_2), (.tree .int a2_3)])]) (gdOK_b (by kernel_rfl) q5) (by kernel_rfl) (by kernel_rfl) (by kernel_rfl) (by kernel_rfl) (ok_impl_isNetwork h6) hb_impl_isNetwork (by kernel_rfl) ?_
        refine rs0 (.bool (!y6)) (s_gd (by kernel_rfl) q5 (by kernel_rfl)) ?_
        refine rs0 (.bool (!y6)) (s_pickF (by kernel_rfl) q5) ?_
        refine rs0 (.bool (!y6)) (by kernel_rfl) ?_
        refine rs0 .any (s_skip (by kernel_rfl) q7) ?_
        refine rs0 .any (s_skip (by kernel_rfl) q7) ?_
        refine rs0 .any (s_skip (by kernel_rfl) q7) ?_
        refine rs0 .any (s_skip (by kernel_rfl) q7) ?_
        refine rs0 .any (s_skip (by kernel_rfl) q7) ?_
        refine rs0 .any (s_skip (by kernel_rfl) q7) ?_
        refine rs0 .any (s_skip (by kernel_rfl) q7) ?_
        refine rs0 (.bool true) (s_pickT (by kernel_rfl) q7) ?_
        refine rnil (tn_ ?_)
        obtain rfl := Option.some.inj h
        exact ⟨_, (weak_ren (renF [((0, 1), (4, 1)), ((1, 1), (5, 2)), ((2, 1), (6, 3))]) (by kernel_rfl) (by kernel_rfl) (by kernel_rfl)), rfl⟩
      · refine awp_region_ 24 (by kernel_rfl) ?_
        refine rs0 (.int .i64 a0) (by kernel_rfl) ?_
        refine rsl (.agg [(.int .i64 a1_0), (.tree (.pair .int (.pair .int .int)) a1_1), (.tree .int a1_2), (.tree .int a1_3)]) (by kernel_rfl) ?_
        refine rcall (.bool y4) [] [(.int .i64 a0), (.agg [(.int .i64 a1_0), (.tree (.pair .int (.pair .int .int)) a1_1), (.tree .int a1_2), (.tree .int a1_3)])] _ (caps := []) (args0 := [(.int .i64 a0), (.agg [(.int .i64 a1_0), (.tree (.pair .int (.pair .int .int)) a1_1), (.tree .int a1_2), (.tree .int a1_3)])]) trivial (by kernel_rfl) (by kernel_rfl) (by kernel_rfl) (by kernel_rfl) (ok_impl_isNetwork h4) hb_impl_isNetwork (by kernel_rfl) ?_
        refine rs0 (.bool (!y4)) (by kernel_rfl) ?_
        refine rs0 (.bool (!y4)) (by kernel_rfl) ?_
        refine rs0 (.int .i64 a0) (s_gd (by kernel_rfl) q5 (by kernel_rfl)) ?_
        refine rsl (.agg [(.int .i64 a2_0), (.tree (.pair .int (.pair .int .int)) a2_1), (.tree .int a2_2), (.tree .int a2_3)]) (s_gd (by kernel_rfl) q5 (by kernel_rfl)) ?_
        refine rcall (.bool y6) [] [(.int .i64 a0), (.agg [(.int .i64 a2_0), (.tree (.pair .int (.pair .int .int)) a2_1), (.tree .int a2_2), (.tree .int a2_3)])] _ (caps := []) (args0 := [(.int .i64 a0), (.agg [(.int .i64 a2_0), (.tree (.pair .int (.pair .int .int)) a2_1), (.tree .int a2_2), (.tree .int a2_3)])]) (gdOK_b (by kernel_rfl) q5) (by kernel_rfl) (by kernel_rfl) (by kernel_rfl) (by kernel_rfl) (ok_impl_isNetwork h6) hb_impl_isNetwork (by kernel_rfl) ?_
        refine rs0 (.bool (!y6)) (s_gd (by kernel_rfl) q5 (by kernel_rfl)) ?_
        refine rs0 (.bool (!y6)) (s_pickF (by kernel_rfl) q5) ?_
        refine rs0 (.bool (!y6)) (by kernel_rfl) ?_
        refine rs0 (.box (4, 1) 3) (s_gd (by kernel_rfl) q7 (by kernel_rfl)) ?_
        refine rsl (.tree .int a1_3) (s_gd (by kernel_rfl) q7 (by kernel_rfl)) ?_
        refine rs0 (.int .i64 ((a1_3.length : Nat) : Int)) (s_gd (by kernel_rfl) q7 (by kernel_rfl)) ?_
        refine rs0 (.box (5, 2) 2) (s_gd (by kernel_rfl) q7 (by kernel_rfl)) ?_
        refine rsl (.tree .int a2_2) (s_gd (by kernel_rfl) q7 (by kernel_rfl)) ?_
        refine rs0 (.int .i64 ((a2_2.length : Nat) : Int)) (s_gd (by kernel_rfl) q7 (by kernel_rfl)) ?_
        refine rs0 (.bool (((a1_3.length : Nat) : Int) != ((a2_2.length : Nat) : Int))) (s_gd (by kernel_rfl) q7 (by kernel_rfl)) ?_
        refine rs0 (.bool (((a1_3.length : Nat) : Int) != ((a2_2.length : Nat) : Int))) (s_pickF (by kernel_rfl) q7) ?_
        refine rnil (tn_ ?_)
        obtain rfl := Option.some.inj h
        exact ⟨_, (weak_ren (renF [((0, 1), (4, 1)), ((1, 1), (5, 2)), ((2, 1), (6, 3))]) (by kernel_rfl) (by kernel_rfl) (by kernel_rfl)), rfl⟩
  · rintro l3_m38 _ rfl h
    (try dsimp only at h)
    rcases cond_some h with ⟨q8, h⟩ | ⟨q8, h⟩
    · refine awp_condT_ q8 (by kernel_rfl) ?_
      refine awp_seq_ ?_
      refine awp_region_ 5 (by kernel_rfl) ?_
      refine rs0 (.agg [(.int .i64 0), .nils, .nils, .nils]) (by kernel_rfl) ?_
      refine rsn2 (2, 1) (2, 1) (.cells 30 [(.int .i64 0), .nils, .nils, .nils]) (by kernel_rfl) ?_
      refine rs0 (.bool false) (by kernel_rfl) ?_
      refine rnil (tn_ ?_)
      refine awp_ret_ (tr_ ?_)
      obtain rfl := Option.some.inj h
      exact ret_ [(.agg [(.int .i64 0), .nils, .nils, .nils]), (.bool false)] (by simp) (by kernel_rfl) (p_agg (l_cons (l_sc (by kernel_rfl)) (l_cons (l_nils rfl) (l_cons (l_nils rfl) (l_cons (l_nils rfl) l_nil)))) (p_one rfl (l_sc (by kernel_rfl)) p_nil)) (by kernel_rfl) (by kernel_rfl)
    · refine awp_condF_ q8 (by kernel_rfl) ?_
      refine awp_skip_ (tn_ ?_)
      refine awp_seq_ ?_
      obtain ⟨y11, h11, h⟩ := ob_some h
      refine awp_region_ 9 (by kernel_rfl) ?_
      refine rs0 (.box (0, 1) 0) (by kernel_rfl) ?_
      refine rsl (.int .i64 a1_0) (by kernel_rfl) ?_
      refine rs0 (.box (1, 1) 0) (by kernel_rfl) ?_
      refine rsl (.int .i64 a2_0) (by kernel_rfl) ?_
      refine rs0 (.int .i64 (IntKind.i64.wrap (a1_0 + a2_0))) (by kernel_rfl) ?_
      refine rcall (.own (720, 7) .int 0 y11.length) [((720, 7), some (.arr 3 .int y11))] [(.int .i64 (IntKind.i64.wrap (a1_0 + a2_0)))] _ (caps := []) (args0 := [(.int .i64 (IntKind.i64.wrap (a1_0 + a2_0)))]) trivial (by kernel_rfl) (by kernel_rfl) (by kernel_rfl) (by kernel_rfl) (ok_impl_upTo h11) hb_impl_upTo (by kernel_rfl) ?_
      refine rs0 (.own (720, 7) .int 0 y11.length) (by kernel_rfl) ?_
      refine rnil (tn_ ?_)
      refine awp_seqB h (fun (l12_m8 : List Int) S_ => S_ = ⟨mkTm [(0, (.int .i64 a0)), (4, (.box (0, 1) 0)), (5, (.box (1, 1) 0)), (6, (.box (2, 1) 0)), (8, (.own (3, 1) .int 0 l12_m8.length))], mkOb (someL [((0, 1), .cells 30 [(.int .i64 a1_0), (.tree (.pair .int (.pair .int .int)) a1_1), (.tree .int a1_2), (.tree .int a1_3)]), ((1, 1), .cells 30 [(.int .i64 a2_0), (.tree (.pair .int (.pair .int .int)) a2_1), (.tree .int a2_2), (.tree .int a2_3)]), ((2, 1), .cells 30 [(.int .i64 0), .nils, .nils, .nils]), ((3, 1), .arr 3 .int l12_m8)]), 2⟩) ?_ ?_
      · intro v_ h
        refine awp_seq_ ?_
        refine awp_region_ 13 (by kernel_rfl) ?_
        refine rs0 (.box (0, 1) 3) (by kernel_rfl) ?_
        refine rsl (.tree .int a1_3) (by kernel_rfl) ?_
        refine rs0 (.int .i64 ((a1_3.length : Nat) : Int)) (by kernel_rfl) ?_
        refine rs0 (.int .i64 0) (by kernel_rfl) ?_
        refine rnil (tn_ ?_)
        refine awp_block_ ?_
        refine awp_loopL h (fun t_ S_ => ∃ (l14_m49 : Nat), ∃ (l14_m8 : List Int), t_ = (l14_m49, l14_m8) ∧ S_ = ⟨mkTm [(0, (.int .i64 a0)), (4, (.box (0, 1) 0)), (5, (.box (1, 1) 0)), (6, (.box (2, 1) 0)), (8, (.own (3, 1) .int 0 l14_m8.length)), (47, (.tree .int a1_3)), (48, (.int .i64 ((a1_3.length : Nat) : Int))), (49, (.int .i64 ((l14_m49 : Nat) : Int)))], mkOb (someL [((0, 1), .cells 30 [(.int .i64 a1_0), (.tree (.pair .int (.pair .int .int)) a1_1), (.tree .int a1_2), (.tree .int a1_3)]), ((1, 1), .cells 30 [(.int .i64 a2_0), (.tree (.pair .int (.pair .int .int)) a2_1), (.tree .int a2_2), (.tree .int a2_3)]), ((2, 1), .cells 30 [(.int .i64 0), .nils, .nils, .nils]), ((3, 1), .arr 3 .int l14_m8)]), 2⟩) ⟨_, (weak_ren (renF [((3, 1), (720, 7))]) (by kernel_rfl) (by kernel_rfl) (by kernel_rfl)), ⟨0, y11, rfl, rfl⟩⟩ ?_
        · rintro n_ _ _ c_ ⟨l14_m49, l14_m8, rfl, rfl⟩ h hn14
          (try dsimp only at h)
          unfold L_impl_GlueNetworks_l1 at h
          unfold m_impl_GlueNetworks_l1
          refine awp_seq_ ?_
          refine awp_region_ 3 (by kernel_rfl) ?_
          refine rs0 (.bool (decide (((l14_m49 : Nat) : Int) < ((a1_3.length : Nat) : Int)))) (by kernel_rfl) ?_
          refine rnil (tn_ ?_)
          refine awp_seq_ ?_
          rcases cond_some h with ⟨q17, h⟩ | ⟨q17, h⟩
          · have q17_ := of_decide_eq_true q17
            refine awp_condT_ q17 (by kernel_rfl) ?_
            refine awp_skip_ (tn_ ?_)
            refine awp_seq_ ?_
            refine awp_block_ ?_
            refine awp_seq_ ?_
            obtain ⟨x20, e20, h⟩ := ob_some h
            refine awp_region_ 8 (by kernel_rfl) ?_
            refine rs0 (.int .i64 ((l14_m49 : Nat) : Int)) (by kernel_rfl) ?_
            refine rs0 (.telt .int x20 0) (s_idxT (t := .int) (xs := a1_3) (k := .i64) (m := ((l14_m49 : Nat) : Int)) (by kernel_rfl) (by kernel_rfl) rfl (nat_nn _) rfl e20) ?_
            refine rs0 (.int .i64 x20) (by kernel_rfl) ?_
            refine rs0 (.int .i64 ((l14_m49 : Nat) : Int)) (by kernel_rfl) ?_
            refine rs0 (.int .i64 x20) (by kernel_rfl) ?_
            refine rnil (tn_ ?_)
            obtain ⟨x21, e21, h⟩ := ob_some h
            obtain ⟨y22, h22, h⟩ := ob_some h
            obtain ⟨g23, h⟩ := og_some h
            refine awp_regionD_ 19 (by kernel_rfl) ?_
            refine ds0 (.own (3, 1) .int 0 l14_m8.length) (by kernel_rfl) ?_
            refine ds0 (.int .i64 x20) (by kernel_rfl) ?_
            refine ds0 (.box (0, 1) 0) (by kernel_rfl) ?_
            refine dsl (.int .i64 a1_0) (by kernel_rfl) ?_
            refine ds0 (.box (1, 1) 2) (by kernel_rfl) ?_
            refine dsl (.tree .int a2_2) (by kernel_rfl) ?_
            refine ds0 (.int .i64 ((l14_m49 : Nat) : Int)) (by kernel_rfl) ?_
            refine ds0 (.telt .int x21 0) (s_idxT (t := .int) (xs := a2_2) (k := .i64) (m := ((l14_m49 : Nat) : Int)) (by kernel_rfl) (by kernel_rfl) rfl (nat_nn _) rfl e21) ?_
            refine ds0 (.int .i64 x21) (by kernel_rfl) ?_
            refine ds0 (.int .i64 (IntKind.i64.wrap (a1_0 + x21))) (by kernel_rfl) ?_
            refine dcallM (.tup []) [((0, 0), (3, 1))] [(.own (3, 1) .int 0 l14_m8.length), (.int .i64 x20), (.int .i64 (IntKind.i64.wrap (a1_0 + x21)))] (caps := []) trivial (by kernel_rfl) (by kernel_rfl) (ok_impl_classes_join h22 rfl) (by kernel_rfl) (by kernel_rfl) (by kernel_rfl) (by kernel_rfl) (by kernel_rfl) hb_impl_classes_join ?_
            refine dnil (by kernel_rfl) (bn_ (tn_ ?_))
            obtain ⟨g24, h⟩ := og_some h
            refine awp_region_ 21 (by kernel_rfl) ?_
            refine rs0 (.int .i64 ((l14_m49 + 1 : Nat) : Int)) (s_add1 (j := l14_m49) (by kernel_rfl) (by kernel_rfl) g24) ?_
            refine rs0 (.int .i64 ((l14_m49 + 1 : Nat) : Int)) (by kernel_rfl) ?_
            refine rnil (tn_ ?_)
            obtain rfl := Option.some.inj h
            exact ⟨(l14_m49 + 1, y22), _, ((weak_tm_ 8 (.own (3, 1) .int 0 l14_m8.length) (.own (3, 1) .int 0 y22.length) (by kernel_rfl) (congrArg (fun z_ => ((.own (3, 1) .int 0 z_) : AV)) (g23.symm : l14_m8.length = y22.length))).trans (weak_ren (renF []) (by kernel_rfl) (by kernel_rfl) (by kernel_rfl))), ⟨l14_m49 + 1, y22, rfl, rfl⟩, hn14⟩
          · have q17_ := of_decide_eq_false q17
            refine awp_condF_ q17 (by kernel_rfl) ?_
            refine awp_exit_ (te_ (te_ (be_ (tn_ ?_))))
            obtain rfl := Option.some.inj h
            have h := hn14
            (try dsimp only at h)
            obtain rfl := Option.some.inj h
            exact ⟨_, (weak_ren (renF []) (by kernel_rfl) (by kernel_rfl) (by kernel_rfl)), rfl⟩
      · rintro l12_m8 _ rfl h
        (try dsimp only at h)
        refine awp_seq_ ?_
        obtain ⟨y26, h26, h⟩ := ob_some h
        refine awp_region_ 8 (by kernel_rfl) ?_
        refine rs0 (.own (3, 1) .int 0 l12_m8.length) (by kernel_rfl) ?_
        refine rs0 (.int .i64 ((l12_m8.length : Nat) : Int)) (by kernel_rfl) ?_
        refine rcall (.own (1088, 4) .int 0 y26.length) [((1088, 4), some (.arr 3 .int y26))] [(.int .i64 ((l12_m8.length : Nat) : Int))] _ (caps := []) (args0 := [(.int .i64 ((l12_m8.length : Nat) : Int))]) trivial (by kernel_rfl) (by kernel_rfl) (by kernel_rfl) (by kernel_rfl) (ok_impl_zeros h26) hb_impl_zeros (by kernel_rfl) ?_
        refine rs1 (.box (11, 5) 0) (11, 5) (.cells 23 [.nils]) (by kernel_rfl) ?_
        refine rsn2 (11, 5) (11, 5) (.cells 23 [(.own (1088, 4) .int 0 y26.length)]) (by kernel_rfl) ?_
        refine rs0 (.int .i64 0) (by kernel_rfl) ?_
        refine rnil (tn_ ?_)
        refine awp_seqB h (fun t_ S_ => ∃ (l27_m12 : Nat), ∃ (l27_m11_0 : List Int), t_ = (l27_m12, l27_m11_0) ∧ S_ = ⟨mkTm [(0, (.int .i64 a0)), (4, (.box (0, 1) 0)), (5, (.box (1, 1) 0)), (6, (.box (2, 1) 0)), (11, (.box (3, 1) 0)), (12, (.int .i64 ((l27_m12 : Nat) : Int)))], mkOb (someL [((0, 1), .cells 30 [(.int .i64 a1_0), (.tree (.pair .int (.pair .int .int)) a1_1), (.tree .int a1_2), (.tree .int a1_3)]), ((1, 1), .cells 30 [(.int .i64 a2_0), (.tree (.pair .int (.pair .int .int)) a2_1), (.tree .int a2_2), (.tree .int a2_3)]), ((2, 1), .cells 30 [(.int .i64 0), .nils, .nils, .nils]), ((3, 1), .cells 23 [(.own (4, 1) .int 0 l27_m11_0.length)]), ((4, 1), .arr 3 .int l27_m11_0)]), 2⟩) ?_ ?_
        · intro v_ h
          refine awp_seq_ ?_
          refine awp_region_ 11 (by kernel_rfl) ?_
          refine rsl (.own (1088, 4) .int 0 y26.length) (by kernel_rfl) ?_
          refine rs0 (.int .i64 ((y26.length : Nat) : Int)) (by kernel_rfl) ?_
          refine rs0 (.int .i64 0) (by kernel_rfl) ?_
          refine rnil (tn_ ?_)
          refine awp_block_ ?_
          refine awp_loopL h (fun t_ S_ => ∃ (l29_m12 : Nat), ∃ (l29_m71 : Nat), ∃ (l29_m11_0 : List Int), t_ = (l29_m12, l29_m71, l29_m11_0) ∧ S_ = ⟨mkTm [(0, (.int .i64 a0)), (4, (.box (0, 1) 0)), (5, (.box (1, 1) 0)), (6, (.box (2, 1) 0)), (8, (.own (3, 1) .int 0 l12_m8.length)), (11, (.box (4, 1) 0)), (12, (.int .i64 ((l29_m12 : Nat) : Int))), (70, (.int .i64 ((y26.length : Nat) : Int))), (71, (.int .i64 ((l29_m71 : Nat) : Int)))], mkOb (someL [((0, 1), .cells 30 [(.int .i64 a1_0), (.tree (.pair .int (.pair .int .int)) a1_1), (.tree .int a1_2), (.tree .int a1_3)]), ((1, 1), .cells 30 [(.int .i64 a2_0), (.tree (.pair .int (.pair .int .int)) a2_1), (.tree .int a2_2), (.tree .int a2_3)]), ((2, 1), .cells 30 [(.int .i64 0), .nils, .nils, .nils]), ((3, 1), .arr 3 .int l12_m8), ((4, 1), .cells 23 [(.own (5, 1) .int 0 l29_m11_0.length)]), ((5, 1), .arr 3 .int l29_m11_0)]), 2⟩) ⟨_, (weak_ren (renF [((4, 1), (11, 5)), ((5, 1), (1088, 4))]) (by kernel_rfl) (by kernel_rfl) (by kernel_rfl)), ⟨0, 0, y26, rfl, rfl⟩⟩ ?_
          · rintro n_ _ _ c_ ⟨l29_m12, l29_m71, l29_m11_0, rfl, rfl⟩ h hn29
            (try dsimp only at h)
            unfold L_impl_GlueNetworks_l2 at h
            unfold m_impl_GlueNetworks_l2
            refine awp_seq_ ?_
            refine awp_region_ 3 (by kernel_rfl) ?_
            refine rs0 (.bool (decide (((l29_m71 : Nat) : Int) < ((y26.length : Nat) : Int)))) (by kernel_rfl) ?_
            refine rnil (tn_ ?_)
            refine awp_seq_ ?_
            rcases cond_some h with ⟨q32, h⟩ | ⟨q32, h⟩
            · have q32_ := of_decide_eq_true q32
              refine awp_condT_ q32 (by kernel_rfl) ?_
              refine awp_skip_ (tn_ ?_)
              refine awp_seqB h (fun t_ S_ => ∃ (l33_m12 : Nat), ∃ (l33_m11_0 : List Int), t_ = (l33_m12, l33_m11_0) ∧ S_ = ⟨mkTm [(0, (.int .i64 a0)), (4, (.box (0, 1) 0)), (5, (.box (1, 1) 0)), (6, (.box (2, 1) 0)), (8, (.own (3, 1) .int 0 l12_m8.length)), (11, (.box (4, 1) 0)), (12, (.int .i64 ((l33_m12 : Nat) : Int))), (70, (.int .i64 ((y26.length : Nat) : Int))), (71, (.int .i64 ((l29_m71 : Nat) : Int)))], mkOb (someL [((0, 1), .cells 30 [(.int .i64 a1_0), (.tree (.pair .int (.pair .int .int)) a1_1), (.tree .int a1_2), (.tree .int a1_3)]), ((1, 1), .cells 30 [(.int .i64 a2_0), (.tree (.pair .int (.pair .int .int)) a2_1), (.tree .int a2_2), (.tree .int a2_3)]), ((2, 1), .cells 30 [(.int .i64 0), .nils, .nils, .nils]), ((3, 1), .arr 3 .int l12_m8), ((4, 1), .cells 23 [(.own (5, 1) .int 0 l33_m11_0.length)]), ((5, 1), .arr 3 .int l33_m11_0)]), 2⟩) ?_ ?_
              · intro v_ h
                refine awp_block_ ?_
                refine awp_seq_ ?_
                refine awp_region_ 5 (by kernel_rfl) ?_
                refine rs0 (.int .i64 ((l29_m71 : Nat) : Int)) (by kernel_rfl) ?_
                refine rs0 (.int .i64 ((l29_m71 : Nat) : Int)) (by kernel_rfl) ?_
                refine rnil (tn_ ?_)
                refine awp_seq_ ?_
                refine awp_seq_ ?_
                obtain ⟨y37, h37, h⟩ := ob_some h
                refine awp_region_ 9 (by kernel_rfl) ?_
                refine rs0 (.own (3, 1) .int 0 l12_m8.length) (by kernel_rfl) ?_
                refine rs0 (.int .i64 ((l29_m71 : Nat) : Int)) (by kernel_rfl) ?_
                refine rcall (.int .i64 y37) [] [(.own (3, 1) .int 0 l12_m8.length), (.int .i64 ((l29_m71 : Nat) : Int))] _ (caps := []) (args0 := [(.tree .int l12_m8), (.int .i64 ((l29_m71 : Nat) : Int))]) trivial (by kernel_rfl) (by kernel_rfl) (gm_cons (gd_own (e := 3) (by kernel_rfl) rfl) (gm_cons (by kernel_rfl) gm_nil)) (by kernel_rfl) (ok_impl_classes_root h37) hb_impl_classes_root (by kernel_rfl) ?_
                refine rs0 (.int .i64 y37) (by kernel_rfl) ?_
                refine rnil (tn_ ?_)
                refine awp_seq_ ?_
                refine awp_region_ 12 (by kernel_rfl) ?_
                refine rs0 (.int .i64 y37) (by kernel_rfl) ?_
                refine rs0 (.int .i64 ((l29_m71 : Nat) : Int)) (by kernel_rfl) ?_
                refine rs0 (.bool (decide (y37 < ((l29_m71 : Nat) : Int)))) (by kernel_rfl) ?_
                refine rnil (tn_ ?_)
                rcases cond_some h with ⟨q39, h⟩ | ⟨q39, h⟩
                · have q39_ := of_decide_eq_true q39
                  refine awp_condT_ q39 (by kernel_rfl) ?_
                  refine awp_seq_ ?_
                  obtain ⟨x41, f41, h⟩ := ob_some h
                  obtain ⟨p41, b41, e41⟩ := getI_some f41
                  obtain ⟨x42, e42, h⟩ := ob_some h
                  refine awp_regionD_ 20 (by kernel_rfl) ?_
                  refine dsl (.own (5, 1) .int 0 l29_m11_0.length) (by kernel_rfl) ?_
                  refine ds0 (.int .i64 ((l29_m71 : Nat) : Int)) (by kernel_rfl) ?_
                  refine dsl (.own (5, 1) .int 0 l29_m11_0.length) (by kernel_rfl) ?_
                  refine ds0 (.int .i64 y37) (by kernel_rfl) ?_
                  refine ds0 (.elt (5, 1) y37.toNat 0) (s_idxO (t := .int) (o := (5, 1)) (len := l29_m11_0.length) (k := .i64) (m := y37) (by kernel_rfl) (by kernel_rfl) rfl p41 rfl (getN_lt e41)) ?_
                  refine dsl (.int .i64 x41) (s_ldE (i := (5, 1)) (j := y37.toNat) (k := 0) (e := 3) (t := .int) (xs := l29_m11_0) (by kernel_rfl) (by kernel_rfl) e41 (by kernel_rfl)) ?_
                  refine ds0 (.elt (5, 1) l29_m71 0) (s_idxO (t := .int) (o := (5, 1)) (len := l29_m11_0.length) (k := .i64) (m := ((l29_m71 : Nat) : Int)) (by kernel_rfl) (by kernel_rfl) rfl (nat_nn _) rfl (getN_lt e42)) ?_
                  refine dsn2 (5, 1) (5, 1) (.arr 3 .int (l29_m11_0.set l29_m71 x41)) (s_stE (i := (5, 1)) (j := l29_m71) (k := 0) (e := 3) (t := .int) (xs := l29_m11_0) (cs := [(.int .i64 x41)]) (x1 := x41) (by kernel_rfl) (by kernel_rfl) e42 (by kernel_rfl) (by kernel_rfl)) ?_
                  refine dnil (by kernel_rfl) (tn_ ?_)
                  refine awp_exit_ (te_ (be_ (tn_ ?_)))
                  obtain rfl := Option.some.inj h
                  exact ⟨_, ((weak_ob_ (4, 1) (.cells 23 [(.own (5, 1) .int 0 l29_m11_0.length)]) (.cells 23 [(.own (5, 1) .int 0 ((l29_m11_0.set l29_m71 x41).length))]) (by kernel_rfl) (congrArg (fun z_ => (.cells 23 [(.own (5, 1) .int 0 z_)] : Ob)) (((rfl : l29_m11_0.length = l29_m11_0.length).trans List.length_set.symm) : l29_m11_0.length = (l29_m11_0.set l29_m71 x41).length))).trans (weak_ren (renF []) (by kernel_rfl) (by kernel_rfl) (by kernel_rfl))), ⟨l29_m12, l29_m11_0.set l29_m71 x41, rfl, rfl⟩⟩
                · have q39_ := of_decide_eq_false q39
                  refine awp_condF_ q39 (by kernel_rfl) ?_
                  refine awp_skip_ (tn_ ?_)
                  refine awp_seq_ ?_
                  obtain ⟨x44, e44, h⟩ := ob_some h
                  refine awp_region_ 17 (by kernel_rfl) ?_
                  refine rsl (.own (5, 1) .int 0 l29_m11_0.length) (by kernel_rfl) ?_
                  refine rs0 (.int .i64 ((l29_m71 : Nat) : Int)) (by kernel_rfl) ?_
                  refine rs0 (.int .i64 ((l29_m12 : Nat) : Int)) (by kernel_rfl) ?_
                  refine rs0 (.elt (5, 1) l29_m71 0) (s_idxO (t := .int) (o := (5, 1)) (len := l29_m11_0.length) (k := .i64) (m := ((l29_m71 : Nat) : Int)) (by kernel_rfl) (by kernel_rfl) rfl (nat_nn _) rfl (getN_lt e44)) ?_
                  refine rsn2 (5, 1) (5, 1) (.arr 3 .int (l29_m11_0.set l29_m71 ((l29_m12 : Nat) : Int))) (s_stE (i := (5, 1)) (j := l29_m71) (k := 0) (e := 3) (t := .int) (xs := l29_m11_0) (cs := [(.int .i64 ((l29_m12 : Nat) : Int))]) (x1 := ((l29_m12 : Nat) : Int)) (by kernel_rfl) (by kernel_rfl) e44 (by kernel_rfl) (by kernel_rfl)) ?_
                  refine rnil (tn_ ?_)
                  obtain ⟨g45, h⟩ := og_some h
                  refine awp_region_ 20 (by kernel_rfl) ?_
                  refine rs0 (.int .i64 ((l29_m12 : Nat) : Int)) (by kernel_rfl) ?_
                  refine rs0 (.int .i64 ((l29_m12 + 1 : Nat) : Int)) (s_add1 (j := l29_m12) (by kernel_rfl) (by kernel_rfl) g45) ?_
                  refine rs0 (.int .i64 ((l29_m12 + 1 : Nat) : Int)) (by kernel_rfl) ?_
                  refine rnil (bn_ (tn_ ?_))
                  obtain rfl := Option.some.inj h
                  exact ⟨_, ((weak_ob_ (4, 1) (.cells 23 [(.own (5, 1) .int 0 l29_m11_0.length)]) (.cells 23 [(.own (5, 1) .int 0 ((l29_m11_0.set l29_m71 ((l29_m12 : Nat) : Int)).length))]) (by kernel_rfl) (congrArg (fun z_ => (.cells 23 [(.own (5, 1) .int 0 z_)] : Ob)) (((rfl : l29_m11_0.length = l29_m11_0.length).trans List.length_set.symm) : l29_m11_0.length = (l29_m11_0.set l29_m71 ((l29_m12 : Nat) : Int)).length))).trans (weak_ren (renF []) (by kernel_rfl) (by kernel_rfl) (by kernel_rfl))), ⟨l29_m12 + 1, l29_m11_0.set l29_m71 ((l29_m12 : Nat) : Int), rfl, rfl⟩⟩
              · rintro _ _ ⟨l33_m12, l33_m11_0, rfl, rfl⟩ h
                (try dsimp only at h)
                obtain ⟨g46, h⟩ := og_some h
                refine awp_region_ 4 (by kernel_rfl) ?_
                refine rs0 (.int .i64 ((l29_m71 + 1 : Nat) : Int)) (s_add1 (j := l29_m71) (by kernel_rfl) (by kernel_rfl) g46) ?_
                refine rs0 (.int .i64 ((l29_m71 + 1 : Nat) : Int)) (by kernel_rfl) ?_
                refine rnil (tn_ ?_)
                obtain rfl := Option.some.inj h
                exact ⟨(l33_m12, l29_m71 + 1, l33_m11_0), _, (weak_ren (renF []) (by kernel_rfl) (by kernel_rfl) (by kernel_rfl)), ⟨l33_m12, l29_m71 + 1, l33_m11_0, rfl, rfl⟩, hn29⟩
            · have q32_ := of_decide_eq_false q32
              refine awp_condF_ q32 (by kernel_rfl) ?_
              refine awp_exit_ (te_ (te_ (be_ (tn_ ?_))))
              obtain rfl := Option.some.inj h
              have h := hn29
              (try dsimp only at h)
              obtain rfl := Option.some.inj h
              exact ⟨_, (weak_ren (renF [((3, 1), (4, 1)), ((4, 1), (5, 1))]) (by kernel_rfl) (by kernel_rfl) (by kernel_rfl)), ⟨l29_m12, l29_m11_0, rfl, rfl⟩⟩
        · rintro _ _ ⟨l27_m12, l27_m11_0, rfl, rfl⟩ h
          (try dsimp only at h)
          refine awp_seq_ ?_
          refine awp_region_ 4 (by kernel_rfl) ?_
          refine rs0 (.fn 78 [(.box (3, 1) 0)]) (by kernel_rfl) ?_
          refine rs0 (.fn 78 [(.box (3, 1) 0)]) (by kernel_rfl) ?_
          refine rnil (tn_ ?_)
          refine awp_seq_ ?_
          obtain ⟨y49, h49, h⟩ := ob_some h
          refine awp_region_ 8 (by kernel_rfl) ?_
          refine rs0 (.box (0, 1) 0) (by kernel_rfl) ?_
          refine rsl (.int .i64 a1_0) (by kernel_rfl) ?_
          refine rcall (.fn 101 [(.ref [(.int .i64 y49)])]) [] [(.int .i64 a1_0)] _ (caps := []) (args0 := [(.int .i64 a1_0)]) trivial (by kernel_rfl) (by kernel_rfl) (by kernel_rfl) (by kernel_rfl) (ok_impl_shiftedBy h49) hb_impl_shiftedBy (by kernel_rfl) ?_
          refine rs0 (.fn 101 [(.ref [(.int .i64 y49)])]) (by kernel_rfl) ?_
          refine rnil (tn_ ?_)
          refine awp_seq_ ?_
          obtain ⟨y51, h51, h⟩ := ob_some h
          obtain ⟨y52, h52, h⟩ := ob_some h
          obtain ⟨y53, h53, h⟩ := ob_some h
          refine awp_regionD_ 22 (by kernel_rfl) ?_
          refine ds0 (.int .i64 ((l27_m12 : Nat) : Int)) (by kernel_rfl) ?_
          refine ds0 (.box (0, 1) 2) (by kernel_rfl) ?_
          refine dsl (.tree .int a1_2) (by kernel_rfl) ?_
          refine ds0 (.fn 78 [(.box (3, 1) 0)]) (by kernel_rfl) ?_
          refine dcall (.own (1632, 12) .int 0 y51.length) [((1632, 12), some (.arr 3 .int y51))] [(.tree .int a1_2), (.fn 78 [(.box (3, 1) 0)])] _ (caps := []) (args0 := [(.tree .int a1_2), (.fn 78 [(.ref [(.tree .int l27_m11_0)])])]) trivial (by kernel_rfl) (by kernel_rfl) (gm_cons (by kernel_rfl) (gm_cons (gd_fn (gm_cons (gd_box (ty := 23) (cs := [(.own (4, 1) .int 0 l27_m11_0.length)]) (es := [(.own (4, 1) .int 0 l27_m11_0.length)]) (by kernel_rfl) (by kernel_rfl) (gm_cons (gd_own (e := 3) (by kernel_rfl) rfl) gm_nil)) gm_nil)) gm_nil)) (by kernel_rfl) (ok_impl_mapList_for_impl_GlueNetworks_1 h51) hb_impl_mapList (by kernel_rfl) ?_
          refine ds0 (.box (1, 1) 3) (by kernel_rfl) ?_
          refine dsl (.tree .int a2_3) (by kernel_rfl) ?_
          refine ds0 (.fn 101 [(.ref [(.int .i64 y49)])]) (by kernel_rfl) ?_
          refine dcall (.own (1696, 16) .int 0 y52.length) [((1696, 16), some (.arr 3 .int y52))] [(.tree .int a2_3), (.fn 101 [(.ref [(.int .i64 y49)])])] _ (caps := []) (args0 := [(.tree .int a2_3), (.fn 101 [(.ref [(.int .i64 y49)])])]) trivial (by kernel_rfl) (by kernel_rfl) (by kernel_rfl) (by kernel_rfl) (ok_impl_mapList_for_impl_shiftedBy_1 h52) hb_impl_mapList (by kernel_rfl) ?_
          refine ds0 (.fn 78 [(.box (3, 1) 0)]) (by kernel_rfl) ?_
          refine dcall (.own (1728, 18) .int 0 y53.length) [((1728, 18), some (.arr 3 .int y53))] [(.own (1696, 16) .int 0 y52.length), (.fn 78 [(.box (3, 1) 0)])] _ (caps := []) (args0 := [(.tree .int y52), (.fn 78 [(.ref [(.tree .int l27_m11_0)])])]) trivial (by kernel_rfl) (by kernel_rfl) (gm_cons (gd_own (e := 3) (by kernel_rfl) rfl) (gm_cons (gd_fn (gm_cons (gd_box (ty := 23) (cs := [(.own (4, 1) .int 0 l27_m11_0.length)]) (es := [(.own (4, 1) .int 0 l27_m11_0.length)]) (by kernel_rfl) (by kernel_rfl) (gm_cons (gd_own (e := 3) (by kernel_rfl) rfl) gm_nil)) gm_nil)) gm_nil)) (by kernel_rfl) (ok_impl_mapList_for_impl_GlueNetworks_1 h53) hb_impl_mapList (by kernel_rfl) ?_
          refine ds0 (.agg [(.int .i64 ((l27_m12 : Nat) : Int)), .nils, (.own (1632, 12) .int 0 y51.length), (.own (1728, 18) .int 0 y53.length)]) (by kernel_rfl) ?_
          refine ds1 (.box (17, 20) 0) (17, 20) (.cells 30 [(.int .i64 0), .nils, .nils, .nils]) (by kernel_rfl) ?_
          refine dsn2 (17, 20) (17, 20) (.cells 30 [(.int .i64 ((l27_m12 : Nat) : Int)), .nils, (.own (1632, 12) .int 0 y51.length), (.own (1728, 18) .int 0 y53.length)]) (by kernel_rfl) ?_
          refine dnil (by kernel_rfl) (tn_ ?_)
          refine awp_seqB h (fun (l54_m17_1 : List (Int × Int × Int)) S_ => S_ = ⟨mkTm [(0, (.int .i64 a0)), (6, (.box (0, 1) 0)), (17, (.box (1, 1) 0))], mkOb (someL [((0, 1), .cells 30 [(.int .i64 0), .nils, .nils, .nils]), ((1, 1), .cells 30 [(.int .i64 ((l27_m12 : Nat) : Int)), (.own (2, 1) (.pair .int (.pair .int .int)) 0 l54_m17_1.length), (.own (3, 1) .int 0 y51.length), (.own (4, 1) .int 0 y53.length)]), ((2, 1), .arr 59 (.pair .int (.pair .int .int)) l54_m17_1), ((3, 1), .arr 3 .int y51), ((4, 1), .arr 3 .int y53)]), 2⟩) ?_ ?_
          · intro v_ h
            refine awp_seq_ ?_
            obtain ⟨y56, h56, h⟩ := ob_some h
            obtain ⟨y57, h57, h⟩ := ob_some h
            obtain ⟨g58, h⟩ := og_some h
            obtain ⟨y59, h59, h⟩ := ob_some h
            refine awp_regionD_ 34 (by kernel_rfl) ?_
            refine ds0 (.box (0, 1) 1) (by kernel_rfl) ?_
            refine dsl (.tree (.pair .int (.pair .int .int)) a1_1) (by kernel_rfl) ?_
            refine dcall (.own (1792, 24) (.pair .int (.pair .int .int)) 0 y56.length) [((1792, 24), some (.arr 59 (.pair .int (.pair .int .int)) y56))] [(.tree (.pair .int (.pair .int .int)) a1_1)] _ (caps := []) (args0 := [(.tree (.pair .int (.pair .int .int)) a1_1)]) trivial (by kernel_rfl) (by kernel_rfl) (by kernel_rfl) (by kernel_rfl) (ok_slices_Clone_impl_Branch_impl_Branch h56) hb_slices_Clone_impl_Branch_impl_Branch (by kernel_rfl) ?_
            refine ds0 (.box (1, 1) 1) (by kernel_rfl) ?_
            refine dsl (.tree (.pair .int (.pair .int .int)) a2_1) (by kernel_rfl) ?_
            refine ds0 (.fn 101 [(.ref [(.int .i64 y49)])]) (by kernel_rfl) ?_
            refine dcall (.own (1856, 28) (.pair .int (.pair .int .int)) 0 y57.length) [((1856, 28), some (.arr 59 (.pair .int (.pair .int .int)) y57))] [(.tree (.pair .int (.pair .int .int)) a2_1), (.fn 101 [(.ref [(.int .i64 y49)])])] _ (caps := []) (args0 := [(.tree (.pair .int (.pair .int .int)) a2_1), (.fn 101 [(.ref [(.int .i64 y49)])])]) trivial (by kernel_rfl) (by kernel_rfl) (by kernel_rfl) (by kernel_rfl) (ok_impl_movedBranches_for_impl_shiftedBy_1 h57) hb_impl_movedBranches (by kernel_rfl) ?_
            refine ds2 (.own (1792, 29) (.pair .int (.pair .int .int)) 0 ((y56 ++ y57).length)) (1792, 24) (1792, 29) (.arr 59 (.pair .int (.pair .int .int)) (y56 ++ y57)) (s_appO (t := (.pair .int (.pair .int .int))) (t' := (.pair .int (.pair .int .int))) (xs := y56) (ys := y57) (zs := y56 ++ y57) (j := (1792, 24)) (len := y56.length) (c := (.own (1856, 28) (.pair .int (.pair .int .int)) 0 y57.length)) (by kernel_rfl) (by kernel_rfl) rfl (by kernel_rfl) (sr_own (e := 59) (by kernel_rfl) rfl) rfl g58) ?_
            refine ds0 (.fn 78 [(.box (3, 1) 0)]) (by kernel_rfl) ?_
            refine dcall (.own (1904, 31) (.pair .int (.pair .int .int)) 0 y59.length) [((1904, 31), some (.arr 59 (.pair .int (.pair .int .int)) y59))] [(.own (1792, 29) (.pair .int (.pair .int .int)) 0 ((y56 ++ y57).length)), (.fn 78 [(.box (3, 1) 0)])] _ (caps := []) (args0 := [(.tree (.pair .int (.pair .int .int)) (y56 ++ y57)), (.fn 78 [(.ref [(.tree .int l27_m11_0)])])]) trivial (by kernel_rfl) (by kernel_rfl) (gm_cons (gd_own (e := 59) (by kernel_rfl) rfl) (gm_cons (gd_fn (gm_cons (gd_box (ty := 23) (cs := [(.own (4, 1) .int 0 l27_m11_0.length)]) (es := [(.own (4, 1) .int 0 l27_m11_0.length)]) (by kernel_rfl) (by kernel_rfl) (gm_cons (gd_own (e := 3) (by kernel_rfl) rfl) gm_nil)) gm_nil)) gm_nil)) (by kernel_rfl) (ok_impl_movedBranches_for_impl_GlueNetworks_1 h59) hb_impl_movedBranches (by kernel_rfl) ?_
            refine ds0 (.int .i64 ((y59.length : Nat) : Int)) (by kernel_rfl) ?_
            refine ds0 (.int .i64 0) (by kernel_rfl) ?_
            refine dnil (by kernel_rfl) (tn_ ?_)
            refine awp_block_ ?_
            refine awp_loopL h (fun t_ S_ => ∃ (l60_m121 : Nat), ∃ (l60_m17_1 : List (Int × Int × Int)), t_ = (l60_m121, l60_m17_1) ∧ S_ = ⟨mkTm [(0, (.int .i64 a0)), (6, (.box (0, 1) 0)), (17, (.box (1, 1) 0)), (119, (.own (2, 1) (.pair .int (.pair .int .int)) 0 y59.length)), (120, (.int .i64 ((y59.length : Nat) : Int))), (121, (.int .i64 ((l60_m121 : Nat) : Int)))], mkOb (someL [((0, 1), .cells 30 [(.int .i64 0), .nils, .nils, .nils]), ((1, 1), .cells 30 [(.int .i64 ((l27_m12 : Nat) : Int)), (.own (3, 1) (.pair .int (.pair .int .int)) 0 l60_m17_1.length), (.own (4, 1) .int 0 y51.length), (.own (5, 1) .int 0 y53.length)]), ((2, 1), .arr 59 (.pair .int (.pair .int .int)) y59), ((3, 1), .arr 59 (.pair .int (.pair .int .int)) l60_m17_1), ((4, 1), .arr 3 .int y51), ((5, 1), .arr 3 .int y53)]), 2⟩) ⟨_, ((weak_nil_cell_ 9000 (17, 20) 1 30 [(.int .i64 ((l27_m12 : Nat) : Int)), .nils, (.own (1632, 12) .int 0 y51.length), (.own (1728, 18) .int 0 y53.length)] [(.int .i64 ((l27_m12 : Nat) : Int)), (.own (9000, 34) (.pair .int (.pair .int .int)) 0 0), (.own (1632, 12) .int 0 y51.length), (.own (1728, 18) .int 0 y53.length)] 59 (.pair .int (.pair .int .int)) rfl (by kernel_rfl) (by kernel_rfl) (by kernel_rfl)).trans (weak_ren (renF [((0, 1), (2, 1)), ((1, 1), (17, 20)), ((3, 1), (9000, 34)), ((4, 1), (1632, 12)), ((5, 1), (1728, 18)), ((2, 1), (1904, 31))]) (by kernel_rfl) (by kernel_rfl) (by kernel_rfl))), ⟨0, [], rfl, rfl⟩⟩ ?_
            · rintro n_ _ _ c_ ⟨l60_m121, l60_m17_1, rfl, rfl⟩ h hn60
              (try dsimp only at h)
              unfold L_impl_GlueNetworks_l3 at h
              unfold m_impl_GlueNetworks_l3
              refine awp_seq_ ?_
              refine awp_region_ 3 (by kernel_rfl) ?_
              refine rs0 (.bool (decide (((l60_m121 : Nat) : Int) < ((y59.length : Nat) : Int)))) (by kernel_rfl) ?_
              refine rnil (tn_ ?_)
              refine awp_seq_ ?_
              rcases cond_some h with ⟨q63, h⟩ | ⟨q63, h⟩
              · have q63_ := of_decide_eq_true q63
                refine awp_condT_ q63 (by kernel_rfl) ?_
                refine awp_skip_ (tn_ ?_)
                refine awp_seqB h (fun (l64_m17_1 : List (Int × Int × Int)) S_ => S_ = ⟨mkTm [(0, (.int .i64 a0)), (6, (.box (0, 1) 0)), (17, (.box (1, 1) 0)), (119, (.own (2, 1) (.pair .int (.pair .int .int)) 0 y59.length)), (120, (.int .i64 ((y59.length : Nat) : Int))), (121, (.int .i64 ((l60_m121 : Nat) : Int)))], mkOb (someL [((0, 1), .cells 30 [(.int .i64 0), .nils, .nils, .nils]), ((1, 1), .cells 30 [(.int .i64 ((l27_m12 : Nat) : Int)), (.own (3, 1) (.pair .int (.pair .int .int)) 0 l64_m17_1.length), (.own (4, 1) .int 0 y51.length), (.own (5, 1) .int 0 y53.length)]), ((2, 1), .arr 59 (.pair .int (.pair .int .int)) y59), ((3, 1), .arr 59 (.pair .int (.pair .int .int)) l64_m17_1), ((4, 1), .arr 3 .int y51), ((5, 1), .arr 3 .int y53)]), 2⟩) ?_ ?_
                · intro v_ h
                  refine awp_block_ ?_
                  refine awp_seq_ ?_
                  obtain ⟨x66, e66, h⟩ := ob_some h
                  refine awp_region_ 7 (by kernel_rfl) ?_
                  refine rs0 (.elt (2, 1) l60_m121 0) (s_idxO (t := (.pair .int (.pair .int .int))) (o := (2, 1)) (len := y59.length) (k := .i64) (m := ((l60_m121 : Nat) : Int)) (by kernel_rfl) (by kernel_rfl) rfl (nat_nn _) rfl (getN_lt e66)) ?_
                  refine rsl (.agg [(.int .i64 x66.1), (.int .i64 x66.2.1), (.int .i64 x66.2.2)]) (s_ldE (i := (2, 1)) (j := l60_m121) (k := 0) (e := 59) (t := (.pair .int (.pair .int .int))) (xs := y59) (by kernel_rfl) (by kernel_rfl) e66 (by kernel_rfl)) ?_
                  refine rs1 (.box (19, 5) 0) (19, 5) (.cells 59 [(.int .i64 0), (.int .i64 0), (.int .i64 0)]) (by kernel_rfl) ?_
                  refine rsn2 (19, 5) (19, 5) (.cells 59 [(.int .i64 x66.1), (.int .i64 x66.2.1), (.int .i64 x66.2.2)]) (by kernel_rfl) ?_
                  refine rnil (tn_ ?_)
                  refine awp_seq_ ?_
                  refine awp_region_ 12 (by kernel_rfl) ?_
                  refine rs0 (.box (19, 5) 0) (by kernel_rfl) ?_
                  refine rsl (.int .i64 x66.1) (by kernel_rfl) ?_
                  refine rs0 (.box (19, 5) 1) (by kernel_rfl) ?_
                  refine rsl (.int .i64 x66.2.1) (by kernel_rfl) ?_
                  refine rs0 (.bool (x66.1 != x66.2.1)) (by kernel_rfl) ?_
                  refine rnil (tn_ ?_)
                  rcases cond_some h with ⟨q68, h⟩ | ⟨q68, h⟩
                  · refine awp_condT_ q68 (by kernel_rfl) ?_
                    obtain ⟨g69, h⟩ := og_some h
                    refine awp_region_ 19 (by kernel_rfl) ?_
                    refine rs0 (.box (1, 1) 1) (by kernel_rfl) ?_
                    refine rsl (.own (3, 1) (.pair .int (.pair .int .int)) 0 l60_m17_1.length) (by kernel_rfl) ?_
                    refine rsl (.agg [(.int .i64 x66.1), (.int .i64 x66.2.1), (.int .i64 x66.2.2)]) (by kernel_rfl) ?_
                    refine rs1 (.own (133, 15) (.pair .int (.pair .int .int)) 0 1) (133, 15) (.arr 59 (.pair .int (.pair .int .int)) ([x66])) (by kernel_rfl) ?_
                    refine rs2 (.own (3, 16) (.pair .int (.pair .int .int)) 0 ((l60_m17_1 ++ ([x66])).length)) (3, 1) (3, 16) (.arr 59 (.pair .int (.pair .int .int)) (l60_m17_1 ++ ([x66]))) (s_appO (t := (.pair .int (.pair .int .int))) (t' := (.pair .int (.pair .int .int))) (xs := l60_m17_1) (ys := [x66]) (zs := l60_m17_1 ++ ([x66])) (j := (3, 1)) (len := l60_m17_1.length) (c := (.own (133, 15) (.pair .int (.pair .int .int)) 0 1)) (by kernel_rfl) (by kernel_rfl) rfl (by kernel_rfl) (sr_own (e := 59) (by kernel_rfl) rfl) rfl g69) ?_
                    refine rs0 (.box (1, 1) 1) (by kernel_rfl) ?_
                    refine rsn2 (1, 1) (1, 1) (.cells 30 [(.int .i64 ((l27_m12 : Nat) : Int)), (.own (3, 16) (.pair .int (.pair .int .int)) 0 ((l60_m17_1 ++ ([x66])).length)), (.own (4, 1) .int 0 y51.length), (.own (5, 1) .int 0 y53.length)]) (by kernel_rfl) ?_
                    refine rnil (bn_ (tn_ ?_))
                    obtain rfl := Option.some.inj h
                    exact ⟨_, (weak_ren (renF [((3, 1), (3, 16))]) (by kernel_rfl) (by kernel_rfl) (by kernel_rfl)), rfl⟩
                  · refine awp_condF_ q68 (by kernel_rfl) ?_
                    refine awp_skip_ (bn_ (tn_ ?_))
                    obtain rfl := Option.some.inj h
                    exact ⟨_, (weak_ren (renF []) (by kernel_rfl) (by kernel_rfl) (by kernel_rfl)), rfl⟩
                · rintro l64_m17_1 _ rfl h
                  (try dsimp only at h)
                  obtain ⟨g70, h⟩ := og_some h
                  refine awp_region_ 4 (by kernel_rfl) ?_
                  refine rs0 (.int .i64 ((l60_m121 + 1 : Nat) : Int)) (s_add1 (j := l60_m121) (by kernel_rfl) (by kernel_rfl) g70) ?_
                  refine rs0 (.int .i64 ((l60_m121 + 1 : Nat) : Int)) (by kernel_rfl) ?_
                  refine rnil (tn_ ?_)
                  obtain rfl := Option.some.inj h
                  exact ⟨(l60_m121 + 1, l64_m17_1), _, (weak_ren (renF []) (by kernel_rfl) (by kernel_rfl) (by kernel_rfl)), ⟨l60_m121 + 1, l64_m17_1, rfl, rfl⟩, hn60⟩
              · have q63_ := of_decide_eq_false q63
                refine awp_condF_ q63 (by kernel_rfl) ?_
                refine awp_exit_ (te_ (te_ (be_ (tn_ ?_))))
                obtain rfl := Option.some.inj h
                have h := hn60
                (try dsimp only at h)
                obtain rfl := Option.some.inj h
                exact ⟨_, (weak_ren (renF [((2, 1), (3, 1)), ((3, 1), (4, 1)), ((4, 1), (5, 1))]) (by kernel_rfl) (by kernel_rfl) (by kernel_rfl)), rfl⟩
          · rintro l54_m17_1 _ rfl h
            (try dsimp only at h)
            refine awp_seqB h (fun t_ S_ => ∃ (l71_m7 : Bool), ∃ (l71_m6_0 : Int), ∃ (l71_m6_1 : List (Int × Int × Int)), ∃ (l71_m6_2 : List Int), ∃ (l71_m6_3 : List Int), t_ = (l71_m7, l71_m6_0, l71_m6_1, l71_m6_2, l71_m6_3) ∧ S_ = ⟨mkTm [(6, (.box (0, 1) 0)), (7, (.bool l71_m7))], mkOb (someL [((0, 1), .cells 30 [(.int .i64 l71_m6_0), (.own (1, 1) (.pair .int (.pair .int .int)) 0 l71_m6_1.length), (.own (2, 1) .int 0 l71_m6_2.length), (.own (3, 1) .int 0 l71_m6_3.length)]), ((1, 1), .arr 59 (.pair .int (.pair .int .int)) l71_m6_1), ((2, 1), .arr 3 .int l71_m6_2), ((3, 1), .arr 3 .int l71_m6_3)]), 2⟩) ?_ ?_
            · intro v_ h
              obtain ⟨y72, h72, h⟩ := ob_some h
              rcases y72 with z72_0 | z72_1
              · (try simp only [Sum.elim_inl, Sum.elim_inr] at h)
                refine awp_region_ 9 (by kernel_rfl) ?_
                refine rs0 (.int .i64 a0) (by kernel_rfl) ?_
                refine rsl (.agg [(.int .i64 ((l27_m12 : Nat) : Int)), (.own (2, 1) (.pair .int (.pair .int .int)) 0 l54_m17_1.length), (.own (3, 1) .int 0 y51.length), (.own (4, 1) .int 0 y53.length)]) (by kernel_rfl) ?_
                refine rcall (.tup [(.agg [(.int .i64 z72_0.1), .nils, .nils, .nils]), (.bool z72_0.2)]) [] [(.int .i64 a0), (.agg [(.int .i64 ((l27_m12 : Nat) : Int)), (.own (2, 1) (.pair .int (.pair .int .int)) 0 l54_m17_1.length), (.own (3, 1) .int 0 y51.length), (.own (4, 1) .int 0 y53.length)])] _ (caps := []) (args0 := [(.int .i64 a0), (.agg [(.int .i64 ((l27_m12 : Nat) : Int)), (.tree (.pair .int (.pair .int .int)) l54_m17_1), (.tree .int y51), (.tree .int y53)])]) trivial (by kernel_rfl) (by kernel_rfl) (gm_cons (by kernel_rfl) (gm_cons (gd_agg (gm_cons (by kernel_rfl) (gm_cons (gd_own (e := 59) (by kernel_rfl) rfl) (gm_cons (gd_own (e := 3) (by kernel_rfl) rfl) (gm_cons (gd_own (e := 3) (by kernel_rfl) rfl) gm_nil))))) gm_nil)) (by kernel_rfl) (ok_impl_validNetwork h72) hb_impl_validNetwork (by kernel_rfl) ?_
                refine rs0 (.agg [(.int .i64 z72_0.1), .nils, .nils, .nils]) (by kernel_rfl) ?_
                refine rs0 (.bool z72_0.2) (by kernel_rfl) ?_
                refine rsn2 (0, 1) (0, 1) (.cells 30 [(.int .i64 z72_0.1), .nils, .nils, .nils]) (by kernel_rfl) ?_
                refine rs0 (.bool z72_0.2) (by kernel_rfl) ?_
                refine rnil (tn_ ?_)
                obtain rfl := Option.some.inj h
                exact ⟨_, ((weak_nil_cell_ 9000 (0, 1) 1 30 [(.int .i64 z72_0.1), .nils, .nils, .nils] [(.int .i64 z72_0.1), (.own (9000, 9) (.pair .int (.pair .int .int)) 0 0), .nils, .nils] 59 (.pair .int (.pair .int .int)) rfl (by kernel_rfl) (by kernel_rfl) (by kernel_rfl)).trans ((weak_nil_cell_ 9001 (0, 1) 2 30 [(.int .i64 z72_0.1), (.own (9000, 9) (.pair .int (.pair .int .int)) 0 0), .nils, .nils] [(.int .i64 z72_0.1), (.own (9000, 9) (.pair .int (.pair .int .int)) 0 0), (.own (9001, 10) .int 0 0), .nils] 3 .int rfl (by kernel_rfl) (by kernel_rfl) (by kernel_rfl)).trans ((weak_nil_cell_ 9002 (0, 1) 3 30 [(.int .i64 z72_0.1), (.own (9000, 9) (.pair .int (.pair .int .int)) 0 0), (.own (9001, 10) .int 0 0), .nils] [(.int .i64 z72_0.1), (.own (9000, 9) (.pair .int (.pair .int .int)) 0 0), (.own (9001, 10) .int 0 0), (.own (9002, 11) .int 0 0)] 3 .int rfl (by kernel_rfl) (by kernel_rfl) (by kernel_rfl)).trans (weak_ren (renF [((1, 1), (9000, 9)), ((2, 1), (9001, 10)), ((3, 1), (9002, 11))]) (by kernel_rfl) (by kernel_rfl) (by kernel_rfl))))), ⟨z72_0.2, z72_0.1, [], [], [], rfl, rfl⟩⟩
              · (try simp only [Sum.elim_inl, Sum.elim_inr] at h)
                refine awp_region_ 9 (by kernel_rfl) ?_
                refine rs0 (.int .i64 a0) (by kernel_rfl) ?_
                refine rsl (.agg [(.int .i64 ((l27_m12 : Nat) : Int)), (.own (2, 1) (.pair .int (.pair .int .int)) 0 l54_m17_1.length), (.own (3, 1) .int 0 y51.length), (.own (4, 1) .int 0 y53.length)]) (by kernel_rfl) ?_
                refine rcall (.tup [(.agg [(.int .i64 z72_1.1), (.own (2, 1) (.pair .int (.pair .int .int)) 0 l54_m17_1.length), (.own (3, 1) .int 0 y51.length), (.own (4, 1) .int 0 y53.length)]), (.bool z72_1.2)]) [] [(.int .i64 a0), (.agg [(.int .i64 ((l27_m12 : Nat) : Int)), (.own (2, 1) (.pair .int (.pair .int .int)) 0 l54_m17_1.length), (.own (3, 1) .int 0 y51.length), (.own (4, 1) .int 0 y53.length)])] _ (caps := []) (args0 := [(.int .i64 a0), (.agg [(.int .i64 ((l27_m12 : Nat) : Int)), (.tree (.pair .int (.pair .int .int)) l54_m17_1), (.tree .int y51), (.tree .int y53)])]) trivial (by kernel_rfl) (by kernel_rfl) (gm_cons (by kernel_rfl) (gm_cons (gd_agg (gm_cons (by kernel_rfl) (gm_cons (gd_own (e := 59) (by kernel_rfl) rfl) (gm_cons (gd_own (e := 3) (by kernel_rfl) rfl) (gm_cons (gd_own (e := 3) (by kernel_rfl) rfl) gm_nil))))) gm_nil)) (by kernel_rfl) (ok_impl_validNetwork h72) hb_impl_validNetwork (by kernel_rfl) ?_
                refine rs0 (.agg [(.int .i64 z72_1.1), (.own (2, 1) (.pair .int (.pair .int .int)) 0 l54_m17_1.length), (.own (3, 1) .int 0 y51.length), (.own (4, 1) .int 0 y53.length)]) (by kernel_rfl) ?_
                refine rs0 (.bool z72_1.2) (by kernel_rfl) ?_
                refine rsn2 (0, 1) (0, 1) (.cells 30 [(.int .i64 z72_1.1), (.own (2, 1) (.pair .int (.pair .int .int)) 0 l54_m17_1.length), (.own (3, 1) .int 0 y51.length), (.own (4, 1) .int 0 y53.length)]) (by kernel_rfl) ?_
                refine rs0 (.bool z72_1.2) (by kernel_rfl) ?_
                refine rnil (tn_ ?_)
                obtain rfl := Option.some.inj h
                exact ⟨_, (weak_ren (renF [((1, 1), (2, 1)), ((2, 1), (3, 1)), ((3, 1), (4, 1))]) (by kernel_rfl) (by kernel_rfl) (by kernel_rfl)), ⟨z72_1.2, z72_1.1, l54_m17_1, y51, y53, rfl, rfl⟩⟩
            · rintro _ _ ⟨l71_m7, l71_m6_0, l71_m6_1, l71_m6_2, l71_m6_3, rfl, rfl⟩ h
              (try dsimp only at h)
              refine awp_ret_ ?_
              obtain rfl := Option.some.inj h
              exact ret_ [(.agg [(.int .i64 l71_m6_0), (.own (1, 1) (.pair .int (.pair .int .int)) 0 l71_m6_1.length), (.own (2, 1) .int 0 l71_m6_2.length), (.own (3, 1) .int 0 l71_m6_3.length)]), (.bool l71_m7)] (by simp) (by kernel_rfl) (p_agg (l_cons (l_sc (by kernel_rfl)) (l_cons (l_own (by kernel_rfl) rfl) (l_cons (l_own (by kernel_rfl) rfl) (l_cons (l_own (by kernel_rfl) rfl) l_nil)))) (p_one rfl (l_sc (by kernel_rfl)) p_nil)) (by kernel_rfl) (by kernel_rfl)
def m_laws_FnExactGlueNetworks : AC :=
  (.seq (.region [⟨(some 4), none, (.i (.box 25 (.tmp 1)))⟩, ⟨(some 5), none, (.i (.box 25 (.tmp 2)))⟩, ⟨(some 6), none, (.i (.mov (.cst (.bool false))))⟩] false [])
  (.seq (.region [⟨(some 7), none, (.i (.mov (.cst (.int .i64 1048576))))⟩] false [])
  (.seq (.region [⟨(some 19), none, (.i (.ld false 4 (.tmp 4)))⟩, ⟨(some 20), none, (.i (.mov (.tmp 7)))⟩, ⟨(some 21), none, (.call (.cst (.fn 12 [])) [(.tmp 19), (.tmp 20)] [[none, (some (.pair .int (.pair .int .int))), (some .int), (some .int)], []])⟩, ⟨(some 7), none, (.i (.mov (.tmp 21)))⟩] false [])
  (.seq (.seq (.region [⟨(some 22), none, (.i (.mov (.tmp 7)))⟩, ⟨(some 23), none, (.i (.bin .lss (.tmp 22) (.cst (.int .i64 0))))⟩] false [])
  (.cond (.tmp 23)
    (.seq (.region [⟨(some 6), none, (.i (.mov (.cst (.bool true))))⟩] false [])
    .ret)
    .skip))
  (.seq (.region [⟨(some 24), none, (.i (.ld false 4 (.tmp 5)))⟩, ⟨(some 25), none, (.i (.mov (.tmp 7)))⟩, ⟨(some 26), none, (.call (.cst (.fn 12 [])) [(.tmp 24), (.tmp 25)] [[none, (some (.pair .int (.pair .int .int))), (some .int), (some .int)], []])⟩, ⟨(some 7), none, (.i (.mov (.tmp 26)))⟩] false [])
  (.seq (.seq (.region [⟨(some 27), none, (.i (.mov (.tmp 7)))⟩, ⟨(some 28), none, (.i (.bin .lss (.tmp 27) (.cst (.int .i64 0))))⟩] false [])
  (.cond (.tmp 28)
    (.seq (.region [⟨(some 6), none, (.i (.mov (.cst (.bool true))))⟩] false [])
    .ret)
    .skip))
  (.seq (.region [⟨(some 30), none, (.i (.mov (.tmp 0)))⟩, ⟨(some 31), none, (.i (.ld false 4 (.tmp 4)))⟩, ⟨(some 32), none, (.call (.cst (.fn 14 [])) [(.tmp 31)] [[none, (some (.pair .int (.pair .int .int))), (some .int), (some .int)]])⟩, ⟨(some 33), none, (.i (.ld false 4 (.tmp 5)))⟩, ⟨(some 34), none, (.call (.cst (.fn 14 [])) [(.tmp 33)] [[none, (some (.pair .int (.pair .int .int))), (some .int), (some .int)]])⟩, ⟨(some 35), none, (.call (.cst (.fn 34 [])) [(.tmp 30), (.tmp 32), (.tmp 34)] [[], [none, (some (.pair .int (.pair .int .int))), (some .int), (some .int)], [none, (some (.pair .int (.pair .int .int))), (some .int), (some .int)]])⟩, ⟨(some 29), none, (.i (.mov (.tmp 35)))⟩, ⟨(some 36), none, (.i (.extr 0 (.tmp 29)))⟩, ⟨(some 37), none, (.i (.extr 1 (.tmp 29)))⟩, ⟨(some 8), none, (.i (.alloc 30 [(.int .i64 0), .nils, .nils, .nils]))⟩, ⟨none, none, (.st false 4 (.tmp 8) (.tmp 36))⟩, ⟨(some 9), none, (.i (.mov (.tmp 37)))⟩] true [(2, 3), (2, 9), (4, 9), (5, 9)])
  (.seq (.region [⟨(some 38), none, (.i (.ld false 4 (.tmp 4)))⟩, ⟨(some 39), none, (.call (.cst (.fn 14 [])) [(.tmp 38)] [[none, (some (.pair .int (.pair .int .int))), (some .int), (some .int)]])⟩, ⟨(some 10), none, (.i (.alloc 30 [(.int .i64 0), .nils, .nils, .nils]))⟩, ⟨none, none, (.st false 4 (.tmp 10) (.tmp 39))⟩] false [])
  (.seq (.region [⟨(some 40), none, (.i (.ld false 4 (.tmp 5)))⟩, ⟨(some 41), none, (.call (.cst (.fn 14 [])) [(.tmp 40)] [[none, (some (.pair .int (.pair .int .int))), (some .int), (some .int)]])⟩, ⟨(some 11), none, (.i (.alloc 30 [(.int .i64 0), .nils, .nils, .nils]))⟩, ⟨none, none, (.st false 4 (.tmp 11) (.tmp 41))⟩] false [])
  (.seq (.region [⟨(some 43), none, (.i (.mov (.tmp 0)))⟩, ⟨(some 44), none, (.i (.ld false 4 (.tmp 10)))⟩, ⟨(some 45), none, (.i (.ld false 4 (.tmp 11)))⟩, ⟨(some 46), none, (.call (.cst (.fn 35 [])) [(.tmp 43), (.tmp 44), (.tmp 45)] [[], [none, (some (.pair .int (.pair .int .int))), (some .int), (some .int)], [none, (some (.pair .int (.pair .int .int))), (some .int), (some .int)]])⟩, ⟨(some 42), none, (.i (.mov (.tmp 46)))⟩, ⟨(some 47), none, (.i (.extr 0 (.tmp 42)))⟩, ⟨(some 48), none, (.i (.extr 1 (.tmp 42)))⟩, ⟨(some 12), none, (.i (.alloc 30 [(.int .i64 0), .nils, .nils, .nils]))⟩, ⟨none, none, (.st false 4 (.tmp 12) (.tmp 47))⟩, ⟨(some 13), none, (.i (.mov (.tmp 48)))⟩] false [])
  (.seq (.seq (.region [⟨(some 49), none, (.i (.ld false 4 (.tmp 12)))⟩, ⟨(some 50), none, (.i (.ld false 4 (.tmp 8)))⟩, ⟨(some 51), none, (.call (.cst (.fn 16 [])) [(.tmp 49), (.tmp 50)] [[none, (some (.pair .int (.pair .int .int))), (some .int), (some .int)], [none, (some (.pair .int (.pair .int .int))), (some .int), (some .int)]])⟩, ⟨(some 52), none, (.i (.not (.tmp 51)))⟩, ⟨(some 53), none, (.i (.mov (.tmp 52)))⟩, ⟨(some 54), (some (53, false)), (.i (.mov (.tmp 13)))⟩, ⟨(some 55), (some (53, false)), (.i (.mov (.tmp 9)))⟩, ⟨(some 56), (some (53, false)), (.i (.cmp true 0 (.tmp 54) (.tmp 55)))⟩, ⟨(some 57), none, (.i (.pick (.tmp 53) (.cst (.bool true)) (.tmp 56)))⟩] false [])
  (.cond (.tmp 57)
    (.seq (.region [⟨(some 6), none, (.i (.mov (.cst (.bool false))))⟩] false [])
    .ret)
    .skip))
  (.seq (.seq (.region [⟨(some 58), none, (.i (.ld false 4 (.tmp 10)))⟩, ⟨(some 59), none, (.i (.ld false 4 (.tmp 4)))⟩, ⟨(some 60), none, (.call (.cst (.fn 14 [])) [(.tmp 59)] [[none, (some (.pair .int (.pair .int .int))), (some .int), (some .int)]])⟩, ⟨(some 61), none, (.call (.cst (.fn 16 [])) [(.tmp 58), (.tmp 60)] [[none, (some (.pair .int (.pair .int .int))), (some .int), (some .int)], [none, (some (.pair .int (.pair .int .int))), (some .int), (some .int)]])⟩, ⟨(some 62), none, (.i (.not (.tmp 61)))⟩] true [(0, 2)])
  (.cond (.tmp 62)
    (.seq (.region [⟨(some 6), none, (.i (.mov (.cst (.bool false))))⟩] false [])
    .ret)
    .skip))
  (.seq (.seq (.region [⟨(some 63), none, (.i (.ld false 4 (.tmp 11)))⟩, ⟨(some 64), none, (.i (.ld false 4 (.tmp 5)))⟩, ⟨(some 65), none, (.call (.cst (.fn 14 [])) [(.tmp 64)] [[none, (some (.pair .int (.pair .int .int))), (some .int), (some .int)]])⟩, ⟨(some 66), none, (.call (.cst (.fn 16 [])) [(.tmp 63), (.tmp 65)] [[none, (some (.pair .int (.pair .int .int))), (some .int), (some .int)], [none, (some (.pair .int (.pair .int .int))), (some .int), (some .int)]])⟩, ⟨(some 67), none, (.i (.not (.tmp 66)))⟩] true [(0, 2)])
  (.cond (.tmp 67)
    (.seq (.region [⟨(some 6), none, (.i (.mov (.cst (.bool false))))⟩] false [])
    .ret)
    .skip))
  (.seq (.region [⟨(some 14), none, (.i (.mov (.cst (.int .i64 1))))⟩] false [])
  (.seq (.region [⟨(some 68), none, (.i (.ld false 4 (.tmp 10)))⟩, ⟨(some 69), none, (.i (.mov (.tmp 14)))⟩, ⟨(some 70), none, (.call (.cst (.fn 23 [])) [(.tmp 68), (.tmp 69)] [[none, (some (.pair .int (.pair .int .int))), (some .int), (some .int)], []])⟩, ⟨(some 14), none, (.i (.mov (.tmp 70)))⟩] false [])
  (.seq (.region [⟨(some 71), none, (.i (.ld false 4 (.tmp 11)))⟩, ⟨(some 72), none, (.i (.mov (.tmp 14)))⟩, ⟨(some 73), none, (.call (.cst (.fn 23 [])) [(.tmp 71), (.tmp 72)] [[none, (some (.pair .int (.pair .int .int))), (some .int), (some .int)], []])⟩, ⟨(some 14), none, (.i (.mov (.tmp 73)))⟩] false [])
  (.seq (.seq (.region [⟨(some 74), none, (.i (.mov (.tmp 14)))⟩, ⟨(some 75), none, (.i (.bin .lss (.tmp 74) (.cst (.int .i64 0))))⟩, ⟨(some 76), none, (.i (.mov (.tmp 75)))⟩, ⟨(some 77), (some (76, false)), (.i (.ld false 4 (.tmp 12)))⟩, ⟨(some 78), (some (76, false)), (.i (.ld false 4 (.tmp 8)))⟩, ⟨(some 79), (some (76, false)), (.call (.cst (.fn 16 [])) [(.tmp 77), (.tmp 78)] [[none, (some (.pair .int (.pair .int .int))), (some .int), (some .int)], [none, (some (.pair .int (.pair .int .int))), (some .int), (some .int)]])⟩, ⟨(some 80), (some (76, false)), (.i (.not (.tmp 79)))⟩, ⟨(some 81), none, (.i (.pick (.tmp 76) (.cst (.bool true)) (.tmp 80)))⟩, ⟨(some 82), none, (.i (.mov (.tmp 81)))⟩, ⟨(some 83), (some (82, false)), (.i (.mov (.tmp 13)))⟩, ⟨(some 84), (some (82, false)), (.i (.mov (.tmp 9)))⟩, ⟨(some 85), (some (82, false)), (.i (.cmp true 0 (.tmp 83) (.tmp 84)))⟩, ⟨(some 86), none, (.i (.pick (.tmp 82) (.cst (.bool true)) (.tmp 85)))⟩] false [])
  (.cond (.tmp 86)
    (.seq (.region [⟨(some 6), none, (.i (.mov (.cst (.bool false))))⟩] false [])
    .ret)
    .skip))
  (.seq (.region [⟨(some 15), none, (.i (.mov (.cst (.int .i64 1))))⟩] false [])
  (.seq (.region [⟨(some 87), none, (.i (.ld false 4 (.tmp 12)))⟩, ⟨(some 88), none, (.i (.mov (.tmp 15)))⟩, ⟨(some 89), none, (.call (.cst (.fn 23 [])) [(.tmp 87), (.tmp 88)] [[none, (some (.pair .int (.pair .int .int))), (some .int), (some .int)], []])⟩, ⟨(some 15), none, (.i (.mov (.tmp 89)))⟩] false [])
  (.seq (.region [⟨(some 16), none, (.i (.mov (.cst (.int .i64 1))))⟩] false [])
  (.seq (.region [⟨(some 90), none, (.i (.ld false 4 (.tmp 12)))⟩, ⟨(some 91), none, (.i (.mov (.tmp 16)))⟩, ⟨(some 92), none, (.call (.cst (.fn 24 [])) [(.tmp 90), (.tmp 91)] [[none, (some (.pair .int (.pair .int .int))), (some .int), (some .int)], []])⟩, ⟨(some 16), none, (.i (.mov (.tmp 92)))⟩] false [])
  (.seq (.seq (.region [⟨(some 93), none, (.i (.mov (.tmp 16)))⟩, ⟨(some 94), none, (.i (.bin .lss (.tmp 93) (.cst (.int .i64 0))))⟩] false [])
  (.cond (.tmp 94)
    (.seq (.region [⟨(some 6), none, (.i (.mov (.cst (.bool false))))⟩] false [])
    .ret)
    .skip))
  (.seq (.seq (.region [⟨(some 95), none, (.i (.mov (.tmp 16)))⟩, ⟨(some 96), none, (.i (.mov (.tmp 15)))⟩, ⟨(some 97), none, (.i (.bin .neq (.tmp 95) (.tmp 96)))⟩] false [])
  (.cond (.tmp 97)
    (.seq (.region [⟨(some 6), none, (.i (.mov (.cst (.bool false))))⟩] false [])
    .ret)
    .skip))
  (.seq (.region [⟨(some 99), none, (.i (.mov (.tmp 0)))⟩, ⟨(some 100), none, (.i (.ld false 4 (.tmp 4)))⟩, ⟨(some 101), none, (.call (.cst (.fn 14 [])) [(.tmp 100)] [[none, (some (.pair .int (.pair .int .int))), (some .int), (some .int)]])⟩, ⟨(some 102), none, (.i (.ld false 4 (.tmp 5)))⟩, ⟨(some 103), none, (.call (.cst (.fn 14 [])) [(.tmp 102)] [[none, (some (.pair .int (.pair .int .int))), (some .int), (some .int)]])⟩, ⟨(some 104), none, (.call (.cst (.fn 35 [])) [(.tmp 99), (.tmp 101), (.tmp 103)] [[], [none, (some (.pair .int (.pair .int .int))), (some .int), (some .int)], [none, (some (.pair .int (.pair .int .int))), (some .int), (some .int)]])⟩, ⟨(some 98), none, (.i (.mov (.tmp 104)))⟩, ⟨(some 105), none, (.i (.extr 0 (.tmp 98)))⟩, ⟨(some 106), none, (.i (.extr 1 (.tmp 98)))⟩, ⟨(some 17), none, (.i (.alloc 30 [(.int .i64 0), .nils, .nils, .nils]))⟩, ⟨none, none, (.st false 4 (.tmp 17) (.tmp 105))⟩, ⟨(some 18), none, (.i (.mov (.tmp 106)))⟩] true [(2, 3), (2, 9), (4, 9), (5, 9)])
  (.seq (.seq (.region [⟨(some 107), none, (.i (.ld false 4 (.tmp 17)))⟩, ⟨(some 108), none, (.i (.ld false 4 (.tmp 8)))⟩, ⟨(some 109), none, (.call (.cst (.fn 16 [])) [(.tmp 107), (.tmp 108)] [[none, (some (.pair .int (.pair .int .int))), (some .int), (some .int)], [none, (some (.pair .int (.pair .int .int))), (some .int), (some .int)]])⟩, ⟨(some 110), none, (.i (.not (.tmp 109)))⟩, ⟨(some 111), none, (.i (.mov (.tmp 110)))⟩, ⟨(some 112), (some (111, false)), (.i (.mov (.tmp 18)))⟩, ⟨(some 113), (some (111, false)), (.i (.mov (.tmp 9)))⟩, ⟨(some 114), (some (111, false)), (.i (.cmp true 0 (.tmp 112) (.tmp 113)))⟩, ⟨(some 115), none, (.i (.pick (.tmp 111) (.cst (.bool true)) (.tmp 114)))⟩] false [])
  (.cond (.tmp 115)
    (.seq (.region [⟨(some 6), none, (.i (.mov (.cst (.bool false))))⟩] false [])
    .ret)
    .skip))
  (.seq (.region [⟨(some 16), none, (.i (.mov (.cst (.int .i64 1))))⟩] false [])
  (.seq (.region [⟨(some 116), none, (.i (.ld false 4 (.tmp 12)))⟩, ⟨(some 117), none, (.i (.mov (.tmp 16)))⟩, ⟨(some 118), none, (.call (.cst (.fn 24 [])) [(.tmp 116), (.tmp 117)] [[none, (some (.pair .int (.pair .int .int))), (some .int), (some .int)], []])⟩, ⟨(some 16), none, (.i (.mov (.tmp 118)))⟩] false [])
  (.seq (.seq (.region [⟨(some 119), none, (.i (.mov (.tmp 16)))⟩, ⟨(some 120), none, (.i (.bin .lss (.tmp 119) (.cst (.int .i64 0))))⟩] false [])
  (.cond (.tmp 120)
    (.seq (.region [⟨(some 6), none, (.i (.mov (.cst (.bool false))))⟩] false [])
    .ret)
    .skip))
  (.seq (.seq (.region [⟨(some 121), none, (.i (.mov (.tmp 16)))⟩, ⟨(some 122), none, (.i (.mov (.tmp 15)))⟩, ⟨(some 123), none, (.i (.bin .neq (.tmp 121) (.tmp 122)))⟩] false [])
  (.cond (.tmp 123)
    (.seq (.region [⟨(some 6), none, (.i (.mov (.cst (.bool false))))⟩] false [])
    .ret)
    .skip))
  (.seq (.region [⟨(some 6), none, (.i (.mov (.cst (.bool true))))⟩] false [])
  .ret))))))))))))))))))))))))))))))
def r_laws_FnExactGlueNetworks : List Res := [.tmp 6]
theorem c_laws_FnExactGlueNetworks : compiled Tryd.prog Tryd.f9 = some (m_laws_FnExactGlueNetworks, r_laws_FnExactGlueNetworks) := by kernel_rfl
theorem hb_laws_FnExactGlueNetworks : hasBody Tryd.prog 9 = true := by kernel_rfl
def L_laws_FnExactGlueNetworks (a0 : Int) (a1_0 : Int) (a1_1 : List (Int × Int × Int)) (a1_2 : List Int) (a1_3 : List Int) (a2_0 : Int) (a2_1 : List (Int × Int × Int)) (a2_2 : List Int) (a2_3 : List Int) : Option Bool :=
  Option.bind (L_laws_szNetwork a1_0 a1_1 a1_2 a1_3 1048576) fun y4 =>
cond (decide (y4 < 0))
  (some true)
  (Option.bind (L_laws_szNetwork a2_0 a2_1 a2_2 a2_3 y4) fun y10 =>
  cond (decide (y10 < 0))
    (some true)
    (Option.bind (L_laws_toNetwork a1_0 a1_1 a1_2 a1_3) fun y16 =>
    Option.bind (L_laws_toNetwork a2_0 a2_1 a2_2 a2_3) fun y17 =>
    Option.bind (L_spec_GlueNetworks a0 y16.1 y16.2.1 y16.2.2.1 y16.2.2.2 y17.1 y17.2.1 y17.2.2.1 y17.2.2.2) fun y18 =>
    Option.bind (L_laws_toNetwork a1_0 a1_1 a1_2 a1_3) fun y20 =>
    Option.bind (L_laws_toNetwork a2_0 a2_1 a2_2 a2_3) fun y22 =>
    Option.bind (L_impl_GlueNetworks a0 y20.1 y20.2.1 y20.2.2.1 y20.2.2.2 y22.1 y22.2.1 y22.2.2.1 y22.2.2.2) fun y24 =>
    Option.bind (Option.bind (L_laws_eqNetwork y24.1 y24.2.1 y24.2.2.1 y24.2.2.2.1 y18.1 y18.2.1 y18.2.2.1 y18.2.2.2.1) fun y27 =>
      cond (!y27)
        (some true)
        (some (y24.2.2.2.2 != y18.2.2.2.2))) fun l26_m57 =>
    cond l26_m57
      (some false)
      (Option.bind (L_laws_toNetwork a1_0 a1_1 a1_2 a1_3) fun y33 =>
      Option.bind (L_laws_eqNetwork y20.1 y20.2.1 y20.2.2.1 y20.2.2.2 y33.1 y33.2.1 y33.2.2.1 y33.2.2.2) fun y34 =>
      cond (!y34)
        (some false)
        (Option.bind (L_laws_toNetwork a2_0 a2_1 a2_2 a2_3) fun y39 =>
        Option.bind (L_laws_eqNetwork y22.1 y22.2.1 y22.2.2.1 y22.2.2.2 y39.1 y39.2.1 y39.2.2.1 y39.2.2.2) fun y40 =>
        cond (!y40)
          (some false)
          (Option.bind (L_laws_markNetwork y20.1 y20.2.1 y20.2.2.1 y20.2.2.2 1) fun y45 =>
          og (y45.1.length = y20.2.1.length) <|
          og (y45.2.1.length = y20.2.2.1.length) <|
          og (y45.2.2.1.length = y20.2.2.2.length) <|
          Option.bind (L_laws_markNetwork y22.1 y22.2.1 y22.2.2.1 y22.2.2.2 y45.2.2.2) fun y50 =>
          og (y50.1.length = y22.2.1.length) <|
          og (y50.2.1.length = y22.2.2.1.length) <|
          og (y50.2.2.1.length = y22.2.2.2.length) <|
          Option.bind (cond (decide (y50.2.2.2 < 0))
              (some true)
              (Option.bind (L_laws_eqNetwork y24.1 y24.2.1 y24.2.2.1 y24.2.2.2.1 y18.1 y18.2.1 y18.2.2.1 y18.2.2.2.1) fun y57 =>
              cond (!y57)
                (some true)
                (some (y24.2.2.2.2 != y18.2.2.2.2)))) fun l55_m86 =>
          cond l55_m86
            (some false)
            (Option.bind (L_laws_markNetwork y24.1 y24.2.1 y24.2.2.1 y24.2.2.2.1 1) fun y63 =>
            og (y63.1.length = y24.2.1.length) <|
            og (y63.2.1.length = y24.2.2.1.length) <|
            og (y63.2.2.1.length = y24.2.2.2.1.length) <|
            Option.bind (L_laws_heldNetwork y24.1 y63.1 y63.2.1 y63.2.2.1 1) fun y69 =>
            cond (decide (y69 < 0))
              (some false)
              (cond (y69 != y63.2.2.2)
                (some false)
                (Option.bind (L_laws_toNetwork a1_0 a1_1 a1_2 a1_3) fun y79 =>
                Option.bind (L_laws_toNetwork a2_0 a2_1 a2_2 a2_3) fun y80 =>
                Option.bind (L_impl_GlueNetworks a0 y79.1 y79.2.1 y79.2.2.1 y79.2.2.2 y80.1 y80.2.1 y80.2.2.1 y80.2.2.2) fun y81 =>
                Option.bind (Option.bind (L_laws_eqNetwork y81.1 y81.2.1 y81.2.2.1 y81.2.2.2.1 y18.1 y18.2.1 y18.2.2.1 y18.2.2.2.1) fun y84 =>
                  cond (!y84)
                    (some true)
                    (some (y81.2.2.2.2 != y18.2.2.2.2))) fun l83_m115 =>
                cond l83_m115
                  (some false)
                  (Option.bind (L_laws_heldNetwork y24.1 y63.1 y63.2.1 y63.2.2.1 1) fun y90 =>
                  cond (decide (y90 < 0))
                    (some false)
                    (cond (y90 != y63.2.2.2)
                      (some false)
                      (some true)))))))))))
def rv_laws_FnExactGlueNetworks (r : Bool) : RV := ⟨false, [(false, [.sc (.bool r)])]⟩
theorem ok_laws_FnExactGlueNetworks {a0 : Int} {a1_0 : Int} {a1_1 : List (Int × Int × Int)} {a1_2 : List Int} {a1_3 : List Int} {a2_0 : Int} {a2_1 : List (Int × Int × Int)} {a2_2 : List Int} {a2_3 : List Int} {r : Bool} (h : L_laws_FnExactGlueNetworks a0 a1_0 a1_1 a1_2 a1_3 a2_0 a2_1 a2_2 a2_3 = some r) : CallOK Tryd.prog Tab 9 [(.int .i64 a0), (.agg [(.int .i64 a1_0), (.tree (.pair .int (.pair .int .int)) a1_1), (.tree .int a1_2), (.tree .int a1_3)]), (.agg [(.int .i64 a2_0), (.tree (.pair .int (.pair .int .int)) a2_1), (.tree .int a2_2), (.tree .int a2_3)])] (rv_laws_FnExactGlueNetworks r) := by
  refine call_of_ (by kernel_rfl) Tryd.func9 c_laws_FnExactGlueNetworks (n := 124) (by kernel_rfl) (by simp) (tl := [(0, (.int .i64 a0)), (1, (.agg [(.int .i64 a1_0), (.tree (.pair .int (.pair .int .int)) a1_1), (.tree .int a1_2), (.tree .int a1_3)])), (2, (.agg [(.int .i64 a2_0), (.tree (.pair .int (.pair .int .int)) a2_1), (.tree .int a2_2), (.tree .int a2_3)]))]) rfl ?_
  unfold m_laws_FnExactGlueNetworks
  unfold L_laws_FnExactGlueNetworks at h
  refine awp_seq_ ?_
  refine awp_region_ 4 (by kernel_rfl) ?_
  refine rs1 (.box (4, 1) 0) (4, 1) (.cells 25 [(.int .i64 a1_0), (.tree (.pair .int (.pair .int .int)) a1_1), (.tree .int a1_2), (.tree .int a1_3)]) (by kernel_rfl) ?_
  refine rs1 (.box (5, 2) 0) (5, 2) (.cells 25 [(.int .i64 a2_0), (.tree (.pair .int (.pair .int .int)) a2_1), (.tree .int a2_2), (.tree .int a2_3)]) (by kernel_rfl) ?_
  refine rs0 (.bool false) (by kernel_rfl) ?_
  refine rnil (tn_ ?_)
  refine awp_seq_ ?_
  refine awp_region_ 5 (by kernel_rfl) ?_
  refine rs0 (.int .i64 1048576) (by kernel_rfl) ?_
  refine rnil (tn_ ?_)
  refine awp_seq_ ?_
  obtain ⟨y4, h4, h⟩ := ob_some h
  refine awp_region_ 9 (by kernel_rfl) ?_
  refine rsl (.agg [(.int .i64 a1_0), (.tree (.pair .int (.pair .int .int)) a1_1), (.tree .int a1_2), (.tree .int a1_3)]) (by kernel_rfl) ?_
  refine rs0 (.int .i64 1048576) (by kernel_rfl) ?_
  refine rcall (.int .i64 y4) [] [(.agg [(.int .i64 a1_0), (.tree (.pair .int (.pair .int .int)) a1_1), (.tree .int a1_2), (.tree .int a1_3)]), (.int .i64 1048576)] _ (caps := []) (args0 := [(.agg [(.int .i64 a1_0), (.tree (.pair .int (.pair .int .int)) a1_1), (.tree .int a1_2), (.tree .int a1_3)]), (.int .i64 1048576)]) trivial (by kernel_rfl) (by kernel_rfl) (by kernel_rfl) (by kernel_rfl) (ok_laws_szNetwork h4) hb_laws_szNetwork (by kernel_rfl) ?_
  refine rs0 (.int .i64 y4) (by kernel_rfl) ?_
  refine rnil (tn_ ?_)
  refine awp_seq_ ?_
  refine awp_seq_ ?_
  refine awp_region_ 11 (by kernel_rfl) ?_
  refine rs0 (.int .i64 y4) (by kernel_rfl) ?_
  refine rs0 (.bool (decide (y4 < 0))) (by kernel_rfl) ?_
  refine rnil (tn_ ?_)
  rcases cond_some h with ⟨q7, h⟩ | ⟨q7, h⟩
  · have q7_ := of_decide_eq_true q7
    refine awp_condT_ q7 (by kernel_rfl) ?_
    refine awp_seq_ ?_
    refine awp_region_ 12 (by kernel_rfl) ?_
    refine rs0 (.bool true) (by kernel_rfl) ?_
    refine rnil (tn_ ?_)
    refine awp_ret_ (tr_ ?_)
    obtain rfl := Option.some.inj h
    exact ret_ [(.bool true)] (by simp) (by kernel_rfl) (p_one rfl (l_sc (by kernel_rfl)) p_nil) (by kernel_rfl) (by kernel_rfl)
  · have q7_ := of_decide_eq_false q7
    refine awp_condF_ q7 (by kernel_rfl) ?_
    refine awp_skip_ (tn_ ?_)
    refine awp_seq_ ?_
    obtain ⟨y10, h10, h⟩ := ob_some h
    refine awp_region_ 15 (by kernel_rfl) ?_
    refine rsl (.agg [(.int .i64 a2_0), (.tree (.pair .int (.pair .int .int)) a2_1), (.tree .int a2_2), (.tree .int a2_3)]) (by kernel_rfl) ?_
    refine rs0 (.int .i64 y4) (by kernel_rfl) ?_
    refine rcall (.int .i64 y10) [] [(.agg [(.int .i64 a2_0), (.tree (.pair .int (.pair .int .int)) a2_1), (.tree .int a2_2), (.tree .int a2_3)]), (.int .i64 y4)] _ (caps := []) (args0 := [(.agg [(.int .i64 a2_0), (.tree (.pair .int (.pair .int .int)) a2_1), (.tree .int a2_2), (.tree .int a2_3)]), (.int .i64 y4)]) trivial (by kernel_rfl) (by kernel_rfl) (by kernel_rfl) (by kernel_rfl) (ok_laws_szNetwork h10) hb_laws_szNetwork (by kernel_rfl) ?_
    refine rs0 (.int .i64 y10) (by kernel_rfl) ?_
    refine rnil (tn_ ?_)
    refine awp_seq_ ?_
    refine awp_seq_ ?_
    refine awp_region_ 17 (by kernel_rfl) ?_
    refine rs0 (.int .i64 y10) (by kernel_rfl) ?_
    refine rs0 (.bool (decide (y10 < 0))) (by kernel_rfl) ?_
    refine rnil (tn_ ?_)
    rcases cond_some h with ⟨q13, h⟩ | ⟨q13, h⟩
    · have q13_ := of_decide_eq_true q13
      refine awp_condT_ q13 (by kernel_rfl) ?_
      refine awp_seq_ ?_
      refine awp_region_ 18 (by kernel_rfl) ?_
      refine rs0 (.bool true) (by kernel_rfl) ?_
      refine rnil (tn_ ?_)
      refine awp_ret_ (tr_ ?_)
      obtain rfl := Option.some.inj h
      exact ret_ [(.bool true)] (by simp) (by kernel_rfl) (p_one rfl (l_sc (by kernel_rfl)) p_nil) (by kernel_rfl) (by kernel_rfl)
    · have q13_ := of_decide_eq_false q13
      refine awp_condF_ q13 (by kernel_rfl) ?_
      refine awp_skip_ (tn_ ?_)
      refine awp_seq_ ?_
      obtain ⟨y16, h16, h⟩ := ob_some h
      obtain ⟨y17, h17, h⟩ := ob_some h
      obtain ⟨y18, h18, h⟩ := ob_some h
      refine awp_regionD_ 29 (by kernel_rfl) ?_
      refine ds0 (.int .i64 a0) (by kernel_rfl) ?_
      refine dsl (.agg [(.int .i64 a1_0), (.tree (.pair .int (.pair .int .int)) a1_1), (.tree .int a1_2), (.tree .int a1_3)]) (by kernel_rfl) ?_
      refine dcall (.agg [(.int .i64 y16.1), (.own (512, 19) (.pair .int (.pair .int .int)) 0 y16.2.1.length), (.own (513, 19) .int 0 y16.2.2.1.length), (.own (514, 19) .int 0 y16.2.2.2.length)]) [((512, 19), some (.arr 59 (.pair .int (.pair .int .int)) y16.2.1)), ((513, 19), some (.arr 3 .int y16.2.2.1)), ((514, 19), some (.arr 3 .int y16.2.2.2))] [(.agg [(.int .i64 a1_0), (.tree (.pair .int (.pair .int .int)) a1_1), (.tree .int a1_2), (.tree .int a1_3)])] _ (caps := []) (args0 := [(.agg [(.int .i64 a1_0), (.tree (.pair .int (.pair .int .int)) a1_1), (.tree .int a1_2), (.tree .int a1_3)])]) trivial (by kernel_rfl) (by kernel_rfl) (by kernel_rfl) (by kernel_rfl) (ok_laws_toNetwork h16) hb_laws_toNetwork (by kernel_rfl) ?_
      refine dsl (.agg [(.int .i64 a2_0), (.tree (.pair .int (.pair .int .int)) a2_1), (.tree .int a2_2), (.tree .int a2_3)]) (by kernel_rfl) ?_
      refine dcall (.agg [(.int .i64 y17.1), (.own (544, 21) (.pair .int (.pair .int .int)) 0 y17.2.1.length), (.own (545, 21) .int 0 y17.2.2.1.length), (.own (546, 21) .int 0 y17.2.2.2.length)]) [((544, 21), some (.arr 59 (.pair .int (.pair .int .int)) y17.2.1)), ((545, 21), some (.arr 3 .int y17.2.2.1)), ((546, 21), some (.arr 3 .int y17.2.2.2))] [(.agg [(.int .i64 a2_0), (.tree (.pair .int (.pair .int .int)) a2_1), (.tree .int a2_2), (.tree .int a2_3)])] _ (caps := []) (args0 := [(.agg [(.int .i64 a2_0), (.tree (.pair .int (.pair .int .int)) a2_1), (.tree .int a2_2), (.tree .int a2_3)])]) trivial (by kernel_rfl) (by kernel_rfl) (by kernel_rfl) (by kernel_rfl) (ok_laws_toNetwork h17) hb_laws_toNetwork (by kernel_rfl) ?_
      refine dcall (.tup [(.agg [(.int .i64 y18.1), (.own (560, 22) (.pair .int (.pair .int .int)) 0 y18.2.1.length), (.own (561, 22) .int 0 y18.2.2.1.length), (.own (562, 22) .int 0 y18.2.2.2.1.length)]), (.bool y18.2.2.2.2)]) [((560, 22), some (.arr 59 (.pair .int (.pair .int .int)) y18.2.1)), ((561, 22), some (.arr 3 .int y18.2.2.1)), ((562, 22), some (.arr 3 .int y18.2.2.2.1))] [(.int .i64 a0), (.agg [(.int .i64 y16.1), (.own (512, 19) (.pair .int (.pair .int .int)) 0 y16.2.1.length), (.own (513, 19) .int 0 y16.2.2.1.length), (.own (514, 19) .int 0 y16.2.2.2.length)]), (.agg [(.int .i64 y17.1), (.own (544, 21) (.pair .int (.pair .int .int)) 0 y17.2.1.length), (.own (545, 21) .int 0 y17.2.2.1.length), (.own (546, 21) .int 0 y17.2.2.2.length)])] _ (caps := []) (args0 := [(.int .i64 a0), (.agg [(.int .i64 y16.1), (.tree (.pair .int (.pair .int .int)) y16.2.1), (.tree .int y16.2.2.1), (.tree .int y16.2.2.2)]), (.agg [(.int .i64 y17.1), (.tree (.pair .int (.pair .int .int)) y17.2.1), (.tree .int y17.2.2.1), (.tree .int y17.2.2.2)])]) trivial (by kernel_rfl) (by kernel_rfl) (gm_cons (by kernel_rfl) (gm_cons (gd_agg (gm_cons (by kernel_rfl) (gm_cons (gd_own (e := 59) (by kernel_rfl) rfl) (gm_cons (gd_own (e := 3) (by kernel_rfl) rfl) (gm_cons (gd_own (e := 3) (by kernel_rfl) rfl) gm_nil))))) (gm_cons (gd_agg (gm_cons (by kernel_rfl) (gm_cons (gd_own (e := 59) (by kernel_rfl) rfl) (gm_cons (gd_own (e := 3) (by kernel_rfl) rfl) (gm_cons (gd_own (e := 3) (by kernel_rfl) rfl) gm_nil))))) gm_nil))) (by kernel_rfl) (ok_spec_GlueNetworks h18) hb_spec_GlueNetworks (by kernel_rfl) ?_
      refine ds0 (.tup [(.agg [(.int .i64 y18.1), (.own (560, 22) (.pair .int (.pair .int .int)) 0 y18.2.1.length), (.own (561, 22) .int 0 y18.2.2.1.length), (.own (562, 22) .int 0 y18.2.2.2.1.length)]), (.bool y18.2.2.2.2)]) (by kernel_rfl) ?_
      refine ds0 (.agg [(.int .i64 y18.1), (.own (560, 22) (.pair .int (.pair .int .int)) 0 y18.2.1.length), (.own (561, 22) .int 0 y18.2.2.1.length), (.own (562, 22) .int 0 y18.2.2.2.1.length)]) (by kernel_rfl) ?_
      refine ds0 (.bool y18.2.2.2.2) (by kernel_rfl) ?_
      refine ds1 (.box (8, 26) 0) (8, 26) (.cells 30 [(.int .i64 0), .nils, .nils, .nils]) (by kernel_rfl) ?_
      refine dsn2 (8, 26) (8, 26) (.cells 30 [(.int .i64 y18.1), (.own (560, 22) (.pair .int (.pair .int .int)) 0 y18.2.1.length), (.own (561, 22) .int 0 y18.2.2.1.length), (.own (562, 22) .int 0 y18.2.2.2.1.length)]) (by kernel_rfl) ?_
      refine ds0 (.bool y18.2.2.2.2) (by kernel_rfl) ?_
      refine dnil (by kernel_rfl) (tn_ ?_)
      refine awp_seq_ ?_
      obtain ⟨y20, h20, h⟩ := ob_some h
      refine awp_region_ 33 (by kernel_rfl) ?_
      refine rsl (.agg [(.int .i64 a1_0), (.tree (.pair .int (.pair .int .int)) a1_1), (.tree .int a1_2), (.tree .int a1_3)]) (by kernel_rfl) ?_
      refine rcall (.agg [(.int .i64 y20.1), (.own (624, 30) (.pair .int (.pair .int .int)) 0 y20.2.1.length), (.own (625, 30) .int 0 y20.2.2.1.length), (.own (626, 30) .int 0 y20.2.2.2.length)]) [((624, 30), some (.arr 59 (.pair .int (.pair .int .int)) y20.2.1)), ((625, 30), some (.arr 3 .int y20.2.2.1)), ((626, 30), some (.arr 3 .int y20.2.2.2))] [(.agg [(.int .i64 a1_0), (.tree (.pair .int (.pair .int .int)) a1_1), (.tree .int a1_2), (.tree .int a1_3)])] _ (caps := []) (args0 := [(.agg [(.int .i64 a1_0), (.tree (.pair .int (.pair .int .int)) a1_1), (.tree .int a1_2), (.tree .int a1_3)])]) trivial (by kernel_rfl) (by kernel_rfl) (by kernel_rfl) (by kernel_rfl) (ok_laws_toNetwork h20) hb_laws_toNetwork (by kernel_rfl) ?_
      refine rs1 (.box (10, 31) 0) (10, 31) (.cells 30 [(.int .i64 0), .nils, .nils, .nils]) (by kernel_rfl) ?_
      refine rsn2 (10, 31) (10, 31) (.cells 30 [(.int .i64 y20.1), (.own (624, 30) (.pair .int (.pair .int .int)) 0 y20.2.1.length), (.own (625, 30) .int 0 y20.2.2.1.length), (.own (626, 30) .int 0 y20.2.2.2.length)]) (by kernel_rfl) ?_
      refine rnil (tn_ ?_)
      refine awp_seq_ ?_
      obtain ⟨y22, h22, h⟩ := ob_some h
      refine awp_region_ 37 (by kernel_rfl) ?_
      refine rsl (.agg [(.int .i64 a2_0), (.tree (.pair .int (.pair .int .int)) a2_1), (.tree .int a2_2), (.tree .int a2_3)]) (by kernel_rfl) ?_
      refine rcall (.agg [(.int .i64 y22.1), (.own (656, 34) (.pair .int (.pair .int .int)) 0 y22.2.1.length), (.own (657, 34) .int 0 y22.2.2.1.length), (.own (658, 34) .int 0 y22.2.2.2.length)]) [((656, 34), some (.arr 59 (.pair .int (.pair .int .int)) y22.2.1)), ((657, 34), some (.arr 3 .int y22.2.2.1)), ((658, 34), some (.arr 3 .int y22.2.2.2))] [(.agg [(.int .i64 a2_0), (.tree (.pair .int (.pair .int .int)) a2_1), (.tree .int a2_2), (.tree .int a2_3)])] _ (caps := []) (args0 := [(.agg [(.int .i64 a2_0), (.tree (.pair .int (.pair .int .int)) a2_1), (.tree .int a2_2), (.tree .int a2_3)])]) trivial (by kernel_rfl) (by kernel_rfl) (by kernel_rfl) (by kernel_rfl) (ok_laws_toNetwork h22) hb_laws_toNetwork (by kernel_rfl) ?_
      refine rs1 (.box (11, 35) 0) (11, 35) (.cells 30 [(.int .i64 0), .nils, .nils, .nils]) (by kernel_rfl) ?_
      refine rsn2 (11, 35) (11, 35) (.cells 30 [(.int .i64 y22.1), (.own (656, 34) (.pair .int (.pair .int .int)) 0 y22.2.1.length), (.own (657, 34) .int 0 y22.2.2.1.length), (.own (658, 34) .int 0 y22.2.2.2.length)]) (by kernel_rfl) ?_
      refine rnil (tn_ ?_)
      refine awp_seq_ ?_
      obtain ⟨y24, h24, h⟩ := ob_some h
      refine awp_region_ 47 (by kernel_rfl) ?_
      refine rs0 (.int .i64 a0) (by kernel_rfl) ?_
      refine rsl (.agg [(.int .i64 y20.1), (.own (624, 30) (.pair .int (.pair .int .int)) 0 y20.2.1.length), (.own (625, 30) .int 0 y20.2.2.1.length), (.own (626, 30) .int 0 y20.2.2.2.length)]) (by kernel_rfl) ?_
      refine rsl (.agg [(.int .i64 y22.1), (.own (656, 34) (.pair .int (.pair .int .int)) 0 y22.2.1.length), (.own (657, 34) .int 0 y22.2.2.1.length), (.own (658, 34) .int 0 y22.2.2.2.length)]) (by kernel_rfl) ?_
      refine rcall (.tup [(.agg [(.int .i64 y24.1), (.own (736, 40) (.pair .int (.pair .int .int)) 0 y24.2.1.length), (.own (737, 40) .int 0 y24.2.2.1.length), (.own (738, 40) .int 0 y24.2.2.2.1.length)]), (.bool y24.2.2.2.2)]) [((736, 40), some (.arr 59 (.pair .int (.pair .int .int)) y24.2.1)), ((737, 40), some (.arr 3 .int y24.2.2.1)), ((738, 40), some (.arr 3 .int y24.2.2.2.1))] [(.int .i64 a0), (.agg [(.int .i64 y20.1), (.own (624, 30) (.pair .int (.pair .int .int)) 0 y20.2.1.length), (.own (625, 30) .int 0 y20.2.2.1.length), (.own (626, 30) .int 0 y20.2.2.2.length)]), (.agg [(.int .i64 y22.1), (.own (656, 34) (.pair .int (.pair .int .int)) 0 y22.2.1.length), (.own (657, 34) .int 0 y22.2.2.1.length), (.own (658, 34) .int 0 y22.2.2.2.length)])] _ (caps := []) (args0 := [(.int .i64 a0), (.agg [(.int .i64 y20.1), (.tree (.pair .int (.pair .int .int)) y20.2.1), (.tree .int y20.2.2.1), (.tree .int y20.2.2.2)]), (.agg [(.int .i64 y22.1), (.tree (.pair .int (.pair .int .int)) y22.2.1), (.tree .int y22.2.2.1), (.tree .int y22.2.2.2)])]) trivial (by kernel_rfl) (by kernel_rfl) (gm_cons (by kernel_rfl) (gm_cons (gd_agg (gm_cons (by kernel_rfl) (gm_cons (gd_own (e := 59) (by kernel_rfl) rfl) (gm_cons (gd_own (e := 3) (by kernel_rfl) rfl) (gm_cons (gd_own (e := 3) (by kernel_rfl) rfl) gm_nil))))) (gm_cons (gd_agg (gm_cons (by kernel_rfl) (gm_cons (gd_own (e := 59) (by kernel_rfl) rfl) (gm_cons (gd_own (e := 3) (by kernel_rfl) rfl) (gm_cons (gd_own (e := 3) (by kernel_rfl) rfl) gm_nil))))) gm_nil))) (by kernel_rfl) (ok_impl_GlueNetworks h24) hb_impl_GlueNetworks (by kernel_rfl) ?_
      refine rs0 (.tup [(.agg [(.int .i64 y24.1), (.own (736, 40) (.pair .int (.pair .int .int)) 0 y24.2.1.length), (.own (737, 40) .int 0 y24.2.2.1.length), (.own (738, 40) .int 0 y24.2.2.2.1.length)]), (.bool y24.2.2.2.2)]) (by kernel_rfl) ?_
      refine rs0 (.agg [(.int .i64 y24.1), (.own (736, 40) (.pair .int (.pair .int .int)) 0 y24.2.1.length), (.own (737, 40) .int 0 y24.2.2.1.length), (.own (738, 40) .int 0 y24.2.2.2.1.length)]) (by kernel_rfl) ?_
      refine rs0 (.bool y24.2.2.2.2) (by kernel_rfl) ?_
      refine rs1 (.box (12, 44) 0) (12, 44) (.cells 30 [(.int .i64 0), .nils, .nils, .nils]) (by kernel_rfl) ?_
      refine rsn2 (12, 44) (12, 44) (.cells 30 [(.int .i64 y24.1), (.own (736, 40) (.pair .int (.pair .int .int)) 0 y24.2.1.length), (.own (737, 40) .int 0 y24.2.2.1.length), (.own (738, 40) .int 0 y24.2.2.2.1.length)]) (by kernel_rfl) ?_
      refine rs0 (.bool y24.2.2.2.2) (by kernel_rfl) ?_
      refine rnil (tn_ ?_)
      refine awp_seq_ ?_
      refine awp_seqB h (fun (l26_m57 : Bool) S_ => S_ = ⟨mkTm [(0, (.int .i64 a0)), (4, (.box (0, 1) 0)), (5, (.box (1, 1) 0)), (8, (.box (2, 1) 0)), (9, (.bool y18.2.2.2.2)), (10, (.box (3, 1) 0)), (11, (.box (4, 1) 0)), (12, (.box (5, 1) 0)), (13, (.bool y24.2.2.2.2)), (57, (.bool l26_m57))], mkOb (someL [((0, 1), .cells 25 [(.int .i64 a1_0), (.tree (.pair .int (.pair .int .int)) a1_1), (.tree .int a1_2), (.tree .int a1_3)]), ((1, 1), .cells 25 [(.int .i64 a2_0), (.tree (.pair .int (.pair .int .int)) a2_1), (.tree .int a2_2), (.tree .int a2_3)]), ((2, 1), .cells 30 [(.int .i64 y18.1), (.own (6, 1) (.pair .int (.pair .int .int)) 0 y18.2.1.length), (.own (7, 1) .int 0 y18.2.2.1.length), (.own (8, 1) .int 0 y18.2.2.2.1.length)]), ((3, 1), .cells 30 [(.int .i64 y20.1), (.own (9, 1) (.pair .int (.pair .int .int)) 0 y20.2.1.length), (.own (10, 1) .int 0 y20.2.2.1.length), (.own (11, 1) .int 0 y20.2.2.2.length)]), ((4, 1), .cells 30 [(.int .i64 y22.1), (.own (12, 1) (.pair .int (.pair .int .int)) 0 y22.2.1.length), (.own (13, 1) .int 0 y22.2.2.1.length), (.own (14, 1) .int 0 y22.2.2.2.length)]), ((5, 1), .cells 30 [(.int .i64 y24.1), (.own (15, 1) (.pair .int (.pair .int .int)) 0 y24.2.1.length), (.own (16, 1) .int 0 y24.2.2.1.length), (.own (17, 1) .int 0 y24.2.2.2.1.length)]), ((6, 1), .arr 59 (.pair .int (.pair .int .int)) y18.2.1), ((7, 1), .arr 3 .int y18.2.2.1), ((8, 1), .arr 3 .int y18.2.2.2.1), ((9, 1), .arr 59 (.pair .int (.pair .int .int)) y20.2.1), ((10, 1), .arr 3 .int y20.2.2.1), ((11, 1), .arr 3 .int y20.2.2.2), ((12, 1), .arr 59 (.pair .int (.pair .int .int)) y22.2.1), ((13, 1), .arr 3 .int y22.2.2.1), ((14, 1), .arr 3 .int y22.2.2.2), ((15, 1), .arr 59 (.pair .int (.pair .int .int)) y24.2.1), ((16, 1), .arr 3 .int y24.2.2.1), ((17, 1), .arr 3 .int y24.2.2.2.1)]), 2⟩) ?_ ?_
      · intro v_ h
        obtain ⟨y27, h27, h⟩ := ob_some h
        rcases cond_some h with ⟨q28, h⟩ | ⟨q28, h⟩
        · refine awp_region_ 56 (by kernel_rfl) ?_
          refine rsl (.agg [(.int .i64 y24.1), (.own (736, 40) (.pair .int (.pair .int .int)) 0 y24.2.1.length), (.own (737, 40) .int 0 y24.2.2.1.length), (.own (738, 40) .int 0 y24.2.2.2.1.length)]) (by kernel_rfl) ?_
          refine rsl (.agg [(.int .i64 y18.1), (.own (560, 22) (.pair .int (.pair .int .int)) 0 y18.2.1.length), (.own (561, 22) .int 0 y18.2.2.1.length), (.own (562, 22) .int 0 y18.2.2.2.1.length)]) (by kernel_rfl) ?_
          refine rcall (.bool y27) [] [(.agg [(.int .i64 y24.1), (.own (736, 40) (.pair .int (.pair .int .int)) 0 y24.2.1.length), (.own (737, 40) .int 0 y24.2.2.1.length), (.own (738, 40) .int 0 y24.2.2.2.1.length)]), (.agg [(.int .i64 y18.1), (.own (560, 22) (.pair .int (.pair .int .int)) 0 y18.2.1.length), (.own (561, 22) .int 0 y18.2.2.1.length), (.own (562, 22) .int 0 y18.2.2.2.1.length)])] _ (caps := []) (args0 := [(.agg [(.int .i64 y24.1), (.tree (.pair .int (.pair .int .int)) y24.2.1), (.tree .int y24.2.2.1), (.tree .int y24.2.2.2.1)]), (.agg [(.int .i64 y18.1), (.tree (.pair .int (.pair .int .int)) y18.2.1), (.tree .int y18.2.2.1), (.tree .int y18.2.2.2.1)])]) trivial (by kernel_rfl) (by kernel_rfl) (gm_cons (gd_agg (gm_cons (by kernel_rfl) (gm_cons (gd_own (e := 59) (by kernel_rfl) rfl) (gm_cons (gd_own (e := 3) (by kernel_rfl) rfl) (gm_cons (gd_own (e := 3) (by kernel_rfl) rfl) gm_nil))))) (gm_cons (gd_agg (gm_cons (by kernel_rfl) (gm_cons (gd_own (e := 59) (by kernel_rfl) rfl) (gm_cons (gd_own (e := 3) (by kernel_rfl) rfl) (gm_cons (gd_own (e := 3) (by kernel_rfl) rfl) gm_nil))))) gm_nil)) (by kernel_rfl) (ok_laws_eqNetwork h27) hb_laws_eqNetwork (by kernel_rfl) ?_
          refine rs0 (.bool (!y27)) (by kernel_rfl) ?_
          refine rs0 (.bool (!y27)) (by kernel_rfl) ?_
          refine rs0 .any (s_skip (by kernel_rfl) q28) ?_
          refine rs0 .any (s_skip (by kernel_rfl) q28) ?_
          refine rs0 .any (s_skip (by kernel_rfl) q28) ?_
          refine rs0 (.bool true) (s_pickT (by kernel_rfl) q28) ?_
          refine rnil (tn_ ?_)
          obtain rfl := Option.some.inj h
          exact ⟨_, (weak_ren (renF [((0, 1), (4, 1)), ((1, 1), (5, 2)), ((2, 1), (8, 26)), ((6, 1), (560, 22)), ((7, 1), (561, 22)), ((8, 1), (562, 22)), ((3, 1), (10, 31)), ((9, 1), (624, 30)), ((10, 1), (625, 30)), ((11, 1), (626, 30)), ((4, 1), (11, 35)), ((12, 1), (656, 34)), ((13, 1), (657, 34)), ((14, 1), (658, 34)), ((5, 1), (12, 44)), ((15, 1), (736, 40)), ((16, 1), (737, 40)), ((17, 1), (738, 40))]) (by kernel_rfl) (by kernel_rfl) (by kernel_rfl)), rfl⟩
        · refine awp_region_ 56 (by kernel_rfl) ?_
          refine rsl (.agg [(.int .i64 y24.1), (.own (736, 40) (.pair .int (.pair .int .int)) 0 y24.2.1.length), (.own (737, 40) .int 0 y24.2.2.1.length), (.own (738, 40) .int 0 y24.2.2.2.1.length)]) (by kernel_rfl) ?_
          refine rsl (.agg [(.int .i64 y18.1), (.own (560, 22) (.pair .int (.pair .int .int)) 0 y18.2.1.length), (.own (561, 22) .int 0 y18.2.2.1.length), (.own (562, 22) .int 0 y18.2.2.2.1.length)]) (by kernel_rfl) ?_
          refine rcall (.bool y27) [] [(.agg [(.int .i64 y24.1), (.own (736, 40) (.pair .int (.pair .int .int)) 0 y24.2.1.length), (.own (737, 40) .int 0 y24.2.2.1.length), (.own (738, 40) .int 0 y24.2.2.2.1.length)]), (.agg [(.int .i64 y18.1), (.own (560, 22) (.pair .int (.pair .int .int)) 0 y18.2.1.length), (.own (561, 22) .int 0 y18.2.2.1.length), (.own (562, 22) .int 0 y18.2.2.2.1.length)])] _ (caps := []) (args0 := [(.agg [(.int .i64 y24.1), (.tree (.pair .int (.pair .int .int)) y24.2.1), (.tree .int y24.2.2.1), (.tree .int y24.2.2.2.1)]), (.agg [(.int .i64 y18.1), (.tree (.pair .int (.pair .int .int)) y18.2.1), (.tree .int y18.2.2.1), (.tree .int y18.2.2.2.1)])]) trivial (by kernel_rfl) (by kernel_rfl) (gm_cons (gd_agg (gm_cons (by kernel_rfl) (gm_cons (gd_own (e := 59) (by kernel_rfl) rfl) (gm_cons (gd_own (e := 3) (by kernel_rfl) rfl) (gm_cons (gd_own (e := 3) (by kernel_rfl) rfl) gm_nil))))) (gm_cons (gd_agg (gm_cons (by kernel_rfl) (gm_cons (gd_own (e := 59) (by kernel_rfl) rfl) (gm_cons (gd_own (e := 3) (by kernel_rfl) rfl) (gm_cons (gd_own (e := 3) (by kernel_rfl) rfl) gm_nil))))) gm_nil)) (by kernel_rfl) (ok_laws_eqNetwork h27) hb_laws_eqNetwork (by kernel_rfl) ?_
          refine rs0 (.bool (!y27)) (by kernel_rfl) ?_
          refine rs0 (.bool (!y27)) (by kernel_rfl) ?_
          refine rs0 (.bool y24.2.2.2.2) (s_gd (by kernel_rfl) q28 (by kernel_rfl)) ?_
          refine rs0 (.bool y18.2.2.2.2) (s_gd (by kernel_rfl) q28 (by kernel_rfl)) ?_
          refine rs0 (.bool (y24.2.2.2.2 != y18.2.2.2.2)) (s_gd (by kernel_rfl) q28 (by kernel_rfl)) ?_
          refine rs0 (.bool (y24.2.2.2.2 != y18.2.2.2.2)) (s_pickF (by kernel_rfl) q28) ?_
          refine rnil (tn_ ?_)
          obtain rfl := Option.some.inj h
          exact ⟨_, (weak_ren (renF [((0, 1), (4, 1)), ((1, 1), (5, 2)), ((2, 1), (8, 26)), ((6, 1), (560, 22)), ((7, 1), (561, 22)), ((8, 1), (562, 22)), ((3, 1), (10, 31)), ((9, 1), (624, 30)), ((10, 1), (625, 30)), ((11, 1), (626, 30)), ((4, 1), (11, 35)), ((12, 1), (656, 34)), ((13, 1), (657, 34)), ((14, 1), (658, 34)), ((5, 1), (12, 44)), ((15, 1), (736, 40)), ((16, 1), (737, 40)), ((17, 1), (738, 40))]) (by kernel_rfl) (by kernel_rfl) (by kernel_rfl)), rfl⟩
      · rintro l26_m57 _ rfl h
        (try dsimp only at h)
        rcases cond_some h with ⟨q29, h⟩ | ⟨q29, h⟩
        · refine awp_condT_ q29 (by kernel_rfl) ?_
          refine awp_seq_ ?_
          refine awp_region_ 3 (by kernel_rfl) ?_
          refine rs0 (.bool false) (by kernel_rfl) ?_
          refine rnil (tn_ ?_)
          refine awp_ret_ (tr_ ?_)
          obtain rfl := Option.some.inj h
          exact ret_ [(.bool false)] (by simp) (by kernel_rfl) (p_one rfl (l_sc (by kernel_rfl)) p_nil) (by kernel_rfl) (by kernel_rfl)
        · refine awp_condF_ q29 (by kernel_rfl) ?_
          refine awp_skip_ (tn_ ?_)
          refine awp_seq_ ?_
          refine awp_seq_ ?_
          obtain ⟨y33, h33, h⟩ := ob_some h
          obtain ⟨y34, h34, h⟩ := ob_some h
          refine awp_regionD_ 7 (by kernel_rfl) ?_
          refine dsl (.agg [(.int .i64 y20.1), (.own (9, 1) (.pair .int (.pair .int .int)) 0 y20.2.1.length), (.own (10, 1) .int 0 y20.2.2.1.length), (.own (11, 1) .int 0 y20.2.2.2.length)]) (by kernel_rfl) ?_
          refine dsl (.agg [(.int .i64 a1_0), (.tree (.pair .int (.pair .int .int)) a1_1), (.tree .int a1_2), (.tree .int a1_3)]) (by kernel_rfl) ?_
          refine dcall (.agg [(.int .i64 y33.1), (.own (960, 4) (.pair .int (.pair .int .int)) 0 y33.2.1.length), (.own (961, 4) .int 0 y33.2.2.1.length), (.own (962, 4) .int 0 y33.2.2.2.length)]) [((960, 4), some (.arr 59 (.pair .int (.pair .int .int)) y33.2.1)), ((961, 4), some (.arr 3 .int y33.2.2.1)), ((962, 4), some (.arr 3 .int y33.2.2.2))] [(.agg [(.int .i64 a1_0), (.tree (.pair .int (.pair .int .int)) a1_1), (.tree .int a1_2), (.tree .int a1_3)])] _ (caps := []) (args0 := [(.agg [(.int .i64 a1_0), (.tree (.pair .int (.pair .int .int)) a1_1), (.tree .int a1_2), (.tree .int a1_3)])]) trivial (by kernel_rfl) (by kernel_rfl) (by kernel_rfl) (by kernel_rfl) (ok_laws_toNetwork h33) hb_laws_toNetwork (by kernel_rfl) ?_
          refine dcall (.bool y34) [] [(.agg [(.int .i64 y20.1), (.own (9, 1) (.pair .int (.pair .int .int)) 0 y20.2.1.length), (.own (10, 1) .int 0 y20.2.2.1.length), (.own (11, 1) .int 0 y20.2.2.2.length)]), (.agg [(.int .i64 y33.1), (.own (960, 4) (.pair .int (.pair .int .int)) 0 y33.2.1.length), (.own (961, 4) .int 0 y33.2.2.1.length), (.own (962, 4) .int 0 y33.2.2.2.length)])] _ (caps := []) (args0 := [(.agg [(.int .i64 y20.1), (.tree (.pair .int (.pair .int .int)) y20.2.1), (.tree .int y20.2.2.1), (.tree .int y20.2.2.2)]), (.agg [(.int .i64 y33.1), (.tree (.pair .int (.pair .int .int)) y33.2.1), (.tree .int y33.2.2.1), (.tree .int y33.2.2.2)])]) trivial (by kernel_rfl) (by kernel_rfl) (gm_cons (gd_agg (gm_cons (by kernel_rfl) (gm_cons (gd_own (e := 59) (by kernel_rfl) rfl) (gm_cons (gd_own (e := 3) (by kernel_rfl) rfl) (gm_cons (gd_own (e := 3) (by kernel_rfl) rfl) gm_nil))))) (gm_cons (gd_agg (gm_cons (by kernel_rfl) (gm_cons (gd_own (e := 59) (by kernel_rfl) rfl) (gm_cons (gd_own (e := 3) (by kernel_rfl) rfl) (gm_cons (gd_own (e := 3) (by kernel_rfl) rfl) gm_nil))))) gm_nil)) (by kernel_rfl) (ok_laws_eqNetwork h34) hb_laws_eqNetwork (by kernel_rfl) ?_
          refine ds0 (.bool (!y34)) (by kernel_rfl) ?_
          refine dnil (by kernel_rfl) (tn_ ?_)
          rcases cond_some h with ⟨q35, h⟩ | ⟨q35, h⟩
          · refine awp_condT_ q35 (by kernel_rfl) ?_
            refine awp_seq_ ?_
            refine awp_region_ 8 (by kernel_rfl) ?_
            refine rs0 (.bool false) (by kernel_rfl) ?_
            refine rnil (tn_ ?_)
            refine awp_ret_ (tr_ ?_)
            obtain rfl := Option.some.inj h
            exact ret_ [(.bool false)] (by simp) (by kernel_rfl) (p_one rfl (l_sc (by kernel_rfl)) p_nil) (by kernel_rfl) (by kernel_rfl)
          · refine awp_condF_ q35 (by kernel_rfl) ?_
            refine awp_skip_ (tn_ ?_)
            refine awp_seq_ ?_
            refine awp_seq_ ?_
            obtain ⟨y39, h39, h⟩ := ob_some h
            obtain ⟨y40, h40, h⟩ := ob_some h
            refine awp_regionD_ 12 (by kernel_rfl) ?_
            refine dsl (.agg [(.int .i64 y22.1), (.own (12, 1) (.pair .int (.pair .int .int)) 0 y22.2.1.length), (.own (13, 1) .int 0 y22.2.2.1.length), (.own (14, 1) .int 0 y22.2.2.2.length)]) (by kernel_rfl) ?_
            refine dsl (.agg [(.int .i64 a2_0), (.tree (.pair .int (.pair .int .int)) a2_1), (.tree .int a2_2), (.tree .int a2_3)]) (by kernel_rfl) ?_
            refine dcall (.agg [(.int .i64 y39.1), (.own (1040, 9) (.pair .int (.pair .int .int)) 0 y39.2.1.length), (.own (1041, 9) .int 0 y39.2.2.1.length), (.own (1042, 9) .int 0 y39.2.2.2.length)]) [((1040, 9), some (.arr 59 (.pair .int (.pair .int .int)) y39.2.1)), ((1041, 9), some (.arr 3 .int y39.2.2.1)), ((1042, 9), some (.arr 3 .int y39.2.2.2))] [(.agg [(.int .i64 a2_0), (.tree (.pair .int (.pair .int .int)) a2_1), (.tree .int a2_2), (.tree .int a2_3)])] _ (caps := []) (args0 := [(.agg [(.int .i64 a2_0), (.tree (.pair .int (.pair .int .int)) a2_1), (.tree .int a2_2), (.tree .int a2_3)])]) trivial (by kernel_rfl) (by kernel_rfl) (by kernel_rfl) (by kernel_rfl) (ok_laws_toNetwork h39) hb_laws_toNetwork (by kernel_rfl) ?_
            refine dcall (.bool y40) [] [(.agg [(.int .i64 y22.1), (.own (12, 1) (.pair .int (.pair .int .int)) 0 y22.2.1.length), (.own (13, 1) .int 0 y22.2.2.1.length), (.own (14, 1) .int 0 y22.2.2.2.length)]), (.agg [(.int .i64 y39.1), (.own (1040, 9) (.pair .int (.pair .int .int)) 0 y39.2.1.length), (.own (1041, 9) .int 0 y39.2.2.1.length), (.own (1042, 9) .int 0 y39.2.2.2.length)])] _ (caps := []) (args0 := [(.agg [(.int .i64 y22.1), (.tree (.pair .int (.pair .int .int)) y22.2.1), (.tree .int y22.2.2.1), (.tree .int y22.2.2.2)]), (.agg [(.int .i64 y39.1), (.tree (.pair .int (.pair .int .int)) y39.2.1), (.tree .int y39.2.2.1), (.tree .int y39.2.2.2)])]) trivial (by kernel_rfl) (by kernel_rfl) (gm_cons (gd_agg (gm_cons (by kernel_rfl) (gm_cons (gd_own (e := 59) (by kernel_rfl) rfl) (gm_cons (gd_own (e := 3) (by kernel_rfl) rfl) (gm_cons (gd_own (e := 3) (by kernel_rfl) rfl) gm_nil))))) (gm_cons (gd_agg (gm_cons (by kernel_rfl) (gm_cons (gd_own (e := 59) (by kernel_rfl) rfl) (gm_cons (gd_own (e := 3) (by kernel_rfl) rfl) (gm_cons (gd_own (e := 3) (by kernel_rfl) rfl) gm_nil))))) gm_nil)) (by kernel_rfl) (ok_laws_eqNetwork h40) hb_laws_eqNetwork (by kernel_rfl) ?_
            refine ds0 (.bool (!y40)) (by kernel_rfl) ?_
            refine dnil (by kernel_rfl) (tn_ ?_)
            rcases cond_some h with ⟨q41, h⟩ | ⟨q41, h⟩
            · refine awp_condT_ q41 (by kernel_rfl) ?_
              refine awp_seq_ ?_
              refine awp_region_ 13 (by kernel_rfl) ?_
              refine rs0 (.bool false) (by kernel_rfl) ?_
              refine rnil (tn_ ?_)
              refine awp_ret_ (tr_ ?_)
              obtain rfl := Option.some.inj h
              exact ret_ [(.bool false)] (by simp) (by kernel_rfl) (p_one rfl (l_sc (by kernel_rfl)) p_nil) (by kernel_rfl) (by kernel_rfl)
            · refine awp_condF_ q41 (by kernel_rfl) ?_
              refine awp_skip_ (tn_ ?_)
              refine awp_seq_ ?_
              refine awp_region_ 13 (by kernel_rfl) ?_
              refine rs0 (.int .i64 1) (by kernel_rfl) ?_
              refine rnil (tn_ ?_)
              refine awp_seq_ ?_
              obtain ⟨y45, h45, h⟩ := ob_some h
              obtain ⟨g46, h⟩ := og_some h
              obtain ⟨g47, h⟩ := og_some h
              obtain ⟨g48, h⟩ := og_some h
              refine awp_region_ 17 (by kernel_rfl) ?_
              refine rsl (.agg [(.int .i64 y20.1), (.own (9, 1) (.pair .int (.pair .int .int)) 0 y20.2.1.length), (.own (10, 1) .int 0 y20.2.2.1.length), (.own (11, 1) .int 0 y20.2.2.2.length)]) (by kernel_rfl) ?_
              refine rs0 (.int .i64 1) (by kernel_rfl) ?_
              refine rcallM (.int .i64 y45.2.2.2) [((0, 0), (9, 1)), ((1, 0), (10, 1)), ((2, 0), (11, 1))] [(.agg [(.int .i64 y20.1), (.own (9, 1) (.pair .int (.pair .int .int)) 0 y20.2.1.length), (.own (10, 1) .int 0 y20.2.2.1.length), (.own (11, 1) .int 0 y20.2.2.2.length)]), (.int .i64 1)] (caps := []) trivial (by kernel_rfl) (by kernel_rfl) (ok_laws_markNetwork h45 rfl rfl rfl) (by kernel_rfl) (by kernel_rfl) (by kernel_rfl) (by kernel_rfl) (by kernel_rfl) hb_laws_markNetwork ?_
              refine rs0 (.int .i64 y45.2.2.2) (by kernel_rfl) ?_
              refine rnil (tn_ ?_)
              refine awp_seq_ ?_
              obtain ⟨y50, h50, h⟩ := ob_some h
              obtain ⟨g51, h⟩ := og_some h
              obtain ⟨g52, h⟩ := og_some h
              obtain ⟨g53, h⟩ := og_some h
              refine awp_region_ 21 (by kernel_rfl) ?_
              refine rsl (.agg [(.int .i64 y22.1), (.own (12, 1) (.pair .int (.pair .int .int)) 0 y22.2.1.length), (.own (13, 1) .int 0 y22.2.2.1.length), (.own (14, 1) .int 0 y22.2.2.2.length)]) (by kernel_rfl) ?_
              refine rs0 (.int .i64 y45.2.2.2) (by kernel_rfl) ?_
              refine rcallM (.int .i64 y50.2.2.2) [((0, 0), (12, 1)), ((1, 0), (13, 1)), ((2, 0), (14, 1))] [(.agg [(.int .i64 y22.1), (.own (12, 1) (.pair .int (.pair .int .int)) 0 y22.2.1.length), (.own (13, 1) .int 0 y22.2.2.1.length), (.own (14, 1) .int 0 y22.2.2.2.length)]), (.int .i64 y45.2.2.2)] (caps := []) trivial (by kernel_rfl) (by kernel_rfl) (ok_laws_markNetwork h50 rfl rfl rfl) (by kernel_rfl) (by kernel_rfl) (by kernel_rfl) (by kernel_rfl) (by kernel_rfl) hb_laws_markNetwork ?_
              refine rs0 (.int .i64 y50.2.2.2) (by kernel_rfl) ?_
              refine rnil (tn_ ?_)
              refine awp_seq_ ?_
              refine awp_seqB h (fun (l55_m86 : Bool) S_ => S_ = ⟨mkTm [(0, (.int .i64 a0)), (4, (.box (0, 1) 0)), (5, (.box (1, 1) 0)), (8, (.box (2, 1) 0)), (9, (.bool y18.2.2.2.2)), (12, (.box (3, 1) 0)), (86, (.bool l55_m86))], mkOb (someL [((0, 1), .cells 25 [(.int .i64 a1_0), (.tree (.pair .int (.pair .int .int)) a1_1), (.tree .int a1_2), (.tree .int a1_3)]), ((1, 1), .cells 25 [(.int .i64 a2_0), (.tree (.pair .int (.pair .int .int)) a2_1), (.tree .int a2_2), (.tree .int a2_3)]), ((2, 1), .cells 30 [(.int .i64 y18.1), (.own (4, 1) (.pair .int (.pair .int .int)) 0 y18.2.1.length), (.own (5, 1) .int 0 y18.2.2.1.length), (.own (6, 1) .int 0 y18.2.2.2.1.length)]), ((3, 1), .cells 30 [(.int .i64 y24.1), (.own (7, 1) (.pair .int (.pair .int .int)) 0 y24.2.1.length), (.own (8, 1) .int 0 y24.2.2.1.length), (.own (9, 1) .int 0 y24.2.2.2.1.length)]), ((4, 1), .arr 59 (.pair .int (.pair .int .int)) y18.2.1), ((5, 1), .arr 3 .int y18.2.2.1), ((6, 1), .arr 3 .int y18.2.2.2.1), ((7, 1), .arr 59 (.pair .int (.pair .int .int)) y24.2.1), ((8, 1), .arr 3 .int y24.2.2.1), ((9, 1), .arr 3 .int y24.2.2.2.1)]), 2⟩) ?_ ?_
              · intro v_ h
                rcases cond_some h with ⟨q56, h⟩ | ⟨q56, h⟩
                · have q56_ := of_decide_eq_true q56
                  refine awp_region_ 34 (by kernel_rfl) ?_
                  refine rs0 (.int .i64 y50.2.2.2) (by kernel_rfl) ?_
                  refine rs0 (.bool (decide (y50.2.2.2 < 0))) (by kernel_rfl) ?_
                  refine rs0 (.bool (decide (y50.2.2.2 < 0))) (by kernel_rfl) ?_
                  refine rs0 .any (s_skip (by kernel_rfl) q56) ?_
                  refine rs0 .any (s_skip (by kernel_rfl) q56) ?_
                  refine rs0 .any (s_skip (by kernel_rfl) q56) ?_
                  refine rs0 .any (s_skip (by kernel_rfl) q56) ?_
                  refine rs0 (.bool true) (s_pickT (by kernel_rfl) q56) ?_
                  refine rs0 (.bool true) (by kernel_rfl) ?_
                  refine rs0 .any (by kernel_rfl) ?_
                  refine rs0 .any (by kernel_rfl) ?_
                  refine rs0 .any (by kernel_rfl) ?_
                  refine rs0 (.bool true) (by kernel_rfl) ?_
                  refine rnil (tn_ ?_)
                  obtain rfl := Option.some.inj h
                  exact ⟨_, (weak_ren (renF [((4, 1), (6, 1)), ((5, 1), (7, 1)), ((6, 1), (8, 1)), ((3, 1), (5, 1)), ((7, 1), (15, 1)), ((8, 1), (16, 1)), ((9, 1), (17, 1))]) (by kernel_rfl) (by kernel_rfl) (by kernel_rfl)), rfl⟩
                · have q56_ := of_decide_eq_false q56
                  obtain ⟨y57, h57, h⟩ := ob_some h
                  rcases cond_some h with ⟨q58, h⟩ | ⟨q58, h⟩
                  · refine awp_region_ 34 (by kernel_rfl) ?_
                    refine rs0 (.int .i64 y50.2.2.2) (by kernel_rfl) ?_
                    refine rs0 (.bool (decide (y50.2.2.2 < 0))) (by kernel_rfl) ?_
                    refine rs0 (.bool (decide (y50.2.2.2 < 0))) (by kernel_rfl) ?_
                    refine rsl (.agg [(.int .i64 y24.1), (.own (15, 1) (.pair .int (.pair .int .int)) 0 y24.2.1.length), (.own (16, 1) .int 0 y24.2.2.1.length), (.own (17, 1) .int 0 y24.2.2.2.1.length)]) (s_gd (by kernel_rfl) q56 (by kernel_rfl)) ?_
                    refine rsl (.agg [(.int .i64 y18.1), (.own (6, 1) (.pair .int (.pair .int .int)) 0 y18.2.1.length), (.own (7, 1) .int 0 y18.2.2.1.length), (.own (8, 1) .int 0 y18.2.2.2.1.length)]) (s_gd (by kernel_rfl) q56 (by kernel_rfl)) ?_
                    refine rcall (.bool y57) [] [(.agg [(.int .i64 y24.1), (.own (15, 1) (.pair .int (.pair .int .int)) 0 y24.2.1.length), (.own (16, 1) .int 0 y24.2.2.1.length), (.own (17, 1) .int 0 y24.2.2.2.1.length)]), (.agg [(.int .i64 y18.1), (.own (6, 1) (.pair .int (.pair .int .int)) 0 y18.2.1.length), (.own (7, 1) .int 0 y18.2.2.1.length), (.own (8, 1) .int 0 y18.2.2.2.1.length)])] _ (caps := []) (args0 := [(.agg [(.int .i64 y24.1), (.tree (.pair .int (.pair .int .int)) y24.2.1), (.tree .int y24.2.2.1), (.tree .int y24.2.2.2.1)]), (.agg [(.int .i64 y18.1), (.tree (.pair .int (.pair .int .int)) y18.2.1), (.tree .int y18.2.2.1), (.tree .int y18.2.2.2.1)])]) (gdOK_b (by kernel_rfl) q56) (by kernel_rfl) (by kernel_rfl) (gm_cons (gd_agg (gm_cons (by kernel_rfl) (gm_cons (gd_own (e := 59) (by kernel_rfl) rfl) (gm_cons (gd_own (e := 3) (by kernel_rfl) rfl) (gm_cons (gd_own (e := 3) (by kernel_rfl) rfl) gm_nil))))) (gm_cons (gd_agg (gm_cons (by kernel_rfl) (gm_cons (gd_own (e := 59) (by kernel_rfl) rfl) (gm_cons (gd_own (e := 3) (by kernel_rfl) rfl) (gm_cons (gd_own (e := 3) (by kernel_rfl) rfl) gm_nil))))) gm_nil)) (by kernel_rfl) (ok_laws_eqNetwork h57) hb_laws_eqNetwork (by kernel_rfl) ?_
                    refine rs0 (.bool (!y57)) (s_gd (by kernel_rfl) q56 (by kernel_rfl)) ?_
                    refine rs0 (.bool (!y57)) (s_pickF (by kernel_rfl) q56) ?_
                    refine rs0 (.bool (!y57)) (by kernel_rfl) ?_
                    refine rs0 .any (s_skip (by kernel_rfl) q58) ?_
                    refine rs0 .any (s_skip (by kernel_rfl) q58) ?_
                    refine rs0 .any (s_skip (by kernel_rfl) q58) ?_
                    refine rs0 (.bool true) (s_pickT (by kernel_rfl) q58) ?_
                    refine rnil (tn_ ?_)
                    obtain rfl := Option.some.inj h
                    exact ⟨_, (weak_ren (renF [((4, 1), (6, 1)), ((5, 1), (7, 1)), ((6, 1), (8, 1)), ((3, 1), (5, 1)), ((7, 1), (15, 1)), ((8, 1), (16, 1)), ((9, 1), (17, 1))]) (by kernel_rfl) (by kernel_rfl) (by kernel_rfl)), rfl⟩
                  · refine awp_region_ 34 (by kernel_rfl) ?_
                    refine rs0 (.int .i64 y50.2.2.2) (by kernel_rfl) ?_
                    refine rs0 (.bool (decide (y50.2.2.2 < 0))) (by kernel_rfl) ?_
                    refine rs0 (.bool (decide (y50.2.2.2 < 0))) (by kernel_rfl) ?_
                    refine rsl (.agg [(.int .i64 y24.1), (.own (15, 1) (.pair .int (.pair .int .int)) 0 y24.2.1.length), (.own (16, 1) .int 0 y24.2.2.1.length), (.own (17, 1) .int 0 y24.2.2.2.1.length)]) (s_gd (by kernel_rfl) q56 (by kernel_rfl)) ?_
                    refine rsl (.agg [(.int .i64 y18.1), (.own (6, 1) (.pair .int (.pair .int .int)) 0 y18.2.1.length), (.own (7, 1) .int 0 y18.2.2.1.length), (.own (8, 1) .int 0 y18.2.2.2.1.length)]) (s_gd (by kernel_rfl) q56 (by kernel_rfl)) ?_
                    refine rcall (.bool y57) [] [(.agg [(.int .i64 y24.1), (.own (15, 1) (.pair .int (.pair .int .int)) 0 y24.2.1.length), (.own (16, 1) .int 0 y24.2.2.1.length), (.own (17, 1) .int 0 y24.2.2.2.1.length)]), (.agg [(.int .i64 y18.1), (.own (6, 1) (.pair .int (.pair .int .int)) 0 y18.2.1.length), (.own (7, 1) .int 0 y18.2.2.1.length), (.own (8, 1) .int 0 y18.2.2.2.1.length)])] _ (caps := []) (args0 := [(.agg [(.int .i64 y24.1), (.tree (.pair .int (.pair .int .int)) y24.2.1), (.tree .int y24.2.2.1), (.tree .int y24.2.2.2.1)]), (.agg [(.int .i64 y18.1), (.tree (.pair .int (.pair .int .int)) y18.2.1), (.tree .int y18.2.2.1), (.tree .int y18.2.2.2.1)])]) (gdOK_b (by kernel_rfl) q56) (by kernel_rfl) (by kernel_rfl) (gm_cons (gd_agg (gm_cons (by kernel_rfl) (gm_cons (gd_own (e := 59) (by kernel_rfl) rfl) (gm_cons (gd_own (e := 3) (by kernel_rfl) rfl) (gm_cons (gd_own (e := 3) (by kernel_rfl) rfl) gm_nil))))) (gm_cons (gd_agg (gm_cons (by kernel_rfl) (gm_cons (gd_own (e := 59) (by kernel_rfl) rfl) (gm_cons (gd_own (e := 3) (by kernel_rfl) rfl) (gm_cons (gd_own (e := 3) (by kernel_rfl) rfl) gm_nil))))) gm_nil)) (by kernel_rfl) (ok_laws_eqNetwork h57) hb_laws_eqNetwork (by kernel_rfl) ?_
                    refine rs0 (.bool (!y57)) (s_gd (by kernel_rfl) q56 (by kernel_rfl)) ?_
                    refine rs0 (.bool (!y57)) (s_pickF (by kernel_rfl) q56) ?_
                    refine rs0 (.bool (!y57)) (by kernel_rfl) ?_
                    refine rs0 (.bool y24.2.2.2.2) (s_gd (by kernel_rfl) q58 (by kernel_rfl)) ?_
                    refine rs0 (.bool y18.2.2.2.2) (s_gd (by kernel_rfl) q58 (by kernel_rfl)) ?_
                    refine rs0 (.bool (y24.2.2.2.2 != y18.2.2.2.2)) (s_gd (by kernel_rfl) q58 (by kernel_rfl)) ?_
                    refine rs0 (.bool (y24.2.2.2.2 != y18.2.2.2.2)) (s_pickF (by kernel_rfl) q58) ?_
                    refine rnil (tn_ ?_)
                    obtain rfl := Option.some.inj h
                    exact ⟨_, (weak_ren (renF [((4, 1), (6, 1)), ((5, 1), (7, 1)), ((6, 1), (8, 1)), ((3, 1), (5, 1)), ((7, 1), (15, 1)), ((8, 1), (16, 1)), ((9, 1), (17, 1))]) (by kernel_rfl) (by kernel_rfl) (by kernel_rfl)), rfl⟩
              · rintro l55_m86 _ rfl h
                (try dsimp only at h)
                rcases cond_some h with ⟨q59, h⟩ | ⟨q59, h⟩
                · refine awp_condT_ q59 (by kernel_rfl) ?_
                  refine awp_seq_ ?_
                  refine awp_region_ 3 (by kernel_rfl) ?_
                  refine rs0 (.bool false) (by kernel_rfl) ?_
                  refine rnil (tn_ ?_)
                  refine awp_ret_ (tr_ ?_)
                  obtain rfl := Option.some.inj h
                  exact ret_ [(.bool false)] (by simp) (by kernel_rfl) (p_one rfl (l_sc (by kernel_rfl)) p_nil) (by kernel_rfl) (by kernel_rfl)
                · refine awp_condF_ q59 (by kernel_rfl) ?_
                  refine awp_skip_ (tn_ ?_)
                  refine awp_seq_ ?_
                  refine awp_region_ 3 (by kernel_rfl) ?_
                  refine rs0 (.int .i64 1) (by kernel_rfl) ?_
                  refine rnil (tn_ ?_)
                  refine awp_seq_ ?_
                  obtain ⟨y63, h63, h⟩ := ob_some h
                  obtain ⟨g64, h⟩ := og_some h
                  obtain ⟨g65, h⟩ := og_some h
                  obtain ⟨g66, h⟩ := og_some h
                  refine awp_region_ 7 (by kernel_rfl) ?_
                  refine rsl (.agg [(.int .i64 y24.1), (.own (7, 1) (.pair .int (.pair .int .int)) 0 y24.2.1.length), (.own (8, 1) .int 0 y24.2.2.1.length), (.own (9, 1) .int 0 y24.2.2.2.1.length)]) (by kernel_rfl) ?_
                  refine rs0 (.int .i64 1) (by kernel_rfl) ?_
                  refine rcallM (.int .i64 y63.2.2.2) [((0, 0), (7, 1)), ((1, 0), (8, 1)), ((2, 0), (9, 1))] [(.agg [(.int .i64 y24.1), (.own (7, 1) (.pair .int (.pair .int .int)) 0 y24.2.1.length), (.own (8, 1) .int 0 y24.2.2.1.length), (.own (9, 1) .int 0 y24.2.2.2.1.length)]), (.int .i64 1)] (caps := []) trivial (by kernel_rfl) (by kernel_rfl) (ok_laws_markNetwork h63 rfl rfl rfl) (by kernel_rfl) (by kernel_rfl) (by kernel_rfl) (by kernel_rfl) (by kernel_rfl) hb_laws_markNetwork ?_
                  refine rs0 (.int .i64 y63.2.2.2) (by kernel_rfl) ?_
                  refine rnil (tn_ ?_)
                  refine awp_seq_ ?_
                  refine awp_region_ 8 (by kernel_rfl) ?_
                  refine rs0 (.int .i64 1) (by kernel_rfl) ?_
                  refine rnil (tn_ ?_)
                  refine awp_seq_ ?_
                  obtain ⟨y69, h69, h⟩ := ob_some h
                  refine awp_region_ 12 (by kernel_rfl) ?_
                  refine rsl (.agg [(.int .i64 y24.1), (.own (7, 1) (.pair .int (.pair .int .int)) 0 y24.2.1.length), (.own (8, 1) .int 0 y24.2.2.1.length), (.own (9, 1) .int 0 y24.2.2.2.1.length)]) (by kernel_rfl) ?_
                  refine rs0 (.int .i64 1) (by kernel_rfl) ?_
                  refine rcall (.int .i64 y69) [] [(.agg [(.int .i64 y24.1), (.own (7, 1) (.pair .int (.pair .int .int)) 0 y24.2.1.length), (.own (8, 1) .int 0 y24.2.2.1.length), (.own (9, 1) .int 0 y24.2.2.2.1.length)]), (.int .i64 1)] _ (caps := []) (args0 := [(.agg [(.int .i64 y24.1), (.tree (.pair .int (.pair .int .int)) y63.1), (.tree .int y63.2.1), (.tree .int y63.2.2.1)]), (.int .i64 1)]) trivial (by kernel_rfl) (by kernel_rfl) (gm_cons (gd_agg (gm_cons (by kernel_rfl) (gm_cons (gd_own (e := 59) (by kernel_rfl) g64.symm) (gm_cons (gd_own (e := 3) (by kernel_rfl) g65.symm) (gm_cons (gd_own (e := 3) (by kernel_rfl) g66.symm) gm_nil))))) (gm_cons (by kernel_rfl) gm_nil)) (by kernel_rfl) (ok_laws_heldNetwork h69) hb_laws_heldNetwork (by kernel_rfl) ?_
                  refine rs0 (.int .i64 y69) (by kernel_rfl) ?_
                  refine rnil (tn_ ?_)
                  refine awp_seq_ ?_
                  refine awp_seq_ ?_
                  refine awp_region_ 14 (by kernel_rfl) ?_
                  refine rs0 (.int .i64 y69) (by kernel_rfl) ?_
                  refine rs0 (.bool (decide (y69 < 0))) (by kernel_rfl) ?_
                  refine rnil (tn_ ?_)
                  rcases cond_some h with ⟨q72, h⟩ | ⟨q72, h⟩
                  · have q72_ := of_decide_eq_true q72
                    refine awp_condT_ q72 (by kernel_rfl) ?_
                    refine awp_seq_ ?_
                    refine awp_region_ 15 (by kernel_rfl) ?_
                    refine rs0 (.bool false) (by kernel_rfl) ?_
                    refine rnil (tn_ ?_)
                    refine awp_ret_ (tr_ ?_)
                    obtain rfl := Option.some.inj h
                    exact ret_ [(.bool false)] (by simp) (by kernel_rfl) (p_one rfl (l_sc (by kernel_rfl)) p_nil) (by kernel_rfl) (by kernel_rfl)
                  · have q72_ := of_decide_eq_false q72
                    refine awp_condF_ q72 (by kernel_rfl) ?_
                    refine awp_skip_ (tn_ ?_)
                    refine awp_seq_ ?_
                    refine awp_seq_ ?_
                    refine awp_region_ 17 (by kernel_rfl) ?_
                    refine rs0 (.int .i64 y69) (by kernel_rfl) ?_
                    refine rs0 (.int .i64 y63.2.2.2) (by kernel_rfl) ?_
                    refine rs0 (.bool (y69 != y63.2.2.2)) (by kernel_rfl) ?_
                    refine rnil (tn_ ?_)
                    rcases cond_some h with ⟨q76, h⟩ | ⟨q76, h⟩
                    · refine awp_condT_ q76 (by kernel_rfl) ?_
                      refine awp_seq_ ?_
                      refine awp_region_ 18 (by kernel_rfl) ?_
                      refine rs0 (.bool false) (by kernel_rfl) ?_
                      refine rnil (tn_ ?_)
                      refine awp_ret_ (tr_ ?_)
                      obtain rfl := Option.some.inj h
                      exact ret_ [(.bool false)] (by simp) (by kernel_rfl) (p_one rfl (l_sc (by kernel_rfl)) p_nil) (by kernel_rfl) (by kernel_rfl)
                    · refine awp_condF_ q76 (by kernel_rfl) ?_
                      refine awp_skip_ (tn_ ?_)
                      refine awp_seq_ ?_
                      obtain ⟨y79, h79, h⟩ := ob_some h
                      obtain ⟨y80, h80, h⟩ := ob_some h
                      obtain ⟨y81, h81, h⟩ := ob_some h
                      refine awp_regionD_ 29 (by kernel_rfl) ?_
                      refine ds0 (.int .i64 a0) (by kernel_rfl) ?_
                      refine dsl (.agg [(.int .i64 a1_0), (.tree (.pair .int (.pair .int .int)) a1_1), (.tree .int a1_2), (.tree .int a1_3)]) (by kernel_rfl) ?_
                      refine dcall (.agg [(.int .i64 y79.1), (.own (1616, 19) (.pair .int (.pair .int .int)) 0 y79.2.1.length), (.own (1617, 19) .int 0 y79.2.2.1.length), (.own (1618, 19) .int 0 y79.2.2.2.length)]) [((1616, 19), some (.arr 59 (.pair .int (.pair .int .int)) y79.2.1)), ((1617, 19), some (.arr 3 .int y79.2.2.1)), ((1618, 19), some (.arr 3 .int y79.2.2.2))] [(.agg [(.int .i64 a1_0), (.tree (.pair .int (.pair .int .int)) a1_1), (.tree .int a1_2), (.tree .int a1_3)])] _ (caps := []) (args0 := [(.agg [(.int .i64 a1_0), (.tree (.pair .int (.pair .int .int)) a1_1), (.tree .int a1_2), (.tree .int a1_3)])]) trivial (by kernel_rfl) (by kernel_rfl) (by kernel_rfl) (by kernel_rfl) (ok_laws_toNetwork h79) hb_laws_toNetwork (by kernel_rfl) ?_
                      refine dsl (.agg [(.int .i64 a2_0), (.tree (.pair .int (.pair .int .int)) a2_1), (.tree .int a2_2), (.tree .int a2_3)]) (by kernel_rfl) ?_
                      refine dcall (.agg [(.int .i64 y80.1), (.own (1648, 21) (.pair .int (.pair .int .int)) 0 y80.2.1.length), (.own (1649, 21) .int 0 y80.2.2.1.length), (.own (1650, 21) .int 0 y80.2.2.2.length)]) [((1648, 21), some (.arr 59 (.pair .int (.pair .int .int)) y80.2.1)), ((1649, 21), some (.arr 3 .int y80.2.2.1)), ((1650, 21), some (.arr 3 .int y80.2.2.2))] [(.agg [(.int .i64 a2_0), (.tree (.pair .int (.pair .int .int)) a2_1), (.tree .int a2_2), (.tree .int a2_3)])] _ (caps := []) (args0 := [(.agg [(.int .i64 a2_0), (.tree (.pair .int (.pair .int .int)) a2_1), (.tree .int a2_2), (.tree .int a2_3)])]) trivial (by kernel_rfl) (by kernel_rfl) (by kernel_rfl) (by kernel_rfl) (ok_laws_toNetwork h80) hb_laws_toNetwork (by kernel_rfl) ?_
                      refine dcall (.tup [(.agg [(.int .i64 y81.1), (.own (1664, 22) (.pair .int (.pair .int .int)) 0 y81.2.1.length), (.own (1665, 22) .int 0 y81.2.2.1.length), (.own (1666, 22) .int 0 y81.2.2.2.1.length)]), (.bool y81.2.2.2.2)]) [((1664, 22), some (.arr 59 (.pair .int (.pair .int .int)) y81.2.1)), ((1665, 22), some (.arr 3 .int y81.2.2.1)), ((1666, 22), some (.arr 3 .int y81.2.2.2.1))] [(.int .i64 a0), (.agg [(.int .i64 y79.1), (.own (1616, 19) (.pair .int (.pair .int .int)) 0 y79.2.1.length), (.own (1617, 19) .int 0 y79.2.2.1.length), (.own (1618, 19) .int 0 y79.2.2.2.length)]), (.agg [(.int .i64 y80.1), (.own (1648, 21) (.pair .int (.pair .int .int)) 0 y80.2.1.length), (.own (1649, 21) .int 0 y80.2.2.1.length), (.own (1650, 21) .int 0 y80.2.2.2.length)])] _ (caps := []) (args0 := [(.int .i64 a0), (.agg [(.int .i64 y79.1), (.tree (.pair .int (.pair .int .int)) y79.2.1), (.tree .int y79.2.2.1), (.tree .int y79.2.2.2)]), (.agg [(.int .i64 y80.1), (.tree (.pair .int (.pair .int .int)) y80.2.1), (.tree .int y80.2.2.1), (.tree .int y80.2.2.2)])]) trivial (by kernel_rfl) (by kernel_rfl) (gm_cons (by kernel_rfl) (gm_cons (gd_agg (gm_cons (by kernel_rfl) (gm_cons (gd_own (e := 59) (by kernel_rfl) rfl) (gm_cons (gd_own (e := 3) (by kernel_rfl) rfl) (gm_cons (gd_own (e := 3) (by kernel_rfl) rfl) gm_nil))))) (gm_cons (gd_agg (gm_cons (by kernel_rfl) (gm_cons (gd_own (e := 59) (by kernel_rfl) rfl) (gm_cons (gd_own (e := 3) (by kernel_rfl) rfl) (gm_cons (gd_own (e := 3) (by kernel_rfl) rfl) gm_nil))))) gm_nil))) (by kernel_rfl) (ok_impl_GlueNetworks h81) hb_impl_GlueNetworks (by kernel_rfl) ?_
                      refine ds0 (.tup [(.agg [(.int .i64 y81.1), (.own (1664, 22) (.pair .int (.pair .int .int)) 0 y81.2.1.length), (.own (1665, 22) .int 0 y81.2.2.1.length), (.own (1666, 22) .int 0 y81.2.2.2.1.length)]), (.bool y81.2.2.2.2)]) (by kernel_rfl) ?_
                      refine ds0 (.agg [(.int .i64 y81.1), (.own (1664, 22) (.pair .int (.pair .int .int)) 0 y81.2.1.length), (.own (1665, 22) .int 0 y81.2.2.1.length), (.own (1666, 22) .int 0 y81.2.2.2.1.length)]) (by kernel_rfl) ?_
                      refine ds0 (.bool y81.2.2.2.2) (by kernel_rfl) ?_
                      refine ds1 (.box (17, 26) 0) (17, 26) (.cells 30 [(.int .i64 0), .nils, .nils, .nils]) (by kernel_rfl) ?_
                      refine dsn2 (17, 26) (17, 26) (.cells 30 [(.int .i64 y81.1), (.own (1664, 22) (.pair .int (.pair .int .int)) 0 y81.2.1.length), (.own (1665, 22) .int 0 y81.2.2.1.length), (.own (1666, 22) .int 0 y81.2.2.2.1.length)]) (by kernel_rfl) ?_
                      refine ds0 (.bool y81.2.2.2.2) (by kernel_rfl) ?_
                      refine dnil (by kernel_rfl) (tn_ ?_)
                      refine awp_seq_ ?_
                      refine awp_seqB h (fun (l83_m115 : Bool) S_ => S_ = ⟨mkTm [(12, (.box (0, 1) 0)), (15, (.int .i64 y63.2.2.2)), (115, (.bool l83_m115))], mkOb (someL [((0, 1), .cells 30 [(.int .i64 y24.1), (.own (1, 1) (.pair .int (.pair .int .int)) 0 y63.1.length), (.own (2, 1) .int 0 y63.2.1.length), (.own (3, 1) .int 0 y63.2.2.1.length)]), ((1, 1), .arr 59 (.pair .int (.pair .int .int)) y63.1), ((2, 1), .arr 3 .int y63.2.1), ((3, 1), .arr 3 .int y63.2.2.1)]), 2⟩) ?_ ?_
                      · intro v_ h
                        obtain ⟨y84, h84, h⟩ := ob_some h
                        rcases cond_some h with ⟨q85, h⟩ | ⟨q85, h⟩
                        · refine awp_region_ 38 (by kernel_rfl) ?_
                          refine rsl (.agg [(.int .i64 y81.1), (.own (1664, 22) (.pair .int (.pair .int .int)) 0 y81.2.1.length), (.own (1665, 22) .int 0 y81.2.2.1.length), (.own (1666, 22) .int 0 y81.2.2.2.1.length)]) (by kernel_rfl) ?_
                          refine rsl (.agg [(.int .i64 y18.1), (.own (4, 1) (.pair .int (.pair .int .int)) 0 y18.2.1.length), (.own (5, 1) .int 0 y18.2.2.1.length), (.own (6, 1) .int 0 y18.2.2.2.1.length)]) (by kernel_rfl) ?_
                          refine rcall (.bool y84) [] [(.agg [(.int .i64 y81.1), (.own (1664, 22) (.pair .int (.pair .int .int)) 0 y81.2.1.length), (.own (1665, 22) .int 0 y81.2.2.1.length), (.own (1666, 22) .int 0 y81.2.2.2.1.length)]), (.agg [(.int .i64 y18.1), (.own (4, 1) (.pair .int (.pair .int .int)) 0 y18.2.1.length), (.own (5, 1) .int 0 y18.2.2.1.length), (.own (6, 1) .int 0 y18.2.2.2.1.length)])] _ (caps := []) (args0 := [(.agg [(.int .i64 y81.1), (.tree (.pair .int (.pair .int .int)) y81.2.1), (.tree .int y81.2.2.1), (.tree .int y81.2.2.2.1)]), (.agg [(.int .i64 y18.1), (.tree (.pair .int (.pair .int .int)) y18.2.1), (.tree .int y18.2.2.1), (.tree .int y18.2.2.2.1)])]) trivial (by kernel_rfl) (by kernel_rfl) (gm_cons (gd_agg (gm_cons (by kernel_rfl) (gm_cons (gd_own (e := 59) (by kernel_rfl) rfl) (gm_cons (gd_own (e := 3) (by kernel_rfl) rfl) (gm_cons (gd_own (e := 3) (by kernel_rfl) rfl) gm_nil))))) (gm_cons (gd_agg (gm_cons (by kernel_rfl) (gm_cons (gd_own (e := 59) (by kernel_rfl) rfl) (gm_cons (gd_own (e := 3) (by kernel_rfl) rfl) (gm_cons (gd_own (e := 3) (by kernel_rfl) rfl) gm_nil))))) gm_nil)) (by kernel_rfl) (ok_laws_eqNetwork h84) hb_laws_eqNetwork (by kernel_rfl) ?_
                          refine rs0 (.bool (!y84)) (by kernel_rfl) ?_
                          refine rs0 (.bool (!y84)) (by kernel_rfl) ?_
                          refine rs0 .any (s_skip (by kernel_rfl) q85) ?_
                          refine rs0 .any (s_skip (by kernel_rfl) q85) ?_
                          refine rs0 .any (s_skip (by kernel_rfl) q85) ?_
                          refine rs0 (.bool true) (s_pickT (by kernel_rfl) q85) ?_
                          refine rnil (tn_ ?_)
                          obtain rfl := Option.some.inj h
                          exact ⟨_, ((weak_ob_ (3, 1) (.cells 30 [(.int .i64 y24.1), (.own (7, 1) (.pair .int (.pair .int .int)) 0 y24.2.1.length), (.own (8, 1) .int 0 y24.2.2.1.length), (.own (9, 1) .int 0 y24.2.2.2.1.length)]) (.cells 30 [(.int .i64 y24.1), (.own (7, 1) (.pair .int (.pair .int .int)) 0 y63.1.length), (.own (8, 1) .int 0 y24.2.2.1.length), (.own (9, 1) .int 0 y24.2.2.2.1.length)]) (by kernel_rfl) (congrArg (fun z_ => (.cells 30 [(.int .i64 y24.1), (.own (7, 1) (.pair .int (.pair .int .int)) 0 z_), (.own (8, 1) .int 0 y24.2.2.1.length), (.own (9, 1) .int 0 y24.2.2.2.1.length)] : Ob)) (g64.symm : y24.2.1.length = y63.1.length))).trans ((weak_ob_ (3, 1) (.cells 30 [(.int .i64 y24.1), (.own (7, 1) (.pair .int (.pair .int .int)) 0 y63.1.length), (.own (8, 1) .int 0 y24.2.2.1.length), (.own (9, 1) .int 0 y24.2.2.2.1.length)]) (.cells 30 [(.int .i64 y24.1), (.own (7, 1) (.pair .int (.pair .int .int)) 0 y63.1.length), (.own (8, 1) .int 0 y63.2.1.length), (.own (9, 1) .int 0 y24.2.2.2.1.length)]) (by kernel_rfl) (congrArg (fun z_ => (.cells 30 [(.int .i64 y24.1), (.own (7, 1) (.pair .int (.pair .int .int)) 0 y63.1.length), (.own (8, 1) .int 0 z_), (.own (9, 1) .int 0 y24.2.2.2.1.length)] : Ob)) (g65.symm : y24.2.2.1.length = y63.2.1.length))).trans ((weak_ob_ (3, 1) (.cells 30 [(.int .i64 y24.1), (.own (7, 1) (.pair .int (.pair .int .int)) 0 y63.1.length), (.own (8, 1) .int 0 y63.2.1.length), (.own (9, 1) .int 0 y24.2.2.2.1.length)]) (.cells 30 [(.int .i64 y24.1), (.own (7, 1) (.pair .int (.pair .int .int)) 0 y63.1.length), (.own (8, 1) .int 0 y63.2.1.length), (.own (9, 1) .int 0 y63.2.2.1.length)]) (by kernel_rfl) (congrArg (fun z_ => (.cells 30 [(.int .i64 y24.1), (.own (7, 1) (.pair .int (.pair .int .int)) 0 y63.1.length), (.own (8, 1) .int 0 y63.2.1.length), (.own (9, 1) .int 0 z_)] : Ob)) (g66.symm : y24.2.2.2.1.length = y63.2.2.1.length))).trans (weak_ren (renF [((0, 1), (3, 1)), ((1, 1), (7, 1)), ((2, 1), (8, 1)), ((3, 1), (9, 1))]) (by kernel_rfl) (by kernel_rfl) (by kernel_rfl))))), rfl⟩
                        · refine awp_region_ 38 (by kernel_rfl) ?_
                          refine rsl (.agg [(.int .i64 y81.1), (.own (1664, 22) (.pair .int (.pair .int .int)) 0 y81.2.1.length), (.own (1665, 22) .int 0 y81.2.2.1.length), (.own (1666, 22) .int 0 y81.2.2.2.1.length)]) (by kernel_rfl) ?_
                          refine rsl (.agg [(.int .i64 y18.1), (.own (4, 1) (.pair .int (.pair .int .int)) 0 y18.2.1.length), (.own (5, 1) .int 0 y18.2.2.1.length), (.own (6, 1) .int 0 y18.2.2.2.1.length)]) (by kernel_rfl) ?_
                          refine rcall (.bool y84) [] [(.agg [(.int .i64 y81.1), (.own (1664, 22) (.pair .int (.pair .int .int)) 0 y81.2.1.length), (.own (1665, 22) .int 0 y81.2.2.1.length), (.own (1666, 22) .int 0 y81.2.2.2.1.length)]), (.agg [(.int .i64 y18.1), (.own (4, 1) (.pair .int (.pair .int .int)) 0 y18.2.1.length), (.own (5, 1) .int 0 y18.2.2.1.length), (.own (6, 1) .int 0 y18.2.2.2.1.length)])] _ (caps := []) (args0 := [(.agg [(.int .i64 y81.1), (.tree (.pair .int (.pair .int .int)) y81.2.1), (.tree .int y81.2.2.1), (.tree .int y81.2.2.2.1)]), (.agg [(.int .i64 y18.1), (.tree (.pair .int (.pair .int .int)) y18.2.1), (.tree .int y18.2.2.1), (.tree .int y18.2.2.2.1)])]) trivial (by kernel_rfl) (by kernel_rfl) (gm_cons (gd_agg (gm_cons (by kernel_rfl) (gm_cons (gd_own (e := 59) (by kernel_rfl) rfl) (gm_cons (gd_own (e := 3) (by kernel_rfl) rfl) (gm_cons (gd_own (e := 3) (by kernel_rfl) rfl) gm_nil))))) (gm_cons (gd_agg (gm_cons (by kernel_rfl) (gm_cons (gd_own (e := 59) (by kernel_rfl) rfl) (gm_cons (gd_own (e := 3) (by kernel_rfl) rfl) (gm_cons (gd_own (e := 3) (by kernel_rfl) rfl) gm_nil))))) gm_nil)) (by kernel_rfl) (ok_laws_eqNetwork h84) hb_laws_eqNetwork (by kernel_rfl) ?_
                          refine rs0 (.bool (!y84)) (by kernel_rfl) ?_
                          refine rs0 (.bool (!y84)) (by kernel_rfl) ?_
                          refine rs0 (.bool y81.2.2.2.2) (s_gd (by kernel_rfl) q85 (by kernel_rfl)) ?_
                          refine rs0 (.bool y18.2.2.2.2) (s_gd (by kernel_rfl) q85 (by kernel_rfl)) ?_
                          refine rs0 (.bool (y81.2.2.2.2 != y18.2.2.2.2)) (s_gd (by kernel_rfl) q85 (by kernel_rfl)) ?_
                          refine rs0 (.bool (y81.2.2.2.2 != y18.2.2.2.2)) (s_pickF (by kernel_rfl) q85) ?_
                          refine rnil (tn_ ?_)
                          obtain rfl := Option.some.inj h
                          exact ⟨_, ((weak_ob_ (3, 1) (.cells 30 [(.int .i64 y24.1), (.own (7, 1) (.pair .int (.pair .int .int)) 0 y24.2.1.length), (.own (8, 1) .int 0 y24.2.2.1.length), (.own (9, 1) .int 0 y24.2.2.2.1.length)]) (.cells 30 [(.int .i64 y24.1), (.own (7, 1) (.pair .int (.pair .int .int)) 0 y63.1.length), (.own (8, 1) .int 0 y24.2.2.1.length), (.own (9, 1) .int 0 y24.2.2.2.1.length)]) (by kernel_rfl) (congrArg (fun z_ => (.cells 30 [(.int .i64 y24.1), (.own (7, 1) (.pair .int (.pair .int .int)) 0 z_), (.own (8, 1) .int 0 y24.2.2.1.length), (.own (9, 1) .int 0 y24.2.2.2.1.length)] : Ob)) (g64.symm : y24.2.1.length = y63.1.length))).trans ((weak_ob_ (3, 1) (.cells 30 [(.int .i64 y24.1), (.own (7, 1) (.pair .int (.pair .int .int)) 0 y63.1.length), (.own (8, 1) .int 0 y24.2.2.1.length), (.own (9, 1) .int 0 y24.2.2.2.1.length)]) (.cells 30 [(.int .i64 y24.1), (.own (7, 1) (.pair .int (.pair .int .int)) 0 y63.1.length), (.own (8, 1) .int 0 y63.2.1.length), (.own (9, 1) .int 0 y24.2.2.2.1.length)]) (by kernel_rfl) (congrArg (fun z_ => (.cells 30 [(.int .i64 y24.1), (.own (7, 1) (.pair .int (.pair .int .int)) 0 y63.1.length), (.own (8, 1) .int 0 z_), (.own (9, 1) .int 0 y24.2.2.2.1.length)] : Ob)) (g65.symm : y24.2.2.1.length = y63.2.1.length))).trans ((weak_ob_ (3, 1) (.cells 30 [(.int .i64 y24.1), (.own (7, 1) (.pair .int (.pair .int .int)) 0 y63.1.length), (.own (8, 1) .int 0 y63.2.1.length), (.own (9, 1) .int 0 y24.2.2.2.1.length)]) (.cells 30 [(.int .i64 y24.1), (.own (7, 1) (.pair .int (.pair .int .int)) 0 y63.1.length), (.own (8, 1) .int 0 y63.2.1.length), (.own (9, 1) .int 0 y63.2.2.1.length)]) (by kernel_rfl) (congrArg (fun z_ => (.cells 30 [(.int .i64 y24.1), (.own (7, 1) (.pair .int (.pair .int .int)) 0 y63.1.length), (.own (8, 1) .int 0 y63.2.1.length), (.own (9, 1) .int 0 z_)] : Ob)) (g66.symm : y24.2.2.2.1.length = y63.2.2.1.length))).trans (weak_ren (renF [((0, 1), (3, 1)), ((1, 1), (7, 1)), ((2, 1), (8, 1)), ((3, 1), (9, 1))]) (by kernel_rfl) (by kernel_rfl) (by kernel_rfl))))), rfl⟩
                      · rintro l83_m115 _ rfl h
                        (try dsimp only at h)
                        rcases cond_some h with ⟨q86, h⟩ | ⟨q86, h⟩
                        · refine awp_condT_ q86 (by kernel_rfl) ?_
                          refine awp_seq_ ?_
                          refine awp_region_ 3 (by kernel_rfl) ?_
                          refine rs0 (.bool false) (by kernel_rfl) ?_
                          refine rnil (tn_ ?_)
                          refine awp_ret_ (tr_ ?_)
                          obtain rfl := Option.some.inj h
                          exact ret_ [(.bool false)] (by simp) (by kernel_rfl) (p_one rfl (l_sc (by kernel_rfl)) p_nil) (by kernel_rfl) (by kernel_rfl)
                        · refine awp_condF_ q86 (by kernel_rfl) ?_
                          refine awp_skip_ (tn_ ?_)
                          refine awp_seq_ ?_
                          refine awp_region_ 3 (by kernel_rfl) ?_
                          refine rs0 (.int .i64 1) (by kernel_rfl) ?_
                          refine rnil (tn_ ?_)
                          refine awp_seq_ ?_
                          obtain ⟨y90, h90, h⟩ := ob_some h
                          refine awp_region_ 7 (by kernel_rfl) ?_
                          refine rsl (.agg [(.int .i64 y24.1), (.own (1, 1) (.pair .int (.pair .int .int)) 0 y63.1.length), (.own (2, 1) .int 0 y63.2.1.length), (.own (3, 1) .int 0 y63.2.2.1.length)]) (by kernel_rfl) ?_
                          refine rs0 (.int .i64 1) (by kernel_rfl) ?_
                          refine rcall (.int .i64 y90) [] [(.agg [(.int .i64 y24.1), (.own (1, 1) (.pair .int (.pair .int .int)) 0 y63.1.length), (.own (2, 1) .int 0 y63.2.1.length), (.own (3, 1) .int 0 y63.2.2.1.length)]), (.int .i64 1)] _ (caps := []) (args0 := [(.agg [(.int .i64 y24.1), (.tree (.pair .int (.pair .int .int)) y63.1), (.tree .int y63.2.1), (.tree .int y63.2.2.1)]), (.int .i64 1)]) trivial (by kernel_rfl) (by kernel_rfl) (gm_cons (gd_agg (gm_cons (by kernel_rfl) (gm_cons (gd_own (e := 59) (by kernel_rfl) rfl) (gm_cons (gd_own (e := 3) (by kernel_rfl) rfl) (gm_cons (gd_own (e := 3) (by kernel_rfl) rfl) gm_nil))))) (gm_cons (by kernel_rfl) gm_nil)) (by kernel_rfl) (ok_laws_heldNetwork h90) hb_laws_heldNetwork (by kernel_rfl) ?_
                          refine rs0 (.int .i64 y90) (by kernel_rfl) ?_
                          refine rnil (tn_ ?_)
                          refine awp_seq_ ?_
                          refine awp_seq_ ?_
                          refine awp_region_ 9 (by kernel_rfl) ?_
                          refine rs0 (.int .i64 y90) (by kernel_rfl) ?_
                          refine rs0 (.bool (decide (y90 < 0))) (by kernel_rfl) ?_
                          refine rnil (tn_ ?_)
                          rcases cond_some h with ⟨q93, h⟩ | ⟨q93, h⟩
                          · have q93_ := of_decide_eq_true q93
                            refine awp_condT_ q93 (by kernel_rfl) ?_
                            refine awp_seq_ ?_
                            refine awp_region_ 10 (by kernel_rfl) ?_
                            refine rs0 (.bool false) (by kernel_rfl) ?_
                            refine rnil (tn_ ?_)
                            refine awp_ret_ (tr_ ?_)
                            obtain rfl := Option.some.inj h
                            exact ret_ [(.bool false)] (by simp) (by kernel_rfl) (p_one rfl (l_sc (by kernel_rfl)) p_nil) (by kernel_rfl) (by kernel_rfl)
                          · have q93_ := of_decide_eq_false q93
                            refine awp_condF_ q93 (by kernel_rfl) ?_
                            refine awp_skip_ (tn_ ?_)
                            refine awp_seq_ ?_
                            refine awp_seq_ ?_
                            refine awp_region_ 12 (by kernel_rfl) ?_
                            refine rs0 (.int .i64 y90) (by kernel_rfl) ?_
                            refine rs0 (.int .i64 y63.2.2.2) (by kernel_rfl) ?_
                            refine rs0 (.bool (y90 != y63.2.2.2)) (by kernel_rfl) ?_
                            refine rnil (tn_ ?_)
                            rcases cond_some h with ⟨q97, h⟩ | ⟨q97, h⟩
                            · refine awp_condT_ q97 (by kernel_rfl) ?_
                              refine awp_seq_ ?_
                              refine awp_region_ 13 (by kernel_rfl) ?_
                              refine rs0 (.bool false) (by kernel_rfl) ?_
                              refine rnil (tn_ ?_)
                              refine awp_ret_ (tr_ ?_)
                              obtain rfl := Option.some.inj h
                              exact ret_ [(.bool false)] (by simp) (by kernel_rfl) (p_one rfl (l_sc (by kernel_rfl)) p_nil) (by kernel_rfl) (by kernel_rfl)
                            · refine awp_condF_ q97 (by kernel_rfl) ?_
                              refine awp_skip_ (tn_ ?_)
                              refine awp_seq_ ?_
                              refine awp_region_ 13 (by kernel_rfl) ?_
                              refine rs0 (.bool true) (by kernel_rfl) ?_
                              refine rnil (tn_ ?_)
                              refine awp_ret_ ?_
                              obtain rfl := Option.some.inj h
                              exact ret_ [(.bool true)] (by simp) (by kernel_rfl) (p_one rfl (l_sc (by kernel_rfl)) p_nil) (by kernel_rfl) (by kernel_rfl)
end Go.Proofs.YtefolocdfgelcaaDoor
