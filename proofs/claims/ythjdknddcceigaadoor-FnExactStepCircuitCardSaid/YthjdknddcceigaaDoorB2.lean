/- Partial functions in place of code, and that the code does what they say: B2. No condition. -/
import Derived.Test.YthjdknddcceigaaDoorB1
namespace Go.Proofs.YthjdknddcceigaaDoor
open Go.RowKit Go.Deep
set_option maxRecDepth 4000
def m_spec_crOperands : AC :=
  (.seq (.region [⟨(some 1), none, (.i (.box 51 (.tmp 0)))⟩, ⟨(some 2), none, (.i (.mov (.cst .nils)))⟩] false [])
  (.seq (.seq (.region [⟨(some 3), none, (.i (.fld 0 (.tmp 1)))⟩, ⟨(some 4), none, (.i (.ld true 1 (.tmp 3)))⟩] false [])
  (.block 0 (.seq (.region [⟨(some 6), none, (.i (.bin .eql (.tmp 4) (.cst (.int .i64 3))))⟩, ⟨(some 5), none, (.i (.mov (.tmp 6)))⟩] false [])
  (.cond (.tmp 5)
    (.seq (.region [⟨(some 7), none, (.i (.fld 1 (.tmp 1)))⟩, ⟨(some 8), none, (.i (.ld true 1 (.tmp 7)))⟩, ⟨(some 9), none, (.i (.fld 2 (.tmp 1)))⟩, ⟨(some 10), none, (.i (.ld true 1 (.tmp 9)))⟩, ⟨(some 11), none, (.mkS 3 .int [(.tmp 8), (.tmp 10)])⟩, ⟨(some 2), none, (.i (.mov (.tmp 11)))⟩] false [])
    .ret)
    (.seq (.seq (.region [⟨(some 13), none, (.i (.bin .eql (.tmp 4) (.cst (.int .i64 4))))⟩, ⟨(some 12), none, (.i (.mov (.tmp 13)))⟩] false [])
    (.cond (.tmp 12)
      .skip
      (.region [⟨(some 14), none, (.i (.bin .eql (.tmp 4) (.cst (.int .i64 5))))⟩, ⟨(some 12), none, (.i (.mov (.tmp 14)))⟩] false [])))
    (.cond (.tmp 12)
      (.seq (.region [⟨(some 15), none, (.i (.fld 1 (.tmp 1)))⟩, ⟨(some 16), none, (.i (.ld true 1 (.tmp 15)))⟩, ⟨(some 17), none, (.mkS 3 .int [(.tmp 16)])⟩, ⟨(some 2), none, (.i (.mov (.tmp 17)))⟩] false [])
      .ret)
      .skip))))))
  (.seq (.region [⟨(some 2), none, (.i (.mov (.cst .nils)))⟩] false [])
  .ret)))
def r_spec_crOperands : List Res := [.tmp 2]
theorem c_spec_crOperands : compiled Tryd.prog Tryd.f90 = some (m_spec_crOperands, r_spec_crOperands) := by kernel_rfl
theorem hb_spec_crOperands : hasBody Tryd.prog 90 = true := by kernel_rfl
def L_spec_crOperands (a0_0 : Int) (a0_1 : Int) (a0_2 : Int) (a0_3 : Int) : Option (List Int) :=
  cond (a0_0 == 3)
  (some ([a0_1, a0_2]))
  (Option.bind (cond (a0_0 == 4)
      (some (a0_0 == 4))
      (some (a0_0 == 5))) fun l7_m12 =>
  cond l7_m12
    (some ([a0_1]))
    (some []))
def rv_spec_crOperands (r : List Int) : RV := ⟨false, [(false, [.new 3 .int r])]⟩
theorem ok_spec_crOperands {a0_0 : Int} {a0_1 : Int} {a0_2 : Int} {a0_3 : Int} {r : List Int} (h : L_spec_crOperands a0_0 a0_1 a0_2 a0_3 = some r) : CallOK Tryd.prog Tab 90 [(.agg [(.int .i64 a0_0), (.int .i64 a0_1), (.int .i64 a0_2), (.int .i64 a0_3)])] (rv_spec_crOperands r) := by
  refine call_of_ (by kernel_rfl) Tryd.func90 c_spec_crOperands (n := 18) (by kernel_rfl) (by simp) (tl := [(0, (.agg [(.int .i64 a0_0), (.int .i64 a0_1), (.int .i64 a0_2), (.int .i64 a0_3)]))]) rfl ?_
  unfold m_spec_crOperands
  unfold L_spec_crOperands at h
  refine awp_seq_ ?_
  refine awp_region_ 3 (by kernel_rfl) ?_
  refine rs1 (.box (1, 1) 0) (1, 1) (.cells 51 [(.int .i64 a0_0), (.int .i64 a0_1), (.int .i64 a0_2), (.int .i64 a0_3)]) (by kernel_rfl) ?_
  refine rs0 .nils (by kernel_rfl) ?_
  refine rnil (tn_ ?_)
  refine awp_seq_ ?_
  refine awp_seq_ ?_
  refine awp_region_ 5 (by kernel_rfl) ?_
  refine rs0 (.box (1, 1) 0) (by kernel_rfl) ?_
  refine rsl (.int .i64 a0_0) (by kernel_rfl) ?_
  refine rnil (tn_ ?_)
  refine awp_block_ ?_
  refine awp_seq_ ?_
  refine awp_region_ 7 (by kernel_rfl) ?_
  refine rs0 (.bool (a0_0 == 3)) (by kernel_rfl) ?_
  refine rs0 (.bool (a0_0 == 3)) (by kernel_rfl) ?_
  refine rnil (tn_ ?_)
  rcases cond_some h with ⟨q5, h⟩ | ⟨q5, h⟩
  · refine awp_condT_ q5 (by kernel_rfl) ?_
    refine awp_seq_ ?_
    refine awp_region_ 13 (by kernel_rfl) ?_
    refine rs0 (.box (1, 1) 1) (by kernel_rfl) ?_
    refine rsl (.int .i64 a0_1) (by kernel_rfl) ?_
    refine rs0 (.box (1, 1) 2) (by kernel_rfl) ?_
    refine rsl (.int .i64 a0_2) (by kernel_rfl) ?_
    refine rs1 (.own (11, 11) .int 0 2) (11, 11) (.arr 3 .int ([a0_1, a0_2])) (by kernel_rfl) ?_
    refine rs0 (.own (11, 11) .int 0 2) (by kernel_rfl) ?_
    refine rnil (tn_ ?_)
    refine awp_ret_ (br_ (tr_ ?_))
    obtain rfl := Option.some.inj h
    exact ret_ [(.own (11, 11) .int 0 2)] (by simp) (by kernel_rfl) (p_one rfl (l_own (by kernel_rfl) rfl) p_nil) (by kernel_rfl) (by kernel_rfl)
  · refine awp_condF_ q5 (by kernel_rfl) ?_
    refine awp_seqB h (fun (l7_m12 : Bool) S_ => S_ = ⟨mkTm [(1, (.box (0, 1) 0)), (12, (.bool l7_m12))], mkOb (someL [((0, 1), .cells 51 [(.int .i64 a0_0), (.int .i64 a0_1), (.int .i64 a0_2), (.int .i64 a0_3)])]), 2⟩) ?_ ?_
    · intro v_ h
      refine awp_seq_ ?_
      refine awp_region_ 9 (by kernel_rfl) ?_
      refine rs0 (.bool (a0_0 == 4)) (by kernel_rfl) ?_
      refine rs0 (.bool (a0_0 == 4)) (by kernel_rfl) ?_
      refine rnil (tn_ ?_)
      rcases cond_some h with ⟨q9, h⟩ | ⟨q9, h⟩
      · refine awp_condT_ q9 (by kernel_rfl) ?_
        refine awp_skip_ (tn_ ?_)
        obtain rfl := Option.some.inj h
        exact ⟨_, (weak_ren (renF [((0, 1), (1, 1))]) (by kernel_rfl) (by kernel_rfl) (by kernel_rfl)), rfl⟩
      · refine awp_condF_ q9 (by kernel_rfl) ?_
        refine awp_region_ 11 (by kernel_rfl) ?_
        refine rs0 (.bool (a0_0 == 5)) (by kernel_rfl) ?_
        refine rs0 (.bool (a0_0 == 5)) (by kernel_rfl) ?_
        refine rnil (tn_ ?_)
        obtain rfl := Option.some.inj h
        exact ⟨_, (weak_ren (renF [((0, 1), (1, 1))]) (by kernel_rfl) (by kernel_rfl) (by kernel_rfl)), rfl⟩
    · rintro l7_m12 _ rfl h
      (try dsimp only at h)
      rcases cond_some h with ⟨q10, h⟩ | ⟨q10, h⟩
      · refine awp_condT_ q10 (by kernel_rfl) ?_
        refine awp_seq_ ?_
        refine awp_region_ 6 (by kernel_rfl) ?_
        refine rs0 (.box (0, 1) 1) (by kernel_rfl) ?_
        refine rsl (.int .i64 a0_1) (by kernel_rfl) ?_
        refine rs1 (.own (17, 4) .int 0 1) (17, 4) (.arr 3 .int ([a0_1])) (by kernel_rfl) ?_
        refine rs0 (.own (17, 4) .int 0 1) (by kernel_rfl) ?_
        refine rnil (tn_ ?_)
        refine awp_ret_ (br_ (tr_ ?_))
        obtain rfl := Option.some.inj h
        exact ret_ [(.own (17, 4) .int 0 1)] (by simp) (by kernel_rfl) (p_one rfl (l_own (by kernel_rfl) rfl) p_nil) (by kernel_rfl) (by kernel_rfl)
      · refine awp_condF_ q10 (by kernel_rfl) ?_
        refine awp_skip_ (bn_ (tn_ ?_))
        refine awp_seq_ ?_
        refine awp_region_ 3 (by kernel_rfl) ?_
        refine rs0 .nils (by kernel_rfl) ?_
        refine rnil (tn_ ?_)
        refine awp_ret_ ?_
        obtain rfl := Option.some.inj h
        exact ret_ [.nils] (by simp) (by kernel_rfl) (p_one rfl (l_nils rfl) p_nil) (by kernel_rfl) (by kernel_rfl)
def m_spec_crGate : AC :=
  (.seq (.region [⟨(some 5), none, (.i (.box 51 (.tmp 1)))⟩, ⟨(some 8), none, (.i (.mov (.cst (.bool false))))⟩] false [])
  (.seq (.seq (.region [⟨(some 9), none, (.i (.ld false 4 (.tmp 5)))⟩, ⟨(some 10), none, (.call (.cst (.fn 90 [])) [(.tmp 9)] [[none, none, none, none]])⟩, ⟨(some 11), none, (.i (.mov (.tmp 3)))⟩, ⟨(some 12), none, (.i (.bin .sub (.tmp 11) (.cst (.int .i64 1))))⟩, ⟨(some 13), none, (.call (.cst (.fn 69 [])) [(.tmp 10), (.cst (.int .i64 0)), (.tmp 12)] [[(some .int)], [], []])⟩, ⟨(some 14), none, (.i (.not (.tmp 13)))⟩, ⟨(some 15), none, (.i (.mov (.tmp 14)))⟩, ⟨(some 16), (some (15, false)), (.i (.fld 0 (.tmp 5)))⟩, ⟨(some 17), (some (15, false)), (.i (.ld true 1 (.tmp 16)))⟩, ⟨(some 18), (some (15, false)), (.i (.bin .neq (.tmp 17) (.cst (.int .i64 3))))⟩, ⟨(some 19), (some (15, false)), (.i (.mov (.tmp 18)))⟩, ⟨(some 20), (some (19, true)), (.i (.fld 2 (.tmp 5)))⟩, ⟨(some 21), (some (19, true)), (.i (.ld true 1 (.tmp 20)))⟩, ⟨(some 22), (some (19, true)), (.i (.bin .neq (.tmp 21) (.cst (.int .i64 0))))⟩, ⟨(some 23), (some (15, false)), (.i (.pick (.tmp 19) (.tmp 22) (.cst (.bool false))))⟩, ⟨(some 24), none, (.i (.pick (.tmp 15) (.cst (.bool true)) (.tmp 23)))⟩] false [])
  (.cond (.tmp 24)
    (.seq (.region [⟨(some 8), none, (.i (.mov (.cst (.bool false))))⟩] false [])
    .ret)
    .skip))
  (.seq (.seq (.region [⟨(some 25), none, (.i (.fld 0 (.tmp 5)))⟩, ⟨(some 26), none, (.i (.ld true 1 (.tmp 25)))⟩] false [])
  (.block 0 (.seq (.region [⟨(some 28), none, (.i (.bin .eql (.tmp 26) (.cst (.int .i64 1))))⟩, ⟨(some 27), none, (.i (.mov (.tmp 28)))⟩] false [])
  (.cond (.tmp 27)
    (.seq (.region [⟨(some 29), none, (.i (.fld 3 (.tmp 5)))⟩, ⟨(some 30), none, (.i (.ld true 1 (.tmp 29)))⟩, ⟨(some 31), none, (.i (.mov (.tmp 2)))⟩, ⟨(some 32), none, (.i (.bin .sub (.tmp 31) (.cst (.int .i64 1))))⟩, ⟨(some 33), none, (.call (.cst (.fn 41 [])) [(.tmp 30), (.cst (.int .i64 0)), (.tmp 32)] [[], [], []])⟩, ⟨(some 34), none, (.i (.mov (.tmp 33)))⟩, ⟨(some 35), (some (34, true)), (.i (.fld 1 (.tmp 5)))⟩, ⟨(some 36), (some (34, true)), (.i (.ld true 1 (.tmp 35)))⟩, ⟨(some 37), (some (34, true)), (.i (.bin .eql (.tmp 36) (.cst (.int .i64 0))))⟩, ⟨(some 38), none, (.i (.pick (.tmp 34) (.tmp 37) (.cst (.bool false))))⟩, ⟨(some 8), none, (.i (.mov (.tmp 38)))⟩] false [])
    .ret)
    (.seq (.region [⟨(some 40), none, (.i (.bin .eql (.tmp 26) (.cst (.int .i64 2))))⟩, ⟨(some 39), none, (.i (.mov (.tmp 40)))⟩] false [])
    (.cond (.tmp 39)
      (.seq (.region [⟨(some 41), none, (.i (.fld 3 (.tmp 5)))⟩, ⟨(some 42), none, (.i (.ld true 1 (.tmp 41)))⟩, ⟨(some 43), none, (.i (.bin .eql (.tmp 42) (.cst (.int .i64 0))))⟩, ⟨(some 44), none, (.i (.mov (.tmp 43)))⟩, ⟨(some 45), (some (44, true)), (.i (.fld 1 (.tmp 5)))⟩, ⟨(some 46), (some (44, true)), (.i (.ld true 1 (.tmp 45)))⟩, ⟨(some 47), (some (44, true)), (.i (.bin .eql (.tmp 46) (.cst (.int .i64 0))))⟩, ⟨(some 48), none, (.i (.pick (.tmp 44) (.tmp 47) (.cst (.bool false))))⟩, ⟨(some 8), none, (.i (.mov (.tmp 48)))⟩] false [])
      .ret)
      (.seq (.seq (.region [⟨(some 50), none, (.i (.bin .eql (.tmp 26) (.cst (.int .i64 3))))⟩, ⟨(some 49), none, (.i (.mov (.tmp 50)))⟩] false [])
      (.cond (.tmp 49)
        .skip
        (.region [⟨(some 51), none, (.i (.bin .eql (.tmp 26) (.cst (.int .i64 5))))⟩, ⟨(some 49), none, (.i (.mov (.tmp 51)))⟩] false [])))
      (.cond (.tmp 49)
        (.seq (.region [⟨(some 52), none, (.i (.fld 3 (.tmp 5)))⟩, ⟨(some 53), none, (.i (.ld true 1 (.tmp 52)))⟩, ⟨(some 54), none, (.i (.bin .eql (.tmp 53) (.cst (.int .i64 0))))⟩, ⟨(some 8), none, (.i (.mov (.tmp 54)))⟩] false [])
        .ret)
        (.seq (.region [⟨(some 56), none, (.i (.bin .eql (.tmp 26) (.cst (.int .i64 4))))⟩, ⟨(some 55), none, (.i (.mov (.tmp 56)))⟩] false [])
        (.cond (.tmp 55)
          (.seq (.region [⟨(some 57), none, (.i (.fld 3 (.tmp 5)))⟩, ⟨(some 58), none, (.i (.ld true 1 (.tmp 57)))⟩, ⟨(some 59), none, (.i (.mov (.tmp 0)))⟩, ⟨(some 60), none, (.i (.bin .sub (.tmp 59) (.cst (.int .i64 1))))⟩, ⟨(some 61), none, (.call (.cst (.fn 41 [])) [(.tmp 58), (.cst (.int .i64 0)), (.tmp 60)] [[], [], []])⟩, ⟨(some 8), none, (.i (.mov (.tmp 61)))⟩] false [])
          .ret)
          .skip))))))))))
  (.seq (.region [⟨(some 8), none, (.i (.mov (.cst (.bool false))))⟩] false [])
  .ret))))
def r_spec_crGate : List Res := [.tmp 8]
theorem c_spec_crGate : compiled Tryd.prog Tryd.f70 = some (m_spec_crGate, r_spec_crGate) := by kernel_rfl
theorem hb_spec_crGate : hasBody Tryd.prog 70 = true := by kernel_rfl
def L_spec_crGate (a0 : Int) (a1_0 : Int) (a1_1 : Int) (a1_2 : Int) (a1_3 : Int) (a2 : Int) (a3 : Int) : Option Bool :=
  Option.bind (Option.bind (L_spec_crOperands a1_0 a1_1 a1_2 a1_3) fun y4 =>
  Option.bind (L_spec_l1All y4 0 (IntKind.i64.wrap (a3 - 1))) fun y5 =>
  cond (!y5)
    (some true)
    (cond (a1_0 != 3)
      (some (a1_2 != 0))
      (some false))) fun l3_m24 =>
cond l3_m24
  (some false)
  (cond (a1_0 == 1)
    (Option.bind (Option.bind (L_spec_l1In a1_3 0 (IntKind.i64.wrap (a2 - 1))) fun y15 =>
      cond y15
        (some (a1_1 == 0))
        (some false)) fun l14_m8 =>
    some l14_m8)
    (cond (a1_0 == 2)
      (Option.bind (cond (a1_3 == 0)
          (some (a1_1 == 0))
          (some false)) fun l19_m8 =>
      some l19_m8)
      (Option.bind (cond (a1_0 == 3)
          (some (a1_0 == 3))
          (some (a1_0 == 5))) fun l21_m49 =>
      cond l21_m49
        (some (a1_3 == 0))
        (cond (a1_0 == 4)
          (Option.bind (L_spec_l1In a1_3 0 (IntKind.i64.wrap (a0 - 1))) fun y29 =>
          some y29)
          (some false)))))
def rv_spec_crGate (r : Bool) : RV := ⟨false, [(false, [.sc (.bool r)])]⟩
theorem ok_spec_crGate {a0 : Int} {a1_0 : Int} {a1_1 : Int} {a1_2 : Int} {a1_3 : Int} {a2 : Int} {a3 : Int} {r : Bool} (h : L_spec_crGate a0 a1_0 a1_1 a1_2 a1_3 a2 a3 = some r) : CallOK Tryd.prog Tab 70 [(.int .i64 a0), (.agg [(.int .i64 a1_0), (.int .i64 a1_1), (.int .i64 a1_2), (.int .i64 a1_3)]), (.int .i64 a2), (.int .i64 a3)] (rv_spec_crGate r) := by
  refine call_of_ (by kernel_rfl) Tryd.func70 c_spec_crGate (n := 62) (by kernel_rfl) (by simp) (tl := [(0, (.int .i64 a0)), (1, (.agg [(.int .i64 a1_0), (.int .i64 a1_1), (.int .i64 a1_2), (.int .i64 a1_3)])), (2, (.int .i64 a2)), (3, (.int .i64 a3))]) rfl ?_
  unfold m_spec_crGate
  unfold L_spec_crGate at h
  refine awp_seq_ ?_
  refine awp_region_ 3 (by kernel_rfl) ?_
  refine rs1 (.box (5, 1) 0) (5, 1) (.cells 51 [(.int .i64 a1_0), (.int .i64 a1_1), (.int .i64 a1_2), (.int .i64 a1_3)]) (by kernel_rfl) ?_
  refine rs0 (.bool false) (by kernel_rfl) ?_
  refine rnil (tn_ ?_)
  refine awp_seq_ ?_
  refine awp_seqB h (fun (l3_m24 : Bool) S_ => S_ = ⟨mkTm [(0, (.int .i64 a0)), (2, (.int .i64 a2)), (5, (.box (0, 1) 0)), (24, (.bool l3_m24))], mkOb (someL [((0, 1), .cells 51 [(.int .i64 a1_0), (.int .i64 a1_1), (.int .i64 a1_2), (.int .i64 a1_3)])]), 2⟩) ?_ ?_
  · intro v_ h
    obtain ⟨y4, h4, h⟩ := ob_some h
    obtain ⟨y5, h5, h⟩ := ob_some h
    rcases cond_some h with ⟨q6, h⟩ | ⟨q6, h⟩
    · refine awp_region_ 19 (by kernel_rfl) ?_
      refine rsl (.agg [(.int .i64 a1_0), (.int .i64 a1_1), (.int .i64 a1_2), (.int .i64 a1_3)]) (by kernel_rfl) ?_
      refine rcall (.own (160, 4) .int 0 y4.length) [((160, 4), some (.arr 3 .int y4))] [(.agg [(.int .i64 a1_0), (.int .i64 a1_1), (.int .i64 a1_2), (.int .i64 a1_3)])] _ (caps := []) (args0 := [(.agg [(.int .i64 a1_0), (.int .i64 a1_1), (.int .i64 a1_2), (.int .i64 a1_3)])]) trivial (by kernel_rfl) (by kernel_rfl) (by kernel_rfl) (by kernel_rfl) (ok_spec_crOperands h4) hb_spec_crOperands (by kernel_rfl) ?_
      refine rs0 (.int .i64 a3) (by kernel_rfl) ?_
      refine rs0 (.int .i64 (IntKind.i64.wrap (a3 - 1))) (by kernel_rfl) ?_
      refine rcall (.bool y5) [] [(.own (160, 4) .int 0 y4.length), (.int .i64 0), (.int .i64 (IntKind.i64.wrap (a3 - 1)))] _ (caps := []) (args0 := [(.tree .int y4), (.int .i64 0), (.int .i64 (IntKind.i64.wrap (a3 - 1)))]) trivial (by kernel_rfl) (by kernel_rfl) (gm_cons (gd_own (e := 3) (by kernel_rfl) rfl) (gm_cons (by kernel_rfl) (gm_cons (by kernel_rfl) gm_nil))) (by kernel_rfl) (ok_spec_l1All h5) hb_spec_l1All (by kernel_rfl) ?_
      refine rs0 (.bool (!y5)) (by kernel_rfl) ?_
      refine rs0 (.bool (!y5)) (by kernel_rfl) ?_
      refine rs0 (.tup []) (s_skip (by kernel_rfl) q6) ?_
      refine rs0 (.tup []) (s_skip (by kernel_rfl) q6) ?_
      refine rs0 (.tup []) (s_skip (by kernel_rfl) q6) ?_
      refine rs0 (.tup []) (s_skip (by kernel_rfl) q6) ?_
      refine rs0 (.tup []) (s_skipU (by kernel_rfl)) ?_
      refine rs0 (.tup []) (s_skipU (by kernel_rfl)) ?_
      refine rs0 (.tup []) (s_skipU (by kernel_rfl)) ?_
      refine rs0 (.tup []) (s_skip (by kernel_rfl) q6) ?_
      refine rs0 (.bool true) (s_pickT (by kernel_rfl) q6) ?_
      refine rnil (tn_ ?_)
      obtain rfl := Option.some.inj h
      exact ⟨_, (weak_ren (renF [((0, 1), (5, 1))]) (by kernel_rfl) (by kernel_rfl) (by kernel_rfl)), rfl⟩
    · rcases cond_some h with ⟨q7, h⟩ | ⟨q7, h⟩
      · refine awp_region_ 19 (by kernel_rfl) ?_
        refine rsl (.agg [(.int .i64 a1_0), (.int .i64 a1_1), (.int .i64 a1_2), (.int .i64 a1_3)]) (by kernel_rfl) ?_
        refine rcall (.own (160, 4) .int 0 y4.length) [((160, 4), some (.arr 3 .int y4))] [(.agg [(.int .i64 a1_0), (.int .i64 a1_1), (.int .i64 a1_2), (.int .i64 a1_3)])] _ (caps := []) (args0 := [(.agg [(.int .i64 a1_0), (.int .i64 a1_1), (.int .i64 a1_2), (.int .i64 a1_3)])]) trivial (by kernel_rfl) (by kernel_rfl) (by kernel_rfl) (by kernel_rfl) (ok_spec_crOperands h4) hb_spec_crOperands (by kernel_rfl) ?_
        refine rs0 (.int .i64 a3) (by kernel_rfl) ?_
        refine rs0 (.int .i64 (IntKind.i64.wrap (a3 - 1))) (by kernel_rfl) ?_
        refine rcall (.bool y5) [] [(.own (160, 4) .int 0 y4.length), (.int .i64 0), (.int .i64 (IntKind.i64.wrap (a3 - 1)))] _ (caps := []) (args0 := [(.tree .int y4), (.int .i64 0), (.int .i64 (IntKind.i64.wrap (a3 - 1)))]) trivial (by kernel_rfl) (by kernel_rfl) (gm_cons (gd_own (e := 3) (by kernel_rfl) rfl) (gm_cons (by kernel_rfl) (gm_cons (by kernel_rfl) gm_nil))) (by kernel_rfl) (ok_spec_l1All h5) hb_spec_l1All (by kernel_rfl) ?_
        refine rs0 (.bool (!y5)) (by kernel_rfl) ?_
        refine rs0 (.bool (!y5)) (by kernel_rfl) ?_
        refine rs0 (.box (5, 1) 0) (s_gd (by kernel_rfl) q6 (by kernel_rfl)) ?_
        refine rsl (.int .i64 a1_0) (s_gd (by kernel_rfl) q6 (by kernel_rfl)) ?_
        refine rs0 (.bool (a1_0 != 3)) (s_gd (by kernel_rfl) q6 (by kernel_rfl)) ?_
        refine rs0 (.bool (a1_0 != 3)) (s_gd (by kernel_rfl) q6 (by kernel_rfl)) ?_
        refine rs0 (.box (5, 1) 2) (s_gd (by kernel_rfl) q7 (by kernel_rfl)) ?_
        refine rsl (.int .i64 a1_2) (s_gd (by kernel_rfl) q7 (by kernel_rfl)) ?_
        refine rs0 (.bool (a1_2 != 0)) (s_gd (by kernel_rfl) q7 (by kernel_rfl)) ?_
        refine rs0 (.bool (a1_2 != 0)) (s_gd (by kernel_rfl) q6 (s_pickT (by kernel_rfl) q7)) ?_
        refine rs0 (.bool (a1_2 != 0)) (s_pickF (by kernel_rfl) q6) ?_
        refine rnil (tn_ ?_)
        obtain rfl := Option.some.inj h
        exact ⟨_, (weak_ren (renF [((0, 1), (5, 1))]) (by kernel_rfl) (by kernel_rfl) (by kernel_rfl)), rfl⟩
      · refine awp_region_ 19 (by kernel_rfl) ?_
        refine rsl (.agg [(.int .i64 a1_0), (.int .i64 a1_1), (.int .i64 a1_2), (.int .i64 a1_3)]) (by kernel_rfl) ?_
        refine rcall (.own (160, 4) .int 0 y4.length) [((160, 4), some (.arr 3 .int y4))] [(.agg [(.int .i64 a1_0), (.int .i64 a1_1), (.int .i64 a1_2), (.int .i64 a1_3)])] _ (caps := []) (args0 := [(.agg [(.int .i64 a1_0), (.int .i64 a1_1), (.int .i64 a1_2), (.int .i64 a1_3)])]) trivial (by kernel_rfl) (by kernel_rfl) (by kernel_rfl) (by kernel_rfl) (ok_spec_crOperands h4) hb_spec_crOperands (by kernel_rfl) ?_
        refine rs0 (.int .i64 a3) (by kernel_rfl) ?_
        refine rs0 (.int .i64 (IntKind.i64.wrap (a3 - 1))) (by kernel_rfl) ?_
        refine rcall (.bool y5) [] [(.own (160, 4) .int 0 y4.length), (.int .i64 0), (.int .i64 (IntKind.i64.wrap (a3 - 1)))] _ (caps := []) (args0 := [(.tree .int y4), (.int .i64 0), (.int .i64 (IntKind.i64.wrap (a3 - 1)))]) trivial (by kernel_rfl) (by kernel_rfl) (gm_cons (gd_own (e := 3) (by kernel_rfl) rfl) (gm_cons (by kernel_rfl) (gm_cons (by kernel_rfl) gm_nil))) (by kernel_rfl) (ok_spec_l1All h5) hb_spec_l1All (by kernel_rfl) ?_
        refine rs0 (.bool (!y5)) (by kernel_rfl) ?_
        refine rs0 (.bool (!y5)) (by kernel_rfl) ?_
        refine rs0 (.box (5, 1) 0) (s_gd (by kernel_rfl) q6 (by kernel_rfl)) ?_
        refine rsl (.int .i64 a1_0) (s_gd (by kernel_rfl) q6 (by kernel_rfl)) ?_
        refine rs0 (.bool (a1_0 != 3)) (s_gd (by kernel_rfl) q6 (by kernel_rfl)) ?_
        refine rs0 (.bool (a1_0 != 3)) (s_gd (by kernel_rfl) q6 (by kernel_rfl)) ?_
        refine rs0 (.tup []) (s_skip (by kernel_rfl) q7) ?_
        refine rs0 (.tup []) (s_skip (by kernel_rfl) q7) ?_
        refine rs0 (.tup []) (s_skip (by kernel_rfl) q7) ?_
        refine rs0 (.bool false) (s_gd (by kernel_rfl) q6 (s_pickF (by kernel_rfl) q7)) ?_
        refine rs0 (.bool false) (s_pickF (by kernel_rfl) q6) ?_
        refine rnil (tn_ ?_)
        obtain rfl := Option.some.inj h
        exact ⟨_, (weak_ren (renF [((0, 1), (5, 1))]) (by kernel_rfl) (by kernel_rfl) (by kernel_rfl)), rfl⟩
  · rintro l3_m24 _ rfl h
    (try dsimp only at h)
    rcases cond_some h with ⟨q8, h⟩ | ⟨q8, h⟩
    · refine awp_condT_ q8 (by kernel_rfl) ?_
      refine awp_seq_ ?_
      refine awp_region_ 3 (by kernel_rfl) ?_
      refine rs0 (.bool false) (by kernel_rfl) ?_
      refine rnil (tn_ ?_)
      refine awp_ret_ (tr_ ?_)
      obtain rfl := Option.some.inj h
      exact ret_ [(.bool false)] (by simp) (by kernel_rfl) (p_one rfl (l_sc (by kernel_rfl)) p_nil) (by kernel_rfl) (by kernel_rfl)
    · refine awp_condF_ q8 (by kernel_rfl) ?_
      refine awp_skip_ (tn_ ?_)
      refine awp_seq_ ?_
      refine awp_seq_ ?_
      refine awp_region_ 4 (by kernel_rfl) ?_
      refine rs0 (.box (0, 1) 0) (by kernel_rfl) ?_
      refine rsl (.int .i64 a1_0) (by kernel_rfl) ?_
      refine rnil (tn_ ?_)
      refine awp_block_ ?_
      refine awp_seq_ ?_
      refine awp_region_ 6 (by kernel_rfl) ?_
      refine rs0 (.bool (a1_0 == 1)) (by kernel_rfl) ?_
      refine rs0 (.bool (a1_0 == 1)) (by kernel_rfl) ?_
      refine rnil (tn_ ?_)
      rcases cond_some h with ⟨q13, h⟩ | ⟨q13, h⟩
      · refine awp_condT_ q13 (by kernel_rfl) ?_
        refine awp_seqB h (fun (l14_m8 : Bool) S_ => S_ = ⟨mkTm [(8, (.bool l14_m8))], mkOb (someL []), 2⟩) ?_ ?_
        · intro v_ h
          obtain ⟨y15, h15, h⟩ := ob_some h
          rcases cond_some h with ⟨q16, h⟩ | ⟨q16, h⟩
          · refine awp_region_ 17 (by kernel_rfl) ?_
            refine rs0 (.box (0, 1) 3) (by kernel_rfl) ?_
            refine rsl (.int .i64 a1_3) (by kernel_rfl) ?_
            refine rs0 (.int .i64 a2) (by kernel_rfl) ?_
            refine rs0 (.int .i64 (IntKind.i64.wrap (a2 - 1))) (by kernel_rfl) ?_
            refine rcall (.bool y15) [] [(.int .i64 a1_3), (.int .i64 0), (.int .i64 (IntKind.i64.wrap (a2 - 1)))] _ (caps := []) (args0 := [(.int .i64 a1_3), (.int .i64 0), (.int .i64 (IntKind.i64.wrap (a2 - 1)))]) trivial (by kernel_rfl) (by kernel_rfl) (by kernel_rfl) (by kernel_rfl) (ok_spec_l1In h15) hb_spec_l1In (by kernel_rfl) ?_
            refine rs0 (.bool y15) (by kernel_rfl) ?_
            refine rs0 (.box (0, 1) 1) (s_gd (by kernel_rfl) q16 (by kernel_rfl)) ?_
            refine rsl (.int .i64 a1_1) (s_gd (by kernel_rfl) q16 (by kernel_rfl)) ?_
            refine rs0 (.bool (a1_1 == 0)) (s_gd (by kernel_rfl) q16 (by kernel_rfl)) ?_
            refine rs0 (.bool (a1_1 == 0)) (s_pickT (by kernel_rfl) q16) ?_
            refine rs0 (.bool (a1_1 == 0)) (by kernel_rfl) ?_
            refine rnil (tn_ ?_)
            obtain rfl := Option.some.inj h
            exact ⟨_, (weak_ren (renF []) (by kernel_rfl) (by kernel_rfl) (by kernel_rfl)), rfl⟩
          · refine awp_region_ 17 (by kernel_rfl) ?_
            refine rs0 (.box (0, 1) 3) (by kernel_rfl) ?_
            refine rsl (.int .i64 a1_3) (by kernel_rfl) ?_
            refine rs0 (.int .i64 a2) (by kernel_rfl) ?_
            refine rs0 (.int .i64 (IntKind.i64.wrap (a2 - 1))) (by kernel_rfl) ?_
            refine rcall (.bool y15) [] [(.int .i64 a1_3), (.int .i64 0), (.int .i64 (IntKind.i64.wrap (a2 - 1)))] _ (caps := []) (args0 := [(.int .i64 a1_3), (.int .i64 0), (.int .i64 (IntKind.i64.wrap (a2 - 1)))]) trivial (by kernel_rfl) (by kernel_rfl) (by kernel_rfl) (by kernel_rfl) (ok_spec_l1In h15) hb_spec_l1In (by kernel_rfl) ?_
            refine rs0 (.bool y15) (by kernel_rfl) ?_
            refine rs0 (.tup []) (s_skip (by kernel_rfl) q16) ?_
            refine rs0 (.tup []) (s_skip (by kernel_rfl) q16) ?_
            refine rs0 (.tup []) (s_skip (by kernel_rfl) q16) ?_
            refine rs0 (.bool false) (s_pickF (by kernel_rfl) q16) ?_
            refine rs0 (.bool false) (by kernel_rfl) ?_
            refine rnil (tn_ ?_)
            obtain rfl := Option.some.inj h
            exact ⟨_, (weak_ren (renF []) (by kernel_rfl) (by kernel_rfl) (by kernel_rfl)), rfl⟩
        · rintro l14_m8 _ rfl h
          (try dsimp only at h)
          refine awp_ret_ (br_ (tr_ ?_))
          obtain rfl := Option.some.inj h
          exact ret_ [(.bool l14_m8)] (by simp) (by kernel_rfl) (p_one rfl (l_sc (by kernel_rfl)) p_nil) (by kernel_rfl) (by kernel_rfl)
      · refine awp_condF_ q13 (by kernel_rfl) ?_
        refine awp_seq_ ?_
        refine awp_region_ 8 (by kernel_rfl) ?_
        refine rs0 (.bool (a1_0 == 2)) (by kernel_rfl) ?_
        refine rs0 (.bool (a1_0 == 2)) (by kernel_rfl) ?_
        refine rnil (tn_ ?_)
        rcases cond_some h with ⟨q18, h⟩ | ⟨q18, h⟩
        · refine awp_condT_ q18 (by kernel_rfl) ?_
          refine awp_seqB h (fun (l19_m8 : Bool) S_ => S_ = ⟨mkTm [(8, (.bool l19_m8))], mkOb (someL []), 2⟩) ?_ ?_
          · intro v_ h
            rcases cond_some h with ⟨q20, h⟩ | ⟨q20, h⟩
            · refine awp_region_ 17 (by kernel_rfl) ?_
              refine rs0 (.box (0, 1) 3) (by kernel_rfl) ?_
              refine rsl (.int .i64 a1_3) (by kernel_rfl) ?_
              refine rs0 (.bool (a1_3 == 0)) (by kernel_rfl) ?_
              refine rs0 (.bool (a1_3 == 0)) (by kernel_rfl) ?_
              refine rs0 (.box (0, 1) 1) (s_gd (by kernel_rfl) q20 (by kernel_rfl)) ?_
              refine rsl (.int .i64 a1_1) (s_gd (by kernel_rfl) q20 (by kernel_rfl)) ?_
              refine rs0 (.bool (a1_1 == 0)) (s_gd (by kernel_rfl) q20 (by kernel_rfl)) ?_
              refine rs0 (.bool (a1_1 == 0)) (s_pickT (by kernel_rfl) q20) ?_
              refine rs0 (.bool (a1_1 == 0)) (by kernel_rfl) ?_
              refine rnil (tn_ ?_)
              obtain rfl := Option.some.inj h
              exact ⟨_, (weak_ren (renF []) (by kernel_rfl) (by kernel_rfl) (by kernel_rfl)), rfl⟩
            · refine awp_region_ 17 (by kernel_rfl) ?_
              refine rs0 (.box (0, 1) 3) (by kernel_rfl) ?_
              refine rsl (.int .i64 a1_3) (by kernel_rfl) ?_
              refine rs0 (.bool (a1_3 == 0)) (by kernel_rfl) ?_
              refine rs0 (.bool (a1_3 == 0)) (by kernel_rfl) ?_
              refine rs0 (.tup []) (s_skip (by kernel_rfl) q20) ?_
              refine rs0 (.tup []) (s_skip (by kernel_rfl) q20) ?_
              refine rs0 (.tup []) (s_skip (by kernel_rfl) q20) ?_
              refine rs0 (.bool false) (s_pickF (by kernel_rfl) q20) ?_
              refine rs0 (.bool false) (by kernel_rfl) ?_
              refine rnil (tn_ ?_)
              obtain rfl := Option.some.inj h
              exact ⟨_, (weak_ren (renF []) (by kernel_rfl) (by kernel_rfl) (by kernel_rfl)), rfl⟩
          · rintro l19_m8 _ rfl h
            (try dsimp only at h)
            refine awp_ret_ (br_ (tr_ ?_))
            obtain rfl := Option.some.inj h
            exact ret_ [(.bool l19_m8)] (by simp) (by kernel_rfl) (p_one rfl (l_sc (by kernel_rfl)) p_nil) (by kernel_rfl) (by kernel_rfl)
        · refine awp_condF_ q18 (by kernel_rfl) ?_
          refine awp_seqB h (fun (l21_m49 : Bool) S_ => S_ = ⟨mkTm [(0, (.int .i64 a0)), (5, (.box (0, 1) 0)), (26, (.int .i64 a1_0)), (49, (.bool l21_m49))], mkOb (someL [((0, 1), .cells 51 [(.int .i64 a1_0), (.int .i64 a1_1), (.int .i64 a1_2), (.int .i64 a1_3)])]), 2⟩) ?_ ?_
          · intro v_ h
            refine awp_seq_ ?_
            refine awp_region_ 10 (by kernel_rfl) ?_
            refine rs0 (.bool (a1_0 == 3)) (by kernel_rfl) ?_
            refine rs0 (.bool (a1_0 == 3)) (by kernel_rfl) ?_
            refine rnil (tn_ ?_)
            rcases cond_some h with ⟨q23, h⟩ | ⟨q23, h⟩
            · refine awp_condT_ q23 (by kernel_rfl) ?_
              refine awp_skip_ (tn_ ?_)
              obtain rfl := Option.some.inj h
              exact ⟨_, (weak_ren (renF []) (by kernel_rfl) (by kernel_rfl) (by kernel_rfl)), rfl⟩
            · refine awp_condF_ q23 (by kernel_rfl) ?_
              refine awp_region_ 12 (by kernel_rfl) ?_
              refine rs0 (.bool (a1_0 == 5)) (by kernel_rfl) ?_
              refine rs0 (.bool (a1_0 == 5)) (by kernel_rfl) ?_
              refine rnil (tn_ ?_)
              obtain rfl := Option.some.inj h
              exact ⟨_, (weak_ren (renF []) (by kernel_rfl) (by kernel_rfl) (by kernel_rfl)), rfl⟩
          · rintro l21_m49 _ rfl h
            (try dsimp only at h)
            rcases cond_some h with ⟨q24, h⟩ | ⟨q24, h⟩
            · refine awp_condT_ q24 (by kernel_rfl) ?_
              refine awp_seq_ ?_
              refine awp_region_ 6 (by kernel_rfl) ?_
              refine rs0 (.box (0, 1) 3) (by kernel_rfl) ?_
              refine rsl (.int .i64 a1_3) (by kernel_rfl) ?_
              refine rs0 (.bool (a1_3 == 0)) (by kernel_rfl) ?_
              refine rs0 (.bool (a1_3 == 0)) (by kernel_rfl) ?_
              refine rnil (tn_ ?_)
              refine awp_ret_ (br_ (tr_ ?_))
              obtain rfl := Option.some.inj h
              exact ret_ [(.bool (a1_3 == 0))] (by simp) (by kernel_rfl) (p_one rfl (l_sc (by kernel_rfl)) p_nil) (by kernel_rfl) (by kernel_rfl)
            · refine awp_condF_ q24 (by kernel_rfl) ?_
              refine awp_seq_ ?_
              refine awp_region_ 4 (by kernel_rfl) ?_
              refine rs0 (.bool (a1_0 == 4)) (by kernel_rfl) ?_
              refine rs0 (.bool (a1_0 == 4)) (by kernel_rfl) ?_
              refine rnil (tn_ ?_)
              rcases cond_some h with ⟨q27, h⟩ | ⟨q27, h⟩
              · refine awp_condT_ q27 (by kernel_rfl) ?_
                refine awp_seq_ ?_
                obtain ⟨y29, h29, h⟩ := ob_some h
                refine awp_region_ 10 (by kernel_rfl) ?_
                refine rs0 (.box (0, 1) 3) (by kernel_rfl) ?_
                refine rsl (.int .i64 a1_3) (by kernel_rfl) ?_
                refine rs0 (.int .i64 a0) (by kernel_rfl) ?_
                refine rs0 (.int .i64 (IntKind.i64.wrap (a0 - 1))) (by kernel_rfl) ?_
                refine rcall (.bool y29) [] [(.int .i64 a1_3), (.int .i64 0), (.int .i64 (IntKind.i64.wrap (a0 - 1)))] _ (caps := []) (args0 := [(.int .i64 a1_3), (.int .i64 0), (.int .i64 (IntKind.i64.wrap (a0 - 1)))]) trivial (by kernel_rfl) (by kernel_rfl) (by kernel_rfl) (by kernel_rfl) (ok_spec_l1In h29) hb_spec_l1In (by kernel_rfl) ?_
                refine rs0 (.bool y29) (by kernel_rfl) ?_
                refine rnil (tn_ ?_)
                refine awp_ret_ (br_ (tr_ ?_))
                obtain rfl := Option.some.inj h
                exact ret_ [(.bool y29)] (by simp) (by kernel_rfl) (p_one rfl (l_sc (by kernel_rfl)) p_nil) (by kernel_rfl) (by kernel_rfl)
              · refine awp_condF_ q27 (by kernel_rfl) ?_
                refine awp_skip_ (bn_ (tn_ ?_))
                refine awp_seq_ ?_
                refine awp_region_ 5 (by kernel_rfl) ?_
                refine rs0 (.bool false) (by kernel_rfl) ?_
                refine rnil (tn_ ?_)
                refine awp_ret_ ?_
                obtain rfl := Option.some.inj h
                exact ret_ [(.bool false)] (by simp) (by kernel_rfl) (p_one rfl (l_sc (by kernel_rfl)) p_nil) (by kernel_rfl) (by kernel_rfl)
def m_spec_crCombines : AC :=
  (.seq (.region [⟨(some 1), none, (.i (.box 51 (.tmp 0)))⟩, ⟨(some 2), none, (.i (.mov (.cst (.bool false))))⟩] false [])
  (.seq (.region [⟨(some 3), none, (.i (.fld 0 (.tmp 1)))⟩, ⟨(some 4), none, (.i (.ld true 1 (.tmp 3)))⟩, ⟨(some 5), none, (.i (.bin .eql (.tmp 4) (.cst (.int .i64 3))))⟩, ⟨(some 6), none, (.i (.mov (.tmp 5)))⟩, ⟨(some 7), (some (6, false)), (.i (.fld 0 (.tmp 1)))⟩, ⟨(some 8), (some (6, false)), (.i (.ld true 1 (.tmp 7)))⟩, ⟨(some 9), (some (6, false)), (.i (.bin .eql (.tmp 8) (.cst (.int .i64 4))))⟩, ⟨(some 10), none, (.i (.pick (.tmp 6) (.cst (.bool true)) (.tmp 9)))⟩, ⟨(some 2), none, (.i (.mov (.tmp 10)))⟩] false [])
  .ret))
def r_spec_crCombines : List Res := [.tmp 2]
theorem c_spec_crCombines : compiled Tryd.prog Tryd.f71 = some (m_spec_crCombines, r_spec_crCombines) := by kernel_rfl
theorem hb_spec_crCombines : hasBody Tryd.prog 71 = true := by kernel_rfl
def L_spec_crCombines (a0_0 : Int) (a0_1 : Int) (a0_2 : Int) (a0_3 : Int) : Option Bool :=
  Option.bind (cond (a0_0 == 3)
    (some true)
    (some (a0_0 == 4))) fun l2_m2 =>
some l2_m2
def rv_spec_crCombines (r : Bool) : RV := ⟨false, [(false, [.sc (.bool r)])]⟩
theorem ok_spec_crCombines {a0_0 : Int} {a0_1 : Int} {a0_2 : Int} {a0_3 : Int} {r : Bool} (h : L_spec_crCombines a0_0 a0_1 a0_2 a0_3 = some r) : CallOK Tryd.prog Tab 71 [(.agg [(.int .i64 a0_0), (.int .i64 a0_1), (.int .i64 a0_2), (.int .i64 a0_3)])] (rv_spec_crCombines r) := by
  refine call_of_ (by kernel_rfl) Tryd.func71 c_spec_crCombines (n := 11) (by kernel_rfl) (by simp) (tl := [(0, (.agg [(.int .i64 a0_0), (.int .i64 a0_1), (.int .i64 a0_2), (.int .i64 a0_3)]))]) rfl ?_
  unfold m_spec_crCombines
  unfold L_spec_crCombines at h
  refine awp_seq_ ?_
  refine awp_region_ 3 (by kernel_rfl) ?_
  refine rs1 (.box (1, 1) 0) (1, 1) (.cells 51 [(.int .i64 a0_0), (.int .i64 a0_1), (.int .i64 a0_2), (.int .i64 a0_3)]) (by kernel_rfl) ?_
  refine rs0 (.bool false) (by kernel_rfl) ?_
  refine rnil (tn_ ?_)
  refine awp_seqB h (fun (l2_m2 : Bool) S_ => S_ = ⟨mkTm [(2, (.bool l2_m2))], mkOb (someL []), 2⟩) ?_ ?_
  · intro v_ h
    rcases cond_some h with ⟨q3, h⟩ | ⟨q3, h⟩
    · refine awp_region_ 12 (by kernel_rfl) ?_
      refine rs0 (.box (1, 1) 0) (by kernel_rfl) ?_
      refine rsl (.int .i64 a0_0) (by kernel_rfl) ?_
      refine rs0 (.bool (a0_0 == 3)) (by kernel_rfl) ?_
      refine rs0 (.bool (a0_0 == 3)) (by kernel_rfl) ?_
      refine rs0 (.tup []) (s_skip (by kernel_rfl) q3) ?_
      refine rs0 (.tup []) (s_skip (by kernel_rfl) q3) ?_
      refine rs0 (.tup []) (s_skip (by kernel_rfl) q3) ?_
      refine rs0 (.bool true) (s_pickT (by kernel_rfl) q3) ?_
      refine rs0 (.bool true) (by kernel_rfl) ?_
      refine rnil (tn_ ?_)
      obtain rfl := Option.some.inj h
      exact ⟨_, (weak_ren (renF []) (by kernel_rfl) (by kernel_rfl) (by kernel_rfl)), rfl⟩
    · refine awp_region_ 12 (by kernel_rfl) ?_
      refine rs0 (.box (1, 1) 0) (by kernel_rfl) ?_
      refine rsl (.int .i64 a0_0) (by kernel_rfl) ?_
      refine rs0 (.bool (a0_0 == 3)) (by kernel_rfl) ?_
      refine rs0 (.bool (a0_0 == 3)) (by kernel_rfl) ?_
      refine rs0 (.box (1, 1) 0) (s_gd (by kernel_rfl) q3 (by kernel_rfl)) ?_
      refine rsl (.int .i64 a0_0) (s_gd (by kernel_rfl) q3 (by kernel_rfl)) ?_
      refine rs0 (.bool (a0_0 == 4)) (s_gd (by kernel_rfl) q3 (by kernel_rfl)) ?_
      refine rs0 (.bool (a0_0 == 4)) (s_pickF (by kernel_rfl) q3) ?_
      refine rs0 (.bool (a0_0 == 4)) (by kernel_rfl) ?_
      refine rnil (tn_ ?_)
      obtain rfl := Option.some.inj h
      exact ⟨_, (weak_ren (renF []) (by kernel_rfl) (by kernel_rfl) (by kernel_rfl)), rfl⟩
  · rintro l2_m2 _ rfl h
    (try dsimp only at h)
    refine awp_ret_ ?_
    obtain rfl := Option.some.inj h
    exact ret_ [(.bool l2_m2)] (by simp) (by kernel_rfl) (p_one rfl (l_sc (by kernel_rfl)) p_nil) (by kernel_rfl) (by kernel_rfl)
def m_spec_crOrder_l4 : AC :=
  (.seq (.region [⟨(some 52), none, (.i (.bin .lss (.tmp 51) (.tmp 50)))⟩] false [])
  (.seq (.cond (.tmp 52)
    .skip
    (.exit 6))
  (.seq (.block 7 (.seq (.region [⟨(some 53), none, (.i (.idx 1 (.tmp 49) (.tmp 51)))⟩, ⟨(some 54), none, (.i (.ld true 1 (.tmp 53)))⟩, ⟨(some 12), none, (.i (.mov (.tmp 54)))⟩] false [])
  (.region [⟨(some 55), none, (.i (.mov (.tmp 10)))⟩, ⟨(some 56), none, (.i (.mov (.tmp 55)))⟩, ⟨(some 57), (some (56, true)), (.i (.mov (.tmp 4)))⟩, ⟨(some 58), (some (56, true)), (.i (.mov (.tmp 12)))⟩, ⟨(some 59), (some (56, true)), (.i (.idx 1 (.tmp 57) (.tmp 58)))⟩, ⟨(some 60), (some (56, true)), (.i (.ld true 1 (.tmp 59)))⟩, ⟨(some 61), none, (.i (.pick (.tmp 56) (.tmp 60) (.cst (.bool false))))⟩, ⟨(some 10), none, (.i (.mov (.tmp 61)))⟩] false [])))
  (.region [⟨(some 62), none, (.i (.bin .add (.tmp 51) (.cst (.int .i64 1))))⟩, ⟨(some 51), none, (.i (.mov (.tmp 62)))⟩] false []))))
def m_spec_crOrder_l3 : AC :=
  (.seq (.region [⟨(some 36), none, (.i (.bin .lss (.tmp 35) (.tmp 34)))⟩] false [])
  (.seq (.cond (.tmp 36)
    .skip
    (.exit 4))
  (.seq (.block 5 (.seq (.region [⟨(some 37), none, (.i (.mov (.tmp 35)))⟩, ⟨(some 38), none, (.i (.idx 4 (.tmp 33) (.tmp 35)))⟩, ⟨(some 39), none, (.i (.ld false 4 (.tmp 38)))⟩, ⟨(some 9), none, (.i (.alloc 51 [(.int .i64 0), (.int .i64 0), (.int .i64 0), (.int .i64 0)]))⟩, ⟨(some 8), none, (.i (.mov (.tmp 37)))⟩, ⟨none, none, (.st false 4 (.tmp 9) (.tmp 39))⟩] false [])
  (.seq (.seq (.region [⟨(some 40), none, (.i (.mov (.tmp 4)))⟩, ⟨(some 41), none, (.i (.mov (.tmp 8)))⟩, ⟨(some 42), none, (.i (.idx 1 (.tmp 40) (.tmp 41)))⟩, ⟨(some 43), none, (.i (.ld true 1 (.tmp 42)))⟩, ⟨(some 44), none, (.i (.mov (.tmp 43)))⟩, ⟨(some 45), (some (44, false)), (.i (.mov (.tmp 7)))⟩, ⟨(some 46), (some (44, false)), (.i (.bin .geq (.tmp 45) (.cst (.int .i64 0))))⟩, ⟨(some 47), none, (.i (.pick (.tmp 44) (.cst (.bool true)) (.tmp 46)))⟩] false [])
  (.cond (.tmp 47)
    (.exit 5)
    .skip))
  (.seq (.region [⟨(some 10), none, (.i (.mov (.cst (.bool true))))⟩] false [])
  (.seq (.seq (.region [⟨(some 48), none, (.i (.ld false 4 (.tmp 9)))⟩, ⟨(some 49), none, (.call (.cst (.fn 90 [])) [(.tmp 48)] [[none, none, none, none]])⟩, ⟨(some 50), none, (.i (.len (.tmp 49)))⟩, ⟨(some 51), none, (.i (.mov (.cst (.int .i64 0))))⟩] false [])
  (.block 6 (.loop m_spec_crOrder_l4)))
  (.seq (.region [⟨(some 63), none, (.i (.mov (.tmp 10)))⟩] false [])
  (.cond (.tmp 63)
    (.region [⟨(some 64), none, (.i (.mov (.tmp 8)))⟩, ⟨(some 7), none, (.i (.mov (.tmp 64)))⟩] false [])
    .skip)))))))
  (.region [⟨(some 65), none, (.i (.bin .add (.tmp 35) (.cst (.int .i64 1))))⟩, ⟨(some 35), none, (.i (.mov (.tmp 65)))⟩] false []))))
def m_spec_crOrder_l2 : AC :=
  (.block 3 (.seq (.region [⟨(some 7), none, (.i (.mov (.cst (.int .i64 (-1)))))⟩] false [])
  (.seq (.seq (.region [⟨(some 32), none, (.i (.fld 1 (.tmp 1)))⟩, ⟨(some 33), none, (.i (.ld true 1 (.tmp 32)))⟩, ⟨(some 34), none, (.i (.len (.tmp 33)))⟩, ⟨(some 35), none, (.i (.mov (.cst (.int .i64 0))))⟩] false [])
  (.block 4 (.loop m_spec_crOrder_l3)))
  (.seq (.seq (.region [⟨(some 66), none, (.i (.mov (.tmp 7)))⟩, ⟨(some 67), none, (.i (.bin .lss (.tmp 66) (.cst (.int .i64 0))))⟩] false [])
  (.cond (.tmp 67)
    (.seq (.region [⟨(some 68), none, (.i (.mov (.tmp 3)))⟩, ⟨(some 2), none, (.i (.mov (.tmp 68)))⟩] false [])
    .ret)
    .skip))
  (.seq (.region [⟨(some 69), none, (.i (.mov (.tmp 4)))⟩, ⟨(some 70), none, (.i (.mov (.tmp 7)))⟩, ⟨(some 71), none, (.i (.idx 1 (.tmp 69) (.tmp 70)))⟩, ⟨none, none, (.st true 1 (.tmp 71) (.cst (.bool true)))⟩] false [])
  (.region [⟨(some 72), none, (.i (.mov (.tmp 3)))⟩, ⟨(some 73), none, (.i (.mov (.tmp 7)))⟩, ⟨(some 74), none, (.mkS 3 .int [(.tmp 73)])⟩, ⟨(some 75), none, (.append 3 .int 8 (.tmp 72) (.tmp 74))⟩, ⟨(some 3), none, (.i (.mov (.tmp 75)))⟩] false []))))))
def m_spec_crOrder_l1 : AC :=
  (.seq (.region [⟨(some 21), none, (.i (.bin .lss (.tmp 20) (.tmp 19)))⟩] false [])
  (.seq (.cond (.tmp 21)
    .skip
    (.exit 0))
  (.seq (.block 1 (.seq (.region [⟨(some 22), none, (.i (.mov (.tmp 20)))⟩, ⟨(some 23), none, (.i (.idx 4 (.tmp 18) (.tmp 20)))⟩, ⟨(some 24), none, (.i (.ld false 4 (.tmp 23)))⟩, ⟨(some 6), none, (.i (.alloc 51 [(.int .i64 0), (.int .i64 0), (.int .i64 0), (.int .i64 0)]))⟩, ⟨(some 5), none, (.i (.mov (.tmp 22)))⟩, ⟨none, none, (.st false 4 (.tmp 6) (.tmp 24))⟩] false [])
  (.region [⟨(some 25), none, (.i (.mov (.tmp 4)))⟩, ⟨(some 26), none, (.i (.mov (.tmp 5)))⟩, ⟨(some 27), none, (.i (.ld false 4 (.tmp 6)))⟩, ⟨(some 28), none, (.call (.cst (.fn 71 [])) [(.tmp 27)] [[none, none, none, none]])⟩, ⟨(some 29), none, (.i (.not (.tmp 28)))⟩, ⟨(some 30), none, (.i (.idx 1 (.tmp 25) (.tmp 26)))⟩, ⟨none, none, (.st true 1 (.tmp 30) (.tmp 29))⟩] false [])))
  (.region [⟨(some 31), none, (.i (.bin .add (.tmp 20) (.cst (.int .i64 1))))⟩, ⟨(some 20), none, (.i (.mov (.tmp 31)))⟩] false []))))
def m_spec_crOrder : AC :=
  (.seq (.region [⟨(some 1), none, (.i (.box 31 (.tmp 0)))⟩, ⟨(some 2), none, (.i (.mov (.cst .nils)))⟩] false [])
  (.seq (.region [⟨(some 3), none, (.i (.mov (.cst .nils)))⟩] false [])
  (.seq (.region [⟨(some 13), none, (.i (.fld 1 (.tmp 1)))⟩, ⟨(some 14), none, (.i (.ld true 1 (.tmp 13)))⟩, ⟨(some 15), none, (.i (.len (.tmp 14)))⟩, ⟨(some 16), none, (.make 4 .bool 1 (.tmp 15) (.tmp 15))⟩, ⟨(some 4), none, (.i (.mov (.tmp 16)))⟩] false [])
  (.seq (.seq (.region [⟨(some 17), none, (.i (.fld 1 (.tmp 1)))⟩, ⟨(some 18), none, (.i (.ld true 1 (.tmp 17)))⟩, ⟨(some 19), none, (.i (.len (.tmp 18)))⟩, ⟨(some 20), none, (.i (.mov (.cst (.int .i64 0))))⟩] false [])
  (.block 0 (.loop m_spec_crOrder_l1)))
  (.block 2 (.loop m_spec_crOrder_l2))))))
def r_spec_crOrder : List Res := [.tmp 2]
theorem c_spec_crOrder : compiled Tryd.prog Tryd.f72 = some (m_spec_crOrder, r_spec_crOrder) := by kernel_rfl
theorem hb_spec_crOrder : hasBody Tryd.prog 72 = true := by kernel_rfl
def L_spec_crOrder_l1 (a0_1 : List (Int × Int × Int × Int)) (l7_m20 : Nat) (l7_m4 : List Bool) : Option (Ctl (Nat × List Bool) (List Bool)) :=
  cond (decide (((l7_m20 : Nat) : Int) < ((a0_1.length : Nat) : Int)))
  (Option.bind (a0_1[l7_m20]?) fun x13 =>
  Option.bind (L_spec_crCombines x13.1 x13.2.1 x13.2.2.1 x13.2.2.2) fun y14 =>
  Option.bind (l7_m4[l7_m20]?) fun x15 =>
  og (l7_m20 + 1 < 4611686018427387904) <|
  some (Ctl.next (l7_m20 + 1, l7_m4.set l7_m20 (!y14))))
  (some (Ctl.out l7_m4))
def L_spec_crOrder_l4 (y36 : List Int) (l17_m4 : List Bool) (l37_m10 : Bool) (l37_m51 : Nat) : Option (Ctl (Bool × Nat) Bool) :=
  cond (decide (((l37_m51 : Nat) : Int) < ((y36.length : Nat) : Int)))
  (Option.bind (Option.bind (y36[l37_m51]?) fun x43 =>
    cond l37_m10
      (Option.bind (getI l17_m4 x43) fun x45 =>
      some x45)
      (some false)) fun l41_m10 =>
  og (l37_m51 + 1 < 4611686018427387904) <|
  some (Ctl.next (l41_m10, l37_m51 + 1)))
  (some (Ctl.out l37_m10))
def L_spec_crOrder_l3 (a0_1 : List (Int × Int × Int × Int)) (l17_m4 : List Bool) (l21_m7 : Int) (l21_m35 : Nat) : Option (Ctl (Int × Nat) Int) :=
  cond (decide (((l21_m35 : Nat) : Int) < ((a0_1.length : Nat) : Int)))
  (Option.bind (Option.bind (a0_1[l21_m35]?) fun x27 =>
    Option.bind (Option.bind (l17_m4[l21_m35]?) fun x30 =>
      cond x30
        (some true)
        (some (decide (0 ≤ l21_m7)))) fun l29_m47 =>
    cond l29_m47
      (some l21_m7)
      (Option.bind (Option.bind (L_spec_crOperands x27.1 x27.2.1 x27.2.2.1 x27.2.2.2) fun y36 =>
        loopM (fun s_ : Bool × Nat => L_spec_crOrder_l4 y36 l17_m4 s_.1 s_.2) 4611686018427387904 (true, 0)) fun l34_m10 =>
      cond l34_m10
        (some ((l21_m35 : Nat) : Int))
        (some l21_m7))) fun l25_m7 =>
  og (l21_m35 + 1 < 4611686018427387904) <|
  some (Ctl.next (l25_m7, l21_m35 + 1)))
  (some (Ctl.out l21_m7))
def L_spec_crOrder_l2 (a0_1 : List (Int × Int × Int × Int)) (l17_m3 : List Int) (l17_m4 : List Bool) : Option (Ctl (List Int × List Bool) (List Int)) :=
  Option.bind (loopM (fun s_ : Int × Nat => L_spec_crOrder_l3 a0_1 l17_m4 s_.1 s_.2) 4611686018427387904 ((-1), 0)) fun l19_m7 =>
cond (decide (l19_m7 < 0))
  (some (Ctl.out l17_m3))
  (Option.bind (getI l17_m4 l19_m7) fun x55 =>
  og (l17_m3.length + 1 ≤ 1073741824 ∧ (l17_m3.length + 1) * 8 ≤ 140737488355328) <|
  some (Ctl.next (l17_m3 ++ ([l19_m7]), l17_m4.set l19_m7.toNat true)))
def L_spec_crOrder (a0_0 : Int) (a0_1 : List (Int × Int × Int × Int)) (a0_2 : List Int) : Option (List Int) :=
  og (0 ≤ ((a0_1.length : Nat) : Int) ∧ ((a0_1.length : Nat) : Int) ≤ ((a0_1.length : Nat) : Int) ∧ ((a0_1.length : Nat) : Int) ≤ 1073741824 ∧ (1 : Int) * ((a0_1.length : Nat) : Int) ≤ 140737488355328) <|
Option.bind (loopM (fun s_ : Nat × List Bool => L_spec_crOrder_l1 a0_1 s_.1 s_.2) 4611686018427387904 (0, List.replicate a0_1.length (false : Bool))) fun l5_m4 =>
loopM (fun s_ : List Int × List Bool => L_spec_crOrder_l2 a0_1 s_.1 s_.2) 4611686018427387904 ([], l5_m4)
def rv_spec_crOrder (r : List Int) : RV := ⟨false, [(false, [.new 3 .int r])]⟩
theorem ok_spec_crOrder {a0_0 : Int} {a0_1 : List (Int × Int × Int × Int)} {a0_2 : List Int} {r : List Int} (h : L_spec_crOrder a0_0 a0_1 a0_2 = some r) : CallOK Tryd.prog Tab 72 [(.agg [(.int .i64 a0_0), (.tree (.pair .int (.pair .int (.pair .int .int))) a0_1), (.tree .int a0_2)])] (rv_spec_crOrder r) := by
  refine call_of_ (by kernel_rfl) Tryd.func72 c_spec_crOrder (n := 76) (by kernel_rfl) (by simp) (tl := [(0, (.agg [(.int .i64 a0_0), (.tree (.pair .int (.pair .int (.pair .int .int))) a0_1), (.tree .int a0_2)]))]) rfl ?_
  unfold m_spec_crOrder
  unfold L_spec_crOrder at h
  refine awp_seq_ ?_
  refine awp_region_ 3 (by kernel_rfl) ?_
  refine rs1 (.box (1, 1) 0) (1, 1) (.cells 31 [(.int .i64 a0_0), (.tree (.pair .int (.pair .int (.pair .int .int))) a0_1), (.tree .int a0_2)]) (by kernel_rfl) ?_
  refine rs0 .nils (by kernel_rfl) ?_
  refine rnil (tn_ ?_)
  refine awp_seq_ ?_
  refine awp_region_ 4 (by kernel_rfl) ?_
  refine rs0 .nils (by kernel_rfl) ?_
  refine rnil (tn_ ?_)
  refine awp_seq_ ?_
  obtain ⟨g4, h⟩ := og_some h
  refine awp_region_ 9 (by kernel_rfl) ?_
  refine rs0 (.box (1, 1) 1) (by kernel_rfl) ?_
  refine rsl (.tree (.pair .int (.pair .int (.pair .int .int))) a0_1) (by kernel_rfl) ?_
  refine rs0 (.int .i64 ((a0_1.length : Nat) : Int)) (by kernel_rfl) ?_
  refine rs1 (.own (16, 7) .bool 0 a0_1.length) (16, 7) (.arr 4 .bool (List.replicate a0_1.length (false : Bool))) (s_make (t := .bool) (k := .i64) (k' := .i64) (m := ((a0_1.length : Nat) : Int)) (m' := ((a0_1.length : Nat) : Int)) (by kernel_rfl) (by kernel_rfl) g4 rfl) ?_
  refine rs0 (.own (16, 7) .bool 0 a0_1.length) (by kernel_rfl) ?_
  refine rnil (tn_ ?_)
  refine awp_seqB h (fun (l5_m4 : List Bool) S_ => S_ = ⟨mkTm [(1, (.box (0, 1) 0)), (3, .nils), (4, (.own (1, 1) .bool 0 l5_m4.length))], mkOb (someL [((0, 1), .cells 31 [(.int .i64 a0_0), (.tree (.pair .int (.pair .int (.pair .int .int))) a0_1), (.tree .int a0_2)]), ((1, 1), .arr 4 .bool l5_m4)]), 2⟩) ?_ ?_
  · intro v_ h
    refine awp_seq_ ?_
    refine awp_region_ 13 (by kernel_rfl) ?_
    refine rs0 (.box (1, 1) 1) (by kernel_rfl) ?_
    refine rsl (.tree (.pair .int (.pair .int (.pair .int .int))) a0_1) (by kernel_rfl) ?_
    refine rs0 (.int .i64 ((a0_1.length : Nat) : Int)) (by kernel_rfl) ?_
    refine rs0 (.int .i64 0) (by kernel_rfl) ?_
    refine rnil (tn_ ?_)
    refine awp_block_ ?_
    refine awp_loopL h (fun t_ S_ => ∃ (l7_m20 : Nat), ∃ (l7_m4 : List Bool), t_ = (l7_m20, l7_m4) ∧ S_ = ⟨mkTm [(1, (.box (0, 1) 0)), (3, .nils), (4, (.own (1, 1) .bool 0 l7_m4.length)), (18, (.tree (.pair .int (.pair .int (.pair .int .int))) a0_1)), (19, (.int .i64 ((a0_1.length : Nat) : Int))), (20, (.int .i64 ((l7_m20 : Nat) : Int)))], mkOb (someL [((0, 1), .cells 31 [(.int .i64 a0_0), (.tree (.pair .int (.pair .int (.pair .int .int))) a0_1), (.tree .int a0_2)]), ((1, 1), .arr 4 .bool l7_m4)]), 2⟩) ⟨_, ((weak_tm_ 4 (.own (16, 7) .bool 0 a0_1.length) (.own (16, 7) .bool 0 ((List.replicate a0_1.length (false : Bool)).length)) (by kernel_rfl) (congrArg (fun z_ => ((.own (16, 7) .bool 0 z_) : AV)) (List.length_replicate.symm : a0_1.length = (List.replicate a0_1.length (false : Bool)).length))).trans (weak_ren (renF [((0, 1), (1, 1)), ((1, 1), (16, 7))]) (by kernel_rfl) (by kernel_rfl) (by kernel_rfl))), ⟨0, List.replicate a0_1.length (false : Bool), rfl, rfl⟩⟩ ?_
    · rintro n_ _ _ c_ ⟨l7_m20, l7_m4, rfl, rfl⟩ h hn7
      (try dsimp only at h)
      unfold L_spec_crOrder_l1 at h
      unfold m_spec_crOrder_l1
      refine awp_seq_ ?_
      refine awp_region_ 3 (by kernel_rfl) ?_
      refine rs0 (.bool (decide (((l7_m20 : Nat) : Int) < ((a0_1.length : Nat) : Int)))) (by kernel_rfl) ?_
      refine rnil (tn_ ?_)
      refine awp_seq_ ?_
      rcases cond_some h with ⟨q10, h⟩ | ⟨q10, h⟩
      · have q10_ := of_decide_eq_true q10
        refine awp_condT_ q10 (by kernel_rfl) ?_
        refine awp_skip_ (tn_ ?_)
        refine awp_seq_ ?_
        refine awp_block_ ?_
        refine awp_seq_ ?_
        obtain ⟨x13, e13, h⟩ := ob_some h
        refine awp_region_ 9 (by kernel_rfl) ?_
        refine rs0 (.int .i64 ((l7_m20 : Nat) : Int)) (by kernel_rfl) ?_
        refine rs0 (.telt (.pair .int (.pair .int (.pair .int .int))) x13 0) (s_idxT (t := (.pair .int (.pair .int (.pair .int .int)))) (xs := a0_1) (k := .i64) (m := ((l7_m20 : Nat) : Int)) (by kernel_rfl) (by kernel_rfl) rfl (nat_nn _) rfl e13) ?_
        refine rs0 (.agg [(.int .i64 x13.1), (.int .i64 x13.2.1), (.int .i64 x13.2.2.1), (.int .i64 x13.2.2.2)]) (by kernel_rfl) ?_
        refine rs1 (.box (6, 6) 0) (6, 6) (.cells 51 [(.int .i64 0), (.int .i64 0), (.int .i64 0), (.int .i64 0)]) (by kernel_rfl) ?_
        refine rs0 (.int .i64 ((l7_m20 : Nat) : Int)) (by kernel_rfl) ?_
        refine rsn2 (6, 6) (6, 6) (.cells 51 [(.int .i64 x13.1), (.int .i64 x13.2.1), (.int .i64 x13.2.2.1), (.int .i64 x13.2.2.2)]) (by kernel_rfl) ?_
        refine rnil (tn_ ?_)
        obtain ⟨y14, h14, h⟩ := ob_some h
        obtain ⟨x15, e15, h⟩ := ob_some h
        refine awp_region_ 16 (by kernel_rfl) ?_
        refine rs0 (.own (1, 1) .bool 0 l7_m4.length) (by kernel_rfl) ?_
        refine rs0 (.int .i64 ((l7_m20 : Nat) : Int)) (by kernel_rfl) ?_
        refine rsl (.agg [(.int .i64 x13.1), (.int .i64 x13.2.1), (.int .i64 x13.2.2.1), (.int .i64 x13.2.2.2)]) (by kernel_rfl) ?_
        refine rcall (.bool y14) [] [(.agg [(.int .i64 x13.1), (.int .i64 x13.2.1), (.int .i64 x13.2.2.1), (.int .i64 x13.2.2.2)])] _ (caps := []) (args0 := [(.agg [(.int .i64 x13.1), (.int .i64 x13.2.1), (.int .i64 x13.2.2.1), (.int .i64 x13.2.2.2)])]) trivial (by kernel_rfl) (by kernel_rfl) (by kernel_rfl) (by kernel_rfl) (ok_spec_crCombines h14) hb_spec_crCombines (by kernel_rfl) ?_
        refine rs0 (.bool (!y14)) (by kernel_rfl) ?_
        refine rs0 (.elt (1, 1) l7_m20 0) (s_idxO (t := .bool) (o := (1, 1)) (len := l7_m4.length) (k := .i64) (m := ((l7_m20 : Nat) : Int)) (by kernel_rfl) (by kernel_rfl) rfl (nat_nn _) rfl (getN_lt e15)) ?_
        refine rsn2 (1, 1) (1, 1) (.arr 4 .bool (l7_m4.set l7_m20 (!y14))) (s_stE (i := (1, 1)) (j := l7_m20) (k := 0) (e := 4) (t := .bool) (xs := l7_m4) (cs := [(.bool (!y14))]) (x1 := !y14) (by kernel_rfl) (by kernel_rfl) e15 (by kernel_rfl) (by kernel_rfl)) ?_
        refine rnil (bn_ (tn_ ?_))
        obtain ⟨g16, h⟩ := og_some h
        refine awp_region_ 18 (by kernel_rfl) ?_
        refine rs0 (.int .i64 ((l7_m20 + 1 : Nat) : Int)) (s_add1 (j := l7_m20) (by kernel_rfl) (by kernel_rfl) g16) ?_
        refine rs0 (.int .i64 ((l7_m20 + 1 : Nat) : Int)) (by kernel_rfl) ?_
        refine rnil (tn_ ?_)
        obtain rfl := Option.some.inj h
        exact ⟨(l7_m20 + 1, l7_m4.set l7_m20 (!y14)), _, ((weak_tm_ 4 (.own (1, 1) .bool 0 l7_m4.length) (.own (1, 1) .bool 0 ((l7_m4.set l7_m20 (!y14)).length)) (by kernel_rfl) (congrArg (fun z_ => ((.own (1, 1) .bool 0 z_) : AV)) (((rfl : l7_m4.length = l7_m4.length).trans List.length_set.symm) : l7_m4.length = (l7_m4.set l7_m20 (!y14)).length))).trans (weak_ren (renF []) (by kernel_rfl) (by kernel_rfl) (by kernel_rfl))), ⟨l7_m20 + 1, l7_m4.set l7_m20 (!y14), rfl, rfl⟩, hn7⟩
      · have q10_ := of_decide_eq_false q10
        refine awp_condF_ q10 (by kernel_rfl) ?_
        refine awp_exit_ (te_ (te_ (be_ (tn_ ?_))))
        obtain rfl := Option.some.inj h
        have h := hn7
        (try dsimp only at h)
        obtain rfl := Option.some.inj h
        exact ⟨_, (weak_ren (renF []) (by kernel_rfl) (by kernel_rfl) (by kernel_rfl)), rfl⟩
  · rintro l5_m4 _ rfl h
    (try dsimp only at h)
    refine awp_block_ ?_
    refine awp_loopL h (fun t_ S_ => ∃ (l17_m3 : List Int), ∃ (l17_m4 : List Bool), t_ = (l17_m3, l17_m4) ∧ S_ = ⟨mkTm [(1, (.box (0, 1) 0)), (3, (.own (1, 1) .int 0 l17_m3.length)), (4, (.own (2, 1) .bool 0 l17_m4.length))], mkOb (someL [((0, 1), .cells 31 [(.int .i64 a0_0), (.tree (.pair .int (.pair .int (.pair .int .int))) a0_1), (.tree .int a0_2)]), ((1, 1), .arr 3 .int l17_m3), ((2, 1), .arr 4 .bool l17_m4)]), 2⟩) ⟨_, ((weak_nil_ 3 3 .int rfl (by kernel_rfl)).trans (weak_ren (renF [((1, 1), (3, 2)), ((2, 1), (1, 1))]) (by kernel_rfl) (by kernel_rfl) (by kernel_rfl))), ⟨[], l5_m4, rfl, rfl⟩⟩ ?_
    · rintro n_ _ _ c_ ⟨l17_m3, l17_m4, rfl, rfl⟩ h hn17
      (try dsimp only at h)
      unfold L_spec_crOrder_l2 at h
      unfold m_spec_crOrder_l2
      refine awp_block_ ?_
      refine awp_seq_ ?_
      refine awp_region_ 3 (by kernel_rfl) ?_
      refine rs0 (.int .i64 (-1)) (by kernel_rfl) ?_
      refine rnil (tn_ ?_)
      refine awp_seqB h (fun (l19_m7 : Int) S_ => S_ = ⟨mkTm [(1, (.box (0, 1) 0)), (3, (.own (1, 1) .int 0 l17_m3.length)), (4, (.own (2, 1) .bool 0 l17_m4.length)), (7, (.int .i64 l19_m7))], mkOb (someL [((0, 1), .cells 31 [(.int .i64 a0_0), (.tree (.pair .int (.pair .int (.pair .int .int))) a0_1), (.tree .int a0_2)]), ((1, 1), .arr 3 .int l17_m3), ((2, 1), .arr 4 .bool l17_m4)]), 2⟩) ?_ ?_
      · intro v_ h
        refine awp_seq_ ?_
        refine awp_region_ 7 (by kernel_rfl) ?_
        refine rs0 (.box (0, 1) 1) (by kernel_rfl) ?_
        refine rsl (.tree (.pair .int (.pair .int (.pair .int .int))) a0_1) (by kernel_rfl) ?_
        refine rs0 (.int .i64 ((a0_1.length : Nat) : Int)) (by kernel_rfl) ?_
        refine rs0 (.int .i64 0) (by kernel_rfl) ?_
        refine rnil (tn_ ?_)
        refine awp_block_ ?_
        refine awp_loopL h (fun t_ S_ => ∃ (l21_m7 : Int), ∃ (l21_m35 : Nat), t_ = (l21_m7, l21_m35) ∧ S_ = ⟨mkTm [(1, (.box (0, 1) 0)), (3, (.own (1, 1) .int 0 l17_m3.length)), (4, (.own (2, 1) .bool 0 l17_m4.length)), (7, (.int .i64 l21_m7)), (33, (.tree (.pair .int (.pair .int (.pair .int .int))) a0_1)), (34, (.int .i64 ((a0_1.length : Nat) : Int))), (35, (.int .i64 ((l21_m35 : Nat) : Int)))], mkOb (someL [((0, 1), .cells 31 [(.int .i64 a0_0), (.tree (.pair .int (.pair .int (.pair .int .int))) a0_1), (.tree .int a0_2)]), ((1, 1), .arr 3 .int l17_m3), ((2, 1), .arr 4 .bool l17_m4)]), 2⟩) ⟨_, (weak_ren (renF []) (by kernel_rfl) (by kernel_rfl) (by kernel_rfl)), ⟨(-1), 0, rfl, rfl⟩⟩ ?_
        · rintro n_ _ _ c_ ⟨l21_m7, l21_m35, rfl, rfl⟩ h hn21
          (try dsimp only at h)
          unfold L_spec_crOrder_l3 at h
          unfold m_spec_crOrder_l3
          refine awp_seq_ ?_
          refine awp_region_ 3 (by kernel_rfl) ?_
          refine rs0 (.bool (decide (((l21_m35 : Nat) : Int) < ((a0_1.length : Nat) : Int)))) (by kernel_rfl) ?_
          refine rnil (tn_ ?_)
          refine awp_seq_ ?_
          rcases cond_some h with ⟨q24, h⟩ | ⟨q24, h⟩
          · have q24_ := of_decide_eq_true q24
            refine awp_condT_ q24 (by kernel_rfl) ?_
            refine awp_skip_ (tn_ ?_)
            refine awp_seqB h (fun (l25_m7 : Int) S_ => S_ = ⟨mkTm [(1, (.box (0, 1) 0)), (3, (.own (1, 1) .int 0 l17_m3.length)), (4, (.own (2, 1) .bool 0 l17_m4.length)), (7, (.int .i64 l25_m7)), (33, (.tree (.pair .int (.pair .int (.pair .int .int))) a0_1)), (34, (.int .i64 ((a0_1.length : Nat) : Int))), (35, (.int .i64 ((l21_m35 : Nat) : Int)))], mkOb (someL [((0, 1), .cells 31 [(.int .i64 a0_0), (.tree (.pair .int (.pair .int (.pair .int .int))) a0_1), (.tree .int a0_2)]), ((1, 1), .arr 3 .int l17_m3), ((2, 1), .arr 4 .bool l17_m4)]), 2⟩) ?_ ?_
            · intro v_ h
              refine awp_block_ ?_
              refine awp_seq_ ?_
              obtain ⟨x27, e27, h⟩ := ob_some h
              refine awp_region_ 9 (by kernel_rfl) ?_
              refine rs0 (.int .i64 ((l21_m35 : Nat) : Int)) (by kernel_rfl) ?_
              refine rs0 (.telt (.pair .int (.pair .int (.pair .int .int))) x27 0) (s_idxT (t := (.pair .int (.pair .int (.pair .int .int)))) (xs := a0_1) (k := .i64) (m := ((l21_m35 : Nat) : Int)) (by kernel_rfl) (by kernel_rfl) rfl (nat_nn _) rfl e27) ?_
              refine rs0 (.agg [(.int .i64 x27.1), (.int .i64 x27.2.1), (.int .i64 x27.2.2.1), (.int .i64 x27.2.2.2)]) (by kernel_rfl) ?_
              refine rs1 (.box (9, 6) 0) (9, 6) (.cells 51 [(.int .i64 0), (.int .i64 0), (.int .i64 0), (.int .i64 0)]) (by kernel_rfl) ?_
              refine rs0 (.int .i64 ((l21_m35 : Nat) : Int)) (by kernel_rfl) ?_
              refine rsn2 (9, 6) (9, 6) (.cells 51 [(.int .i64 x27.1), (.int .i64 x27.2.1), (.int .i64 x27.2.2.1), (.int .i64 x27.2.2.2)]) (by kernel_rfl) ?_
              refine rnil (tn_ ?_)
              refine awp_seq_ ?_
              refine awp_seqB h (fun (l29_m47 : Bool) S_ => S_ = ⟨mkTm [(1, (.box (0, 1) 0)), (3, (.own (1, 1) .int 0 l17_m3.length)), (4, (.own (2, 1) .bool 0 l17_m4.length)), (7, (.int .i64 l21_m7)), (8, (.int .i64 ((l21_m35 : Nat) : Int))), (9, (.box (3, 1) 0)), (33, (.tree (.pair .int (.pair .int (.pair .int .int))) a0_1)), (34, (.int .i64 ((a0_1.length : Nat) : Int))), (35, (.int .i64 ((l21_m35 : Nat) : Int))), (47, (.bool l29_m47))], mkOb (someL [((0, 1), .cells 31 [(.int .i64 a0_0), (.tree (.pair .int (.pair .int (.pair .int .int))) a0_1), (.tree .int a0_2)]), ((1, 1), .arr 3 .int l17_m3), ((2, 1), .arr 4 .bool l17_m4), ((3, 1), .cells 51 [(.int .i64 x27.1), (.int .i64 x27.2.1), (.int .i64 x27.2.2.1), (.int .i64 x27.2.2.2)])]), 2⟩) ?_ ?_
              · intro v_ h
                obtain ⟨x30, e30, h⟩ := ob_some h
                rcases cond_some h with ⟨q31, h⟩ | ⟨q31, h⟩
                · refine awp_region_ 17 (by kernel_rfl) ?_
                  refine rs0 (.own (2, 1) .bool 0 l17_m4.length) (by kernel_rfl) ?_
                  refine rs0 (.int .i64 ((l21_m35 : Nat) : Int)) (by kernel_rfl) ?_
                  refine rs0 (.elt (2, 1) l21_m35 0) (s_idxO (t := .bool) (o := (2, 1)) (len := l17_m4.length) (k := .i64) (m := ((l21_m35 : Nat) : Int)) (by kernel_rfl) (by kernel_rfl) rfl (nat_nn _) rfl (getN_lt e30)) ?_
                  refine rsl (.bool x30) (s_ldE (i := (2, 1)) (j := l21_m35) (k := 0) (e := 4) (t := .bool) (xs := l17_m4) (by kernel_rfl) (by kernel_rfl) e30 (by kernel_rfl)) ?_
                  refine rs0 (.bool x30) (by kernel_rfl) ?_
                  refine rs0 (.tup []) (s_skip (by kernel_rfl) q31) ?_
                  refine rs0 (.tup []) (s_skip (by kernel_rfl) q31) ?_
                  refine rs0 (.bool true) (s_pickT (by kernel_rfl) q31) ?_
                  refine rnil (tn_ ?_)
                  obtain rfl := Option.some.inj h
                  exact ⟨_, (weak_ren (renF [((3, 1), (9, 6))]) (by kernel_rfl) (by kernel_rfl) (by kernel_rfl)), rfl⟩
                · refine awp_region_ 17 (by kernel_rfl) ?_
                  refine rs0 (.own (2, 1) .bool 0 l17_m4.length) (by kernel_rfl) ?_
                  refine rs0 (.int .i64 ((l21_m35 : Nat) : Int)) (by kernel_rfl) ?_
                  refine rs0 (.elt (2, 1) l21_m35 0) (s_idxO (t := .bool) (o := (2, 1)) (len := l17_m4.length) (k := .i64) (m := ((l21_m35 : Nat) : Int)) (by kernel_rfl) (by kernel_rfl) rfl (nat_nn _) rfl (getN_lt e30)) ?_
                  refine rsl (.bool x30) (s_ldE (i := (2, 1)) (j := l21_m35) (k := 0) (e := 4) (t := .bool) (xs := l17_m4) (by kernel_rfl) (by kernel_rfl) e30 (by kernel_rfl)) ?_
                  refine rs0 (.bool x30) (by kernel_rfl) ?_
                  refine rs0 (.int .i64 l21_m7) (s_gd (by kernel_rfl) q31 (by kernel_rfl)) ?_
                  refine rs0 (.bool (decide (0 ≤ l21_m7))) (s_gd (by kernel_rfl) q31 (by kernel_rfl)) ?_
                  refine rs0 (.bool (decide (0 ≤ l21_m7))) (s_pickF (by kernel_rfl) q31) ?_
                  refine rnil (tn_ ?_)
                  obtain rfl := Option.some.inj h
                  exact ⟨_, (weak_ren (renF [((3, 1), (9, 6))]) (by kernel_rfl) (by kernel_rfl) (by kernel_rfl)), rfl⟩
              · rintro l29_m47 _ rfl h
                (try dsimp only at h)
                rcases cond_some h with ⟨q32, h⟩ | ⟨q32, h⟩
                · refine awp_condT_ q32 (by kernel_rfl) ?_
                  refine awp_exit_ (te_ (be_ (tn_ ?_)))
                  obtain rfl := Option.some.inj h
                  exact ⟨_, (weak_ren (renF []) (by kernel_rfl) (by kernel_rfl) (by kernel_rfl)), rfl⟩
                · refine awp_condF_ q32 (by kernel_rfl) ?_
                  refine awp_skip_ (tn_ ?_)
                  refine awp_seq_ ?_
                  refine awp_region_ 3 (by kernel_rfl) ?_
                  refine rs0 (.bool true) (by kernel_rfl) ?_
                  refine rnil (tn_ ?_)
                  refine awp_seqB h (fun (l34_m10 : Bool) S_ => S_ = ⟨mkTm [(1, (.box (0, 1) 0)), (3, (.own (1, 1) .int 0 l17_m3.length)), (4, (.own (2, 1) .bool 0 l17_m4.length)), (7, (.int .i64 l21_m7)), (8, (.int .i64 ((l21_m35 : Nat) : Int))), (10, (.bool l34_m10)), (33, (.tree (.pair .int (.pair .int (.pair .int .int))) a0_1)), (34, (.int .i64 ((a0_1.length : Nat) : Int))), (35, (.int .i64 ((l21_m35 : Nat) : Int)))], mkOb (someL [((0, 1), .cells 31 [(.int .i64 a0_0), (.tree (.pair .int (.pair .int (.pair .int .int))) a0_1), (.tree .int a0_2)]), ((1, 1), .arr 3 .int l17_m3), ((2, 1), .arr 4 .bool l17_m4)]), 2⟩) ?_ ?_
                  · intro v_ h
                    refine awp_seq_ ?_
                    obtain ⟨y36, h36, h⟩ := ob_some h
                    refine awp_region_ 7 (by kernel_rfl) ?_
                    refine rsl (.agg [(.int .i64 x27.1), (.int .i64 x27.2.1), (.int .i64 x27.2.2.1), (.int .i64 x27.2.2.2)]) (by kernel_rfl) ?_
                    refine rcall (.own (784, 4) .int 0 y36.length) [((784, 4), some (.arr 3 .int y36))] [(.agg [(.int .i64 x27.1), (.int .i64 x27.2.1), (.int .i64 x27.2.2.1), (.int .i64 x27.2.2.2)])] _ (caps := []) (args0 := [(.agg [(.int .i64 x27.1), (.int .i64 x27.2.1), (.int .i64 x27.2.2.1), (.int .i64 x27.2.2.2)])]) trivial (by kernel_rfl) (by kernel_rfl) (by kernel_rfl) (by kernel_rfl) (ok_spec_crOperands h36) hb_spec_crOperands (by kernel_rfl) ?_
                    refine rs0 (.int .i64 ((y36.length : Nat) : Int)) (by kernel_rfl) ?_
                    refine rs0 (.int .i64 0) (by kernel_rfl) ?_
                    refine rnil (tn_ ?_)
                    refine awp_block_ ?_
                    refine awp_loopL h (fun t_ S_ => ∃ (l37_m10 : Bool), ∃ (l37_m51 : Nat), t_ = (l37_m10, l37_m51) ∧ S_ = ⟨mkTm [(1, (.box (0, 1) 0)), (3, (.own (1, 1) .int 0 l17_m3.length)), (4, (.own (2, 1) .bool 0 l17_m4.length)), (7, (.int .i64 l21_m7)), (8, (.int .i64 ((l21_m35 : Nat) : Int))), (10, (.bool l37_m10)), (33, (.tree (.pair .int (.pair .int (.pair .int .int))) a0_1)), (34, (.int .i64 ((a0_1.length : Nat) : Int))), (35, (.int .i64 ((l21_m35 : Nat) : Int))), (49, (.own (3, 1) .int 0 y36.length)), (50, (.int .i64 ((y36.length : Nat) : Int))), (51, (.int .i64 ((l37_m51 : Nat) : Int)))], mkOb (someL [((0, 1), .cells 31 [(.int .i64 a0_0), (.tree (.pair .int (.pair .int (.pair .int .int))) a0_1), (.tree .int a0_2)]), ((1, 1), .arr 3 .int l17_m3), ((2, 1), .arr 4 .bool l17_m4), ((3, 1), .arr 3 .int y36)]), 2⟩) ⟨_, (weak_ren (renF [((3, 1), (784, 4))]) (by kernel_rfl) (by kernel_rfl) (by kernel_rfl)), ⟨true, 0, rfl, rfl⟩⟩ ?_
                    · rintro n_ _ _ c_ ⟨l37_m10, l37_m51, rfl, rfl⟩ h hn37
                      (try dsimp only at h)
                      unfold L_spec_crOrder_l4 at h
                      unfold m_spec_crOrder_l4
                      refine awp_seq_ ?_
                      refine awp_region_ 3 (by kernel_rfl) ?_
                      refine rs0 (.bool (decide (((l37_m51 : Nat) : Int) < ((y36.length : Nat) : Int)))) (by kernel_rfl) ?_
                      refine rnil (tn_ ?_)
                      refine awp_seq_ ?_
                      rcases cond_some h with ⟨q40, h⟩ | ⟨q40, h⟩
                      · have q40_ := of_decide_eq_true q40
                        refine awp_condT_ q40 (by kernel_rfl) ?_
                        refine awp_skip_ (tn_ ?_)
                        refine awp_seqB h (fun (l41_m10 : Bool) S_ => S_ = ⟨mkTm [(1, (.box (0, 1) 0)), (3, (.own (1, 1) .int 0 l17_m3.length)), (4, (.own (2, 1) .bool 0 l17_m4.length)), (7, (.int .i64 l21_m7)), (8, (.int .i64 ((l21_m35 : Nat) : Int))), (10, (.bool l41_m10)), (33, (.tree (.pair .int (.pair .int (.pair .int .int))) a0_1)), (34, (.int .i64 ((a0_1.length : Nat) : Int))), (35, (.int .i64 ((l21_m35 : Nat) : Int))), (49, (.own (3, 1) .int 0 y36.length)), (50, (.int .i64 ((y36.length : Nat) : Int))), (51, (.int .i64 ((l37_m51 : Nat) : Int)))], mkOb (someL [((0, 1), .cells 31 [(.int .i64 a0_0), (.tree (.pair .int (.pair .int (.pair .int .int))) a0_1), (.tree .int a0_2)]), ((1, 1), .arr 3 .int l17_m3), ((2, 1), .arr 4 .bool l17_m4), ((3, 1), .arr 3 .int y36)]), 2⟩) ?_ ?_
                        · intro v_ h
                          refine awp_block_ ?_
                          refine awp_seq_ ?_
                          obtain ⟨x43, e43, h⟩ := ob_some h
                          refine awp_region_ 6 (by kernel_rfl) ?_
                          refine rs0 (.elt (3, 1) l37_m51 0) (s_idxO (t := .int) (o := (3, 1)) (len := y36.length) (k := .i64) (m := ((l37_m51 : Nat) : Int)) (by kernel_rfl) (by kernel_rfl) rfl (nat_nn _) rfl (getN_lt e43)) ?_
                          refine rsl (.int .i64 x43) (s_ldE (i := (3, 1)) (j := l37_m51) (k := 0) (e := 3) (t := .int) (xs := y36) (by kernel_rfl) (by kernel_rfl) e43 (by kernel_rfl)) ?_
                          refine rs0 (.int .i64 x43) (by kernel_rfl) ?_
                          refine rnil (tn_ ?_)
                          rcases cond_some h with ⟨q44, h⟩ | ⟨q44, h⟩
                          · obtain ⟨x45, f45, h⟩ := ob_some h
                            obtain ⟨p45, b45, e45⟩ := getI_some f45
                            refine awp_region_ 14 (by kernel_rfl) ?_
                            refine rs0 (.bool l37_m10) (by kernel_rfl) ?_
                            refine rs0 (.bool l37_m10) (by kernel_rfl) ?_
                            refine rs0 (.own (2, 1) .bool 0 l17_m4.length) (s_gd (by kernel_rfl) q44 (by kernel_rfl)) ?_
                            refine rs0 (.int .i64 x43) (s_gd (by kernel_rfl) q44 (by kernel_rfl)) ?_
                            refine rs0 (.elt (2, 1) x43.toNat 0) (s_gd (by kernel_rfl) q44 (s_idxO (t := .bool) (o := (2, 1)) (len := l17_m4.length) (k := .i64) (m := x43) (by kernel_rfl) (by kernel_rfl) rfl p45 rfl (getN_lt e45))) ?_
                            refine rsl (.bool x45) (s_gd (by kernel_rfl) q44 (s_ldE (i := (2, 1)) (j := x43.toNat) (k := 0) (e := 4) (t := .bool) (xs := l17_m4) (by kernel_rfl) (by kernel_rfl) e45 (by kernel_rfl))) ?_
                            refine rs0 (.bool x45) (s_pickT (by kernel_rfl) q44) ?_
                            refine rs0 (.bool x45) (by kernel_rfl) ?_
                            refine rnil (bn_ (tn_ ?_))
                            obtain rfl := Option.some.inj h
                            exact ⟨_, (weak_ren (renF []) (by kernel_rfl) (by kernel_rfl) (by kernel_rfl)), rfl⟩
                          · refine awp_region_ 14 (by kernel_rfl) ?_
                            refine rs0 (.bool l37_m10) (by kernel_rfl) ?_
                            refine rs0 (.bool l37_m10) (by kernel_rfl) ?_
                            refine rs0 (.tup []) (s_skip (by kernel_rfl) q44) ?_
                            refine rs0 (.tup []) (s_skip (by kernel_rfl) q44) ?_
                            refine rs0 (.tup []) (s_skip (by kernel_rfl) q44) ?_
                            refine rs0 (.tup []) (s_skip (by kernel_rfl) q44) ?_
                            refine rs0 (.bool false) (s_pickF (by kernel_rfl) q44) ?_
                            refine rs0 (.bool false) (by kernel_rfl) ?_
                            refine rnil (bn_ (tn_ ?_))
                            obtain rfl := Option.some.inj h
                            exact ⟨_, (weak_ren (renF []) (by kernel_rfl) (by kernel_rfl) (by kernel_rfl)), rfl⟩
                        · rintro l41_m10 _ rfl h
                          (try dsimp only at h)
                          obtain ⟨g46, h⟩ := og_some h
                          refine awp_region_ 4 (by kernel_rfl) ?_
                          refine rs0 (.int .i64 ((l37_m51 + 1 : Nat) : Int)) (s_add1 (j := l37_m51) (by kernel_rfl) (by kernel_rfl) g46) ?_
                          refine rs0 (.int .i64 ((l37_m51 + 1 : Nat) : Int)) (by kernel_rfl) ?_
                          refine rnil (tn_ ?_)
                          obtain rfl := Option.some.inj h
                          exact ⟨(l41_m10, l37_m51 + 1), _, (weak_ren (renF []) (by kernel_rfl) (by kernel_rfl) (by kernel_rfl)), ⟨l41_m10, l37_m51 + 1, rfl, rfl⟩, hn37⟩
                      · have q40_ := of_decide_eq_false q40
                        refine awp_condF_ q40 (by kernel_rfl) ?_
                        refine awp_exit_ (te_ (te_ (be_ (tn_ ?_))))
                        obtain rfl := Option.some.inj h
                        have h := hn37
                        (try dsimp only at h)
                        obtain rfl := Option.some.inj h
                        exact ⟨_, (weak_ren (renF []) (by kernel_rfl) (by kernel_rfl) (by kernel_rfl)), rfl⟩
                  · rintro l34_m10 _ rfl h
                    (try dsimp only at h)
                    refine awp_seq_ ?_
                    refine awp_region_ 3 (by kernel_rfl) ?_
                    refine rs0 (.bool l34_m10) (by kernel_rfl) ?_
                    refine rnil (tn_ ?_)
                    rcases cond_some h with ⟨q48, h⟩ | ⟨q48, h⟩
                    · refine awp_condT_ q48 (by kernel_rfl) ?_
                      refine awp_region_ 5 (by kernel_rfl) ?_
                      refine rs0 (.int .i64 ((l21_m35 : Nat) : Int)) (by kernel_rfl) ?_
                      refine rs0 (.int .i64 ((l21_m35 : Nat) : Int)) (by kernel_rfl) ?_
                      refine rnil (bn_ (tn_ ?_))
                      obtain rfl := Option.some.inj h
                      exact ⟨_, (weak_ren (renF []) (by kernel_rfl) (by kernel_rfl) (by kernel_rfl)), rfl⟩
                    · refine awp_condF_ q48 (by kernel_rfl) ?_
                      refine awp_skip_ (bn_ (tn_ ?_))
                      obtain rfl := Option.some.inj h
                      exact ⟨_, (weak_ren (renF []) (by kernel_rfl) (by kernel_rfl) (by kernel_rfl)), rfl⟩
            · rintro l25_m7 _ rfl h
              (try dsimp only at h)
              obtain ⟨g49, h⟩ := og_some h
              refine awp_region_ 4 (by kernel_rfl) ?_
              refine rs0 (.int .i64 ((l21_m35 + 1 : Nat) : Int)) (s_add1 (j := l21_m35) (by kernel_rfl) (by kernel_rfl) g49) ?_
              refine rs0 (.int .i64 ((l21_m35 + 1 : Nat) : Int)) (by kernel_rfl) ?_
              refine rnil (tn_ ?_)
              obtain rfl := Option.some.inj h
              exact ⟨(l25_m7, l21_m35 + 1), _, (weak_ren (renF []) (by kernel_rfl) (by kernel_rfl) (by kernel_rfl)), ⟨l25_m7, l21_m35 + 1, rfl, rfl⟩, hn21⟩
          · have q24_ := of_decide_eq_false q24
            refine awp_condF_ q24 (by kernel_rfl) ?_
            refine awp_exit_ (te_ (te_ (be_ (tn_ ?_))))
            obtain rfl := Option.some.inj h
            have h := hn21
            (try dsimp only at h)
            obtain rfl := Option.some.inj h
            exact ⟨_, (weak_ren (renF []) (by kernel_rfl) (by kernel_rfl) (by kernel_rfl)), rfl⟩
      · rintro l19_m7 _ rfl h
        (try dsimp only at h)
        refine awp_seq_ ?_
        refine awp_seq_ ?_
        refine awp_region_ 4 (by kernel_rfl) ?_
        refine rs0 (.int .i64 l19_m7) (by kernel_rfl) ?_
        refine rs0 (.bool (decide (l19_m7 < 0))) (by kernel_rfl) ?_
        refine rnil (tn_ ?_)
        rcases cond_some h with ⟨q52, h⟩ | ⟨q52, h⟩
        · have q52_ := of_decide_eq_true q52
          refine awp_condT_ q52 (by kernel_rfl) ?_
          refine awp_seq_ ?_
          refine awp_region_ 6 (by kernel_rfl) ?_
          refine rs0 (.own (1, 1) .int 0 l17_m3.length) (by kernel_rfl) ?_
          refine rs0 (.own (1, 1) .int 0 l17_m3.length) (by kernel_rfl) ?_
          refine rnil (tn_ ?_)
          refine awp_ret_ (tr_ (br_ (tr_ (br_ ?_))))
          obtain rfl := Option.some.inj h
          have h := hn17
          (try dsimp only at h)
          obtain rfl := Option.some.inj h
          exact ret_ [(.own (1, 1) .int 0 l17_m3.length)] (by simp) (by kernel_rfl) (p_one rfl (l_own (by kernel_rfl) rfl) p_nil) (by kernel_rfl) (by kernel_rfl)
        · have q52_ := of_decide_eq_false q52
          refine awp_condF_ q52 (by kernel_rfl) ?_
          refine awp_skip_ (tn_ ?_)
          refine awp_seq_ ?_
          obtain ⟨x55, f55, h⟩ := ob_some h
          obtain ⟨p55, b55, e55⟩ := getI_some f55
          refine awp_region_ 8 (by kernel_rfl) ?_
          refine rs0 (.own (2, 1) .bool 0 l17_m4.length) (by kernel_rfl) ?_
          refine rs0 (.int .i64 l19_m7) (by kernel_rfl) ?_
          refine rs0 (.elt (2, 1) l19_m7.toNat 0) (s_idxO (t := .bool) (o := (2, 1)) (len := l17_m4.length) (k := .i64) (m := l19_m7) (by kernel_rfl) (by kernel_rfl) rfl p55 rfl (getN_lt e55)) ?_
          refine rsn2 (2, 1) (2, 1) (.arr 4 .bool (l17_m4.set l19_m7.toNat true)) (s_stE (i := (2, 1)) (j := l19_m7.toNat) (k := 0) (e := 4) (t := .bool) (xs := l17_m4) (cs := [(.bool true)]) (x1 := true) (by kernel_rfl) (by kernel_rfl) e55 (by kernel_rfl) (by kernel_rfl)) ?_
          refine rnil (tn_ ?_)
          obtain ⟨g56, h⟩ := og_some h
          refine awp_region_ 13 (by kernel_rfl) ?_
          refine rs0 (.own (1, 1) .int 0 l17_m3.length) (by kernel_rfl) ?_
          refine rs0 (.int .i64 l19_m7) (by kernel_rfl) ?_
          refine rs1 (.own (74, 10) .int 0 1) (74, 10) (.arr 3 .int ([l19_m7])) (by kernel_rfl) ?_
          refine rs2 (.own (1, 11) .int 0 ((l17_m3 ++ ([l19_m7])).length)) (1, 1) (1, 11) (.arr 3 .int (l17_m3 ++ ([l19_m7]))) (s_appO (t := .int) (t' := .int) (xs := l17_m3) (ys := [l19_m7]) (zs := l17_m3 ++ ([l19_m7])) (j := (1, 1)) (len := l17_m3.length) (c := (.own (74, 10) .int 0 1)) (by kernel_rfl) (by kernel_rfl) rfl (by kernel_rfl) (sr_own (e := 3) (by kernel_rfl) rfl) rfl g56) ?_
          refine rs0 (.own (1, 11) .int 0 ((l17_m3 ++ ([l19_m7])).length)) (by kernel_rfl) ?_
          refine rnil (bn_ (tn_ ?_))
          obtain rfl := Option.some.inj h
          exact ⟨(l17_m3 ++ ([l19_m7]), l17_m4.set l19_m7.toNat true), _, ((weak_tm_ 4 (.own (2, 1) .bool 0 l17_m4.length) (.own (2, 1) .bool 0 ((l17_m4.set l19_m7.toNat true).length)) (by kernel_rfl) (congrArg (fun z_ => ((.own (2, 1) .bool 0 z_) : AV)) (((rfl : l17_m4.length = l17_m4.length).trans List.length_set.symm) : l17_m4.length = (l17_m4.set l19_m7.toNat true).length))).trans (weak_ren (renF [((1, 1), (1, 11))]) (by kernel_rfl) (by kernel_rfl) (by kernel_rfl))), ⟨l17_m3 ++ ([l19_m7]), l17_m4.set l19_m7.toNat true, rfl, rfl⟩, hn17⟩
def m_spec_crGood_l1 : AC :=
  (.seq (.region [⟨(some 44), none, (.i (.bin .lss (.tmp 43) (.tmp 42)))⟩] false [])
  (.seq (.cond (.tmp 44)
    .skip
    (.exit 0))
  (.seq (.block 1 (.seq (.region [⟨(some 45), none, (.i (.idx 4 (.tmp 41) (.tmp 43)))⟩, ⟨(some 46), none, (.i (.ld false 4 (.tmp 45)))⟩, ⟨(some 7), none, (.i (.alloc 51 [(.int .i64 0), (.int .i64 0), (.int .i64 0), (.int .i64 0)]))⟩, ⟨none, none, (.st false 4 (.tmp 7) (.tmp 46))⟩] false [])
  (.seq (.seq (.region [⟨(some 47), none, (.i (.mov (.tmp 0)))⟩, ⟨(some 48), none, (.i (.ld false 4 (.tmp 7)))⟩, ⟨(some 49), none, (.i (.fld 0 (.tmp 3)))⟩, ⟨(some 50), none, (.i (.ld true 1 (.tmp 49)))⟩, ⟨(some 51), none, (.i (.fld 1 (.tmp 3)))⟩, ⟨(some 52), none, (.i (.ld true 1 (.tmp 51)))⟩, ⟨(some 53), none, (.i (.len (.tmp 52)))⟩, ⟨(some 54), none, (.call (.cst (.fn 70 [])) [(.tmp 47), (.tmp 48), (.tmp 50), (.tmp 53)] [[], [none, none, none, none], [], []])⟩, ⟨(some 55), none, (.i (.not (.tmp 54)))⟩] false [])
  (.cond (.tmp 55)
    (.seq (.region [⟨(some 4), none, (.i (.mov (.cst (.bool false))))⟩] false [])
    .ret)
    .skip))
  (.seq (.region [⟨(some 56), none, (.i (.ld false 4 (.tmp 7)))⟩, ⟨(some 57), none, (.call (.cst (.fn 71 [])) [(.tmp 56)] [[none, none, none, none]])⟩] false [])
  (.cond (.tmp 57)
    (.region [⟨(some 58), none, (.i (.mov (.tmp 5)))⟩, ⟨(some 59), none, (.i (.bin .add (.tmp 58) (.cst (.int .i64 1))))⟩, ⟨(some 5), none, (.i (.mov (.tmp 59)))⟩] false [])
    .skip)))))
  (.region [⟨(some 60), none, (.i (.bin .add (.tmp 43) (.cst (.int .i64 1))))⟩, ⟨(some 43), none, (.i (.mov (.tmp 60)))⟩] false []))))
def m_spec_crGood : AC :=
  (.seq (.region [⟨(some 3), none, (.i (.box 31 (.tmp 1)))⟩, ⟨(some 4), none, (.i (.mov (.cst (.bool false))))⟩] false [])
  (.seq (.seq (.region [⟨(some 8), none, (.i (.mov (.tmp 0)))⟩, ⟨(some 9), none, (.call (.cst (.fn 68 [])) [(.tmp 8)] [[]])⟩, ⟨(some 10), none, (.i (.not (.tmp 9)))⟩, ⟨(some 11), none, (.i (.mov (.tmp 10)))⟩, ⟨(some 12), (some (11, false)), (.i (.fld 0 (.tmp 3)))⟩, ⟨(some 13), (some (11, false)), (.i (.ld true 1 (.tmp 12)))⟩, ⟨(some 14), (some (11, false)), (.call (.cst (.fn 41 [])) [(.tmp 13), (.cst (.int .i64 0)), (.cst (.int .i64 8))] [[], [], []])⟩, ⟨(some 15), (some (11, false)), (.i (.not (.tmp 14)))⟩, ⟨(some 16), none, (.i (.pick (.tmp 11) (.cst (.bool true)) (.tmp 15)))⟩, ⟨(some 17), none, (.i (.mov (.tmp 16)))⟩, ⟨(some 18), (some (17, false)), (.i (.fld 1 (.tmp 3)))⟩, ⟨(some 19), (some (17, false)), (.i (.ld true 1 (.tmp 18)))⟩, ⟨(some 20), (some (17, false)), (.i (.len (.tmp 19)))⟩, ⟨(some 21), (some (17, false)), (.call (.cst (.fn 41 [])) [(.tmp 20), (.cst (.int .i64 1)), (.cst (.int .i64 40))] [[], [], []])⟩, ⟨(some 22), (some (17, false)), (.i (.not (.tmp 21)))⟩, ⟨(some 23), none, (.i (.pick (.tmp 17) (.cst (.bool true)) (.tmp 22)))⟩, ⟨(some 24), none, (.i (.mov (.tmp 23)))⟩, ⟨(some 25), (some (24, false)), (.i (.fld 2 (.tmp 3)))⟩, ⟨(some 26), (some (24, false)), (.i (.ld true 1 (.tmp 25)))⟩, ⟨(some 27), (some (24, false)), (.i (.len (.tmp 26)))⟩, ⟨(some 28), (some (24, false)), (.i (.bin .gtr (.tmp 27) (.cst (.int .i64 8))))⟩, ⟨(some 29), none, (.i (.pick (.tmp 24) (.cst (.bool true)) (.tmp 28)))⟩, ⟨(some 30), none, (.i (.mov (.tmp 29)))⟩, ⟨(some 31), (some (30, false)), (.i (.fld 2 (.tmp 3)))⟩, ⟨(some 32), (some (30, false)), (.i (.ld true 1 (.tmp 31)))⟩, ⟨(some 33), (some (30, false)), (.i (.fld 1 (.tmp 3)))⟩, ⟨(some 34), (some (30, false)), (.i (.ld true 1 (.tmp 33)))⟩, ⟨(some 35), (some (30, false)), (.i (.len (.tmp 34)))⟩, ⟨(some 36), (some (30, false)), (.i (.bin .sub (.tmp 35) (.cst (.int .i64 1))))⟩, ⟨(some 37), (some (30, false)), (.call (.cst (.fn 69 [])) [(.tmp 32), (.cst (.int .i64 0)), (.tmp 36)] [[(some .int)], [], []])⟩, ⟨(some 38), (some (30, false)), (.i (.not (.tmp 37)))⟩, ⟨(some 39), none, (.i (.pick (.tmp 30) (.cst (.bool true)) (.tmp 38)))⟩] false [])
  (.cond (.tmp 39)
    (.seq (.region [⟨(some 4), none, (.i (.mov (.cst (.bool false))))⟩] false [])
    .ret)
    .skip))
  (.seq (.region [⟨(some 5), none, (.i (.mov (.cst (.int .i64 0))))⟩] false [])
  (.seq (.seq (.region [⟨(some 40), none, (.i (.fld 1 (.tmp 3)))⟩, ⟨(some 41), none, (.i (.ld true 1 (.tmp 40)))⟩, ⟨(some 42), none, (.i (.len (.tmp 41)))⟩, ⟨(some 43), none, (.i (.mov (.cst (.int .i64 0))))⟩] false [])
  (.block 0 (.loop m_spec_crGood_l1)))
  (.seq (.region [⟨(some 61), none, (.i (.ld false 3 (.tmp 3)))⟩, ⟨(some 62), none, (.call (.cst (.fn 72 [])) [(.tmp 61)] [[none, (some (.pair .int (.pair .int (.pair .int .int)))), (some .int)]])⟩, ⟨(some 63), none, (.i (.len (.tmp 62)))⟩, ⟨(some 64), none, (.i (.mov (.tmp 5)))⟩, ⟨(some 65), none, (.i (.bin .eql (.tmp 63) (.tmp 64)))⟩, ⟨(some 4), none, (.i (.mov (.tmp 65)))⟩] false [])
  .ret)))))
def r_spec_crGood : List Res := [.tmp 4]
theorem c_spec_crGood : compiled Tryd.prog Tryd.f35 = some (m_spec_crGood, r_spec_crGood) := by kernel_rfl
theorem hb_spec_crGood : hasBody Tryd.prog 35 = true := by kernel_rfl
def L_spec_crGood_l1 (a1_1 : List (Int × Int × Int × Int)) (a0 : Int) (a1_0 : Int) (l17_m5 : Nat) (l17_m43 : Nat) : Option (Ctl (Nat × Nat) (Ctl Nat Bool)) :=
  cond (decide (((l17_m43 : Nat) : Int) < ((a1_1.length : Nat) : Int)))
  (seqC (Option.bind (a1_1[l17_m43]?) fun x23 =>
    Option.bind (L_spec_crGate a0 x23.1 x23.2.1 x23.2.2.1 x23.2.2.2 a1_0 ((a1_1.length : Nat) : Int)) fun y26 =>
    cond (!y26)
      (some (Ctl.out (Ctl.out (Ctl.out false))))
      (Option.bind (L_spec_crCombines x23.1 x23.2.1 x23.2.2.1 x23.2.2.2) fun y30 =>
      cond y30
        (og (l17_m5 + 1 < 4611686018427387904) <|
        some (Ctl.next (l17_m5 + 1)))
        (some (Ctl.next l17_m5)))) fun l21_m5 =>
  og (l17_m43 + 1 < 4611686018427387904) <|
  some (Ctl.next (l21_m5, l17_m43 + 1)))
  (some (Ctl.out (Ctl.next l17_m5)))
def L_spec_crGood (a0 : Int) (a1_0 : Int) (a1_1 : List (Int × Int × Int × Int)) (a1_2 : List Int) : Option Bool :=
  Option.bind (Option.bind (L_spec_fdGood a0) fun y4 =>
  cond (!y4)
    (some true)
    (Option.bind (L_spec_l1In a1_0 0 8) fun y6 =>
    cond (!y6)
      (some true)
      (Option.bind (L_spec_l1In ((a1_1.length : Nat) : Int) 1 40) fun y8 =>
      cond (!y8)
        (some true)
        (cond (decide (8 < ((a1_2.length : Nat) : Int)))
          (some true)
          (Option.bind (L_spec_l1All a1_2 0 (IntKind.i64.wrap (((a1_1.length : Nat) : Int) - 1))) fun y11 =>
          some (!y11)))))) fun l3_m39 =>
cond l3_m39
  (some false)
  (seqC (loopM (fun s_ : Nat × Nat => L_spec_crGood_l1 a1_1 a0 a1_0 s_.1 s_.2) 4611686018427387904 (0, 0)) fun l15_m5 =>
  Option.bind (L_spec_crOrder a1_0 a1_1 a1_2) fun y35 =>
  some (((y35.length : Nat) : Int) == ((l15_m5 : Nat) : Int)))
def rv_spec_crGood (r : Bool) : RV := ⟨false, [(false, [.sc (.bool r)])]⟩
theorem ok_spec_crGood {a0 : Int} {a1_0 : Int} {a1_1 : List (Int × Int × Int × Int)} {a1_2 : List Int} {r : Bool} (h : L_spec_crGood a0 a1_0 a1_1 a1_2 = some r) : CallOK Tryd.prog Tab 35 [(.int .i64 a0), (.agg [(.int .i64 a1_0), (.tree (.pair .int (.pair .int (.pair .int .int))) a1_1), (.tree .int a1_2)])] (rv_spec_crGood r) := by
  refine call_of_ (by kernel_rfl) Tryd.func35 c_spec_crGood (n := 66) (by kernel_rfl) (by simp) (tl := [(0, (.int .i64 a0)), (1, (.agg [(.int .i64 a1_0), (.tree (.pair .int (.pair .int (.pair .int .int))) a1_1), (.tree .int a1_2)]))]) rfl ?_
  unfold m_spec_crGood
  unfold L_spec_crGood at h
  refine awp_seq_ ?_
  refine awp_region_ 3 (by kernel_rfl) ?_
  refine rs1 (.box (3, 1) 0) (3, 1) (.cells 31 [(.int .i64 a1_0), (.tree (.pair .int (.pair .int (.pair .int .int))) a1_1), (.tree .int a1_2)]) (by kernel_rfl) ?_
  refine rs0 (.bool false) (by kernel_rfl) ?_
  refine rnil (tn_ ?_)
  refine awp_seq_ ?_
  refine awp_seqB h (fun (l3_m39 : Bool) S_ => S_ = ⟨mkTm [(0, (.int .i64 a0)), (3, (.box (0, 1) 0)), (39, (.bool l3_m39))], mkOb (someL [((0, 1), .cells 31 [(.int .i64 a1_0), (.tree (.pair .int (.pair .int (.pair .int .int))) a1_1), (.tree .int a1_2)])]), 2⟩) ?_ ?_
  · intro v_ h
    obtain ⟨y4, h4, h⟩ := ob_some h
    rcases cond_some h with ⟨q5, h⟩ | ⟨q5, h⟩
    · refine awp_region_ 35 (by kernel_rfl) ?_
      refine rs0 (.int .i64 a0) (by kernel_rfl) ?_
      refine rcall (.bool y4) [] [(.int .i64 a0)] _ (caps := []) (args0 := [(.int .i64 a0)]) trivial (by kernel_rfl) (by kernel_rfl) (by kernel_rfl) (by kernel_rfl) (ok_spec_fdGood h4) hb_spec_fdGood (by kernel_rfl) ?_
      refine rs0 (.bool (!y4)) (by kernel_rfl) ?_
      refine rs0 (.bool (!y4)) (by kernel_rfl) ?_
      refine rs0 (.tup []) (s_skip (by kernel_rfl) q5) ?_
      refine rs0 (.tup []) (s_skip (by kernel_rfl) q5) ?_
      refine rs0 (.tup []) (s_skip (by kernel_rfl) q5) ?_
      refine rs0 (.tup []) (s_skip (by kernel_rfl) q5) ?_
      refine rs0 (.bool true) (s_pickT (by kernel_rfl) q5) ?_
      refine rs0 (.bool true) (by kernel_rfl) ?_
      refine rs0 (.tup []) (by kernel_rfl) ?_
      refine rs0 (.tup []) (by kernel_rfl) ?_
      refine rs0 (.tup []) (by kernel_rfl) ?_
      refine rs0 (.tup []) (by kernel_rfl) ?_
      refine rs0 (.tup []) (by kernel_rfl) ?_
      refine rs0 (.bool true) (by kernel_rfl) ?_
      refine rs0 (.bool true) (by kernel_rfl) ?_
      refine rs0 (.tup []) (by kernel_rfl) ?_
      refine rs0 (.tup []) (by kernel_rfl) ?_
      refine rs0 (.tup []) (by kernel_rfl) ?_
      refine rs0 (.tup []) (by kernel_rfl) ?_
      refine rs0 (.bool true) (by kernel_rfl) ?_
      refine rs0 (.bool true) (by kernel_rfl) ?_
      refine rs0 (.tup []) (by kernel_rfl) ?_
      refine rs0 (.tup []) (by kernel_rfl) ?_
      refine rs0 (.tup []) (by kernel_rfl) ?_
      refine rs0 (.tup []) (by kernel_rfl) ?_
      refine rs0 (.tup []) (by kernel_rfl) ?_
      refine rs0 (.tup []) (by kernel_rfl) ?_
      refine rs0 (.tup []) (by kernel_rfl) ?_
      refine rs0 (.tup []) (by kernel_rfl) ?_
      refine rs0 (.bool true) (by kernel_rfl) ?_
      refine rnil (tn_ ?_)
      obtain rfl := Option.some.inj h
      exact ⟨_, (weak_ren (renF [((0, 1), (3, 1))]) (by kernel_rfl) (by kernel_rfl) (by kernel_rfl)), rfl⟩
    · obtain ⟨y6, h6, h⟩ := ob_some h
      rcases cond_some h with ⟨q7, h⟩ | ⟨q7, h⟩
      · refine awp_region_ 35 (by kernel_rfl) ?_
        refine rs0 (.int .i64 a0) (by kernel_rfl) ?_
        refine rcall (.bool y4) [] [(.int .i64 a0)] _ (caps := []) (args0 := [(.int .i64 a0)]) trivial (by kernel_rfl) (by kernel_rfl) (by kernel_rfl) (by kernel_rfl) (ok_spec_fdGood h4) hb_spec_fdGood (by kernel_rfl) ?_
        refine rs0 (.bool (!y4)) (by kernel_rfl) ?_
        refine rs0 (.bool (!y4)) (by kernel_rfl) ?_
        refine rs0 (.box (3, 1) 0) (s_gd (by kernel_rfl) q5 (by kernel_rfl)) ?_
        refine rsl (.int .i64 a1_0) (s_gd (by kernel_rfl) q5 (by kernel_rfl)) ?_
        refine rcall (.bool y6) [] [(.int .i64 a1_0), (.int .i64 0), (.int .i64 8)] _ (caps := []) (args0 := [(.int .i64 a1_0), (.int .i64 0), (.int .i64 8)]) (gdOK_b (by kernel_rfl) q5) (by kernel_rfl) (by kernel_rfl) (by kernel_rfl) (by kernel_rfl) (ok_spec_l1In h6) hb_spec_l1In (by kernel_rfl) ?_
        refine rs0 (.bool (!y6)) (s_gd (by kernel_rfl) q5 (by kernel_rfl)) ?_
        refine rs0 (.bool (!y6)) (s_pickF (by kernel_rfl) q5) ?_
        refine rs0 (.bool (!y6)) (by kernel_rfl) ?_
        refine rs0 (.tup []) (s_skip (by kernel_rfl) q7) ?_
        refine rs0 (.tup []) (s_skip (by kernel_rfl) q7) ?_
        refine rs0 (.tup []) (s_skip (by kernel_rfl) q7) ?_
        refine rs0 (.tup []) (s_skip (by kernel_rfl) q7) ?_
        refine rs0 (.tup []) (s_skip (by kernel_rfl) q7) ?_
        refine rs0 (.bool true) (s_pickT (by kernel_rfl) q7) ?_
        refine rs0 (.bool true) (by kernel_rfl) ?_
        refine rs0 (.tup []) (by kernel_rfl) ?_
        refine rs0 (.tup []) (by kernel_rfl) ?_
        refine rs0 (.tup []) (by kernel_rfl) ?_
        refine rs0 (.tup []) (by kernel_rfl) ?_
        refine rs0 (.bool true) (by kernel_rfl) ?_
        refine rs0 (.bool true) (by kernel_rfl) ?_
        refine rs0 (.tup []) (by kernel_rfl) ?_
        refine rs0 (.tup []) (by kernel_rfl) ?_
        refine rs0 (.tup []) (by kernel_rfl) ?_
        refine rs0 (.tup []) (by kernel_rfl) ?_
        refine rs0 (.tup []) (by kernel_rfl) ?_
        refine rs0 (.tup []) (by kernel_rfl) ?_
        refine rs0 (.tup []) (by kernel_rfl) ?_
        refine rs0 (.tup []) (by kernel_rfl) ?_
        refine rs0 (.bool true) (by kernel_rfl) ?_
        refine rnil (tn_ ?_)
        obtain rfl := Option.some.inj h
        exact ⟨_, (weak_ren (renF [((0, 1), (3, 1))]) (by kernel_rfl) (by kernel_rfl) (by kernel_rfl)), rfl⟩
      · obtain ⟨y8, h8, h⟩ := ob_some h
        rcases cond_some h with ⟨q9, h⟩ | ⟨q9, h⟩
        · refine awp_region_ 35 (by kernel_rfl) ?_
          refine rs0 (.int .i64 a0) (by kernel_rfl) ?_
          refine rcall (.bool y4) [] [(.int .i64 a0)] _ (caps := []) (args0 := [(.int .i64 a0)]) trivial (by kernel_rfl) (by kernel_rfl) (by kernel_rfl) (by kernel_rfl) (ok_spec_fdGood h4) hb_spec_fdGood (by kernel_rfl) ?_
          refine rs0 (.bool (!y4)) (by kernel_rfl) ?_
          refine rs0 (.bool (!y4)) (by kernel_rfl) ?_
          refine rs0 (.box (3, 1) 0) (s_gd (by kernel_rfl) q5 (by kernel_rfl)) ?_
          refine rsl (.int .i64 a1_0) (s_gd (by kernel_rfl) q5 (by kernel_rfl)) ?_
          refine rcall (.bool y6) [] [(.int .i64 a1_0), (.int .i64 0), (.int .i64 8)] _ (caps := []) (args0 := [(.int .i64 a1_0), (.int .i64 0), (.int .i64 8)]) (gdOK_b (by kernel_rfl) q5) (by kernel_rfl) (by kernel_rfl) (by kernel_rfl) (by kernel_rfl) (ok_spec_l1In h6) hb_spec_l1In (by kernel_rfl) ?_
          refine rs0 (.bool (!y6)) (s_gd (by kernel_rfl) q5 (by kernel_rfl)) ?_
          refine rs0 (.bool (!y6)) (s_pickF (by kernel_rfl) q5) ?_
          refine rs0 (.bool (!y6)) (by kernel_rfl) ?_
          refine rs0 (.box (3, 1) 1) (s_gd (by kernel_rfl) q7 (by kernel_rfl)) ?_
          refine rsl (.tree (.pair .int (.pair .int (.pair .int .int))) a1_1) (s_gd (by kernel_rfl) q7 (by kernel_rfl)) ?_
          refine rs0 (.int .i64 ((a1_1.length : Nat) : Int)) (s_gd (by kernel_rfl) q7 (by kernel_rfl)) ?_
          refine rcall (.bool y8) [] [(.int .i64 ((a1_1.length : Nat) : Int)), (.int .i64 1), (.int .i64 40)] _ (caps := []) (args0 := [(.int .i64 ((a1_1.length : Nat) : Int)), (.int .i64 1), (.int .i64 40)]) (gdOK_b (by kernel_rfl) q7) (by kernel_rfl) (by kernel_rfl) (by kernel_rfl) (by kernel_rfl) (ok_spec_l1In h8) hb_spec_l1In (by kernel_rfl) ?_
          refine rs0 (.bool (!y8)) (s_gd (by kernel_rfl) q7 (by kernel_rfl)) ?_
          refine rs0 (.bool (!y8)) (s_pickF (by kernel_rfl) q7) ?_
          refine rs0 (.bool (!y8)) (by kernel_rfl) ?_
          refine rs0 (.tup []) (s_skip (by kernel_rfl) q9) ?_
          refine rs0 (.tup []) (s_skip (by kernel_rfl) q9) ?_
          refine rs0 (.tup []) (s_skip (by kernel_rfl) q9) ?_
          refine rs0 (.tup []) (s_skip (by kernel_rfl) q9) ?_
          refine rs0 (.bool true) (s_pickT (by kernel_rfl) q9) ?_
          refine rs0 (.bool true) (by kernel_rfl) ?_
          refine rs0 (.tup []) (by kernel_rfl) ?_
          refine rs0 (.tup []) (by kernel_rfl) ?_
          refine rs0 (.tup []) (by kernel_rfl) ?_
          refine rs0 (.tup []) (by kernel_rfl) ?_
          refine rs0 (.tup []) (by kernel_rfl) ?_
          refine rs0 (.tup []) (by kernel_rfl) ?_
          refine rs0 (.tup []) (by kernel_rfl) ?_
          refine rs0 (.tup []) (by kernel_rfl) ?_
          refine rs0 (.bool true) (by kernel_rfl) ?_
          refine rnil (tn_ ?_)
          obtain rfl := Option.some.inj h
          exact ⟨_, (weak_ren (renF [((0, 1), (3, 1))]) (by kernel_rfl) (by kernel_rfl) (by kernel_rfl)), rfl⟩
        · rcases cond_some h with ⟨q10, h⟩ | ⟨q10, h⟩
          · have q10_ := of_decide_eq_true q10
            refine awp_region_ 35 (by kernel_rfl) ?_
            refine rs0 (.int .i64 a0) (by kernel_rfl) ?_
            refine rcall (.bool y4) [] [(.int .i64 a0)] _ (caps := []) (args0 := [(.int .i64 a0)]) trivial (by kernel_rfl) (by kernel_rfl) (by kernel_rfl) (by kernel_rfl) (ok_spec_fdGood h4) hb_spec_fdGood (by kernel_rfl) ?_
            refine rs0 (.bool (!y4)) (by kernel_rfl) ?_
            refine rs0 (.bool (!y4)) (by kernel_rfl) ?_
            refine rs0 (.box (3, 1) 0) (s_gd (by kernel_rfl) q5 (by kernel_rfl)) ?_
            refine rsl (.int .i64 a1_0) (s_gd (by kernel_rfl) q5 (by kernel_rfl)) ?_
            refine rcall (.bool y6) [] [(.int .i64 a1_0), (.int .i64 0), (.int .i64 8)] _ (caps := []) (args0 := [(.int .i64 a1_0), (.int .i64 0), (.int .i64 8)]) (gdOK_b (by kernel_rfl) q5) (by kernel_rfl) (by kernel_rfl) (by kernel_rfl) (by kernel_rfl) (ok_spec_l1In h6) hb_spec_l1In (by kernel_rfl) ?_
            refine rs0 (.bool (!y6)) (s_gd (by kernel_rfl) q5 (by kernel_rfl)) ?_
            refine rs0 (.bool (!y6)) (s_pickF (by kernel_rfl) q5) ?_
            refine rs0 (.bool (!y6)) (by kernel_rfl) ?_
            refine rs0 (.box (3, 1) 1) (s_gd (by kernel_rfl) q7 (by kernel_rfl)) ?_
            refine rsl (.tree (.pair .int (.pair .int (.pair .int .int))) a1_1) (s_gd (by kernel_rfl) q7 (by kernel_rfl)) ?_
            refine rs0 (.int .i64 ((a1_1.length : Nat) : Int)) (s_gd (by kernel_rfl) q7 (by kernel_rfl)) ?_
            refine rcall (.bool y8) [] [(.int .i64 ((a1_1.length : Nat) : Int)), (.int .i64 1), (.int .i64 40)] _ (caps := []) (args0 := [(.int .i64 ((a1_1.length : Nat) : Int)), (.int .i64 1), (.int .i64 40)]) (gdOK_b (by kernel_rfl) q7) (by kernel_rfl) (by kernel_rfl) (by kernel_rfl) (by kernel_rfl) (ok_spec_l1In h8) hb_spec_l1In (by kernel_rfl) ?_
            refine rs0 (.bool (!y8)) (s_gd (by kernel_rfl) q7 (by kernel_rfl)) ?_
            refine rs0 (.bool (!y8)) (s_pickF (by kernel_rfl) q7) ?_
            refine rs0 (.bool (!y8)) (by kernel_rfl) ?_
            refine rs0 (.box (3, 1) 2) (s_gd (by kernel_rfl) q9 (by kernel_rfl)) ?_
            refine rsl (.tree .int a1_2) (s_gd (by kernel_rfl) q9 (by kernel_rfl)) ?_
            refine rs0 (.int .i64 ((a1_2.length : Nat) : Int)) (s_gd (by kernel_rfl) q9 (by kernel_rfl)) ?_
            refine rs0 (.bool (decide (8 < ((a1_2.length : Nat) : Int)))) (s_gd (by kernel_rfl) q9 (by kernel_rfl)) ?_
            refine rs0 (.bool (decide (8 < ((a1_2.length : Nat) : Int)))) (s_pickF (by kernel_rfl) q9) ?_
            refine rs0 (.bool (decide (8 < ((a1_2.length : Nat) : Int)))) (by kernel_rfl) ?_
            refine rs0 (.tup []) (s_skip (by kernel_rfl) q10) ?_
            refine rs0 (.tup []) (s_skip (by kernel_rfl) q10) ?_
            refine rs0 (.tup []) (s_skip (by kernel_rfl) q10) ?_
            refine rs0 (.tup []) (s_skip (by kernel_rfl) q10) ?_
            refine rs0 (.tup []) (s_skip (by kernel_rfl) q10) ?_
            refine rs0 (.tup []) (s_skip (by kernel_rfl) q10) ?_
            refine rs0 (.tup []) (s_skip (by kernel_rfl) q10) ?_
            refine rs0 (.tup []) (s_skip (by kernel_rfl) q10) ?_
            refine rs0 (.bool true) (s_pickT (by kernel_rfl) q10) ?_
            refine rnil (tn_ ?_)
            obtain rfl := Option.some.inj h
            exact ⟨_, (weak_ren (renF [((0, 1), (3, 1))]) (by kernel_rfl) (by kernel_rfl) (by kernel_rfl)), rfl⟩
          · have q10_ := of_decide_eq_false q10
            obtain ⟨y11, h11, h⟩ := ob_some h
            refine awp_region_ 35 (by kernel_rfl) ?_
            refine rs0 (.int .i64 a0) (by kernel_rfl) ?_
            refine rcall (.bool y4) [] [(.int .i64 a0)] _ (caps := []) (args0 := [(.int .i64 a0)]) trivial (by kernel_rfl) (by kernel_rfl) (by kernel_rfl) (by kernel_rfl) (ok_spec_fdGood h4) hb_spec_fdGood (by kernel_rfl) ?_
            refine rs0 (.bool (!y4)) (by kernel_rfl) ?_
            refine rs0 (.bool (!y4)) (by kernel_rfl) ?_
            refine rs0 (.box (3, 1) 0) (s_gd (by kernel_rfl) q5 (by kernel_rfl)) ?_
            refine rsl (.int .i64 a1_0) (s_gd (by kernel_rfl) q5 (by kernel_rfl)) ?_
            refine rcall (.bool y6) [] [(.int .i64 a1_0), (.int .i64 0), (.int .i64 8)] _ (caps := []) (args0 := [(.int .i64 a1_0), (.int .i64 0), (.int .i64 8)]) (gdOK_b (by kernel_rfl) q5) (by kernel_rfl) (by kernel_rfl) (by kernel_rfl) (by kernel_rfl) (ok_spec_l1In h6) hb_spec_l1In (by kernel_rfl) ?_
            refine rs0 (.bool (!y6)) (s_gd (by kernel_rfl) q5 (by kernel_rfl)) ?_
            refine rs0 (.bool (!y6)) (s_pickF (by kernel_rfl) q5) ?_
            refine rs0 (.bool (!y6)) (by kernel_rfl) ?_
            refine rs0 (.box (3, 1) 1) (s_gd (by kernel_rfl) q7 (by kernel_rfl)) ?_
            refine rsl (.tree (.pair .int (.pair .int (.pair .int .int))) a1_1) (s_gd (by kernel_rfl) q7 (by kernel_rfl)) ?_
            refine rs0 (.int .i64 ((a1_1.length : Nat) : Int)) (s_gd (by kernel_rfl) q7 (by kernel_rfl)) ?_
            refine rcall (.bool y8) [] [(.int .i64 ((a1_1.length : Nat) : Int)), (.int .i64 1), (.int .i64 40)] _ (caps := []) (args0 := [(.int .i64 ((a1_1.length : Nat) : Int)), (.int .i64 1), (.int .i64 40)]) (gdOK_b (by kernel_rfl) q7) (by kernel_rfl) (by kernel_rfl) (by kernel_rfl) (by kernel_rfl) (ok_spec_l1In h8) hb_spec_l1In (by kernel_rfl) ?_
            refine rs0 (.bool (!y8)) (s_gd (by kernel_rfl) q7 (by kernel_rfl)) ?_
            refine rs0 (.bool (!y8)) (s_pickF (by kernel_rfl) q7) ?_
            refine rs0 (.bool (!y8)) (by kernel_rfl) ?_
            refine rs0 (.box (3, 1) 2) (s_gd (by kernel_rfl) q9 (by kernel_rfl)) ?_
            refine rsl (.tree .int a1_2) (s_gd (by kernel_rfl) q9 (by kernel_rfl)) ?_
            refine rs0 (.int .i64 ((a1_2.length : Nat) : Int)) (s_gd (by kernel_rfl) q9 (by kernel_rfl)) ?_
            refine rs0 (.bool (decide (8 < ((a1_2.length : Nat) : Int)))) (s_gd (by kernel_rfl) q9 (by kernel_rfl)) ?_
            refine rs0 (.bool (decide (8 < ((a1_2.length : Nat) : Int)))) (s_pickF (by kernel_rfl) q9) ?_
            refine rs0 (.bool (decide (8 < ((a1_2.length : Nat) : Int)))) (by kernel_rfl) ?_
            refine rs0 (.box (3, 1) 2) (s_gd (by kernel_rfl) q10 (by kernel_rfl)) ?_
            refine rsl (.tree .int a1_2) (s_gd (by kernel_rfl) q10 (by kernel_rfl)) ?_
            refine rs0 (.box (3, 1) 1) (s_gd (by kernel_rfl) q10 (by kernel_rfl)) ?_
            refine rsl (.tree (.pair .int (.pair .int (.pair .int .int))) a1_1) (s_gd (by kernel_rfl) q10 (by kernel_rfl)) ?_
            refine rs0 (.int .i64 ((a1_1.length : Nat) : Int)) (s_gd (by kernel_rfl) q10 (by kernel_rfl)) ?_
            refine rs0 (.int .i64 (IntKind.i64.wrap (((a1_1.length : Nat) : Int) - 1))) (s_gd (by kernel_rfl) q10 (by kernel_rfl)) ?_
            refine rcall (.bool y11) [] [(.tree .int a1_2), (.int .i64 0), (.int .i64 (IntKind.i64.wrap (((a1_1.length : Nat) : Int) - 1)))] _ (caps := []) (args0 := [(.tree .int a1_2), (.int .i64 0), (.int .i64 (IntKind.i64.wrap (((a1_1.length : Nat) : Int) - 1)))]) (gdOK_b (by kernel_rfl) q10) (by kernel_rfl) (by kernel_rfl) (by kernel_rfl) (by kernel_rfl) (ok_spec_l1All h11) hb_spec_l1All (by kernel_rfl) ?_
            refine rs0 (.bool (!y11)) (s_gd (by kernel_rfl) q10 (by kernel_rfl)) ?_
            refine rs0 (.bool (!y11)) (s_pickF (by kernel_rfl) q10) ?_
            refine rnil (tn_ ?_)
            obtain rfl := Option.some.inj h
            exact ⟨_, (weak_ren (renF [((0, 1), (3, 1))]) (by kernel_rfl) (by kernel_rfl) (by kernel_rfl)), rfl⟩
  · rintro l3_m39 _ rfl h
    (try dsimp only at h)
    rcases cond_some h with ⟨q12, h⟩ | ⟨q12, h⟩
    · refine awp_condT_ q12 (by kernel_rfl) ?_
      refine awp_seq_ ?_
      refine awp_region_ 3 (by kernel_rfl) ?_
      refine rs0 (.bool false) (by kernel_rfl) ?_
      refine rnil (tn_ ?_)
      refine awp_ret_ (tr_ ?_)
      obtain rfl := Option.some.inj h
      exact ret_ [(.bool false)] (by simp) (by kernel_rfl) (p_one rfl (l_sc (by kernel_rfl)) p_nil) (by kernel_rfl) (by kernel_rfl)
    · refine awp_condF_ q12 (by kernel_rfl) ?_
      refine awp_skip_ (tn_ ?_)
      refine awp_seq_ ?_
      refine awp_region_ 3 (by kernel_rfl) ?_
      refine rs0 (.int .i64 0) (by kernel_rfl) ?_
      refine rnil (tn_ ?_)
      refine awp_seqC h (fun (l15_m5 : Nat) S_ => S_ = ⟨mkTm [(3, (.box (0, 1) 0)), (5, (.int .i64 ((l15_m5 : Nat) : Int)))], mkOb (someL [((0, 1), .cells 31 [(.int .i64 a1_0), (.tree (.pair .int (.pair .int (.pair .int .int))) a1_1), (.tree .int a1_2)])]), 2⟩) ?_ ?_
      · intro v_ h hk15
        refine awp_seq_ ?_
        refine awp_region_ 7 (by kernel_rfl) ?_
        refine rs0 (.box (0, 1) 1) (by kernel_rfl) ?_
        refine rsl (.tree (.pair .int (.pair .int (.pair .int .int))) a1_1) (by kernel_rfl) ?_
        refine rs0 (.int .i64 ((a1_1.length : Nat) : Int)) (by kernel_rfl) ?_
        refine rs0 (.int .i64 0) (by kernel_rfl) ?_
        refine rnil (tn_ ?_)
        refine awp_block_ ?_
        refine awp_loopL h (fun t_ S_ => ∃ (l17_m5 : Nat), ∃ (l17_m43 : Nat), t_ = (l17_m5, l17_m43) ∧ S_ = ⟨mkTm [(0, (.int .i64 a0)), (3, (.box (0, 1) 0)), (5, (.int .i64 ((l17_m5 : Nat) : Int))), (41, (.tree (.pair .int (.pair .int (.pair .int .int))) a1_1)), (42, (.int .i64 ((a1_1.length : Nat) : Int))), (43, (.int .i64 ((l17_m43 : Nat) : Int)))], mkOb (someL [((0, 1), .cells 31 [(.int .i64 a1_0), (.tree (.pair .int (.pair .int (.pair .int .int))) a1_1), (.tree .int a1_2)])]), 2⟩) ⟨_, (weak_ren (renF []) (by kernel_rfl) (by kernel_rfl) (by kernel_rfl)), ⟨0, 0, rfl, rfl⟩⟩ ?_
        · rintro n_ _ _ c_ ⟨l17_m5, l17_m43, rfl, rfl⟩ h hn17
          (try dsimp only at h)
          unfold L_spec_crGood_l1 at h
          unfold m_spec_crGood_l1
          refine awp_seq_ ?_
          refine awp_region_ 3 (by kernel_rfl) ?_
          refine rs0 (.bool (decide (((l17_m43 : Nat) : Int) < ((a1_1.length : Nat) : Int)))) (by kernel_rfl) ?_
          refine rnil (tn_ ?_)
          refine awp_seq_ ?_
          rcases cond_some h with ⟨q20, h⟩ | ⟨q20, h⟩
          · have q20_ := of_decide_eq_true q20
            refine awp_condT_ q20 (by kernel_rfl) ?_
            refine awp_skip_ (tn_ ?_)
            refine awp_seqC h (fun (l21_m5 : Nat) S_ => S_ = ⟨mkTm [(0, (.int .i64 a0)), (3, (.box (0, 1) 0)), (5, (.int .i64 ((l21_m5 : Nat) : Int))), (41, (.tree (.pair .int (.pair .int (.pair .int .int))) a1_1)), (42, (.int .i64 ((a1_1.length : Nat) : Int))), (43, (.int .i64 ((l17_m43 : Nat) : Int)))], mkOb (someL [((0, 1), .cells 31 [(.int .i64 a1_0), (.tree (.pair .int (.pair .int (.pair .int .int))) a1_1), (.tree .int a1_2)])]), 2⟩) ?_ ?_
            · intro v_ h hk21
              refine awp_block_ ?_
              refine awp_seq_ ?_
              obtain ⟨x23, e23, h⟩ := ob_some h
              refine awp_region_ 7 (by kernel_rfl) ?_
              refine rs0 (.telt (.pair .int (.pair .int (.pair .int .int))) x23 0) (s_idxT (t := (.pair .int (.pair .int (.pair .int .int)))) (xs := a1_1) (k := .i64) (m := ((l17_m43 : Nat) : Int)) (by kernel_rfl) (by kernel_rfl) rfl (nat_nn _) rfl e23) ?_
              refine rs0 (.agg [(.int .i64 x23.1), (.int .i64 x23.2.1), (.int .i64 x23.2.2.1), (.int .i64 x23.2.2.2)]) (by kernel_rfl) ?_
              refine rs1 (.box (7, 5) 0) (7, 5) (.cells 51 [(.int .i64 0), (.int .i64 0), (.int .i64 0), (.int .i64 0)]) (by kernel_rfl) ?_
              refine rsn2 (7, 5) (7, 5) (.cells 51 [(.int .i64 x23.1), (.int .i64 x23.2.1), (.int .i64 x23.2.2.1), (.int .i64 x23.2.2.2)]) (by kernel_rfl) ?_
              refine rnil (tn_ ?_)
              refine awp_seq_ ?_
              refine awp_seq_ ?_
              obtain ⟨y26, h26, h⟩ := ob_some h
              refine awp_region_ 16 (by kernel_rfl) ?_
              refine rs0 (.int .i64 a0) (by kernel_rfl) ?_
              refine rsl (.agg [(.int .i64 x23.1), (.int .i64 x23.2.1), (.int .i64 x23.2.2.1), (.int .i64 x23.2.2.2)]) (by kernel_rfl) ?_
              refine rs0 (.box (0, 1) 0) (by kernel_rfl) ?_
              refine rsl (.int .i64 a1_0) (by kernel_rfl) ?_
              refine rs0 (.box (0, 1) 1) (by kernel_rfl) ?_
              refine rsl (.tree (.pair .int (.pair .int (.pair .int .int))) a1_1) (by kernel_rfl) ?_
              refine rs0 (.int .i64 ((a1_1.length : Nat) : Int)) (by kernel_rfl) ?_
              refine rcall (.bool y26) [] [(.int .i64 a0), (.agg [(.int .i64 x23.1), (.int .i64 x23.2.1), (.int .i64 x23.2.2.1), (.int .i64 x23.2.2.2)]), (.int .i64 a1_0), (.int .i64 ((a1_1.length : Nat) : Int))] _ (caps := []) (args0 := [(.int .i64 a0), (.agg [(.int .i64 x23.1), (.int .i64 x23.2.1), (.int .i64 x23.2.2.1), (.int .i64 x23.2.2.2)]), (.int .i64 a1_0), (.int .i64 ((a1_1.length : Nat) : Int))]) trivial (by kernel_rfl) (by kernel_rfl) (by kernel_rfl) (by kernel_rfl) (ok_spec_crGate h26) hb_spec_crGate (by kernel_rfl) ?_
              refine rs0 (.bool (!y26)) (by kernel_rfl) ?_
              refine rnil (tn_ ?_)
              rcases cond_some h with ⟨q27, h⟩ | ⟨q27, h⟩
              · refine awp_condT_ q27 (by kernel_rfl) ?_
                refine awp_seq_ ?_
                refine awp_region_ 17 (by kernel_rfl) ?_
                refine rs0 (.bool false) (by kernel_rfl) ?_
                refine rnil (tn_ ?_)
                refine awp_ret_ (tr_ (br_ (tr_ (tr_ (br_ (tr_ ?_))))))
                obtain rfl := Option.some.inj h
                have h := hk21
                (try dsimp only at h)
                obtain rfl := Option.some.inj h
                have h := hn17
                (try dsimp only at h)
                obtain rfl := Option.some.inj h
                have h := hk15
                (try dsimp only at h)
                obtain rfl := Option.some.inj h
                exact ret_ [(.bool false)] (by simp) (by kernel_rfl) (p_one rfl (l_sc (by kernel_rfl)) p_nil) (by kernel_rfl) (by kernel_rfl)
              · refine awp_condF_ q27 (by kernel_rfl) ?_
                refine awp_skip_ (tn_ ?_)
                refine awp_seq_ ?_
                obtain ⟨y30, h30, h⟩ := ob_some h
                refine awp_region_ 18 (by kernel_rfl) ?_
                refine rsl (.agg [(.int .i64 x23.1), (.int .i64 x23.2.1), (.int .i64 x23.2.2.1), (.int .i64 x23.2.2.2)]) (by kernel_rfl) ?_
                refine rcall (.bool y30) [] [(.agg [(.int .i64 x23.1), (.int .i64 x23.2.1), (.int .i64 x23.2.2.1), (.int .i64 x23.2.2.2)])] _ (caps := []) (args0 := [(.agg [(.int .i64 x23.1), (.int .i64 x23.2.1), (.int .i64 x23.2.2.1), (.int .i64 x23.2.2.2)])]) trivial (by kernel_rfl) (by kernel_rfl) (by kernel_rfl) (by kernel_rfl) (ok_spec_crCombines h30) hb_spec_crCombines (by kernel_rfl) ?_
                refine rnil (tn_ ?_)
                rcases cond_some h with ⟨q31, h⟩ | ⟨q31, h⟩
                · refine awp_condT_ q31 (by kernel_rfl) ?_
                  obtain ⟨g32, h⟩ := og_some h
                  refine awp_region_ 21 (by kernel_rfl) ?_
                  refine rs0 (.int .i64 ((l17_m5 : Nat) : Int)) (by kernel_rfl) ?_
                  refine rs0 (.int .i64 ((l17_m5 + 1 : Nat) : Int)) (s_add1 (j := l17_m5) (by kernel_rfl) (by kernel_rfl) g32) ?_
                  refine rs0 (.int .i64 ((l17_m5 + 1 : Nat) : Int)) (by kernel_rfl) ?_
                  refine rnil (bn_ (tn_ ?_))
                  obtain rfl := Option.some.inj h
                  exact ⟨l17_m5 + 1, _, rfl, (weak_ren (renF []) (by kernel_rfl) (by kernel_rfl) (by kernel_rfl)), rfl⟩
                · refine awp_condF_ q31 (by kernel_rfl) ?_
                  refine awp_skip_ (bn_ (tn_ ?_))
                  obtain rfl := Option.some.inj h
                  exact ⟨l17_m5, _, rfl, (weak_ren (renF []) (by kernel_rfl) (by kernel_rfl) (by kernel_rfl)), rfl⟩
            · rintro l21_m5 _ rfl h
              (try dsimp only at h)
              obtain ⟨g33, h⟩ := og_some h
              refine awp_region_ 4 (by kernel_rfl) ?_
              refine rs0 (.int .i64 ((l17_m43 + 1 : Nat) : Int)) (s_add1 (j := l17_m43) (by kernel_rfl) (by kernel_rfl) g33) ?_
              refine rs0 (.int .i64 ((l17_m43 + 1 : Nat) : Int)) (by kernel_rfl) ?_
              refine rnil (tn_ ?_)
              obtain rfl := Option.some.inj h
              exact ⟨(l21_m5, l17_m43 + 1), _, (weak_ren (renF []) (by kernel_rfl) (by kernel_rfl) (by kernel_rfl)), ⟨l21_m5, l17_m43 + 1, rfl, rfl⟩, hn17⟩
          · have q20_ := of_decide_eq_false q20
            refine awp_condF_ q20 (by kernel_rfl) ?_
            refine awp_exit_ (te_ (te_ (be_ (tn_ ?_))))
            obtain rfl := Option.some.inj h
            have h := hn17
            (try dsimp only at h)
            obtain rfl := Option.some.inj h
            exact ⟨l17_m5, _, rfl, (weak_ren (renF []) (by kernel_rfl) (by kernel_rfl) (by kernel_rfl)), rfl⟩
      · rintro l15_m5 _ rfl h
        (try dsimp only at h)
        refine awp_seq_ ?_
        obtain ⟨y35, h35, h⟩ := ob_some h
        refine awp_region_ 8 (by kernel_rfl) ?_
        refine rsl (.agg [(.int .i64 a1_0), (.tree (.pair .int (.pair .int (.pair .int .int))) a1_1), (.tree .int a1_2)]) (by kernel_rfl) ?_
        refine rcall (.own (992, 3) .int 0 y35.length) [((992, 3), some (.arr 3 .int y35))] [(.agg [(.int .i64 a1_0), (.tree (.pair .int (.pair .int (.pair .int .int))) a1_1), (.tree .int a1_2)])] _ (caps := []) (args0 := [(.agg [(.int .i64 a1_0), (.tree (.pair .int (.pair .int (.pair .int .int))) a1_1), (.tree .int a1_2)])]) trivial (by kernel_rfl) (by kernel_rfl) (by kernel_rfl) (by kernel_rfl) (ok_spec_crOrder h35) hb_spec_crOrder (by kernel_rfl) ?_
        refine rs0 (.int .i64 ((y35.length : Nat) : Int)) (by kernel_rfl) ?_
        refine rs0 (.int .i64 ((l15_m5 : Nat) : Int)) (by kernel_rfl) ?_
        refine rs0 (.bool (((y35.length : Nat) : Int) == ((l15_m5 : Nat) : Int))) (by kernel_rfl) ?_
        refine rs0 (.bool (((y35.length : Nat) : Int) == ((l15_m5 : Nat) : Int))) (by kernel_rfl) ?_
        refine rnil (tn_ ?_)
        refine awp_ret_ ?_
        obtain rfl := Option.some.inj h
        exact ret_ [(.bool (((y35.length : Nat) : Int) == ((l15_m5 : Nat) : Int)))] (by simp) (by kernel_rfl) (p_one rfl (l_sc (by kernel_rfl)) p_nil) (by kernel_rfl) (by kernel_rfl)
def m_impl_Gate_operands : AC :=
  (.seq (.region [⟨(some 1), none, (.i (.box 51 (.tmp 0)))⟩, ⟨(some 2), none, (.i (.mov (.cst .nils)))⟩] false [])
  (.seq (.seq (.region [⟨(some 3), none, (.i (.fld 0 (.tmp 1)))⟩, ⟨(some 4), none, (.i (.ld true 1 (.tmp 3)))⟩] false [])
  (.block 0 (.seq (.region [⟨(some 6), none, (.i (.bin .eql (.tmp 4) (.cst (.int .i64 3))))⟩, ⟨(some 5), none, (.i (.mov (.tmp 6)))⟩] false [])
  (.cond (.tmp 5)
    (.seq (.region [⟨(some 7), none, (.i (.fld 1 (.tmp 1)))⟩, ⟨(some 8), none, (.i (.ld true 1 (.tmp 7)))⟩, ⟨(some 9), none, (.i (.fld 2 (.tmp 1)))⟩, ⟨(some 10), none, (.i (.ld true 1 (.tmp 9)))⟩, ⟨(some 11), none, (.mkS 3 .int [(.tmp 8), (.tmp 10)])⟩, ⟨(some 2), none, (.i (.mov (.tmp 11)))⟩] false [])
    .ret)
    (.seq (.seq (.region [⟨(some 13), none, (.i (.bin .eql (.tmp 4) (.cst (.int .i64 4))))⟩, ⟨(some 12), none, (.i (.mov (.tmp 13)))⟩] false [])
    (.cond (.tmp 12)
      .skip
      (.region [⟨(some 14), none, (.i (.bin .eql (.tmp 4) (.cst (.int .i64 5))))⟩, ⟨(some 12), none, (.i (.mov (.tmp 14)))⟩] false [])))
    (.cond (.tmp 12)
      (.seq (.region [⟨(some 15), none, (.i (.fld 1 (.tmp 1)))⟩, ⟨(some 16), none, (.i (.ld true 1 (.tmp 15)))⟩, ⟨(some 17), none, (.mkS 3 .int [(.tmp 16)])⟩, ⟨(some 2), none, (.i (.mov (.tmp 17)))⟩] false [])
      .ret)
      .skip))))))
  (.seq (.region [⟨(some 2), none, (.i (.mov (.cst .nils)))⟩] false [])
  .ret)))
def r_impl_Gate_operands : List Res := [.tmp 2]
theorem c_impl_Gate_operands : compiled Tryd.prog Tryd.f56 = some (m_impl_Gate_operands, r_impl_Gate_operands) := by kernel_rfl
theorem hb_impl_Gate_operands : hasBody Tryd.prog 56 = true := by kernel_rfl
def L_impl_Gate_operands (a0_0 : Int) (a0_1 : Int) (a0_2 : Int) (a0_3 : Int) : Option (List Int) :=
  cond (a0_0 == 3)
  (some ([a0_1, a0_2]))
  (Option.bind (cond (a0_0 == 4)
      (some (a0_0 == 4))
      (some (a0_0 == 5))) fun l7_m12 =>
  cond l7_m12
    (some ([a0_1]))
    (some []))
def rv_impl_Gate_operands (r : List Int) : RV := ⟨false, [(false, [.new 3 .int r])]⟩
theorem ok_impl_Gate_operands {a0_0 : Int} {a0_1 : Int} {a0_2 : Int} {a0_3 : Int} {r : List Int} (h : L_impl_Gate_operands a0_0 a0_1 a0_2 a0_3 = some r) : CallOK Tryd.prog Tab 56 [(.agg [(.int .i64 a0_0), (.int .i64 a0_1), (.int .i64 a0_2), (.int .i64 a0_3)])] (rv_impl_Gate_operands r) := by
  refine call_of_ (by kernel_rfl) Tryd.func56 c_impl_Gate_operands (n := 18) (by kernel_rfl) (by simp) (tl := [(0, (.agg [(.int .i64 a0_0), (.int .i64 a0_1), (.int .i64 a0_2), (.int .i64 a0_3)]))]) rfl ?_
  unfold m_impl_Gate_operands
  unfold L_impl_Gate_operands at h
  refine awp_seq_ ?_
  refine awp_region_ 3 (by kernel_rfl) ?_
  refine rs1 (.box (1, 1) 0) (1, 1) (.cells 51 [(.int .i64 a0_0), (.int .i64 a0_1), (.int .i64 a0_2), (.int .i64 a0_3)]) (by kernel_rfl) ?_
  refine rs0 .nils (by kernel_rfl) ?_
  refine rnil (tn_ ?_)
  refine awp_seq_ ?_
  refine awp_seq_ ?_
  refine awp_region_ 5 (by kernel_rfl) ?_
  refine rs0 (.box (1, 1) 0) (by kernel_rfl) ?_
  refine rsl (.int .i64 a0_0) (by kernel_rfl) ?_
  refine rnil (tn_ ?_)
  refine awp_block_ ?_
  refine awp_seq_ ?_
  refine awp_region_ 7 (by kernel_rfl) ?_
  refine rs0 (.bool (a0_0 == 3)) (by kernel_rfl) ?_
  refine rs0 (.bool (a0_0 == 3)) (by kernel_rfl) ?_
  refine rnil (tn_ ?_)
  rcases cond_some h with ⟨q5, h⟩ | ⟨q5, h⟩
  · refine awp_condT_ q5 (by kernel_rfl) ?_
    refine awp_seq_ ?_
    refine awp_region_ 13 (by kernel_rfl) ?_
    refine rs0 (.box (1, 1) 1) (by kernel_rfl) ?_
    refine rsl (.int .i64 a0_1) (by kernel_rfl) ?_
    refine rs0 (.box (1, 1) 2) (by kernel_rfl) ?_
    refine rsl (.int .i64 a0_2) (by kernel_rfl) ?_
    refine rs1 (.own (11, 11) .int 0 2) (11, 11) (.arr 3 .int ([a0_1, a0_2])) (by kernel_rfl) ?_
    refine rs0 (.own (11, 11) .int 0 2) (by kernel_rfl) ?_
    refine rnil (tn_ ?_)
    refine awp_ret_ (br_ (tr_ ?_))
    obtain rfl := Option.some.inj h
    exact ret_ [(.own (11, 11) .int 0 2)] (by simp) (by kernel_rfl) (p_one rfl (l_own (by kernel_rfl) rfl) p_nil) (by kernel_rfl) (by kernel_rfl)
  · refine awp_condF_ q5 (by kernel_rfl) ?_
    refine awp_seqB h (fun (l7_m12 : Bool) S_ => S_ = ⟨mkTm [(1, (.box (0, 1) 0)), (12, (.bool l7_m12))], mkOb (someL [((0, 1), .cells 51 [(.int .i64 a0_0), (.int .i64 a0_1), (.int .i64 a0_2), (.int .i64 a0_3)])]), 2⟩) ?_ ?_
    · intro v_ h
      refine awp_seq_ ?_
      refine awp_region_ 9 (by kernel_rfl) ?_
      refine rs0 (.bool (a0_0 == 4)) (by kernel_rfl) ?_
      refine rs0 (.bool (a0_0 == 4)) (by kernel_rfl) ?_
      refine rnil (tn_ ?_)
      rcases cond_some h with ⟨q9, h⟩ | ⟨q9, h⟩
      · refine awp_condT_ q9 (by kernel_rfl) ?_
        refine awp_skip_ (tn_ ?_)
        obtain rfl := Option.some.inj h
        exact ⟨_, (weak_ren (renF [((0, 1), (1, 1))]) (by kernel_rfl) (by kernel_rfl) (by kernel_rfl)), rfl⟩
      · refine awp_condF_ q9 (by kernel_rfl) ?_
        refine awp_region_ 11 (by kernel_rfl) ?_
        refine rs0 (.bool (a0_0 == 5)) (by kernel_rfl) ?_
        refine rs0 (.bool (a0_0 == 5)) (by kernel_rfl) ?_
        refine rnil (tn_ ?_)
        obtain rfl := Option.some.inj h
        exact ⟨_, (weak_ren (renF [((0, 1), (1, 1))]) (by kernel_rfl) (by kernel_rfl) (by kernel_rfl)), rfl⟩
    · rintro l7_m12 _ rfl h
      (try dsimp only at h)
      rcases cond_some h with ⟨q10, h⟩ | ⟨q10, h⟩
      · refine awp_condT_ q10 (by kernel_rfl) ?_
        refine awp_seq_ ?_
        refine awp_region_ 6 (by kernel_rfl) ?_
        refine rs0 (.box (0, 1) 1) (by kernel_rfl) ?_
        refine rsl (.int .i64 a0_1) (by kernel_rfl) ?_
        refine rs1 (.own (17, 4) .int 0 1) (17, 4) (.arr 3 .int ([a0_1])) (by kernel_rfl) ?_
        refine rs0 (.own (17, 4) .int 0 1) (by kernel_rfl) ?_
        refine rnil (tn_ ?_)
        refine awp_ret_ (br_ (tr_ ?_))
        obtain rfl := Option.some.inj h
        exact ret_ [(.own (17, 4) .int 0 1)] (by simp) (by kernel_rfl) (p_one rfl (l_own (by kernel_rfl) rfl) p_nil) (by kernel_rfl) (by kernel_rfl)
      · refine awp_condF_ q10 (by kernel_rfl) ?_
        refine awp_skip_ (bn_ (tn_ ?_))
        refine awp_seq_ ?_
        refine awp_region_ 3 (by kernel_rfl) ?_
        refine rs0 .nils (by kernel_rfl) ?_
        refine rnil (tn_ ?_)
        refine awp_ret_ ?_
        obtain rfl := Option.some.inj h
        exact ret_ [.nils] (by simp) (by kernel_rfl) (p_one rfl (l_nils rfl) p_nil) (by kernel_rfl) (by kernel_rfl)
def m_impl_Circuit_isGate : AC :=
  (.seq (.region [⟨(some 3), none, (.i (.box 31 (.tmp 0)))⟩, ⟨(some 5), none, (.i (.box 51 (.tmp 2)))⟩, ⟨(some 6), none, (.i (.mov (.cst (.bool false))))⟩] false [])
  (.seq (.seq (.region [⟨(some 7), none, (.i (.ld false 4 (.tmp 5)))⟩, ⟨(some 8), none, (.call (.cst (.fn 56 [])) [(.tmp 7)] [[none, none, none, none]])⟩, ⟨(some 9), none, (.i (.fld 1 (.tmp 3)))⟩, ⟨(some 10), none, (.i (.ld true 1 (.tmp 9)))⟩, ⟨(some 11), none, (.i (.len (.tmp 10)))⟩, ⟨(some 12), none, (.call (.cst (.fn 75 [])) [(.tmp 8), (.tmp 11)] [[(some .int)], []])⟩, ⟨(some 13), none, (.i (.not (.tmp 12)))⟩] true [(1, 3)])
  (.cond (.tmp 13)
    (.seq (.region [⟨(some 6), none, (.i (.mov (.cst (.bool false))))⟩] false [])
    .ret)
    .skip))
  (.seq (.seq (.region [⟨(some 14), none, (.i (.fld 0 (.tmp 5)))⟩, ⟨(some 15), none, (.i (.ld true 1 (.tmp 14)))⟩] false [])
  (.block 0 (.seq (.region [⟨(some 17), none, (.i (.bin .eql (.tmp 15) (.cst (.int .i64 1))))⟩, ⟨(some 16), none, (.i (.mov (.tmp 17)))⟩] false [])
  (.cond (.tmp 16)
    (.seq (.region [⟨(some 18), none, (.i (.fld 1 (.tmp 5)))⟩, ⟨(some 19), none, (.i (.ld true 1 (.tmp 18)))⟩, ⟨(some 20), none, (.i (.bin .eql (.tmp 19) (.cst (.int .i64 0))))⟩, ⟨(some 21), none, (.i (.mov (.tmp 20)))⟩, ⟨(some 22), (some (21, true)), (.i (.fld 2 (.tmp 5)))⟩, ⟨(some 23), (some (21, true)), (.i (.ld true 1 (.tmp 22)))⟩, ⟨(some 24), (some (21, true)), (.i (.bin .eql (.tmp 23) (.cst (.int .i64 0))))⟩, ⟨(some 25), none, (.i (.pick (.tmp 21) (.tmp 24) (.cst (.bool false))))⟩, ⟨(some 26), none, (.i (.mov (.tmp 25)))⟩, ⟨(some 27), (some (26, true)), (.i (.fld 3 (.tmp 5)))⟩, ⟨(some 28), (some (26, true)), (.i (.ld true 1 (.tmp 27)))⟩, ⟨(some 29), (some (26, true)), (.i (.fld 0 (.tmp 3)))⟩, ⟨(some 30), (some (26, true)), (.i (.ld true 1 (.tmp 29)))⟩, ⟨(some 31), (some (26, true)), (.i (.bin .sub (.tmp 30) (.cst (.int .i64 1))))⟩, ⟨(some 32), (some (26, true)), (.call (.cst (.fn 45 [])) [(.tmp 28), (.cst (.int .i64 0)), (.tmp 31)] [[], [], []])⟩, ⟨(some 33), none, (.i (.pick (.tmp 26) (.tmp 32) (.cst (.bool false))))⟩, ⟨(some 6), none, (.i (.mov (.tmp 33)))⟩] false [])
    .ret)
    (.seq (.region [⟨(some 35), none, (.i (.bin .eql (.tmp 15) (.cst (.int .i64 2))))⟩, ⟨(some 34), none, (.i (.mov (.tmp 35)))⟩] false [])
    (.cond (.tmp 34)
      (.seq (.region [⟨(some 36), none, (.i (.ld false 4 (.tmp 5)))⟩, ⟨(some 37), none, (.build [(.int .i64 0), (.int .i64 0), (.int .i64 0), (.int .i64 0)] [(0, 1, (.cst (.int .i64 2)))])⟩, ⟨(some 38), none, (.i (.cmp false 7 (.tmp 36) (.tmp 37)))⟩, ⟨(some 6), none, (.i (.mov (.tmp 38)))⟩] false [])
      .ret)
      (.seq (.region [⟨(some 40), none, (.i (.bin .eql (.tmp 15) (.cst (.int .i64 3))))⟩, ⟨(some 39), none, (.i (.mov (.tmp 40)))⟩] false [])
      (.cond (.tmp 39)
        (.seq (.region [⟨(some 41), none, (.i (.fld 3 (.tmp 5)))⟩, ⟨(some 42), none, (.i (.ld true 1 (.tmp 41)))⟩, ⟨(some 43), none, (.i (.bin .eql (.tmp 42) (.cst (.int .i64 0))))⟩, ⟨(some 6), none, (.i (.mov (.tmp 43)))⟩] false [])
        .ret)
        (.seq (.region [⟨(some 45), none, (.i (.bin .eql (.tmp 15) (.cst (.int .i64 4))))⟩, ⟨(some 44), none, (.i (.mov (.tmp 45)))⟩] false [])
        (.cond (.tmp 44)
          (.seq (.region [⟨(some 46), none, (.i (.fld 2 (.tmp 5)))⟩, ⟨(some 47), none, (.i (.ld true 1 (.tmp 46)))⟩, ⟨(some 48), none, (.i (.bin .eql (.tmp 47) (.cst (.int .i64 0))))⟩, ⟨(some 49), none, (.i (.mov (.tmp 48)))⟩, ⟨(some 50), (some (49, true)), (.i (.mov (.tmp 1)))⟩, ⟨(some 51), (some (49, true)), (.i (.fld 3 (.tmp 5)))⟩, ⟨(some 52), (some (49, true)), (.i (.ld true 1 (.tmp 51)))⟩, ⟨(some 53), (some (49, true)), (.call (.cst (.fn 84 [])) [(.tmp 50), (.tmp 52)] [[], []])⟩, ⟨(some 54), none, (.i (.pick (.tmp 49) (.tmp 53) (.cst (.bool false))))⟩, ⟨(some 6), none, (.i (.mov (.tmp 54)))⟩] false [])
          .ret)
          (.seq (.region [⟨(some 56), none, (.i (.bin .eql (.tmp 15) (.cst (.int .i64 5))))⟩, ⟨(some 55), none, (.i (.mov (.tmp 56)))⟩] false [])
          (.cond (.tmp 55)
            (.seq (.region [⟨(some 57), none, (.i (.fld 2 (.tmp 5)))⟩, ⟨(some 58), none, (.i (.ld true 1 (.tmp 57)))⟩, ⟨(some 59), none, (.i (.bin .eql (.tmp 58) (.cst (.int .i64 0))))⟩, ⟨(some 60), none, (.i (.mov (.tmp 59)))⟩, ⟨(some 61), (some (60, true)), (.i (.fld 3 (.tmp 5)))⟩, ⟨(some 62), (some (60, true)), (.i (.ld true 1 (.tmp 61)))⟩, ⟨(some 63), (some (60, true)), (.i (.bin .eql (.tmp 62) (.cst (.int .i64 0))))⟩, ⟨(some 64), none, (.i (.pick (.tmp 60) (.tmp 63) (.cst (.bool false))))⟩, ⟨(some 6), none, (.i (.mov (.tmp 64)))⟩] false [])
            .ret)
            .skip))))))))))))
  (.seq (.region [⟨(some 6), none, (.i (.mov (.cst (.bool false))))⟩] false [])
  .ret))))
def r_impl_Circuit_isGate : List Res := [.tmp 6]
theorem c_impl_Circuit_isGate : compiled Tryd.prog Tryd.f76 = some (m_impl_Circuit_isGate, r_impl_Circuit_isGate) := by kernel_rfl
theorem hb_impl_Circuit_isGate : hasBody Tryd.prog 76 = true := by kernel_rfl
def L_impl_Circuit_isGate (a0_0 : Int) (a0_1 : List (Int × Int × Int × Int)) (a0_2 : List Int) (a1 : Int) (a2_0 : Int) (a2_1 : Int) (a2_2 : Int) (a2_3 : Int) : Option Bool :=
  Option.bind (L_impl_Gate_operands a2_0 a2_1 a2_2 a2_3) fun y4 =>
Option.bind (L_impl_areBelow y4 ((a0_1.length : Nat) : Int)) fun y5 =>
cond (!y5)
  (some false)
  (cond (a2_0 == 1)
    (Option.bind (cond (a2_1 == 0)
        (cond (a2_2 == 0)
          (Option.bind (L_impl_within a2_3 0 (IntKind.i64.wrap (a0_0 - 1))) fun y15 =>
          some y15)
          (some false))
        (some false)) fun l12_m6 =>
    some l12_m6)
    (cond (a2_0 == 2)
      (some ([a2_0, a2_1, a2_2, a2_3] == [2, 0, 0, 0]))
      (cond (a2_0 == 3)
        (some (a2_3 == 0))
        (cond (a2_0 == 4)
          (Option.bind (cond (a2_2 == 0)
              (Option.bind (L_impl_isElement a1 a2_3) fun y26 =>
              some y26)
              (some false)) fun l24_m6 =>
          some l24_m6)
          (cond (a2_0 == 5)
            (Option.bind (cond (a2_2 == 0)
                (some (a2_3 == 0))
                (some false)) fun l29_m6 =>
            some l29_m6)
            (some false))))))
def rv_impl_Circuit_isGate (r : Bool) : RV := ⟨false, [(false, [.sc (.bool r)])]⟩
theorem ok_impl_Circuit_isGate {a0_0 : Int} {a0_1 : List (Int × Int × Int × Int)} {a0_2 : List Int} {a1 : Int} {a2_0 : Int} {a2_1 : Int} {a2_2 : Int} {a2_3 : Int} {r : Bool} (h : L_impl_Circuit_isGate a0_0 a0_1 a0_2 a1 a2_0 a2_1 a2_2 a2_3 = some r) : CallOK Tryd.prog Tab 76 [(.agg [(.int .i64 a0_0), (.tree (.pair .int (.pair .int (.pair .int .int))) a0_1), (.tree .int a0_2)]), (.int .i64 a1), (.agg [(.int .i64 a2_0), (.int .i64 a2_1), (.int .i64 a2_2), (.int .i64 a2_3)])] (rv_impl_Circuit_isGate r) := by
  refine call_of_ (by kernel_rfl) Tryd.func76 c_impl_Circuit_isGate (n := 65) (by kernel_rfl) (by simp) (tl := [(0, (.agg [(.int .i64 a0_0), (.tree (.pair .int (.pair .int (.pair .int .int))) a0_1), (.tree .int a0_2)])), (1, (.int .i64 a1)), (2, (.agg [(.int .i64 a2_0), (.int .i64 a2_1), (.int .i64 a2_2), (.int .i64 a2_3)]))]) rfl ?_
  unfold m_impl_Circuit_isGate
  unfold L_impl_Circuit_isGate at h
  refine awp_seq_ ?_
  refine awp_region_ 4 (by kernel_rfl) ?_
  refine rs1 (.box (3, 1) 0) (3, 1) (.cells 31 [(.int .i64 a0_0), (.tree (.pair .int (.pair .int (.pair .int .int))) a0_1), (.tree .int a0_2)]) (by kernel_rfl) ?_
  refine rs1 (.box (5, 2) 0) (5, 2) (.cells 51 [(.int .i64 a2_0), (.int .i64 a2_1), (.int .i64 a2_2), (.int .i64 a2_3)]) (by kernel_rfl) ?_
  refine rs0 (.bool false) (by kernel_rfl) ?_
  refine rnil (tn_ ?_)
  refine awp_seq_ ?_
  refine awp_seq_ ?_
  obtain ⟨y4, h4, h⟩ := ob_some h
  obtain ⟨y5, h5, h⟩ := ob_some h
  refine awp_regionD_ 11 (by kernel_rfl) ?_
  refine dsl (.agg [(.int .i64 a2_0), (.int .i64 a2_1), (.int .i64 a2_2), (.int .i64 a2_3)]) (by kernel_rfl) ?_
  refine dcall (.own (128, 5) .int 0 y4.length) [((128, 5), some (.arr 3 .int y4))] [(.agg [(.int .i64 a2_0), (.int .i64 a2_1), (.int .i64 a2_2), (.int .i64 a2_3)])] _ (caps := []) (args0 := [(.agg [(.int .i64 a2_0), (.int .i64 a2_1), (.int .i64 a2_2), (.int .i64 a2_3)])]) trivial (by kernel_rfl) (by kernel_rfl) (by kernel_rfl) (by kernel_rfl) (ok_impl_Gate_operands h4) hb_impl_Gate_operands (by kernel_rfl) ?_
  refine ds0 (.box (3, 1) 1) (by kernel_rfl) ?_
  refine dsl (.tree (.pair .int (.pair .int (.pair .int .int))) a0_1) (by kernel_rfl) ?_
  refine ds0 (.int .i64 ((a0_1.length : Nat) : Int)) (by kernel_rfl) ?_
  refine dcall (.bool y5) [] [(.own (128, 5) .int 0 y4.length), (.int .i64 ((a0_1.length : Nat) : Int))] _ (caps := []) (args0 := [(.tree .int y4), (.int .i64 ((a0_1.length : Nat) : Int))]) trivial (by kernel_rfl) (by kernel_rfl) (gm_cons (gd_own (e := 3) (by kernel_rfl) rfl) (gm_cons (by kernel_rfl) gm_nil)) (by kernel_rfl) (ok_impl_areBelow h5) hb_impl_areBelow (by kernel_rfl) ?_
  refine ds0 (.bool (!y5)) (by kernel_rfl) ?_
  refine dnil (by kernel_rfl) (tn_ ?_)
  rcases cond_some h with ⟨q6, h⟩ | ⟨q6, h⟩
  · refine awp_condT_ q6 (by kernel_rfl) ?_
    refine awp_seq_ ?_
    refine awp_region_ 12 (by kernel_rfl) ?_
    refine rs0 (.bool false) (by kernel_rfl) ?_
    refine rnil (tn_ ?_)
    refine awp_ret_ (tr_ ?_)
    obtain rfl := Option.some.inj h
    exact ret_ [(.bool false)] (by simp) (by kernel_rfl) (p_one rfl (l_sc (by kernel_rfl)) p_nil) (by kernel_rfl) (by kernel_rfl)
  · refine awp_condF_ q6 (by kernel_rfl) ?_
    refine awp_skip_ (tn_ ?_)
    refine awp_seq_ ?_
    refine awp_seq_ ?_
    refine awp_region_ 13 (by kernel_rfl) ?_
    refine rs0 (.box (5, 2) 0) (by kernel_rfl) ?_
    refine rsl (.int .i64 a2_0) (by kernel_rfl) ?_
    refine rnil (tn_ ?_)
    refine awp_block_ ?_
    refine awp_seq_ ?_
    refine awp_region_ 15 (by kernel_rfl) ?_
    refine rs0 (.bool (a2_0 == 1)) (by kernel_rfl) ?_
    refine rs0 (.bool (a2_0 == 1)) (by kernel_rfl) ?_
    refine rnil (tn_ ?_)
    rcases cond_some h with ⟨q11, h⟩ | ⟨q11, h⟩
    · refine awp_condT_ q11 (by kernel_rfl) ?_
      refine awp_seqB h (fun (l12_m6 : Bool) S_ => S_ = ⟨mkTm [(6, (.bool l12_m6))], mkOb (someL []), 2⟩) ?_ ?_
      · intro v_ h
        rcases cond_some h with ⟨q13, h⟩ | ⟨q13, h⟩
        · rcases cond_some h with ⟨q14, h⟩ | ⟨q14, h⟩
          · obtain ⟨y15, h15, h⟩ := ob_some h
            refine awp_region_ 32 (by kernel_rfl) ?_
            refine rs0 (.box (5, 2) 1) (by kernel_rfl) ?_
            refine rsl (.int .i64 a2_1) (by kernel_rfl) ?_
            refine rs0 (.bool (a2_1 == 0)) (by kernel_rfl) ?_
            refine rs0 (.bool (a2_1 == 0)) (by kernel_rfl) ?_
            refine rs0 (.box (5, 2) 2) (s_gd (by kernel_rfl) q13 (by kernel_rfl)) ?_
            refine rsl (.int .i64 a2_2) (s_gd (by kernel_rfl) q13 (by kernel_rfl)) ?_
            refine rs0 (.bool (a2_2 == 0)) (s_gd (by kernel_rfl) q13 (by kernel_rfl)) ?_
            refine rs0 (.bool (a2_2 == 0)) (s_pickT (by kernel_rfl) q13) ?_
            refine rs0 (.bool (a2_2 == 0)) (by kernel_rfl) ?_
            refine rs0 (.box (5, 2) 3) (s_gd (by kernel_rfl) q14 (by kernel_rfl)) ?_
            refine rsl (.int .i64 a2_3) (s_gd (by kernel_rfl) q14 (by kernel_rfl)) ?_
            refine rs0 (.box (3, 1) 0) (s_gd (by kernel_rfl) q14 (by kernel_rfl)) ?_
            refine rsl (.int .i64 a0_0) (s_gd (by kernel_rfl) q14 (by kernel_rfl)) ?_
            refine rs0 (.int .i64 (IntKind.i64.wrap (a0_0 - 1))) (s_gd (by kernel_rfl) q14 (by kernel_rfl)) ?_
            refine rcall (.bool y15) [] [(.int .i64 a2_3), (.int .i64 0), (.int .i64 (IntKind.i64.wrap (a0_0 - 1)))] _ (caps := []) (args0 := [(.int .i64 a2_3), (.int .i64 0), (.int .i64 (IntKind.i64.wrap (a0_0 - 1)))]) (gdOK_b (by kernel_rfl) q14) (by kernel_rfl) (by kernel_rfl) (by kernel_rfl) (by kernel_rfl) (ok_impl_within h15) hb_impl_within (by kernel_rfl) ?_
            refine rs0 (.bool y15) (s_pickT (by kernel_rfl) q14) ?_
            refine rs0 (.bool y15) (by kernel_rfl) ?_
            refine rnil (tn_ ?_)
            obtain rfl := Option.some.inj h
            exact ⟨_, (weak_ren (renF []) (by kernel_rfl) (by kernel_rfl) (by kernel_rfl)), rfl⟩
          · refine awp_region_ 32 (by kernel_rfl) ?_
            refine rs0 (.box (5, 2) 1) (by kernel_rfl) ?_
            refine rsl (.int .i64 a2_1) (by kernel_rfl) ?_
            refine rs0 (.bool (a2_1 == 0)) (by kernel_rfl) ?_
            refine rs0 (.bool (a2_1 == 0)) (by kernel_rfl) ?_
            refine rs0 (.box (5, 2) 2) (s_gd (by kernel_rfl) q13 (by kernel_rfl)) ?_
            refine rsl (.int .i64 a2_2) (s_gd (by kernel_rfl) q13 (by kernel_rfl)) ?_
            refine rs0 (.bool (a2_2 == 0)) (s_gd (by kernel_rfl) q13 (by kernel_rfl)) ?_
            refine rs0 (.bool (a2_2 == 0)) (s_pickT (by kernel_rfl) q13) ?_
            refine rs0 (.bool (a2_2 == 0)) (by kernel_rfl) ?_
            refine rs0 (.tup []) (s_skip (by kernel_rfl) q14) ?_
            refine rs0 (.tup []) (s_skip (by kernel_rfl) q14) ?_
            refine rs0 (.tup []) (s_skip (by kernel_rfl) q14) ?_
            refine rs0 (.tup []) (s_skip (by kernel_rfl) q14) ?_
            refine rs0 (.tup []) (s_skip (by kernel_rfl) q14) ?_
            refine rs0 (.tup []) (s_skip (by kernel_rfl) q14) ?_
            refine rs0 (.bool false) (s_pickF (by kernel_rfl) q14) ?_
            refine rs0 (.bool false) (by kernel_rfl) ?_
            refine rnil (tn_ ?_)
            obtain rfl := Option.some.inj h
            exact ⟨_, (weak_ren (renF []) (by kernel_rfl) (by kernel_rfl) (by kernel_rfl)), rfl⟩
        · refine awp_region_ 32 (by kernel_rfl) ?_
          refine rs0 (.box (5, 2) 1) (by kernel_rfl) ?_
          refine rsl (.int .i64 a2_1) (by kernel_rfl) ?_
          refine rs0 (.bool (a2_1 == 0)) (by kernel_rfl) ?_
          refine rs0 (.bool (a2_1 == 0)) (by kernel_rfl) ?_
          refine rs0 (.tup []) (s_skip (by kernel_rfl) q13) ?_
          refine rs0 (.tup []) (s_skip (by kernel_rfl) q13) ?_
          refine rs0 (.tup []) (s_skip (by kernel_rfl) q13) ?_
          refine rs0 (.bool false) (s_pickF (by kernel_rfl) q13) ?_
          refine rs0 (.bool false) (by kernel_rfl) ?_
          refine rs0 (.tup []) (by kernel_rfl) ?_
          refine rs0 (.tup []) (by kernel_rfl) ?_
          refine rs0 (.tup []) (by kernel_rfl) ?_
          refine rs0 (.tup []) (by kernel_rfl) ?_
          refine rs0 (.tup []) (by kernel_rfl) ?_
          refine rs0 (.tup []) (by kernel_rfl) ?_
          refine rs0 (.bool false) (by kernel_rfl) ?_
          refine rs0 (.bool false) (by kernel_rfl) ?_
          refine rnil (tn_ ?_)
          obtain rfl := Option.some.inj h
          exact ⟨_, (weak_ren (renF []) (by kernel_rfl) (by kernel_rfl) (by kernel_rfl)), rfl⟩
      · rintro l12_m6 _ rfl h
        (try dsimp only at h)
        refine awp_ret_ (br_ (tr_ ?_))
        obtain rfl := Option.some.inj h
        exact ret_ [(.bool l12_m6)] (by simp) (by kernel_rfl) (p_one rfl (l_sc (by kernel_rfl)) p_nil) (by kernel_rfl) (by kernel_rfl)
    · refine awp_condF_ q11 (by kernel_rfl) ?_
      refine awp_seq_ ?_
      refine awp_region_ 17 (by kernel_rfl) ?_
      refine rs0 (.bool (a2_0 == 2)) (by kernel_rfl) ?_
      refine rs0 (.bool (a2_0 == 2)) (by kernel_rfl) ?_
      refine rnil (tn_ ?_)
      rcases cond_some h with ⟨q17, h⟩ | ⟨q17, h⟩
      · refine awp_condT_ q17 (by kernel_rfl) ?_
        refine awp_seq_ ?_
        refine awp_region_ 21 (by kernel_rfl) ?_
        refine rsl (.agg [(.int .i64 a2_0), (.int .i64 a2_1), (.int .i64 a2_2), (.int .i64 a2_3)]) (by kernel_rfl) ?_
        refine rs0 (.agg [(.int .i64 2), (.int .i64 0), (.int .i64 0), (.int .i64 0)]) (by kernel_rfl) ?_
        refine rs0 (.bool ([a2_0, a2_1, a2_2, a2_3] == [2, 0, 0, 0])) (by kernel_rfl) ?_
        refine rs0 (.bool ([a2_0, a2_1, a2_2, a2_3] == [2, 0, 0, 0])) (by kernel_rfl) ?_
        refine rnil (tn_ ?_)
        refine awp_ret_ (br_ (tr_ ?_))
        obtain rfl := Option.some.inj h
        exact ret_ [(.bool ([a2_0, a2_1, a2_2, a2_3] == [2, 0, 0, 0]))] (by simp) (by kernel_rfl) (p_one rfl (l_sc (by kernel_rfl)) p_nil) (by kernel_rfl) (by kernel_rfl)
      · refine awp_condF_ q17 (by kernel_rfl) ?_
        refine awp_seq_ ?_
        refine awp_region_ 19 (by kernel_rfl) ?_
        refine rs0 (.bool (a2_0 == 3)) (by kernel_rfl) ?_
        refine rs0 (.bool (a2_0 == 3)) (by kernel_rfl) ?_
        refine rnil (tn_ ?_)
        rcases cond_some h with ⟨q20, h⟩ | ⟨q20, h⟩
        · refine awp_condT_ q20 (by kernel_rfl) ?_
          refine awp_seq_ ?_
          refine awp_region_ 23 (by kernel_rfl) ?_
          refine rs0 (.box (5, 2) 3) (by kernel_rfl) ?_
          refine rsl (.int .i64 a2_3) (by kernel_rfl) ?_
          refine rs0 (.bool (a2_3 == 0)) (by kernel_rfl) ?_
          refine rs0 (.bool (a2_3 == 0)) (by kernel_rfl) ?_
          refine rnil (tn_ ?_)
          refine awp_ret_ (br_ (tr_ ?_))
          obtain rfl := Option.some.inj h
          exact ret_ [(.bool (a2_3 == 0))] (by simp) (by kernel_rfl) (p_one rfl (l_sc (by kernel_rfl)) p_nil) (by kernel_rfl) (by kernel_rfl)
        · refine awp_condF_ q20 (by kernel_rfl) ?_
          refine awp_seq_ ?_
          refine awp_region_ 21 (by kernel_rfl) ?_
          refine rs0 (.bool (a2_0 == 4)) (by kernel_rfl) ?_
          refine rs0 (.bool (a2_0 == 4)) (by kernel_rfl) ?_
          refine rnil (tn_ ?_)
          rcases cond_some h with ⟨q23, h⟩ | ⟨q23, h⟩
          · refine awp_condT_ q23 (by kernel_rfl) ?_
            refine awp_seqB h (fun (l24_m6 : Bool) S_ => S_ = ⟨mkTm [(6, (.bool l24_m6))], mkOb (someL []), 2⟩) ?_ ?_
            · intro v_ h
              rcases cond_some h with ⟨q25, h⟩ | ⟨q25, h⟩
              · obtain ⟨y26, h26, h⟩ := ob_some h
                refine awp_region_ 31 (by kernel_rfl) ?_
                refine rs0 (.box (5, 2) 2) (by kernel_rfl) ?_
                refine rsl (.int .i64 a2_2) (by kernel_rfl) ?_
                refine rs0 (.bool (a2_2 == 0)) (by kernel_rfl) ?_
                refine rs0 (.bool (a2_2 == 0)) (by kernel_rfl) ?_
                refine rs0 (.int .i64 a1) (s_gd (by kernel_rfl) q25 (by kernel_rfl)) ?_
                refine rs0 (.box (5, 2) 3) (s_gd (by kernel_rfl) q25 (by kernel_rfl)) ?_
                refine rsl (.int .i64 a2_3) (s_gd (by kernel_rfl) q25 (by kernel_rfl)) ?_
                refine rcall (.bool y26) [] [(.int .i64 a1), (.int .i64 a2_3)] _ (caps := []) (args0 := [(.int .i64 a1), (.int .i64 a2_3)]) (gdOK_b (by kernel_rfl) q25) (by kernel_rfl) (by kernel_rfl) (by kernel_rfl) (by kernel_rfl) (ok_impl_isElement h26) hb_impl_isElement (by kernel_rfl) ?_
                refine rs0 (.bool y26) (s_pickT (by kernel_rfl) q25) ?_
                refine rs0 (.bool y26) (by kernel_rfl) ?_
                refine rnil (tn_ ?_)
                obtain rfl := Option.some.inj h
                exact ⟨_, (weak_ren (renF []) (by kernel_rfl) (by kernel_rfl) (by kernel_rfl)), rfl⟩
              · refine awp_region_ 31 (by kernel_rfl) ?_
                refine rs0 (.box (5, 2) 2) (by kernel_rfl) ?_
                refine rsl (.int .i64 a2_2) (by kernel_rfl) ?_
                refine rs0 (.bool (a2_2 == 0)) (by kernel_rfl) ?_
                refine rs0 (.bool (a2_2 == 0)) (by kernel_rfl) ?_
                refine rs0 (.tup []) (s_skip (by kernel_rfl) q25) ?_
                refine rs0 (.tup []) (s_skip (by kernel_rfl) q25) ?_
                refine rs0 (.tup []) (s_skip (by kernel_rfl) q25) ?_
                refine rs0 (.tup []) (s_skip (by kernel_rfl) q25) ?_
                refine rs0 (.bool false) (s_pickF (by kernel_rfl) q25) ?_
                refine rs0 (.bool false) (by kernel_rfl) ?_
                refine rnil (tn_ ?_)
                obtain rfl := Option.some.inj h
                exact ⟨_, (weak_ren (renF []) (by kernel_rfl) (by kernel_rfl) (by kernel_rfl)), rfl⟩
            · rintro l24_m6 _ rfl h
              (try dsimp only at h)
              refine awp_ret_ (br_ (tr_ ?_))
              obtain rfl := Option.some.inj h
              exact ret_ [(.bool l24_m6)] (by simp) (by kernel_rfl) (p_one rfl (l_sc (by kernel_rfl)) p_nil) (by kernel_rfl) (by kernel_rfl)
          · refine awp_condF_ q23 (by kernel_rfl) ?_
            refine awp_seq_ ?_
            refine awp_region_ 23 (by kernel_rfl) ?_
            refine rs0 (.bool (a2_0 == 5)) (by kernel_rfl) ?_
            refine rs0 (.bool (a2_0 == 5)) (by kernel_rfl) ?_
            refine rnil (tn_ ?_)
            rcases cond_some h with ⟨q28, h⟩ | ⟨q28, h⟩
            · refine awp_condT_ q28 (by kernel_rfl) ?_
              refine awp_seqB h (fun (l29_m6 : Bool) S_ => S_ = ⟨mkTm [(6, (.bool l29_m6))], mkOb (someL []), 2⟩) ?_ ?_
              · intro v_ h
                rcases cond_some h with ⟨q30, h⟩ | ⟨q30, h⟩
                · refine awp_region_ 32 (by kernel_rfl) ?_
                  refine rs0 (.box (5, 2) 2) (by kernel_rfl) ?_
                  refine rsl (.int .i64 a2_2) (by kernel_rfl) ?_
                  refine rs0 (.bool (a2_2 == 0)) (by kernel_rfl) ?_
                  refine rs0 (.bool (a2_2 == 0)) (by kernel_rfl) ?_
                  refine rs0 (.box (5, 2) 3) (s_gd (by kernel_rfl) q30 (by kernel_rfl)) ?_
                  refine rsl (.int .i64 a2_3) (s_gd (by kernel_rfl) q30 (by kernel_rfl)) ?_
                  refine rs0 (.bool (a2_3 == 0)) (s_gd (by kernel_rfl) q30 (by kernel_rfl)) ?_
                  refine rs0 (.bool (a2_3 == 0)) (s_pickT (by kernel_rfl) q30) ?_
                  refine rs0 (.bool (a2_3 == 0)) (by kernel_rfl) ?_
                  refine rnil (tn_ ?_)
                  obtain rfl := Option.some.inj h
                  exact ⟨_, (weak_ren (renF []) (by kernel_rfl) (by kernel_rfl) (by kernel_rfl)), rfl⟩
                · refine awp_region_ 32 (by kernel_rfl) ?_
                  refine rs0 (.box (5, 2) 2) (by kernel_rfl) ?_
                  refine rsl (.int .i64 a2_2) (by kernel_rfl) ?_
                  refine rs0 (.bool (a2_2 == 0)) (by kernel_rfl) ?_
                  refine rs0 (.bool (a2_2 == 0)) (by kernel_rfl) ?_
                  refine rs0 (.tup []) (s_skip (by kernel_rfl) q30) ?_
                  refine rs0 (.tup []) (s_skip (by kernel_rfl) q30) ?_
                  refine rs0 (.tup []) (s_skip (by kernel_rfl) q30) ?_
                  refine rs0 (.bool false) (s_pickF (by kernel_rfl) q30) ?_
                  refine rs0 (.bool false) (by kernel_rfl) ?_
                  refine rnil (tn_ ?_)
                  obtain rfl := Option.some.inj h
                  exact ⟨_, (weak_ren (renF []) (by kernel_rfl) (by kernel_rfl) (by kernel_rfl)), rfl⟩
              · rintro l29_m6 _ rfl h
                (try dsimp only at h)
                refine awp_ret_ (br_ (tr_ ?_))
                obtain rfl := Option.some.inj h
                exact ret_ [(.bool l29_m6)] (by simp) (by kernel_rfl) (p_one rfl (l_sc (by kernel_rfl)) p_nil) (by kernel_rfl) (by kernel_rfl)
            · refine awp_condF_ q28 (by kernel_rfl) ?_
              refine awp_skip_ (bn_ (tn_ ?_))
              refine awp_seq_ ?_
              refine awp_region_ 24 (by kernel_rfl) ?_
              refine rs0 (.bool false) (by kernel_rfl) ?_
              refine rnil (tn_ ?_)
              refine awp_ret_ ?_
              obtain rfl := Option.some.inj h
              exact ret_ [(.bool false)] (by simp) (by kernel_rfl) (p_one rfl (l_sc (by kernel_rfl)) p_nil) (by kernel_rfl) (by kernel_rfl)
def m_impl_Gate_needs : AC :=
  (.seq (.region [⟨(some 1), none, (.i (.box 51 (.tmp 0)))⟩, ⟨(some 2), none, (.i (.mov (.cst .nils)))⟩] false [])
  (.seq (.seq (.region [⟨(some 3), none, (.i (.fld 0 (.tmp 1)))⟩, ⟨(some 4), none, (.i (.ld true 1 (.tmp 3)))⟩, ⟨(some 5), none, (.i (.bin .eql (.tmp 4) (.cst (.int .i64 3))))⟩, ⟨(some 6), none, (.i (.mov (.tmp 5)))⟩, ⟨(some 7), (some (6, false)), (.i (.fld 0 (.tmp 1)))⟩, ⟨(some 8), (some (6, false)), (.i (.ld true 1 (.tmp 7)))⟩, ⟨(some 9), (some (6, false)), (.i (.bin .eql (.tmp 8) (.cst (.int .i64 4))))⟩, ⟨(some 10), none, (.i (.pick (.tmp 6) (.cst (.bool true)) (.tmp 9)))⟩] false [])
  (.cond (.tmp 10)
    (.seq (.region [⟨(some 11), none, (.i (.ld false 4 (.tmp 1)))⟩, ⟨(some 12), none, (.call (.cst (.fn 56 [])) [(.tmp 11)] [[none, none, none, none]])⟩, ⟨(some 2), none, (.i (.mov (.tmp 12)))⟩] false [])
    .ret)
    .skip))
  (.seq (.region [⟨(some 2), none, (.i (.mov (.cst .nils)))⟩] false [])
  .ret)))
def r_impl_Gate_needs : List Res := [.tmp 2]
theorem c_impl_Gate_needs : compiled Tryd.prog Tryd.f91 = some (m_impl_Gate_needs, r_impl_Gate_needs) := by kernel_rfl
theorem hb_impl_Gate_needs : hasBody Tryd.prog 91 = true := by kernel_rfl
def L_impl_Gate_needs (a0_0 : Int) (a0_1 : Int) (a0_2 : Int) (a0_3 : Int) : Option (List Int) :=
  Option.bind (cond (a0_0 == 3)
    (some true)
    (some (a0_0 == 4))) fun l3_m10 =>
cond l3_m10
  (Option.bind (L_impl_Gate_operands a0_0 a0_1 a0_2 a0_3) fun y7 =>
  some y7)
  (some [])
def rv_impl_Gate_needs (r : List Int) : RV := ⟨false, [(false, [.new 3 .int r])]⟩
theorem ok_impl_Gate_needs {a0_0 : Int} {a0_1 : Int} {a0_2 : Int} {a0_3 : Int} {r : List Int} (h : L_impl_Gate_needs a0_0 a0_1 a0_2 a0_3 = some r) : CallOK Tryd.prog Tab 91 [(.agg [(.int .i64 a0_0), (.int .i64 a0_1), (.int .i64 a0_2), (.int .i64 a0_3)])] (rv_impl_Gate_needs r) := by
  refine call_of_ (by kernel_rfl) Tryd.func91 c_impl_Gate_needs (n := 13) (by kernel_rfl) (by simp) (tl := [(0, (.agg [(.int .i64 a0_0), (.int .i64 a0_1), (.int .i64 a0_2), (.int .i64 a0_3)]))]) rfl ?_
  unfold m_impl_Gate_needs
  unfold L_impl_Gate_needs at h
  refine awp_seq_ ?_
  refine awp_region_ 3 (by kernel_rfl) ?_
  refine rs1 (.box (1, 1) 0) (1, 1) (.cells 51 [(.int .i64 a0_0), (.int .i64 a0_1), (.int .i64 a0_2), (.int .i64 a0_3)]) (by kernel_rfl) ?_
  refine rs0 .nils (by kernel_rfl) ?_
  refine rnil (tn_ ?_)
  refine awp_seq_ ?_
  refine awp_seqB h (fun (l3_m10 : Bool) S_ => S_ = ⟨mkTm [(1, (.box (0, 1) 0)), (10, (.bool l3_m10))], mkOb (someL [((0, 1), .cells 51 [(.int .i64 a0_0), (.int .i64 a0_1), (.int .i64 a0_2), (.int .i64 a0_3)])]), 2⟩) ?_ ?_
  · intro v_ h
    rcases cond_some h with ⟨q4, h⟩ | ⟨q4, h⟩
    · refine awp_region_ 11 (by kernel_rfl) ?_
      refine rs0 (.box (1, 1) 0) (by kernel_rfl) ?_
      refine rsl (.int .i64 a0_0) (by kernel_rfl) ?_
      refine rs0 (.bool (a0_0 == 3)) (by kernel_rfl) ?_
      refine rs0 (.bool (a0_0 == 3)) (by kernel_rfl) ?_
      refine rs0 (.tup []) (s_skip (by kernel_rfl) q4) ?_
      refine rs0 (.tup []) (s_skip (by kernel_rfl) q4) ?_
      refine rs0 (.tup []) (s_skip (by kernel_rfl) q4) ?_
      refine rs0 (.bool true) (s_pickT (by kernel_rfl) q4) ?_
      refine rnil (tn_ ?_)
      obtain rfl := Option.some.inj h
      exact ⟨_, (weak_ren (renF [((0, 1), (1, 1))]) (by kernel_rfl) (by kernel_rfl) (by kernel_rfl)), rfl⟩
    · refine awp_region_ 11 (by kernel_rfl) ?_
      refine rs0 (.box (1, 1) 0) (by kernel_rfl) ?_
      refine rsl (.int .i64 a0_0) (by kernel_rfl) ?_
      refine rs0 (.bool (a0_0 == 3)) (by kernel_rfl) ?_
      refine rs0 (.bool (a0_0 == 3)) (by kernel_rfl) ?_
      refine rs0 (.box (1, 1) 0) (s_gd (by kernel_rfl) q4 (by kernel_rfl)) ?_
      refine rsl (.int .i64 a0_0) (s_gd (by kernel_rfl) q4 (by kernel_rfl)) ?_
      refine rs0 (.bool (a0_0 == 4)) (s_gd (by kernel_rfl) q4 (by kernel_rfl)) ?_
      refine rs0 (.bool (a0_0 == 4)) (s_pickF (by kernel_rfl) q4) ?_
      refine rnil (tn_ ?_)
      obtain rfl := Option.some.inj h
      exact ⟨_, (weak_ren (renF [((0, 1), (1, 1))]) (by kernel_rfl) (by kernel_rfl) (by kernel_rfl)), rfl⟩
  · rintro l3_m10 _ rfl h
    (try dsimp only at h)
    rcases cond_some h with ⟨q5, h⟩ | ⟨q5, h⟩
    · refine awp_condT_ q5 (by kernel_rfl) ?_
      refine awp_seq_ ?_
      obtain ⟨y7, h7, h⟩ := ob_some h
      refine awp_region_ 5 (by kernel_rfl) ?_
      refine rsl (.agg [(.int .i64 a0_0), (.int .i64 a0_1), (.int .i64 a0_2), (.int .i64 a0_3)]) (by kernel_rfl) ?_
      refine rcall (.own (192, 3) .int 0 y7.length) [((192, 3), some (.arr 3 .int y7))] [(.agg [(.int .i64 a0_0), (.int .i64 a0_1), (.int .i64 a0_2), (.int .i64 a0_3)])] _ (caps := []) (args0 := [(.agg [(.int .i64 a0_0), (.int .i64 a0_1), (.int .i64 a0_2), (.int .i64 a0_3)])]) trivial (by kernel_rfl) (by kernel_rfl) (by kernel_rfl) (by kernel_rfl) (ok_impl_Gate_operands h7) hb_impl_Gate_operands (by kernel_rfl) ?_
      refine rs0 (.own (192, 3) .int 0 y7.length) (by kernel_rfl) ?_
      refine rnil (tn_ ?_)
      refine awp_ret_ (tr_ ?_)
      obtain rfl := Option.some.inj h
      exact ret_ [(.own (192, 3) .int 0 y7.length)] (by simp) (by kernel_rfl) (p_one rfl (l_own (by kernel_rfl) rfl) p_nil) (by kernel_rfl) (by kernel_rfl)
    · refine awp_condF_ q5 (by kernel_rfl) ?_
      refine awp_skip_ (tn_ ?_)
      refine awp_seq_ ?_
      refine awp_region_ 3 (by kernel_rfl) ?_
      refine rs0 .nils (by kernel_rfl) ?_
      refine rnil (tn_ ?_)
      refine awp_ret_ ?_
      obtain rfl := Option.some.inj h
      exact ret_ [.nils] (by simp) (by kernel_rfl) (p_one rfl (l_nils rfl) p_nil) (by kernel_rfl) (by kernel_rfl)
def m_impl_Circuit_schedule_1_1 : AC :=
  (.seq (.region [⟨(some 3), none, (.i (.mov (.cst (.bool false))))⟩] false [])
  (.seq (.region [⟨(some 4), none, (.i (.ld true 1 (.tmp 1)))⟩, ⟨(some 5), none, (.i (.mov (.tmp 0)))⟩, ⟨(some 6), none, (.i (.look 94 false (.tmp 4) (.tmp 5)))⟩, ⟨(some 3), none, (.i (.mov (.tmp 6)))⟩] false [])
  .ret))
def r_impl_Circuit_schedule_1_1 : List Res := [.tmp 3]
theorem c_impl_Circuit_schedule_1_1 : compiled Tryd.prog Tryd.f96 = some (m_impl_Circuit_schedule_1_1, r_impl_Circuit_schedule_1_1) := by kernel_rfl
theorem hb_impl_Circuit_schedule_1_1 : hasBody Tryd.prog 96 = true := by kernel_rfl
def L_impl_Circuit_schedule_1_1 (a0 : Int) (c0_0 : List (Int × Bool)) : Option Bool :=
  og (i64R a0) <|
some ((mget c0_0 a0).getD false)
def rv_impl_Circuit_schedule_1_1 (r : Bool) : RV := ⟨false, [(false, [.sc (.bool r)])]⟩
theorem ok_impl_Circuit_schedule_1_1 {a0 : Int} {c0_0 : List (Int × Bool)} {r : Bool} (h : L_impl_Circuit_schedule_1_1 a0 c0_0 = some r) : CallOK Tryd.prog Tab 96 [(.int .i64 a0), (.ref [(.mtree 94 .bool c0_0)])] (rv_impl_Circuit_schedule_1_1 r) := by
  refine call_of_ (by kernel_rfl) Tryd.func96 c_impl_Circuit_schedule_1_1 (n := 7) (by kernel_rfl) (by simp) (tl := [(0, (.int .i64 a0)), (1, (.ref [(.mtree 94 .bool c0_0)]))]) rfl ?_
  unfold m_impl_Circuit_schedule_1_1
  unfold L_impl_Circuit_schedule_1_1 at h
  refine awp_seq_ ?_
  refine awp_region_ 2 (by kernel_rfl) ?_
  refine rs0 (.bool false) (by kernel_rfl) ?_
  refine rnil (tn_ ?_)
  refine awp_seq_ ?_
  obtain ⟨g3, h⟩ := og_some h
  refine awp_region_ 6 (by kernel_rfl) ?_
  refine rs0 (.mtree 94 .bool c0_0) (by kernel_rfl) ?_
  refine rs0 (.int .i64 a0) (by kernel_rfl) ?_
  refine rs0 (.bool ((mget c0_0 a0).getD false)) (s_lookT (t := .bool) (es := c0_0) (k := a0) (by kernel_rfl) (by kernel_rfl) g3) ?_
  refine rs0 (.bool ((mget c0_0 a0).getD false)) (by kernel_rfl) ?_
  refine rnil (tn_ ?_)
  refine awp_ret_ ?_
  obtain rfl := Option.some.inj h
  exact ret_ [(.bool ((mget c0_0 a0).getD false))] (by simp) (by kernel_rfl) (p_one rfl (l_sc (by kernel_rfl)) p_nil) (by kernel_rfl) (by kernel_rfl)
def m_slices_IndexFunc_int_int_l1 : AC :=
  (.seq (.region [⟨(some 9), none, (.i (.bin .lss (.tmp 8) (.tmp 7)))⟩] false [])
  (.seq (.cond (.tmp 9)
    .skip
    (.exit 0))
  (.seq (.block 1 (.seq (.region [⟨(some 10), none, (.i (.mov (.tmp 8)))⟩, ⟨(some 5), none, (.i (.mov (.tmp 10)))⟩] false [])
  (.seq (.region [⟨(some 11), none, (.i (.mov (.tmp 1)))⟩, ⟨(some 12), none, (.i (.mov (.tmp 0)))⟩, ⟨(some 13), none, (.i (.mov (.tmp 5)))⟩, ⟨(some 14), none, (.i (.idx 1 (.tmp 12) (.tmp 13)))⟩, ⟨(some 15), none, (.i (.ld true 1 (.tmp 14)))⟩, ⟨(some 16), none, (.call (.tmp 11) [(.tmp 15)] [[]])⟩] false [])
  (.cond (.tmp 16)
    (.seq (.region [⟨(some 17), none, (.i (.mov (.tmp 5)))⟩, ⟨(some 4), none, (.i (.mov (.tmp 17)))⟩] false [])
    .ret)
    .skip))))
  (.region [⟨(some 18), none, (.i (.bin .add (.tmp 8) (.cst (.int .i64 1))))⟩, ⟨(some 8), none, (.i (.mov (.tmp 18)))⟩] false []))))
def m_slices_IndexFunc_int_int : AC :=
  (.seq (.region [⟨(some 4), none, (.i (.mov (.cst (.int .i64 0))))⟩] false [])
  (.seq (.seq (.region [⟨(some 6), none, (.i (.mov (.tmp 0)))⟩, ⟨(some 7), none, (.i (.len (.tmp 6)))⟩, ⟨(some 8), none, (.i (.mov (.cst (.int .i64 0))))⟩] false [])
  (.block 0 (.loop m_slices_IndexFunc_int_int_l1)))
  (.seq (.region [⟨(some 4), none, (.i (.mov (.cst (.int .i64 (-1)))))⟩] false [])
  .ret)))
def r_slices_IndexFunc_int_int : List Res := [.tmp 4]
theorem c_slices_IndexFunc_int_int : compiled Tryd.prog Tryd.f92 = some (m_slices_IndexFunc_int_int, r_slices_IndexFunc_int_int) := by kernel_rfl
theorem hb_slices_IndexFunc_int_int : hasBody Tryd.prog 92 = true := by kernel_rfl
def L_slices_IndexFunc_int_int_for_impl_Circuit_schedule_1_1_l1 (a0 : List Int) (a1_0_0 : List (Int × Bool)) (l4_m8 : Nat) : Option (Ctl Nat (Ctl Unit Int)) :=
  cond (decide (((l4_m8 : Nat) : Int) < ((a0.length : Nat) : Int)))
  (Option.bind (a0[l4_m8]?) fun x11 =>
  Option.bind (L_impl_Circuit_schedule_1_1 x11 a1_0_0) fun y12 =>
  cond y12
    (some (Ctl.out (Ctl.out ((l4_m8 : Nat) : Int))))
    (og (l4_m8 + 1 < 4611686018427387904) <|
    some (Ctl.next (l4_m8 + 1))))
  (some (Ctl.out (Ctl.next ())))
def L_slices_IndexFunc_int_int_for_impl_Circuit_schedule_1_1 (a0 : List Int) (a1_0_0 : List (Int × Bool)) : Option Int :=
  seqC (loopM (fun s_ : Nat => L_slices_IndexFunc_int_int_for_impl_Circuit_schedule_1_1_l1 a0 a1_0_0 s_) 4611686018427387904 0) fun _ =>
some (-1)
def rv_slices_IndexFunc_int_int_for_impl_Circuit_schedule_1_1 (r : Int) : RV := ⟨false, [(false, [.sc (.int .i64 r)])]⟩
theorem ok_slices_IndexFunc_int_int_for_impl_Circuit_schedule_1_1 {a0 : List Int} {a1_0_0 : List (Int × Bool)} {r : Int} (h : L_slices_IndexFunc_int_int_for_impl_Circuit_schedule_1_1 a0 a1_0_0 = some r) : CallOK Tryd.prog Tab 92 [(.tree .int a0), (.fn 96 [(.ref [(.mtree 94 .bool a1_0_0)])])] (rv_slices_IndexFunc_int_int_for_impl_Circuit_schedule_1_1 r) := by
  refine call_of_ (by kernel_rfl) Tryd.func92 c_slices_IndexFunc_int_int (n := 19) (by kernel_rfl) (by simp) (tl := [(0, (.tree .int a0)), (1, (.fn 96 [(.ref [(.mtree 94 .bool a1_0_0)])]))]) rfl ?_
  unfold m_slices_IndexFunc_int_int
  unfold L_slices_IndexFunc_int_int_for_impl_Circuit_schedule_1_1 at h
  refine awp_seq_ ?_
  refine awp_region_ 2 (by kernel_rfl) ?_
  refine rs0 (.int .i64 0) (by kernel_rfl) ?_
  refine rnil (tn_ ?_)
  refine awp_seqC h (fun (_ : Unit) S_ => S_ = ⟨mkTm [], mkOb (someL []), 2⟩) ?_ ?_
  · intro v_ h hk2
    refine awp_seq_ ?_
    refine awp_region_ 5 (by kernel_rfl) ?_
    refine rs0 (.tree .int a0) (by kernel_rfl) ?_
    refine rs0 (.int .i64 ((a0.length : Nat) : Int)) (by kernel_rfl) ?_
    refine rs0 (.int .i64 0) (by kernel_rfl) ?_
    refine rnil (tn_ ?_)
    refine awp_block_ ?_
    refine awp_loopL h (fun (l4_m8 : Nat) S_ => S_ = ⟨mkTm [(0, (.tree .int a0)), (1, (.fn 96 [(.ref [(.mtree 94 .bool a1_0_0)])])), (7, (.int .i64 ((a0.length : Nat) : Int))), (8, (.int .i64 ((l4_m8 : Nat) : Int)))], mkOb (someL []), 2⟩) ⟨_, (weak_ren (renF []) (by kernel_rfl) (by kernel_rfl) (by kernel_rfl)), rfl⟩ ?_
    · rintro n_ l4_m8 _ c_ rfl h hn4
      (try dsimp only at h)
      unfold L_slices_IndexFunc_int_int_for_impl_Circuit_schedule_1_1_l1 at h
      unfold m_slices_IndexFunc_int_int_l1
      refine awp_seq_ ?_
      refine awp_region_ 3 (by kernel_rfl) ?_
      refine rs0 (.bool (decide (((l4_m8 : Nat) : Int) < ((a0.length : Nat) : Int)))) (by kernel_rfl) ?_
      refine rnil (tn_ ?_)
      refine awp_seq_ ?_
      rcases cond_some h with ⟨q7, h⟩ | ⟨q7, h⟩
      · have q7_ := of_decide_eq_true q7
        refine awp_condT_ q7 (by kernel_rfl) ?_
        refine awp_skip_ (tn_ ?_)
        refine awp_seq_ ?_
        refine awp_block_ ?_
        refine awp_seq_ ?_
        refine awp_region_ 5 (by kernel_rfl) ?_
        refine rs0 (.int .i64 ((l4_m8 : Nat) : Int)) (by kernel_rfl) ?_
        refine rs0 (.int .i64 ((l4_m8 : Nat) : Int)) (by kernel_rfl) ?_
        refine rnil (tn_ ?_)
        refine awp_seq_ ?_
        obtain ⟨x11, e11, h⟩ := ob_some h
        obtain ⟨y12, h12, h⟩ := ob_some h
        refine awp_region_ 11 (by kernel_rfl) ?_
        refine rs0 (.fn 96 [(.ref [(.mtree 94 .bool a1_0_0)])]) (by kernel_rfl) ?_
        refine rs0 (.tree .int a0) (by kernel_rfl) ?_
        refine rs0 (.int .i64 ((l4_m8 : Nat) : Int)) (by kernel_rfl) ?_
        refine rs0 (.telt .int x11 0) (s_idxT (t := .int) (xs := a0) (k := .i64) (m := ((l4_m8 : Nat) : Int)) (by kernel_rfl) (by kernel_rfl) rfl (nat_nn _) rfl e11) ?_
        refine rs0 (.int .i64 x11) (by kernel_rfl) ?_
        refine rcall (.bool y12) [] [(.int .i64 x11), (.ref [(.mtree 94 .bool a1_0_0)])] _ (caps := [(.ref [(.mtree 94 .bool a1_0_0)])]) (args0 := [(.int .i64 x11), (.ref [(.mtree 94 .bool a1_0_0)])]) trivial (by kernel_rfl) (by kernel_rfl) (by kernel_rfl) (by kernel_rfl) (ok_impl_Circuit_schedule_1_1 h12) hb_impl_Circuit_schedule_1_1 (by kernel_rfl) ?_
        refine rnil (tn_ ?_)
        rcases cond_some h with ⟨q13, h⟩ | ⟨q13, h⟩
        · refine awp_condT_ q13 (by kernel_rfl) ?_
          refine awp_seq_ ?_
          refine awp_region_ 13 (by kernel_rfl) ?_
          refine rs0 (.int .i64 ((l4_m8 : Nat) : Int)) (by kernel_rfl) ?_
          refine rs0 (.int .i64 ((l4_m8 : Nat) : Int)) (by kernel_rfl) ?_
          refine rnil (tn_ ?_)
          refine awp_ret_ (br_ (tr_ (tr_ (br_ (tr_ ?_)))))
          obtain rfl := Option.some.inj h
          have h := hn4
          (try dsimp only at h)
          obtain rfl := Option.some.inj h
          have h := hk2
          (try dsimp only at h)
          obtain rfl := Option.some.inj h
          exact ret_ [(.int .i64 ((l4_m8 : Nat) : Int))] (by simp) (by kernel_rfl) (p_one rfl (l_sc (by kernel_rfl)) p_nil) (by kernel_rfl) (by kernel_rfl)
        · refine awp_condF_ q13 (by kernel_rfl) ?_
          refine awp_skip_ (bn_ (tn_ ?_))
          obtain ⟨g15, h⟩ := og_some h
          refine awp_region_ 13 (by kernel_rfl) ?_
          refine rs0 (.int .i64 ((l4_m8 + 1 : Nat) : Int)) (s_add1 (j := l4_m8) (by kernel_rfl) (by kernel_rfl) g15) ?_
          refine rs0 (.int .i64 ((l4_m8 + 1 : Nat) : Int)) (by kernel_rfl) ?_
          refine rnil (tn_ ?_)
          obtain rfl := Option.some.inj h
          exact ⟨l4_m8 + 1, _, (weak_ren (renF []) (by kernel_rfl) (by kernel_rfl) (by kernel_rfl)), rfl, hn4⟩
      · have q7_ := of_decide_eq_false q7
        refine awp_condF_ q7 (by kernel_rfl) ?_
        refine awp_exit_ (te_ (te_ (be_ (tn_ ?_))))
        obtain rfl := Option.some.inj h
        have h := hn4
        (try dsimp only at h)
        obtain rfl := Option.some.inj h
        exact ⟨(), _, rfl, (weak_ren (renF []) (by kernel_rfl) (by kernel_rfl) (by kernel_rfl)), rfl⟩
  · rintro _ _ rfl h
    (try dsimp only at h)
    refine awp_seq_ ?_
    refine awp_region_ 3 (by kernel_rfl) ?_
    refine rs0 (.int .i64 (-1)) (by kernel_rfl) ?_
    refine rnil (tn_ ?_)
    refine awp_ret_ ?_
    obtain rfl := Option.some.inj h
    exact ret_ [(.int .i64 (-1))] (by simp) (by kernel_rfl) (p_one rfl (l_sc (by kernel_rfl)) p_nil) (by kernel_rfl) (by kernel_rfl)
def m_slices_ContainsFunc_int_int : AC :=
  (.seq (.region [⟨(some 4), none, (.i (.mov (.cst (.bool false))))⟩] false [])
  (.seq (.region [⟨(some 5), none, (.i (.mov (.tmp 0)))⟩, ⟨(some 6), none, (.i (.mov (.tmp 1)))⟩, ⟨(some 7), none, (.call (.cst (.fn 92 [])) [(.tmp 5), (.tmp 6)] [[(some .int)], []])⟩, ⟨(some 8), none, (.i (.bin .geq (.tmp 7) (.cst (.int .i64 0))))⟩, ⟨(some 4), none, (.i (.mov (.tmp 8)))⟩] false [])
  .ret))
def r_slices_ContainsFunc_int_int : List Res := [.tmp 4]
theorem c_slices_ContainsFunc_int_int : compiled Tryd.prog Tryd.f95 = some (m_slices_ContainsFunc_int_int, r_slices_ContainsFunc_int_int) := by kernel_rfl
theorem hb_slices_ContainsFunc_int_int : hasBody Tryd.prog 95 = true := by kernel_rfl
def L_slices_ContainsFunc_int_int_for_impl_Circuit_schedule_1_1 (a0 : List Int) (a1_0_0 : List (Int × Bool)) : Option Bool :=
  Option.bind (L_slices_IndexFunc_int_int_for_impl_Circuit_schedule_1_1 a0 a1_0_0) fun y3 =>
some (decide (0 ≤ y3))
def rv_slices_ContainsFunc_int_int_for_impl_Circuit_schedule_1_1 (r : Bool) : RV := ⟨false, [(false, [.sc (.bool r)])]⟩
theorem ok_slices_ContainsFunc_int_int_for_impl_Circuit_schedule_1_1 {a0 : List Int} {a1_0_0 : List (Int × Bool)} {r : Bool} (h : L_slices_ContainsFunc_int_int_for_impl_Circuit_schedule_1_1 a0 a1_0_0 = some r) : CallOK Tryd.prog Tab 95 [(.tree .int a0), (.fn 96 [(.ref [(.mtree 94 .bool a1_0_0)])])] (rv_slices_ContainsFunc_int_int_for_impl_Circuit_schedule_1_1 r) := by
  refine call_of_ (by kernel_rfl) Tryd.func95 c_slices_ContainsFunc_int_int (n := 9) (by kernel_rfl) (by simp) (tl := [(0, (.tree .int a0)), (1, (.fn 96 [(.ref [(.mtree 94 .bool a1_0_0)])]))]) rfl ?_
  unfold m_slices_ContainsFunc_int_int
  unfold L_slices_ContainsFunc_int_int_for_impl_Circuit_schedule_1_1 at h
  refine awp_seq_ ?_
  refine awp_region_ 2 (by kernel_rfl) ?_
  refine rs0 (.bool false) (by kernel_rfl) ?_
  refine rnil (tn_ ?_)
  refine awp_seq_ ?_
  obtain ⟨y3, h3, h⟩ := ob_some h
  refine awp_region_ 7 (by kernel_rfl) ?_
  refine rs0 (.tree .int a0) (by kernel_rfl) ?_
  refine rs0 (.fn 96 [(.ref [(.mtree 94 .bool a1_0_0)])]) (by kernel_rfl) ?_
  refine rcall (.int .i64 y3) [] [(.tree .int a0), (.fn 96 [(.ref [(.mtree 94 .bool a1_0_0)])])] _ (caps := []) (args0 := [(.tree .int a0), (.fn 96 [(.ref [(.mtree 94 .bool a1_0_0)])])]) trivial (by kernel_rfl) (by kernel_rfl) (by kernel_rfl) (by kernel_rfl) (ok_slices_IndexFunc_int_int_for_impl_Circuit_schedule_1_1 h3) hb_slices_IndexFunc_int_int (by kernel_rfl) ?_
  refine rs0 (.bool (decide (0 ≤ y3))) (by kernel_rfl) ?_
  refine rs0 (.bool (decide (0 ≤ y3))) (by kernel_rfl) ?_
  refine rnil (tn_ ?_)
  refine awp_ret_ ?_
  obtain rfl := Option.some.inj h
  exact ret_ [(.bool (decide (0 ≤ y3)))] (by simp) (by kernel_rfl) (p_one rfl (l_sc (by kernel_rfl)) p_nil) (by kernel_rfl) (by kernel_rfl)
def m_impl_Circuit_schedule_1 : AC :=
  (.seq (.region [⟨(some 4), none, (.i (.mov (.cst (.bool false))))⟩] false [])
  (.seq (.region [⟨(some 5), none, (.i (.ld true 1 (.tmp 1)))⟩, ⟨(some 6), none, (.i (.mov (.tmp 0)))⟩, ⟨(some 7), none, (.i (.look 94 false (.tmp 5) (.tmp 6)))⟩, ⟨(some 8), none, (.i (.mov (.tmp 7)))⟩, ⟨(some 9), (some (8, true)), (.i (.fld 1 (.tmp 2)))⟩, ⟨(some 10), (some (8, true)), (.i (.ld true 1 (.tmp 9)))⟩, ⟨(some 11), (some (8, true)), (.i (.mov (.tmp 0)))⟩, ⟨(some 12), (some (8, true)), (.i (.idx 4 (.tmp 10) (.tmp 11)))⟩, ⟨(some 13), (some (8, true)), (.i (.ld false 4 (.tmp 12)))⟩, ⟨(some 14), (some (8, true)), (.call (.cst (.fn 91 [])) [(.tmp 13)] [[none, none, none, none]])⟩, ⟨(some 15), (some (8, true)), (.i (.mkfn 96 [(.tmp 1)]))⟩, ⟨(some 16), (some (8, true)), (.call (.cst (.fn 95 [])) [(.tmp 14), (.tmp 15)] [[(some .int)], []])⟩, ⟨(some 17), (some (8, true)), (.i (.not (.tmp 16)))⟩, ⟨(some 18), none, (.i (.pick (.tmp 8) (.tmp 17) (.cst (.bool false))))⟩, ⟨(some 4), none, (.i (.mov (.tmp 18)))⟩] false [])
  .ret))
def r_impl_Circuit_schedule_1 : List Res := [.tmp 4]
theorem c_impl_Circuit_schedule_1 : compiled Tryd.prog Tryd.f94 = some (m_impl_Circuit_schedule_1, r_impl_Circuit_schedule_1) := by kernel_rfl
theorem hb_impl_Circuit_schedule_1 : hasBody Tryd.prog 94 = true := by kernel_rfl
def L_impl_Circuit_schedule_1 (a0 : Int) (c0_0 : List (Int × Bool)) (c1_0 : Int) (c1_1 : List (Int × Int × Int × Int)) (c1_2 : List Int) : Option Bool :=
  Option.bind (og (i64R a0) <|
  cond ((mget c0_0 a0).getD false)
    (Option.bind (getI c1_1 a0) fun x5 =>
    Option.bind (L_impl_Gate_needs x5.1 x5.2.1 x5.2.2.1 x5.2.2.2) fun y6 =>
    Option.bind (L_slices_ContainsFunc_int_int_for_impl_Circuit_schedule_1_1 y6 c0_0) fun y7 =>
    some (!y7))
    (some false)) fun l2_m4 =>
some l2_m4
def rv_impl_Circuit_schedule_1 (r : Bool) : RV := ⟨false, [(false, [.sc (.bool r)])]⟩
theorem ok_impl_Circuit_schedule_1 {a0 : Int} {c0_0 : List (Int × Bool)} {c1_0 : Int} {c1_1 : List (Int × Int × Int × Int)} {c1_2 : List Int} {r : Bool} (h : L_impl_Circuit_schedule_1 a0 c0_0 c1_0 c1_1 c1_2 = some r) : CallOK Tryd.prog Tab 94 [(.int .i64 a0), (.ref [(.mtree 94 .bool c0_0)]), (.ref [(.int .i64 c1_0), (.tree (.pair .int (.pair .int (.pair .int .int))) c1_1), (.tree .int c1_2)])] (rv_impl_Circuit_schedule_1 r) := by
  refine call_of_ (by kernel_rfl) Tryd.func94 c_impl_Circuit_schedule_1 (n := 19) (by kernel_rfl) (by simp) (tl := [(0, (.int .i64 a0)), (1, (.ref [(.mtree 94 .bool c0_0)])), (2, (.ref [(.int .i64 c1_0), (.tree (.pair .int (.pair .int (.pair .int .int))) c1_1), (.tree .int c1_2)]))]) rfl ?_
  unfold m_impl_Circuit_schedule_1
  unfold L_impl_Circuit_schedule_1 at h
  refine awp_seq_ ?_
  refine awp_region_ 2 (by kernel_rfl) ?_
  refine rs0 (.bool false) (by kernel_rfl) ?_
  refine rnil (tn_ ?_)
  refine awp_seqB h (fun (l2_m4 : Bool) S_ => S_ = ⟨mkTm [(4, (.bool l2_m4))], mkOb (someL []), 2⟩) ?_ ?_
  · intro v_ h
    obtain ⟨g3, h⟩ := og_some h
    rcases cond_some h with ⟨q4, h⟩ | ⟨q4, h⟩
    · obtain ⟨x5, f5, h⟩ := ob_some h
      obtain ⟨p5, b5, e5⟩ := getI_some f5
      obtain ⟨y6, h6, h⟩ := ob_some h
      obtain ⟨y7, h7, h⟩ := ob_some h
      refine awp_region_ 17 (by kernel_rfl) ?_
      refine rs0 (.mtree 94 .bool c0_0) (by kernel_rfl) ?_
      refine rs0 (.int .i64 a0) (by kernel_rfl) ?_
      refine rs0 (.bool ((mget c0_0 a0).getD false)) (s_lookT (t := .bool) (es := c0_0) (k := a0) (by kernel_rfl) (by kernel_rfl) g3) ?_
      refine rs0 (.bool ((mget c0_0 a0).getD false)) (by kernel_rfl) ?_
      refine rs0 (.ref [(.tree (.pair .int (.pair .int (.pair .int .int))) c1_1), (.tree .int c1_2)]) (s_gd (by kernel_rfl) q4 (by kernel_rfl)) ?_
      refine rs0 (.tree (.pair .int (.pair .int (.pair .int .int))) c1_1) (s_gd (by kernel_rfl) q4 (by kernel_rfl)) ?_
      refine rs0 (.int .i64 a0) (s_gd (by kernel_rfl) q4 (by kernel_rfl)) ?_
      refine rs0 (.telt (.pair .int (.pair .int (.pair .int .int))) x5 0) (s_gd (by kernel_rfl) q4 (s_idxT (t := (.pair .int (.pair .int (.pair .int .int)))) (xs := c1_1) (k := .i64) (m := a0) (by kernel_rfl) (by kernel_rfl) rfl p5 rfl e5)) ?_
      refine rs0 (.agg [(.int .i64 x5.1), (.int .i64 x5.2.1), (.int .i64 x5.2.2.1), (.int .i64 x5.2.2.2)]) (s_gd (by kernel_rfl) q4 (by kernel_rfl)) ?_
      refine rcall (.own (224, 11) .int 0 y6.length) [((224, 11), some (.arr 3 .int y6))] [(.agg [(.int .i64 x5.1), (.int .i64 x5.2.1), (.int .i64 x5.2.2.1), (.int .i64 x5.2.2.2)])] _ (caps := []) (args0 := [(.agg [(.int .i64 x5.1), (.int .i64 x5.2.1), (.int .i64 x5.2.2.1), (.int .i64 x5.2.2.2)])]) (gdOK_b (by kernel_rfl) q4) (by kernel_rfl) (by kernel_rfl) (by kernel_rfl) (by kernel_rfl) (ok_impl_Gate_needs h6) hb_impl_Gate_needs (by kernel_rfl) ?_
      refine rs0 (.fn 96 [(.ref [(.mtree 94 .bool c0_0)])]) (s_gd (by kernel_rfl) q4 (by kernel_rfl)) ?_
      refine rcall (.bool y7) [] [(.own (224, 11) .int 0 y6.length), (.fn 96 [(.ref [(.mtree 94 .bool c0_0)])])] _ (caps := []) (args0 := [(.tree .int y6), (.fn 96 [(.ref [(.mtree 94 .bool c0_0)])])]) (gdOK_b (by kernel_rfl) q4) (by kernel_rfl) (by kernel_rfl) (gm_cons (gd_own (e := 3) (by kernel_rfl) rfl) (gm_cons (by kernel_rfl) gm_nil)) (by kernel_rfl) (ok_slices_ContainsFunc_int_int_for_impl_Circuit_schedule_1_1 h7) hb_slices_ContainsFunc_int_int (by kernel_rfl) ?_
      refine rs0 (.bool (!y7)) (s_gd (by kernel_rfl) q4 (by kernel_rfl)) ?_
      refine rs0 (.bool (!y7)) (s_pickT (by kernel_rfl) q4) ?_
      refine rs0 (.bool (!y7)) (by kernel_rfl) ?_
      refine rnil (tn_ ?_)
      obtain rfl := Option.some.inj h
      exact ⟨_, (weak_ren (renF []) (by kernel_rfl) (by kernel_rfl) (by kernel_rfl)), rfl⟩
    · refine awp_region_ 17 (by kernel_rfl) ?_
      refine rs0 (.mtree 94 .bool c0_0) (by kernel_rfl) ?_
      refine rs0 (.int .i64 a0) (by kernel_rfl) ?_
      refine rs0 (.bool ((mget c0_0 a0).getD false)) (s_lookT (t := .bool) (es := c0_0) (k := a0) (by kernel_rfl) (by kernel_rfl) g3) ?_
      refine rs0 (.bool ((mget c0_0 a0).getD false)) (by kernel_rfl) ?_
      refine rs0 (.tup []) (s_skip (by kernel_rfl) q4) ?_
      refine rs0 (.tup []) (s_skip (by kernel_rfl) q4) ?_
      refine rs0 (.tup []) (s_skip (by kernel_rfl) q4) ?_
      refine rs0 (.tup []) (s_skip (by kernel_rfl) q4) ?_
      refine rs0 (.tup []) (s_skip (by kernel_rfl) q4) ?_
      refine rs0 (.tup []) (s_skip (by kernel_rfl) q4) ?_
      refine rs0 (.tup []) (s_skip (by kernel_rfl) q4) ?_
      refine rs0 (.tup []) (s_skip (by kernel_rfl) q4) ?_
      refine rs0 (.tup []) (s_skip (by kernel_rfl) q4) ?_
      refine rs0 (.bool false) (s_pickF (by kernel_rfl) q4) ?_
      refine rs0 (.bool false) (by kernel_rfl) ?_
      refine rnil (tn_ ?_)
      obtain rfl := Option.some.inj h
      exact ⟨_, (weak_ren (renF []) (by kernel_rfl) (by kernel_rfl) (by kernel_rfl)), rfl⟩
  · rintro l2_m4 _ rfl h
    (try dsimp only at h)
    refine awp_ret_ ?_
    obtain rfl := Option.some.inj h
    exact ret_ [(.bool l2_m4)] (by simp) (by kernel_rfl) (p_one rfl (l_sc (by kernel_rfl)) p_nil) (by kernel_rfl) (by kernel_rfl)
def L_slices_IndexFunc_int_int_for_impl_Circuit_schedule_1_l1 (a0 : List Int) (a1_0_0 : List (Int × Bool)) (a1_1_0 : Int) (a1_1_1 : List (Int × Int × Int × Int)) (a1_1_2 : List Int) (l4_m8 : Nat) : Option (Ctl Nat (Ctl Unit Int)) :=
  cond (decide (((l4_m8 : Nat) : Int) < ((a0.length : Nat) : Int)))
  (Option.bind (a0[l4_m8]?) fun x11 =>
  Option.bind (L_impl_Circuit_schedule_1 x11 a1_0_0 a1_1_0 a1_1_1 a1_1_2) fun y12 =>
  cond y12
    (some (Ctl.out (Ctl.out ((l4_m8 : Nat) : Int))))
    (og (l4_m8 + 1 < 4611686018427387904) <|
    some (Ctl.next (l4_m8 + 1))))
  (some (Ctl.out (Ctl.next ())))
def L_slices_IndexFunc_int_int_for_impl_Circuit_schedule_1 (a0 : List Int) (a1_0_0 : List (Int × Bool)) (a1_1_0 : Int) (a1_1_1 : List (Int × Int × Int × Int)) (a1_1_2 : List Int) : Option Int :=
  seqC (loopM (fun s_ : Nat => L_slices_IndexFunc_int_int_for_impl_Circuit_schedule_1_l1 a0 a1_0_0 a1_1_0 a1_1_1 a1_1_2 s_) 4611686018427387904 0) fun _ =>
some (-1)
def rv_slices_IndexFunc_int_int_for_impl_Circuit_schedule_1 (r : Int) : RV := ⟨false, [(false, [.sc (.int .i64 r)])]⟩
theorem ok_slices_IndexFunc_int_int_for_impl_Circuit_schedule_1 {a0 : List Int} {a1_0_0 : List (Int × Bool)} {a1_1_0 : Int} {a1_1_1 : List (Int × Int × Int × Int)} {a1_1_2 : List Int} {r : Int} (h : L_slices_IndexFunc_int_int_for_impl_Circuit_schedule_1 a0 a1_0_0 a1_1_0 a1_1_1 a1_1_2 = some r) : CallOK Tryd.prog Tab 92 [(.tree .int a0), (.fn 94 [(.ref [(.mtree 94 .bool a1_0_0)]), (.ref [(.int .i64 a1_1_0), (.tree (.pair .int (.pair .int (.pair .int .int))) a1_1_1), (.tree .int a1_1_2)])])] (rv_slices_IndexFunc_int_int_for_impl_Circuit_schedule_1 r) := by
  refine call_of_ (by kernel_rfl) Tryd.func92 c_slices_IndexFunc_int_int (n := 19) (by kernel_rfl) (by simp) (tl := [(0, (.tree .int a0)), (1, (.fn 94 [(.ref [(.mtree 94 .bool a1_0_0)]), (.ref [(.int .i64 a1_1_0), (.tree (.pair .int (.pair .int (.pair .int .int))) a1_1_1), (.tree .int a1_1_2)])]))]) rfl ?_
  unfold m_slices_IndexFunc_int_int
  unfold L_slices_IndexFunc_int_int_for_impl_Circuit_schedule_1 at h
  refine awp_seq_ ?_
  refine awp_region_ 2 (by kernel_rfl) ?_
  refine rs0 (.int .i64 0) (by kernel_rfl) ?_
  refine rnil (tn_ ?_)
  refine awp_seqC h (fun (_ : Unit) S_ => S_ = ⟨mkTm [], mkOb (someL []), 2⟩) ?_ ?_
  · intro v_ h hk2
    refine awp_seq_ ?_
    refine awp_region_ 5 (by kernel_rfl) ?_
    refine rs0 (.tree .int a0) (by kernel_rfl) ?_
    refine rs0 (.int .i64 ((a0.length : Nat) : Int)) (by kernel_rfl) ?_
    refine rs0 (.int .i64 0) (by kernel_rfl) ?_
    refine rnil (tn_ ?_)
    refine awp_block_ ?_
    refine awp_loopL h (fun (l4_m8 : Nat) S_ => S_ = ⟨mkTm [(0, (.tree .int a0)), (1, (.fn 94 [(.ref [(.mtree 94 .bool a1_0_0)]), (.ref [(.int .i64 a1_1_0), (.tree (.pair .int (.pair .int (.pair .int .int))) a1_1_1), (.tree .int a1_1_2)])])), (7, (.int .i64 ((a0.length : Nat) : Int))), (8, (.int .i64 ((l4_m8 : Nat) : Int)))], mkOb (someL []), 2⟩) ⟨_, (weak_ren (renF []) (by kernel_rfl) (by kernel_rfl) (by kernel_rfl)), rfl⟩ ?_
    · rintro n_ l4_m8 _ c_ rfl h hn4
      (try dsimp only at h)
      unfold L_slices_IndexFunc_int_int_for_impl_Circuit_schedule_1_l1 at h
      unfold m_slices_IndexFunc_int_int_l1
      refine awp_seq_ ?_
      refine awp_region_ 3 (by kernel_rfl) ?_
      refine rs0 (.bool (decide (((l4_m8 : Nat) : Int) < ((a0.length : Nat) : Int)))) (by kernel_rfl) ?_
      refine rnil (tn_ ?_)
      refine awp_seq_ ?_
      rcases cond_some h with ⟨q7, h⟩ | ⟨q7, h⟩
      · have q7_ := of_decide_eq_true q7
        refine awp_condT_ q7 (by kernel_rfl) ?_
        refine awp_skip_ (tn_ ?_)
        refine awp_seq_ ?_
        refine awp_block_ ?_
        refine awp_seq_ ?_
        refine awp_region_ 5 (by kernel_rfl) ?_
        refine rs0 (.int .i64 ((l4_m8 : Nat) : Int)) (by kernel_rfl) ?_
        refine rs0 (.int .i64 ((l4_m8 : Nat) : Int)) (by kernel_rfl) ?_
        refine rnil (tn_ ?_)
        refine awp_seq_ ?_
        obtain ⟨x11, e11, h⟩ := ob_some h
        obtain ⟨y12, h12, h⟩ := ob_some h
        refine awp_region_ 11 (by kernel_rfl) ?_
        refine rs0 (.fn 94 [(.ref [(.mtree 94 .bool a1_0_0)]), (.ref [(.int .i64 a1_1_0), (.tree (.pair .int (.pair .int (.pair .int .int))) a1_1_1), (.tree .int a1_1_2)])]) (by kernel_rfl) ?_
        refine rs0 (.tree .int a0) (by kernel_rfl) ?_
        refine rs0 (.int .i64 ((l4_m8 : Nat) : Int)) (by kernel_rfl) ?_
        refine rs0 (.telt .int x11 0) (s_idxT (t := .int) (xs := a0) (k := .i64) (m := ((l4_m8 : Nat) : Int)) (by kernel_rfl) (by kernel_rfl) rfl (nat_nn _) rfl e11) ?_
        refine rs0 (.int .i64 x11) (by kernel_rfl) ?_
        refine rcall (.bool y12) [] [(.int .i64 x11), (.ref [(.mtree 94 .bool a1_0_0)]), (.ref [(.int .i64 a1_1_0), (.tree (.pair .int (.pair .int (.pair .int .int))) a1_1_1), (.tree .int a1_1_2)])] _ (caps := [(.ref [(.mtree 94 .bool a1_0_0)]), (.ref [(.int .i64 a1_1_0), (.tree (.pair .int (.pair .int (.pair .int .int))) a1_1_1), (.tree .int a1_1_2)])]) (args0 := [(.int .i64 x11), (.ref [(.mtree 94 .bool a1_0_0)]), (.ref [(.int .i64 a1_1_0), (.tree (.pair .int (.pair .int (.pair .int .int))) a1_1_1), (.tree .int a1_1_2)])]) trivial (by kernel_rfl) (by kernel_rfl) (by kernel_rfl) (by kernel_rfl) (ok_impl_Circuit_schedule_1 h12) hb_impl_Circuit_schedule_1 (by kernel_rfl) ?_
        refine rnil (tn_ ?_)
        rcases cond_some h with ⟨q13, h⟩ | ⟨q13, h⟩
        · refine awp_condT_ q13 (by kernel_rfl) ?_
          refine awp_seq_ ?_
          refine awp_region_ 13 (by kernel_rfl) ?_
          refine rs0 (.int .i64 ((l4_m8 : Nat) : Int)) (by kernel_rfl) ?_
          refine rs0 (.int .i64 ((l4_m8 : Nat) : Int)) (by kernel_rfl) ?_
          refine rnil (tn_ ?_)
          refine awp_ret_ (br_ (tr_ (tr_ (br_ (tr_ ?_)))))
          obtain rfl := Option.some.inj h
          have h := hn4
          (try dsimp only at h)
          obtain rfl := Option.some.inj h
          have h := hk2
          (try dsimp only at h)
          obtain rfl := Option.some.inj h
          exact ret_ [(.int .i64 ((l4_m8 : Nat) : Int))] (by simp) (by kernel_rfl) (p_one rfl (l_sc (by kernel_rfl)) p_nil) (by kernel_rfl) (by kernel_rfl)
        · refine awp_condF_ q13 (by kernel_rfl) ?_
          refine awp_skip_ (bn_ (tn_ ?_))
          obtain ⟨g15, h⟩ := og_some h
          refine awp_region_ 13 (by kernel_rfl) ?_
          refine rs0 (.int .i64 ((l4_m8 + 1 : Nat) : Int)) (s_add1 (j := l4_m8) (by kernel_rfl) (by kernel_rfl) g15) ?_
          refine rs0 (.int .i64 ((l4_m8 + 1 : Nat) : Int)) (by kernel_rfl) ?_
          refine rnil (tn_ ?_)
          obtain rfl := Option.some.inj h
          exact ⟨l4_m8 + 1, _, (weak_ren (renF []) (by kernel_rfl) (by kernel_rfl) (by kernel_rfl)), rfl, hn4⟩
      · have q7_ := of_decide_eq_false q7
        refine awp_condF_ q7 (by kernel_rfl) ?_
        refine awp_exit_ (te_ (te_ (be_ (tn_ ?_))))
        obtain rfl := Option.some.inj h
        have h := hn4
        (try dsimp only at h)
        obtain rfl := Option.some.inj h
        exact ⟨(), _, rfl, (weak_ren (renF []) (by kernel_rfl) (by kernel_rfl) (by kernel_rfl)), rfl⟩
  · rintro _ _ rfl h
    (try dsimp only at h)
    refine awp_seq_ ?_
    refine awp_region_ 3 (by kernel_rfl) ?_
    refine rs0 (.int .i64 (-1)) (by kernel_rfl) ?_
    refine rnil (tn_ ?_)
    refine awp_ret_ ?_
    obtain rfl := Option.some.inj h
    exact ret_ [(.int .i64 (-1))] (by simp) (by kernel_rfl) (p_one rfl (l_sc (by kernel_rfl)) p_nil) (by kernel_rfl) (by kernel_rfl)
def m_impl_Circuit_schedule_l2 : AC :=
  (.seq (.seq (.region [⟨(some 26), none, (.i (.ld true 1 (.tmp 4)))⟩, ⟨(some 27), none, (.i (.lenM 94 (.tmp 26)))⟩, ⟨(some 28), none, (.i (.bin .gtr (.tmp 27) (.cst (.int .i64 0))))⟩] false [])
  (.cond (.tmp 28)
    .skip
    (.exit 2)))
  (.block 3 (.seq (.region [⟨(some 29), none, (.i (.fld 1 (.tmp 1)))⟩, ⟨(some 30), none, (.i (.ld true 1 (.tmp 29)))⟩, ⟨(some 31), none, (.i (.len (.tmp 30)))⟩, ⟨(some 32), none, (.call (.cst (.fn 93 [])) [(.tmp 31)] [[]])⟩, ⟨(some 33), none, (.i (.mkfn 94 [(.tmp 4), (.tmp 1)]))⟩, ⟨(some 34), none, (.call (.cst (.fn 92 [])) [(.tmp 32), (.tmp 33)] [[(some .int)], []])⟩, ⟨(some 8), none, (.i (.mov (.tmp 34)))⟩] false [])
  (.seq (.seq (.region [⟨(some 35), none, (.i (.mov (.tmp 8)))⟩, ⟨(some 36), none, (.i (.bin .lss (.tmp 35) (.cst (.int .i64 0))))⟩] false [])
  (.cond (.tmp 36)
    (.seq (.region [⟨(some 2), none, (.i (.mov (.cst .nils)))⟩, ⟨(some 3), none, (.i (.mov (.cst (.bool false))))⟩] false [])
    .ret)
    .skip))
  (.seq (.region [⟨(some 37), none, (.i (.ld true 1 (.tmp 4)))⟩, ⟨(some 38), none, (.i (.mov (.tmp 8)))⟩, ⟨none, none, (.del 94 (.tmp 37) (.tmp 38))⟩] false [])
  (.region [⟨(some 39), none, (.i (.mov (.tmp 7)))⟩, ⟨(some 40), none, (.i (.mov (.tmp 8)))⟩, ⟨(some 41), none, (.mkS 3 .int [(.tmp 40)])⟩, ⟨(some 42), none, (.append 3 .int 8 (.tmp 39) (.tmp 41))⟩, ⟨(some 7), none, (.i (.mov (.tmp 42)))⟩] false []))))))
def m_impl_Circuit_schedule_l1 : AC :=
  (.seq (.region [⟨(some 14), none, (.i (.bin .lss (.tmp 13) (.tmp 12)))⟩] false [])
  (.seq (.cond (.tmp 14)
    .skip
    (.exit 0))
  (.seq (.block 1 (.seq (.region [⟨(some 15), none, (.i (.mov (.tmp 13)))⟩, ⟨(some 16), none, (.i (.idx 4 (.tmp 11) (.tmp 13)))⟩, ⟨(some 17), none, (.i (.ld false 4 (.tmp 16)))⟩, ⟨(some 6), none, (.i (.alloc 51 [(.int .i64 0), (.int .i64 0), (.int .i64 0), (.int .i64 0)]))⟩, ⟨(some 5), none, (.i (.mov (.tmp 15)))⟩, ⟨none, none, (.st false 4 (.tmp 6) (.tmp 17))⟩] false [])
  (.seq (.region [⟨(some 18), none, (.i (.ld false 4 (.tmp 6)))⟩, ⟨(some 19), none, (.call (.cst (.fn 91 [])) [(.tmp 18)] [[none, none, none, none]])⟩, ⟨(some 20), none, (.i (.len (.tmp 19)))⟩, ⟨(some 21), none, (.i (.bin .gtr (.tmp 20) (.cst (.int .i64 0))))⟩] false [])
  (.cond (.tmp 21)
    (.region [⟨(some 22), none, (.i (.ld true 1 (.tmp 4)))⟩, ⟨(some 23), none, (.i (.mov (.tmp 5)))⟩, ⟨none, none, (.upd 94 (.tmp 22) (.tmp 23) (.cst (.bool true)))⟩] false [])
    .skip))))
  (.region [⟨(some 24), none, (.i (.bin .add (.tmp 13) (.cst (.int .i64 1))))⟩, ⟨(some 13), none, (.i (.mov (.tmp 24)))⟩] false []))))
def m_impl_Circuit_schedule : AC :=
  (.seq (.region [⟨(some 1), none, (.i (.box 31 (.tmp 0)))⟩, ⟨(some 2), none, (.i (.mov (.cst .nils)))⟩, ⟨(some 3), none, (.i (.mov (.cst (.bool false))))⟩] false [])
  (.seq (.region [⟨(some 9), none, (.makeM 94 .bool)⟩, ⟨(some 4), none, (.i (.alloc 94 [.any]))⟩, ⟨none, none, (.st true 1 (.tmp 4) (.tmp 9))⟩] false [])
  (.seq (.seq (.region [⟨(some 10), none, (.i (.fld 1 (.tmp 1)))⟩, ⟨(some 11), none, (.i (.ld true 1 (.tmp 10)))⟩, ⟨(some 12), none, (.i (.len (.tmp 11)))⟩, ⟨(some 13), none, (.i (.mov (.cst (.int .i64 0))))⟩] false [])
  (.block 0 (.loop m_impl_Circuit_schedule_l1)))
  (.seq (.region [⟨(some 25), none, (.mkS 3 .int [])⟩, ⟨(some 7), none, (.i (.mov (.tmp 25)))⟩] false [])
  (.seq (.block 2 (.loop m_impl_Circuit_schedule_l2))
  (.seq (.region [⟨(some 43), none, (.i (.mov (.tmp 7)))⟩, ⟨(some 2), none, (.i (.mov (.tmp 43)))⟩, ⟨(some 3), none, (.i (.mov (.cst (.bool true))))⟩] false [])
  .ret))))))
def r_impl_Circuit_schedule : List Res := [.tmp 2, .tmp 3]
theorem c_impl_Circuit_schedule : compiled Tryd.prog Tryd.f77 = some (m_impl_Circuit_schedule, r_impl_Circuit_schedule) := by kernel_rfl
theorem hb_impl_Circuit_schedule : hasBody Tryd.prog 77 = true := by kernel_rfl
def L_impl_Circuit_schedule_l1 (a0_1 : List (Int × Int × Int × Int)) (l5_m13 : Nat) (l5_m4_0 : List (Int × Bool)) : Option (Ctl (Nat × (List (Int × Bool))) (List (Int × Bool))) :=
  cond (decide (((l5_m13 : Nat) : Int) < ((a0_1.length : Nat) : Int)))
  (Option.bind (Option.bind (a0_1[l5_m13]?) fun x11 =>
    Option.bind (L_impl_Gate_needs x11.1 x11.2.1 x11.2.2.1 x11.2.2.2) fun y13 =>
    cond (decide (0 < ((y13.length : Nat) : Int)))
      (og (i64R ((l5_m13 : Nat) : Int) ∧ l5_m4_0.length < 1073741824) <|
      some (mput l5_m4_0 ((l5_m13 : Nat) : Int) true))
      (some l5_m4_0)) fun l9_m4_0 =>
  og (l5_m13 + 1 < 4611686018427387904) <|
  some (Ctl.next (l5_m13 + 1, l9_m4_0)))
  (some (Ctl.out l5_m4_0))
def L_impl_Circuit_schedule_l2 (a0_1 : List (Int × Int × Int × Int)) (a0_0 : Int) (a0_2 : List Int) (l19_m7 : List Int) (l19_m4_0 : List (Int × Bool)) : Option (Ctl (List Int × (List (Int × Bool))) (Ctl (List Int) (List Int × Bool))) :=
  cond (decide (0 < ((l19_m4_0.length : Nat) : Int)))
  (Option.bind (L_impl_upTo ((a0_1.length : Nat) : Int)) fun y24 =>
  Option.bind (L_slices_IndexFunc_int_int_for_impl_Circuit_schedule_1 y24 l19_m4_0 a0_0 a0_1 a0_2) fun y25 =>
  cond (decide (y25 < 0))
    (some (Ctl.out (Ctl.out ([], false))))
    (og (i64R y25) <|
    og (l19_m7.length + 1 ≤ 1073741824 ∧ (l19_m7.length + 1) * 8 ≤ 140737488355328) <|
    some (Ctl.next (l19_m7 ++ ([y25]), mdel l19_m4_0 y25))))
  (some (Ctl.out (Ctl.next l19_m7)))
def L_impl_Circuit_schedule (a0_0 : Int) (a0_1 : List (Int × Int × Int × Int)) (a0_2 : List Int) : Option (List Int × Bool) :=
  Option.bind (loopM (fun s_ : Nat × (List (Int × Bool)) => L_impl_Circuit_schedule_l1 a0_1 s_.1 s_.2) 4611686018427387904 (0, [])) fun l3_m4_0 =>
seqC (loopM (fun s_ : List Int × (List (Int × Bool)) => L_impl_Circuit_schedule_l2 a0_1 a0_0 a0_2 s_.1 s_.2) 4611686018427387904 ([], l3_m4_0)) fun l18_m7 =>
some (l18_m7, true)
def rv_impl_Circuit_schedule (r : List Int × Bool) : RV := ⟨true, [(false, [.new 3 .int r.1]), (false, [.sc (.bool r.2)])]⟩
theorem ok_impl_Circuit_schedule {a0_0 : Int} {a0_1 : List (Int × Int × Int × Int)} {a0_2 : List Int} {r : List Int × Bool} (h : L_impl_Circuit_schedule a0_0 a0_1 a0_2 = some r) : CallOK Tryd.prog Tab 77 [(.agg [(.int .i64 a0_0), (.tree (.pair .int (.pair .int (.pair .int .int))) a0_1), (.tree .int a0_2)])] (rv_impl_Circuit_schedule r) := by
  refine call_of_ (by kernel_rfl) Tryd.func77 c_impl_Circuit_schedule (n := 44) (by kernel_rfl) (by simp) (tl := [(0, (.agg [(.int .i64 a0_0), (.tree (.pair .int (.pair .int (.pair .int .int))) a0_1), (.tree .int a0_2)]))]) rfl ?_
  unfold m_impl_Circuit_schedule
  unfold L_impl_Circuit_schedule at h
  refine awp_seq_ ?_
  refine awp_region_ 4 (by kernel_rfl) ?_
  refine rs1 (.box (1, 1) 0) (1, 1) (.cells 31 [(.int .i64 a0_0), (.tree (.pair .int (.pair .int (.pair .int .int))) a0_1), (.tree .int a0_2)]) (by kernel_rfl) ?_
  refine rs0 .nils (by kernel_rfl) ?_
  refine rs0 (.bool false) (by kernel_rfl) ?_
  refine rnil (tn_ ?_)
  refine awp_seq_ ?_
  refine awp_region_ 7 (by kernel_rfl) ?_
  refine rs1 (.mp (9, 4)) (9, 4) (.map 94 .bool []) (by kernel_rfl) ?_
  refine rs1 (.box (4, 5) 0) (4, 5) (.cells 94 [.any]) (by kernel_rfl) ?_
  refine rsn2 (4, 5) (4, 5) (.cells 94 [(.mp (9, 4))]) (by kernel_rfl) ?_
  refine rnil (tn_ ?_)
  refine awp_seqB h (fun (l3_m4_0 : List (Int × Bool)) S_ => S_ = ⟨mkTm [(1, (.box (0, 1) 0)), (4, (.box (1, 1) 0))], mkOb (someL [((0, 1), .cells 31 [(.int .i64 a0_0), (.tree (.pair .int (.pair .int (.pair .int .int))) a0_1), (.tree .int a0_2)]), ((1, 1), .cells 94 [(.mp (2, 1))]), ((2, 1), .map 94 .bool l3_m4_0)]), 2⟩) ?_ ?_
  · intro v_ h
    refine awp_seq_ ?_
    refine awp_region_ 11 (by kernel_rfl) ?_
    refine rs0 (.box (1, 1) 1) (by kernel_rfl) ?_
    refine rsl (.tree (.pair .int (.pair .int (.pair .int .int))) a0_1) (by kernel_rfl) ?_
    refine rs0 (.int .i64 ((a0_1.length : Nat) : Int)) (by kernel_rfl) ?_
    refine rs0 (.int .i64 0) (by kernel_rfl) ?_
    refine rnil (tn_ ?_)
    refine awp_block_ ?_
    refine awp_loopL h (fun t_ S_ => ∃ (l5_m13 : Nat), ∃ (l5_m4_0 : List (Int × Bool)), t_ = (l5_m13, l5_m4_0) ∧ S_ = ⟨mkTm [(1, (.box (0, 1) 0)), (4, (.box (1, 1) 0)), (11, (.tree (.pair .int (.pair .int (.pair .int .int))) a0_1)), (12, (.int .i64 ((a0_1.length : Nat) : Int))), (13, (.int .i64 ((l5_m13 : Nat) : Int)))], mkOb (someL [((0, 1), .cells 31 [(.int .i64 a0_0), (.tree (.pair .int (.pair .int (.pair .int .int))) a0_1), (.tree .int a0_2)]), ((1, 1), .cells 94 [(.mp (2, 1))]), ((2, 1), .map 94 .bool l5_m4_0)]), 2⟩) ⟨_, (weak_ren (renF [((0, 1), (1, 1)), ((1, 1), (4, 5)), ((2, 1), (9, 4))]) (by kernel_rfl) (by kernel_rfl) (by kernel_rfl)), ⟨0, [], rfl, rfl⟩⟩ ?_
    · rintro n_ _ _ c_ ⟨l5_m13, l5_m4_0, rfl, rfl⟩ h hn5
      (try dsimp only at h)
      unfold L_impl_Circuit_schedule_l1 at h
      unfold m_impl_Circuit_schedule_l1
      refine awp_seq_ ?_
      refine awp_region_ 3 (by kernel_rfl) ?_
      refine rs0 (.bool (decide (((l5_m13 : Nat) : Int) < ((a0_1.length : Nat) : Int)))) (by kernel_rfl) ?_
      refine rnil (tn_ ?_)
      refine awp_seq_ ?_
      rcases cond_some h with ⟨q8, h⟩ | ⟨q8, h⟩
      · have q8_ := of_decide_eq_true q8
        refine awp_condT_ q8 (by kernel_rfl) ?_
        refine awp_skip_ (tn_ ?_)
        refine awp_seqB h (fun (l9_m4_0 : List (Int × Bool)) S_ => S_ = ⟨mkTm [(1, (.box (0, 1) 0)), (4, (.box (1, 1) 0)), (11, (.tree (.pair .int (.pair .int (.pair .int .int))) a0_1)), (12, (.int .i64 ((a0_1.length : Nat) : Int))), (13, (.int .i64 ((l5_m13 : Nat) : Int)))], mkOb (someL [((0, 1), .cells 31 [(.int .i64 a0_0), (.tree (.pair .int (.pair .int (.pair .int .int))) a0_1), (.tree .int a0_2)]), ((1, 1), .cells 94 [(.mp (2, 1))]), ((2, 1), .map 94 .bool l9_m4_0)]), 2⟩) ?_ ?_
        · intro v_ h
          refine awp_block_ ?_
          refine awp_seq_ ?_
          obtain ⟨x11, e11, h⟩ := ob_some h
          refine awp_region_ 9 (by kernel_rfl) ?_
          refine rs0 (.int .i64 ((l5_m13 : Nat) : Int)) (by kernel_rfl) ?_
          refine rs0 (.telt (.pair .int (.pair .int (.pair .int .int))) x11 0) (s_idxT (t := (.pair .int (.pair .int (.pair .int .int)))) (xs := a0_1) (k := .i64) (m := ((l5_m13 : Nat) : Int)) (by kernel_rfl) (by kernel_rfl) rfl (nat_nn _) rfl e11) ?_
          refine rs0 (.agg [(.int .i64 x11.1), (.int .i64 x11.2.1), (.int .i64 x11.2.2.1), (.int .i64 x11.2.2.2)]) (by kernel_rfl) ?_
          refine rs1 (.box (6, 6) 0) (6, 6) (.cells 51 [(.int .i64 0), (.int .i64 0), (.int .i64 0), (.int .i64 0)]) (by kernel_rfl) ?_
          refine rs0 (.int .i64 ((l5_m13 : Nat) : Int)) (by kernel_rfl) ?_
          refine rsn2 (6, 6) (6, 6) (.cells 51 [(.int .i64 x11.1), (.int .i64 x11.2.1), (.int .i64 x11.2.2.1), (.int .i64 x11.2.2.2)]) (by kernel_rfl) ?_
          refine rnil (tn_ ?_)
          refine awp_seq_ ?_
          obtain ⟨y13, h13, h⟩ := ob_some h
          refine awp_region_ 13 (by kernel_rfl) ?_
          refine rsl (.agg [(.int .i64 x11.1), (.int .i64 x11.2.1), (.int .i64 x11.2.2.1), (.int .i64 x11.2.2.2)]) (by kernel_rfl) ?_
          refine rcall (.own (304, 10) .int 0 y13.length) [((304, 10), some (.arr 3 .int y13))] [(.agg [(.int .i64 x11.1), (.int .i64 x11.2.1), (.int .i64 x11.2.2.1), (.int .i64 x11.2.2.2)])] _ (caps := []) (args0 := [(.agg [(.int .i64 x11.1), (.int .i64 x11.2.1), (.int .i64 x11.2.2.1), (.int .i64 x11.2.2.2)])]) trivial (by kernel_rfl) (by kernel_rfl) (by kernel_rfl) (by kernel_rfl) (ok_impl_Gate_needs h13) hb_impl_Gate_needs (by kernel_rfl) ?_
          refine rs0 (.int .i64 ((y13.length : Nat) : Int)) (by kernel_rfl) ?_
          refine rs0 (.bool (decide (0 < ((y13.length : Nat) : Int)))) (by kernel_rfl) ?_
          refine rnil (tn_ ?_)
          rcases cond_some h with ⟨q14, h⟩ | ⟨q14, h⟩
          · have q14_ := of_decide_eq_true q14
            refine awp_condT_ q14 (by kernel_rfl) ?_
            obtain ⟨g15, h⟩ := og_some h
            refine awp_region_ 16 (by kernel_rfl) ?_
            refine rsl (.mp (2, 1)) (by kernel_rfl) ?_
            refine rs0 (.int .i64 ((l5_m13 : Nat) : Int)) (by kernel_rfl) ?_
            refine rsn2 (2, 1) (2, 1) (.map 94 .bool (mput l5_m4_0 ((l5_m13 : Nat) : Int) true)) (s_updB (es := l5_m4_0) (k := ((l5_m13 : Nat) : Int)) (nv := true) (by kernel_rfl) (by kernel_rfl) (by kernel_rfl) (by kernel_rfl) g15) ?_
            refine rnil (bn_ (tn_ ?_))
            obtain rfl := Option.some.inj h
            exact ⟨_, (weak_ren (renF []) (by kernel_rfl) (by kernel_rfl) (by kernel_rfl)), rfl⟩
          · have q14_ := of_decide_eq_false q14
            refine awp_condF_ q14 (by kernel_rfl) ?_
            refine awp_skip_ (bn_ (tn_ ?_))
            obtain rfl := Option.some.inj h
            exact ⟨_, (weak_ren (renF []) (by kernel_rfl) (by kernel_rfl) (by kernel_rfl)), rfl⟩
        · rintro l9_m4_0 _ rfl h
          (try dsimp only at h)
          obtain ⟨g16, h⟩ := og_some h
          refine awp_region_ 4 (by kernel_rfl) ?_
          refine rs0 (.int .i64 ((l5_m13 + 1 : Nat) : Int)) (s_add1 (j := l5_m13) (by kernel_rfl) (by kernel_rfl) g16) ?_
          refine rs0 (.int .i64 ((l5_m13 + 1 : Nat) : Int)) (by kernel_rfl) ?_
          refine rnil (tn_ ?_)
          obtain rfl := Option.some.inj h
          exact ⟨(l5_m13 + 1, l9_m4_0), _, (weak_ren (renF []) (by kernel_rfl) (by kernel_rfl) (by kernel_rfl)), ⟨l5_m13 + 1, l9_m4_0, rfl, rfl⟩, hn5⟩
      · have q8_ := of_decide_eq_false q8
        refine awp_condF_ q8 (by kernel_rfl) ?_
        refine awp_exit_ (te_ (te_ (be_ (tn_ ?_))))
        obtain rfl := Option.some.inj h
        have h := hn5
        (try dsimp only at h)
        obtain rfl := Option.some.inj h
        exact ⟨_, (weak_ren (renF []) (by kernel_rfl) (by kernel_rfl) (by kernel_rfl)), rfl⟩
  · rintro l3_m4_0 _ rfl h
    (try dsimp only at h)
    refine awp_seq_ ?_
    refine awp_region_ 4 (by kernel_rfl) ?_
    refine rs1 (.own (25, 2) .int 0 0) (25, 2) (.arr 3 .int []) (by kernel_rfl) ?_
    refine rs0 (.own (25, 2) .int 0 0) (by kernel_rfl) ?_
    refine rnil (tn_ ?_)
    refine awp_seqC h (fun (l18_m7 : List Int) S_ => S_ = ⟨mkTm [(7, (.own (0, 1) .int 0 l18_m7.length))], mkOb (someL [((0, 1), .arr 3 .int l18_m7)]), 2⟩) ?_ ?_
    · intro v_ h hk18
      refine awp_block_ ?_
      refine awp_loopL h (fun t_ S_ => ∃ (l19_m7 : List Int), ∃ (l19_m4_0 : List (Int × Bool)), t_ = (l19_m7, l19_m4_0) ∧ S_ = ⟨mkTm [(1, (.box (0, 1) 0)), (4, (.box (1, 1) 0)), (7, (.own (2, 1) .int 0 l19_m7.length))], mkOb (someL [((0, 1), .cells 31 [(.int .i64 a0_0), (.tree (.pair .int (.pair .int (.pair .int .int))) a0_1), (.tree .int a0_2)]), ((1, 1), .cells 94 [(.mp (3, 1))]), ((2, 1), .arr 3 .int l19_m7), ((3, 1), .map 94 .bool l19_m4_0)]), 2⟩) ⟨_, (weak_ren (renF [((3, 1), (2, 1)), ((2, 1), (25, 2))]) (by kernel_rfl) (by kernel_rfl) (by kernel_rfl)), ⟨[], l3_m4_0, rfl, rfl⟩⟩ ?_
      · rintro n_ _ _ c_ ⟨l19_m7, l19_m4_0, rfl, rfl⟩ h hn19
        (try dsimp only at h)
        unfold L_impl_Circuit_schedule_l2 at h
        unfold m_impl_Circuit_schedule_l2
        refine awp_seq_ ?_
        refine awp_seq_ ?_
        refine awp_region_ 5 (by kernel_rfl) ?_
        refine rsl (.mp (3, 1)) (by kernel_rfl) ?_
        refine rsl (.int .i64 ((l19_m4_0.length : Nat) : Int)) (by kernel_rfl) ?_
        refine rs0 (.bool (decide (0 < ((l19_m4_0.length : Nat) : Int)))) (by kernel_rfl) ?_
        refine rnil (tn_ ?_)
        rcases cond_some h with ⟨q22, h⟩ | ⟨q22, h⟩
        · have q22_ := of_decide_eq_true q22
          refine awp_condT_ q22 (by kernel_rfl) ?_
          refine awp_skip_ (tn_ ?_)
          refine awp_block_ ?_
          refine awp_seq_ ?_
          obtain ⟨y24, h24, h⟩ := ob_some h
          obtain ⟨y25, h25, h⟩ := ob_some h
          refine awp_region_ 12 (by kernel_rfl) ?_
          refine rs0 (.box (0, 1) 1) (by kernel_rfl) ?_
          refine rsl (.tree (.pair .int (.pair .int (.pair .int .int))) a0_1) (by kernel_rfl) ?_
          refine rs0 (.int .i64 ((a0_1.length : Nat) : Int)) (by kernel_rfl) ?_
          refine rcall (.own (512, 8) .int 0 y24.length) [((512, 8), some (.arr 3 .int y24))] [(.int .i64 ((a0_1.length : Nat) : Int))] _ (caps := []) (args0 := [(.int .i64 ((a0_1.length : Nat) : Int))]) trivial (by kernel_rfl) (by kernel_rfl) (by kernel_rfl) (by kernel_rfl) (ok_impl_upTo h24) hb_impl_upTo (by kernel_rfl) ?_
          refine rs0 (.fn 94 [(.box (1, 1) 0), (.box (0, 1) 0)]) (by kernel_rfl) ?_
          refine rcall (.int .i64 y25) [] [(.own (512, 8) .int 0 y24.length), (.fn 94 [(.box (1, 1) 0), (.box (0, 1) 0)])] _ (caps := []) (args0 := [(.tree .int y24), (.fn 94 [(.ref [(.mtree 94 .bool l19_m4_0)]), (.ref [(.int .i64 a0_0), (.tree (.pair .int (.pair .int (.pair .int .int))) a0_1), (.tree .int a0_2)])])]) trivial (by kernel_rfl) (by kernel_rfl) (gm_cons (gd_own (e := 3) (by kernel_rfl) rfl) (gm_cons (by kernel_rfl) gm_nil)) (by kernel_rfl) (ok_slices_IndexFunc_int_int_for_impl_Circuit_schedule_1 h25) hb_slices_IndexFunc_int_int (by kernel_rfl) ?_
          refine rs0 (.int .i64 y25) (by kernel_rfl) ?_
          refine rnil (tn_ ?_)
          refine awp_seq_ ?_
          refine awp_seq_ ?_
          refine awp_region_ 14 (by kernel_rfl) ?_
          refine rs0 (.int .i64 y25) (by kernel_rfl) ?_
          refine rs0 (.bool (decide (y25 < 0))) (by kernel_rfl) ?_
          refine rnil (tn_ ?_)
          rcases cond_some h with ⟨q28, h⟩ | ⟨q28, h⟩
          · have q28_ := of_decide_eq_true q28
            refine awp_condT_ q28 (by kernel_rfl) ?_
            refine awp_seq_ ?_
            refine awp_region_ 16 (by kernel_rfl) ?_
            refine rs0 .nils (by kernel_rfl) ?_
            refine rs0 (.bool false) (by kernel_rfl) ?_
            refine rnil (tn_ ?_)
            refine awp_ret_ (tr_ (br_ (tr_ (br_ (tr_ ?_)))))
            obtain rfl := Option.some.inj h
            have h := hn19
            (try dsimp only at h)
            obtain rfl := Option.some.inj h
            have h := hk18
            (try dsimp only at h)
            obtain rfl := Option.some.inj h
            exact ret_ [.nils, (.bool false)] (by simp) (by kernel_rfl) (p_one rfl (l_nils rfl) (p_one rfl (l_sc (by kernel_rfl)) p_nil)) (by kernel_rfl) (by kernel_rfl)
          · have q28_ := of_decide_eq_false q28
            refine awp_condF_ q28 (by kernel_rfl) ?_
            refine awp_skip_ (tn_ ?_)
            refine awp_seq_ ?_
            obtain ⟨g31, h⟩ := og_some h
            refine awp_region_ 17 (by kernel_rfl) ?_
            refine rsl (.mp (3, 1)) (by kernel_rfl) ?_
            refine rs0 (.int .i64 y25) (by kernel_rfl) ?_
            refine rsn2 (3, 1) (3, 1) (.map 94 .bool (mdel l19_m4_0 y25)) (s_del (t := .bool) (es := l19_m4_0) (k := y25) (by kernel_rfl) (by kernel_rfl) (by kernel_rfl) g31) ?_
            refine rnil (tn_ ?_)
            obtain ⟨g32, h⟩ := og_some h
            refine awp_region_ 22 (by kernel_rfl) ?_
            refine rs0 (.own (2, 1) .int 0 l19_m7.length) (by kernel_rfl) ?_
            refine rs0 (.int .i64 y25) (by kernel_rfl) ?_
            refine rs1 (.own (41, 19) .int 0 1) (41, 19) (.arr 3 .int ([y25])) (by kernel_rfl) ?_
            refine rs2 (.own (2, 20) .int 0 ((l19_m7 ++ ([y25])).length)) (2, 1) (2, 20) (.arr 3 .int (l19_m7 ++ ([y25]))) (s_appO (t := .int) (t' := .int) (xs := l19_m7) (ys := [y25]) (zs := l19_m7 ++ ([y25])) (j := (2, 1)) (len := l19_m7.length) (c := (.own (41, 19) .int 0 1)) (by kernel_rfl) (by kernel_rfl) rfl (by kernel_rfl) (sr_own (e := 3) (by kernel_rfl) rfl) rfl g32) ?_
            refine rs0 (.own (2, 20) .int 0 ((l19_m7 ++ ([y25])).length)) (by kernel_rfl) ?_
            refine rnil (bn_ (tn_ ?_))
            obtain rfl := Option.some.inj h
            exact ⟨(l19_m7 ++ ([y25]), mdel l19_m4_0 y25), _, (weak_ren (renF [((2, 1), (2, 20))]) (by kernel_rfl) (by kernel_rfl) (by kernel_rfl)), ⟨l19_m7 ++ ([y25]), mdel l19_m4_0 y25, rfl, rfl⟩, hn19⟩
        · have q22_ := of_decide_eq_false q22
          refine awp_condF_ q22 (by kernel_rfl) ?_
          refine awp_exit_ (te_ (te_ (be_ (tn_ ?_))))
          obtain rfl := Option.some.inj h
          have h := hn19
          (try dsimp only at h)
          obtain rfl := Option.some.inj h
          exact ⟨l19_m7, _, rfl, (weak_ren (renF [((0, 1), (2, 1))]) (by kernel_rfl) (by kernel_rfl) (by kernel_rfl)), rfl⟩
    · rintro l18_m7 _ rfl h
      (try dsimp only at h)
      refine awp_seq_ ?_
      refine awp_region_ 5 (by kernel_rfl) ?_
      refine rs0 (.own (0, 1) .int 0 l18_m7.length) (by kernel_rfl) ?_
      refine rs0 (.own (0, 1) .int 0 l18_m7.length) (by kernel_rfl) ?_
      refine rs0 (.bool true) (by kernel_rfl) ?_
      refine rnil (tn_ ?_)
      refine awp_ret_ ?_
      obtain rfl := Option.some.inj h
      exact ret_ [(.own (0, 1) .int 0 l18_m7.length), (.bool true)] (by simp) (by kernel_rfl) (p_one rfl (l_own (by kernel_rfl) rfl) (p_one rfl (l_sc (by kernel_rfl)) p_nil)) (by kernel_rfl) (by kernel_rfl)
def m_impl_isCircuit_l1 : AC :=
  (.seq (.region [⟨(some 44), none, (.i (.bin .lss (.tmp 43) (.tmp 42)))⟩] false [])
  (.seq (.cond (.tmp 44)
    .skip
    (.exit 0))
  (.seq (.block 1 (.seq (.region [⟨(some 45), none, (.i (.idx 4 (.tmp 41) (.tmp 43)))⟩, ⟨(some 46), none, (.i (.ld false 4 (.tmp 45)))⟩, ⟨(some 6), none, (.i (.alloc 51 [(.int .i64 0), (.int .i64 0), (.int .i64 0), (.int .i64 0)]))⟩, ⟨none, none, (.st false 4 (.tmp 6) (.tmp 46))⟩] false [])
  (.seq (.region [⟨(some 47), none, (.i (.ld false 3 (.tmp 3)))⟩, ⟨(some 48), none, (.i (.mov (.tmp 0)))⟩, ⟨(some 49), none, (.i (.ld false 4 (.tmp 6)))⟩, ⟨(some 50), none, (.call (.cst (.fn 76 [])) [(.tmp 47), (.tmp 48), (.tmp 49)] [[none, (some (.pair .int (.pair .int (.pair .int .int)))), (some .int)], [], [none, none, none, none]])⟩, ⟨(some 51), none, (.i (.not (.tmp 50)))⟩] false [])
  (.cond (.tmp 51)
    (.seq (.region [⟨(some 4), none, (.i (.mov (.cst (.bool false))))⟩] false [])
    .ret)
    .skip))))
  (.region [⟨(some 52), none, (.i (.bin .add (.tmp 43) (.cst (.int .i64 1))))⟩, ⟨(some 43), none, (.i (.mov (.tmp 52)))⟩] false []))))
def m_impl_isCircuit : AC :=
  (.seq (.region [⟨(some 3), none, (.i (.box 31 (.tmp 1)))⟩, ⟨(some 4), none, (.i (.mov (.cst (.bool false))))⟩] false [])
  (.seq (.seq (.region [⟨(some 9), none, (.i (.mov (.tmp 0)))⟩, ⟨(some 10), none, (.call (.cst (.fn 74 [])) [(.tmp 9)] [[]])⟩, ⟨(some 11), none, (.i (.not (.tmp 10)))⟩, ⟨(some 12), none, (.i (.mov (.tmp 11)))⟩, ⟨(some 13), (some (12, false)), (.i (.fld 0 (.tmp 3)))⟩, ⟨(some 14), (some (12, false)), (.i (.ld true 1 (.tmp 13)))⟩, ⟨(some 15), (some (12, false)), (.call (.cst (.fn 45 [])) [(.tmp 14), (.cst (.int .i64 0)), (.cst (.int .i64 8))] [[], [], []])⟩, ⟨(some 16), (some (12, false)), (.i (.not (.tmp 15)))⟩, ⟨(some 17), none, (.i (.pick (.tmp 12) (.cst (.bool true)) (.tmp 16)))⟩, ⟨(some 18), none, (.i (.mov (.tmp 17)))⟩, ⟨(some 19), (some (18, false)), (.i (.fld 1 (.tmp 3)))⟩, ⟨(some 20), (some (18, false)), (.i (.ld true 1 (.tmp 19)))⟩, ⟨(some 21), (some (18, false)), (.i (.len (.tmp 20)))⟩, ⟨(some 22), (some (18, false)), (.call (.cst (.fn 45 [])) [(.tmp 21), (.cst (.int .i64 1)), (.cst (.int .i64 40))] [[], [], []])⟩, ⟨(some 23), (some (18, false)), (.i (.not (.tmp 22)))⟩, ⟨(some 24), none, (.i (.pick (.tmp 18) (.cst (.bool true)) (.tmp 23)))⟩, ⟨(some 25), none, (.i (.mov (.tmp 24)))⟩, ⟨(some 26), (some (25, false)), (.i (.fld 2 (.tmp 3)))⟩, ⟨(some 27), (some (25, false)), (.i (.ld true 1 (.tmp 26)))⟩, ⟨(some 28), (some (25, false)), (.i (.len (.tmp 27)))⟩, ⟨(some 29), (some (25, false)), (.i (.bin .gtr (.tmp 28) (.cst (.int .i64 8))))⟩, ⟨(some 30), none, (.i (.pick (.tmp 25) (.cst (.bool true)) (.tmp 29)))⟩, ⟨(some 31), none, (.i (.mov (.tmp 30)))⟩, ⟨(some 32), (some (31, false)), (.i (.fld 2 (.tmp 3)))⟩, ⟨(some 33), (some (31, false)), (.i (.ld true 1 (.tmp 32)))⟩, ⟨(some 34), (some (31, false)), (.i (.fld 1 (.tmp 3)))⟩, ⟨(some 35), (some (31, false)), (.i (.ld true 1 (.tmp 34)))⟩, ⟨(some 36), (some (31, false)), (.i (.len (.tmp 35)))⟩, ⟨(some 37), (some (31, false)), (.call (.cst (.fn 75 [])) [(.tmp 33), (.tmp 36)] [[(some .int)], []])⟩, ⟨(some 38), (some (31, false)), (.i (.not (.tmp 37)))⟩, ⟨(some 39), none, (.i (.pick (.tmp 31) (.cst (.bool true)) (.tmp 38)))⟩] false [])
  (.cond (.tmp 39)
    (.seq (.region [⟨(some 4), none, (.i (.mov (.cst (.bool false))))⟩] false [])
    .ret)
    .skip))
  (.seq (.seq (.region [⟨(some 40), none, (.i (.fld 1 (.tmp 3)))⟩, ⟨(some 41), none, (.i (.ld true 1 (.tmp 40)))⟩, ⟨(some 42), none, (.i (.len (.tmp 41)))⟩, ⟨(some 43), none, (.i (.mov (.cst (.int .i64 0))))⟩] false [])
  (.block 0 (.loop m_impl_isCircuit_l1)))
  (.seq (.region [⟨(some 54), none, (.i (.ld false 3 (.tmp 3)))⟩, ⟨(some 55), none, (.call (.cst (.fn 77 [])) [(.tmp 54)] [[none, (some (.pair .int (.pair .int (.pair .int .int)))), (some .int)]])⟩, ⟨(some 53), none, (.i (.mov (.tmp 55)))⟩, ⟨(some 56), none, (.i (.extr 0 (.tmp 53)))⟩, ⟨(some 57), none, (.i (.extr 1 (.tmp 53)))⟩, ⟨(some 7), none, (.i (.mov (.tmp 56)))⟩, ⟨(some 8), none, (.i (.mov (.tmp 57)))⟩] false [])
  (.seq (.region [⟨(some 58), none, (.i (.mov (.tmp 8)))⟩, ⟨(some 4), none, (.i (.mov (.tmp 58)))⟩] false [])
  .ret)))))
def r_impl_isCircuit : List Res := [.tmp 4]
theorem c_impl_isCircuit : compiled Tryd.prog Tryd.f37 = some (m_impl_isCircuit, r_impl_isCircuit) := by kernel_rfl
theorem hb_impl_isCircuit : hasBody Tryd.prog 37 = true := by kernel_rfl
def L_impl_isCircuit_l1 (a1_1 : List (Int × Int × Int × Int)) (a1_0 : Int) (a1_2 : List Int) (a0 : Int) (l16_m43 : Nat) : Option (Ctl Nat (Ctl Unit Bool)) :=
  cond (decide (((l16_m43 : Nat) : Int) < ((a1_1.length : Nat) : Int)))
  (Option.bind (a1_1[l16_m43]?) fun x22 =>
  Option.bind (L_impl_Circuit_isGate a1_0 a1_1 a1_2 a0 x22.1 x22.2.1 x22.2.2.1 x22.2.2.2) fun y24 =>
  cond (!y24)
    (some (Ctl.out (Ctl.out false)))
    (og (l16_m43 + 1 < 4611686018427387904) <|
    some (Ctl.next (l16_m43 + 1))))
  (some (Ctl.out (Ctl.next ())))
def L_impl_isCircuit (a0 : Int) (a1_0 : Int) (a1_1 : List (Int × Int × Int × Int)) (a1_2 : List Int) : Option Bool :=
  Option.bind (Option.bind (L_impl_isField a0) fun y4 =>
  cond (!y4)
    (some true)
    (Option.bind (L_impl_within a1_0 0 8) fun y6 =>
    cond (!y6)
      (some true)
      (Option.bind (L_impl_within ((a1_1.length : Nat) : Int) 1 40) fun y8 =>
      cond (!y8)
        (some true)
        (cond (decide (8 < ((a1_2.length : Nat) : Int)))
          (some true)
          (Option.bind (L_impl_areBelow a1_2 ((a1_1.length : Nat) : Int)) fun y11 =>
          some (!y11)))))) fun l3_m39 =>
cond l3_m39
  (some false)
  (seqC (loopM (fun s_ : Nat => L_impl_isCircuit_l1 a1_1 a1_0 a1_2 a0 s_) 4611686018427387904 0) fun _ =>
  Option.bind (L_impl_Circuit_schedule a1_0 a1_1 a1_2) fun y29 =>
  some y29.2)
def rv_impl_isCircuit (r : Bool) : RV := ⟨false, [(false, [.sc (.bool r)])]⟩
theorem ok_impl_isCircuit {a0 : Int} {a1_0 : Int} {a1_1 : List (Int × Int × Int × Int)} {a1_2 : List Int} {r : Bool} (h : L_impl_isCircuit a0 a1_0 a1_1 a1_2 = some r) : CallOK Tryd.prog Tab 37 [(.int .i64 a0), (.agg [(.int .i64 a1_0), (.tree (.pair .int (.pair .int (.pair .int .int))) a1_1), (.tree .int a1_2)])] (rv_impl_isCircuit r) := by
  refine call_of_ (by kernel_rfl) Tryd.func37 c_impl_isCircuit (n := 59) (by kernel_rfl) (by simp) (tl := [(0, (.int .i64 a0)), (1, (.agg [(.int .i64 a1_0), (.tree (.pair .int (.pair .int (.pair .int .int))) a1_1), (.tree .int a1_2)]))]) rfl ?_
  unfold m_impl_isCircuit
  unfold L_impl_isCircuit at h
  refine awp_seq_ ?_
  refine awp_region_ 3 (by kernel_rfl) ?_
  refine rs1 (.box (3, 1) 0) (3, 1) (.cells 31 [(.int .i64 a1_0), (.tree (.pair .int (.pair .int (.pair .int .int))) a1_1), (.tree .int a1_2)]) (by kernel_rfl) ?_
  refine rs0 (.bool false) (by kernel_rfl) ?_
  refine rnil (tn_ ?_)
  refine awp_seq_ ?_
  refine awp_seqB h (fun (l3_m39 : Bool) S_ => S_ = ⟨mkTm [(0, (.int .i64 a0)), (3, (.box (0, 1) 0)), (39, (.bool l3_m39))], mkOb (someL [((0, 1), .cells 31 [(.int .i64 a1_0), (.tree (.pair .int (.pair .int (.pair .int .int))) a1_1), (.tree .int a1_2)])]), 2⟩) ?_ ?_
  · intro v_ h
    obtain ⟨y4, h4, h⟩ := ob_some h
    rcases cond_some h with ⟨q5, h⟩ | ⟨q5, h⟩
    · refine awp_region_ 34 (by kernel_rfl) ?_
      refine rs0 (.int .i64 a0) (by kernel_rfl) ?_
      refine rcall (.bool y4) [] [(.int .i64 a0)] _ (caps := []) (args0 := [(.int .i64 a0)]) trivial (by kernel_rfl) (by kernel_rfl) (by kernel_rfl) (by kernel_rfl) (ok_impl_isField h4) hb_impl_isField (by kernel_rfl) ?_
      refine rs0 (.bool (!y4)) (by kernel_rfl) ?_
      refine rs0 (.bool (!y4)) (by kernel_rfl) ?_
      refine rs0 (.tup []) (s_skip (by kernel_rfl) q5) ?_
      refine rs0 (.tup []) (s_skip (by kernel_rfl) q5) ?_
      refine rs0 (.tup []) (s_skip (by kernel_rfl) q5) ?_
      refine rs0 (.tup []) (s_skip (by kernel_rfl) q5) ?_
      refine rs0 (.bool true) (s_pickT (by kernel_rfl) q5) ?_
      refine rs0 (.bool true) (by kernel_rfl) ?_
      refine rs0 (.tup []) (by kernel_rfl) ?_
      refine rs0 (.tup []) (by kernel_rfl) ?_
      refine rs0 (.tup []) (by kernel_rfl) ?_
      refine rs0 (.tup []) (by kernel_rfl) ?_
      refine rs0 (.tup []) (by kernel_rfl) ?_
      refine rs0 (.bool true) (by kernel_rfl) ?_
      refine rs0 (.bool true) (by kernel_rfl) ?_
      refine rs0 (.tup []) (by kernel_rfl) ?_
      refine rs0 (.tup []) (by kernel_rfl) ?_
      refine rs0 (.tup []) (by kernel_rfl) ?_
      refine rs0 (.tup []) (by kernel_rfl) ?_
      refine rs0 (.bool true) (by kernel_rfl) ?_
      refine rs0 (.bool true) (by kernel_rfl) ?_
      refine rs0 (.tup []) (by kernel_rfl) ?_
      refine rs0 (.tup []) (by kernel_rfl) ?_
      refine rs0 (.tup []) (by kernel_rfl) ?_
      refine rs0 (.tup []) (by kernel_rfl) ?_
      refine rs0 (.tup []) (by kernel_rfl) ?_
      refine rs0 (.tup []) (by kernel_rfl) ?_
      refine rs0 (.tup []) (by kernel_rfl) ?_
      refine rs0 (.bool true) (by kernel_rfl) ?_
      refine rnil (tn_ ?_)
      obtain rfl := Option.some.inj h
      exact ⟨_, (weak_ren (renF [((0, 1), (3, 1))]) (by kernel_rfl) (by kernel_rfl) (by kernel_rfl)), rfl⟩
    · obtain ⟨y6, h6, h⟩ := ob_some h
      rcases cond_some h with ⟨q7, h⟩ | ⟨q7, h⟩
      · refine awp_region_ 34 (by kernel_rfl) ?_
        refine rs0 (.int .i64 a0) (by kernel_rfl) ?_
        refine rcall (.bool y4) [] [(.int .i64 a0)] _ (caps := []) (args0 := [(.int .i64 a0)]) trivial (by kernel_rfl) (by kernel_rfl) (by kernel_rfl) (by kernel_rfl) (ok_impl_isField h4) hb_impl_isField (by kernel_rfl) ?_
        refine rs0 (.bool (!y4)) (by kernel_rfl) ?_
        refine rs0 (.bool (!y4)) (by kernel_rfl) ?_
        refine rs0 (.box (3, 1) 0) (s_gd (by kernel_rfl) q5 (by kernel_rfl)) ?_
        refine rsl (.int .i64 a1_0) (s_gd (by kernel_rfl) q5 (by kernel_rfl)) ?_
        refine rcall (.bool y6) [] [(.int .i64 a1_0), (.int .i64 0), (.int .i64 8)] _ (caps := []) (args0 := [(.int .i64 a1_0), (.int .i64 0), (.int .i64 8)]) (gdOK_b (by kernel_rfl) q5) (by kernel_rfl) (by kernel_rfl) (by kernel_rfl) (by kernel_rfl) (ok_impl_within h6) hb_impl_within (by kernel_rfl) ?_
        refine rs0 (.bool (!y6)) (s_gd (by kernel_rfl) q5 (by kernel_rfl)) ?_
        refine rs0 (.bool (!y6)) (s_pickF (by kernel_rfl) q5) ?_
        refine rs0 (.bool (!y6)) (by kernel_rfl) ?_
        refine rs0 (.tup []) (s_skip (by kernel_rfl) q7) ?_
        refine rs0 (.tup []) (s_skip (by kernel_rfl) q7) ?_
        refine rs0 (.tup []) (s_skip (by kernel_rfl) q7) ?_
        refine rs0 (.tup []) (s_skip (by kernel_rfl) q7) ?_
        refine rs0 (.tup []) (s_skip (by kernel_rfl) q7) ?_
        refine rs0 (.bool true) (s_pickT (by kernel_rfl) q7) ?_
        refine rs0 (.bool true) (by kernel_rfl) ?_
        refine rs0 (.tup []) (by kernel_rfl) ?_
        refine rs0 (.tup []) (by kernel_rfl) ?_
        refine rs0 (.tup []) (by kernel_rfl) ?_
        refine rs0 (.tup []) (by kernel_rfl) ?_
        refine rs0 (.bool true) (by kernel_rfl) ?_
        refine rs0 (.bool true) (by kernel_rfl) ?_
        refine rs0 (.tup []) (by kernel_rfl) ?_
        refine rs0 (.tup []) (by kernel_rfl) ?_
        refine rs0 (.tup []) (by kernel_rfl) ?_
        refine rs0 (.tup []) (by kernel_rfl) ?_
        refine rs0 (.tup []) (by kernel_rfl) ?_
        refine rs0 (.tup []) (by kernel_rfl) ?_
        refine rs0 (.tup []) (by kernel_rfl) ?_
        refine rs0 (.bool true) (by kernel_rfl) ?_
        refine rnil (tn_ ?_)
        obtain rfl := Option.some.inj h
        exact ⟨_, (weak_ren (renF [((0, 1), (3, 1))]) (by kernel_rfl) (by kernel_rfl) (by kernel_rfl)), rfl⟩
      · obtain ⟨y8, h8, h⟩ := ob_some h
        rcases cond_some h with ⟨q9, h⟩ | ⟨q9, h⟩
        · refine awp_region_ 34 (by kernel_rfl) ?_
          refine rs0 (.int .i64 a0) (by kernel_rfl) ?_
          refine rcall (.bool y4) [] [(.int .i64 a0)] _ (caps := []) (args0 := [(.int .i64 a0)]) trivial (by kernel_rfl) (by kernel_rfl) (by kernel_rfl) (by kernel_rfl) (ok_impl_isField h4) hb_impl_isField (by kernel_rfl) ?_
          refine rs0 (.bool (!y4)) (by kernel_rfl) ?_
          refine rs0 (.bool (!y4)) (by kernel_rfl) ?_
          refine rs0 (.box (3, 1) 0) (s_gd (by kernel_rfl) q5 (by kernel_rfl)) ?_
          refine rsl (.int .i64 a1_0) (s_gd (by kernel_rfl) q5 (by kernel_rfl)) ?_
          refine rcall (.bool y6) [] [(.int .i64 a1_0), (.int .i64 0), (.int .i64 8)] _ (caps := []) (args0 := [(.int .i64 a1_0), (.int .i64 0), (.int .i64 8)]) (gdOK_b (by kernel_rfl) q5) (by kernel_rfl) (by kernel_rfl) (by kernel_rfl) (by kernel_rfl) (ok_impl_within h6) hb_impl_within (by kernel_rfl) ?_
          refine rs0 (.bool (!y6)) (s_gd (by kernel_rfl) q5 (by kernel_rfl)) ?_
          refine rs0 (.bool (!y6)) (s_pickF (by kernel_rfl) q5) ?_
          refine rs0 (.bool (!y6)) (by kernel_rfl) ?_
          refine rs0 (.box (3, 1) 1) (s_gd (by kernel_rfl) q7 (by kernel_rfl)) ?_
          refine rsl (.tree (.pair .int (.pair .int (.pair .int .int))) a1_1) (s_gd (by kernel_rfl) q7 (by kernel_rfl)) ?_
          refine rs0 (.int .i64 ((a1_1.length : Nat) : Int)) (s_gd (by kernel_rfl) q7 (by kernel_rfl)) ?_
          refine rcall (.bool y8) [] [(.int .i64 ((a1_1.length : Nat) : Int)), (.int .i64 1), (.int .i64 40)] _ (caps := []) (args0 := [(.int .i64 ((a1_1.length : Nat) : Int)), (.int .i64 1), (.int .i64 40)]) (gdOK_b (by kernel_rfl) q7) (by kernel_rfl) (by kernel_rfl) (by kernel_rfl) (by kernel_rfl) (ok_impl_within h8) hb_impl_within (by kernel_rfl) ?_
          refine rs0 (.bool (!y8)) (s_gd (by kernel_rfl) q7 (by kernel_rfl)) ?_
          refine rs0 (.bool (!y8)) (s_pickF (by kernel_rfl) q7) ?_
          refine rs0 (.bool (!y8)) (by kernel_rfl) ?_
          refine rs0 (.tup []) (s_skip (by kernel_rfl) q9) ?_
          refine rs0 (.tup []) (s_skip (by kernel_rfl) q9) ?_
          refine rs0 (.tup []) (s_skip (by kernel_rfl) q9) ?_
          refine rs0 (.tup []) (s_skip (by kernel_rfl) q9) ?_
          refine rs0 (.bool true) (s_pickT (by kernel_rfl) q9) ?_
          refine rs0 (.bool true) (by kernel_rfl) ?_
          refine rs0 (.tup []) (by kernel_rfl) ?_
          refine rs0 (.tup []) (by kernel_rfl) ?_
          refine rs0 (.tup []) (by kernel_rfl) ?_
          refine rs0 (.tup []) (by kernel_rfl) ?_
          refine rs0 (.tup []) (by kernel_rfl) ?_
          refine rs0 (.tup []) (by kernel_rfl) ?_
          refine rs0 (.tup []) (by kernel_rfl) ?_
          refine rs0 (.bool true) (by kernel_rfl) ?_
          refine rnil (tn_ ?_)
          obtain rfl := Option.some.inj h
          exact ⟨_, (weak_ren (renF [((0, 1), (3, 1))]) (by kernel_rfl) (by kernel_rfl) (by kernel_rfl)), rfl⟩
        · rcases cond_some h with ⟨q10, h⟩ | ⟨q10, h⟩
          · have q10_ := of_decide_eq_true q10
            refine awp_region_ 34 (by kernel_rfl) ?_
            refine rs0 (.int .i64 a0) (by kernel_rfl) ?_
            refine rcall (.bool y4) [] [(.int .i64 a0)] _ (caps := []) (args0 := [(.int .i64 a0)]) trivial (by kernel_rfl) (by kernel_rfl) (by kernel_rfl) (by kernel_rfl) (ok_impl_isField h4) hb_impl_isField (by kernel_rfl) ?_
            refine rs0 (.bool (!y4)) (by kernel_rfl) ?_
            refine rs0 (.bool (!y4)) (by kernel_rfl) ?_
            refine rs0 (.box (3, 1) 0) (s_gd (by kernel_rfl) q5 (by kernel_rfl)) ?_
            refine rsl (.int .i64 a1_0) (s_gd (by kernel_rfl) q5 (by kernel_rfl)) ?_
            refine rcall (.bool y6) [] [(.int .i64 a1_0), (.int .i64 0), (.int .i64 8)] _ (caps := []) (args0 := [(.int .i64 a1_0), (.int .i64 0), (.int .i64 8)]) (gdOK_b (by kernel_rfl) q5) (by kernel_rfl) (by kernel_rfl) (by kernel_rfl) (by kernel_rfl) (ok_impl_within h6) hb_impl_within (by kernel_rfl) ?_
            refine rs0 (.bool (!y6)) (s_gd (by kernel_rfl) q5 (by kernel_rfl)) ?_
            refine rs0 (.bool (!y6)) (s_pickF (by kernel_rfl) q5) ?_
            refine rs0 (.bool (!y6)) (by kernel_rfl) ?_
            refine rs0 (.box (3, 1) 1) (s_gd (by kernel_rfl) q7 (by kernel_rfl)) ?_
            refine rsl (.tree (.pair .int (.pair .int (.pair .int .int))) a1_1) (s_gd (by kernel_rfl) q7 (by kernel_rfl)) ?_
            refine rs0 (.int .i64 ((a1_1.length : Nat) : Int)) (s_gd (by kernel_rfl) q7 (by kernel_rfl)) ?_
            refine rcall (.bool y8) [] [(.int .i64 ((a1_1.length : Nat) : Int)), (.int .i64 1), (.int .i64 40)] _ (caps := []) (args0 := [(.int .i64 ((a1_1.length : Nat) : Int)), (.int .i64 1), (.int .i64 40)]) (gdOK_b (by kernel_rfl) q7) (by kernel_rfl) (by kernel_rfl) (by kernel_rfl) (by kernel_rfl) (ok_impl_within h8) hb_impl_within (by kernel_rfl) ?_
            refine rs0 (.bool (!y8)) (s_gd (by kernel_rfl) q7 (by kernel_rfl)) ?_
            refine rs0 (.bool (!y8)) (s_pickF (by kernel_rfl) q7) ?_
            refine rs0 (.bool (!y8)) (by kernel_rfl) ?_
            refine rs0 (.box (3, 1) 2) (s_gd (by kernel_rfl) q9 (by kernel_rfl)) ?_
            refine rsl (.tree .int a1_2) (s_gd (by kernel_rfl) q9 (by kernel_rfl)) ?_
            refine rs0 (.int .i64 ((a1_2.length : Nat) : Int)) (s_gd (by kernel_rfl) q9 (by kernel_rfl)) ?_
            refine rs0 (.bool (decide (8 < ((a1_2.length : Nat) : Int)))) (s_gd (by kernel_rfl) q9 (by kernel_rfl)) ?_
            refine rs0 (.bool (decide (8 < ((a1_2.length : Nat) : Int)))) (s_pickF (by kernel_rfl) q9) ?_
            refine rs0 (.bool (decide (8 < ((a1_2.length : Nat) : Int)))) (by kernel_rfl) ?_
            refine rs0 (.tup []) (s_skip (by kernel_rfl) q10) ?_
            refine rs0 (.tup []) (s_skip (by kernel_rfl) q10) ?_
            refine rs0 (.tup []) (s_skip (by kernel_rfl) q10) ?_
            refine rs0 (.tup []) (s_skip (by kernel_rfl) q10) ?_
            refine rs0 (.tup []) (s_skip (by kernel_rfl) q10) ?_
            refine rs0 (.tup []) (s_skip (by kernel_rfl) q10) ?_
            refine rs0 (.tup []) (s_skip (by kernel_rfl) q10) ?_
            refine rs0 (.bool true) (s_pickT (by kernel_rfl) q10) ?_
            refine rnil (tn_ ?_)
            obtain rfl := Option.some.inj h
            exact ⟨_, (weak_ren (renF [((0, 1), (3, 1))]) (by kernel_rfl) (by kernel_rfl) (by kernel_rfl)), rfl⟩
          · have q10_ := of_decide_eq_false q10
            obtain ⟨y11, h11, h⟩ := ob_some h
            refine awp_region_ 34 (by kernel_rfl) ?_
            refine rs0 (.int .i64 a0) (by kernel_rfl) ?_
            refine rcall (.bool y4) [] [(.int .i64 a0)] _ (caps := []) (args0 := [(.int .i64 a0)]) trivial (by kernel_rfl) (by kernel_rfl) (by kernel_rfl) (by kernel_rfl) (ok_impl_isField h4) hb_impl_isField (by kernel_rfl) ?_
            refine rs0 (.bool (!y4)) (by kernel_rfl) ?_
            refine rs0 (.bool (!y4)) (by kernel_rfl) ?_
            refine rs0 (.box (3, 1) 0) (s_gd (by kernel_rfl) q5 (by kernel_rfl)) ?_
            refine rsl (.int .i64 a1_0) (s_gd (by kernel_rfl) q5 (by kernel_rfl)) ?_
            refine rcall (.bool y6) [] [(.int .i64 a1_0), (.int .i64 0), (.int .i64 8)] _ (caps := []) (args0 := [(.int .i64 a1_0), (.int .i64 0), (.int .i64 8)]) (gdOK_b (by kernel_rfl) q5) (by kernel_rfl) (by kernel_rfl) (by kernel_rfl) (by kernel_rfl) (ok_impl_within h6) hb_impl_within (by kernel_rfl) ?_
            refine rs0 (.bool (!y6)) (s_gd (by kernel_rfl) q5 (by kernel_rfl)) ?_
            refine rs0 (.bool (!y6)) (s_pickF (by kernel_rfl) q5) ?_
            refine rs0 (.bool (!y6)) (by kernel_rfl) ?_
            refine rs0 (.box (3, 1) 1) (s_gd (by kernel_rfl) q7 (by kernel_rfl)) ?_
            refine rsl (.tree (.pair .int (.pair .int (.pair .int .int))) a1_1) (s_gd (by kernel_rfl) q7 (by kernel_rfl)) ?_
            refine rs0 (.int .i64 ((a1_1.length : Nat) : Int)) (s_gd (by kernel_rfl) q7 (by kernel_rfl)) ?_
            refine rcall (.bool y8) [] [(.int .i64 ((a1_1.length : Nat) : Int)), (.int .i64 1), (.int .i64 40)] _ (caps := []) (args0 := [(.int .i64 ((a1_1.length : Nat) : Int)), (.int .i64 1), (.int .i64 40)]) (gdOK_b (by kernel_rfl) q7) (by kernel_rfl) (by kernel_rfl) (by kernel_rfl) (by kernel_rfl) (ok_impl_within h8) hb_impl_within (by kernel_rfl) ?_
            refine rs0 (.bool (!y8)) (s_gd (by kernel_rfl) q7 (by kernel_rfl)) ?_
            refine rs0 (.bool (!y8)) (s_pickF (by kernel_rfl) q7) ?_
            refine rs0 (.bool (!y8)) (by kernel_rfl) ?_
            refine rs0 (.box (3, 1) 2) (s_gd (by kernel_rfl) q9 (by kernel_rfl)) ?_
            refine rsl (.tree .int a1_2) (s_gd (by kernel_rfl) q9 (by kernel_rfl)) ?_
            refine rs0 (.int .i64 ((a1_2.length : Nat) : Int)) (s_gd (by kernel_rfl) q9 (by kernel_rfl)) ?_
            refine rs0 (.bool (decide (8 < ((a1_2.length : Nat) : Int)))) (s_gd (by kernel_rfl) q9 (by kernel_rfl)) ?_
            refine rs0 (.bool (decide (8 < ((a1_2.length : Nat) : Int)))) (s_pickF (by kernel_rfl) q9) ?_
            refine rs0 (.bool (decide (8 < ((a1_2.length : Nat) : Int)))) (by kernel_rfl) ?_
            refine rs0 (.box (3, 1) 2) (s_gd (by kernel_rfl) q10 (by kernel_rfl)) ?_
            refine rsl (.tree .int a1_2) (s_gd (by kernel_rfl) q10 (by kernel_rfl)) ?_
            refine rs0 (.box (3, 1) 1) (s_gd (by kernel_rfl) q10 (by kernel_rfl)) ?_
            refine rsl (.tree (.pair .int (.pair .int (.pair .int .int))) a1_1) (s_gd (by kernel_rfl) q10 (by kernel_rfl)) ?_
            refine rs0 (.int .i64 ((a1_1.length : Nat) : Int)) (s_gd (by kernel_rfl) q10 (by kernel_rfl)) ?_
            refine rcall (.bool y11) [] [(.tree .int a1_2), (.int .i64 ((a1_1.length : Nat) : Int))] _ (caps := []) (args0 := [(.tree .int a1_2), (.int .i64 ((a1_1.length : Nat) : Int))]) (gdOK_b (by kernel_rfl) q10) (by kernel_rfl) (by kernel_rfl) (by kernel_rfl) (by kernel_rfl) (ok_impl_areBelow h11) hb_impl_areBelow (by kernel_rfl) ?_
            refine rs0 (.bool (!y11)) (s_gd (by kernel_rfl) q10 (by kernel_rfl)) ?_
            refine rs0 (.bool (!y11)) (s_pickF (by kernel_rfl) q10) ?_
            refine rnil (tn_ ?_)
            obtain rfl := Option.some.inj h
            exact ⟨_, (weak_ren (renF [((0, 1), (3, 1))]) (by kernel_rfl) (by kernel_rfl) (by kernel_rfl)), rfl⟩
  · rintro l3_m39 _ rfl h
    (try dsimp only at h)
    rcases cond_some h with ⟨q12, h⟩ | ⟨q12, h⟩
    · refine awp_condT_ q12 (by kernel_rfl) ?_
      refine awp_seq_ ?_
      refine awp_region_ 3 (by kernel_rfl) ?_
      refine rs0 (.bool false) (by kernel_rfl) ?_
      refine rnil (tn_ ?_)
      refine awp_ret_ (tr_ ?_)
      obtain rfl := Option.some.inj h
      exact ret_ [(.bool false)] (by simp) (by kernel_rfl) (p_one rfl (l_sc (by kernel_rfl)) p_nil) (by kernel_rfl) (by kernel_rfl)
    · refine awp_condF_ q12 (by kernel_rfl) ?_
      refine awp_skip_ (tn_ ?_)
      refine awp_seqC h (fun (_ : Unit) S_ => S_ = ⟨mkTm [(3, (.box (0, 1) 0))], mkOb (someL [((0, 1), .cells 31 [(.int .i64 a1_0), (.tree (.pair .int (.pair .int (.pair .int .int))) a1_1), (.tree .int a1_2)])]), 2⟩) ?_ ?_
      · intro v_ h hk14
        refine awp_seq_ ?_
        refine awp_region_ 6 (by kernel_rfl) ?_
        refine rs0 (.box (0, 1) 1) (by kernel_rfl) ?_
        refine rsl (.tree (.pair .int (.pair .int (.pair .int .int))) a1_1) (by kernel_rfl) ?_
        refine rs0 (.int .i64 ((a1_1.length : Nat) : Int)) (by kernel_rfl) ?_
        refine rs0 (.int .i64 0) (by kernel_rfl) ?_
        refine rnil (tn_ ?_)
        refine awp_block_ ?_
        refine awp_loopL h (fun (l16_m43 : Nat) S_ => S_ = ⟨mkTm [(0, (.int .i64 a0)), (3, (.box (0, 1) 0)), (41, (.tree (.pair .int (.pair .int (.pair .int .int))) a1_1)), (42, (.int .i64 ((a1_1.length : Nat) : Int))), (43, (.int .i64 ((l16_m43 : Nat) : Int)))], mkOb (someL [((0, 1), .cells 31 [(.int .i64 a1_0), (.tree (.pair .int (.pair .int (.pair .int .int))) a1_1), (.tree .int a1_2)])]), 2⟩) ⟨_, (weak_ren (renF []) (by kernel_rfl) (by kernel_rfl) (by kernel_rfl)), rfl⟩ ?_
        · rintro n_ l16_m43 _ c_ rfl h hn16
          (try dsimp only at h)
          unfold L_impl_isCircuit_l1 at h
          unfold m_impl_isCircuit_l1
          refine awp_seq_ ?_
          refine awp_region_ 3 (by kernel_rfl) ?_
          refine rs0 (.bool (decide (((l16_m43 : Nat) : Int) < ((a1_1.length : Nat) : Int)))) (by kernel_rfl) ?_
          refine rnil (tn_ ?_)
          refine awp_seq_ ?_
          rcases cond_some h with ⟨q19, h⟩ | ⟨q19, h⟩
          · have q19_ := of_decide_eq_true q19
            refine awp_condT_ q19 (by kernel_rfl) ?_
            refine awp_skip_ (tn_ ?_)
            refine awp_seq_ ?_
            refine awp_block_ ?_
            refine awp_seq_ ?_
            obtain ⟨x22, e22, h⟩ := ob_some h
            refine awp_region_ 7 (by kernel_rfl) ?_
            refine rs0 (.telt (.pair .int (.pair .int (.pair .int .int))) x22 0) (s_idxT (t := (.pair .int (.pair .int (.pair .int .int)))) (xs := a1_1) (k := .i64) (m := ((l16_m43 : Nat) : Int)) (by kernel_rfl) (by kernel_rfl) rfl (nat_nn _) rfl e22) ?_
            refine rs0 (.agg [(.int .i64 x22.1), (.int .i64 x22.2.1), (.int .i64 x22.2.2.1), (.int .i64 x22.2.2.2)]) (by kernel_rfl) ?_
            refine rs1 (.box (6, 5) 0) (6, 5) (.cells 51 [(.int .i64 0), (.int .i64 0), (.int .i64 0), (.int .i64 0)]) (by kernel_rfl) ?_
            refine rsn2 (6, 5) (6, 5) (.cells 51 [(.int .i64 x22.1), (.int .i64 x22.2.1), (.int .i64 x22.2.2.1), (.int .i64 x22.2.2.2)]) (by kernel_rfl) ?_
            refine rnil (tn_ ?_)
            refine awp_seq_ ?_
            obtain ⟨y24, h24, h⟩ := ob_some h
            refine awp_region_ 12 (by kernel_rfl) ?_
            refine rsl (.agg [(.int .i64 a1_0), (.tree (.pair .int (.pair .int (.pair .int .int))) a1_1), (.tree .int a1_2)]) (by kernel_rfl) ?_
            refine rs0 (.int .i64 a0) (by kernel_rfl) ?_
            refine rsl (.agg [(.int .i64 x22.1), (.int .i64 x22.2.1), (.int .i64 x22.2.2.1), (.int .i64 x22.2.2.2)]) (by kernel_rfl) ?_
            refine rcall (.bool y24) [] [(.agg [(.int .i64 a1_0), (.tree (.pair .int (.pair .int (.pair .int .int))) a1_1), (.tree .int a1_2)]), (.int .i64 a0), (.agg [(.int .i64 x22.1), (.int .i64 x22.2.1), (.int .i64 x22.2.2.1), (.int .i64 x22.2.2.2)])] _ (caps := []) (args0 := [(.agg [(.int .i64 a1_0), (.tree (.pair .int (.pair .int (.pair .int .int))) a1_1), (.tree .int a1_2)]), (.int .i64 a0), (.agg [(.int .i64 x22.1), (.int .i64 x22.2.1), (.int .i64 x22.2.2.1), (.int .i64 x22.2.2.2)])]) trivial (by kernel_rfl) (by kernel_rfl) (by kernel_rfl) (by kernel_rfl) (ok_impl_Circuit_isGate h24) hb_impl_Circuit_isGate (by kernel_rfl) ?_
            refine rs0 (.bool (!y24)) (by kernel_rfl) ?_
            refine rnil (tn_ ?_)
            rcases cond_some h with ⟨q25, h⟩ | ⟨q25, h⟩
            · refine awp_condT_ q25 (by kernel_rfl) ?_
              refine awp_seq_ ?_
              refine awp_region_ 13 (by kernel_rfl) ?_
              refine rs0 (.bool false) (by kernel_rfl) ?_
              refine rnil (tn_ ?_)
              refine awp_ret_ (br_ (tr_ (tr_ (br_ (tr_ ?_)))))
              obtain rfl := Option.some.inj h
              have h := hn16
              (try dsimp only at h)
              obtain rfl := Option.some.inj h
              have h := hk14
              (try dsimp only at h)
              obtain rfl := Option.some.inj h
              exact ret_ [(.bool false)] (by simp) (by kernel_rfl) (p_one rfl (l_sc (by kernel_rfl)) p_nil) (by kernel_rfl) (by kernel_rfl)
            · refine awp_condF_ q25 (by kernel_rfl) ?_
              refine awp_skip_ (bn_ (tn_ ?_))
              obtain ⟨g27, h⟩ := og_some h
              refine awp_region_ 14 (by kernel_rfl) ?_
              refine rs0 (.int .i64 ((l16_m43 + 1 : Nat) : Int)) (s_add1 (j := l16_m43) (by kernel_rfl) (by kernel_rfl) g27) ?_
              refine rs0 (.int .i64 ((l16_m43 + 1 : Nat) : Int)) (by kernel_rfl) ?_
              refine rnil (tn_ ?_)
              obtain rfl := Option.some.inj h
              exact ⟨l16_m43 + 1, _, (weak_ren (renF []) (by kernel_rfl) (by kernel_rfl) (by kernel_rfl)), rfl, hn16⟩
          · have q19_ := of_decide_eq_false q19
            refine awp_condF_ q19 (by kernel_rfl) ?_
            refine awp_exit_ (te_ (te_ (be_ (tn_ ?_))))
            obtain rfl := Option.some.inj h
            have h := hn16
            (try dsimp only at h)
            obtain rfl := Option.some.inj h
            exact ⟨(), _, rfl, (weak_ren (renF []) (by kernel_rfl) (by kernel_rfl) (by kernel_rfl)), rfl⟩
      · rintro _ _ rfl h
        (try dsimp only at h)
        refine awp_seq_ ?_
        obtain ⟨y29, h29, h⟩ := ob_some h
        refine awp_region_ 9 (by kernel_rfl) ?_
        refine rsl (.agg [(.int .i64 a1_0), (.tree (.pair .int (.pair .int (.pair .int .int))) a1_1), (.tree .int a1_2)]) (by kernel_rfl) ?_
        refine rcall (.tup [(.own (880, 3) .int 0 y29.1.length), (.bool y29.2)]) [((880, 3), some (.arr 3 .int y29.1))] [(.agg [(.int .i64 a1_0), (.tree (.pair .int (.pair .int (.pair .int .int))) a1_1), (.tree .int a1_2)])] _ (caps := []) (args0 := [(.agg [(.int .i64 a1_0), (.tree (.pair .int (.pair .int (.pair .int .int))) a1_1), (.tree .int a1_2)])]) trivial (by kernel_rfl) (by kernel_rfl) (by kernel_rfl) (by kernel_rfl) (ok_impl_Circuit_schedule h29) hb_impl_Circuit_schedule (by kernel_rfl) ?_
        refine rs0 (.tup [(.own (880, 3) .int 0 y29.1.length), (.bool y29.2)]) (by kernel_rfl) ?_
        refine rs0 (.own (880, 3) .int 0 y29.1.length) (by kernel_rfl) ?_
        refine rs0 (.bool y29.2) (by kernel_rfl) ?_
        refine rs0 (.own (880, 3) .int 0 y29.1.length) (by kernel_rfl) ?_
        refine rs0 (.bool y29.2) (by kernel_rfl) ?_
        refine rnil (tn_ ?_)
        refine awp_seq_ ?_
        refine awp_region_ 11 (by kernel_rfl) ?_
        refine rs0 (.bool y29.2) (by kernel_rfl) ?_
        refine rs0 (.bool y29.2) (by kernel_rfl) ?_
        refine rnil (tn_ ?_)
        refine awp_ret_ ?_
        obtain rfl := Option.some.inj h
        exact ret_ [(.bool y29.2)] (by simp) (by kernel_rfl) (p_one rfl (l_sc (by kernel_rfl)) p_nil) (by kernel_rfl) (by kernel_rfl)
end Go.Proofs.YthjdknddcceigaaDoor
