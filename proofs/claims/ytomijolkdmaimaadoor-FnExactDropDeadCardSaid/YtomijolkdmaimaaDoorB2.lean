/- Partial functions in place of code, and that the code does what they say: B2. No condition. -/
import Derived.Test.YtomijolkdmaimaaDoorB1
namespace Go.Proofs.YtomijolkdmaimaaDoor
open Go.RowKit Go.Deep
set_option maxRecDepth 4000
def m_spec_cmInstr : AC :=
  (.seq (.region [⟨(some 4), none, (.i (.box 29 (.tmp 1)))⟩, ⟨(some 5), none, (.i (.box 69 (.tmp 2)))⟩, ⟨(some 6), none, (.i (.mov (.cst (.bool false))))⟩] false [])
  (.seq (.region [⟨(some 10), none, (.i (.fld 1 (.tmp 5)))⟩, ⟨(some 11), none, (.i (.ld true 1 (.tmp 10)))⟩, ⟨(some 12), none, (.i (.fld 3 (.tmp 4)))⟩, ⟨(some 13), none, (.i (.ld true 1 (.tmp 12)))⟩, ⟨(some 14), none, (.i (.bin .sub (.tmp 13) (.cst (.int .i64 1))))⟩, ⟨(some 15), none, (.call (.cst (.fn 37 [])) [(.tmp 11), (.cst (.int .i64 0)), (.tmp 14)] [[], [], []])⟩, ⟨(some 16), none, (.i (.fld 2 (.tmp 5)))⟩, ⟨(some 17), none, (.i (.ld true 1 (.tmp 16)))⟩, ⟨(some 18), none, (.i (.fld 3 (.tmp 4)))⟩, ⟨(some 19), none, (.i (.ld true 1 (.tmp 18)))⟩, ⟨(some 20), none, (.i (.bin .sub (.tmp 19) (.cst (.int .i64 1))))⟩, ⟨(some 21), none, (.call (.cst (.fn 37 [])) [(.tmp 17), (.cst (.int .i64 0)), (.tmp 20)] [[], [], []])⟩, ⟨(some 22), none, (.i (.fld 3 (.tmp 5)))⟩, ⟨(some 23), none, (.i (.ld true 1 (.tmp 22)))⟩, ⟨(some 24), none, (.i (.fld 3 (.tmp 4)))⟩, ⟨(some 25), none, (.i (.ld true 1 (.tmp 24)))⟩, ⟨(some 26), none, (.i (.bin .sub (.tmp 25) (.cst (.int .i64 1))))⟩, ⟨(some 27), none, (.call (.cst (.fn 37 [])) [(.tmp 23), (.cst (.int .i64 0)), (.tmp 26)] [[], [], []])⟩, ⟨(some 7), none, (.i (.mov (.tmp 15)))⟩, ⟨(some 8), none, (.i (.mov (.tmp 21)))⟩, ⟨(some 9), none, (.i (.mov (.tmp 27)))⟩] true [(5, 7), (5, 9), (5, 13), (11, 13), (5, 15), (11, 15)])
  (.seq (.seq (.region [⟨(some 28), none, (.i (.fld 0 (.tmp 5)))⟩, ⟨(some 29), none, (.i (.ld true 1 (.tmp 28)))⟩] false [])
  (.block 0 (.seq (.region [⟨(some 31), none, (.i (.bin .eql (.tmp 29) (.cst (.int .i64 1))))⟩, ⟨(some 30), none, (.i (.mov (.tmp 31)))⟩] false [])
  (.cond (.tmp 30)
    (.seq (.region [⟨(some 32), none, (.i (.mov (.tmp 7)))⟩, ⟨(some 33), none, (.i (.mov (.tmp 32)))⟩, ⟨(some 34), (some (33, true)), (.i (.fld 2 (.tmp 5)))⟩, ⟨(some 35), (some (33, true)), (.i (.ld true 1 (.tmp 34)))⟩, ⟨(some 36), (some (33, true)), (.i (.fld 0 (.tmp 4)))⟩, ⟨(some 37), (some (33, true)), (.i (.ld true 1 (.tmp 36)))⟩, ⟨(some 38), (some (33, true)), (.i (.bin .sub (.tmp 37) (.cst (.int .i64 1))))⟩, ⟨(some 39), (some (33, true)), (.call (.cst (.fn 37 [])) [(.tmp 35), (.cst (.int .i64 0)), (.tmp 38)] [[], [], []])⟩, ⟨(some 40), none, (.i (.pick (.tmp 33) (.tmp 39) (.cst (.bool false))))⟩, ⟨(some 41), none, (.i (.mov (.tmp 40)))⟩, ⟨(some 42), (some (41, true)), (.i (.fld 3 (.tmp 5)))⟩, ⟨(some 43), (some (41, true)), (.i (.ld true 1 (.tmp 42)))⟩, ⟨(some 44), (some (41, true)), (.i (.bin .eql (.tmp 43) (.cst (.int .i64 0))))⟩, ⟨(some 45), none, (.i (.pick (.tmp 41) (.tmp 44) (.cst (.bool false))))⟩, ⟨(some 46), none, (.i (.mov (.tmp 45)))⟩, ⟨(some 47), (some (46, true)), (.i (.fld 4 (.tmp 5)))⟩, ⟨(some 48), (some (46, true)), (.i (.ld true 1 (.tmp 47)))⟩, ⟨(some 49), (some (46, true)), (.i (.bin .eql (.tmp 48) (.cst (.int .i64 0))))⟩, ⟨(some 50), none, (.i (.pick (.tmp 46) (.tmp 49) (.cst (.bool false))))⟩, ⟨(some 6), none, (.i (.mov (.tmp 50)))⟩] false [])
    .ret)
    (.seq (.region [⟨(some 52), none, (.i (.bin .eql (.tmp 29) (.cst (.int .i64 2))))⟩, ⟨(some 51), none, (.i (.mov (.tmp 52)))⟩] false [])
    (.cond (.tmp 51)
      (.seq (.region [⟨(some 53), none, (.i (.mov (.tmp 7)))⟩, ⟨(some 54), none, (.i (.mov (.tmp 53)))⟩, ⟨(some 55), (some (54, true)), (.i (.fld 2 (.tmp 5)))⟩, ⟨(some 56), (some (54, true)), (.i (.ld true 1 (.tmp 55)))⟩, ⟨(some 57), (some (54, true)), (.i (.bin .eql (.tmp 56) (.cst (.int .i64 0))))⟩, ⟨(some 58), none, (.i (.pick (.tmp 54) (.tmp 57) (.cst (.bool false))))⟩, ⟨(some 59), none, (.i (.mov (.tmp 58)))⟩, ⟨(some 60), (some (59, true)), (.i (.fld 3 (.tmp 5)))⟩, ⟨(some 61), (some (59, true)), (.i (.ld true 1 (.tmp 60)))⟩, ⟨(some 62), (some (59, true)), (.i (.bin .eql (.tmp 61) (.cst (.int .i64 0))))⟩, ⟨(some 63), none, (.i (.pick (.tmp 59) (.tmp 62) (.cst (.bool false))))⟩, ⟨(some 64), none, (.i (.mov (.tmp 63)))⟩, ⟨(some 65), (some (64, true)), (.i (.fld 4 (.tmp 5)))⟩, ⟨(some 66), (some (64, true)), (.i (.ld true 1 (.tmp 65)))⟩, ⟨(some 67), (some (64, true)), (.i (.bin .eql (.tmp 66) (.cst (.int .i64 0))))⟩, ⟨(some 68), none, (.i (.pick (.tmp 64) (.tmp 67) (.cst (.bool false))))⟩, ⟨(some 6), none, (.i (.mov (.tmp 68)))⟩] false [])
      .ret)
      (.seq (.region [⟨(some 70), none, (.i (.bin .eql (.tmp 29) (.cst (.int .i64 3))))⟩, ⟨(some 69), none, (.i (.mov (.tmp 70)))⟩] false [])
      (.cond (.tmp 69)
        (.seq (.region [⟨(some 71), none, (.i (.mov (.tmp 7)))⟩, ⟨(some 72), none, (.i (.mov (.tmp 71)))⟩, ⟨(some 73), (some (72, true)), (.i (.mov (.tmp 8)))⟩, ⟨(some 74), none, (.i (.pick (.tmp 72) (.tmp 73) (.cst (.bool false))))⟩, ⟨(some 75), none, (.i (.mov (.tmp 74)))⟩, ⟨(some 76), (some (75, true)), (.i (.mov (.tmp 9)))⟩, ⟨(some 77), none, (.i (.pick (.tmp 75) (.tmp 76) (.cst (.bool false))))⟩, ⟨(some 78), none, (.i (.mov (.tmp 77)))⟩, ⟨(some 79), (some (78, true)), (.i (.fld 4 (.tmp 5)))⟩, ⟨(some 80), (some (78, true)), (.i (.ld true 1 (.tmp 79)))⟩, ⟨(some 81), (some (78, true)), (.i (.bin .eql (.tmp 80) (.cst (.int .i64 0))))⟩, ⟨(some 82), none, (.i (.pick (.tmp 78) (.tmp 81) (.cst (.bool false))))⟩, ⟨(some 6), none, (.i (.mov (.tmp 82)))⟩] false [])
        .ret)
        (.seq (.region [⟨(some 84), none, (.i (.bin .eql (.tmp 29) (.cst (.int .i64 4))))⟩, ⟨(some 83), none, (.i (.mov (.tmp 84)))⟩] false [])
        (.cond (.tmp 83)
          (.seq (.region [⟨(some 85), none, (.i (.mov (.tmp 7)))⟩, ⟨(some 86), none, (.i (.mov (.tmp 85)))⟩, ⟨(some 87), (some (86, true)), (.i (.mov (.tmp 8)))⟩, ⟨(some 88), none, (.i (.pick (.tmp 86) (.tmp 87) (.cst (.bool false))))⟩, ⟨(some 89), none, (.i (.mov (.tmp 88)))⟩, ⟨(some 90), (some (89, true)), (.i (.fld 3 (.tmp 5)))⟩, ⟨(some 91), (some (89, true)), (.i (.ld true 1 (.tmp 90)))⟩, ⟨(some 92), (some (89, true)), (.i (.bin .eql (.tmp 91) (.cst (.int .i64 0))))⟩, ⟨(some 93), none, (.i (.pick (.tmp 89) (.tmp 92) (.cst (.bool false))))⟩, ⟨(some 94), none, (.i (.mov (.tmp 93)))⟩, ⟨(some 95), (some (94, true)), (.i (.fld 4 (.tmp 5)))⟩, ⟨(some 96), (some (94, true)), (.i (.ld true 1 (.tmp 95)))⟩, ⟨(some 97), (some (94, true)), (.i (.mov (.tmp 0)))⟩, ⟨(some 98), (some (94, true)), (.i (.bin .sub (.tmp 97) (.cst (.int .i64 1))))⟩, ⟨(some 99), (some (94, true)), (.call (.cst (.fn 37 [])) [(.tmp 96), (.cst (.int .i64 0)), (.tmp 98)] [[], [], []])⟩, ⟨(some 100), none, (.i (.pick (.tmp 94) (.tmp 99) (.cst (.bool false))))⟩, ⟨(some 6), none, (.i (.mov (.tmp 100)))⟩] false [])
          .ret)
          (.seq (.seq (.region [⟨(some 102), none, (.i (.bin .eql (.tmp 29) (.cst (.int .i64 5))))⟩, ⟨(some 101), none, (.i (.mov (.tmp 102)))⟩] false [])
          (.cond (.tmp 101)
            .skip
            (.region [⟨(some 103), none, (.i (.bin .eql (.tmp 29) (.cst (.int .i64 6))))⟩, ⟨(some 101), none, (.i (.mov (.tmp 103)))⟩] false [])))
          (.cond (.tmp 101)
            (.seq (.region [⟨(some 104), none, (.i (.mov (.tmp 7)))⟩, ⟨(some 105), none, (.i (.mov (.tmp 104)))⟩, ⟨(some 106), (some (105, true)), (.i (.fld 2 (.tmp 5)))⟩, ⟨(some 107), (some (105, true)), (.i (.ld true 1 (.tmp 106)))⟩, ⟨(some 108), (some (105, true)), (.i (.fld 2 (.tmp 4)))⟩, ⟨(some 109), (some (105, true)), (.i (.ld true 1 (.tmp 108)))⟩, ⟨(some 110), (some (105, true)), (.i (.bin .sub (.tmp 109) (.cst (.int .i64 1))))⟩, ⟨(some 111), (some (105, true)), (.call (.cst (.fn 37 [])) [(.tmp 107), (.cst (.int .i64 0)), (.tmp 110)] [[], [], []])⟩, ⟨(some 112), none, (.i (.pick (.tmp 105) (.tmp 111) (.cst (.bool false))))⟩, ⟨(some 113), none, (.i (.mov (.tmp 112)))⟩, ⟨(some 114), (some (113, true)), (.i (.fld 3 (.tmp 5)))⟩, ⟨(some 115), (some (113, true)), (.i (.ld true 1 (.tmp 114)))⟩, ⟨(some 116), (some (113, true)), (.i (.bin .eql (.tmp 115) (.cst (.int .i64 0))))⟩, ⟨(some 117), none, (.i (.pick (.tmp 113) (.tmp 116) (.cst (.bool false))))⟩, ⟨(some 118), none, (.i (.mov (.tmp 117)))⟩, ⟨(some 119), (some (118, true)), (.i (.fld 4 (.tmp 5)))⟩, ⟨(some 120), (some (118, true)), (.i (.ld true 1 (.tmp 119)))⟩, ⟨(some 121), (some (118, true)), (.i (.bin .eql (.tmp 120) (.cst (.int .i64 0))))⟩, ⟨(some 122), none, (.i (.pick (.tmp 118) (.tmp 121) (.cst (.bool false))))⟩, ⟨(some 6), none, (.i (.mov (.tmp 122)))⟩] false [])
            .ret)
            (.seq (.region [⟨(some 124), none, (.i (.bin .eql (.tmp 29) (.cst (.int .i64 7))))⟩, ⟨(some 123), none, (.i (.mov (.tmp 124)))⟩] false [])
            (.cond (.tmp 123)
              (.seq (.region [⟨(some 125), none, (.i (.mov (.tmp 7)))⟩, ⟨(some 126), none, (.i (.mov (.tmp 125)))⟩, ⟨(some 127), (some (126, true)), (.i (.fld 2 (.tmp 5)))⟩, ⟨(some 128), (some (126, true)), (.i (.ld true 1 (.tmp 127)))⟩, ⟨(some 129), (some (126, true)), (.i (.fld 1 (.tmp 4)))⟩, ⟨(some 130), (some (126, true)), (.i (.ld true 1 (.tmp 129)))⟩, ⟨(some 131), (some (126, true)), (.i (.bin .sub (.tmp 130) (.cst (.int .i64 1))))⟩, ⟨(some 132), (some (126, true)), (.call (.cst (.fn 37 [])) [(.tmp 128), (.cst (.int .i64 0)), (.tmp 131)] [[], [], []])⟩, ⟨(some 133), none, (.i (.pick (.tmp 126) (.tmp 132) (.cst (.bool false))))⟩, ⟨(some 134), none, (.i (.mov (.tmp 133)))⟩, ⟨(some 135), (some (134, true)), (.i (.fld 3 (.tmp 5)))⟩, ⟨(some 136), (some (134, true)), (.i (.ld true 1 (.tmp 135)))⟩, ⟨(some 137), (some (134, true)), (.i (.bin .eql (.tmp 136) (.cst (.int .i64 0))))⟩, ⟨(some 138), none, (.i (.pick (.tmp 134) (.tmp 137) (.cst (.bool false))))⟩, ⟨(some 139), none, (.i (.mov (.tmp 138)))⟩, ⟨(some 140), (some (139, true)), (.i (.fld 4 (.tmp 5)))⟩, ⟨(some 141), (some (139, true)), (.i (.ld true 1 (.tmp 140)))⟩, ⟨(some 142), (some (139, true)), (.i (.bin .eql (.tmp 141) (.cst (.int .i64 0))))⟩, ⟨(some 143), none, (.i (.pick (.tmp 139) (.tmp 142) (.cst (.bool false))))⟩, ⟨(some 6), none, (.i (.mov (.tmp 143)))⟩] false [])
              .ret)
              .skip))))))))))))))
  (.seq (.region [⟨(some 6), none, (.i (.mov (.cst (.bool false))))⟩] false [])
  .ret))))
def r_spec_cmInstr : List Res := [.tmp 6]
theorem c_spec_cmInstr : compiled Tryd.prog Tryd.f56 = some (m_spec_cmInstr, r_spec_cmInstr) := by kernel_rfl
theorem hb_spec_cmInstr : hasBody Tryd.prog 56 = true := by kernel_rfl
def L_spec_cmInstr (a0 : Int) (a1_0 : Int) (a1_1 : Int) (a1_2 : Int) (a1_3 : Int) (a1_4 : List (Int × Int × Int × Int × Int)) (a2_0 : Int) (a2_1 : Int) (a2_2 : Int) (a2_3 : Int) (a2_4 : Int) : Option Bool :=
  Option.bind (L_spec_l1In a2_1 0 (IntKind.i64.wrap (a1_3 - 1))) fun y3 =>
Option.bind (L_spec_l1In a2_2 0 (IntKind.i64.wrap (a1_3 - 1))) fun y4 =>
Option.bind (L_spec_l1In a2_3 0 (IntKind.i64.wrap (a1_3 - 1))) fun y5 =>
cond (a2_0 == 1)
  (Option.bind (cond y3
      (Option.bind (L_spec_l1In a2_2 0 (IntKind.i64.wrap (a1_0 - 1))) fun y12 =>
      cond y12
        (cond (a2_3 == 0)
          (some (a2_4 == 0))
          (some false))
        (some false))
      (some false)) fun l10_m6 =>
  some l10_m6)
  (cond (a2_0 == 2)
    (Option.bind (cond y3
        (cond (a2_2 == 0)
          (cond (a2_3 == 0)
            (some (a2_4 == 0))
            (some false))
          (some false))
        (some false)) fun l17_m6 =>
    some l17_m6)
    (cond (a2_0 == 3)
      (Option.bind (cond y3
          (cond y4
            (cond y5
              (some (a2_4 == 0))
              (some false))
            (some false))
          (some false)) fun l23_m6 =>
      some l23_m6)
      (cond (a2_0 == 4)
        (Option.bind (cond y3
            (cond y4
              (cond (a2_3 == 0)
                (Option.bind (L_spec_l1In a2_4 0 (IntKind.i64.wrap (a0 - 1))) fun y33 =>
                some y33)
                (some false))
              (some false))
            (some false)) fun l29_m6 =>
        some l29_m6)
        (Option.bind (cond (a2_0 == 5)
            (some (a2_0 == 5))
            (some (a2_0 == 6))) fun l34_m101 =>
        cond l34_m101
          (Option.bind (cond y3
              (Option.bind (L_spec_l1In a2_2 0 (IntKind.i64.wrap (a1_2 - 1))) fun y40 =>
              cond y40
                (cond (a2_3 == 0)
                  (some (a2_4 == 0))
                  (some false))
                (some false))
              (some false)) fun l38_m6 =>
          some l38_m6)
          (cond (a2_0 == 7)
            (Option.bind (cond y3
                (Option.bind (L_spec_l1In a2_2 0 (IntKind.i64.wrap (a1_1 - 1))) fun y47 =>
                cond y47
                  (cond (a2_3 == 0)
                    (some (a2_4 == 0))
                    (some false))
                  (some false))
                (some false)) fun l45_m6 =>
            some l45_m6)
            (some false))))))
def rv_spec_cmInstr (r : Bool) : RV := ⟨false, [(false, [.sc (.bool r)])]⟩
theorem ok_spec_cmInstr {a0 : Int} {a1_0 : Int} {a1_1 : Int} {a1_2 : Int} {a1_3 : Int} {a1_4 : List (Int × Int × Int × Int × Int)} {a2_0 : Int} {a2_1 : Int} {a2_2 : Int} {a2_3 : Int} {a2_4 : Int} {r : Bool} (h : L_spec_cmInstr a0 a1_0 a1_1 a1_2 a1_3 a1_4 a2_0 a2_1 a2_2 a2_3 a2_4 = some r) : CallOK Tryd.prog Tab 56 [(.int .i64 a0), (.agg [(.int .i64 a1_0), (.int .i64 a1_1), (.int .i64 a1_2), (.int .i64 a1_3), (.tree (.pair .int (.pair .int (.pair .int (.pair .int .int)))) a1_4)]), (.agg [(.int .i64 a2_0), (.int .i64 a2_1), (.int .i64 a2_2), (.int .i64 a2_3), (.int .i64 a2_4)])] (rv_spec_cmInstr r) := by
  refine call_of_ (by kernel_rfl) Tryd.func56 c_spec_cmInstr (n := 144) (by kernel_rfl) (by simp) (tl := [(0, (.int .i64 a0)), (1, (.agg [(.int .i64 a1_0), (.int .i64 a1_1), (.int .i64 a1_2), (.int .i64 a1_3), (.tree (.pair .int (.pair .int (.pair .int (.pair .int .int)))) a1_4)])), (2, (.agg [(.int .i64 a2_0), (.int .i64 a2_1), (.int .i64 a2_2), (.int .i64 a2_3), (.int .i64 a2_4)]))]) rfl ?_
  unfold m_spec_cmInstr
  unfold L_spec_cmInstr at h
  refine awp_seq_ ?_
  refine awp_region_ 4 (by kernel_rfl) ?_
  refine rs1 (.box (4, 1) 0) (4, 1) (.cells 29 [(.int .i64 a1_0), (.int .i64 a1_1), (.int .i64 a1_2), (.int .i64 a1_3), (.tree (.pair .int (.pair .int (.pair .int (.pair .int .int)))) a1_4)]) (by kernel_rfl) ?_
  refine rs1 (.box (5, 2) 0) (5, 2) (.cells 69 [(.int .i64 a2_0), (.int .i64 a2_1), (.int .i64 a2_2), (.int .i64 a2_3), (.int .i64 a2_4)]) (by kernel_rfl) ?_
  refine rs0 (.bool false) (by kernel_rfl) ?_
  refine rnil (tn_ ?_)
  refine awp_seq_ ?_
  obtain ⟨y3, h3, h⟩ := ob_some h
  obtain ⟨y4, h4, h⟩ := ob_some h
  obtain ⟨y5, h5, h⟩ := ob_some h
  refine awp_regionD_ 25 (by kernel_rfl) ?_
  refine ds0 (.box (5, 2) 1) (by kernel_rfl) ?_
  refine dsl (.int .i64 a2_1) (by kernel_rfl) ?_
  refine ds0 (.box (4, 1) 3) (by kernel_rfl) ?_
  refine dsl (.int .i64 a1_3) (by kernel_rfl) ?_
  refine ds0 (.int .i64 (IntKind.i64.wrap (a1_3 - 1))) (by kernel_rfl) ?_
  refine dcall (.bool y3) [] [(.int .i64 a2_1), (.int .i64 0), (.int .i64 (IntKind.i64.wrap (a1_3 - 1)))] _ (caps := []) (args0 := [(.int .i64 a2_1), (.int .i64 0), (.int .i64 (IntKind.i64.wrap (a1_3 - 1)))]) trivial (by kernel_rfl) (by kernel_rfl) (by kernel_rfl) (by kernel_rfl) (ok_spec_l1In h3) hb_spec_l1In (by kernel_rfl) ?_
  refine ds0 (.box (5, 2) 2) (by kernel_rfl) ?_
  refine dsl (.int .i64 a2_2) (by kernel_rfl) ?_
  refine ds0 (.box (4, 1) 3) (by kernel_rfl) ?_
  refine dsl (.int .i64 a1_3) (by kernel_rfl) ?_
  refine ds0 (.int .i64 (IntKind.i64.wrap (a1_3 - 1))) (by kernel_rfl) ?_
  refine dcall (.bool y4) [] [(.int .i64 a2_2), (.int .i64 0), (.int .i64 (IntKind.i64.wrap (a1_3 - 1)))] _ (caps := []) (args0 := [(.int .i64 a2_2), (.int .i64 0), (.int .i64 (IntKind.i64.wrap (a1_3 - 1)))]) trivial (by kernel_rfl) (by kernel_rfl) (by kernel_rfl) (by kernel_rfl) (ok_spec_l1In h4) hb_spec_l1In (by kernel_rfl) ?_
  refine ds0 (.box (5, 2) 3) (by kernel_rfl) ?_
  refine dsl (.int .i64 a2_3) (by kernel_rfl) ?_
  refine ds0 (.box (4, 1) 3) (by kernel_rfl) ?_
  refine dsl (.int .i64 a1_3) (by kernel_rfl) ?_
  refine ds0 (.int .i64 (IntKind.i64.wrap (a1_3 - 1))) (by kernel_rfl) ?_
  refine dcall (.bool y5) [] [(.int .i64 a2_3), (.int .i64 0), (.int .i64 (IntKind.i64.wrap (a1_3 - 1)))] _ (caps := []) (args0 := [(.int .i64 a2_3), (.int .i64 0), (.int .i64 (IntKind.i64.wrap (a1_3 - 1)))]) trivial (by kernel_rfl) (by kernel_rfl) (by kernel_rfl) (by kernel_rfl) (ok_spec_l1In h5) hb_spec_l1In (by kernel_rfl) ?_
  refine ds0 (.bool y3) (by kernel_rfl) ?_
  refine ds0 (.bool y4) (by kernel_rfl) ?_
  refine ds0 (.bool y5) (by kernel_rfl) ?_
  refine dnil (by kernel_rfl) (tn_ ?_)
  refine awp_seq_ ?_
  refine awp_seq_ ?_
  refine awp_region_ 27 (by kernel_rfl) ?_
  refine rs0 (.box (5, 2) 0) (by kernel_rfl) ?_
  refine rsl (.int .i64 a2_0) (by kernel_rfl) ?_
  refine rnil (tn_ ?_)
  refine awp_block_ ?_
  refine awp_seq_ ?_
  refine awp_region_ 29 (by kernel_rfl) ?_
  refine rs0 (.bool (a2_0 == 1)) (by kernel_rfl) ?_
  refine rs0 (.bool (a2_0 == 1)) (by kernel_rfl) ?_
  refine rnil (tn_ ?_)
  rcases cond_some h with ⟨q9, h⟩ | ⟨q9, h⟩
  · refine awp_condT_ q9 (by kernel_rfl) ?_
    refine awp_seqB h (fun (l10_m6 : Bool) S_ => S_ = ⟨mkTm [(6, (.bool l10_m6))], mkOb (someL []), 2⟩) ?_ ?_
    · intro v_ h
      rcases cond_some h with ⟨q11, h⟩ | ⟨q11, h⟩
      · obtain ⟨y12, h12, h⟩ := ob_some h
        rcases cond_some h with ⟨q13, h⟩ | ⟨q13, h⟩
        · rcases cond_some h with ⟨q14, h⟩ | ⟨q14, h⟩
          · refine awp_region_ 49 (by kernel_rfl) ?_
            refine rs0 (.bool y3) (by kernel_rfl) ?_
            refine rs0 (.bool y3) (by kernel_rfl) ?_
            refine rs0 (.box (5, 2) 2) (s_gd (by kernel_rfl) q11 (by kernel_rfl)) ?_
            refine rsl (.int .i64 a2_2) (s_gd (by kernel_rfl) q11 (by kernel_rfl)) ?_
            refine rs0 (.box (4, 1) 0) (s_gd (by kernel_rfl) q11 (by kernel_rfl)) ?_
            refine rsl (.int .i64 a1_0) (s_gd (by kernel_rfl) q11 (by kernel_rfl)) ?_
            refine rs0 (.int .i64 (IntKind.i64.wrap (a1_0 - 1))) (s_gd (by kernel_rfl) q11 (by kernel_rfl)) ?_
            refine rcall (.bool y12) [] [(.int .i64 a2_2), (.int .i64 0), (.int .i64 (IntKind.i64.wrap (a1_0 - 1)))] _ (caps := []) (args0 := [(.int .i64 a2_2), (.int .i64 0), (.int .i64 (IntKind.i64.wrap (a1_0 - 1)))]) (gdOK_b (by kernel_rfl) q11) (by kernel_rfl) (by kernel_rfl) (by kernel_rfl) (by kernel_rfl) (ok_spec_l1In h12) hb_spec_l1In (by kernel_rfl) ?_
            refine rs0 (.bool y12) (s_pickT (by kernel_rfl) q11) ?_
            refine rs0 (.bool y12) (by kernel_rfl) ?_
            refine rs0 (.box (5, 2) 3) (s_gd (by kernel_rfl) q13 (by kernel_rfl)) ?_
            refine rsl (.int .i64 a2_3) (s_gd (by kernel_rfl) q13 (by kernel_rfl)) ?_
            refine rs0 (.bool (a2_3 == 0)) (s_gd (by kernel_rfl) q13 (by kernel_rfl)) ?_
            refine rs0 (.bool (a2_3 == 0)) (s_pickT (by kernel_rfl) q13) ?_
            refine rs0 (.bool (a2_3 == 0)) (by kernel_rfl) ?_
            refine rs0 (.box (5, 2) 4) (s_gd (by kernel_rfl) q14 (by kernel_rfl)) ?_
            refine rsl (.int .i64 a2_4) (s_gd (by kernel_rfl) q14 (by kernel_rfl)) ?_
            refine rs0 (.bool (a2_4 == 0)) (s_gd (by kernel_rfl) q14 (by kernel_rfl)) ?_
            refine rs0 (.bool (a2_4 == 0)) (s_pickT (by kernel_rfl) q14) ?_
            refine rs0 (.bool (a2_4 == 0)) (by kernel_rfl) ?_
            refine rnil (tn_ ?_)
            obtain rfl := Option.some.inj h
            exact ⟨_, (weak_ren (renF []) (by kernel_rfl) (by kernel_rfl) (by kernel_rfl)), rfl⟩
          · refine awp_region_ 49 (by kernel_rfl) ?_
            refine rs0 (.bool y3) (by kernel_rfl) ?_
            refine rs0 (.bool y3) (by kernel_rfl) ?_
            refine rs0 (.box (5, 2) 2) (s_gd (by kernel_rfl) q11 (by kernel_rfl)) ?_
            refine rsl (.int .i64 a2_2) (s_gd (by kernel_rfl) q11 (by kernel_rfl)) ?_
            refine rs0 (.box (4, 1) 0) (s_gd (by kernel_rfl) q11 (by kernel_rfl)) ?_
            refine rsl (.int .i64 a1_0) (s_gd (by kernel_rfl) q11 (by kernel_rfl)) ?_
            refine rs0 (.int .i64 (IntKind.i64.wrap (a1_0 - 1))) (s_gd (by kernel_rfl) q11 (by kernel_rfl)) ?_
            refine rcall (.bool y12) [] [(.int .i64 a2_2), (.int .i64 0), (.int .i64 (IntKind.i64.wrap (a1_0 - 1)))] _ (caps := []) (args0 := [(.int .i64 a2_2), (.int .i64 0), (.int .i64 (IntKind.i64.wrap (a1_0 - 1)))]) (gdOK_b (by kernel_rfl) q11) (by kernel_rfl) (by kernel_rfl) (by kernel_rfl) (by kernel_rfl) (ok_spec_l1In h12) hb_spec_l1In (by kernel_rfl) ?_
            refine rs0 (.bool y12) (s_pickT (by kernel_rfl) q11) ?_
            refine rs0 (.bool y12) (by kernel_rfl) ?_
            refine rs0 (.box (5, 2) 3) (s_gd (by kernel_rfl) q13 (by kernel_rfl)) ?_
            refine rsl (.int .i64 a2_3) (s_gd (by kernel_rfl) q13 (by kernel_rfl)) ?_
            refine rs0 (.bool (a2_3 == 0)) (s_gd (by kernel_rfl) q13 (by kernel_rfl)) ?_
            refine rs0 (.bool (a2_3 == 0)) (s_pickT (by kernel_rfl) q13) ?_
            refine rs0 (.bool (a2_3 == 0)) (by kernel_rfl) ?_
            refine rs0 .any (s_skip (by kernel_rfl) q14) ?_
            refine rs0 .any (s_skip (by kernel_rfl) q14) ?_
            refine rs0 .any (s_skip (by kernel_rfl) q14) ?_
            refine rs0 (.bool false) (s_pickF (by kernel_rfl) q14) ?_
            refine rs0 (.bool false) (by kernel_rfl) ?_
            refine rnil (tn_ ?_)
            obtain rfl := Option.some.inj h
            exact ⟨_, (weak_ren (renF []) (by kernel_rfl) (by kernel_rfl) (by kernel_rfl)), rfl⟩
        · refine awp_region_ 49 (by kernel_rfl) ?_
          refine rs0 (.bool y3) (by kernel_rfl) ?_
          refine rs0 (.bool y3) (by kernel_rfl) ?_
          refine rs0 (.box (5, 2) 2) (s_gd (by kernel_rfl) q11 (by kernel_rfl)) ?_
          refine rsl (.int .i64 a2_2) (s_gd (by kernel_rfl) q11 (by kernel_rfl)) ?_
          refine rs0 (.box (4, 1) 0) (s_gd (by kernel_rfl) q11 (by kernel_rfl)) ?_
          refine rsl (.int .i64 a1_0) (s_gd (by kernel_rfl) q11 (by kernel_rfl)) ?_
          refine rs0 (.int .i64 (IntKind.i64.wrap (a1_0 - 1))) (s_gd (by kernel_rfl) q11 (by kernel_rfl)) ?_
          refine rcall (.bool y12) [] [(.int .i64 a2_2), (.int .i64 0), (.int .i64 (IntKind.i64.wrap (a1_0 - 1)))] _ (caps := []) (args0 := [(.int .i64 a2_2), (.int .i64 0), (.int .i64 (IntKind.i64.wrap (a1_0 - 1)))]) (gdOK_b (by kernel_rfl) q11) (by kernel_rfl) (by kernel_rfl) (by kernel_rfl) (by kernel_rfl) (ok_spec_l1In h12) hb_spec_l1In (by kernel_rfl) ?_
          refine rs0 (.bool y12) (s_pickT (by kernel_rfl) q11) ?_
          refine rs0 (.bool y12) (by kernel_rfl) ?_
          refine rs0 .any (s_skip (by kernel_rfl) q13) ?_
          refine rs0 .any (s_skip (by kernel_rfl) q13) ?_
          refine rs0 .any (s_skip (by kernel_rfl) q13) ?_
          refine rs0 (.bool false) (s_pickF (by kernel_rfl) q13) ?_
          refine rs0 (.bool false) (by kernel_rfl) ?_
          refine rs0 .any (by kernel_rfl) ?_
          refine rs0 .any (by kernel_rfl) ?_
          refine rs0 .any (by kernel_rfl) ?_
          refine rs0 (.bool false) (by kernel_rfl) ?_
          refine rs0 (.bool false) (by kernel_rfl) ?_
          refine rnil (tn_ ?_)
          obtain rfl := Option.some.inj h
          exact ⟨_, (weak_ren (renF []) (by kernel_rfl) (by kernel_rfl) (by kernel_rfl)), rfl⟩
      · refine awp_region_ 49 (by kernel_rfl) ?_
        refine rs0 (.bool y3) (by kernel_rfl) ?_
        refine rs0 (.bool y3) (by kernel_rfl) ?_
        refine rs0 .any (s_skip (by kernel_rfl) q11) ?_
        refine rs0 .any (s_skip (by kernel_rfl) q11) ?_
        refine rs0 .any (s_skip (by kernel_rfl) q11) ?_
        refine rs0 .any (s_skip (by kernel_rfl) q11) ?_
        refine rs0 .any (s_skip (by kernel_rfl) q11) ?_
        refine rs0 .any (s_skip (by kernel_rfl) q11) ?_
        refine rs0 (.bool false) (s_pickF (by kernel_rfl) q11) ?_
        refine rs0 (.bool false) (by kernel_rfl) ?_
        refine rs0 .any (by kernel_rfl) ?_
        refine rs0 .any (by kernel_rfl) ?_
        refine rs0 .any (by kernel_rfl) ?_
        refine rs0 (.bool false) (by kernel_rfl) ?_
        refine rs0 (.bool false) (by kernel_rfl) ?_
        refine rs0 .any (by kernel_rfl) ?_
        refine rs0 .any (by kernel_rfl) ?_
        refine rs0 .any (by kernel_rfl) ?_
        refine rs0 (.bool false) (by kernel_rfl) ?_
        refine rs0 (.bool false) (by kernel_rfl) ?_
        refine rnil (tn_ ?_)
        obtain rfl := Option.some.inj h
        exact ⟨_, (weak_ren (renF []) (by kernel_rfl) (by kernel_rfl) (by kernel_rfl)), rfl⟩
    · rintro l10_m6 _ rfl h
      (try dsimp only at h)
      refine awp_ret_ (br_ (tr_ ?_))
      obtain rfl := Option.some.inj h
      exact ret_ [(.bool l10_m6)] (by simp) (by kernel_rfl) (p_one rfl (l_sc (by kernel_rfl)) p_nil) (by kernel_rfl) (by kernel_rfl)
  · refine awp_condF_ q9 (by kernel_rfl) ?_
    refine awp_seq_ ?_
    refine awp_region_ 31 (by kernel_rfl) ?_
    refine rs0 (.bool (a2_0 == 2)) (by kernel_rfl) ?_
    refine rs0 (.bool (a2_0 == 2)) (by kernel_rfl) ?_
    refine rnil (tn_ ?_)
    rcases cond_some h with ⟨q16, h⟩ | ⟨q16, h⟩
    · refine awp_condT_ q16 (by kernel_rfl) ?_
      refine awp_seqB h (fun (l17_m6 : Bool) S_ => S_ = ⟨mkTm [(6, (.bool l17_m6))], mkOb (someL []), 2⟩) ?_ ?_
      · intro v_ h
        rcases cond_some h with ⟨q18, h⟩ | ⟨q18, h⟩
        · rcases cond_some h with ⟨q19, h⟩ | ⟨q19, h⟩
          · rcases cond_some h with ⟨q20, h⟩ | ⟨q20, h⟩
            · refine awp_region_ 48 (by kernel_rfl) ?_
              refine rs0 (.bool y3) (by kernel_rfl) ?_
              refine rs0 (.bool y3) (by kernel_rfl) ?_
              refine rs0 (.box (5, 2) 2) (s_gd (by kernel_rfl) q18 (by kernel_rfl)) ?_
              refine rsl (.int .i64 a2_2) (s_gd (by kernel_rfl) q18 (by kernel_rfl)) ?_
              refine rs0 (.bool (a2_2 == 0)) (s_gd (by kernel_rfl) q18 (by kernel_rfl)) ?_
              refine rs0 (.bool (a2_2 == 0)) (s_pickT (by kernel_rfl) q18) ?_
              refine rs0 (.bool (a2_2 == 0)) (by kernel_rfl) ?_
              refine rs0 (.box (5, 2) 3) (s_gd (by kernel_rfl) q19 (by kernel_rfl)) ?_
              refine rsl (.int .i64 a2_3) (s_gd (by kernel_rfl) q19 (by kernel_rfl)) ?_
              refine rs0 (.bool (a2_3 == 0)) (s_gd (by kernel_rfl) q19 (by kernel_rfl)) ?_
              refine rs0 (.bool (a2_3 == 0)) (s_pickT (by kernel_rfl) q19) ?_
              refine rs0 (.bool (a2_3 == 0)) (by kernel_rfl) ?_
              refine rs0 (.box (5, 2) 4) (s_gd (by kernel_rfl) q20 (by kernel_rfl)) ?_
              refine rsl (.int .i64 a2_4) (s_gd (by kernel_rfl) q20 (by kernel_rfl)) ?_
              refine rs0 (.bool (a2_4 == 0)) (s_gd (by kernel_rfl) q20 (by kernel_rfl)) ?_
              refine rs0 (.bool (a2_4 == 0)) (s_pickT (by kernel_rfl) q20) ?_
              refine rs0 (.bool (a2_4 == 0)) (by kernel_rfl) ?_
              refine rnil (tn_ ?_)
              obtain rfl := Option.some.inj h
              exact ⟨_, (weak_ren (renF []) (by kernel_rfl) (by kernel_rfl) (by kernel_rfl)), rfl⟩
            · refine awp_region_ 48 (by kernel_rfl) ?_
              refine rs0 (.bool y3) (by kernel_rfl) ?_
              refine rs0 (.bool y3) (by kernel_rfl) ?_
              refine rs0 (.box (5, 2) 2) (s_gd (by kernel_rfl) q18 (by kernel_rfl)) ?_
              refine rsl (.int .i64 a2_2) (s_gd (by kernel_rfl) q18 (by kernel_rfl)) ?_
              refine rs0 (.bool (a2_2 == 0)) (s_gd (by kernel_rfl) q18 (by kernel_rfl)) ?_
              refine rs0 (.bool (a2_2 == 0)) (s_pickT (by kernel_rfl) q18) ?_
              refine rs0 (.bool (a2_2 == 0)) (by kernel_rfl) ?_
              refine rs0 (.box (5, 2) 3) (s_gd (by kernel_rfl) q19 (by kernel_rfl)) ?_
              refine rsl (.int .i64 a2_3) (s_gd (by kernel_rfl) q19 (by kernel_rfl)) ?_
              refine rs0 (.bool (a2_3 == 0)) (s_gd (by kernel_rfl) q19 (by kernel_rfl)) ?_
              refine rs0 (.bool (a2_3 == 0)) (s_pickT (by kernel_rfl) q19) ?_
              refine rs0 (.bool (a2_3 == 0)) (by kernel_rfl) ?_
              refine rs0 .any (s_skip (by kernel_rfl) q20) ?_
              refine rs0 .any (s_skip (by kernel_rfl) q20) ?_
              refine rs0 .any (s_skip (by kernel_rfl) q20) ?_
              refine rs0 (.bool false) (s_pickF (by kernel_rfl) q20) ?_
              refine rs0 (.bool false) (by kernel_rfl) ?_
              refine rnil (tn_ ?_)
              obtain rfl := Option.some.inj h
              exact ⟨_, (weak_ren (renF []) (by kernel_rfl) (by kernel_rfl) (by kernel_rfl)), rfl⟩
          · refine awp_region_ 48 (by kernel_rfl) ?_
            refine rs0 (.bool y3) (by kernel_rfl) ?_
            refine rs0 (.bool y3) (by kernel_rfl) ?_
            refine rs0 (.box (5, 2) 2) (s_gd (by kernel_rfl) q18 (by kernel_rfl)) ?_
            refine rsl (.int .i64 a2_2) (s_gd (by kernel_rfl) q18 (by kernel_rfl)) ?_
            refine rs0 (.bool (a2_2 == 0)) (s_gd (by kernel_rfl) q18 (by kernel_rfl)) ?_
            refine rs0 (.bool (a2_2 == 0)) (s_pickT (by kernel_rfl) q18) ?_
            refine rs0 (.bool (a2_2 == 0)) (by kernel_rfl) ?_
            refine rs0 .any (s_skip (by kernel_rfl) q19) ?_
            refine rs0 .any (s_skip (by kernel_rfl) q19) ?_
            refine rs0 .any (s_skip (by kernel_rfl) q19) ?_
            refine rs0 (.bool false) (s_pickF (by kernel_rfl) q19) ?_
            refine rs0 (.bool false) (by kernel_rfl) ?_
            refine rs0 .any (by kernel_rfl) ?_
            refine rs0 .any (by kernel_rfl) ?_
            refine rs0 .any (by kernel_rfl) ?_
            refine rs0 (.bool false) (by kernel_rfl) ?_
            refine rs0 (.bool false) (by kernel_rfl) ?_
            refine rnil (tn_ ?_)
            obtain rfl := Option.some.inj h
            exact ⟨_, (weak_ren (renF []) (by kernel_rfl) (by kernel_rfl) (by kernel_rfl)), rfl⟩
        · refine awp_region_ 48 (by kernel_rfl) ?_
          refine rs0 (.bool y3) (by kernel_rfl) ?_
          refine rs0 (.bool y3) (by kernel_rfl) ?_
          refine rs0 .any (s_skip (by kernel_rfl) q18) ?_
          refine rs0 .any (s_skip (by kernel_rfl) q18) ?_
          refine rs0 .any (s_skip (by kernel_rfl) q18) ?_
          refine rs0 (.bool false) (s_pickF (by kernel_rfl) q18) ?_
          refine rs0 (.bool false) (by kernel_rfl) ?_
          refine rs0 .any (by kernel_rfl) ?_
          refine rs0 .any (by kernel_rfl) ?_
          refine rs0 .any (by kernel_rfl) ?_
          refine rs0 (.bool false) (by kernel_rfl) ?_
          refine rs0 (.bool false) (by kernel_rfl) ?_
          refine rs0 .any (by kernel_rfl) ?_
          refine rs0 .any (by kernel_rfl) ?_
          refine rs0 .any (by kernel_rfl) ?_
          refine rs0 (.bool false) (by kernel_rfl) ?_
          refine rs0 (.bool false) (by kernel_rfl) ?_
          refine rnil (tn_ ?_)
          obtain rfl := Option.some.inj h
          exact ⟨_, (weak_ren (renF []) (by kernel_rfl) (by kernel_rfl) (by kernel_rfl)), rfl⟩
      · rintro l17_m6 _ rfl h
        (try dsimp only at h)
        refine awp_ret_ (br_ (tr_ ?_))
        obtain rfl := Option.some.inj h
        exact ret_ [(.bool l17_m6)] (by simp) (by kernel_rfl) (p_one rfl (l_sc (by kernel_rfl)) p_nil) (by kernel_rfl) (by kernel_rfl)
    · refine awp_condF_ q16 (by kernel_rfl) ?_
      refine awp_seq_ ?_
      refine awp_region_ 33 (by kernel_rfl) ?_
      refine rs0 (.bool (a2_0 == 3)) (by kernel_rfl) ?_
      refine rs0 (.bool (a2_0 == 3)) (by kernel_rfl) ?_
      refine rnil (tn_ ?_)
      rcases cond_some h with ⟨q22, h⟩ | ⟨q22, h⟩
      · refine awp_condT_ q22 (by kernel_rfl) ?_
        refine awp_seqB h (fun (l23_m6 : Bool) S_ => S_ = ⟨mkTm [(6, (.bool l23_m6))], mkOb (someL []), 2⟩) ?_ ?_
        · intro v_ h
          rcases cond_some h with ⟨q24, h⟩ | ⟨q24, h⟩
          · rcases cond_some h with ⟨q25, h⟩ | ⟨q25, h⟩
            · rcases cond_some h with ⟨q26, h⟩ | ⟨q26, h⟩
              · refine awp_region_ 46 (by kernel_rfl) ?_
                refine rs0 (.bool y3) (by kernel_rfl) ?_
                refine rs0 (.bool y3) (by kernel_rfl) ?_
                refine rs0 (.bool y4) (s_gd (by kernel_rfl) q24 (by kernel_rfl)) ?_
                refine rs0 (.bool y4) (s_pickT (by kernel_rfl) q24) ?_
                refine rs0 (.bool y4) (by kernel_rfl) ?_
                refine rs0 (.bool y5) (s_gd (by kernel_rfl) q25 (by kernel_rfl)) ?_
                refine rs0 (.bool y5) (s_pickT (by kernel_rfl) q25) ?_
                refine rs0 (.bool y5) (by kernel_rfl) ?_
                refine rs0 (.box (5, 2) 4) (s_gd (by kernel_rfl) q26 (by kernel_rfl)) ?_
                refine rsl (.int .i64 a2_4) (s_gd (by kernel_rfl) q26 (by kernel_rfl)) ?_
                refine rs0 (.bool (a2_4 == 0)) (s_gd (by kernel_rfl) q26 (by kernel_rfl)) ?_
                refine rs0 (.bool (a2_4 == 0)) (s_pickT (by kernel_rfl) q26) ?_
                refine rs0 (.bool (a2_4 == 0)) (by kernel_rfl) ?_
                refine rnil (tn_ ?_)
                obtain rfl := Option.some.inj h
                exact ⟨_, (weak_ren (renF []) (by kernel_rfl) (by kernel_rfl) (by kernel_rfl)), rfl⟩
              · refine awp_region_ 46 (by kernel_rfl) ?_
                refine rs0 (.bool y3) (by kernel_rfl) ?_
                refine rs0 (.bool y3) (by kernel_rfl) ?_
                refine rs0 (.bool y4) (s_gd (by kernel_rfl) q24 (by kernel_rfl)) ?_
                refine rs0 (.bool y4) (s_pickT (by kernel_rfl) q24) ?_
                refine rs0 (.bool y4) (by kernel_rfl) ?_
                refine rs0 (.bool y5) (s_gd (by kernel_rfl) q25 (by kernel_rfl)) ?_
                refine rs0 (.bool y5) (s_pickT (by kernel_rfl) q25) ?_
                refine rs0 (.bool y5) (by kernel_rfl) ?_
                refine rs0 .any (s_skip (by kernel_rfl) q26) ?_
                refine rs0 .any (s_skip (by kernel_rfl) q26) ?_
                refine rs0 .any (s_skip (by kernel_rfl) q26) ?_
                refine rs0 (.bool false) (s_pickF (by kernel_rfl) q26) ?_
                refine rs0 (.bool false) (by kernel_rfl) ?_
                refine rnil (tn_ ?_)
                obtain rfl := Option.some.inj h
                exact ⟨_, (weak_ren (renF []) (by kernel_rfl) (by kernel_rfl) (by kernel_rfl)), rfl⟩
            · refine awp_region_ 46 (by kernel_rfl) ?_
              refine rs0 (.bool y3) (by kernel_rfl) ?_
              refine rs0 (.bool y3) (by kernel_rfl) ?_
              refine rs0 (.bool y4) (s_gd (by kernel_rfl) q24 (by kernel_rfl)) ?_
              refine rs0 (.bool y4) (s_pickT (by kernel_rfl) q24) ?_
              refine rs0 (.bool y4) (by kernel_rfl) ?_
              refine rs0 .any (s_skip (by kernel_rfl) q25) ?_
              refine rs0 (.bool false) (s_pickF (by kernel_rfl) q25) ?_
              refine rs0 (.bool false) (by kernel_rfl) ?_
              refine rs0 .any (by kernel_rfl) ?_
              refine rs0 .any (by kernel_rfl) ?_
              refine rs0 .any (by kernel_rfl) ?_
              refine rs0 (.bool false) (by kernel_rfl) ?_
              refine rs0 (.bool false) (by kernel_rfl) ?_
              refine rnil (tn_ ?_)
              obtain rfl := Option.some.inj h
              exact ⟨_, (weak_ren (renF []) (by kernel_rfl) (by kernel_rfl) (by kernel_rfl)), rfl⟩
          · refine awp_region_ 46 (by kernel_rfl) ?_
            refine rs0 (.bool y3) (by kernel_rfl) ?_
            refine rs0 (.bool y3) (by kernel_rfl) ?_
            refine rs0 .any (s_skip (by kernel_rfl) q24) ?_
            refine rs0 (.bool false) (s_pickF (by kernel_rfl) q24) ?_
            refine rs0 (.bool false) (by kernel_rfl) ?_
            refine rs0 .any (by kernel_rfl) ?_
            refine rs0 (.bool false) (by kernel_rfl) ?_
            refine rs0 (.bool false) (by kernel_rfl) ?_
            refine rs0 .any (by kernel_rfl) ?_
            refine rs0 .any (by kernel_rfl) ?_
            refine rs0 .any (by kernel_rfl) ?_
            refine rs0 (.bool false) (by kernel_rfl) ?_
            refine rs0 (.bool false) (by kernel_rfl) ?_
            refine rnil (tn_ ?_)
            obtain rfl := Option.some.inj h
            exact ⟨_, (weak_ren (renF []) (by kernel_rfl) (by kernel_rfl) (by kernel_rfl)), rfl⟩
        · rintro l23_m6 _ rfl h
          (try dsimp only at h)
          refine awp_ret_ (br_ (tr_ ?_))
          obtain rfl := Option.some.inj h
          exact ret_ [(.bool l23_m6)] (by simp) (by kernel_rfl) (p_one rfl (l_sc (by kernel_rfl)) p_nil) (by kernel_rfl) (by kernel_rfl)
      · refine awp_condF_ q22 (by kernel_rfl) ?_
        refine awp_seq_ ?_
        refine awp_region_ 35 (by kernel_rfl) ?_
        refine rs0 (.bool (a2_0 == 4)) (by kernel_rfl) ?_
        refine rs0 (.bool (a2_0 == 4)) (by kernel_rfl) ?_
        refine rnil (tn_ ?_)
        rcases cond_some h with ⟨q28, h⟩ | ⟨q28, h⟩
        · refine awp_condT_ q28 (by kernel_rfl) ?_
          refine awp_seqB h (fun (l29_m6 : Bool) S_ => S_ = ⟨mkTm [(6, (.bool l29_m6))], mkOb (someL []), 2⟩) ?_ ?_
          · intro v_ h
            rcases cond_some h with ⟨q30, h⟩ | ⟨q30, h⟩
            · rcases cond_some h with ⟨q31, h⟩ | ⟨q31, h⟩
              · rcases cond_some h with ⟨q32, h⟩ | ⟨q32, h⟩
                · obtain ⟨y33, h33, h⟩ := ob_some h
                  refine awp_region_ 52 (by kernel_rfl) ?_
                  refine rs0 (.bool y3) (by kernel_rfl) ?_
                  refine rs0 (.bool y3) (by kernel_rfl) ?_
                  refine rs0 (.bool y4) (s_gd (by kernel_rfl) q30 (by kernel_rfl)) ?_
                  refine rs0 (.bool y4) (s_pickT (by kernel_rfl) q30) ?_
                  refine rs0 (.bool y4) (by kernel_rfl) ?_
                  refine rs0 (.box (5, 2) 3) (s_gd (by kernel_rfl) q31 (by kernel_rfl)) ?_
                  refine rsl (.int .i64 a2_3) (s_gd (by kernel_rfl) q31 (by kernel_rfl)) ?_
                  refine rs0 (.bool (a2_3 == 0)) (s_gd (by kernel_rfl) q31 (by kernel_rfl)) ?_
                  refine rs0 (.bool (a2_3 == 0)) (s_pickT (by kernel_rfl) q31) ?_
                  refine rs0 (.bool (a2_3 == 0)) (by kernel_rfl) ?_
                  refine rs0 (.box (5, 2) 4) (s_gd (by kernel_rfl) q32 (by kernel_rfl)) ?_
                  refine rsl (.int .i64 a2_4) (s_gd (by kernel_rfl) q32 (by kernel_rfl)) ?_
                  refine rs0 (.int .i64 a0) (s_gd (by kernel_rfl) q32 (by kernel_rfl)) ?_
                  refine rs0 (.int .i64 (IntKind.i64.wrap (a0 - 1))) (s_gd (by kernel_rfl) q32 (by kernel_rfl)) ?_
                  refine rcall (.bool y33) [] [(.int .i64 a2_4), (.int .i64 0), (.int .i64 (IntKind.i64.wrap (a0 - 1)))] _ (caps := []) (args0 := [(.int .i64 a2_4), (.int .i64 0), (.int .i64 (IntKind.i64.wrap (a0 - 1)))]) (gdOK_b (by kernel_rfl) q32) (by kernel_rfl) (by kernel_rfl) (by kernel_rfl) (by kernel_rfl) (ok_spec_l1In h33) hb_spec_l1In (by kernel_rfl) ?_
                  refine rs0 (.bool y33) (s_pickT (by kernel_rfl) q32) ?_
                  refine rs0 (.bool y33) (by kernel_rfl) ?_
                  refine rnil (tn_ ?_)
                  obtain rfl := Option.some.inj h
                  exact ⟨_, (weak_ren (renF []) (by kernel_rfl) (by kernel_rfl) (by kernel_rfl)), rfl⟩
                · refine awp_region_ 52 (by kernel_rfl) ?_
                  refine rs0 (.bool y3) (by kernel_rfl) ?_
                  refine rs0 (.bool y3) (by kernel_rfl) ?_
                  refine rs0 (.bool y4) (s_gd (by kernel_rfl) q30 (by kernel_rfl)) ?_
                  refine rs0 (.bool y4) (s_pickT (by kernel_rfl) q30) ?_
                  refine rs0 (.bool y4) (by kernel_rfl) ?_
                  refine rs0 (.box (5, 2) 3) (s_gd (by kernel_rfl) q31 (by kernel_rfl)) ?_
                  refine rsl (.int .i64 a2_3) (s_gd (by kernel_rfl) q31 (by kernel_rfl)) ?_
                  refine rs0 (.bool (a2_3 == 0)) (s_gd (by kernel_rfl) q31 (by kernel_rfl)) ?_
                  refine rs0 (.bool (a2_3 == 0)) (s_pickT (by kernel_rfl) q31) ?_
                  refine rs0 (.bool (a2_3 == 0)) (by kernel_rfl) ?_
                  refine rs0 .any (s_skip (by kernel_rfl) q32) ?_
                  refine rs0 .any (s_skip (by kernel_rfl) q32) ?_
                  refine rs0 .any (s_skip (by kernel_rfl) q32) ?_
                  refine rs0 .any (s_skip (by kernel_rfl) q32) ?_
                  refine rs0 .any (s_skip (by kernel_rfl) q32) ?_
                  refine rs0 (.bool false) (s_pickF (by kernel_rfl) q32) ?_
                  refine rs0 (.bool false) (by kernel_rfl) ?_
                  refine rnil (tn_ ?_)
                  obtain rfl := Option.some.inj h
                  exact ⟨_, (weak_ren (renF []) (by kernel_rfl) (by kernel_rfl) (by kernel_rfl)), rfl⟩
              · refine awp_region_ 52 (by kernel_rfl) ?_
                refine rs0 (.bool y3) (by kernel_rfl) ?_
                refine rs0 (.bool y3) (by kernel_rfl) ?_
                refine rs0 (.bool y4) (s_gd (by kernel_rfl) q30 (by kernel_rfl)) ?_
                refine rs0 (.bool y4) (s_pickT (by kernel_rfl) q30) ?_
                refine rs0 (.bool y4) (by kernel_rfl) ?_
                refine rs0 .any (s_skip (by kernel_rfl) q31) ?_
                refine rs0 .any (s_skip (by kernel_rfl) q31) ?_
                refine rs0 .any (s_skip (by kernel_rfl) q31) ?_
                refine rs0 (.bool false) (s_pickF (by kernel_rfl) q31) ?_
                refine rs0 (.bool false) (by kernel_rfl) ?_
                refine rs0 .any (by kernel_rfl) ?_
                refine rs0 .any (by kernel_rfl) ?_
                refine rs0 .any (by kernel_rfl) ?_
                refine rs0 .any (by kernel_rfl) ?_
                refine rs0 .any (by kernel_rfl) ?_
                refine rs0 (.bool false) (by kernel_rfl) ?_
                refine rs0 (.bool false) (by kernel_rfl) ?_
                refine rnil (tn_ ?_)
                obtain rfl := Option.some.inj h
                exact ⟨_, (weak_ren (renF []) (by kernel_rfl) (by kernel_rfl) (by kernel_rfl)), rfl⟩
            · refine awp_region_ 52 (by kernel_rfl) ?_
              refine rs0 (.bool y3) (by kernel_rfl) ?_
              refine rs0 (.bool y3) (by kernel_rfl) ?_
              refine rs0 .any (s_skip (by kernel_rfl) q30) ?_
              refine rs0 (.bool false) (s_pickF (by kernel_rfl) q30) ?_
              refine rs0 (.bool false) (by kernel_rfl) ?_
              refine rs0 .any (by kernel_rfl) ?_
              refine rs0 .any (by kernel_rfl) ?_
              refine rs0 .any (by kernel_rfl) ?_
              refine rs0 (.bool false) (by kernel_rfl) ?_
              refine rs0 (.bool false) (by kernel_rfl) ?_
              refine rs0 .any (by kernel_rfl) ?_
              refine rs0 .any (by kernel_rfl) ?_
              refine rs0 .any (by kernel_rfl) ?_
              refine rs0 .any (by kernel_rfl) ?_
              refine rs0 .any (by kernel_rfl) ?_
              refine rs0 (.bool false) (by kernel_rfl) ?_
              refine rs0 (.bool false) (by kernel_rfl) ?_
              refine rnil (tn_ ?_)
              obtain rfl := Option.some.inj h
              exact ⟨_, (weak_ren (renF []) (by kernel_rfl) (by kernel_rfl) (by kernel_rfl)), rfl⟩
          · rintro l29_m6 _ rfl h
            (try dsimp only at h)
            refine awp_ret_ (br_ (tr_ ?_))
            obtain rfl := Option.some.inj h
            exact ret_ [(.bool l29_m6)] (by simp) (by kernel_rfl) (p_one rfl (l_sc (by kernel_rfl)) p_nil) (by kernel_rfl) (by kernel_rfl)
        · refine awp_condF_ q28 (by kernel_rfl) ?_
          refine awp_seqB h (fun (l34_m101 : Bool) S_ => S_ = ⟨mkTm [(4, (.box (0, 1) 0)), (5, (.box (1, 1) 0)), (7, (.bool y3)), (29, (.int .i64 a2_0)), (101, (.bool l34_m101))], mkOb (someL [((0, 1), .cells 29 [(.int .i64 a1_0), (.int .i64 a1_1), (.int .i64 a1_2), (.int .i64 a1_3), (.tree (.pair .int (.pair .int (.pair .int (.pair .int .int)))) a1_4)]), ((1, 1), .cells 69 [(.int .i64 a2_0), (.int .i64 a2_1), (.int .i64 a2_2), (.int .i64 a2_3), (.int .i64 a2_4)])]), 2⟩) ?_ ?_
          · intro v_ h
            refine awp_seq_ ?_
            refine awp_region_ 37 (by kernel_rfl) ?_
            refine rs0 (.bool (a2_0 == 5)) (by kernel_rfl) ?_
            refine rs0 (.bool (a2_0 == 5)) (by kernel_rfl) ?_
            refine rnil (tn_ ?_)
            rcases cond_some h with ⟨q36, h⟩ | ⟨q36, h⟩
            · refine awp_condT_ q36 (by kernel_rfl) ?_
              refine awp_skip_ (tn_ ?_)
              obtain rfl := Option.some.inj h
              exact ⟨_, (weak_ren (renF [((0, 1), (4, 1)), ((1, 1), (5, 2))]) (by kernel_rfl) (by kernel_rfl) (by kernel_rfl)), rfl⟩
            · refine awp_condF_ q36 (by kernel_rfl) ?_
              refine awp_region_ 39 (by kernel_rfl) ?_
              refine rs0 (.bool (a2_0 == 6)) (by kernel_rfl) ?_
              refine rs0 (.bool (a2_0 == 6)) (by kernel_rfl) ?_
              refine rnil (tn_ ?_)
              obtain rfl := Option.some.inj h
              exact ⟨_, (weak_ren (renF [((0, 1), (4, 1)), ((1, 1), (5, 2))]) (by kernel_rfl) (by kernel_rfl) (by kernel_rfl)), rfl⟩
          · rintro l34_m101 _ rfl h
            (try dsimp only at h)
            rcases cond_some h with ⟨q37, h⟩ | ⟨q37, h⟩
            · refine awp_condT_ q37 (by kernel_rfl) ?_
              refine awp_seqB h (fun (l38_m6 : Bool) S_ => S_ = ⟨mkTm [(6, (.bool l38_m6))], mkOb (someL []), 2⟩) ?_ ?_
              · intro v_ h
                rcases cond_some h with ⟨q39, h⟩ | ⟨q39, h⟩
                · obtain ⟨y40, h40, h⟩ := ob_some h
                  rcases cond_some h with ⟨q41, h⟩ | ⟨q41, h⟩
                  · rcases cond_some h with ⟨q42, h⟩ | ⟨q42, h⟩
                    · refine awp_region_ 22 (by kernel_rfl) ?_
                      refine rs0 (.bool y3) (by kernel_rfl) ?_
                      refine rs0 (.bool y3) (by kernel_rfl) ?_
                      refine rs0 (.box (1, 1) 2) (s_gd (by kernel_rfl) q39 (by kernel_rfl)) ?_
                      refine rsl (.int .i64 a2_2) (s_gd (by kernel_rfl) q39 (by kernel_rfl)) ?_
                      refine rs0 (.box (0, 1) 2) (s_gd (by kernel_rfl) q39 (by kernel_rfl)) ?_
                      refine rsl (.int .i64 a1_2) (s_gd (by kernel_rfl) q39 (by kernel_rfl)) ?_
                      refine rs0 (.int .i64 (IntKind.i64.wrap (a1_2 - 1))) (s_gd (by kernel_rfl) q39 (by kernel_rfl)) ?_
                      refine rcall (.bool y40) [] [(.int .i64 a2_2), (.int .i64 0), (.int .i64 (IntKind.i64.wrap (a1_2 - 1)))] _ (caps := []) (args0 := [(.int .i64 a2_2), (.int .i64 0), (.int .i64 (IntKind.i64.wrap (a1_2 - 1)))]) (gdOK_b (by kernel_rfl) q39) (by kernel_rfl) (by kernel_rfl) (by kernel_rfl) (by kernel_rfl) (ok_spec_l1In h40) hb_spec_l1In (by kernel_rfl) ?_
                      refine rs0 (.bool y40) (s_pickT (by kernel_rfl) q39) ?_
                      refine rs0 (.bool y40) (by kernel_rfl) ?_
                      refine rs0 (.box (1, 1) 3) (s_gd (by kernel_rfl) q41 (by kernel_rfl)) ?_
                      refine rsl (.int .i64 a2_3) (s_gd (by kernel_rfl) q41 (by kernel_rfl)) ?_
                      refine rs0 (.bool (a2_3 == 0)) (s_gd (by kernel_rfl) q41 (by kernel_rfl)) ?_
                      refine rs0 (.bool (a2_3 == 0)) (s_pickT (by kernel_rfl) q41) ?_
                      refine rs0 (.bool (a2_3 == 0)) (by kernel_rfl) ?_
                      refine rs0 (.box (1, 1) 4) (s_gd (by kernel_rfl) q42 (by kernel_rfl)) ?_
                      refine rsl (.int .i64 a2_4) (s_gd (by kernel_rfl) q42 (by kernel_rfl)) ?_
                      refine rs0 (.bool (a2_4 == 0)) (s_gd (by kernel_rfl) q42 (by kernel_rfl)) ?_
                      refine rs0 (.bool (a2_4 == 0)) (s_pickT (by kernel_rfl) q42) ?_
                      refine rs0 (.bool (a2_4 == 0)) (by kernel_rfl) ?_
                      refine rnil (tn_ ?_)
                      obtain rfl := Option.some.inj h
                      exact ⟨_, (weak_ren (renF []) (by kernel_rfl) (by kernel_rfl) (by kernel_rfl)), rfl⟩
                    · refine awp_region_ 22 (by kernel_rfl) ?_
                      refine rs0 (.bool y3) (by kernel_rfl) ?_
                      refine rs0 (.bool y3) (by kernel_rfl) ?_
                      refine rs0 (.box (1, 1) 2) (s_gd (by kernel_rfl) q39 (by kernel_rfl)) ?_
                      refine rsl (.int .i64 a2_2) (s_gd (by kernel_rfl) q39 (by kernel_rfl)) ?_
                      refine rs0 (.box (0, 1) 2) (s_gd (by kernel_rfl) q39 (by kernel_rfl)) ?_
                      refine rsl (.int .i64 a1_2) (s_gd (by kernel_rfl) q39 (by kernel_rfl)) ?_
                      refine rs0 (.int .i64 (IntKind.i64.wrap (a1_2 - 1))) (s_gd (by kernel_rfl) q39 (by kernel_rfl)) ?_
                      refine rcall (.bool y40) [] [(.int .i64 a2_2), (.int .i64 0), (.int .i64 (IntKind.i64.wrap (a1_2 - 1)))] _ (caps := []) (args0 := [(.int .i64 a2_2), (.int .i64 0), (.int .i64 (IntKind.i64.wrap (a1_2 - 1)))]) (gdOK_b (by kernel_rfl) q39) (by kernel_rfl) (by kernel_rfl) (by kernel_rfl) (by kernel_rfl) (ok_spec_l1In h40) hb_spec_l1In (by kernel_rfl) ?_
                      refine rs0 (.bool y40) (s_pickT (by kernel_rfl) q39) ?_
                      refine rs0 (.bool y40) (by kernel_rfl) ?_
                      refine rs0 (.box (1, 1) 3) (s_gd (by kernel_rfl) q41 (by kernel_rfl)) ?_
                      refine rsl (.int .i64 a2_3) (s_gd (by kernel_rfl) q41 (by kernel_rfl)) ?_
                      refine rs0 (.bool (a2_3 == 0)) (s_gd (by kernel_rfl) q41 (by kernel_rfl)) ?_
                      refine rs0 (.bool (a2_3 == 0)) (s_pickT (by kernel_rfl) q41) ?_
                      refine rs0 (.bool (a2_3 == 0)) (by kernel_rfl) ?_
                      refine rs0 .any (s_skip (by kernel_rfl) q42) ?_
                      refine rs0 .any (s_skip (by kernel_rfl) q42) ?_
                      refine rs0 .any (s_skip (by kernel_rfl) q42) ?_
                      refine rs0 (.bool false) (s_pickF (by kernel_rfl) q42) ?_
                      refine rs0 (.bool false) (by kernel_rfl) ?_
                      refine rnil (tn_ ?_)
                      obtain rfl := Option.some.inj h
                      exact ⟨_, (weak_ren (renF []) (by kernel_rfl) (by kernel_rfl) (by kernel_rfl)), rfl⟩
                  · refine awp_region_ 22 (by kernel_rfl) ?_
                    refine rs0 (.bool y3) (by kernel_rfl) ?_
                    refine rs0 (.bool y3) (by kernel_rfl) ?_
                    refine rs0 (.box (1, 1) 2) (s_gd (by kernel_rfl) q39 (by kernel_rfl)) ?_
                    refine rsl (.int .i64 a2_2) (s_gd (by kernel_rfl) q39 (by kernel_rfl)) ?_
                    refine rs0 (.box (0, 1) 2) (s_gd (by kernel_rfl) q39 (by kernel_rfl)) ?_
                    refine rsl (.int .i64 a1_2) (s_gd (by kernel_rfl) q39 (by kernel_rfl)) ?_
                    refine rs0 (.int .i64 (IntKind.i64.wrap (a1_2 - 1))) (s_gd (by kernel_rfl) q39 (by kernel_rfl)) ?_
                    refine rcall (.bool y40) [] [(.int .i64 a2_2), (.int .i64 0), (.int .i64 (IntKind.i64.wrap (a1_2 - 1)))] _ (caps := []) (args0 := [(.int .i64 a2_2), (.int .i64 0), (.int .i64 (IntKind.i64.wrap (a1_2 - 1)))]) (gdOK_b (by kernel_rfl) q39) (by kernel_rfl) (by kernel_rfl) (by kernel_rfl) (by kernel_rfl) (ok_spec_l1In h40) hb_spec_l1In (by kernel_rfl) ?_
                    refine rs0 (.bool y40) (s_pickT (by kernel_rfl) q39) ?_
                    refine rs0 (.bool y40) (by kernel_rfl) ?_
                    refine rs0 .any (s_skip (by kernel_rfl) q41) ?_
                    refine rs0 .any (s_skip (by kernel_rfl) q41) ?_
                    refine rs0 .any (s_skip (by kernel_rfl) q41) ?_
                    refine rs0 (.bool false) (s_pickF (by kernel_rfl) q41) ?_
                    refine rs0 (.bool false) (by kernel_rfl) ?_
                    refine rs0 .any (by kernel_rfl) ?_
                    refine rs0 .any (by kernel_rfl) ?_
                    refine rs0 .any (by kernel_rfl) ?_
                    refine rs0 (.bool false) (by kernel_rfl) ?_
                    refine rs0 (.bool false) (by kernel_rfl) ?_
                    refine rnil (tn_ ?_)
                    obtain rfl := Option.some.inj h
                    exact ⟨_, (weak_ren (renF []) (by kernel_rfl) (by kernel_rfl) (by kernel_rfl)), rfl⟩
                · refine awp_region_ 22 (by kernel_rfl) ?_
                  refine rs0 (.bool y3) (by kernel_rfl) ?_
                  refine rs0 (.bool y3) (by kernel_rfl) ?_
                  refine rs0 .any (s_skip (by kernel_rfl) q39) ?_
                  refine rs0 .any (s_skip (by kernel_rfl) q39) ?_
                  refine rs0 .any (s_skip (by kernel_rfl) q39) ?_
                  refine rs0 .any (s_skip (by kernel_rfl) q39) ?_
                  refine rs0 .any (s_skip (by kernel_rfl) q39) ?_
                  refine rs0 .any (s_skip (by kernel_rfl) q39) ?_
                  refine rs0 (.bool false) (s_pickF (by kernel_rfl) q39) ?_
                  refine rs0 (.bool false) (by kernel_rfl) ?_
                  refine rs0 .any (by kernel_rfl) ?_
                  refine rs0 .any (by kernel_rfl) ?_
                  refine rs0 .any (by kernel_rfl) ?_
                  refine rs0 (.bool false) (by kernel_rfl) ?_
                  refine rs0 (.bool false) (by kernel_rfl) ?_
                  refine rs0 .any (by kernel_rfl) ?_
                  refine rs0 .any (by kernel_rfl) ?_
                  refine rs0 .any (by kernel_rfl) ?_
                  refine rs0 (.bool false) (by kernel_rfl) ?_
                  refine rs0 (.bool false) (by kernel_rfl) ?_
                  refine rnil (tn_ ?_)
                  obtain rfl := Option.some.inj h
                  exact ⟨_, (weak_ren (renF []) (by kernel_rfl) (by kernel_rfl) (by kernel_rfl)), rfl⟩
              · rintro l38_m6 _ rfl h
                (try dsimp only at h)
                refine awp_ret_ (br_ (tr_ ?_))
                obtain rfl := Option.some.inj h
                exact ret_ [(.bool l38_m6)] (by simp) (by kernel_rfl) (p_one rfl (l_sc (by kernel_rfl)) p_nil) (by kernel_rfl) (by kernel_rfl)
            · refine awp_condF_ q37 (by kernel_rfl) ?_
              refine awp_seq_ ?_
              refine awp_region_ 4 (by kernel_rfl) ?_
              refine rs0 (.bool (a2_0 == 7)) (by kernel_rfl) ?_
              refine rs0 (.bool (a2_0 == 7)) (by kernel_rfl) ?_
              refine rnil (tn_ ?_)
              rcases cond_some h with ⟨q44, h⟩ | ⟨q44, h⟩
              · refine awp_condT_ q44 (by kernel_rfl) ?_
                refine awp_seqB h (fun (l45_m6 : Bool) S_ => S_ = ⟨mkTm [(6, (.bool l45_m6))], mkOb (someL []), 2⟩) ?_ ?_
                · intro v_ h
                  rcases cond_some h with ⟨q46, h⟩ | ⟨q46, h⟩
                  · obtain ⟨y47, h47, h⟩ := ob_some h
                    rcases cond_some h with ⟨q48, h⟩ | ⟨q48, h⟩
                    · rcases cond_some h with ⟨q49, h⟩ | ⟨q49, h⟩
                      · refine awp_region_ 24 (by kernel_rfl) ?_
                        refine rs0 (.bool y3) (by kernel_rfl) ?_
                        refine rs0 (.bool y3) (by kernel_rfl) ?_
                        refine rs0 (.box (1, 1) 2) (s_gd (by kernel_rfl) q46 (by kernel_rfl)) ?_
                        refine rsl (.int .i64 a2_2) (s_gd (by kernel_rfl) q46 (by kernel_rfl)) ?_
                        refine rs0 (.box (0, 1) 1) (s_gd (by kernel_rfl) q46 (by kernel_rfl)) ?_
                        refine rsl (.int .i64 a1_1) (s_gd (by kernel_rfl) q46 (by kernel_rfl)) ?_
                        refine rs0 (.int .i64 (IntKind.i64.wrap (a1_1 - 1))) (s_gd (by kernel_rfl) q46 (by kernel_rfl)) ?_
                        refine rcall (.bool y47) [] [(.int .i64 a2_2), (.int .i64 0), (.int .i64 (IntKind.i64.wrap (a1_1 - 1)))] _ (caps := []) (args0 := [(.int .i64 a2_2), (.int .i64 0), (.int .i64 (IntKind.i64.wrap (a1_1 - 1)))]) (gdOK_b (by kernel_rfl) q46) (by kernel_rfl) (by kernel_rfl) (by kernel_rfl) (by kernel_rfl) (ok_spec_l1In h47) hb_spec_l1In (by kernel_rfl) ?_
                        refine rs0 (.bool y47) (s_pickT (by kernel_rfl) q46) ?_
                        refine rs0 (.bool y47) (by kernel_rfl) ?_
                        refine rs0 (.box (1, 1) 3) (s_gd (by kernel_rfl) q48 (by kernel_rfl)) ?_
                        refine rsl (.int .i64 a2_3) (s_gd (by kernel_rfl) q48 (by kernel_rfl)) ?_
                        refine rs0 (.bool (a2_3 == 0)) (s_gd (by kernel_rfl) q48 (by kernel_rfl)) ?_
                        refine rs0 (.bool (a2_3 == 0)) (s_pickT (by kernel_rfl) q48) ?_
                        refine rs0 (.bool (a2_3 == 0)) (by kernel_rfl) ?_
                        refine rs0 (.box (1, 1) 4) (s_gd (by kernel_rfl) q49 (by kernel_rfl)) ?_
                        refine rsl (.int .i64 a2_4) (s_gd (by kernel_rfl) q49 (by kernel_rfl)) ?_
                        refine rs0 (.bool (a2_4 == 0)) (s_gd (by kernel_rfl) q49 (by kernel_rfl)) ?_
                        refine rs0 (.bool (a2_4 == 0)) (s_pickT (by kernel_rfl) q49) ?_
                        refine rs0 (.bool (a2_4 == 0)) (by kernel_rfl) ?_
                        refine rnil (tn_ ?_)
                        obtain rfl := Option.some.inj h
                        exact ⟨_, (weak_ren (renF []) (by kernel_rfl) (by kernel_rfl) (by kernel_rfl)), rfl⟩
                      · refine awp_region_ 24 (by kernel_rfl) ?_
                        refine rs0 (.bool y3) (by kernel_rfl) ?_
                        refine rs0 (.bool y3) (by kernel_rfl) ?_
                        refine rs0 (.box (1, 1) 2) (s_gd (by kernel_rfl) q46 (by kernel_rfl)) ?_
                        refine rsl (.int .i64 a2_2) (s_gd (by kernel_rfl) q46 (by kernel_rfl)) ?_
                        refine rs0 (.box (0, 1) 1) (s_gd (by kernel_rfl) q46 (by kernel_rfl)) ?_
                        refine rsl (.int .i64 a1_1) (s_gd (by kernel_rfl) q46 (by kernel_rfl)) ?_
                        refine rs0 (.int .i64 (IntKind.i64.wrap (a1_1 - 1))) (s_gd (by kernel_rfl) q46 (by kernel_rfl)) ?_
                        refine rcall (.bool y47) [] [(.int .i64 a2_2), (.int .i64 0), (.int .i64 (IntKind.i64.wrap (a1_1 - 1)))] _ (caps := []) (args0 := [(.int .i64 a2_2), (.int .i64 0), (.int .i64 (IntKind.i64.wrap (a1_1 - 1)))]) (gdOK_b (by kernel_rfl) q46) (by kernel_rfl) (by kernel_rfl) (by kernel_rfl) (by kernel_rfl) (ok_spec_l1In h47) hb_spec_l1In (by kernel_rfl) ?_
                        refine rs0 (.bool y47) (s_pickT (by kernel_rfl) q46) ?_
                        refine rs0 (.bool y47) (by kernel_rfl) ?_
                        refine rs0 (.box (1, 1) 3) (s_gd (by kernel_rfl) q48 (by kernel_rfl)) ?_
                        refine rsl (.int .i64 a2_3) (s_gd (by kernel_rfl) q48 (by kernel_rfl)) ?_
                        refine rs0 (.bool (a2_3 == 0)) (s_gd (by kernel_rfl) q48 (by kernel_rfl)) ?_
                        refine rs0 (.bool (a2_3 == 0)) (s_pickT (by kernel_rfl) q48) ?_
                        refine rs0 (.bool (a2_3 == 0)) (by kernel_rfl) ?_
                        refine rs0 .any (s_skip (by kernel_rfl) q49) ?_
                        refine rs0 .any (s_skip (by kernel_rfl) q49) ?_
                        refine rs0 .any (s_skip (by kernel_rfl) q49) ?_
                        refine rs0 (.bool false) (s_pickF (by kernel_rfl) q49) ?_
                        refine rs0 (.bool false) (by kernel_rfl) ?_
                        refine rnil (tn_ ?_)
                        obtain rfl := Option.some.inj h
                        exact ⟨_, (weak_ren (renF []) (by kernel_rfl) (by kernel_rfl) (by kernel_rfl)), rfl⟩
                    · refine awp_region_ 24 (by kernel_rfl) ?_
                      refine rs0 (.bool y3) (by kernel_rfl) ?_
                      refine rs0 (.bool y3) (by kernel_rfl) ?_
                      refine rs0 (.box (1, 1) 2) (s_gd (by kernel_rfl) q46 (by kernel_rfl)) ?_
                      refine rsl (.int .i64 a2_2) (s_gd (by kernel_rfl) q46 (by kernel_rfl)) ?_
                      refine rs0 (.box (0, 1) 1) (s_gd (by kernel_rfl) q46 (by kernel_rfl)) ?_
                      refine rsl (.int .i64 a1_1) (s_gd (by kernel_rfl) q46 (by kernel_rfl)) ?_
                      refine rs0 (.int .i64 (IntKind.i64.wrap (a1_1 - 1))) (s_gd (by kernel_rfl) q46 (by kernel_rfl)) ?_
                      refine rcall (.bool y47) [] [(.int .i64 a2_2), (.int .i64 0), (.int .i64 (IntKind.i64.wrap (a1_1 - 1)))] _ (caps := []) (args0 := [(.int .i64 a2_2), (.int .i64 0), (.int .i64 (IntKind.i64.wrap (a1_1 - 1)))]) (gdOK_b (by kernel_rfl) q46) (by kernel_rfl) (by kernel_rfl) (by kernel_rfl) (by kernel_rfl) (ok_spec_l1In h47) hb_spec_l1In (by kernel_rfl) ?_
                      refine rs0 (.bool y47) (s_pickT (by kernel_rfl) q46) ?_
                      refine rs0 (.bool y47) (by kernel_rfl) ?_
                      refine rs0 .any (s_skip (by kernel_rfl) q48) ?_
                      refine rs0 .any (s_skip (by kernel_rfl) q48) ?_
                      refine rs0 .any (s_skip (by kernel_rfl) q48) ?_
                      refine rs0 (.bool false) (s_pickF (by kernel_rfl) q48) ?_
                      refine rs0 (.bool false) (by kernel_rfl) ?_
                      refine rs0 .any (by kernel_rfl) ?_
                      refine rs0 .any (by kernel_rfl) ?_
                      refine rs0 .any (by kernel_rfl) ?_
                      refine rs0 (.bool false) (by kernel_rfl) ?_
                      refine rs0 (.bool false) (by kernel_rfl) ?_
                      refine rnil (tn_ ?_)
                      obtain rfl := Option.some.inj h
                      exact ⟨_, (weak_ren (renF []) (by kernel_rfl) (by kernel_rfl) (by kernel_rfl)), rfl⟩
                  · refine awp_region_ 24 (by kernel_rfl) ?_
                    refine rs0 (.bool y3) (by kernel_rfl) ?_
                    refine rs0 (.bool y3) (by kernel_rfl) ?_
                    refine rs0 .any (s_skip (by kernel_rfl) q46) ?_
                    refine rs0 .any (s_skip (by kernel_rfl) q46) ?_
                    refine rs0 .any (s_skip (by kernel_rfl) q46) ?_
                    refine rs0 .any (s_skip (by kernel_rfl) q46) ?_
                    refine rs0 .any (s_skip (by kernel_rfl) q46) ?_
                    refine rs0 .any (s_skip (by kernel_rfl) q46) ?_
                    refine rs0 (.bool false) (s_pickF (by kernel_rfl) q46) ?_
                    refine rs0 (.bool false) (by kernel_rfl) ?_
                    refine rs0 .any (by kernel_rfl) ?_
                    refine rs0 .any (by kernel_rfl) ?_
                    refine rs0 .any (by kernel_rfl) ?_
                    refine rs0 (.bool false) (by kernel_rfl) ?_
                    refine rs0 (.bool false) (by kernel_rfl) ?_
                    refine rs0 .any (by kernel_rfl) ?_
                    refine rs0 .any (by kernel_rfl) ?_
                    refine rs0 .any (by kernel_rfl) ?_
                    refine rs0 (.bool false) (by kernel_rfl) ?_
                    refine rs0 (.bool false) (by kernel_rfl) ?_
                    refine rnil (tn_ ?_)
                    obtain rfl := Option.some.inj h
                    exact ⟨_, (weak_ren (renF []) (by kernel_rfl) (by kernel_rfl) (by kernel_rfl)), rfl⟩
                · rintro l45_m6 _ rfl h
                  (try dsimp only at h)
                  refine awp_ret_ (br_ (tr_ ?_))
                  obtain rfl := Option.some.inj h
                  exact ret_ [(.bool l45_m6)] (by simp) (by kernel_rfl) (p_one rfl (l_sc (by kernel_rfl)) p_nil) (by kernel_rfl) (by kernel_rfl)
              · refine awp_condF_ q44 (by kernel_rfl) ?_
                refine awp_skip_ (bn_ (tn_ ?_))
                refine awp_seq_ ?_
                refine awp_region_ 5 (by kernel_rfl) ?_
                refine rs0 (.bool false) (by kernel_rfl) ?_
                refine rnil (tn_ ?_)
                refine awp_ret_ ?_
                obtain rfl := Option.some.inj h
                exact ret_ [(.bool false)] (by simp) (by kernel_rfl) (p_one rfl (l_sc (by kernel_rfl)) p_nil) (by kernel_rfl) (by kernel_rfl)
def m_spec_cmGood_l1 : AC :=
  (.seq (.region [⟨(some 44), none, (.i (.bin .lss (.tmp 43) (.tmp 42)))⟩] false [])
  (.seq (.cond (.tmp 44)
    .skip
    (.exit 0))
  (.seq (.block 1 (.seq (.region [⟨(some 45), none, (.i (.idx 5 (.tmp 41) (.tmp 43)))⟩, ⟨(some 46), none, (.i (.ld false 5 (.tmp 45)))⟩, ⟨(some 6), none, (.i (.alloc 69 [(.int .i64 0), (.int .i64 0), (.int .i64 0), (.int .i64 0), (.int .i64 0)]))⟩, ⟨none, none, (.st false 5 (.tmp 6) (.tmp 46))⟩] false [])
  (.seq (.region [⟨(some 47), none, (.i (.mov (.tmp 0)))⟩, ⟨(some 48), none, (.i (.ld false 5 (.tmp 3)))⟩, ⟨(some 49), none, (.i (.ld false 5 (.tmp 6)))⟩, ⟨(some 50), none, (.call (.cst (.fn 56 [])) [(.tmp 47), (.tmp 48), (.tmp 49)] [[], [none, none, none, none, (some (.pair .int (.pair .int (.pair .int (.pair .int .int)))))], [none, none, none, none, none]])⟩, ⟨(some 51), none, (.i (.not (.tmp 50)))⟩] false [])
  (.cond (.tmp 51)
    (.seq (.region [⟨(some 4), none, (.i (.mov (.cst (.bool false))))⟩] false [])
    .ret)
    .skip))))
  (.region [⟨(some 52), none, (.i (.bin .add (.tmp 43) (.cst (.int .i64 1))))⟩, ⟨(some 43), none, (.i (.mov (.tmp 52)))⟩] false []))))
def m_spec_cmGood : AC :=
  (.seq (.region [⟨(some 3), none, (.i (.box 29 (.tmp 1)))⟩, ⟨(some 4), none, (.i (.mov (.cst (.bool false))))⟩] false [])
  (.seq (.seq (.region [⟨(some 7), none, (.i (.mov (.tmp 0)))⟩, ⟨(some 8), none, (.call (.cst (.fn 55 [])) [(.tmp 7)] [[]])⟩, ⟨(some 9), none, (.i (.not (.tmp 8)))⟩, ⟨(some 10), none, (.i (.mov (.tmp 9)))⟩, ⟨(some 11), (some (10, false)), (.i (.fld 0 (.tmp 3)))⟩, ⟨(some 12), (some (10, false)), (.i (.ld true 1 (.tmp 11)))⟩, ⟨(some 13), (some (10, false)), (.call (.cst (.fn 37 [])) [(.tmp 12), (.cst (.int .i64 0)), (.cst (.int .i64 8))] [[], [], []])⟩, ⟨(some 14), (some (10, false)), (.i (.not (.tmp 13)))⟩, ⟨(some 15), none, (.i (.pick (.tmp 10) (.cst (.bool true)) (.tmp 14)))⟩, ⟨(some 16), none, (.i (.mov (.tmp 15)))⟩, ⟨(some 17), (some (16, false)), (.i (.fld 1 (.tmp 3)))⟩, ⟨(some 18), (some (16, false)), (.i (.ld true 1 (.tmp 17)))⟩, ⟨(some 19), (some (16, false)), (.call (.cst (.fn 37 [])) [(.tmp 18), (.cst (.int .i64 0)), (.cst (.int .i64 8))] [[], [], []])⟩, ⟨(some 20), (some (16, false)), (.i (.not (.tmp 19)))⟩, ⟨(some 21), none, (.i (.pick (.tmp 16) (.cst (.bool true)) (.tmp 20)))⟩, ⟨(some 22), none, (.i (.mov (.tmp 21)))⟩, ⟨(some 23), (some (22, false)), (.i (.fld 2 (.tmp 3)))⟩, ⟨(some 24), (some (22, false)), (.i (.ld true 1 (.tmp 23)))⟩, ⟨(some 25), (some (22, false)), (.call (.cst (.fn 37 [])) [(.tmp 24), (.cst (.int .i64 0)), (.cst (.int .i64 40))] [[], [], []])⟩, ⟨(some 26), (some (22, false)), (.i (.not (.tmp 25)))⟩, ⟨(some 27), none, (.i (.pick (.tmp 22) (.cst (.bool true)) (.tmp 26)))⟩, ⟨(some 28), none, (.i (.mov (.tmp 27)))⟩, ⟨(some 29), (some (28, false)), (.i (.fld 3 (.tmp 3)))⟩, ⟨(some 30), (some (28, false)), (.i (.ld true 1 (.tmp 29)))⟩, ⟨(some 31), (some (28, false)), (.call (.cst (.fn 37 [])) [(.tmp 30), (.cst (.int .i64 0)), (.cst (.int .i64 16))] [[], [], []])⟩, ⟨(some 32), (some (28, false)), (.i (.not (.tmp 31)))⟩, ⟨(some 33), none, (.i (.pick (.tmp 28) (.cst (.bool true)) (.tmp 32)))⟩, ⟨(some 34), none, (.i (.mov (.tmp 33)))⟩, ⟨(some 35), (some (34, false)), (.i (.fld 4 (.tmp 3)))⟩, ⟨(some 36), (some (34, false)), (.i (.ld true 1 (.tmp 35)))⟩, ⟨(some 37), (some (34, false)), (.i (.len (.tmp 36)))⟩, ⟨(some 38), (some (34, false)), (.i (.bin .gtr (.tmp 37) (.cst (.int .i64 120))))⟩, ⟨(some 39), none, (.i (.pick (.tmp 34) (.cst (.bool true)) (.tmp 38)))⟩] false [])
  (.cond (.tmp 39)
    (.seq (.region [⟨(some 4), none, (.i (.mov (.cst (.bool false))))⟩] false [])
    .ret)
    .skip))
  (.seq (.seq (.region [⟨(some 40), none, (.i (.fld 4 (.tmp 3)))⟩, ⟨(some 41), none, (.i (.ld true 1 (.tmp 40)))⟩, ⟨(some 42), none, (.i (.len (.tmp 41)))⟩, ⟨(some 43), none, (.i (.mov (.cst (.int .i64 0))))⟩] false [])
  (.block 0 (.loop m_spec_cmGood_l1)))
  (.seq (.region [⟨(some 4), none, (.i (.mov (.cst (.bool true))))⟩] false [])
  .ret))))
def r_spec_cmGood : List Res := [.tmp 4]
theorem c_spec_cmGood : compiled Tryd.prog Tryd.f33 = some (m_spec_cmGood, r_spec_cmGood) := by kernel_rfl
theorem hb_spec_cmGood : hasBody Tryd.prog 33 = true := by kernel_rfl
def L_spec_cmGood_l1 (a1_4 : List (Int × Int × Int × Int × Int)) (a0 : Int) (a1_0 : Int) (a1_1 : Int) (a1_2 : Int) (a1_3 : Int) (l18_m43 : Nat) : Option (Ctl Nat (Ctl Unit Bool)) :=
  cond (decide (((l18_m43 : Nat) : Int) < ((a1_4.length : Nat) : Int)))
  (Option.bind (a1_4[l18_m43]?) fun x24 =>
  Option.bind (L_spec_cmInstr a0 a1_0 a1_1 a1_2 a1_3 a1_4 x24.1 x24.2.1 x24.2.2.1 x24.2.2.2.1 x24.2.2.2.2) fun y26 =>
  cond (!y26)
    (some (Ctl.out (Ctl.out false)))
    (og (l18_m43 + 1 < 4611686018427387904) <|
    some (Ctl.next (l18_m43 + 1))))
  (some (Ctl.out (Ctl.next ())))
def L_spec_cmGood (a0 : Int) (a1_0 : Int) (a1_1 : Int) (a1_2 : Int) (a1_3 : Int) (a1_4 : List (Int × Int × Int × Int × Int)) : Option Bool :=
  Option.bind (Option.bind (L_spec_fdGood a0) fun y4 =>
  cond (!y4)
    (some true)
    (Option.bind (L_spec_l1In a1_0 0 8) fun y6 =>
    cond (!y6)
      (some true)
      (Option.bind (L_spec_l1In a1_1 0 8) fun y8 =>
      cond (!y8)
        (some true)
        (Option.bind (L_spec_l1In a1_2 0 40) fun y10 =>
        cond (!y10)
          (some true)
          (Option.bind (L_spec_l1In a1_3 0 16) fun y12 =>
          cond (!y12)
            (some true)
            (some (decide (120 < ((a1_4.length : Nat) : Int))))))))) fun l3_m39 =>
cond l3_m39
  (some false)
  (seqC (loopM (fun s_ : Nat => L_spec_cmGood_l1 a1_4 a0 a1_0 a1_1 a1_2 a1_3 s_) 4611686018427387904 0) fun _ =>
  some true)
def rv_spec_cmGood (r : Bool) : RV := ⟨false, [(false, [.sc (.bool r)])]⟩
theorem ok_spec_cmGood {a0 : Int} {a1_0 : Int} {a1_1 : Int} {a1_2 : Int} {a1_3 : Int} {a1_4 : List (Int × Int × Int × Int × Int)} {r : Bool} (h : L_spec_cmGood a0 a1_0 a1_1 a1_2 a1_3 a1_4 = some r) : CallOK Tryd.prog Tab 33 [(.int .i64 a0), (.agg [(.int .i64 a1_0), (.int .i64 a1_1), (.int .i64 a1_2), (.int .i64 a1_3), (.tree (.pair .int (.pair .int (.pair .int (.pair .int .int)))) a1_4)])] (rv_spec_cmGood r) := by
  refine call_of_ (by kernel_rfl) Tryd.func33 c_spec_cmGood (n := 53) (by kernel_rfl) (by simp) (tl := [(0, (.int .i64 a0)), (1, (.agg [(.int .i64 a1_0), (.int .i64 a1_1), (.int .i64 a1_2), (.int .i64 a1_3), (.tree (.pair .int (.pair .int (.pair .int (.pair .int .int)))) a1_4)]))]) rfl ?_
  unfold m_spec_cmGood
  unfold L_spec_cmGood at h
  refine awp_seq_ ?_
  refine awp_region_ 3 (by kernel_rfl) ?_
  refine rs1 (.box (3, 1) 0) (3, 1) (.cells 29 [(.int .i64 a1_0), (.int .i64 a1_1), (.int .i64 a1_2), (.int .i64 a1_3), (.tree (.pair .int (.pair .int (.pair .int (.pair .int .int)))) a1_4)]) (by kernel_rfl) ?_
  refine rs0 (.bool false) (by kernel_rfl) ?_
  refine rnil (tn_ ?_)
  refine awp_seq_ ?_
  refine awp_seqB h (fun (l3_m39 : Bool) S_ => S_ = ⟨mkTm [(0, (.int .i64 a0)), (3, (.box (0, 1) 0)), (39, (.bool l3_m39))], mkOb (someL [((0, 1), .cells 29 [(.int .i64 a1_0), (.int .i64 a1_1), (.int .i64 a1_2), (.int .i64 a1_3), (.tree (.pair .int (.pair .int (.pair .int (.pair .int .int)))) a1_4)])]), 2⟩) ?_ ?_
  · intro v_ h
    obtain ⟨y4, h4, h⟩ := ob_some h
    rcases cond_some h with ⟨q5, h⟩ | ⟨q5, h⟩
    · refine awp_region_ 36 (by kernel_rfl) ?_
      refine rs0 (.int .i64 a0) (by kernel_rfl) ?_
      refine rcall (.bool y4) [] [(.int .i64 a0)] _ (caps := []) (args0 := [(.int .i64 a0)]) trivial (by kernel_rfl) (by kernel_rfl) (by kernel_rfl) (by kernel_rfl) (ok_spec_fdGood h4) hb_spec_fdGood (by kernel_rfl) ?_
      refine rs0 (.bool (!y4)) (by kernel_rfl) ?_
      refine rs0 (.bool (!y4)) (by kernel_rfl) ?_
      refine rs0 .any (s_skip (by kernel_rfl) q5) ?_
      refine rs0 .any (s_skip (by kernel_rfl) q5) ?_
      refine rs0 .any (s_skip (by kernel_rfl) q5) ?_
      refine rs0 .any (s_skip (by kernel_rfl) q5) ?_
      refine rs0 (.bool true) (s_pickT (by kernel_rfl) q5) ?_
      refine rs0 (.bool true) (by kernel_rfl) ?_
      refine rs0 .any (by kernel_rfl) ?_
      refine rs0 .any (by kernel_rfl) ?_
      refine rs0 .any (by kernel_rfl) ?_
      refine rs0 .any (by kernel_rfl) ?_
      refine rs0 (.bool true) (by kernel_rfl) ?_
      refine rs0 (.bool true) (by kernel_rfl) ?_
      refine rs0 .any (by kernel_rfl) ?_
      refine rs0 .any (by kernel_rfl) ?_
      refine rs0 .any (by kernel_rfl) ?_
      refine rs0 .any (by kernel_rfl) ?_
      refine rs0 (.bool true) (by kernel_rfl) ?_
      refine rs0 (.bool true) (by kernel_rfl) ?_
      refine rs0 .any (by kernel_rfl) ?_
      refine rs0 .any (by kernel_rfl) ?_
      refine rs0 .any (by kernel_rfl) ?_
      refine rs0 .any (by kernel_rfl) ?_
      refine rs0 (.bool true) (by kernel_rfl) ?_
      refine rs0 (.bool true) (by kernel_rfl) ?_
      refine rs0 .any (by kernel_rfl) ?_
      refine rs0 .any (by kernel_rfl) ?_
      refine rs0 .any (by kernel_rfl) ?_
      refine rs0 .any (by kernel_rfl) ?_
      refine rs0 (.bool true) (by kernel_rfl) ?_
      refine rnil (tn_ ?_)
      obtain rfl := Option.some.inj h
      exact ⟨_, (weak_ren (renF [((0, 1), (3, 1))]) (by kernel_rfl) (by kernel_rfl) (by kernel_rfl)), rfl⟩
    · obtain ⟨y6, h6, h⟩ := ob_some h
      rcases cond_some h with ⟨q7, h⟩ | ⟨q7, h⟩
      · refine awp_region_ 36 (by kernel_rfl) ?_
        refine rs0 (.int .i64 a0) (by kernel_rfl) ?_
        refine rcall (.bool y4) [] [(.int .i64 a0)] _ (caps := []) (args0 := [(.int .i64 a0)]) trivial (by kernel_rfl) (by kernel_rfl) (by kernel_rfl) (by kernel_rfl) (ok_spec_fdGood h4) hb_spec_fdGood (by kernel_rfl) ?_
        refine rs0 (.bool (!y4)) (by kernel_rfl) ?_
        refine rs0 (.bool (!y4)) (by kernel_rfl) ?_
        refine rs0 (.box (3, 1) 0) (s_gd (by kernel_rfl) q5 (by kernel_rfl)) ?_
        refine rsl (.int .i64 a1_0) (s_gd (by kernel_rfl) q5 (by kernel_rfl)) ?_
        refine rcall (.bool y6) [] [(.int .i64 a1_0), (.int .i64 0), (.int .i64 8)] _ (caps := []) (args0 := [(.int .i64 a1_0), (.int .i64 0), (.int .i64 8)]) (gdOK_b (by kernel_rfl) q5) (by kernel_rfl) (by kernel_rfl) (by kernel_rfl) (by kernel_rfl) (ok_spec_l1In h6) hb_spec_l1In (by kernel_rfl) ?_
        refine rs0 (.bool (!y6)) (s_gd (by kernel_rfl) q5 (by kernel_rfl)) ?_
        refine rs0 (.bool (!y6)) (s_pickF (by kernel_rfl) q5) ?_
        refine rs0 (.bool (!y6)) (by kernel_rfl) ?_
        refine rs0 .any (s_skip (by kernel_rfl) q7) ?_
        refine rs0 .any (s_skip (by kernel_rfl) q7) ?_
        refine rs0 .any (s_skip (by kernel_rfl) q7) ?_
        refine rs0 .any (s_skip (by kernel_rfl) q7) ?_
        refine rs0 (.bool true) (s_pickT (by kernel_rfl) q7) ?_
        refine rs0 (.bool true) (by kernel_rfl) ?_
        refine rs0 .any (by kernel_rfl) ?_
        refine rs0 .any (by kernel_rfl) ?_
        refine rs0 .any (by kernel_rfl) ?_
        refine rs0 .any (by kernel_rfl) ?_
        refine rs0 (.bool true) (by kernel_rfl) ?_
        refine rs0 (.bool true) (by kernel_rfl) ?_
        refine rs0 .any (by kernel_rfl) ?_
        refine rs0 .any (by kernel_rfl) ?_
        refine rs0 .any (by kernel_rfl) ?_
        refine rs0 .any (by kernel_rfl) ?_
        refine rs0 (.bool true) (by kernel_rfl) ?_
        refine rs0 (.bool true) (by kernel_rfl) ?_
        refine rs0 .any (by kernel_rfl) ?_
        refine rs0 .any (by kernel_rfl) ?_
        refine rs0 .any (by kernel_rfl) ?_
        refine rs0 .any (by kernel_rfl) ?_
        refine rs0 (.bool true) (by kernel_rfl) ?_
        refine rnil (tn_ ?_)
        obtain rfl := Option.some.inj h
        exact ⟨_, (weak_ren (renF [((0, 1), (3, 1))]) (by kernel_rfl) (by kernel_rfl) (by kernel_rfl)), rfl⟩
      · obtain ⟨y8, h8, h⟩ := ob_some h
        rcases cond_some h with ⟨q9, h⟩ | ⟨q9, h⟩
        · refine awp_region_ 36 (by kernel_rfl) ?_
          refine rs0 (.int .i64 a0) (by kernel_rfl) ?_
          refine rcall (.bool y4) [] [(.int .i64 a0)] _ (caps := []) (args0 := [(.int .i64 a0)]) trivial (by kernel_rfl) (by kernel_rfl) (by kernel_rfl) (by kernel_rfl) (ok_spec_fdGood h4) hb_spec_fdGood (by kernel_rfl) ?_
          refine rs0 (.bool (!y4)) (by kernel_rfl) ?_
          refine rs0 (.bool (!y4)) (by kernel_rfl) ?_
          refine rs0 (.box (3, 1) 0) (s_gd (by kernel_rfl) q5 (by kernel_rfl)) ?_
          refine rsl (.int .i64 a1_0) (s_gd (by kernel_rfl) q5 (by kernel_rfl)) ?_
          refine rcall (.bool y6) [] [(.int .i64 a1_0), (.int .i64 0), (.int .i64 8)] _ (caps := []) (args0 := [(.int .i64 a1_0), (.int .i64 0), (.int .i64 8)]) (gdOK_b (by kernel_rfl) q5) (by kernel_rfl) (by kernel_rfl) (by kernel_rfl) (by kernel_rfl) (ok_spec_l1In h6) hb_spec_l1In (by kernel_rfl) ?_
          refine rs0 (.bool (!y6)) (s_gd (by kernel_rfl) q5 (by kernel_rfl)) ?_
          refine rs0 (.bool (!y6)) (s_pickF (by kernel_rfl) q5) ?_
          refine rs0 (.bool (!y6)) (by kernel_rfl) ?_
          refine rs0 (.box (3, 1) 1) (s_gd (by kernel_rfl) q7 (by kernel_rfl)) ?_
          refine rsl (.int .i64 a1_1) (s_gd (by kernel_rfl) q7 (by kernel_rfl)) ?_
          refine rcall (.bool y8) [] [(.int .i64 a1_1), (.int .i64 0), (.int .i64 8)] _ (caps := []) (args0 := [(.int .i64 a1_1), (.int .i64 0), (.int .i64 8)]) (gdOK_b (by kernel_rfl) q7) (by kernel_rfl) (by kernel_rfl) (by kernel_rfl) (by kernel_rfl) (ok_spec_l1In h8) hb_spec_l1In (by kernel_rfl) ?_
          refine rs0 (.bool (!y8)) (s_gd (by kernel_rfl) q7 (by kernel_rfl)) ?_
          refine rs0 (.bool (!y8)) (s_pickF (by kernel_rfl) q7) ?_
          refine rs0 (.bool (!y8)) (by kernel_rfl) ?_
          refine rs0 .any (s_skip (by kernel_rfl) q9) ?_
          refine rs0 .any (s_skip (by kernel_rfl) q9) ?_
          refine rs0 .any (s_skip (by kernel_rfl) q9) ?_
          refine rs0 .any (s_skip (by kernel_rfl) q9) ?_
          refine rs0 (.bool true) (s_pickT (by kernel_rfl) q9) ?_
          refine rs0 (.bool true) (by kernel_rfl) ?_
          refine rs0 .any (by kernel_rfl) ?_
          refine rs0 .any (by kernel_rfl) ?_
          refine rs0 .any (by kernel_rfl) ?_
          refine rs0 .any (by kernel_rfl) ?_
          refine rs0 (.bool true) (by kernel_rfl) ?_
          refine rs0 (.bool true) (by kernel_rfl) ?_
          refine rs0 .any (by kernel_rfl) ?_
          refine rs0 .any (by kernel_rfl) ?_
          refine rs0 .any (by kernel_rfl) ?_
          refine rs0 .any (by kernel_rfl) ?_
          refine rs0 (.bool true) (by kernel_rfl) ?_
          refine rnil (tn_ ?_)
          obtain rfl := Option.some.inj h
          exact ⟨_, (weak_ren (renF [((0, 1), (3, 1))]) (by kernel_rfl) (by kernel_rfl) (by kernel_rfl)), rfl⟩
        · obtain ⟨y10, h10, h⟩ := ob_some h
          rcases cond_some h with ⟨q11, h⟩ | ⟨q11, h⟩
          · refine awp_region_ 36 (by kernel_rfl) ?_
            refine rs0 (.int .i64 a0) (by kernel_rfl) ?_
            refine rcall (.bool y4) [] [(.int .i64 a0)] _ (caps := []) (args0 := [(.int .i64 a0)]) trivial (by kernel_rfl) (by kernel_rfl) (by kernel_rfl) (by kernel_rfl) (ok_spec_fdGood h4) hb_spec_fdGood (by kernel_rfl) ?_
            refine rs0 (.bool (!y4)) (by kernel_rfl) ?_
            refine rs0 (.bool (!y4)) (by kernel_rfl) ?_
            refine rs0 (.box (3, 1) 0) (s_gd (by kernel_rfl) q5 (by kernel_rfl)) ?_
            refine rsl (.int .i64 a1_0) (s_gd (by kernel_rfl) q5 (by kernel_rfl)) ?_
            refine rcall (.bool y6) [] [(.int .i64 a1_0), (.int .i64 0), (.int .i64 8)] _ (caps := []) (args0 := [(.int .i64 a1_0), (.int .i64 0), (.int .i64 8)]) (gdOK_b (by kernel_rfl) q5) (by kernel_rfl) (by kernel_rfl) (by kernel_rfl) (by kernel_rfl) (ok_spec_l1In h6) hb_spec_l1In (by kernel_rfl) ?_
            refine rs0 (.bool (!y6)) (s_gd (by kernel_rfl) q5 (by kernel_rfl)) ?_
            refine rs0 (.bool (!y6)) (s_pickF (by kernel_rfl) q5) ?_
            refine rs0 (.bool (!y6)) (by kernel_rfl) ?_
            refine rs0 (.box (3, 1) 1) (s_gd (by kernel_rfl) q7 (by kernel_rfl)) ?_
            refine rsl (.int .i64 a1_1) (s_gd (by kernel_rfl) q7 (by kernel_rfl)) ?_
            refine rcall (.bool y8) [] [(.int .i64 a1_1), (.int .i64 0), (.int .i64 8)] _ (caps := []) (args0 := [(.int .i64 a1_1), (.int .i64 0), (.int .i64 8)]) (gdOK_b (by kernel_rfl) q7) (by kernel_rfl) (by kernel_rfl) (by kernel_rfl) (by kernel_rfl) (ok_spec_l1In h8) hb_spec_l1In (by kernel_rfl) ?_
            refine rs0 (.bool (!y8)) (s_gd (by kernel_rfl) q7 (by kernel_rfl)) ?_
            refine rs0 (.bool (!y8)) (s_pickF (by kernel_rfl) q7) ?_
            refine rs0 (.bool (!y8)) (by kernel_rfl) ?_
            refine rs0 (.box (3, 1) 2) (s_gd (by kernel_rfl) q9 (by kernel_rfl)) ?_
            refine rsl (.int .i64 a1_2) (s_gd (by kernel_rfl) q9 (by kernel_rfl)) ?_
            refine rcall (.bool y10) [] [(.int .i64 a1_2), (.int .i64 0), (.int .i64 40)] _ (caps := []) (args0 := [(.int .i64 a1_2), (.int .i64 0), (.int .i64 40)]) (gdOK_b (by kernel_rfl) q9) (by kernel_rfl) (by kernel_rfl) (by kernel_rfl) (by kernel_rfl) (ok_spec_l1In h10) hb_spec_l1In (by kernel_rfl) ?_
            refine rs0 (.bool (!y10)) (s_gd (by kernel_rfl) q9 (by kernel_rfl)) ?_
            refine rs0 (.bool (!y10)) (s_pickF (by kernel_rfl) q9) ?_
            refine rs0 (.bool (!y10)) (by kernel_rfl) ?_
            refine rs0 .any (s_skip (by kernel_rfl) q11) ?_
            refine rs0 .any (s_skip (by kernel_rfl) q11) ?_
            refine rs0 .any (s_skip (by kernel_rfl) q11) ?_
            refine rs0 .any (s_skip (by kernel_rfl) q11) ?_
            refine rs0 (.bool true) (s_pickT (by kernel_rfl) q11) ?_
            refine rs0 (.bool true) (by kernel_rfl) ?_
            refine rs0 .any (by kernel_rfl) ?_
            refine rs0 .any (by kernel_rfl) ?_
            refine rs0 .any (by kernel_rfl) ?_
            refine rs0 .any (by kernel_rfl) ?_
            refine rs0 (.bool true) (by kernel_rfl) ?_
            refine rnil (tn_ ?_)
            obtain rfl := Option.some.inj h
            exact ⟨_, (weak_ren (renF [((0, 1), (3, 1))]) (by kernel_rfl) (by kernel_rfl) (by kernel_rfl)), rfl⟩
          · obtain ⟨y12, h12, h⟩ := ob_some h
            rcases cond_some h with ⟨q13, h⟩ | ⟨q13, h⟩
            · refine awp_region_ 36 (by kernel_rfl) ?_
              refine rs0 (.int .i64 a0) (by kernel_rfl) ?_
              refine rcall (.bool y4) [] [(.int .i64 a0)] _ (caps := []) (args0 := [(.int .i64 a0)]) trivial (by kernel_rfl) (by kernel_rfl) (by kernel_rfl) (by kernel_rfl) (ok_spec_fdGood h4) hb_spec_fdGood (by kernel_rfl) ?_
              refine rs0 (.bool (!y4)) (by kernel_rfl) ?_
              refine rs0 (.bool (!y4)) (by kernel_rfl) ?_
              refine rs0 (.box (3, 1) 0) (s_gd (by kernel_rfl) q5 (by kernel_rfl)) ?_
              refine rsl (.int .i64 a1_0) (s_gd (by kernel_rfl) q5 (by kernel_rfl)) ?_
              refine rcall (.bool y6) [] [(.int .i64 a1_0), (.int .i64 0), (.int .i64 8)] _ (caps := []) (args0 := [(.int .i64 a1_0), (.int .i64 0), (.int .i64 8)]) (gdOK_b (by kernel_rfl) q5) (by kernel_rfl) (by kernel_rfl) (by kernel_rfl) (by kernel_rfl) (ok_spec_l1In h6) hb_spec_l1In (by kernel_rfl) ?_
              refine rs0 (.bool (!y6)) (s_gd (by kernel_rfl) q5 (by kernel_rfl)) ?_
              refine rs0 (.bool (!y6)) (s_pickF (by kernel_rfl) q5) ?_
              refine rs0 (.bool (!y6)) (by kernel_rfl) ?_
              refine rs0 (.box (3, 1) 1) (s_gd (by kernel_rfl) q7 (by kernel_rfl)) ?_
              refine rsl (.int .i64 a1_1) (s_gd (by kernel_rfl) q7 (by kernel_rfl)) ?_
              refine rcall (.bool y8) [] [(.int .i64 a1_1), (.int .i64 0), (.int .i64 8)] _ (caps := []) (args0 := [(.int .i64 a1_1), (.int .i64 0), (.int .i64 8)]) (gdOK_b (by kernel_rfl) q7) (by kernel_rfl) (by kernel_rfl) (by kernel_rfl) (by kernel_rfl) (ok_spec_l1In h8) hb_spec_l1In (by kernel_rfl) ?_
              refine rs0 (.bool (!y8)) (s_gd (by kernel_rfl) q7 (by kernel_rfl)) ?_
              refine rs0 (.bool (!y8)) (s_pickF (by kernel_rfl) q7) ?_
              refine rs0 (.bool (!y8)) (by kernel_rfl) ?_
              refine rs0 (.box (3, 1) 2) (s_gd (by kernel_rfl) q9 (by kernel_rfl)) ?_
              refine rsl (.int .i64 a1_2) (s_gd (by kernel_rfl) q9 (by kernel_rfl)) ?_
              refine rcall (.bool y10) [] [(.int .i64 a1_2), (.int .i64 0), (.int .i64 40)] _ (caps := []) (args0 := [(.int .i64 a1_2), (.int .i64 0), (.int .i64 40)]) (gdOK_b (by kernel_rfl) q9) (by kernel_rfl) (by kernel_rfl) (by kernel_rfl) (by kernel_rfl) (ok_spec_l1In h10) hb_spec_l1In (by kernel_rfl) ?_
              refine rs0 (.bool (!y10)) (s_gd (by kernel_rfl) q9 (by kernel_rfl)) ?_
              refine rs0 (.bool (!y10)) (s_pickF (by kernel_rfl) q9) ?_
              refine rs0 (.bool (!y10)) (by kernel_rfl) ?_
              refine rs0 (.box (3, 1) 3) (s_gd (by kernel_rfl) q11 (by kernel_rfl)) ?_
              refine rsl (.int .i64 a1_3) (s_gd (by kernel_rfl) q11 (by kernel_rfl)) ?_
              refine rcall (.bool y12) [] [(.int .i64 a1_3), (.int .i64 0), (.int .i64 16)] _ (caps := []) (args0 := [(.int .i64 a1_3), (.int .i64 0), (.int .i64 16)]) (gdOK_b (by kernel_rfl) q11) (by kernel_rfl) (by kernel_rfl) (by kernel_rfl) (by kernel_rfl) (ok_spec_l1In h12) hb_spec_l1In (by kernel_rfl) ?_
              refine rs0 (.bool (!y12)) (s_gd (by kernel_rfl) q11 (by kernel_rfl)) ?_
              refine rs0 (.bool (!y12)) (s_pickF (by kernel_rfl) q11) ?_
              refine rs0 (.bool (!y12)) (by kernel_rfl) ?_
              refine rs0 .any (s_skip (by kernel_rfl) q13) ?_
              refine rs0 .any (s_skip (by kernel_rfl) q13) ?_
              refine rs0 .any (s_skip (by kernel_rfl) q13) ?_
              refine rs0 .any (s_skip (by kernel_rfl) q13) ?_
              refine rs0 (.bool true) (s_pickT (by kernel_rfl) q13) ?_
              refine rnil (tn_ ?_)
              obtain rfl := Option.some.inj h
              exact ⟨_, (weak_ren (renF [((0, 1), (3, 1))]) (by kernel_rfl) (by kernel_rfl) (by kernel_rfl)), rfl⟩
            · refine awp_region_ 36 (by kernel_rfl) ?_
              refine rs0 (.int .i64 a0) (by kernel_rfl) ?_
              refine rcall (.bool y4) [] [(.int .i64 a0)] _ (caps := []) (args0 := [(.int .i64 a0)]) trivial (by kernel_rfl) (by kernel_rfl) (by kernel_rfl) (by kernel_rfl) (ok_spec_fdGood h4) hb_spec_fdGood (by kernel_rfl) ?_
              refine rs0 (.bool (!y4)) (by kernel_rfl) ?_
              refine rs0 (.bool (!y4)) (by kernel_rfl) ?_
              refine rs0 (.box (3, 1) 0) (s_gd (by kernel_rfl) q5 (by kernel_rfl)) ?_
              refine rsl (.int .i64 a1_0) (s_gd (by kernel_rfl) q5 (by kernel_rfl)) ?_
              refine rcall (.bool y6) [] [(.int .i64 a1_0), (.int .i64 0), (.int .i64 8)] _ (caps := []) (args0 := [(.int .i64 a1_0), (.int .i64 0), (.int .i64 8)]) (gdOK_b (by kernel_rfl) q5) (by kernel_rfl) (by kernel_rfl) (by kernel_rfl) (by kernel_rfl) (ok_spec_l1In h6) hb_spec_l1In (by kernel_rfl) ?_
              refine rs0 (.bool (!y6)) (s_gd (by kernel_rfl) q5 (by kernel_rfl)) ?_
              refine rs0 (.bool (!y6)) (s_pickF (by kernel_rfl) q5) ?_
              refine rs0 (.bool (!y6)) (by kernel_rfl) ?_
              refine rs0 (.box (3, 1) 1) (s_gd (by kernel_rfl) q7 (by kernel_rfl)) ?_
              refine rsl (.int .i64 a1_1) (s_gd (by kernel_rfl) q7 (by kernel_rfl)) ?_
              refine rcall (.bool y8) [] [(.int .i64 a1_1), (.int .i64 0), (.int .i64 8)] _ (caps := []) (args0 := [(.int .i64 a1_1), (.int .i64 0), (.int .i64 8)]) (gdOK_b (by kernel_rfl) q7) (by kernel_rfl) (by kernel_rfl) (by kernel_rfl) (by kernel_rfl) (ok_spec_l1In h8) hb_spec_l1In (by kernel_rfl) ?_
              refine rs0 (.bool (!y8)) (s_gd (by kernel_rfl) q7 (by kernel_rfl)) ?_
              refine rs0 (.bool (!y8)) (s_pickF (by kernel_rfl) q7) ?_
              refine rs0 (.bool (!y8)) (by kernel_rfl) ?_
              refine rs0 (.box (3, 1) 2) (s_gd (by kernel_rfl) q9 (by kernel_rfl)) ?_
              refine rsl (.int .i64 a1_2) (s_gd (by kernel_rfl) q9 (by kernel_rfl)) ?_
              refine rcall (.bool y10) [] [(.int .i64 a1_2), (.int .i64 0), (.int .i64 40)] _ (caps := []) (args0 := [(.int .i64 a1_2), (.int .i64 0), (.int .i64 40)]) (gdOK_b (by kernel_rfl) q9) (by kernel_rfl) (by kernel_rfl) (by kernel_rfl) (by kernel_rfl) (ok_spec_l1In h10) hb_spec_l1In (by kernel_rfl) ?_
              refine rs0 (.bool (!y10)) (s_gd (by kernel_rfl) q9 (by kernel_rfl)) ?_
              refine rs0 (.bool (!y10)) (s_pickF (by kernel_rfl) q9) ?_
              refine rs0 (.bool (!y10)) (by kernel_rfl) ?_
              refine rs0 (.box (3, 1) 3) (s_gd (by kernel_rfl) q11 (by kernel_rfl)) ?_
              refine rsl (.int .i64 a1_3) (s_gd (by kernel_rfl) q11 (by kernel_rfl)) ?_
              refine rcall (.bool y12) [] [(.int .i64 a1_3), (.int .i64 0), (.int .i64 16)] _ (caps := []) (args0 := [(.int .i64 a1_3), (.int .i64 0), (.int .i64 16)]) (gdOK_b (by kernel_rfl) q11) (by kernel_rfl) (by kernel_rfl) (by kernel_rfl) (by kernel_rfl) (ok_spec_l1In h12) hb_spec_l1In (by kernel_rfl) ?_
              refine rs0 (.bool (!y12)) (s_gd (by kernel_rfl) q11 (by kernel_rfl)) ?_
              refine rs0 (.bool (!y12)) (s_pickF (by kernel_rfl) q11) ?_
              refine rs0 (.bool (!y12)) (by kernel_rfl) ?_
              refine rs0 (.box (3, 1) 4) (s_gd (by kernel_rfl) q13 (by kernel_rfl)) ?_
              refine rsl (.tree (.pair .int (.pair .int (.pair .int (.pair .int .int)))) a1_4) (s_gd (by kernel_rfl) q13 (by kernel_rfl)) ?_
              refine rs0 (.int .i64 ((a1_4.length : Nat) : Int)) (s_gd (by kernel_rfl) q13 (by kernel_rfl)) ?_
              refine rs0 (.bool (decide (120 < ((a1_4.length : Nat) : Int)))) (s_gd (by kernel_rfl) q13 (by kernel_rfl)) ?_
              refine rs0 (.bool (decide (120 < ((a1_4.length : Nat) : Int)))) (s_pickF (by kernel_rfl) q13) ?_
              refine rnil (tn_ ?_)
              obtain rfl := Option.some.inj h
              exact ⟨_, (weak_ren (renF [((0, 1), (3, 1))]) (by kernel_rfl) (by kernel_rfl) (by kernel_rfl)), rfl⟩
  · rintro l3_m39 _ rfl h
    (try dsimp only at h)
    rcases cond_some h with ⟨q14, h⟩ | ⟨q14, h⟩
    · refine awp_condT_ q14 (by kernel_rfl) ?_
      refine awp_seq_ ?_
      refine awp_region_ 3 (by kernel_rfl) ?_
      refine rs0 (.bool false) (by kernel_rfl) ?_
      refine rnil (tn_ ?_)
      refine awp_ret_ (tr_ ?_)
      obtain rfl := Option.some.inj h
      exact ret_ [(.bool false)] (by simp) (by kernel_rfl) (p_one rfl (l_sc (by kernel_rfl)) p_nil) (by kernel_rfl) (by kernel_rfl)
    · refine awp_condF_ q14 (by kernel_rfl) ?_
      refine awp_skip_ (tn_ ?_)
      refine awp_seqC h (fun (_ : Unit) S_ => S_ = ⟨mkTm [], mkOb (someL []), 2⟩) ?_ ?_
      · intro v_ h hk16
        refine awp_seq_ ?_
        refine awp_region_ 6 (by kernel_rfl) ?_
        refine rs0 (.box (0, 1) 4) (by kernel_rfl) ?_
        refine rsl (.tree (.pair .int (.pair .int (.pair .int (.pair .int .int)))) a1_4) (by kernel_rfl) ?_
        refine rs0 (.int .i64 ((a1_4.length : Nat) : Int)) (by kernel_rfl) ?_
        refine rs0 (.int .i64 0) (by kernel_rfl) ?_
        refine rnil (tn_ ?_)
        refine awp_block_ ?_
        refine awp_loopL h (fun (l18_m43 : Nat) S_ => S_ = ⟨mkTm [(0, (.int .i64 a0)), (3, (.box (0, 1) 0)), (41, (.tree (.pair .int (.pair .int (.pair .int (.pair .int .int)))) a1_4)), (42, (.int .i64 ((a1_4.length : Nat) : Int))), (43, (.int .i64 ((l18_m43 : Nat) : Int)))], mkOb (someL [((0, 1), .cells 29 [(.int .i64 a1_0), (.int .i64 a1_1), (.int .i64 a1_2), (.int .i64 a1_3), (.tree (.pair .int (.pair .int (.pair .int (.pair .int .int)))) a1_4)])]), 2⟩) ⟨_, (weak_ren (renF []) (by kernel_rfl) (by kernel_rfl) (by kernel_rfl)), rfl⟩ ?_
        · rintro n_ l18_m43 _ c_ rfl h hn18
          (try dsimp only at h)
          unfold L_spec_cmGood_l1 at h
          unfold m_spec_cmGood_l1
          refine awp_seq_ ?_
          refine awp_region_ 3 (by kernel_rfl) ?_
          refine rs0 (.bool (decide (((l18_m43 : Nat) : Int) < ((a1_4.length : Nat) : Int)))) (by kernel_rfl) ?_
          refine rnil (tn_ ?_)
          refine awp_seq_ ?_
          rcases cond_some h with ⟨q21, h⟩ | ⟨q21, h⟩
          · have q21_ := of_decide_eq_true q21
            refine awp_condT_ q21 (by kernel_rfl) ?_
            refine awp_skip_ (tn_ ?_)
            refine awp_seq_ ?_
            refine awp_block_ ?_
            refine awp_seq_ ?_
            obtain ⟨x24, e24, h⟩ := ob_some h
            refine awp_region_ 7 (by kernel_rfl) ?_
            refine rs0 (.telt (.pair .int (.pair .int (.pair .int (.pair .int .int)))) x24 0) (s_idxT (t := (.pair .int (.pair .int (.pair .int (.pair .int .int))))) (xs := a1_4) (k := .i64) (m := ((l18_m43 : Nat) : Int)) (by kernel_rfl) (by kernel_rfl) rfl (nat_nn _) rfl e24) ?_
            refine rs0 (.agg [(.int .i64 x24.1), (.int .i64 x24.2.1), (.int .i64 x24.2.2.1), (.int .i64 x24.2.2.2.1), (.int .i64 x24.2.2.2.2)]) (by kernel_rfl) ?_
            refine rs1 (.box (6, 5) 0) (6, 5) (.cells 69 [(.int .i64 0), (.int .i64 0), (.int .i64 0), (.int .i64 0), (.int .i64 0)]) (by kernel_rfl) ?_
            refine rsn2 (6, 5) (6, 5) (.cells 69 [(.int .i64 x24.1), (.int .i64 x24.2.1), (.int .i64 x24.2.2.1), (.int .i64 x24.2.2.2.1), (.int .i64 x24.2.2.2.2)]) (by kernel_rfl) ?_
            refine rnil (tn_ ?_)
            refine awp_seq_ ?_
            obtain ⟨y26, h26, h⟩ := ob_some h
            refine awp_region_ 12 (by kernel_rfl) ?_
            refine rs0 (.int .i64 a0) (by kernel_rfl) ?_
            refine rsl (.agg [(.int .i64 a1_0), (.int .i64 a1_1), (.int .i64 a1_2), (.int .i64 a1_3), (.tree (.pair .int (.pair .int (.pair .int (.pair .int .int)))) a1_4)]) (by kernel_rfl) ?_
            refine rsl (.agg [(.int .i64 x24.1), (.int .i64 x24.2.1), (.int .i64 x24.2.2.1), (.int .i64 x24.2.2.2.1), (.int .i64 x24.2.2.2.2)]) (by kernel_rfl) ?_
            refine rcall (.bool y26) [] [(.int .i64 a0), (.agg [(.int .i64 a1_0), (.int .i64 a1_1), (.int .i64 a1_2), (.int .i64 a1_3), (.tree (.pair .int (.pair .int (.pair .int (.pair .int .int)))) a1_4)]), (.agg [(.int .i64 x24.1), (.int .i64 x24.2.1), (.int .i64 x24.2.2.1), (.int .i64 x24.2.2.2.1), (.int .i64 x24.2.2.2.2)])] _ (caps := []) (args0 := [(.int .i64 a0), (.agg [(.int .i64 a1_0), (.int .i64 a1_1), (.int .i64 a1_2), (.int .i64 a1_3), (.tree (.pair .int (.pair .int (.pair .int (.pair .int .int)))) a1_4)]), (.agg [(.int .i64 x24.1), (.int .i64 x24.2.1), (.int .i64 x24.2.2.1), (.int .i64 x24.2.2.2.1), (.int .i64 x24.2.2.2.2)])]) trivial (by kernel_rfl) (by kernel_rfl) (by kernel_rfl) (by kernel_rfl) (ok_spec_cmInstr h26) hb_spec_cmInstr (by kernel_rfl) ?_
            refine rs0 (.bool (!y26)) (by kernel_rfl) ?_
            refine rnil (tn_ ?_)
            rcases cond_some h with ⟨q27, h⟩ | ⟨q27, h⟩
            · refine awp_condT_ q27 (by kernel_rfl) ?_
              refine awp_seq_ ?_
              refine awp_region_ 13 (by kernel_rfl) ?_
              refine rs0 (.bool false) (by kernel_rfl) ?_
              refine rnil (tn_ ?_)
              refine awp_ret_ (br_ (tr_ (tr_ (br_ (tr_ ?_)))))
              obtain rfl := Option.some.inj h
              have h := hn18
              (try dsimp only at h)
              obtain rfl := Option.some.inj h
              have h := hk16
              (try dsimp only at h)
              obtain rfl := Option.some.inj h
              exact ret_ [(.bool false)] (by simp) (by kernel_rfl) (p_one rfl (l_sc (by kernel_rfl)) p_nil) (by kernel_rfl) (by kernel_rfl)
            · refine awp_condF_ q27 (by kernel_rfl) ?_
              refine awp_skip_ (bn_ (tn_ ?_))
              obtain ⟨g29, h⟩ := og_some h
              refine awp_region_ 14 (by kernel_rfl) ?_
              refine rs0 (.int .i64 ((l18_m43 + 1 : Nat) : Int)) (s_add1 (j := l18_m43) (by kernel_rfl) (by kernel_rfl) g29) ?_
              refine rs0 (.int .i64 ((l18_m43 + 1 : Nat) : Int)) (by kernel_rfl) ?_
              refine rnil (tn_ ?_)
              obtain rfl := Option.some.inj h
              exact ⟨l18_m43 + 1, _, (weak_ren (renF []) (by kernel_rfl) (by kernel_rfl) (by kernel_rfl)), rfl, hn18⟩
          · have q21_ := of_decide_eq_false q21
            refine awp_condF_ q21 (by kernel_rfl) ?_
            refine awp_exit_ (te_ (te_ (be_ (tn_ ?_))))
            obtain rfl := Option.some.inj h
            have h := hn18
            (try dsimp only at h)
            obtain rfl := Option.some.inj h
            exact ⟨(), _, rfl, (weak_ren (renF []) (by kernel_rfl) (by kernel_rfl) (by kernel_rfl)), rfl⟩
      · rintro _ _ rfl h
        (try dsimp only at h)
        refine awp_seq_ ?_
        refine awp_region_ 3 (by kernel_rfl) ?_
        refine rs0 (.bool true) (by kernel_rfl) ?_
        refine rnil (tn_ ?_)
        refine awp_ret_ ?_
        obtain rfl := Option.some.inj h
        exact ret_ [(.bool true)] (by simp) (by kernel_rfl) (p_one rfl (l_sc (by kernel_rfl)) p_nil) (by kernel_rfl) (by kernel_rfl)
def m_impl_Instr_reads : AC :=
  (.seq (.region [⟨(some 1), none, (.i (.box 69 (.tmp 0)))⟩, ⟨(some 2), none, (.i (.mov (.cst .nils)))⟩] false [])
  (.seq (.seq (.region [⟨(some 3), none, (.i (.fld 0 (.tmp 1)))⟩, ⟨(some 4), none, (.i (.ld true 1 (.tmp 3)))⟩] false [])
  (.block 0 (.seq (.region [⟨(some 6), none, (.i (.bin .eql (.tmp 4) (.cst (.int .i64 3))))⟩, ⟨(some 5), none, (.i (.mov (.tmp 6)))⟩] false [])
  (.cond (.tmp 5)
    (.seq (.region [⟨(some 7), none, (.i (.fld 2 (.tmp 1)))⟩, ⟨(some 8), none, (.i (.ld true 1 (.tmp 7)))⟩, ⟨(some 9), none, (.i (.fld 3 (.tmp 1)))⟩, ⟨(some 10), none, (.i (.ld true 1 (.tmp 9)))⟩, ⟨(some 11), none, (.mkS 3 .int [(.tmp 8), (.tmp 10)])⟩, ⟨(some 2), none, (.i (.mov (.tmp 11)))⟩] false [])
    .ret)
    (.seq (.region [⟨(some 13), none, (.i (.bin .eql (.tmp 4) (.cst (.int .i64 4))))⟩, ⟨(some 12), none, (.i (.mov (.tmp 13)))⟩] false [])
    (.cond (.tmp 12)
      (.seq (.region [⟨(some 14), none, (.i (.fld 2 (.tmp 1)))⟩, ⟨(some 15), none, (.i (.ld true 1 (.tmp 14)))⟩, ⟨(some 16), none, (.mkS 3 .int [(.tmp 15)])⟩, ⟨(some 2), none, (.i (.mov (.tmp 16)))⟩] false [])
      .ret)
      (.seq (.seq (.region [⟨(some 18), none, (.i (.bin .eql (.tmp 4) (.cst (.int .i64 6))))⟩, ⟨(some 17), none, (.i (.mov (.tmp 18)))⟩] false [])
      (.cond (.tmp 17)
        .skip
        (.region [⟨(some 19), none, (.i (.bin .eql (.tmp 4) (.cst (.int .i64 7))))⟩, ⟨(some 17), none, (.i (.mov (.tmp 19)))⟩] false [])))
      (.cond (.tmp 17)
        (.seq (.region [⟨(some 20), none, (.i (.fld 1 (.tmp 1)))⟩, ⟨(some 21), none, (.i (.ld true 1 (.tmp 20)))⟩, ⟨(some 22), none, (.mkS 3 .int [(.tmp 21)])⟩, ⟨(some 2), none, (.i (.mov (.tmp 22)))⟩] false [])
        .ret)
        .skip))))))))
  (.seq (.region [⟨(some 2), none, (.i (.mov (.cst .nils)))⟩] false [])
  .ret)))
def r_impl_Instr_reads : List Res := [.tmp 2]
theorem c_impl_Instr_reads : compiled Tryd.prog Tryd.f65 = some (m_impl_Instr_reads, r_impl_Instr_reads) := by kernel_rfl
theorem hb_impl_Instr_reads : hasBody Tryd.prog 65 = true := by kernel_rfl
def L_impl_Instr_reads (a0_0 : Int) (a0_1 : Int) (a0_2 : Int) (a0_3 : Int) (a0_4 : Int) : Option (List Int) :=
  cond (a0_0 == 3)
  (some ([a0_2, a0_3]))
  (cond (a0_0 == 4)
    (some ([a0_2]))
    (Option.bind (cond (a0_0 == 6)
        (some (a0_0 == 6))
        (some (a0_0 == 7))) fun l10_m17 =>
    cond l10_m17
      (some ([a0_1]))
      (some [])))
def rv_impl_Instr_reads (r : List Int) : RV := ⟨false, [(false, [.new 3 .int r])]⟩
theorem ok_impl_Instr_reads {a0_0 : Int} {a0_1 : Int} {a0_2 : Int} {a0_3 : Int} {a0_4 : Int} {r : List Int} (h : L_impl_Instr_reads a0_0 a0_1 a0_2 a0_3 a0_4 = some r) : CallOK Tryd.prog Tab 65 [(.agg [(.int .i64 a0_0), (.int .i64 a0_1), (.int .i64 a0_2), (.int .i64 a0_3), (.int .i64 a0_4)])] (rv_impl_Instr_reads r) := by
  refine call_of_ (by kernel_rfl) Tryd.func65 c_impl_Instr_reads (n := 23) (by kernel_rfl) (by simp) (tl := [(0, (.agg [(.int .i64 a0_0), (.int .i64 a0_1), (.int .i64 a0_2), (.int .i64 a0_3), (.int .i64 a0_4)]))]) rfl ?_
  unfold m_impl_Instr_reads
  unfold L_impl_Instr_reads at h
  refine awp_seq_ ?_
  refine awp_region_ 3 (by kernel_rfl) ?_
  refine rs1 (.box (1, 1) 0) (1, 1) (.cells 69 [(.int .i64 a0_0), (.int .i64 a0_1), (.int .i64 a0_2), (.int .i64 a0_3), (.int .i64 a0_4)]) (by kernel_rfl) ?_
  refine rs0 .nils (by kernel_rfl) ?_
  refine rnil (tn_ ?_)
  refine awp_seq_ ?_
  refine awp_seq_ ?_
  refine awp_region_ 5 (by kernel_rfl) ?_
  refine rs0 (.box (1, 1) 0) (by kernel_rfl) ?_
  refine rsl (.int .i64 a0_0) (by kernel_rfl) ?_
  refine rnil (tn_ ?_)
  refine awp_block_ ?_
  refine awp_seq_ ?_
  refine awp_region_ 7 (by kernel_rfl) ?_
  refine rs0 (.bool (a0_0 == 3)) (by kernel_rfl) ?_
  refine rs0 (.bool (a0_0 == 3)) (by kernel_rfl) ?_
  refine rnil (tn_ ?_)
  rcases cond_some h with ⟨q5, h⟩ | ⟨q5, h⟩
  · refine awp_condT_ q5 (by kernel_rfl) ?_
    refine awp_seq_ ?_
    refine awp_region_ 13 (by kernel_rfl) ?_
    refine rs0 (.box (1, 1) 2) (by kernel_rfl) ?_
    refine rsl (.int .i64 a0_2) (by kernel_rfl) ?_
    refine rs0 (.box (1, 1) 3) (by kernel_rfl) ?_
    refine rsl (.int .i64 a0_3) (by kernel_rfl) ?_
    refine rs1 (.own (11, 11) .int 0 2) (11, 11) (.arr 3 .int ([a0_2, a0_3])) (by kernel_rfl) ?_
    refine rs0 (.own (11, 11) .int 0 2) (by kernel_rfl) ?_
    refine rnil (tn_ ?_)
    refine awp_ret_ (br_ (tr_ ?_))
    obtain rfl := Option.some.inj h
    exact ret_ [(.own (11, 11) .int 0 2)] (by simp) (by kernel_rfl) (p_one rfl (l_own (by kernel_rfl) rfl) p_nil) (by kernel_rfl) (by kernel_rfl)
  · refine awp_condF_ q5 (by kernel_rfl) ?_
    refine awp_seq_ ?_
    refine awp_region_ 9 (by kernel_rfl) ?_
    refine rs0 (.bool (a0_0 == 4)) (by kernel_rfl) ?_
    refine rs0 (.bool (a0_0 == 4)) (by kernel_rfl) ?_
    refine rnil (tn_ ?_)
    rcases cond_some h with ⟨q8, h⟩ | ⟨q8, h⟩
    · refine awp_condT_ q8 (by kernel_rfl) ?_
      refine awp_seq_ ?_
      refine awp_region_ 13 (by kernel_rfl) ?_
      refine rs0 (.box (1, 1) 2) (by kernel_rfl) ?_
      refine rsl (.int .i64 a0_2) (by kernel_rfl) ?_
      refine rs1 (.own (16, 11) .int 0 1) (16, 11) (.arr 3 .int ([a0_2])) (by kernel_rfl) ?_
      refine rs0 (.own (16, 11) .int 0 1) (by kernel_rfl) ?_
      refine rnil (tn_ ?_)
      refine awp_ret_ (br_ (tr_ ?_))
      obtain rfl := Option.some.inj h
      exact ret_ [(.own (16, 11) .int 0 1)] (by simp) (by kernel_rfl) (p_one rfl (l_own (by kernel_rfl) rfl) p_nil) (by kernel_rfl) (by kernel_rfl)
    · refine awp_condF_ q8 (by kernel_rfl) ?_
      refine awp_seqB h (fun (l10_m17 : Bool) S_ => S_ = ⟨mkTm [(1, (.box (0, 1) 0)), (17, (.bool l10_m17))], mkOb (someL [((0, 1), .cells 69 [(.int .i64 a0_0), (.int .i64 a0_1), (.int .i64 a0_2), (.int .i64 a0_3), (.int .i64 a0_4)])]), 2⟩) ?_ ?_
      · intro v_ h
        refine awp_seq_ ?_
        refine awp_region_ 11 (by kernel_rfl) ?_
        refine rs0 (.bool (a0_0 == 6)) (by kernel_rfl) ?_
        refine rs0 (.bool (a0_0 == 6)) (by kernel_rfl) ?_
        refine rnil (tn_ ?_)
        rcases cond_some h with ⟨q12, h⟩ | ⟨q12, h⟩
        · refine awp_condT_ q12 (by kernel_rfl) ?_
          refine awp_skip_ (tn_ ?_)
          obtain rfl := Option.some.inj h
          exact ⟨_, (weak_ren (renF [((0, 1), (1, 1))]) (by kernel_rfl) (by kernel_rfl) (by kernel_rfl)), rfl⟩
        · refine awp_condF_ q12 (by kernel_rfl) ?_
          refine awp_region_ 13 (by kernel_rfl) ?_
          refine rs0 (.bool (a0_0 == 7)) (by kernel_rfl) ?_
          refine rs0 (.bool (a0_0 == 7)) (by kernel_rfl) ?_
          refine rnil (tn_ ?_)
          obtain rfl := Option.some.inj h
          exact ⟨_, (weak_ren (renF [((0, 1), (1, 1))]) (by kernel_rfl) (by kernel_rfl) (by kernel_rfl)), rfl⟩
      · rintro l10_m17 _ rfl h
        (try dsimp only at h)
        rcases cond_some h with ⟨q13, h⟩ | ⟨q13, h⟩
        · refine awp_condT_ q13 (by kernel_rfl) ?_
          refine awp_seq_ ?_
          refine awp_region_ 6 (by kernel_rfl) ?_
          refine rs0 (.box (0, 1) 1) (by kernel_rfl) ?_
          refine rsl (.int .i64 a0_1) (by kernel_rfl) ?_
          refine rs1 (.own (22, 4) .int 0 1) (22, 4) (.arr 3 .int ([a0_1])) (by kernel_rfl) ?_
          refine rs0 (.own (22, 4) .int 0 1) (by kernel_rfl) ?_
          refine rnil (tn_ ?_)
          refine awp_ret_ (br_ (tr_ ?_))
          obtain rfl := Option.some.inj h
          exact ret_ [(.own (22, 4) .int 0 1)] (by simp) (by kernel_rfl) (p_one rfl (l_own (by kernel_rfl) rfl) p_nil) (by kernel_rfl) (by kernel_rfl)
        · refine awp_condF_ q13 (by kernel_rfl) ?_
          refine awp_skip_ (bn_ (tn_ ?_))
          refine awp_seq_ ?_
          refine awp_region_ 3 (by kernel_rfl) ?_
          refine rs0 .nils (by kernel_rfl) ?_
          refine rnil (tn_ ?_)
          refine awp_ret_ ?_
          obtain rfl := Option.some.inj h
          exact ret_ [.nils] (by simp) (by kernel_rfl) (p_one rfl (l_nils rfl) p_nil) (by kernel_rfl) (by kernel_rfl)
def m_impl_Program_isInstr : AC :=
  (.seq (.region [⟨(some 3), none, (.i (.box 29 (.tmp 0)))⟩, ⟨(some 5), none, (.i (.box 69 (.tmp 2)))⟩, ⟨(some 6), none, (.i (.mov (.cst (.bool false))))⟩] false [])
  (.seq (.seq (.region [⟨(some 8), none, (.i (.fld 1 (.tmp 5)))⟩, ⟨(some 9), none, (.i (.ld true 1 (.tmp 8)))⟩, ⟨(some 10), none, (.i (.fld 3 (.tmp 3)))⟩, ⟨(some 11), none, (.i (.ld true 1 (.tmp 10)))⟩, ⟨(some 12), none, (.i (.bin .sub (.tmp 11) (.cst (.int .i64 1))))⟩, ⟨(some 13), none, (.call (.cst (.fn 39 [])) [(.tmp 9), (.cst (.int .i64 0)), (.tmp 12)] [[], [], []])⟩, ⟨(some 14), none, (.i (.not (.tmp 13)))⟩, ⟨(some 15), none, (.i (.mov (.tmp 14)))⟩, ⟨(some 16), (some (15, false)), (.i (.ld false 5 (.tmp 5)))⟩, ⟨(some 17), (some (15, false)), (.call (.cst (.fn 65 [])) [(.tmp 16)] [[none, none, none, none, none]])⟩, ⟨(some 18), (some (15, false)), (.i (.fld 3 (.tmp 3)))⟩, ⟨(some 19), (some (15, false)), (.i (.ld true 1 (.tmp 18)))⟩, ⟨(some 20), (some (15, false)), (.call (.cst (.fn 76 [])) [(.tmp 17), (.tmp 19)] [[(some .int)], []])⟩, ⟨(some 21), (some (15, false)), (.i (.not (.tmp 20)))⟩, ⟨(some 22), none, (.i (.pick (.tmp 15) (.cst (.bool true)) (.tmp 21)))⟩] true [(9, 11)])
  (.cond (.tmp 22)
    (.seq (.region [⟨(some 6), none, (.i (.mov (.cst (.bool false))))⟩] false [])
    .ret)
    .skip))
  (.seq (.region [⟨(some 23), none, (.i (.fld 3 (.tmp 5)))⟩, ⟨(some 24), none, (.i (.ld true 1 (.tmp 23)))⟩, ⟨(some 25), none, (.i (.bin .eql (.tmp 24) (.cst (.int .i64 0))))⟩, ⟨(some 26), none, (.i (.mov (.tmp 25)))⟩, ⟨(some 27), (some (26, true)), (.i (.fld 4 (.tmp 5)))⟩, ⟨(some 28), (some (26, true)), (.i (.ld true 1 (.tmp 27)))⟩, ⟨(some 29), (some (26, true)), (.i (.bin .eql (.tmp 28) (.cst (.int .i64 0))))⟩, ⟨(some 30), none, (.i (.pick (.tmp 26) (.tmp 29) (.cst (.bool false))))⟩, ⟨(some 7), none, (.i (.mov (.tmp 30)))⟩] false [])
  (.seq (.seq (.region [⟨(some 31), none, (.i (.fld 0 (.tmp 5)))⟩, ⟨(some 32), none, (.i (.ld true 1 (.tmp 31)))⟩] false [])
  (.block 0 (.seq (.region [⟨(some 34), none, (.i (.bin .eql (.tmp 32) (.cst (.int .i64 1))))⟩, ⟨(some 33), none, (.i (.mov (.tmp 34)))⟩] false [])
  (.cond (.tmp 33)
    (.seq (.region [⟨(some 35), none, (.i (.mov (.tmp 7)))⟩, ⟨(some 36), none, (.i (.mov (.tmp 35)))⟩, ⟨(some 37), (some (36, true)), (.i (.fld 2 (.tmp 5)))⟩, ⟨(some 38), (some (36, true)), (.i (.ld true 1 (.tmp 37)))⟩, ⟨(some 39), (some (36, true)), (.i (.fld 0 (.tmp 3)))⟩, ⟨(some 40), (some (36, true)), (.i (.ld true 1 (.tmp 39)))⟩, ⟨(some 41), (some (36, true)), (.i (.bin .sub (.tmp 40) (.cst (.int .i64 1))))⟩, ⟨(some 42), (some (36, true)), (.call (.cst (.fn 39 [])) [(.tmp 38), (.cst (.int .i64 0)), (.tmp 41)] [[], [], []])⟩, ⟨(some 43), none, (.i (.pick (.tmp 36) (.tmp 42) (.cst (.bool false))))⟩, ⟨(some 6), none, (.i (.mov (.tmp 43)))⟩] false [])
    .ret)
    (.seq (.region [⟨(some 45), none, (.i (.bin .eql (.tmp 32) (.cst (.int .i64 2))))⟩, ⟨(some 44), none, (.i (.mov (.tmp 45)))⟩] false [])
    (.cond (.tmp 44)
      (.seq (.region [⟨(some 46), none, (.i (.mov (.tmp 7)))⟩, ⟨(some 47), none, (.i (.mov (.tmp 46)))⟩, ⟨(some 48), (some (47, true)), (.i (.fld 2 (.tmp 5)))⟩, ⟨(some 49), (some (47, true)), (.i (.ld true 1 (.tmp 48)))⟩, ⟨(some 50), (some (47, true)), (.i (.bin .eql (.tmp 49) (.cst (.int .i64 0))))⟩, ⟨(some 51), none, (.i (.pick (.tmp 47) (.tmp 50) (.cst (.bool false))))⟩, ⟨(some 6), none, (.i (.mov (.tmp 51)))⟩] false [])
      .ret)
      (.seq (.region [⟨(some 53), none, (.i (.bin .eql (.tmp 32) (.cst (.int .i64 3))))⟩, ⟨(some 52), none, (.i (.mov (.tmp 53)))⟩] false [])
      (.cond (.tmp 52)
        (.seq (.region [⟨(some 54), none, (.i (.fld 4 (.tmp 5)))⟩, ⟨(some 55), none, (.i (.ld true 1 (.tmp 54)))⟩, ⟨(some 56), none, (.i (.bin .eql (.tmp 55) (.cst (.int .i64 0))))⟩, ⟨(some 6), none, (.i (.mov (.tmp 56)))⟩] false [])
        .ret)
        (.seq (.region [⟨(some 58), none, (.i (.bin .eql (.tmp 32) (.cst (.int .i64 4))))⟩, ⟨(some 57), none, (.i (.mov (.tmp 58)))⟩] false [])
        (.cond (.tmp 57)
          (.seq (.region [⟨(some 59), none, (.i (.fld 3 (.tmp 5)))⟩, ⟨(some 60), none, (.i (.ld true 1 (.tmp 59)))⟩, ⟨(some 61), none, (.i (.bin .eql (.tmp 60) (.cst (.int .i64 0))))⟩, ⟨(some 62), none, (.i (.mov (.tmp 61)))⟩, ⟨(some 63), (some (62, true)), (.i (.mov (.tmp 1)))⟩, ⟨(some 64), (some (62, true)), (.i (.fld 4 (.tmp 5)))⟩, ⟨(some 65), (some (62, true)), (.i (.ld true 1 (.tmp 64)))⟩, ⟨(some 66), (some (62, true)), (.call (.cst (.fn 70 [])) [(.tmp 63), (.tmp 65)] [[], []])⟩, ⟨(some 67), none, (.i (.pick (.tmp 62) (.tmp 66) (.cst (.bool false))))⟩, ⟨(some 6), none, (.i (.mov (.tmp 67)))⟩] false [])
          .ret)
          (.seq (.seq (.region [⟨(some 69), none, (.i (.bin .eql (.tmp 32) (.cst (.int .i64 5))))⟩, ⟨(some 68), none, (.i (.mov (.tmp 69)))⟩] false [])
          (.cond (.tmp 68)
            .skip
            (.region [⟨(some 70), none, (.i (.bin .eql (.tmp 32) (.cst (.int .i64 6))))⟩, ⟨(some 68), none, (.i (.mov (.tmp 70)))⟩] false [])))
          (.cond (.tmp 68)
            (.seq (.region [⟨(some 71), none, (.i (.mov (.tmp 7)))⟩, ⟨(some 72), none, (.i (.mov (.tmp 71)))⟩, ⟨(some 73), (some (72, true)), (.i (.fld 2 (.tmp 5)))⟩, ⟨(some 74), (some (72, true)), (.i (.ld true 1 (.tmp 73)))⟩, ⟨(some 75), (some (72, true)), (.i (.fld 2 (.tmp 3)))⟩, ⟨(some 76), (some (72, true)), (.i (.ld true 1 (.tmp 75)))⟩, ⟨(some 77), (some (72, true)), (.i (.bin .sub (.tmp 76) (.cst (.int .i64 1))))⟩, ⟨(some 78), (some (72, true)), (.call (.cst (.fn 39 [])) [(.tmp 74), (.cst (.int .i64 0)), (.tmp 77)] [[], [], []])⟩, ⟨(some 79), none, (.i (.pick (.tmp 72) (.tmp 78) (.cst (.bool false))))⟩, ⟨(some 6), none, (.i (.mov (.tmp 79)))⟩] false [])
            .ret)
            (.seq (.region [⟨(some 81), none, (.i (.bin .eql (.tmp 32) (.cst (.int .i64 7))))⟩, ⟨(some 80), none, (.i (.mov (.tmp 81)))⟩] false [])
            (.cond (.tmp 80)
              (.seq (.region [⟨(some 82), none, (.i (.mov (.tmp 7)))⟩, ⟨(some 83), none, (.i (.mov (.tmp 82)))⟩, ⟨(some 84), (some (83, true)), (.i (.fld 2 (.tmp 5)))⟩, ⟨(some 85), (some (83, true)), (.i (.ld true 1 (.tmp 84)))⟩, ⟨(some 86), (some (83, true)), (.i (.fld 1 (.tmp 3)))⟩, ⟨(some 87), (some (83, true)), (.i (.ld true 1 (.tmp 86)))⟩, ⟨(some 88), (some (83, true)), (.i (.bin .sub (.tmp 87) (.cst (.int .i64 1))))⟩, ⟨(some 89), (some (83, true)), (.call (.cst (.fn 39 [])) [(.tmp 85), (.cst (.int .i64 0)), (.tmp 88)] [[], [], []])⟩, ⟨(some 90), none, (.i (.pick (.tmp 83) (.tmp 89) (.cst (.bool false))))⟩, ⟨(some 6), none, (.i (.mov (.tmp 90)))⟩] false [])
              .ret)
              .skip))))))))))))))
  (.seq (.region [⟨(some 6), none, (.i (.mov (.cst (.bool false))))⟩] false [])
  .ret)))))
def r_impl_Program_isInstr : List Res := [.tmp 6]
theorem c_impl_Program_isInstr : compiled Tryd.prog Tryd.f61 = some (m_impl_Program_isInstr, r_impl_Program_isInstr) := by kernel_rfl
theorem hb_impl_Program_isInstr : hasBody Tryd.prog 61 = true := by kernel_rfl
def L_impl_Program_isInstr (a0_0 : Int) (a0_1 : Int) (a0_2 : Int) (a0_3 : Int) (a0_4 : List (Int × Int × Int × Int × Int)) (a1 : Int) (a2_0 : Int) (a2_1 : Int) (a2_2 : Int) (a2_3 : Int) (a2_4 : Int) : Option Bool :=
  Option.bind (Option.bind (L_impl_within a2_1 0 (IntKind.i64.wrap (a0_3 - 1))) fun y4 =>
  cond (!y4)
    (some true)
    (Option.bind (L_impl_Instr_reads a2_0 a2_1 a2_2 a2_3 a2_4) fun y6 =>
    Option.bind (L_impl_areBelow y6 a0_3) fun y7 =>
    some (!y7))) fun l3_m22 =>
cond l3_m22
  (some false)
  (Option.bind (cond (a2_3 == 0)
      (some (a2_4 == 0))
      (some false)) fun l10_m7 =>
  cond (a2_0 == 1)
    (Option.bind (cond l10_m7
        (Option.bind (L_impl_within a2_2 0 (IntKind.i64.wrap (a0_0 - 1))) fun y18 =>
        some y18)
        (some false)) fun l16_m6 =>
    some l16_m6)
    (cond (a2_0 == 2)
      (Option.bind (cond l10_m7
          (some (a2_2 == 0))
          (some false)) fun l21_m6 =>
      some l21_m6)
      (cond (a2_0 == 3)
        (some (a2_4 == 0))
        (cond (a2_0 == 4)
          (Option.bind (cond (a2_3 == 0)
              (Option.bind (L_impl_isElement a1 a2_4) fun y30 =>
              some y30)
              (some false)) fun l28_m6 =>
          some l28_m6)
          (Option.bind (cond (a2_0 == 5)
              (some (a2_0 == 5))
              (some (a2_0 == 6))) fun l31_m68 =>
          cond l31_m68
            (Option.bind (cond l10_m7
                (Option.bind (L_impl_within a2_2 0 (IntKind.i64.wrap (a0_2 - 1))) fun y37 =>
                some y37)
                (some false)) fun l35_m6 =>
            some l35_m6)
            (cond (a2_0 == 7)
              (Option.bind (cond l10_m7
                  (Option.bind (L_impl_within a2_2 0 (IntKind.i64.wrap (a0_1 - 1))) fun y42 =>
                  some y42)
                  (some false)) fun l40_m6 =>
              some l40_m6)
              (some false)))))))
def rv_impl_Program_isInstr (r : Bool) : RV := ⟨false, [(false, [.sc (.bool r)])]⟩
theorem ok_impl_Program_isInstr {a0_0 : Int} {a0_1 : Int} {a0_2 : Int} {a0_3 : Int} {a0_4 : List (Int × Int × Int × Int × Int)} {a1 : Int} {a2_0 : Int} {a2_1 : Int} {a2_2 : Int} {a2_3 : Int} {a2_4 : Int} {r : Bool} (h : L_impl_Program_isInstr a0_0 a0_1 a0_2 a0_3 a0_4 a1 a2_0 a2_1 a2_2 a2_3 a2_4 = some r) : CallOK Tryd.prog Tab 61 [(.agg [(.int .i64 a0_0), (.int .i64 a0_1), (.int .i64 a0_2), (.int .i64 a0_3), (.tree (.pair .int (.pair .int (.pair .int (.pair .int .int)))) a0_4)]), (.int .i64 a1), (.agg [(.int .i64 a2_0), (.int .i64 a2_1), (.int .i64 a2_2), (.int .i64 a2_3), (.int .i64 a2_4)])] (rv_impl_Program_isInstr r) := by
  refine call_of_ (by kernel_rfl) Tryd.func61 c_impl_Program_isInstr (n := 91) (by kernel_rfl) (by simp) (tl := [(0, (.agg [(.int .i64 a0_0), (.int .i64 a0_1), (.int .i64 a0_2), (.int .i64 a0_3), (.tree (.pair .int (.pair .int (.pair .int (.pair .int .int)))) a0_4)])), (1, (.int .i64 a1)), (2, (.agg [(.int .i64 a2_0), (.int .i64 a2_1), (.int .i64 a2_2), (.int .i64 a2_3), (.int .i64 a2_4)]))]) rfl ?_
  unfold m_impl_Program_isInstr
  unfold L_impl_Program_isInstr at h
  refine awp_seq_ ?_
  refine awp_region_ 4 (by kernel_rfl) ?_
  refine rs1 (.box (3, 1) 0) (3, 1) (.cells 29 [(.int .i64 a0_0), (.int .i64 a0_1), (.int .i64 a0_2), (.int .i64 a0_3), (.tree (.pair .int (.pair .int (.pair .int (.pair .int .int)))) a0_4)]) (by kernel_rfl) ?_
  refine rs1 (.box (5, 2) 0) (5, 2) (.cells 69 [(.int .i64 a2_0), (.int .i64 a2_1), (.int .i64 a2_2), (.int .i64 a2_3), (.int .i64 a2_4)]) (by kernel_rfl) ?_
  refine rs0 (.bool false) (by kernel_rfl) ?_
  refine rnil (tn_ ?_)
  refine awp_seq_ ?_
  refine awp_seqB h (fun (l3_m22 : Bool) S_ => S_ = ⟨mkTm [(1, (.int .i64 a1)), (3, (.box (0, 1) 0)), (5, (.box (1, 1) 0)), (22, (.bool l3_m22))], mkOb (someL [((0, 1), .cells 29 [(.int .i64 a0_0), (.int .i64 a0_1), (.int .i64 a0_2), (.int .i64 a0_3), (.tree (.pair .int (.pair .int (.pair .int (.pair .int .int)))) a0_4)]), ((1, 1), .cells 69 [(.int .i64 a2_0), (.int .i64 a2_1), (.int .i64 a2_2), (.int .i64 a2_3), (.int .i64 a2_4)])]), 2⟩) ?_ ?_
  · intro v_ h
    obtain ⟨y4, h4, h⟩ := ob_some h
    rcases cond_some h with ⟨q5, h⟩ | ⟨q5, h⟩
    · refine awp_regionD_ 19 (by kernel_rfl) ?_
      refine ds0 (.box (5, 2) 1) (by kernel_rfl) ?_
      refine dsl (.int .i64 a2_1) (by kernel_rfl) ?_
      refine ds0 (.box (3, 1) 3) (by kernel_rfl) ?_
      refine dsl (.int .i64 a0_3) (by kernel_rfl) ?_
      refine ds0 (.int .i64 (IntKind.i64.wrap (a0_3 - 1))) (by kernel_rfl) ?_
      refine dcall (.bool y4) [] [(.int .i64 a2_1), (.int .i64 0), (.int .i64 (IntKind.i64.wrap (a0_3 - 1)))] _ (caps := []) (args0 := [(.int .i64 a2_1), (.int .i64 0), (.int .i64 (IntKind.i64.wrap (a0_3 - 1)))]) trivial (by kernel_rfl) (by kernel_rfl) (by kernel_rfl) (by kernel_rfl) (ok_impl_within h4) hb_impl_within (by kernel_rfl) ?_
      refine ds0 (.bool (!y4)) (by kernel_rfl) ?_
      refine ds0 (.bool (!y4)) (by kernel_rfl) ?_
      refine ds0 .any (s_skip (by kernel_rfl) q5) ?_
      refine ds0 .any (s_skip (by kernel_rfl) q5) ?_
      refine ds0 .any (s_skip (by kernel_rfl) q5) ?_
      refine ds0 .any (s_skip (by kernel_rfl) q5) ?_
      refine ds0 .any (s_skip (by kernel_rfl) q5) ?_
      refine ds0 .any (s_skip (by kernel_rfl) q5) ?_
      refine ds0 (.bool true) (s_pickT (by kernel_rfl) q5) ?_
      refine dnil (by kernel_rfl) (tn_ ?_)
      obtain rfl := Option.some.inj h
      exact ⟨_, (weak_ren (renF [((0, 1), (3, 1)), ((1, 1), (5, 2))]) (by kernel_rfl) (by kernel_rfl) (by kernel_rfl)), rfl⟩
    · obtain ⟨y6, h6, h⟩ := ob_some h
      obtain ⟨y7, h7, h⟩ := ob_some h
      refine awp_regionD_ 19 (by kernel_rfl) ?_
      refine ds0 (.box (5, 2) 1) (by kernel_rfl) ?_
      refine dsl (.int .i64 a2_1) (by kernel_rfl) ?_
      refine ds0 (.box (3, 1) 3) (by kernel_rfl) ?_
      refine dsl (.int .i64 a0_3) (by kernel_rfl) ?_
      refine ds0 (.int .i64 (IntKind.i64.wrap (a0_3 - 1))) (by kernel_rfl) ?_
      refine dcall (.bool y4) [] [(.int .i64 a2_1), (.int .i64 0), (.int .i64 (IntKind.i64.wrap (a0_3 - 1)))] _ (caps := []) (args0 := [(.int .i64 a2_1), (.int .i64 0), (.int .i64 (IntKind.i64.wrap (a0_3 - 1)))]) trivial (by kernel_rfl) (by kernel_rfl) (by kernel_rfl) (by kernel_rfl) (ok_impl_within h4) hb_impl_within (by kernel_rfl) ?_
      refine ds0 (.bool (!y4)) (by kernel_rfl) ?_
      refine ds0 (.bool (!y4)) (by kernel_rfl) ?_
      refine dsl (.agg [(.int .i64 a2_0), (.int .i64 a2_1), (.int .i64 a2_2), (.int .i64 a2_3), (.int .i64 a2_4)]) (s_gd (by kernel_rfl) q5 (by kernel_rfl)) ?_
      refine dcall (.own (272, 13) .int 0 y6.length) [((272, 13), some (.arr 3 .int y6))] [(.agg [(.int .i64 a2_0), (.int .i64 a2_1), (.int .i64 a2_2), (.int .i64 a2_3), (.int .i64 a2_4)])] _ (caps := []) (args0 := [(.agg [(.int .i64 a2_0), (.int .i64 a2_1), (.int .i64 a2_2), (.int .i64 a2_3), (.int .i64 a2_4)])]) (gdOK_b (by kernel_rfl) q5) (by kernel_rfl) (by kernel_rfl) (by kernel_rfl) (by kernel_rfl) (ok_impl_Instr_reads h6) hb_impl_Instr_reads (by kernel_rfl) ?_
      refine ds0 (.box (3, 1) 3) (s_gd (by kernel_rfl) q5 (by kernel_rfl)) ?_
      refine dsl (.int .i64 a0_3) (s_gd (by kernel_rfl) q5 (by kernel_rfl)) ?_
      refine dcall (.bool y7) [] [(.own (272, 13) .int 0 y6.length), (.int .i64 a0_3)] _ (caps := []) (args0 := [(.tree .int y6), (.int .i64 a0_3)]) (gdOK_b (by kernel_rfl) q5) (by kernel_rfl) (by kernel_rfl) (gm_cons (gd_own (e := 3) (by kernel_rfl) rfl) (gm_cons (by kernel_rfl) gm_nil)) (by kernel_rfl) (ok_impl_areBelow h7) hb_impl_areBelow (by kernel_rfl) ?_
      refine ds0 (.bool (!y7)) (s_gd (by kernel_rfl) q5 (by kernel_rfl)) ?_
      refine ds0 (.bool (!y7)) (s_pickF (by kernel_rfl) q5) ?_
      refine dnil (by kernel_rfl) (tn_ ?_)
      obtain rfl := Option.some.inj h
      exact ⟨_, (weak_ren (renF [((0, 1), (3, 1)), ((1, 1), (5, 2))]) (by kernel_rfl) (by kernel_rfl) (by kernel_rfl)), rfl⟩
  · rintro l3_m22 _ rfl h
    (try dsimp only at h)
    rcases cond_some h with ⟨q8, h⟩ | ⟨q8, h⟩
    · refine awp_condT_ q8 (by kernel_rfl) ?_
      refine awp_seq_ ?_
      refine awp_region_ 3 (by kernel_rfl) ?_
      refine rs0 (.bool false) (by kernel_rfl) ?_
      refine rnil (tn_ ?_)
      refine awp_ret_ (tr_ ?_)
      obtain rfl := Option.some.inj h
      exact ret_ [(.bool false)] (by simp) (by kernel_rfl) (p_one rfl (l_sc (by kernel_rfl)) p_nil) (by kernel_rfl) (by kernel_rfl)
    · refine awp_condF_ q8 (by kernel_rfl) ?_
      refine awp_skip_ (tn_ ?_)
      refine awp_seqB h (fun (l10_m7 : Bool) S_ => S_ = ⟨mkTm [(1, (.int .i64 a1)), (3, (.box (0, 1) 0)), (5, (.box (1, 1) 0)), (7, (.bool l10_m7))], mkOb (someL [((0, 1), .cells 29 [(.int .i64 a0_0), (.int .i64 a0_1), (.int .i64 a0_2), (.int .i64 a0_3), (.tree (.pair .int (.pair .int (.pair .int (.pair .int .int)))) a0_4)]), ((1, 1), .cells 69 [(.int .i64 a2_0), (.int .i64 a2_1), (.int .i64 a2_2), (.int .i64 a2_3), (.int .i64 a2_4)])]), 2⟩) ?_ ?_
      · intro v_ h
        rcases cond_some h with ⟨q11, h⟩ | ⟨q11, h⟩
        · refine awp_region_ 11 (by kernel_rfl) ?_
          refine rs0 (.box (1, 1) 3) (by kernel_rfl) ?_
          refine rsl (.int .i64 a2_3) (by kernel_rfl) ?_
          refine rs0 (.bool (a2_3 == 0)) (by kernel_rfl) ?_
          refine rs0 (.bool (a2_3 == 0)) (by kernel_rfl) ?_
          refine rs0 (.box (1, 1) 4) (s_gd (by kernel_rfl) q11 (by kernel_rfl)) ?_
          refine rsl (.int .i64 a2_4) (s_gd (by kernel_rfl) q11 (by kernel_rfl)) ?_
          refine rs0 (.bool (a2_4 == 0)) (s_gd (by kernel_rfl) q11 (by kernel_rfl)) ?_
          refine rs0 (.bool (a2_4 == 0)) (s_pickT (by kernel_rfl) q11) ?_
          refine rs0 (.bool (a2_4 == 0)) (by kernel_rfl) ?_
          refine rnil (tn_ ?_)
          obtain rfl := Option.some.inj h
          exact ⟨_, (weak_ren (renF []) (by kernel_rfl) (by kernel_rfl) (by kernel_rfl)), rfl⟩
        · refine awp_region_ 11 (by kernel_rfl) ?_
          refine rs0 (.box (1, 1) 3) (by kernel_rfl) ?_
          refine rsl (.int .i64 a2_3) (by kernel_rfl) ?_
          refine rs0 (.bool (a2_3 == 0)) (by kernel_rfl) ?_
          refine rs0 (.bool (a2_3 == 0)) (by kernel_rfl) ?_
          refine rs0 .any (s_skip (by kernel_rfl) q11) ?_
          refine rs0 .any (s_skip (by kernel_rfl) q11) ?_
          refine rs0 .any (s_skip (by kernel_rfl) q11) ?_
          refine rs0 (.bool false) (s_pickF (by kernel_rfl) q11) ?_
          refine rs0 (.bool false) (by kernel_rfl) ?_
          refine rnil (tn_ ?_)
          obtain rfl := Option.some.inj h
          exact ⟨_, (weak_ren (renF []) (by kernel_rfl) (by kernel_rfl) (by kernel_rfl)), rfl⟩
      · rintro l10_m7 _ rfl h
        (try dsimp only at h)
        refine awp_seq_ ?_
        refine awp_seq_ ?_
        refine awp_region_ 4 (by kernel_rfl) ?_
        refine rs0 (.box (1, 1) 0) (by kernel_rfl) ?_
        refine rsl (.int .i64 a2_0) (by kernel_rfl) ?_
        refine rnil (tn_ ?_)
        refine awp_block_ ?_
        refine awp_seq_ ?_
        refine awp_region_ 6 (by kernel_rfl) ?_
        refine rs0 (.bool (a2_0 == 1)) (by kernel_rfl) ?_
        refine rs0 (.bool (a2_0 == 1)) (by kernel_rfl) ?_
        refine rnil (tn_ ?_)
        rcases cond_some h with ⟨q15, h⟩ | ⟨q15, h⟩
        · refine awp_condT_ q15 (by kernel_rfl) ?_
          refine awp_seqB h (fun (l16_m6 : Bool) S_ => S_ = ⟨mkTm [(6, (.bool l16_m6))], mkOb (someL []), 2⟩) ?_ ?_
          · intro v_ h
            rcases cond_some h with ⟨q17, h⟩ | ⟨q17, h⟩
            · obtain ⟨y18, h18, h⟩ := ob_some h
              refine awp_region_ 16 (by kernel_rfl) ?_
              refine rs0 (.bool l10_m7) (by kernel_rfl) ?_
              refine rs0 (.bool l10_m7) (by kernel_rfl) ?_
              refine rs0 (.box (1, 1) 2) (s_gd (by kernel_rfl) q17 (by kernel_rfl)) ?_
              refine rsl (.int .i64 a2_2) (s_gd (by kernel_rfl) q17 (by kernel_rfl)) ?_
              refine rs0 (.box (0, 1) 0) (s_gd (by kernel_rfl) q17 (by kernel_rfl)) ?_
              refine rsl (.int .i64 a0_0) (s_gd (by kernel_rfl) q17 (by kernel_rfl)) ?_
              refine rs0 (.int .i64 (IntKind.i64.wrap (a0_0 - 1))) (s_gd (by kernel_rfl) q17 (by kernel_rfl)) ?_
              refine rcall (.bool y18) [] [(.int .i64 a2_2), (.int .i64 0), (.int .i64 (IntKind.i64.wrap (a0_0 - 1)))] _ (caps := []) (args0 := [(.int .i64 a2_2), (.int .i64 0), (.int .i64 (IntKind.i64.wrap (a0_0 - 1)))]) (gdOK_b (by kernel_rfl) q17) (by kernel_rfl) (by kernel_rfl) (by kernel_rfl) (by kernel_rfl) (ok_impl_within h18) hb_impl_within (by kernel_rfl) ?_
              refine rs0 (.bool y18) (s_pickT (by kernel_rfl) q17) ?_
              refine rs0 (.bool y18) (by kernel_rfl) ?_
              refine rnil (tn_ ?_)
              obtain rfl := Option.some.inj h
              exact ⟨_, (weak_ren (renF []) (by kernel_rfl) (by kernel_rfl) (by kernel_rfl)), rfl⟩
            · refine awp_region_ 16 (by kernel_rfl) ?_
              refine rs0 (.bool l10_m7) (by kernel_rfl) ?_
              refine rs0 (.bool l10_m7) (by kernel_rfl) ?_
              refine rs0 .any (s_skip (by kernel_rfl) q17) ?_
              refine rs0 .any (s_skip (by kernel_rfl) q17) ?_
              refine rs0 .any (s_skip (by kernel_rfl) q17) ?_
              refine rs0 .any (s_skip (by kernel_rfl) q17) ?_
              refine rs0 .any (s_skip (by kernel_rfl) q17) ?_
              refine rs0 .any (s_skip (by kernel_rfl) q17) ?_
              refine rs0 (.bool false) (s_pickF (by kernel_rfl) q17) ?_
              refine rs0 (.bool false) (by kernel_rfl) ?_
              refine rnil (tn_ ?_)
              obtain rfl := Option.some.inj h
              exact ⟨_, (weak_ren (renF []) (by kernel_rfl) (by kernel_rfl) (by kernel_rfl)), rfl⟩
          · rintro l16_m6 _ rfl h
            (try dsimp only at h)
            refine awp_ret_ (br_ (tr_ ?_))
            obtain rfl := Option.some.inj h
            exact ret_ [(.bool l16_m6)] (by simp) (by kernel_rfl) (p_one rfl (l_sc (by kernel_rfl)) p_nil) (by kernel_rfl) (by kernel_rfl)
        · refine awp_condF_ q15 (by kernel_rfl) ?_
          refine awp_seq_ ?_
          refine awp_region_ 8 (by kernel_rfl) ?_
          refine rs0 (.bool (a2_0 == 2)) (by kernel_rfl) ?_
          refine rs0 (.bool (a2_0 == 2)) (by kernel_rfl) ?_
          refine rnil (tn_ ?_)
          rcases cond_some h with ⟨q20, h⟩ | ⟨q20, h⟩
          · refine awp_condT_ q20 (by kernel_rfl) ?_
            refine awp_seqB h (fun (l21_m6 : Bool) S_ => S_ = ⟨mkTm [(6, (.bool l21_m6))], mkOb (someL []), 2⟩) ?_ ?_
            · intro v_ h
              rcases cond_some h with ⟨q22, h⟩ | ⟨q22, h⟩
              · refine awp_region_ 15 (by kernel_rfl) ?_
                refine rs0 (.bool l10_m7) (by kernel_rfl) ?_
                refine rs0 (.bool l10_m7) (by kernel_rfl) ?_
                refine rs0 (.box (1, 1) 2) (s_gd (by kernel_rfl) q22 (by kernel_rfl)) ?_
                refine rsl (.int .i64 a2_2) (s_gd (by kernel_rfl) q22 (by kernel_rfl)) ?_
                refine rs0 (.bool (a2_2 == 0)) (s_gd (by kernel_rfl) q22 (by kernel_rfl)) ?_
                refine rs0 (.bool (a2_2 == 0)) (s_pickT (by kernel_rfl) q22) ?_
                refine rs0 (.bool (a2_2 == 0)) (by kernel_rfl) ?_
                refine rnil (tn_ ?_)
                obtain rfl := Option.some.inj h
                exact ⟨_, (weak_ren (renF []) (by kernel_rfl) (by kernel_rfl) (by kernel_rfl)), rfl⟩
              · refine awp_region_ 15 (by kernel_rfl) ?_
                refine rs0 (.bool l10_m7) (by kernel_rfl) ?_
                refine rs0 (.bool l10_m7) (by kernel_rfl) ?_
                refine rs0 .any (s_skip (by kernel_rfl) q22) ?_
                refine rs0 .any (s_skip (by kernel_rfl) q22) ?_
                refine rs0 .any (s_skip (by kernel_rfl) q22) ?_
                refine rs0 (.bool false) (s_pickF (by kernel_rfl) q22) ?_
                refine rs0 (.bool false) (by kernel_rfl) ?_
                refine rnil (tn_ ?_)
                obtain rfl := Option.some.inj h
                exact ⟨_, (weak_ren (renF []) (by kernel_rfl) (by kernel_rfl) (by kernel_rfl)), rfl⟩
            · rintro l21_m6 _ rfl h
              (try dsimp only at h)
              refine awp_ret_ (br_ (tr_ ?_))
              obtain rfl := Option.some.inj h
              exact ret_ [(.bool l21_m6)] (by simp) (by kernel_rfl) (p_one rfl (l_sc (by kernel_rfl)) p_nil) (by kernel_rfl) (by kernel_rfl)
          · refine awp_condF_ q20 (by kernel_rfl) ?_
            refine awp_seq_ ?_
            refine awp_region_ 10 (by kernel_rfl) ?_
            refine rs0 (.bool (a2_0 == 3)) (by kernel_rfl) ?_
            refine rs0 (.bool (a2_0 == 3)) (by kernel_rfl) ?_
            refine rnil (tn_ ?_)
            rcases cond_some h with ⟨q24, h⟩ | ⟨q24, h⟩
            · refine awp_condT_ q24 (by kernel_rfl) ?_
              refine awp_seq_ ?_
              refine awp_region_ 14 (by kernel_rfl) ?_
              refine rs0 (.box (1, 1) 4) (by kernel_rfl) ?_
              refine rsl (.int .i64 a2_4) (by kernel_rfl) ?_
              refine rs0 (.bool (a2_4 == 0)) (by kernel_rfl) ?_
              refine rs0 (.bool (a2_4 == 0)) (by kernel_rfl) ?_
              refine rnil (tn_ ?_)
              refine awp_ret_ (br_ (tr_ ?_))
              obtain rfl := Option.some.inj h
              exact ret_ [(.bool (a2_4 == 0))] (by simp) (by kernel_rfl) (p_one rfl (l_sc (by kernel_rfl)) p_nil) (by kernel_rfl) (by kernel_rfl)
            · refine awp_condF_ q24 (by kernel_rfl) ?_
              refine awp_seq_ ?_
              refine awp_region_ 12 (by kernel_rfl) ?_
              refine rs0 (.bool (a2_0 == 4)) (by kernel_rfl) ?_
              refine rs0 (.bool (a2_0 == 4)) (by kernel_rfl) ?_
              refine rnil (tn_ ?_)
              rcases cond_some h with ⟨q27, h⟩ | ⟨q27, h⟩
              · refine awp_condT_ q27 (by kernel_rfl) ?_
                refine awp_seqB h (fun (l28_m6 : Bool) S_ => S_ = ⟨mkTm [(6, (.bool l28_m6))], mkOb (someL []), 2⟩) ?_ ?_
                · intro v_ h
                  rcases cond_some h with ⟨q29, h⟩ | ⟨q29, h⟩
                  · obtain ⟨y30, h30, h⟩ := ob_some h
                    refine awp_region_ 22 (by kernel_rfl) ?_
                    refine rs0 (.box (1, 1) 3) (by kernel_rfl) ?_
                    refine rsl (.int .i64 a2_3) (by kernel_rfl) ?_
                    refine rs0 (.bool (a2_3 == 0)) (by kernel_rfl) ?_
                    refine rs0 (.bool (a2_3 == 0)) (by kernel_rfl) ?_
                    refine rs0 (.int .i64 a1) (s_gd (by kernel_rfl) q29 (by kernel_rfl)) ?_
                    refine rs0 (.box (1, 1) 4) (s_gd (by kernel_rfl) q29 (by kernel_rfl)) ?_
                    refine rsl (.int .i64 a2_4) (s_gd (by kernel_rfl) q29 (by kernel_rfl)) ?_
                    refine rcall (.bool y30) [] [(.int .i64 a1), (.int .i64 a2_4)] _ (caps := []) (args0 := [(.int .i64 a1), (.int .i64 a2_4)]) (gdOK_b (by kernel_rfl) q29) (by kernel_rfl) (by kernel_rfl) (by kernel_rfl) (by kernel_rfl) (ok_impl_isElement h30) hb_impl_isElement (by kernel_rfl) ?_
                    refine rs0 (.bool y30) (s_pickT (by kernel_rfl) q29) ?_
                    refine rs0 (.bool y30) (by kernel_rfl) ?_
                    refine rnil (tn_ ?_)
                    obtain rfl := Option.some.inj h
                    exact ⟨_, (weak_ren (renF []) (by kernel_rfl) (by kernel_rfl) (by kernel_rfl)), rfl⟩
                  · refine awp_region_ 22 (by kernel_rfl) ?_
                    refine rs0 (.box (1, 1) 3) (by kernel_rfl) ?_
                    refine rsl (.int .i64 a2_3) (by kernel_rfl) ?_
                    refine rs0 (.bool (a2_3 == 0)) (by kernel_rfl) ?_
                    refine rs0 (.bool (a2_3 == 0)) (by kernel_rfl) ?_
                    refine rs0 .any (s_skip (by kernel_rfl) q29) ?_
                    refine rs0 .any (s_skip (by kernel_rfl) q29) ?_
                    refine rs0 .any (s_skip (by kernel_rfl) q29) ?_
                    refine rs0 .any (s_skip (by kernel_rfl) q29) ?_
                    refine rs0 (.bool false) (s_pickF (by kernel_rfl) q29) ?_
                    refine rs0 (.bool false) (by kernel_rfl) ?_
                    refine rnil (tn_ ?_)
                    obtain rfl := Option.some.inj h
                    exact ⟨_, (weak_ren (renF []) (by kernel_rfl) (by kernel_rfl) (by kernel_rfl)), rfl⟩
                · rintro l28_m6 _ rfl h
                  (try dsimp only at h)
                  refine awp_ret_ (br_ (tr_ ?_))
                  obtain rfl := Option.some.inj h
                  exact ret_ [(.bool l28_m6)] (by simp) (by kernel_rfl) (p_one rfl (l_sc (by kernel_rfl)) p_nil) (by kernel_rfl) (by kernel_rfl)
              · refine awp_condF_ q27 (by kernel_rfl) ?_
                refine awp_seqB h (fun (l31_m68 : Bool) S_ => S_ = ⟨mkTm [(3, (.box (0, 1) 0)), (5, (.box (1, 1) 0)), (7, (.bool l10_m7)), (32, (.int .i64 a2_0)), (68, (.bool l31_m68))], mkOb (someL [((0, 1), .cells 29 [(.int .i64 a0_0), (.int .i64 a0_1), (.int .i64 a0_2), (.int .i64 a0_3), (.tree (.pair .int (.pair .int (.pair .int (.pair .int .int)))) a0_4)]), ((1, 1), .cells 69 [(.int .i64 a2_0), (.int .i64 a2_1), (.int .i64 a2_2), (.int .i64 a2_3), (.int .i64 a2_4)])]), 2⟩) ?_ ?_
                · intro v_ h
                  refine awp_seq_ ?_
                  refine awp_region_ 14 (by kernel_rfl) ?_
                  refine rs0 (.bool (a2_0 == 5)) (by kernel_rfl) ?_
                  refine rs0 (.bool (a2_0 == 5)) (by kernel_rfl) ?_
                  refine rnil (tn_ ?_)
                  rcases cond_some h with ⟨q33, h⟩ | ⟨q33, h⟩
                  · refine awp_condT_ q33 (by kernel_rfl) ?_
                    refine awp_skip_ (tn_ ?_)
                    obtain rfl := Option.some.inj h
                    exact ⟨_, (weak_ren (renF []) (by kernel_rfl) (by kernel_rfl) (by kernel_rfl)), rfl⟩
                  · refine awp_condF_ q33 (by kernel_rfl) ?_
                    refine awp_region_ 16 (by kernel_rfl) ?_
                    refine rs0 (.bool (a2_0 == 6)) (by kernel_rfl) ?_
                    refine rs0 (.bool (a2_0 == 6)) (by kernel_rfl) ?_
                    refine rnil (tn_ ?_)
                    obtain rfl := Option.some.inj h
                    exact ⟨_, (weak_ren (renF []) (by kernel_rfl) (by kernel_rfl) (by kernel_rfl)), rfl⟩
                · rintro l31_m68 _ rfl h
                  (try dsimp only at h)
                  rcases cond_some h with ⟨q34, h⟩ | ⟨q34, h⟩
                  · refine awp_condT_ q34 (by kernel_rfl) ?_
                    refine awp_seqB h (fun (l35_m6 : Bool) S_ => S_ = ⟨mkTm [(6, (.bool l35_m6))], mkOb (someL []), 2⟩) ?_ ?_
                    · intro v_ h
                      rcases cond_some h with ⟨q36, h⟩ | ⟨q36, h⟩
                      · obtain ⟨y37, h37, h⟩ := ob_some h
                        refine awp_region_ 12 (by kernel_rfl) ?_
                        refine rs0 (.bool l10_m7) (by kernel_rfl) ?_
                        refine rs0 (.bool l10_m7) (by kernel_rfl) ?_
                        refine rs0 (.box (1, 1) 2) (s_gd (by kernel_rfl) q36 (by kernel_rfl)) ?_
                        refine rsl (.int .i64 a2_2) (s_gd (by kernel_rfl) q36 (by kernel_rfl)) ?_
                        refine rs0 (.box (0, 1) 2) (s_gd (by kernel_rfl) q36 (by kernel_rfl)) ?_
                        refine rsl (.int .i64 a0_2) (s_gd (by kernel_rfl) q36 (by kernel_rfl)) ?_
                        refine rs0 (.int .i64 (IntKind.i64.wrap (a0_2 - 1))) (s_gd (by kernel_rfl) q36 (by kernel_rfl)) ?_
                        refine rcall (.bool y37) [] [(.int .i64 a2_2), (.int .i64 0), (.int .i64 (IntKind.i64.wrap (a0_2 - 1)))] _ (caps := []) (args0 := [(.int .i64 a2_2), (.int .i64 0), (.int .i64 (IntKind.i64.wrap (a0_2 - 1)))]) (gdOK_b (by kernel_rfl) q36) (by kernel_rfl) (by kernel_rfl) (by kernel_rfl) (by kernel_rfl) (ok_impl_within h37) hb_impl_within (by kernel_rfl) ?_
                        refine rs0 (.bool y37) (s_pickT (by kernel_rfl) q36) ?_
                        refine rs0 (.bool y37) (by kernel_rfl) ?_
                        refine rnil (tn_ ?_)
                        obtain rfl := Option.some.inj h
                        exact ⟨_, (weak_ren (renF []) (by kernel_rfl) (by kernel_rfl) (by kernel_rfl)), rfl⟩
                      · refine awp_region_ 12 (by kernel_rfl) ?_
                        refine rs0 (.bool l10_m7) (by kernel_rfl) ?_
                        refine rs0 (.bool l10_m7) (by kernel_rfl) ?_
                        refine rs0 .any (s_skip (by kernel_rfl) q36) ?_
                        refine rs0 .any (s_skip (by kernel_rfl) q36) ?_
                        refine rs0 .any (s_skip (by kernel_rfl) q36) ?_
                        refine rs0 .any (s_skip (by kernel_rfl) q36) ?_
                        refine rs0 .any (s_skip (by kernel_rfl) q36) ?_
                        refine rs0 .any (s_skip (by kernel_rfl) q36) ?_
                        refine rs0 (.bool false) (s_pickF (by kernel_rfl) q36) ?_
                        refine rs0 (.bool false) (by kernel_rfl) ?_
                        refine rnil (tn_ ?_)
                        obtain rfl := Option.some.inj h
                        exact ⟨_, (weak_ren (renF []) (by kernel_rfl) (by kernel_rfl) (by kernel_rfl)), rfl⟩
                    · rintro l35_m6 _ rfl h
                      (try dsimp only at h)
                      refine awp_ret_ (br_ (tr_ ?_))
                      obtain rfl := Option.some.inj h
                      exact ret_ [(.bool l35_m6)] (by simp) (by kernel_rfl) (p_one rfl (l_sc (by kernel_rfl)) p_nil) (by kernel_rfl) (by kernel_rfl)
                  · refine awp_condF_ q34 (by kernel_rfl) ?_
                    refine awp_seq_ ?_
                    refine awp_region_ 4 (by kernel_rfl) ?_
                    refine rs0 (.bool (a2_0 == 7)) (by kernel_rfl) ?_
                    refine rs0 (.bool (a2_0 == 7)) (by kernel_rfl) ?_
                    refine rnil (tn_ ?_)
                    rcases cond_some h with ⟨q39, h⟩ | ⟨q39, h⟩
                    · refine awp_condT_ q39 (by kernel_rfl) ?_
                      refine awp_seqB h (fun (l40_m6 : Bool) S_ => S_ = ⟨mkTm [(6, (.bool l40_m6))], mkOb (someL []), 2⟩) ?_ ?_
                      · intro v_ h
                        rcases cond_some h with ⟨q41, h⟩ | ⟨q41, h⟩
                        · obtain ⟨y42, h42, h⟩ := ob_some h
                          refine awp_region_ 14 (by kernel_rfl) ?_
                          refine rs0 (.bool l10_m7) (by kernel_rfl) ?_
                          refine rs0 (.bool l10_m7) (by kernel_rfl) ?_
                          refine rs0 (.box (1, 1) 2) (s_gd (by kernel_rfl) q41 (by kernel_rfl)) ?_
                          refine rsl (.int .i64 a2_2) (s_gd (by kernel_rfl) q41 (by kernel_rfl)) ?_
                          refine rs0 (.box (0, 1) 1) (s_gd (by kernel_rfl) q41 (by kernel_rfl)) ?_
                          refine rsl (.int .i64 a0_1) (s_gd (by kernel_rfl) q41 (by kernel_rfl)) ?_
                          refine rs0 (.int .i64 (IntKind.i64.wrap (a0_1 - 1))) (s_gd (by kernel_rfl) q41 (by kernel_rfl)) ?_
                          refine rcall (.bool y42) [] [(.int .i64 a2_2), (.int .i64 0), (.int .i64 (IntKind.i64.wrap (a0_1 - 1)))] _ (caps := []) (args0 := [(.int .i64 a2_2), (.int .i64 0), (.int .i64 (IntKind.i64.wrap (a0_1 - 1)))]) (gdOK_b (by kernel_rfl) q41) (by kernel_rfl) (by kernel_rfl) (by kernel_rfl) (by kernel_rfl) (ok_impl_within h42) hb_impl_within (by kernel_rfl) ?_
                          refine rs0 (.bool y42) (s_pickT (by kernel_rfl) q41) ?_
                          refine rs0 (.bool y42) (by kernel_rfl) ?_
                          refine rnil (tn_ ?_)
                          obtain rfl := Option.some.inj h
                          exact ⟨_, (weak_ren (renF []) (by kernel_rfl) (by kernel_rfl) (by kernel_rfl)), rfl⟩
                        · refine awp_region_ 14 (by kernel_rfl) ?_
                          refine rs0 (.bool l10_m7) (by kernel_rfl) ?_
                          refine rs0 (.bool l10_m7) (by kernel_rfl) ?_
                          refine rs0 .any (s_skip (by kernel_rfl) q41) ?_
                          refine rs0 .any (s_skip (by kernel_rfl) q41) ?_
                          refine rs0 .any (s_skip (by kernel_rfl) q41) ?_
                          refine rs0 .any (s_skip (by kernel_rfl) q41) ?_
                          refine rs0 .any (s_skip (by kernel_rfl) q41) ?_
                          refine rs0 .any (s_skip (by kernel_rfl) q41) ?_
                          refine rs0 (.bool false) (s_pickF (by kernel_rfl) q41) ?_
                          refine rs0 (.bool false) (by kernel_rfl) ?_
                          refine rnil (tn_ ?_)
                          obtain rfl := Option.some.inj h
                          exact ⟨_, (weak_ren (renF []) (by kernel_rfl) (by kernel_rfl) (by kernel_rfl)), rfl⟩
                      · rintro l40_m6 _ rfl h
                        (try dsimp only at h)
                        refine awp_ret_ (br_ (tr_ ?_))
                        obtain rfl := Option.some.inj h
                        exact ret_ [(.bool l40_m6)] (by simp) (by kernel_rfl) (p_one rfl (l_sc (by kernel_rfl)) p_nil) (by kernel_rfl) (by kernel_rfl)
                    · refine awp_condF_ q39 (by kernel_rfl) ?_
                      refine awp_skip_ (bn_ (tn_ ?_))
                      refine awp_seq_ ?_
                      refine awp_region_ 5 (by kernel_rfl) ?_
                      refine rs0 (.bool false) (by kernel_rfl) ?_
                      refine rnil (tn_ ?_)
                      refine awp_ret_ ?_
                      obtain rfl := Option.some.inj h
                      exact ret_ [(.bool false)] (by simp) (by kernel_rfl) (p_one rfl (l_sc (by kernel_rfl)) p_nil) (by kernel_rfl) (by kernel_rfl)
def m_impl_isProgram_1 : AC :=
  (.seq (.region [⟨(some 3), none, (.i (.box 69 (.tmp 0)))⟩, ⟨(some 4), none, (.i (.mov (.cst (.bool false))))⟩] false [])
  (.seq (.region [⟨(some 5), none, (.i (.ld false 5 (.tmp 1)))⟩, ⟨(some 6), none, (.i (.ld true 1 (.tmp 2)))⟩, ⟨(some 7), none, (.i (.ld false 5 (.tmp 3)))⟩, ⟨(some 8), none, (.call (.cst (.fn 61 [])) [(.tmp 5), (.tmp 6), (.tmp 7)] [[none, none, none, none, (some (.pair .int (.pair .int (.pair .int (.pair .int .int)))))], [], [none, none, none, none, none]])⟩, ⟨(some 9), none, (.i (.not (.tmp 8)))⟩, ⟨(some 4), none, (.i (.mov (.tmp 9)))⟩] false [])
  .ret))
def r_impl_isProgram_1 : List Res := [.tmp 4]
theorem c_impl_isProgram_1 : compiled Tryd.prog Tryd.f60 = some (m_impl_isProgram_1, r_impl_isProgram_1) := by kernel_rfl
theorem hb_impl_isProgram_1 : hasBody Tryd.prog 60 = true := by kernel_rfl
def L_impl_isProgram_1 (a0_0 : Int) (a0_1 : Int) (a0_2 : Int) (a0_3 : Int) (a0_4 : Int) (c0_0 : Int) (c0_1 : Int) (c0_2 : Int) (c0_3 : Int) (c0_4 : List (Int × Int × Int × Int × Int)) (c1_0 : Int) : Option Bool :=
  Option.bind (L_impl_Program_isInstr c0_0 c0_1 c0_2 c0_3 c0_4 c1_0 a0_0 a0_1 a0_2 a0_3 a0_4) fun y3 =>
some (!y3)
def rv_impl_isProgram_1 (r : Bool) : RV := ⟨false, [(false, [.sc (.bool r)])]⟩
theorem ok_impl_isProgram_1 {a0_0 : Int} {a0_1 : Int} {a0_2 : Int} {a0_3 : Int} {a0_4 : Int} {c0_0 : Int} {c0_1 : Int} {c0_2 : Int} {c0_3 : Int} {c0_4 : List (Int × Int × Int × Int × Int)} {c1_0 : Int} {r : Bool} (h : L_impl_isProgram_1 a0_0 a0_1 a0_2 a0_3 a0_4 c0_0 c0_1 c0_2 c0_3 c0_4 c1_0 = some r) : CallOK Tryd.prog Tab 60 [(.agg [(.int .i64 a0_0), (.int .i64 a0_1), (.int .i64 a0_2), (.int .i64 a0_3), (.int .i64 a0_4)]), (.ref [(.int .i64 c0_0), (.int .i64 c0_1), (.int .i64 c0_2), (.int .i64 c0_3), (.tree (.pair .int (.pair .int (.pair .int (.pair .int .int)))) c0_4)]), (.ref [(.int .i64 c1_0)])] (rv_impl_isProgram_1 r) := by
  refine call_of_ (by kernel_rfl) Tryd.func60 c_impl_isProgram_1 (n := 10) (by kernel_rfl) (by simp) (tl := [(0, (.agg [(.int .i64 a0_0), (.int .i64 a0_1), (.int .i64 a0_2), (.int .i64 a0_3), (.int .i64 a0_4)])), (1, (.ref [(.int .i64 c0_0), (.int .i64 c0_1), (.int .i64 c0_2), (.int .i64 c0_3), (.tree (.pair .int (.pair .int (.pair .int (.pair .int .int)))) c0_4)])), (2, (.ref [(.int .i64 c1_0)]))]) rfl ?_
  unfold m_impl_isProgram_1
  unfold L_impl_isProgram_1 at h
  refine awp_seq_ ?_
  refine awp_region_ 3 (by kernel_rfl) ?_
  refine rs1 (.box (3, 1) 0) (3, 1) (.cells 69 [(.int .i64 a0_0), (.int .i64 a0_1), (.int .i64 a0_2), (.int .i64 a0_3), (.int .i64 a0_4)]) (by kernel_rfl) ?_
  refine rs0 (.bool false) (by kernel_rfl) ?_
  refine rnil (tn_ ?_)
  refine awp_seq_ ?_
  obtain ⟨y3, h3, h⟩ := ob_some h
  refine awp_region_ 9 (by kernel_rfl) ?_
  refine rs0 (.agg [(.int .i64 c0_0), (.int .i64 c0_1), (.int .i64 c0_2), (.int .i64 c0_3), (.tree (.pair .int (.pair .int (.pair .int (.pair .int .int)))) c0_4)]) (by kernel_rfl) ?_
  refine rs0 (.int .i64 c1_0) (by kernel_rfl) ?_
  refine rsl (.agg [(.int .i64 a0_0), (.int .i64 a0_1), (.int .i64 a0_2), (.int .i64 a0_3), (.int .i64 a0_4)]) (by kernel_rfl) ?_
  refine rcall (.bool y3) [] [(.agg [(.int .i64 c0_0), (.int .i64 c0_1), (.int .i64 c0_2), (.int .i64 c0_3), (.tree (.pair .int (.pair .int (.pair .int (.pair .int .int)))) c0_4)]), (.int .i64 c1_0), (.agg [(.int .i64 a0_0), (.int .i64 a0_1), (.int .i64 a0_2), (.int .i64 a0_3), (.int .i64 a0_4)])] _ (caps := []) (args0 := [(.agg [(.int .i64 c0_0), (.int .i64 c0_1), (.int .i64 c0_2), (.int .i64 c0_3), (.tree (.pair .int (.pair .int (.pair .int (.pair .int .int)))) c0_4)]), (.int .i64 c1_0), (.agg [(.int .i64 a0_0), (.int .i64 a0_1), (.int .i64 a0_2), (.int .i64 a0_3), (.int .i64 a0_4)])]) trivial (by kernel_rfl) (by kernel_rfl) (by kernel_rfl) (by kernel_rfl) (ok_impl_Program_isInstr h3) hb_impl_Program_isInstr (by kernel_rfl) ?_
  refine rs0 (.bool (!y3)) (by kernel_rfl) ?_
  refine rs0 (.bool (!y3)) (by kernel_rfl) ?_
  refine rnil (tn_ ?_)
  refine awp_ret_ ?_
  obtain rfl := Option.some.inj h
  exact ret_ [(.bool (!y3))] (by simp) (by kernel_rfl) (p_one rfl (l_sc (by kernel_rfl)) p_nil) (by kernel_rfl) (by kernel_rfl)
def m_slices_IndexFunc_impl_Instr_impl_Instr_l1 : AC :=
  (.seq (.region [⟨(some 9), none, (.i (.bin .lss (.tmp 8) (.tmp 7)))⟩] false [])
  (.seq (.cond (.tmp 9)
    .skip
    (.exit 0))
  (.seq (.block 1 (.seq (.region [⟨(some 10), none, (.i (.mov (.tmp 8)))⟩, ⟨(some 5), none, (.i (.mov (.tmp 10)))⟩] false [])
  (.seq (.region [⟨(some 11), none, (.i (.mov (.tmp 1)))⟩, ⟨(some 12), none, (.i (.mov (.tmp 0)))⟩, ⟨(some 13), none, (.i (.mov (.tmp 5)))⟩, ⟨(some 14), none, (.i (.idx 5 (.tmp 12) (.tmp 13)))⟩, ⟨(some 15), none, (.i (.ld false 5 (.tmp 14)))⟩, ⟨(some 16), none, (.call (.tmp 11) [(.tmp 15)] [[none, none, none, none, none]])⟩] false [])
  (.cond (.tmp 16)
    (.seq (.region [⟨(some 17), none, (.i (.mov (.tmp 5)))⟩, ⟨(some 4), none, (.i (.mov (.tmp 17)))⟩] false [])
    .ret)
    .skip))))
  (.region [⟨(some 18), none, (.i (.bin .add (.tmp 8) (.cst (.int .i64 1))))⟩, ⟨(some 8), none, (.i (.mov (.tmp 18)))⟩] false []))))
def m_slices_IndexFunc_impl_Instr_impl_Instr : AC :=
  (.seq (.region [⟨(some 4), none, (.i (.mov (.cst (.int .i64 0))))⟩] false [])
  (.seq (.seq (.region [⟨(some 6), none, (.i (.mov (.tmp 0)))⟩, ⟨(some 7), none, (.i (.len (.tmp 6)))⟩, ⟨(some 8), none, (.i (.mov (.cst (.int .i64 0))))⟩] false [])
  (.block 0 (.loop m_slices_IndexFunc_impl_Instr_impl_Instr_l1)))
  (.seq (.region [⟨(some 4), none, (.i (.mov (.cst (.int .i64 (-1)))))⟩] false [])
  .ret)))
def r_slices_IndexFunc_impl_Instr_impl_Instr : List Res := [.tmp 4]
theorem c_slices_IndexFunc_impl_Instr_impl_Instr : compiled Tryd.prog Tryd.f75 = some (m_slices_IndexFunc_impl_Instr_impl_Instr, r_slices_IndexFunc_impl_Instr_impl_Instr) := by kernel_rfl
theorem hb_slices_IndexFunc_impl_Instr_impl_Instr : hasBody Tryd.prog 75 = true := by kernel_rfl
def L_slices_IndexFunc_impl_Instr_impl_Instr_for_impl_isProgram_1_l1 (a0 : List (Int × Int × Int × Int × Int)) (a1_0_0 : Int) (a1_0_1 : Int) (a1_0_2 : Int) (a1_0_3 : Int) (a1_0_4 : List (Int × Int × Int × Int × Int)) (a1_1_0 : Int) (l4_m8 : Nat) : Option (Ctl Nat (Ctl Unit Int)) :=
  cond (decide (((l4_m8 : Nat) : Int) < ((a0.length : Nat) : Int)))
  (Option.bind (a0[l4_m8]?) fun x11 =>
  Option.bind (L_impl_isProgram_1 x11.1 x11.2.1 x11.2.2.1 x11.2.2.2.1 x11.2.2.2.2 a1_0_0 a1_0_1 a1_0_2 a1_0_3 a1_0_4 a1_1_0) fun y12 =>
  cond y12
    (some (Ctl.out (Ctl.out ((l4_m8 : Nat) : Int))))
    (og (l4_m8 + 1 < 4611686018427387904) <|
    some (Ctl.next (l4_m8 + 1))))
  (some (Ctl.out (Ctl.next ())))
def L_slices_IndexFunc_impl_Instr_impl_Instr_for_impl_isProgram_1 (a0 : List (Int × Int × Int × Int × Int)) (a1_0_0 : Int) (a1_0_1 : Int) (a1_0_2 : Int) (a1_0_3 : Int) (a1_0_4 : List (Int × Int × Int × Int × Int)) (a1_1_0 : Int) : Option Int :=
  seqC (loopM (fun s_ : Nat => L_slices_IndexFunc_impl_Instr_impl_Instr_for_impl_isProgram_1_l1 a0 a1_0_0 a1_0_1 a1_0_2 a1_0_3 a1_0_4 a1_1_0 s_) 4611686018427387904 0) fun _ =>
some (-1)
def rv_slices_IndexFunc_impl_Instr_impl_Instr_for_impl_isProgram_1 (r : Int) : RV := ⟨false, [(false, [.sc (.int .i64 r)])]⟩
theorem ok_slices_IndexFunc_impl_Instr_impl_Instr_for_impl_isProgram_1 {a0 : List (Int × Int × Int × Int × Int)} {a1_0_0 : Int} {a1_0_1 : Int} {a1_0_2 : Int} {a1_0_3 : Int} {a1_0_4 : List (Int × Int × Int × Int × Int)} {a1_1_0 : Int} {r : Int} (h : L_slices_IndexFunc_impl_Instr_impl_Instr_for_impl_isProgram_1 a0 a1_0_0 a1_0_1 a1_0_2 a1_0_3 a1_0_4 a1_1_0 = some r) : CallOK Tryd.prog Tab 75 [(.tree (.pair .int (.pair .int (.pair .int (.pair .int .int)))) a0), (.fn 60 [(.ref [(.int .i64 a1_0_0), (.int .i64 a1_0_1), (.int .i64 a1_0_2), (.int .i64 a1_0_3), (.tree (.pair .int (.pair .int (.pair .int (.pair .int .int)))) a1_0_4)]), (.ref [(.int .i64 a1_1_0)])])] (rv_slices_IndexFunc_impl_Instr_impl_Instr_for_impl_isProgram_1 r) := by
  refine call_of_ (by kernel_rfl) Tryd.func75 c_slices_IndexFunc_impl_Instr_impl_Instr (n := 19) (by kernel_rfl) (by simp) (tl := [(0, (.tree (.pair .int (.pair .int (.pair .int (.pair .int .int)))) a0)), (1, (.fn 60 [(.ref [(.int .i64 a1_0_0), (.int .i64 a1_0_1), (.int .i64 a1_0_2), (.int .i64 a1_0_3), (.tree (.pair .int (.pair .int (.pair .int (.pair .int .int)))) a1_0_4)]), (.ref [(.int .i64 a1_1_0)])]))]) rfl ?_
  unfold m_slices_IndexFunc_impl_Instr_impl_Instr
  unfold L_slices_IndexFunc_impl_Instr_impl_Instr_for_impl_isProgram_1 at h
  refine awp_seq_ ?_
  refine awp_region_ 2 (by kernel_rfl) ?_
  refine rs0 (.int .i64 0) (by kernel_rfl) ?_
  refine rnil (tn_ ?_)
  refine awp_seqC h (fun (_ : Unit) S_ => S_ = ⟨mkTm [], mkOb (someL []), 2⟩) ?_ ?_
  · intro v_ h hk2
    refine awp_seq_ ?_
    refine awp_region_ 5 (by kernel_rfl) ?_
    refine rs0 (.tree (.pair .int (.pair .int (.pair .int (.pair .int .int)))) a0) (by kernel_rfl) ?_
    refine rs0 (.int .i64 ((a0.length : Nat) : Int)) (by kernel_rfl) ?_
    refine rs0 (.int .i64 0) (by kernel_rfl) ?_
    refine rnil (tn_ ?_)
    refine awp_block_ ?_
    refine awp_loopL h (fun (l4_m8 : Nat) S_ => S_ = ⟨mkTm [(0, (.tree (.pair .int (.pair .int (.pair .int (.pair .int .int)))) a0)), (1, (.fn 60 [(.ref [(.int .i64 a1_0_0), (.int .i64 a1_0_1), (.int .i64 a1_0_2), (.int .i64 a1_0_3), (.tree (.pair .int (.pair .int (.pair .int (.pair .int .int)))) a1_0_4)]), (.ref [(.int .i64 a1_1_0)])])), (7, (.int .i64 ((a0.length : Nat) : Int))), (8, (.int .i64 ((l4_m8 : Nat) : Int)))], mkOb (someL []), 2⟩) ⟨_, (weak_ren (renF []) (by kernel_rfl) (by kernel_rfl) (by kernel_rfl)), rfl⟩ ?_
    · rintro n_ l4_m8 _ c_ rfl h hn4
      (try dsimp only at h)
      unfold L_slices_IndexFunc_impl_Instr_impl_Instr_for_impl_isProgram_1_l1 at h
      unfold m_slices_IndexFunc_impl_Instr_impl_Instr_l1
      refine awp_seq_ ?_
      refine awp_region_ 3 (by kernel_rfl) ?_
      refine rs0 (.bool (decide (((l4_m8 : Nat) : Int) < ((a0.length : Nat) : Int)))) (by kernel_rfl) ?_
      refine rnil (tn_ ?_)
      refine awp_seq_ ?_
      rcases cond_some h with ⟨q7, h⟩ | ⟨q7, h⟩
      · have q7_ := of_decide_eq_true q7
        refine awp_condT_ q7 (by kernel_rfl) ?_
        refine awp_skip_ (tn_ ?_)
        refine awp_seq_ ?_
        refine awp_block_ ?_
        refine awp_seq_ ?_
        refine awp_region_ 5 (by kernel_rfl) ?_
        refine rs0 (.int .i64 ((l4_m8 : Nat) : Int)) (by kernel_rfl) ?_
        refine rs0 (.int .i64 ((l4_m8 : Nat) : Int)) (by kernel_rfl) ?_
        refine rnil (tn_ ?_)
        refine awp_seq_ ?_
        obtain ⟨x11, e11, h⟩ := ob_some h
        obtain ⟨y12, h12, h⟩ := ob_some h
        refine awp_region_ 11 (by kernel_rfl) ?_
        refine rs0 (.fn 60 [(.ref [(.int .i64 a1_0_0), (.int .i64 a1_0_1), (.int .i64 a1_0_2), (.int .i64 a1_0_3), (.tree (.pair .int (.pair .int (.pair .int (.pair .int .int)))) a1_0_4)]), (.ref [(.int .i64 a1_1_0)])]) (by kernel_rfl) ?_
        refine rs0 (.tree (.pair .int (.pair .int (.pair .int (.pair .int .int)))) a0) (by kernel_rfl) ?_
        refine rs0 (.int .i64 ((l4_m8 : Nat) : Int)) (by kernel_rfl) ?_
        refine rs0 (.telt (.pair .int (.pair .int (.pair .int (.pair .int .int)))) x11 0) (s_idxT (t := (.pair .int (.pair .int (.pair .int (.pair .int .int))))) (xs := a0) (k := .i64) (m := ((l4_m8 : Nat) : Int)) (by kernel_rfl) (by kernel_rfl) rfl (nat_nn _) rfl e11) ?_
        refine rs0 (.agg [(.int .i64 x11.1), (.int .i64 x11.2.1), (.int .i64 x11.2.2.1), (.int .i64 x11.2.2.2.1), (.int .i64 x11.2.2.2.2)]) (by kernel_rfl) ?_
        refine rcall (.bool y12) [] [(.agg [(.int .i64 x11.1), (.int .i64 x11.2.1), (.int .i64 x11.2.2.1), (.int .i64 x11.2.2.2.1), (.int .i64 x11.2.2.2.2)]), (.ref [(.int .i64 a1_0_0), (.int .i64 a1_0_1), (.int .i64 a1_0_2), (.int .i64 a1_0_3), (.tree (.pair .int (.pair .int (.pair .int (.pair .int .int)))) a1_0_4)]), (.ref [(.int .i64 a1_1_0)])] _ (caps := [(.ref [(.int .i64 a1_0_0), (.int .i64 a1_0_1), (.int .i64 a1_0_2), (.int .i64 a1_0_3), (.tree (.pair .int (.pair .int (.pair .int (.pair .int .int)))) a1_0_4)]), (.ref [(.int .i64 a1_1_0)])]) (args0 := [(.agg [(.int .i64 x11.1), (.int .i64 x11.2.1), (.int .i64 x11.2.2.1), (.int .i64 x11.2.2.2.1), (.int .i64 x11.2.2.2.2)]), (.ref [(.int .i64 a1_0_0), (.int .i64 a1_0_1), (.int .i64 a1_0_2), (.int .i64 a1_0_3), (.tree (.pair .int (.pair .int (.pair .int (.pair .int .int)))) a1_0_4)]), (.ref [(.int .i64 a1_1_0)])]) trivial (by kernel_rfl) (by kernel_rfl) (by kernel_rfl) (by kernel_rfl) (ok_impl_isProgram_1 h12) hb_impl_isProgram_1 (by kernel_rfl) ?_
        refine rnil (tn_ ?_)
        rcases cond_some h with ⟨q13, h⟩ | ⟨q13, h⟩
        · refine awp_condT_ q13 (by kernel_rfl) ?_
          refine awp_seq_ ?_
          refine awp_region_ 13 (by kernel_rfl) ?_
          refine rs0 (.int .i64 ((l4_m8 : Nat) : Int)) (by kernel_rfl) ?_
          refine rs0 (.int .i64 ((l4_m8 : Nat) : Int)) (by kernel_rfl) ?_
          refine rnil (tn_ ?_)
          refine awp_ret_ (br_ (tr_ (tr_ (br_ (tr_ ?_)))))
          obtain rfl := Option.some.inj h
          have h := hn4
          (try dsimp only at h)
          obtain rfl := Option.some.inj h
          have h := hk2
          (try dsimp only at h)
          obtain rfl := Option.some.inj h
          exact ret_ [(.int .i64 ((l4_m8 : Nat) : Int))] (by simp) (by kernel_rfl) (p_one rfl (l_sc (by kernel_rfl)) p_nil) (by kernel_rfl) (by kernel_rfl)
        · refine awp_condF_ q13 (by kernel_rfl) ?_
          refine awp_skip_ (bn_ (tn_ ?_))
          obtain ⟨g15, h⟩ := og_some h
          refine awp_region_ 13 (by kernel_rfl) ?_
          refine rs0 (.int .i64 ((l4_m8 + 1 : Nat) : Int)) (s_add1 (j := l4_m8) (by kernel_rfl) (by kernel_rfl) g15) ?_
          refine rs0 (.int .i64 ((l4_m8 + 1 : Nat) : Int)) (by kernel_rfl) ?_
          refine rnil (tn_ ?_)
          obtain rfl := Option.some.inj h
          exact ⟨l4_m8 + 1, _, (weak_ren (renF []) (by kernel_rfl) (by kernel_rfl) (by kernel_rfl)), rfl, hn4⟩
      · have q7_ := of_decide_eq_false q7
        refine awp_condF_ q7 (by kernel_rfl) ?_
        refine awp_exit_ (te_ (te_ (be_ (tn_ ?_))))
        obtain rfl := Option.some.inj h
        have h := hn4
        (try dsimp only at h)
        obtain rfl := Option.some.inj h
        exact ⟨(), _, rfl, (weak_ren (renF []) (by kernel_rfl) (by kernel_rfl) (by kernel_rfl)), rfl⟩
  · rintro _ _ rfl h
    (try dsimp only at h)
    refine awp_seq_ ?_
    refine awp_region_ 3 (by kernel_rfl) ?_
    refine rs0 (.int .i64 (-1)) (by kernel_rfl) ?_
    refine rnil (tn_ ?_)
    refine awp_ret_ ?_
    obtain rfl := Option.some.inj h
    exact ret_ [(.int .i64 (-1))] (by simp) (by kernel_rfl) (p_one rfl (l_sc (by kernel_rfl)) p_nil) (by kernel_rfl) (by kernel_rfl)
def m_slices_ContainsFunc_impl_Instr_impl_Instr : AC :=
  (.seq (.region [⟨(some 4), none, (.i (.mov (.cst (.bool false))))⟩] false [])
  (.seq (.region [⟨(some 5), none, (.i (.mov (.tmp 0)))⟩, ⟨(some 6), none, (.i (.mov (.tmp 1)))⟩, ⟨(some 7), none, (.call (.cst (.fn 75 [])) [(.tmp 5), (.tmp 6)] [[(some (.pair .int (.pair .int (.pair .int (.pair .int .int)))))], []])⟩, ⟨(some 8), none, (.i (.bin .geq (.tmp 7) (.cst (.int .i64 0))))⟩, ⟨(some 4), none, (.i (.mov (.tmp 8)))⟩] false [])
  .ret))
def r_slices_ContainsFunc_impl_Instr_impl_Instr : List Res := [.tmp 4]
theorem c_slices_ContainsFunc_impl_Instr_impl_Instr : compiled Tryd.prog Tryd.f59 = some (m_slices_ContainsFunc_impl_Instr_impl_Instr, r_slices_ContainsFunc_impl_Instr_impl_Instr) := by kernel_rfl
theorem hb_slices_ContainsFunc_impl_Instr_impl_Instr : hasBody Tryd.prog 59 = true := by kernel_rfl
def L_slices_ContainsFunc_impl_Instr_impl_Instr_for_impl_isProgram_1 (a0 : List (Int × Int × Int × Int × Int)) (a1_0_0 : Int) (a1_0_1 : Int) (a1_0_2 : Int) (a1_0_3 : Int) (a1_0_4 : List (Int × Int × Int × Int × Int)) (a1_1_0 : Int) : Option Bool :=
  Option.bind (L_slices_IndexFunc_impl_Instr_impl_Instr_for_impl_isProgram_1 a0 a1_0_0 a1_0_1 a1_0_2 a1_0_3 a1_0_4 a1_1_0) fun y3 =>
some (decide (0 ≤ y3))
def rv_slices_ContainsFunc_impl_Instr_impl_Instr_for_impl_isProgram_1 (r : Bool) : RV := ⟨false, [(false, [.sc (.bool r)])]⟩
theorem ok_slices_ContainsFunc_impl_Instr_impl_Instr_for_impl_isProgram_1 {a0 : List (Int × Int × Int × Int × Int)} {a1_0_0 : Int} {a1_0_1 : Int} {a1_0_2 : Int} {a1_0_3 : Int} {a1_0_4 : List (Int × Int × Int × Int × Int)} {a1_1_0 : Int} {r : Bool} (h : L_slices_ContainsFunc_impl_Instr_impl_Instr_for_impl_isProgram_1 a0 a1_0_0 a1_0_1 a1_0_2 a1_0_3 a1_0_4 a1_1_0 = some r) : CallOK Tryd.prog Tab 59 [(.tree (.pair .int (.pair .int (.pair .int (.pair .int .int)))) a0), (.fn 60 [(.ref [(.int .i64 a1_0_0), (.int .i64 a1_0_1), (.int .i64 a1_0_2), (.int .i64 a1_0_3), (.tree (.pair .int (.pair .int (.pair .int (.pair .int .int)))) a1_0_4)]), (.ref [(.int .i64 a1_1_0)])])] (rv_slices_ContainsFunc_impl_Instr_impl_Instr_for_impl_isProgram_1 r) := by
  refine call_of_ (by kernel_rfl) Tryd.func59 c_slices_ContainsFunc_impl_Instr_impl_Instr (n := 9) (by kernel_rfl) (by simp) (tl := [(0, (.tree (.pair .int (.pair .int (.pair .int (.pair .int .int)))) a0)), (1, (.fn 60 [(.ref [(.int .i64 a1_0_0), (.int .i64 a1_0_1), (.int .i64 a1_0_2), (.int .i64 a1_0_3), (.tree (.pair .int (.pair .int (.pair .int (.pair .int .int)))) a1_0_4)]), (.ref [(.int .i64 a1_1_0)])]))]) rfl ?_
  unfold m_slices_ContainsFunc_impl_Instr_impl_Instr
  unfold L_slices_ContainsFunc_impl_Instr_impl_Instr_for_impl_isProgram_1 at h
  refine awp_seq_ ?_
  refine awp_region_ 2 (by kernel_rfl) ?_
  refine rs0 (.bool false) (by kernel_rfl) ?_
  refine rnil (tn_ ?_)
  refine awp_seq_ ?_
  obtain ⟨y3, h3, h⟩ := ob_some h
  refine awp_region_ 7 (by kernel_rfl) ?_
  refine rs0 (.tree (.pair .int (.pair .int (.pair .int (.pair .int .int)))) a0) (by kernel_rfl) ?_
  refine rs0 (.fn 60 [(.ref [(.int .i64 a1_0_0), (.int .i64 a1_0_1), (.int .i64 a1_0_2), (.int .i64 a1_0_3), (.tree (.pair .int (.pair .int (.pair .int (.pair .int .int)))) a1_0_4)]), (.ref [(.int .i64 a1_1_0)])]) (by kernel_rfl) ?_
  refine rcall (.int .i64 y3) [] [(.tree (.pair .int (.pair .int (.pair .int (.pair .int .int)))) a0), (.fn 60 [(.ref [(.int .i64 a1_0_0), (.int .i64 a1_0_1), (.int .i64 a1_0_2), (.int .i64 a1_0_3), (.tree (.pair .int (.pair .int (.pair .int (.pair .int .int)))) a1_0_4)]), (.ref [(.int .i64 a1_1_0)])])] _ (caps := []) (args0 := [(.tree (.pair .int (.pair .int (.pair .int (.pair .int .int)))) a0), (.fn 60 [(.ref [(.int .i64 a1_0_0), (.int .i64 a1_0_1), (.int .i64 a1_0_2), (.int .i64 a1_0_3), (.tree (.pair .int (.pair .int (.pair .int (.pair .int .int)))) a1_0_4)]), (.ref [(.int .i64 a1_1_0)])])]) trivial (by kernel_rfl) (by kernel_rfl) (by kernel_rfl) (by kernel_rfl) (ok_slices_IndexFunc_impl_Instr_impl_Instr_for_impl_isProgram_1 h3) hb_slices_IndexFunc_impl_Instr_impl_Instr (by kernel_rfl) ?_
  refine rs0 (.bool (decide (0 ≤ y3))) (by kernel_rfl) ?_
  refine rs0 (.bool (decide (0 ≤ y3))) (by kernel_rfl) ?_
  refine rnil (tn_ ?_)
  refine awp_ret_ ?_
  obtain rfl := Option.some.inj h
  exact ret_ [(.bool (decide (0 ≤ y3)))] (by simp) (by kernel_rfl) (p_one rfl (l_sc (by kernel_rfl)) p_nil) (by kernel_rfl) (by kernel_rfl)
def m_impl_isProgram : AC :=
  (.seq (.region [⟨(some 2), none, (.i (.box 3 (.tmp 0)))⟩, ⟨(some 3), none, (.i (.box 29 (.tmp 1)))⟩, ⟨(some 4), none, (.i (.mov (.cst (.bool false))))⟩] false [])
  (.seq (.seq (.region [⟨(some 5), none, (.i (.ld true 1 (.tmp 2)))⟩, ⟨(some 6), none, (.call (.cst (.fn 58 [])) [(.tmp 5)] [[]])⟩, ⟨(some 7), none, (.i (.not (.tmp 6)))⟩, ⟨(some 8), none, (.i (.mov (.tmp 7)))⟩, ⟨(some 9), (some (8, false)), (.i (.fld 0 (.tmp 3)))⟩, ⟨(some 10), (some (8, false)), (.i (.ld true 1 (.tmp 9)))⟩, ⟨(some 11), (some (8, false)), (.call (.cst (.fn 39 [])) [(.tmp 10), (.cst (.int .i64 0)), (.cst (.int .i64 8))] [[], [], []])⟩, ⟨(some 12), (some (8, false)), (.i (.not (.tmp 11)))⟩, ⟨(some 13), none, (.i (.pick (.tmp 8) (.cst (.bool true)) (.tmp 12)))⟩, ⟨(some 14), none, (.i (.mov (.tmp 13)))⟩, ⟨(some 15), (some (14, false)), (.i (.fld 1 (.tmp 3)))⟩, ⟨(some 16), (some (14, false)), (.i (.ld true 1 (.tmp 15)))⟩, ⟨(some 17), (some (14, false)), (.call (.cst (.fn 39 [])) [(.tmp 16), (.cst (.int .i64 0)), (.cst (.int .i64 8))] [[], [], []])⟩, ⟨(some 18), (some (14, false)), (.i (.not (.tmp 17)))⟩, ⟨(some 19), none, (.i (.pick (.tmp 14) (.cst (.bool true)) (.tmp 18)))⟩, ⟨(some 20), none, (.i (.mov (.tmp 19)))⟩, ⟨(some 21), (some (20, false)), (.i (.fld 2 (.tmp 3)))⟩, ⟨(some 22), (some (20, false)), (.i (.ld true 1 (.tmp 21)))⟩, ⟨(some 23), (some (20, false)), (.call (.cst (.fn 39 [])) [(.tmp 22), (.cst (.int .i64 0)), (.cst (.int .i64 40))] [[], [], []])⟩, ⟨(some 24), (some (20, false)), (.i (.not (.tmp 23)))⟩, ⟨(some 25), none, (.i (.pick (.tmp 20) (.cst (.bool true)) (.tmp 24)))⟩, ⟨(some 26), none, (.i (.mov (.tmp 25)))⟩, ⟨(some 27), (some (26, false)), (.i (.fld 3 (.tmp 3)))⟩, ⟨(some 28), (some (26, false)), (.i (.ld true 1 (.tmp 27)))⟩, ⟨(some 29), (some (26, false)), (.call (.cst (.fn 39 [])) [(.tmp 28), (.cst (.int .i64 0)), (.cst (.int .i64 16))] [[], [], []])⟩, ⟨(some 30), (some (26, false)), (.i (.not (.tmp 29)))⟩, ⟨(some 31), none, (.i (.pick (.tmp 26) (.cst (.bool true)) (.tmp 30)))⟩, ⟨(some 32), none, (.i (.mov (.tmp 31)))⟩, ⟨(some 33), (some (32, false)), (.i (.fld 4 (.tmp 3)))⟩, ⟨(some 34), (some (32, false)), (.i (.ld true 1 (.tmp 33)))⟩, ⟨(some 35), (some (32, false)), (.i (.len (.tmp 34)))⟩, ⟨(some 36), (some (32, false)), (.i (.bin .gtr (.tmp 35) (.cst (.int .i64 120))))⟩, ⟨(some 37), none, (.i (.pick (.tmp 32) (.cst (.bool true)) (.tmp 36)))⟩] false [])
  (.cond (.tmp 37)
    (.seq (.region [⟨(some 4), none, (.i (.mov (.cst (.bool false))))⟩] false [])
    .ret)
    .skip))
  (.seq (.region [⟨(some 38), none, (.i (.fld 4 (.tmp 3)))⟩, ⟨(some 39), none, (.i (.ld true 1 (.tmp 38)))⟩, ⟨(some 40), none, (.i (.mkfn 60 [(.tmp 3), (.tmp 2)]))⟩, ⟨(some 41), none, (.call (.cst (.fn 59 [])) [(.tmp 39), (.tmp 40)] [[(some (.pair .int (.pair .int (.pair .int (.pair .int .int)))))], []])⟩, ⟨(some 42), none, (.i (.not (.tmp 41)))⟩, ⟨(some 4), none, (.i (.mov (.tmp 42)))⟩] false [])
  .ret)))
def r_impl_isProgram : List Res := [.tmp 4]
theorem c_impl_isProgram : compiled Tryd.prog Tryd.f35 = some (m_impl_isProgram, r_impl_isProgram) := by kernel_rfl
theorem hb_impl_isProgram : hasBody Tryd.prog 35 = true := by kernel_rfl
def L_impl_isProgram (a0 : Int) (a1_0 : Int) (a1_1 : Int) (a1_2 : Int) (a1_3 : Int) (a1_4 : List (Int × Int × Int × Int × Int)) : Option Bool :=
  Option.bind (Option.bind (L_impl_isField a0) fun y4 =>
  cond (!y4)
    (some true)
    (Option.bind (L_impl_within a1_0 0 8) fun y6 =>
    cond (!y6)
      (some true)
      (Option.bind (L_impl_within a1_1 0 8) fun y8 =>
      cond (!y8)
        (some true)
        (Option.bind (L_impl_within a1_2 0 40) fun y10 =>
        cond (!y10)
          (some true)
          (Option.bind (L_impl_within a1_3 0 16) fun y12 =>
          cond (!y12)
            (some true)
            (some (decide (120 < ((a1_4.length : Nat) : Int))))))))) fun l3_m37 =>
cond l3_m37
  (some false)
  (Option.bind (L_slices_ContainsFunc_impl_Instr_impl_Instr_for_impl_isProgram_1 a1_4 a1_0 a1_1 a1_2 a1_3 a1_4 a0) fun y17 =>
  some (!y17))
def rv_impl_isProgram (r : Bool) : RV := ⟨false, [(false, [.sc (.bool r)])]⟩
theorem ok_impl_isProgram {a0 : Int} {a1_0 : Int} {a1_1 : Int} {a1_2 : Int} {a1_3 : Int} {a1_4 : List (Int × Int × Int × Int × Int)} {r : Bool} (h : L_impl_isProgram a0 a1_0 a1_1 a1_2 a1_3 a1_4 = some r) : CallOK Tryd.prog Tab 35 [(.int .i64 a0), (.agg [(.int .i64 a1_0), (.int .i64 a1_1), (.int .i64 a1_2), (.int .i64 a1_3), (.tree (.pair .int (.pair .int (.pair .int (.pair .int .int)))) a1_4)])] (rv_impl_isProgram r) := by
  refine call_of_ (by kernel_rfl) Tryd.func35 c_impl_isProgram (n := 43) (by kernel_rfl) (by simp) (tl := [(0, (.int .i64 a0)), (1, (.agg [(.int .i64 a1_0), (.int .i64 a1_1), (.int .i64 a1_2), (.int .i64 a1_3), (.tree (.pair .int (.pair .int (.pair .int (.pair .int .int)))) a1_4)]))]) rfl ?_
  unfold m_impl_isProgram
  unfold L_impl_isProgram at h
  refine awp_seq_ ?_
  refine awp_region_ 4 (by kernel_rfl) ?_
  refine rs1 (.box (2, 1) 0) (2, 1) (.cells 3 [(.int .i64 a0)]) (by kernel_rfl) ?_
  refine rs1 (.box (3, 2) 0) (3, 2) (.cells 29 [(.int .i64 a1_0), (.int .i64 a1_1), (.int .i64 a1_2), (.int .i64 a1_3), (.tree (.pair .int (.pair .int (.pair .int (.pair .int .int)))) a1_4)]) (by kernel_rfl) ?_
  refine rs0 (.bool false) (by kernel_rfl) ?_
  refine rnil (tn_ ?_)
  refine awp_seq_ ?_
  refine awp_seqB h (fun (l3_m37 : Bool) S_ => S_ = ⟨mkTm [(2, (.box (0, 1) 0)), (3, (.box (1, 1) 0)), (37, (.bool l3_m37))], mkOb (someL [((0, 1), .cells 3 [(.int .i64 a0)]), ((1, 1), .cells 29 [(.int .i64 a1_0), (.int .i64 a1_1), (.int .i64 a1_2), (.int .i64 a1_3), (.tree (.pair .int (.pair .int (.pair .int (.pair .int .int)))) a1_4)])]), 2⟩) ?_ ?_
  · intro v_ h
    obtain ⟨y4, h4, h⟩ := ob_some h
    rcases cond_some h with ⟨q5, h⟩ | ⟨q5, h⟩
    · refine awp_region_ 37 (by kernel_rfl) ?_
      refine rsl (.int .i64 a0) (by kernel_rfl) ?_
      refine rcall (.bool y4) [] [(.int .i64 a0)] _ (caps := []) (args0 := [(.int .i64 a0)]) trivial (by kernel_rfl) (by kernel_rfl) (by kernel_rfl) (by kernel_rfl) (ok_impl_isField h4) hb_impl_isField (by kernel_rfl) ?_
      refine rs0 (.bool (!y4)) (by kernel_rfl) ?_
      refine rs0 (.bool (!y4)) (by kernel_rfl) ?_
      refine rs0 .any (s_skip (by kernel_rfl) q5) ?_
      refine rs0 .any (s_skip (by kernel_rfl) q5) ?_
      refine rs0 .any (s_skip (by kernel_rfl) q5) ?_
      refine rs0 .any (s_skip (by kernel_rfl) q5) ?_
      refine rs0 (.bool true) (s_pickT (by kernel_rfl) q5) ?_
      refine rs0 (.bool true) (by kernel_rfl) ?_
      refine rs0 .any (by kernel_rfl) ?_
      refine rs0 .any (by kernel_rfl) ?_
      refine rs0 .any (by kernel_rfl) ?_
      refine rs0 .any (by kernel_rfl) ?_
      refine rs0 (.bool true) (by kernel_rfl) ?_
      refine rs0 (.bool true) (by kernel_rfl) ?_
      refine rs0 .any (by kernel_rfl) ?_
      refine rs0 .any (by kernel_rfl) ?_
      refine rs0 .any (by kernel_rfl) ?_
      refine rs0 .any (by kernel_rfl) ?_
      refine rs0 (.bool true) (by kernel_rfl) ?_
      refine rs0 (.bool true) (by kernel_rfl) ?_
      refine rs0 .any (by kernel_rfl) ?_
      refine rs0 .any (by kernel_rfl) ?_
      refine rs0 .any (by kernel_rfl) ?_
      refine rs0 .any (by kernel_rfl) ?_
      refine rs0 (.bool true) (by kernel_rfl) ?_
      refine rs0 (.bool true) (by kernel_rfl) ?_
      refine rs0 .any (by kernel_rfl) ?_
      refine rs0 .any (by kernel_rfl) ?_
      refine rs0 .any (by kernel_rfl) ?_
      refine rs0 .any (by kernel_rfl) ?_
      refine rs0 (.bool true) (by kernel_rfl) ?_
      refine rnil (tn_ ?_)
      obtain rfl := Option.some.inj h
      exact ⟨_, (weak_ren (renF [((0, 1), (2, 1)), ((1, 1), (3, 2))]) (by kernel_rfl) (by kernel_rfl) (by kernel_rfl)), rfl⟩
    · obtain ⟨y6, h6, h⟩ := ob_some h
      rcases cond_some h with ⟨q7, h⟩ | ⟨q7, h⟩
      · refine awp_region_ 37 (by kernel_rfl) ?_
        refine rsl (.int .i64 a0) (by kernel_rfl) ?_
        refine rcall (.bool y4) [] [(.int .i64 a0)] _ (caps := []) (args0 := [(.int .i64 a0)]) trivial (by kernel_rfl) (by kernel_rfl) (by kernel_rfl) (by kernel_rfl) (ok_impl_isField h4) hb_impl_isField (by kernel_rfl) ?_
        refine rs0 (.bool (!y4)) (by kernel_rfl) ?_
        refine rs0 (.bool (!y4)) (by kernel_rfl) ?_
        refine rs0 (.box (3, 2) 0) (s_gd (by kernel_rfl) q5 (by kernel_rfl)) ?_
        refine rsl (.int .i64 a1_0) (s_gd (by kernel_rfl) q5 (by kernel_rfl)) ?_
        refine rcall (.bool y6) [] [(.int .i64 a1_0), (.int .i64 0), (.int .i64 8)] _ (caps := []) (args0 := [(.int .i64 a1_0), (.int .i64 0), (.int .i64 8)]) (gdOK_b (by kernel_rfl) q5) (by kernel_rfl) (by kernel_rfl) (by kernel_rfl) (by kernel_rfl) (ok_impl_within h6) hb_impl_within (by kernel_rfl) ?_
        refine rs0 (.bool (!y6)) (s_gd (by kernel_rfl) q5 (by kernel_rfl)) ?_
        refine rs0 (.bool (!y6)) (s_pickF (by kernel_rfl) q5) ?_
        refine rs0 (.bool (!y6)) (by kernel_rfl) ?_
        refine rs0 .any (s_skip (by kernel_rfl) q7) ?_
        refine rs0 .any (s_skip (by kernel_rfl) q7) ?_
        refine rs0 .any (s_skip (by kernel_rfl) q7) ?_
        refine rs0 .any (s_skip (by kernel_rfl) q7) ?_
        refine rs0 (.bool true) (s_pickT (by kernel_rfl) q7) ?_
        refine rs0 (.bool true) (by kernel_rfl) ?_
        refine rs0 .any (by kernel_rfl) ?_
        refine rs0 .any (by kernel_rfl) ?_
        refine rs0 .any (by kernel_rfl) ?_
        refine rs0 .any (by kernel_rfl) ?_
        refine rs0 (.bool true) (by kernel_rfl) ?_
        refine rs0 (.bool true) (by kernel_rfl) ?_
        refine rs0 .any (by kernel_rfl) ?_
        refine rs0 .any (by kernel_rfl) ?_
        refine rs0 .any (by kernel_rfl) ?_
        refine rs0 .any (by kernel_rfl) ?_
        refine rs0 (.bool true) (by kernel_rfl) ?_
        refine rs0 (.bool true) (by kernel_rfl) ?_
        refine rs0 .any (by kernel_rfl) ?_
        refine rs0 .any (by kernel_rfl) ?_
        refine rs0 .any (by kernel_rfl) ?_
        refine rs0 .any (by kernel_rfl) ?_
        refine rs0 (.bool true) (by kernel_rfl) ?_
        refine rnil (tn_ ?_)
        obtain rfl := Option.some.inj h
        exact ⟨_, (weak_ren (renF [((0, 1), (2, 1)), ((1, 1), (3, 2))]) (by kernel_rfl) (by kernel_rfl) (by kernel_rfl)), rfl⟩
      · obtain ⟨y8, h8, h⟩ := ob_some h
        rcases cond_some h with ⟨q9, h⟩ | ⟨q9, h⟩
        · refine awp_region_ 37 (by kernel_rfl) ?_
          refine rsl (.int .i64 a0) (by kernel_rfl) ?_
          refine rcall (.bool y4) [] [(.int .i64 a0)] _ (caps := []) (args0 := [(.int .i64 a0)]) trivial (by kernel_rfl) (by kernel_rfl) (by kernel_rfl) (by kernel_rfl) (ok_impl_isField h4) hb_impl_isField (by kernel_rfl) ?_
          refine rs0 (.bool (!y4)) (by kernel_rfl) ?_
          refine rs0 (.bool (!y4)) (by kernel_rfl) ?_
          refine rs0 (.box (3, 2) 0) (s_gd (by kernel_rfl) q5 (by kernel_rfl)) ?_
          refine rsl (.int .i64 a1_0) (s_gd (by kernel_rfl) q5 (by kernel_rfl)) ?_
          refine rcall (.bool y6) [] [(.int .i64 a1_0), (.int .i64 0), (.int .i64 8)] _ (caps := []) (args0 := [(.int .i64 a1_0), (.int .i64 0), (.int .i64 8)]) (gdOK_b (by kernel_rfl) q5) (by kernel_rfl) (by kernel_rfl) (by kernel_rfl) (by kernel_rfl) (ok_impl_within h6) hb_impl_within (by kernel_rfl) ?_
          refine rs0 (.bool (!y6)) (s_gd (by kernel_rfl) q5 (by kernel_rfl)) ?_
          refine rs0 (.bool (!y6)) (s_pickF (by kernel_rfl) q5) ?_
          refine rs0 (.bool (!y6)) (by kernel_rfl) ?_
          refine rs0 (.box (3, 2) 1) (s_gd (by kernel_rfl) q7 (by kernel_rfl)) ?_
          refine rsl (.int .i64 a1_1) (s_gd (by kernel_rfl) q7 (by kernel_rfl)) ?_
          refine rcall (.bool y8) [] [(.int .i64 a1_1), (.int .i64 0), (.int .i64 8)] _ (caps := []) (args0 := [(.int .i64 a1_1), (.int .i64 0), (.int .i64 8)]) (gdOK_b (by kernel_rfl) q7) (by kernel_rfl) (by kernel_rfl) (by kernel_rfl) (by kernel_rfl) (ok_impl_within h8) hb_impl_within (by kernel_rfl) ?_
          refine rs0 (.bool (!y8)) (s_gd (by kernel_rfl) q7 (by kernel_rfl)) ?_
          refine rs0 (.bool (!y8)) (s_pickF (by kernel_rfl) q7) ?_
          refine rs0 (.bool (!y8)) (by kernel_rfl) ?_
          refine rs0 .any (s_skip (by kernel_rfl) q9) ?_
          refine rs0 .any (s_skip (by kernel_rfl) q9) ?_
          refine rs0 .any (s_skip (by kernel_rfl) q9) ?_
          refine rs0 .any (s_skip (by kernel_rfl) q9) ?_
          refine rs0 (.bool true) (s_pickT (by kernel_rfl) q9) ?_
          refine rs0 (.bool true) (by kernel_rfl) ?_
          refine rs0 .any (by kernel_rfl) ?_
          refine rs0 .any (by kernel_rfl) ?_
          refine rs0 .any (by kernel_rfl) ?_
          refine rs0 .any (by kernel_rfl) ?_
          refine rs0 (.bool true) (by kernel_rfl) ?_
          refine rs0 (.bool true) (by kernel_rfl) ?_
          refine rs0 .any (by kernel_rfl) ?_
          refine rs0 .any (by kernel_rfl) ?_
          refine rs0 .any (by kernel_rfl) ?_
          refine rs0 .any (by kernel_rfl) ?_
          refine rs0 (.bool true) (by kernel_rfl) ?_
          refine rnil (tn_ ?_)
          obtain rfl := Option.some.inj h
          exact ⟨_, (weak_ren (renF [((0, 1), (2, 1)), ((1, 1), (3, 2))]) (by kernel_rfl) (by kernel_rfl) (by kernel_rfl)), rfl⟩
        · obtain ⟨y10, h10, h⟩ := ob_some h
          rcases cond_some h with ⟨q11, h⟩ | ⟨q11, h⟩
          · refine awp_region_ 37 (by kernel_rfl) ?_
            refine rsl (.int .i64 a0) (by kernel_rfl) ?_
            refine rcall (.bool y4) [] [(.int .i64 a0)] _ (caps := []) (args0 := [(.int .i64 a0)]) trivial (by kernel_rfl) (by kernel_rfl) (by kernel_rfl) (by kernel_rfl) (ok_impl_isField h4) hb_impl_isField (by kernel_rfl) ?_
            refine rs0 (.bool (!y4)) (by kernel_rfl) ?_
            refine rs0 (.bool (!y4)) (by kernel_rfl) ?_
            refine rs0 (.box (3, 2) 0) (s_gd (by kernel_rfl) q5 (by kernel_rfl)) ?_
            refine rsl (.int .i64 a1_0) (s_gd (by kernel_rfl) q5 (by kernel_rfl)) ?_
            refine rcall (.bool y6) [] [(.int .i64 a1_0), (.int .i64 0), (.int .i64 8)] _ (caps := []) (args0 := [(.int .i64 a1_0), (.int .i64 0), (.int .i64 8)]) (gdOK_b (by kernel_rfl) q5) (by kernel_rfl) (by kernel_rfl) (by kernel_rfl) (by kernel_rfl) (ok_impl_within h6) hb_impl_within (by kernel_rfl) ?_
            refine rs0 (.bool (!y6)) (s_gd (by kernel_rfl) q5 (by kernel_rfl)) ?_
            refine rs0 (.bool (!y6)) (s_pickF (by kernel_rfl) q5) ?_
            refine rs0 (.bool (!y6)) (by kernel_rfl) ?_
            refine rs0 (.box (3, 2) 1) (s_gd (by kernel_rfl) q7 (by kernel_rfl)) ?_
            refine rsl (.int .i64 a1_1) (s_gd (by kernel_rfl) q7 (by kernel_rfl)) ?_
            refine rcall (.bool y8) [] [(.int .i64 a1_1), (.int .i64 0), (.int .i64 8)] _ (caps := []) (args0 := [(.int .i64 a1_1), (.int .i64 0), (.int .i64 8)]) (gdOK_b (by kernel_rfl) q7) (by kernel_rfl) (by kernel_rfl) (by kernel_rfl) (by kernel_rfl) (ok_impl_within h8) hb_impl_within (by kernel_rfl) ?_
            refine rs0 (.bool (!y8)) (s_gd (by kernel_rfl) q7 (by kernel_rfl)) ?_
            refine rs0 (.bool (!y8)) (s_pickF (by kernel_rfl) q7) ?_
            refine rs0 (.bool (!y8)) (by kernel_rfl) ?_
            refine rs0 (.box (3, 2) 2) (s_gd (by kernel_rfl) q9 (by kernel_rfl)) ?_
            refine rsl (.int .i64 a1_2) (s_gd (by kernel_rfl) q9 (by kernel_rfl)) ?_
            refine rcall (.bool y10) [] [(.int .i64 a1_2), (.int .i64 0), (.int .i64 40)] _ (caps := []) (args0 := [(.int .i64 a1_2), (.int .i64 0), (.int .i64 40)]) (gdOK_b (by kernel_rfl) q9) (by kernel_rfl) (by kernel_rfl) (by kernel_rfl) (by kernel_rfl) (ok_impl_within h10) hb_impl_within (by kernel_rfl) ?_
            refine rs0 (.bool (!y10)) (s_gd (by kernel_rfl) q9 (by kernel_rfl)) ?_
            refine rs0 (.bool (!y10)) (s_pickF (by kernel_rfl) q9) ?_
            refine rs0 (.bool (!y10)) (by kernel_rfl) ?_
            refine rs0 .any (s_skip (by kernel_rfl) q11) ?_
            refine rs0 .any (s_skip (by kernel_rfl) q11) ?_
            refine rs0 .any (s_skip (by kernel_rfl) q11) ?_
            refine rs0 .any (s_skip (by kernel_rfl) q11) ?_
            refine rs0 (.bool true) (s_pickT (by kernel_rfl) q11) ?_
            refine rs0 (.bool true) (by kernel_rfl) ?_
            refine rs0 .any (by kernel_rfl) ?_
            refine rs0 .any (by kernel_rfl) ?_
            refine rs0 .any (by kernel_rfl) ?_
            refine rs0 .any (by kernel_rfl) ?_
            refine rs0 (.bool true) (by kernel_rfl) ?_
            refine rnil (tn_ ?_)
            obtain rfl := Option.some.inj h
            exact ⟨_, (weak_ren (renF [((0, 1), (2, 1)), ((1, 1), (3, 2))]) (by kernel_rfl) (by kernel_rfl) (by kernel_rfl)), rfl⟩
          · obtain ⟨y12, h12, h⟩ := ob_some h
            rcases cond_some h with ⟨q13, h⟩ | ⟨q13, h⟩
            · refine awp_region_ 37 (by kernel_rfl) ?_
              refine rsl (.int .i64 a0) (by kernel_rfl) ?_
              refine rcall (.bool y4) [] [(.int .i64 a0)] _ (caps := []) (args0 := [(.int .i64 a0)]) trivial (by kernel_rfl) (by kernel_rfl) (by kernel_rfl) (by kernel_rfl) (ok_impl_isField h4) hb_impl_isField (by kernel_rfl) ?_
              refine rs0 (.bool (!y4)) (by kernel_rfl) ?_
              refine rs0 (.bool (!y4)) (by kernel_rfl) ?_
              refine rs0 (.box (3, 2) 0) (s_gd (by kernel_rfl) q5 (by kernel_rfl)) ?_
              refine rsl (.int .i64 a1_0) (s_gd (by kernel_rfl) q5 (by kernel_rfl)) ?_
              refine rcall (.bool y6) [] [(.int .i64 a1_0), (.int .i64 0), (.int .i64 8)] _ (caps := []) (args0 := [(.int .i64 a1_0), (.int .i64 0), (.int .i64 8)]) (gdOK_b (by kernel_rfl) q5) (by kernel_rfl) (by kernel_rfl) (by kernel_rfl) (by kernel_rfl) (ok_impl_within h6) hb_impl_within (by kernel_rfl) ?_
              refine rs0 (.bool (!y6)) (s_gd (by kernel_rfl) q5 (by kernel_rfl)) ?_
              refine rs0 (.bool (!y6)) (s_pickF (by kernel_rfl) q5) ?_
              refine rs0 (.bool (!y6)) (by kernel_rfl) ?_
              refine rs0 (.box (3, 2) 1) (s_gd (by kernel_rfl) q7 (by kernel_rfl)) ?_
              refine rsl (.int .i64 a1_1) (s_gd (by kernel_rfl) q7 (by kernel_rfl)) ?_
              refine rcall (.bool y8) [] [(.int .i64 a1_1), (.int .i64 0), (.int .i64 8)] _ (caps := []) (args0 := [(.int .i64 a1_1), (.int .i64 0), (.int .i64 8)]) (gdOK_b (by kernel_rfl) q7) (by kernel_rfl) (by kernel_rfl) (by kernel_rfl) (by kernel_rfl) (ok_impl_within h8) hb_impl_within (by kernel_rfl) ?_
              refine rs0 (.bool (!y8)) (s_gd (by kernel_rfl) q7 (by kernel_rfl)) ?_
              refine rs0 (.bool (!y8)) (s_pickF (by kernel_rfl) q7) ?_
              refine rs0 (.bool (!y8)) (by kernel_rfl) ?_
              refine rs0 (.box (3, 2) 2) (s_gd (by kernel_rfl) q9 (by kernel_rfl)) ?_
              refine rsl (.int .i64 a1_2) (s_gd (by kernel_rfl) q9 (by kernel_rfl)) ?_
              refine rcall (.bool y10) [] [(.int .i64 a1_2), (.int .i64 0), (.int .i64 40)] _ (caps := []) (args0 := [(.int .i64 a1_2), (.int .i64 0), (.int .i64 40)]) (gdOK_b (by kernel_rfl) q9) (by kernel_rfl) (by kernel_rfl) (by kernel_rfl) (by kernel_rfl) (ok_impl_within h10) hb_impl_within (by kernel_rfl) ?_
              refine rs0 (.bool (!y10)) (s_gd (by kernel_rfl) q9 (by kernel_rfl)) ?_
              refine rs0 (.bool (!y10)) (s_pickF (by kernel_rfl) q9) ?_
              refine rs0 (.bool (!y10)) (by kernel_rfl) ?_
              refine rs0 (.box (3, 2) 3) (s_gd (by kernel_rfl) q11 (by kernel_rfl)) ?_
              refine rsl (.int .i64 a1_3) (s_gd (by kernel_rfl) q11 (by kernel_rfl)) ?_
              refine rcall (.bool y12) [] [(.int .i64 a1_3), (.int .i64 0), (.int .i64 16)] _ (caps := []) (args0 := [(.int .i64 a1_3), (.int .i64 0), (.int .i64 16)]) (gdOK_b (by kernel_rfl) q11) (by kernel_rfl) (by kernel_rfl) (by kernel_rfl) (by kernel_rfl) (ok_impl_within h12) hb_impl_within (by kernel_rfl) ?_
              refine rs0 (.bool (!y12)) (s_gd (by kernel_rfl) q11 (by kernel_rfl)) ?_
              refine rs0 (.bool (!y12)) (s_pickF (by kernel_rfl) q11) ?_
              refine rs0 (.bool (!y12)) (by kernel_rfl) ?_
              refine rs0 .any (s_skip (by kernel_rfl) q13) ?_
              refine rs0 .any (s_skip (by kernel_rfl) q13) ?_
              refine rs0 .any (s_skip (by kernel_rfl) q13) ?_
              refine rs0 .any (s_skip (by kernel_rfl) q13) ?_
              refine rs0 (.bool true) (s_pickT (by kernel_rfl) q13) ?_
              refine rnil (tn_ ?_)
              obtain rfl := Option.some.inj h
              exact ⟨_, (weak_ren (renF [((0, 1), (2, 1)), ((1, 1), (3, 2))]) (by kernel_rfl) (by kernel_rfl) (by kernel_rfl)), rfl⟩
            · refine awp_region_ 37 (by kernel_rfl) ?_
              refine rsl (.int .i64 a0) (by kernel_rfl) ?_
              refine rcall (.bool y4) [] [(.int .i64 a0)] _ (caps := []) (args0 := [(.int .i64 a0)]) trivial (by kernel_rfl) (by kernel_rfl) (by kernel_rfl) (by kernel_rfl) (ok_impl_isField h4) hb_impl_isField (by kernel_rfl) ?_
              refine rs0 (.bool (!y4)) (by kernel_rfl) ?_
              refine rs0 (.bool (!y4)) (by kernel_rfl) ?_
              refine rs0 (.box (3, 2) 0) (s_gd (by kernel_rfl) q5 (by kernel_rfl)) ?_
              refine rsl (.int .i64 a1_0) (s_gd (by kernel_rfl) q5 (by kernel_rfl)) ?_
              refine rcall (.bool y6) [] [(.int .i64 a1_0), (.int .i64 0), (.int .i64 8)] _ (caps := []) (args0 := [(.int .i64 a1_0), (.int .i64 0), (.int .i64 8)]) (gdOK_b (by kernel_rfl) q5) (by kernel_rfl) (by kernel_rfl) (by kernel_rfl) (by kernel_rfl) (ok_impl_within h6) hb_impl_within (by kernel_rfl) ?_
              refine rs0 (.bool (!y6)) (s_gd (by kernel_rfl) q5 (by kernel_rfl)) ?_
              refine rs0 (.bool (!y6)) (s_pickF (by kernel_rfl) q5) ?_
              refine rs0 (.bool (!y6)) (by kernel_rfl) ?_
              refine rs0 (.box (3, 2) 1) (s_gd (by kernel_rfl) q7 (by kernel_rfl)) ?_
              refine rsl (.int .i64 a1_1) (s_gd (by kernel_rfl) q7 (by kernel_rfl)) ?_
              refine rcall (.bool y8) [] [(.int .i64 a1_1), (.int .i64 0), (.int .i64 8)] _ (caps := []) (args0 := [(.int .i64 a1_1), (.int .i64 0), (.int .i64 8)]) (gdOK_b (by kernel_rfl) q7) (by kernel_rfl) (by kernel_rfl) (by kernel_rfl) (by kernel_rfl) (ok_impl_within h8) hb_impl_within (by kernel_rfl) ?_
              refine rs0 (.bool (!y8)) (s_gd (by kernel_rfl) q7 (by kernel_rfl)) ?_
              refine rs0 (.bool (!y8)) (s_pickF (by kernel_rfl) q7) ?_
              refine rs0 (.bool (!y8)) (by kernel_rfl) ?_
              refine rs0 (.box (3, 2) 2) (s_gd (by kernel_rfl) q9 (by kernel_rfl)) ?_
              refine rsl (.int .i64 a1_2) (s_gd (by kernel_rfl) q9 (by kernel_rfl)) ?_
              refine rcall (.bool y10) [] [(.int .i64 a1_2), (.int .i64 0), (.int .i64 40)] _ (caps := []) (args0 := [(.int .i64 a1_2), (.int .i64 0), (.int .i64 40)]) (gdOK_b (by kernel_rfl) q9) (by kernel_rfl) (by kernel_rfl) (by kernel_rfl) (by kernel_rfl) (ok_impl_within h10) hb_impl_within (by kernel_rfl) ?_
              refine rs0 (.bool (!y10)) (s_gd (by kernel_rfl) q9 (by kernel_rfl)) ?_
              refine rs0 (.bool (!y10)) (s_pickF (by kernel_rfl) q9) ?_
              refine rs0 (.bool (!y10)) (by kernel_rfl) ?_
              refine rs0 (.box (3, 2) 3) (s_gd (by kernel_rfl) q11 (by kernel_rfl)) ?_
              refine rsl (.int .i64 a1_3) (s_gd (by kernel_rfl) q11 (by kernel_rfl)) ?_
              refine rcall (.bool y12) [] [(.int .i64 a1_3), (.int .i64 0), (.int .i64 16)] _ (caps := []) (args0 := [(.int .i64 a1_3), (.int .i64 0), (.int .i64 16)]) (gdOK_b (by kernel_rfl) q11) (by kernel_rfl) (by kernel_rfl) (by kernel_rfl) (by kernel_rfl) (ok_impl_within h12) hb_impl_within (by kernel_rfl) ?_
              refine rs0 (.bool (!y12)) (s_gd (by kernel_rfl) q11 (by kernel_rfl)) ?_
              refine rs0 (.bool (!y12)) (s_pickF (by kernel_rfl) q11) ?_
              refine rs0 (.bool (!y12)) (by kernel_rfl) ?_
              refine rs0 (.box (3, 2) 4) (s_gd (by kernel_rfl) q13 (by kernel_rfl)) ?_
              refine rsl (.tree (.pair .int (.pair .int (.pair .int (.pair .int .int)))) a1_4) (s_gd (by kernel_rfl) q13 (by kernel_rfl)) ?_
              refine rs0 (.int .i64 ((a1_4.length : Nat) : Int)) (s_gd (by kernel_rfl) q13 (by kernel_rfl)) ?_
              refine rs0 (.bool (decide (120 < ((a1_4.length : Nat) : Int)))) (s_gd (by kernel_rfl) q13 (by kernel_rfl)) ?_
              refine rs0 (.bool (decide (120 < ((a1_4.length : Nat) : Int)))) (s_pickF (by kernel_rfl) q13) ?_
              refine rnil (tn_ ?_)
              obtain rfl := Option.some.inj h
              exact ⟨_, (weak_ren (renF [((0, 1), (2, 1)), ((1, 1), (3, 2))]) (by kernel_rfl) (by kernel_rfl) (by kernel_rfl)), rfl⟩
  · rintro l3_m37 _ rfl h
    (try dsimp only at h)
    rcases cond_some h with ⟨q14, h⟩ | ⟨q14, h⟩
    · refine awp_condT_ q14 (by kernel_rfl) ?_
      refine awp_seq_ ?_
      refine awp_region_ 3 (by kernel_rfl) ?_
      refine rs0 (.bool false) (by kernel_rfl) ?_
      refine rnil (tn_ ?_)
      refine awp_ret_ (tr_ ?_)
      obtain rfl := Option.some.inj h
      exact ret_ [(.bool false)] (by simp) (by kernel_rfl) (p_one rfl (l_sc (by kernel_rfl)) p_nil) (by kernel_rfl) (by kernel_rfl)
    · refine awp_condF_ q14 (by kernel_rfl) ?_
      refine awp_skip_ (tn_ ?_)
      refine awp_seq_ ?_
      obtain ⟨y17, h17, h⟩ := ob_some h
      refine awp_region_ 8 (by kernel_rfl) ?_
      refine rs0 (.box (1, 1) 4) (by kernel_rfl) ?_
      refine rsl (.tree (.pair .int (.pair .int (.pair .int (.pair .int .int)))) a1_4) (by kernel_rfl) ?_
      refine rs0 (.fn 60 [(.box (1, 1) 0), (.box (0, 1) 0)]) (by kernel_rfl) ?_
      refine rcall (.bool y17) [] [(.tree (.pair .int (.pair .int (.pair .int (.pair .int .int)))) a1_4), (.fn 60 [(.box (1, 1) 0), (.box (0, 1) 0)])] _ (caps := []) (args0 := [(.tree (.pair .int (.pair .int (.pair .int (.pair .int .int)))) a1_4), (.fn 60 [(.ref [(.int .i64 a1_0), (.int .i64 a1_1), (.int .i64 a1_2), (.int .i64 a1_3), (.tree (.pair .int (.pair .int (.pair .int (.pair .int .int)))) a1_4)]), (.ref [(.int .i64 a0)])])]) trivial (by kernel_rfl) (by kernel_rfl) (by kernel_rfl) (by kernel_rfl) (ok_slices_ContainsFunc_impl_Instr_impl_Instr_for_impl_isProgram_1 h17) hb_slices_ContainsFunc_impl_Instr_impl_Instr (by kernel_rfl) ?_
      refine rs0 (.bool (!y17)) (by kernel_rfl) ?_
      refine rs0 (.bool (!y17)) (by kernel_rfl) ?_
      refine rnil (tn_ ?_)
      refine awp_ret_ ?_
      obtain rfl := Option.some.inj h
      exact ret_ [(.bool (!y17))] (by simp) (by kernel_rfl) (p_one rfl (l_sc (by kernel_rfl)) p_nil) (by kernel_rfl) (by kernel_rfl)
end Go.Proofs.YtomijolkdmaimaaDoor
