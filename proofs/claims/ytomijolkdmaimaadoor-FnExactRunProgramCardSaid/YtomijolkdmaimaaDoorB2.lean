/- Partial functions in place of code, and that the code does what they say: B2. No condition. -/
import Derived.Test.YtomijolkdmaimaaDoorB1
namespace Go.Proofs.YtomijolkdmaimaaDoor
open Go.RowKit Go.Deep
set_option maxRecDepth 4000
def m_spec_cmInstr : AC :=
  (.seq (rg [xo 4 (.i (.box 29 (tm 1))), xo 5 (.i (.box 69 (tm 2))), xo 6 (qm (cb false))])
  (.seq (.region [xo 10 (qf 1 (tm 5)), xo 11 (ql (tm 10)), xo 12 (qf 3 (tm 4)), xo 13 (ql (tm 12)), xo 14 (qb .sub (tm 13) (ci 1)), xo 15 (qc 37 [(tm 11), (ci 0), (tm 14)] [[], [], []]), xo 16 (qf 2 (tm 5)), xo 17 (ql (tm 16)), xo 18 (qf 3 (tm 4)), xo 19 (ql (tm 18)), xo 20 (qb .sub (tm 19) (ci 1)), xo 21 (qc 37 [(tm 17), (ci 0), (tm 20)] [[], [], []]), xo 22 (qf 3 (tm 5)), xo 23 (ql (tm 22)), xo 24 (qf 3 (tm 4)), xo 25 (ql (tm 24)), xo 26 (qb .sub (tm 25) (ci 1)), xo 27 (qc 37 [(tm 23), (ci 0), (tm 26)] [[], [], []]), xo 7 (qm (tm 15)), xo 8 (qm (tm 21)), xo 9 (qm (tm 27))] true [(5, 7), (5, 9), (5, 13), (11, 13), (5, 15), (11, 15)])
  (.seq (.seq (rg [xo 28 (qf 0 (tm 5)), xo 29 (ql (tm 28))])
  (.block 0 (.seq (rg [xo 31 (qb .eql (tm 29) (ci 1)), xo 30 (qm (tm 31))])
  (.cond (tm 30)
    (.seq (rg [xo 32 (qm (tm 7)), xo 33 (qm (tm 32)), ⟨(some 34), (some (33, true)), (qf 2 (tm 5))⟩, ⟨(some 35), (some (33, true)), (ql (tm 34))⟩, ⟨(some 36), (some (33, true)), (qf 0 (tm 4))⟩, ⟨(some 37), (some (33, true)), (ql (tm 36))⟩, ⟨(some 38), (some (33, true)), (qb .sub (tm 37) (ci 1))⟩, ⟨(some 39), (some (33, true)), (qc 37 [(tm 35), (ci 0), (tm 38)] [[], [], []])⟩, xo 40 (.i (.pick (tm 33) (tm 39) (cb false))), xo 41 (qm (tm 40)), ⟨(some 42), (some (41, true)), (qf 3 (tm 5))⟩, ⟨(some 43), (some (41, true)), (ql (tm 42))⟩, ⟨(some 44), (some (41, true)), (qb .eql (tm 43) (ci 0))⟩, xo 45 (.i (.pick (tm 41) (tm 44) (cb false))), xo 46 (qm (tm 45)), ⟨(some 47), (some (46, true)), (qf 4 (tm 5))⟩, ⟨(some 48), (some (46, true)), (ql (tm 47))⟩, ⟨(some 49), (some (46, true)), (qb .eql (tm 48) (ci 0))⟩, xo 50 (.i (.pick (tm 46) (tm 49) (cb false))), xo 6 (qm (tm 50))])
    .ret)
    (.seq (rg [xo 52 (qb .eql (tm 29) (ci 2)), xo 51 (qm (tm 52))])
    (.cond (tm 51)
      (.seq (rg [xo 53 (qm (tm 7)), xo 54 (qm (tm 53)), ⟨(some 55), (some (54, true)), (qf 2 (tm 5))⟩, ⟨(some 56), (some (54, true)), (ql (tm 55))⟩, ⟨(some 57), (some (54, true)), (qb .eql (tm 56) (ci 0))⟩, xo 58 (.i (.pick (tm 54) (tm 57) (cb false))), xo 59 (qm (tm 58)), ⟨(some 60), (some (59, true)), (qf 3 (tm 5))⟩, ⟨(some 61), (some (59, true)), (ql (tm 60))⟩, ⟨(some 62), (some (59, true)), (qb .eql (tm 61) (ci 0))⟩, xo 63 (.i (.pick (tm 59) (tm 62) (cb false))), xo 64 (qm (tm 63)), ⟨(some 65), (some (64, true)), (qf 4 (tm 5))⟩, ⟨(some 66), (some (64, true)), (ql (tm 65))⟩, ⟨(some 67), (some (64, true)), (qb .eql (tm 66) (ci 0))⟩, xo 68 (.i (.pick (tm 64) (tm 67) (cb false))), xo 6 (qm (tm 68))])
      .ret)
      (.seq (rg [xo 70 (qb .eql (tm 29) (ci 3)), xo 69 (qm (tm 70))])
      (.cond (tm 69)
        (.seq (rg [xo 71 (qm (tm 7)), xo 72 (qm (tm 71)), ⟨(some 73), (some (72, true)), (qm (tm 8))⟩, xo 74 (.i (.pick (tm 72) (tm 73) (cb false))), xo 75 (qm (tm 74)), ⟨(some 76), (some (75, true)), (qm (tm 9))⟩, xo 77 (.i (.pick (tm 75) (tm 76) (cb false))), xo 78 (qm (tm 77)), ⟨(some 79), (some (78, true)), (qf 4 (tm 5))⟩, ⟨(some 80), (some (78, true)), (ql (tm 79))⟩, ⟨(some 81), (some (78, true)), (qb .eql (tm 80) (ci 0))⟩, xo 82 (.i (.pick (tm 78) (tm 81) (cb false))), xo 6 (qm (tm 82))])
        .ret)
        (.seq (rg [xo 84 (qb .eql (tm 29) (ci 4)), xo 83 (qm (tm 84))])
        (.cond (tm 83)
          (.seq (rg [xo 85 (qm (tm 7)), xo 86 (qm (tm 85)), ⟨(some 87), (some (86, true)), (qm (tm 8))⟩, xo 88 (.i (.pick (tm 86) (tm 87) (cb false))), xo 89 (qm (tm 88)), ⟨(some 90), (some (89, true)), (qf 3 (tm 5))⟩, ⟨(some 91), (some (89, true)), (ql (tm 90))⟩, ⟨(some 92), (some (89, true)), (qb .eql (tm 91) (ci 0))⟩, xo 93 (.i (.pick (tm 89) (tm 92) (cb false))), xo 94 (qm (tm 93)), ⟨(some 95), (some (94, true)), (qf 4 (tm 5))⟩, ⟨(some 96), (some (94, true)), (ql (tm 95))⟩, ⟨(some 97), (some (94, true)), (qm (tm 0))⟩, ⟨(some 98), (some (94, true)), (qb .sub (tm 97) (ci 1))⟩, ⟨(some 99), (some (94, true)), (qc 37 [(tm 96), (ci 0), (tm 98)] [[], [], []])⟩, xo 100 (.i (.pick (tm 94) (tm 99) (cb false))), xo 6 (qm (tm 100))])
          .ret)
          (.seq (.seq (rg [xo 102 (qb .eql (tm 29) (ci 5)), xo 101 (qm (tm 102))])
          (.cond (tm 101)
            .skip
            (rg [xo 103 (qb .eql (tm 29) (ci 6)), xo 101 (qm (tm 103))])))
          (.cond (tm 101)
            (.seq (rg [xo 104 (qm (tm 7)), xo 105 (qm (tm 104)), ⟨(some 106), (some (105, true)), (qf 2 (tm 5))⟩, ⟨(some 107), (some (105, true)), (ql (tm 106))⟩, ⟨(some 108), (some (105, true)), (qf 2 (tm 4))⟩, ⟨(some 109), (some (105, true)), (ql (tm 108))⟩, ⟨(some 110), (some (105, true)), (qb .sub (tm 109) (ci 1))⟩, ⟨(some 111), (some (105, true)), (qc 37 [(tm 107), (ci 0), (tm 110)] [[], [], []])⟩, xo 112 (.i (.pick (tm 105) (tm 111) (cb false))), xo 113 (qm (tm 112)), ⟨(some 114), (some (113, true)), (qf 3 (tm 5))⟩, ⟨(some 115), (some (113, true)), (ql (tm 114))⟩, ⟨(some 116), (some (113, true)), (qb .eql (tm 115) (ci 0))⟩, xo 117 (.i (.pick (tm 113) (tm 116) (cb false))), xo 118 (qm (tm 117)), ⟨(some 119), (some (118, true)), (qf 4 (tm 5))⟩, ⟨(some 120), (some (118, true)), (ql (tm 119))⟩, ⟨(some 121), (some (118, true)), (qb .eql (tm 120) (ci 0))⟩, xo 122 (.i (.pick (tm 118) (tm 121) (cb false))), xo 6 (qm (tm 122))])
            .ret)
            (.seq (rg [xo 124 (qb .eql (tm 29) (ci 7)), xo 123 (qm (tm 124))])
            (.cond (tm 123)
              (.seq (rg [xo 125 (qm (tm 7)), xo 126 (qm (tm 125)), ⟨(some 127), (some (126, true)), (qf 2 (tm 5))⟩, ⟨(some 128), (some (126, true)), (ql (tm 127))⟩, ⟨(some 129), (some (126, true)), (qf 1 (tm 4))⟩, ⟨(some 130), (some (126, true)), (ql (tm 129))⟩, ⟨(some 131), (some (126, true)), (qb .sub (tm 130) (ci 1))⟩, ⟨(some 132), (some (126, true)), (qc 37 [(tm 128), (ci 0), (tm 131)] [[], [], []])⟩, xo 133 (.i (.pick (tm 126) (tm 132) (cb false))), xo 134 (qm (tm 133)), ⟨(some 135), (some (134, true)), (qf 3 (tm 5))⟩, ⟨(some 136), (some (134, true)), (ql (tm 135))⟩, ⟨(some 137), (some (134, true)), (qb .eql (tm 136) (ci 0))⟩, xo 138 (.i (.pick (tm 134) (tm 137) (cb false))), xo 139 (qm (tm 138)), ⟨(some 140), (some (139, true)), (qf 4 (tm 5))⟩, ⟨(some 141), (some (139, true)), (ql (tm 140))⟩, ⟨(some 142), (some (139, true)), (qb .eql (tm 141) (ci 0))⟩, xo 143 (.i (.pick (tm 139) (tm 142) (cb false))), xo 6 (qm (tm 143))])
              .ret)
              .skip))))))))))))))
  (.seq (rg [xo 6 (qm (cb false))])
  .ret))))
def r_spec_cmInstr : List Res := [.tmp 6]
theorem c_spec_cmInstr : compiled Tryd.prog Tryd.f56 = some (m_spec_cmInstr, r_spec_cmInstr) := by kernel_rfl
theorem hb_spec_cmInstr : hasBody Tryd.prog 56 = true := by kernel_rfl
def L_spec_cmInstr (a0 : Int) (a1_0 : Int) (a1_1 : Int) (a1_2 : Int) (a1_3 : Int) (a1_4 : List (Int × Int × Int × Int × Int)) (a2_0 : Int) (a2_1 : Int) (a2_2 : Int) (a2_3 : Int) (a2_4 : Int) : Option Bool :=
  Option.bind (L_spec_l1In a2_1 0 (IntKind.i64.wrap (a1_3 - 1))) fun y3 =>
Option.bind (L_spec_l1In a2_2 0 (IntKind.i64.wrap (a1_3 - 1))) fun y4 =>
Option.bind (L_spec_l1In a2_3 0 (IntKind.i64.wrap (a1_3 - 1))) fun y5 =>
cond (a2_0 == 1)
  (Option.bind (cond y3
      (Option.bind (L_spec_l1In a2_2 0 (IntKind.i64.wrap (a1_0 - 1))) fun y12 =>
      cond y12
        (cond (a2_3 == 0)
          (some (a2_4 == 0))
          (some false))
        (some false))
      (some false)) fun l10_m6 =>
  some l10_m6)
  (cond (a2_0 == 2)
    (Option.bind (cond y3
        (cond (a2_2 == 0)
          (cond (a2_3 == 0)
            (some (a2_4 == 0))
            (some false))
          (some false))
        (some false)) fun l17_m6 =>
    some l17_m6)
    (cond (a2_0 == 3)
      (Option.bind (cond y3
          (cond y4
            (cond y5
              (some (a2_4 == 0))
              (some false))
            (some false))
          (some false)) fun l23_m6 =>
      some l23_m6)
      (cond (a2_0 == 4)
        (Option.bind (cond y3
            (cond y4
              (cond (a2_3 == 0)
                (Option.bind (L_spec_l1In a2_4 0 (IntKind.i64.wrap (a0 - 1))) fun y33 =>
                some y33)
                (some false))
              (some false))
            (some false)) fun l29_m6 =>
        some l29_m6)
        (Option.bind (cond (a2_0 == 5)
            (some (a2_0 == 5))
            (some (a2_0 == 6))) fun l34_m101 =>
        cond l34_m101
          (Option.bind (cond y3
              (Option.bind (L_spec_l1In a2_2 0 (IntKind.i64.wrap (a1_2 - 1))) fun y40 =>
              cond y40
                (cond (a2_3 == 0)
                  (some (a2_4 == 0))
                  (some false))
                (some false))
              (some false)) fun l38_m6 =>
          some l38_m6)
          (cond (a2_0 == 7)
            (Option.bind (cond y3
                (Option.bind (L_spec_l1In a2_2 0 (IntKind.i64.wrap (a1_1 - 1))) fun y47 =>
                cond y47
                  (cond (a2_3 == 0)
                    (some (a2_4 == 0))
                    (some false))
                  (some false))
                (some false)) fun l45_m6 =>
            some l45_m6)
            (some false))))))
def rv_spec_cmInstr (r : Bool) : RV := ⟨false, [(false, [.sc (.bool r)])]⟩
theorem ok_spec_cmInstr {a0 : Int} {a1_0 : Int} {a1_1 : Int} {a1_2 : Int} {a1_3 : Int} {a1_4 : List (Int × Int × Int × Int × Int)} {a2_0 : Int} {a2_1 : Int} {a2_2 : Int} {a2_3 : Int} {a2_4 : Int} {r : Bool} (h : L_spec_cmInstr a0 a1_0 a1_1 a1_2 a1_3 a1_4 a2_0 a2_1 a2_2 a2_3 a2_4 = some r) : CallOK Tryd.prog Tab 56 [(ai a0), (.agg [(ai a1_0), (ai a1_1), (ai a1_2), (ai a1_3), (.tree (.pair .int (.pair .int (.pair .int (.pair .int .int)))) a1_4)]), (.agg [(ai a2_0), (ai a2_1), (ai a2_2), (ai a2_3), (ai a2_4)])] (rv_spec_cmInstr r) := by
  refine call_of_ (by kernel_rfl) Tryd.func56 c_spec_cmInstr (n := 144) (by kernel_rfl) (by simp) (tl := [(0, (ai a0)), (1, (.agg [(ai a1_0), (ai a1_1), (ai a1_2), (ai a1_3), (.tree (.pair .int (.pair .int (.pair .int (.pair .int .int)))) a1_4)])), (2, (.agg [(ai a2_0), (ai a2_1), (ai a2_2), (ai a2_3), (ai a2_4)]))]) rfl ?_
  unfold m_spec_cmInstr
  unfold L_spec_cmInstr at h
  refine seqR ?_
  refine awp_seqv_ ?_
  obtain ⟨y3, h3, h⟩ := ob_some h
  obtain ⟨y4, h4, h⟩ := ob_some h
  obtain ⟨y5, h5, h⟩ := ob_some h
  refine awp_regionD_ 25 ?_
  refine ds0 (.box (oi 5 2) 1) (by kernel_rfl) ?_
  refine dsl (ai a2_1) (by kernel_rfl) ?_
  refine ds0 (.box (oi 4 1) 3) (by kernel_rfl) ?_
  refine dsl (ai a1_3) (by kernel_rfl) ?_
  refine ds0 (ai (IntKind.i64.wrap (a1_3 - 1))) (by kernel_rfl) ?_
  refine dcall (.bool y3) [] [(ai a2_1), (ai 0), (ai (IntKind.i64.wrap (a1_3 - 1)))] _ (caps := []) (args0 := [(ai a2_1), (ai 0), (ai (IntKind.i64.wrap (a1_3 - 1)))]) trivial (by kernel_rfl) (ok_spec_l1In h3) hb_spec_l1In ?_
  refine ds0 (.box (oi 5 2) 2) (by kernel_rfl) ?_
  refine dsl (ai a2_2) (by kernel_rfl) ?_
  refine ds0 (.box (oi 4 1) 3) (by kernel_rfl) ?_
  refine dsl (ai a1_3) (by kernel_rfl) ?_
  refine ds0 (ai (IntKind.i64.wrap (a1_3 - 1))) (by kernel_rfl) ?_
  refine dcall (.bool y4) [] [(ai a2_2), (ai 0), (ai (IntKind.i64.wrap (a1_3 - 1)))] _ (caps := []) (args0 := [(ai a2_2), (ai 0), (ai (IntKind.i64.wrap (a1_3 - 1)))]) trivial (by kernel_rfl) (ok_spec_l1In h4) hb_spec_l1In ?_
  refine ds0 (.box (oi 5 2) 3) (by kernel_rfl) ?_
  refine dsl (ai a2_3) (by kernel_rfl) ?_
  refine ds0 (.box (oi 4 1) 3) (by kernel_rfl) ?_
  refine dsl (ai a1_3) (by kernel_rfl) ?_
  refine ds0 (ai (IntKind.i64.wrap (a1_3 - 1))) (by kernel_rfl) ?_
  refine dcall (.bool y5) [] [(ai a2_3), (ai 0), (ai (IntKind.i64.wrap (a1_3 - 1)))] _ (caps := []) (args0 := [(ai a2_3), (ai 0), (ai (IntKind.i64.wrap (a1_3 - 1)))]) trivial (by kernel_rfl) (ok_spec_l1In h5) hb_spec_l1In ?_
  refine ds0 (.bool y3) (by kernel_rfl) ?_
  refine ds0 (.bool y4) (by kernel_rfl) ?_
  refine ds0 (.bool y5) (by kernel_rfl) ?_
  refine dnil (badB_spec (by kernel_rfl)) (tn_ ?_)
  refine ⟨_, Weak.refl _, ?_⟩
  refine awp_seqv_ ?_
  refine seqR ?_
  refine awp_block_ ?_
  refine seqR ?_
  rcases cond_some h with ⟨q9, h⟩ | ⟨q9, h⟩
  · refine awp_condT_ q9 ?_
    refine awp_seqB h (fun (l10_m6 : Bool) S_ => S_ = ⟨mkTm [(6, (.bool l10_m6))], mkOb (someL []), 2⟩) ?_ ?_
    · intro v_ h
      rcases cond_some h with ⟨q11, h⟩ | ⟨q11, h⟩
      · obtain ⟨y12, h12, h⟩ := ob_some h
        rcases cond_some h with ⟨q13, h⟩ | ⟨q13, h⟩
        · rcases cond_some h with ⟨q14, h⟩ | ⟨q14, h⟩
          · refine awp_region_ 49 ?_
            refine rs0 (.bool y3) (by kernel_rfl) ?_
            refine rs0 (.bool y3) (by kernel_rfl) ?_
            refine rs0 (.box (oi 5 2) 2) (s_gd (by kernel_rfl) q11 (by kernel_rfl)) ?_
            refine rsl (ai a2_2) (s_gd (by kernel_rfl) q11 (by kernel_rfl)) ?_
            refine rs0 (.box (oi 4 1) 0) (s_gd (by kernel_rfl) q11 (by kernel_rfl)) ?_
            refine rsl (ai a1_0) (s_gd (by kernel_rfl) q11 (by kernel_rfl)) ?_
            refine rs0 (ai (IntKind.i64.wrap (a1_0 - 1))) (s_gd (by kernel_rfl) q11 (by kernel_rfl)) ?_
            refine rcall (.bool y12) [] [(ai a2_2), (ai 0), (ai (IntKind.i64.wrap (a1_0 - 1)))] _ (caps := []) (args0 := [(ai a2_2), (ai 0), (ai (IntKind.i64.wrap (a1_0 - 1)))]) (gdOK_b (by kernel_rfl) q11) (by kernel_rfl) (ok_spec_l1In h12) hb_spec_l1In ?_
            refine rs0 (.bool y12) (s_pickT (by kernel_rfl) q11) ?_
            refine rs0 (.bool y12) (by kernel_rfl) ?_
            refine rs0 (.box (oi 5 2) 3) (s_gd (by kernel_rfl) q13 (by kernel_rfl)) ?_
            refine rsl (ai a2_3) (s_gd (by kernel_rfl) q13 (by kernel_rfl)) ?_
            refine rs0 (.bool (a2_3 == 0)) (s_gd (by kernel_rfl) q13 (by kernel_rfl)) ?_
            refine rs0 (.bool (a2_3 == 0)) (s_pickT (by kernel_rfl) q13) ?_
            refine rs0 (.bool (a2_3 == 0)) (by kernel_rfl) ?_
            refine rs0 (.box (oi 5 2) 4) (s_gd (by kernel_rfl) q14 (by kernel_rfl)) ?_
            refine rsl (ai a2_4) (s_gd (by kernel_rfl) q14 (by kernel_rfl)) ?_
            refine rs0 (.bool (a2_4 == 0)) (s_gd (by kernel_rfl) q14 (by kernel_rfl)) ?_
            refine rs0 (.bool (a2_4 == 0)) (s_pickT (by kernel_rfl) q14) ?_
            refine rsB 1 ?_
            refine rnil (tn_ ?_)
            obtain rfl := Option.some.inj h
            exact ⟨_, (weak_ren []), rfl⟩
          refine awp_region_ 49 ?_
          refine rs0 (.bool y3) (by kernel_rfl) ?_
          refine rs0 (.bool y3) (by kernel_rfl) ?_
          refine rs0 (.box (oi 5 2) 2) (s_gd (by kernel_rfl) q11 (by kernel_rfl)) ?_
          refine rsl (ai a2_2) (s_gd (by kernel_rfl) q11 (by kernel_rfl)) ?_
          refine rs0 (.box (oi 4 1) 0) (s_gd (by kernel_rfl) q11 (by kernel_rfl)) ?_
          refine rsl (ai a1_0) (s_gd (by kernel_rfl) q11 (by kernel_rfl)) ?_
          refine rs0 (ai (IntKind.i64.wrap (a1_0 - 1))) (s_gd (by kernel_rfl) q11 (by kernel_rfl)) ?_
          refine rcall (.bool y12) [] [(ai a2_2), (ai 0), (ai (IntKind.i64.wrap (a1_0 - 1)))] _ (caps := []) (args0 := [(ai a2_2), (ai 0), (ai (IntKind.i64.wrap (a1_0 - 1)))]) (gdOK_b (by kernel_rfl) q11) (by kernel_rfl) (ok_spec_l1In h12) hb_spec_l1In ?_
          refine rs0 (.bool y12) (s_pickT (by kernel_rfl) q11) ?_
          refine rs0 (.bool y12) (by kernel_rfl) ?_
          refine rs0 (.box (oi 5 2) 3) (s_gd (by kernel_rfl) q13 (by kernel_rfl)) ?_
          refine rsl (ai a2_3) (s_gd (by kernel_rfl) q13 (by kernel_rfl)) ?_
          refine rs0 (.bool (a2_3 == 0)) (s_gd (by kernel_rfl) q13 (by kernel_rfl)) ?_
          refine rs0 (.bool (a2_3 == 0)) (s_pickT (by kernel_rfl) q13) ?_
          refine rs0 (.bool (a2_3 == 0)) (by kernel_rfl) ?_
          refine rs0 (.tup []) (s_skip (by kernel_rfl) q14) ?_
          refine rs0 (.tup []) (s_skip (by kernel_rfl) q14) ?_
          refine rs0 (.tup []) (s_skip (by kernel_rfl) q14) ?_
          refine rs0 (.bool false) (s_pickF (by kernel_rfl) q14) ?_
          refine rsB 1 ?_
          refine rnil (tn_ ?_)
          obtain rfl := Option.some.inj h
          exact ⟨_, (weak_ren []), rfl⟩
        refine awp_region_ 49 ?_
        refine rs0 (.bool y3) (by kernel_rfl) ?_
        refine rs0 (.bool y3) (by kernel_rfl) ?_
        refine rs0 (.box (oi 5 2) 2) (s_gd (by kernel_rfl) q11 (by kernel_rfl)) ?_
        refine rsl (ai a2_2) (s_gd (by kernel_rfl) q11 (by kernel_rfl)) ?_
        refine rs0 (.box (oi 4 1) 0) (s_gd (by kernel_rfl) q11 (by kernel_rfl)) ?_
        refine rsl (ai a1_0) (s_gd (by kernel_rfl) q11 (by kernel_rfl)) ?_
        refine rs0 (ai (IntKind.i64.wrap (a1_0 - 1))) (s_gd (by kernel_rfl) q11 (by kernel_rfl)) ?_
        refine rcall (.bool y12) [] [(ai a2_2), (ai 0), (ai (IntKind.i64.wrap (a1_0 - 1)))] _ (caps := []) (args0 := [(ai a2_2), (ai 0), (ai (IntKind.i64.wrap (a1_0 - 1)))]) (gdOK_b (by kernel_rfl) q11) (by kernel_rfl) (ok_spec_l1In h12) hb_spec_l1In ?_
        refine rs0 (.bool y12) (s_pickT (by kernel_rfl) q11) ?_
        refine rs0 (.bool y12) (by kernel_rfl) ?_
        refine rs0 (.tup []) (s_skip (by kernel_rfl) q13) ?_
        refine rs0 (.tup []) (s_skip (by kernel_rfl) q13) ?_
        refine rs0 (.tup []) (s_skip (by kernel_rfl) q13) ?_
        refine rs0 (.bool false) (s_pickF (by kernel_rfl) q13) ?_
        refine rsB 6 ?_
        refine rnil (tn_ ?_)
        obtain rfl := Option.some.inj h
        exact ⟨_, (weak_ren []), rfl⟩
      refine awp_region_ 49 ?_
      refine rs0 (.bool y3) (by kernel_rfl) ?_
      refine rs0 (.bool y3) (by kernel_rfl) ?_
      refine rs0 (.tup []) (s_skip (by kernel_rfl) q11) ?_
      refine rs0 (.tup []) (s_skip (by kernel_rfl) q11) ?_
      refine rs0 (.tup []) (s_skip (by kernel_rfl) q11) ?_
      refine rs0 (.tup []) (s_skip (by kernel_rfl) q11) ?_
      refine rs0 (.tup []) (s_skip (by kernel_rfl) q11) ?_
      refine rs0 (.tup []) (s_skip (by kernel_rfl) q11) ?_
      refine rs0 (.bool false) (s_pickF (by kernel_rfl) q11) ?_
      refine rsB 11 ?_
      refine rnil (tn_ ?_)
      obtain rfl := Option.some.inj h
      exact ⟨_, (weak_ren []), rfl⟩
    rintro l10_m6 _ rfl h
    (try dsimp only at h)
    refine awp_ret_ (br_ (tr_ ?_))
    obtain rfl := Option.some.inj h
    exact ret_ [(.bool l10_m6)] (p_one rfl (l_sc (by kernel_rfl)) p_nil)
  refine awp_condF_ q9 ?_
  refine seqR ?_
  rcases cond_some h with ⟨q16, h⟩ | ⟨q16, h⟩
  · refine awp_condT_ q16 ?_
    refine awp_seqB h (fun (l17_m6 : Bool) S_ => S_ = ⟨mkTm [(6, (.bool l17_m6))], mkOb (someL []), 2⟩) ?_ ?_
    · intro v_ h
      rcases cond_some h with ⟨q18, h⟩ | ⟨q18, h⟩
      · rcases cond_some h with ⟨q19, h⟩ | ⟨q19, h⟩
        · rcases cond_some h with ⟨q20, h⟩ | ⟨q20, h⟩
          · refine awp_region_ 48 ?_
            refine rs0 (.bool y3) (by kernel_rfl) ?_
            refine rs0 (.bool y3) (by kernel_rfl) ?_
            refine rs0 (.box (oi 5 2) 2) (s_gd (by kernel_rfl) q18 (by kernel_rfl)) ?_
            refine rsl (ai a2_2) (s_gd (by kernel_rfl) q18 (by kernel_rfl)) ?_
            refine rs0 (.bool (a2_2 == 0)) (s_gd (by kernel_rfl) q18 (by kernel_rfl)) ?_
            refine rs0 (.bool (a2_2 == 0)) (s_pickT (by kernel_rfl) q18) ?_
            refine rs0 (.bool (a2_2 == 0)) (by kernel_rfl) ?_
            refine rs0 (.box (oi 5 2) 3) (s_gd (by kernel_rfl) q19 (by kernel_rfl)) ?_
            refine rsl (ai a2_3) (s_gd (by kernel_rfl) q19 (by kernel_rfl)) ?_
            refine rs0 (.bool (a2_3 == 0)) (s_gd (by kernel_rfl) q19 (by kernel_rfl)) ?_
            refine rs0 (.bool (a2_3 == 0)) (s_pickT (by kernel_rfl) q19) ?_
            refine rs0 (.bool (a2_3 == 0)) (by kernel_rfl) ?_
            refine rs0 (.box (oi 5 2) 4) (s_gd (by kernel_rfl) q20 (by kernel_rfl)) ?_
            refine rsl (ai a2_4) (s_gd (by kernel_rfl) q20 (by kernel_rfl)) ?_
            refine rs0 (.bool (a2_4 == 0)) (s_gd (by kernel_rfl) q20 (by kernel_rfl)) ?_
            refine rs0 (.bool (a2_4 == 0)) (s_pickT (by kernel_rfl) q20) ?_
            refine rsB 1 ?_
            refine rnil (tn_ ?_)
            obtain rfl := Option.some.inj h
            exact ⟨_, (weak_ren []), rfl⟩
          refine awp_region_ 48 ?_
          refine rs0 (.bool y3) (by kernel_rfl) ?_
          refine rs0 (.bool y3) (by kernel_rfl) ?_
          refine rs0 (.box (oi 5 2) 2) (s_gd (by kernel_rfl) q18 (by kernel_rfl)) ?_
          refine rsl (ai a2_2) (s_gd (by kernel_rfl) q18 (by kernel_rfl)) ?_
          refine rs0 (.bool (a2_2 == 0)) (s_gd (by kernel_rfl) q18 (by kernel_rfl)) ?_
          refine rs0 (.bool (a2_2 == 0)) (s_pickT (by kernel_rfl) q18) ?_
          refine rs0 (.bool (a2_2 == 0)) (by kernel_rfl) ?_
          refine rs0 (.box (oi 5 2) 3) (s_gd (by kernel_rfl) q19 (by kernel_rfl)) ?_
          refine rsl (ai a2_3) (s_gd (by kernel_rfl) q19 (by kernel_rfl)) ?_
          refine rs0 (.bool (a2_3 == 0)) (s_gd (by kernel_rfl) q19 (by kernel_rfl)) ?_
          refine rs0 (.bool (a2_3 == 0)) (s_pickT (by kernel_rfl) q19) ?_
          refine rs0 (.bool (a2_3 == 0)) (by kernel_rfl) ?_
          refine rs0 (.tup []) (s_skip (by kernel_rfl) q20) ?_
          refine rs0 (.tup []) (s_skip (by kernel_rfl) q20) ?_
          refine rs0 (.tup []) (s_skip (by kernel_rfl) q20) ?_
          refine rs0 (.bool false) (s_pickF (by kernel_rfl) q20) ?_
          refine rsB 1 ?_
          refine rnil (tn_ ?_)
          obtain rfl := Option.some.inj h
          exact ⟨_, (weak_ren []), rfl⟩
        refine awp_region_ 48 ?_
        refine rs0 (.bool y3) (by kernel_rfl) ?_
        refine rs0 (.bool y3) (by kernel_rfl) ?_
        refine rs0 (.box (oi 5 2) 2) (s_gd (by kernel_rfl) q18 (by kernel_rfl)) ?_
        refine rsl (ai a2_2) (s_gd (by kernel_rfl) q18 (by kernel_rfl)) ?_
        refine rs0 (.bool (a2_2 == 0)) (s_gd (by kernel_rfl) q18 (by kernel_rfl)) ?_
        refine rs0 (.bool (a2_2 == 0)) (s_pickT (by kernel_rfl) q18) ?_
        refine rs0 (.bool (a2_2 == 0)) (by kernel_rfl) ?_
        refine rs0 (.tup []) (s_skip (by kernel_rfl) q19) ?_
        refine rs0 (.tup []) (s_skip (by kernel_rfl) q19) ?_
        refine rs0 (.tup []) (s_skip (by kernel_rfl) q19) ?_
        refine rs0 (.bool false) (s_pickF (by kernel_rfl) q19) ?_
        refine rsB 6 ?_
        refine rnil (tn_ ?_)
        obtain rfl := Option.some.inj h
        exact ⟨_, (weak_ren []), rfl⟩
      refine awp_region_ 48 ?_
      refine rs0 (.bool y3) (by kernel_rfl) ?_
      refine rs0 (.bool y3) (by kernel_rfl) ?_
      refine rs0 (.tup []) (s_skip (by kernel_rfl) q18) ?_
      refine rs0 (.tup []) (s_skip (by kernel_rfl) q18) ?_
      refine rs0 (.tup []) (s_skip (by kernel_rfl) q18) ?_
      refine rs0 (.bool false) (s_pickF (by kernel_rfl) q18) ?_
      refine rsB 11 ?_
      refine rnil (tn_ ?_)
      obtain rfl := Option.some.inj h
      exact ⟨_, (weak_ren []), rfl⟩
    rintro l17_m6 _ rfl h
    (try dsimp only at h)
    refine awp_ret_ (br_ (tr_ ?_))
    obtain rfl := Option.some.inj h
    exact ret_ [(.bool l17_m6)] (p_one rfl (l_sc (by kernel_rfl)) p_nil)
  refine awp_condF_ q16 ?_
  refine seqR ?_
  rcases cond_some h with ⟨q22, h⟩ | ⟨q22, h⟩
  · refine awp_condT_ q22 ?_
    refine awp_seqB h (fun (l23_m6 : Bool) S_ => S_ = ⟨mkTm [(6, (.bool l23_m6))], mkOb (someL []), 2⟩) ?_ ?_
    · intro v_ h
      rcases cond_some h with ⟨q24, h⟩ | ⟨q24, h⟩
      · rcases cond_some h with ⟨q25, h⟩ | ⟨q25, h⟩
        · rcases cond_some h with ⟨q26, h⟩ | ⟨q26, h⟩
          · refine awp_region_ 46 ?_
            refine rs0 (.bool y3) (by kernel_rfl) ?_
            refine rs0 (.bool y3) (by kernel_rfl) ?_
            refine rs0 (.bool y4) (s_gd (by kernel_rfl) q24 (by kernel_rfl)) ?_
            refine rs0 (.bool y4) (s_pickT (by kernel_rfl) q24) ?_
            refine rs0 (.bool y4) (by kernel_rfl) ?_
            refine rs0 (.bool y5) (s_gd (by kernel_rfl) q25 (by kernel_rfl)) ?_
            refine rs0 (.bool y5) (s_pickT (by kernel_rfl) q25) ?_
            refine rs0 (.bool y5) (by kernel_rfl) ?_
            refine rs0 (.box (oi 5 2) 4) (s_gd (by kernel_rfl) q26 (by kernel_rfl)) ?_
            refine rsl (ai a2_4) (s_gd (by kernel_rfl) q26 (by kernel_rfl)) ?_
            refine rs0 (.bool (a2_4 == 0)) (s_gd (by kernel_rfl) q26 (by kernel_rfl)) ?_
            refine rs0 (.bool (a2_4 == 0)) (s_pickT (by kernel_rfl) q26) ?_
            refine rsB 1 ?_
            refine rnil (tn_ ?_)
            obtain rfl := Option.some.inj h
            exact ⟨_, (weak_ren []), rfl⟩
          refine awp_region_ 46 ?_
          refine rs0 (.bool y3) (by kernel_rfl) ?_
          refine rs0 (.bool y3) (by kernel_rfl) ?_
          refine rs0 (.bool y4) (s_gd (by kernel_rfl) q24 (by kernel_rfl)) ?_
          refine rs0 (.bool y4) (s_pickT (by kernel_rfl) q24) ?_
          refine rs0 (.bool y4) (by kernel_rfl) ?_
          refine rs0 (.bool y5) (s_gd (by kernel_rfl) q25 (by kernel_rfl)) ?_
          refine rs0 (.bool y5) (s_pickT (by kernel_rfl) q25) ?_
          refine rs0 (.bool y5) (by kernel_rfl) ?_
          refine rs0 (.tup []) (s_skip (by kernel_rfl) q26) ?_
          refine rs0 (.tup []) (s_skip (by kernel_rfl) q26) ?_
          refine rs0 (.tup []) (s_skip (by kernel_rfl) q26) ?_
          refine rs0 (.bool false) (s_pickF (by kernel_rfl) q26) ?_
          refine rsB 1 ?_
          refine rnil (tn_ ?_)
          obtain rfl := Option.some.inj h
          exact ⟨_, (weak_ren []), rfl⟩
        refine awp_region_ 46 ?_
        refine rs0 (.bool y3) (by kernel_rfl) ?_
        refine rs0 (.bool y3) (by kernel_rfl) ?_
        refine rs0 (.bool y4) (s_gd (by kernel_rfl) q24 (by kernel_rfl)) ?_
        refine rs0 (.bool y4) (s_pickT (by kernel_rfl) q24) ?_
        refine rs0 (.bool y4) (by kernel_rfl) ?_
        refine rs0 (.tup []) (s_skip (by kernel_rfl) q25) ?_
        refine rs0 (.bool false) (s_pickF (by kernel_rfl) q25) ?_
        refine rsB 6 ?_
        refine rnil (tn_ ?_)
        obtain rfl := Option.some.inj h
        exact ⟨_, (weak_ren []), rfl⟩
      refine awp_region_ 46 ?_
      refine rs0 (.bool y3) (by kernel_rfl) ?_
      refine rs0 (.bool y3) (by kernel_rfl) ?_
      refine rs0 (.tup []) (s_skip (by kernel_rfl) q24) ?_
      refine rs0 (.bool false) (s_pickF (by kernel_rfl) q24) ?_
      refine rsB 9 ?_
      refine rnil (tn_ ?_)
      obtain rfl := Option.some.inj h
      exact ⟨_, (weak_ren []), rfl⟩
    rintro l23_m6 _ rfl h
    (try dsimp only at h)
    refine awp_ret_ (br_ (tr_ ?_))
    obtain rfl := Option.some.inj h
    exact ret_ [(.bool l23_m6)] (p_one rfl (l_sc (by kernel_rfl)) p_nil)
  refine awp_condF_ q22 ?_
  refine seqR ?_
  rcases cond_some h with ⟨q28, h⟩ | ⟨q28, h⟩
  · refine awp_condT_ q28 ?_
    refine awp_seqB h (fun (l29_m6 : Bool) S_ => S_ = ⟨mkTm [(6, (.bool l29_m6))], mkOb (someL []), 2⟩) ?_ ?_
    · intro v_ h
      rcases cond_some h with ⟨q30, h⟩ | ⟨q30, h⟩
      · rcases cond_some h with ⟨q31, h⟩ | ⟨q31, h⟩
        · rcases cond_some h with ⟨q32, h⟩ | ⟨q32, h⟩
          · obtain ⟨y33, h33, h⟩ := ob_some h
            refine awp_region_ 52 ?_
            refine rs0 (.bool y3) (by kernel_rfl) ?_
            refine rs0 (.bool y3) (by kernel_rfl) ?_
            refine rs0 (.bool y4) (s_gd (by kernel_rfl) q30 (by kernel_rfl)) ?_
            refine rs0 (.bool y4) (s_pickT (by kernel_rfl) q30) ?_
            refine rs0 (.bool y4) (by kernel_rfl) ?_
            refine rs0 (.box (oi 5 2) 3) (s_gd (by kernel_rfl) q31 (by kernel_rfl)) ?_
            refine rsl (ai a2_3) (s_gd (by kernel_rfl) q31 (by kernel_rfl)) ?_
            refine rs0 (.bool (a2_3 == 0)) (s_gd (by kernel_rfl) q31 (by kernel_rfl)) ?_
            refine rs0 (.bool (a2_3 == 0)) (s_pickT (by kernel_rfl) q31) ?_
            refine rs0 (.bool (a2_3 == 0)) (by kernel_rfl) ?_
            refine rs0 (.box (oi 5 2) 4) (s_gd (by kernel_rfl) q32 (by kernel_rfl)) ?_
            refine rsl (ai a2_4) (s_gd (by kernel_rfl) q32 (by kernel_rfl)) ?_
            refine rs0 (ai a0) (s_gd (by kernel_rfl) q32 (by kernel_rfl)) ?_
            refine rs0 (ai (IntKind.i64.wrap (a0 - 1))) (s_gd (by kernel_rfl) q32 (by kernel_rfl)) ?_
            refine rcall (.bool y33) [] [(ai a2_4), (ai 0), (ai (IntKind.i64.wrap (a0 - 1)))] _ (caps := []) (args0 := [(ai a2_4), (ai 0), (ai (IntKind.i64.wrap (a0 - 1)))]) (gdOK_b (by kernel_rfl) q32) (by kernel_rfl) (ok_spec_l1In h33) hb_spec_l1In ?_
            refine rs0 (.bool y33) (s_pickT (by kernel_rfl) q32) ?_
            refine rsB 1 ?_
            refine rnil (tn_ ?_)
            obtain rfl := Option.some.inj h
            exact ⟨_, (weak_ren []), rfl⟩
          refine awp_region_ 52 ?_
          refine rs0 (.bool y3) (by kernel_rfl) ?_
          refine rs0 (.bool y3) (by kernel_rfl) ?_
          refine rs0 (.bool y4) (s_gd (by kernel_rfl) q30 (by kernel_rfl)) ?_
          refine rs0 (.bool y4) (s_pickT (by kernel_rfl) q30) ?_
          refine rs0 (.bool y4) (by kernel_rfl) ?_
          refine rs0 (.box (oi 5 2) 3) (s_gd (by kernel_rfl) q31 (by kernel_rfl)) ?_
          refine rsl (ai a2_3) (s_gd (by kernel_rfl) q31 (by kernel_rfl)) ?_
          refine rs0 (.bool (a2_3 == 0)) (s_gd (by kernel_rfl) q31 (by kernel_rfl)) ?_
          refine rs0 (.bool (a2_3 == 0)) (s_pickT (by kernel_rfl) q31) ?_
          refine rs0 (.bool (a2_3 == 0)) (by kernel_rfl) ?_
          refine rs0 (.tup []) (s_skip (by kernel_rfl) q32) ?_
          refine rs0 (.tup []) (s_skip (by kernel_rfl) q32) ?_
          refine rs0 (.tup []) (s_skip (by kernel_rfl) q32) ?_
          refine rs0 (.tup []) (s_skip (by kernel_rfl) q32) ?_
          refine rs0 (.tup []) (s_skip (by kernel_rfl) q32) ?_
          refine rs0 (.bool false) (s_pickF (by kernel_rfl) q32) ?_
          refine rsB 1 ?_
          refine rnil (tn_ ?_)
          obtain rfl := Option.some.inj h
          exact ⟨_, (weak_ren []), rfl⟩
        refine awp_region_ 52 ?_
        refine rs0 (.bool y3) (by kernel_rfl) ?_
        refine rs0 (.bool y3) (by kernel_rfl) ?_
        refine rs0 (.bool y4) (s_gd (by kernel_rfl) q30 (by kernel_rfl)) ?_
        refine rs0 (.bool y4) (s_pickT (by kernel_rfl) q30) ?_
        refine rs0 (.bool y4) (by kernel_rfl) ?_
        refine rs0 (.tup []) (s_skip (by kernel_rfl) q31) ?_
        refine rs0 (.tup []) (s_skip (by kernel_rfl) q31) ?_
        refine rs0 (.tup []) (s_skip (by kernel_rfl) q31) ?_
        refine rs0 (.bool false) (s_pickF (by kernel_rfl) q31) ?_
        refine rsB 8 ?_
        refine rnil (tn_ ?_)
        obtain rfl := Option.some.inj h
        exact ⟨_, (weak_ren []), rfl⟩
      refine awp_region_ 52 ?_
      refine rs0 (.bool y3) (by kernel_rfl) ?_
      refine rs0 (.bool y3) (by kernel_rfl) ?_
      refine rs0 (.tup []) (s_skip (by kernel_rfl) q30) ?_
      refine rs0 (.bool false) (s_pickF (by kernel_rfl) q30) ?_
      refine rsB 13 ?_
      refine rnil (tn_ ?_)
      obtain rfl := Option.some.inj h
      exact ⟨_, (weak_ren []), rfl⟩
    rintro l29_m6 _ rfl h
    (try dsimp only at h)
    refine awp_ret_ (br_ (tr_ ?_))
    obtain rfl := Option.some.inj h
    exact ret_ [(.bool l29_m6)] (p_one rfl (l_sc (by kernel_rfl)) p_nil)
  refine awp_condF_ q28 ?_
  refine awp_seqB h (fun (l34_m101 : Bool) S_ => S_ = ⟨mkTm [(4, (.box (oi 0 1) 0)), (5, (.box (oi 1 1) 0)), (7, (.bool y3)), (29, (ai a2_0)), (101, (.bool l34_m101))], mkOb (someL [((oi 0 1), .cells 29 [(ai a1_0), (ai a1_1), (ai a1_2), (ai a1_3), (.tree (.pair .int (.pair .int (.pair .int (.pair .int .int)))) a1_4)]), ((oi 1 1), .cells 69 [(ai a2_0), (ai a2_1), (ai a2_2), (ai a2_3), (ai a2_4)])]), 2⟩) ?_ ?_
  · intro v_ h
    refine seqR ?_
    rcases cond_some h with ⟨q36, h⟩ | ⟨q36, h⟩
    · refine awp_condT_ q36 ?_
      refine awp_skip_ (tn_ ?_)
      obtain rfl := Option.some.inj h
      exact ⟨_, (weak_ren [((oi 0 1), (oi 4 1)), ((oi 1 1), (oi 5 2))]), rfl⟩
    refine awp_condF_ q36 ?_
    refine awp_region_ 39 ?_
    refine rsB 2 ?_
    refine rnil (tn_ ?_)
    obtain rfl := Option.some.inj h
    exact ⟨_, (weak_ren [((oi 0 1), (oi 4 1)), ((oi 1 1), (oi 5 2))]), rfl⟩
  rintro l34_m101 _ rfl h
  (try dsimp only at h)
  rcases cond_some h with ⟨q37, h⟩ | ⟨q37, h⟩
  · refine awp_condT_ q37 ?_
    refine awp_seqB h (fun (l38_m6 : Bool) S_ => S_ = ⟨mkTm [(6, (.bool l38_m6))], mkOb (someL []), 2⟩) ?_ ?_
    · intro v_ h
      rcases cond_some h with ⟨q39, h⟩ | ⟨q39, h⟩
      · obtain ⟨y40, h40, h⟩ := ob_some h
        rcases cond_some h with ⟨q41, h⟩ | ⟨q41, h⟩
        · rcases cond_some h with ⟨q42, h⟩ | ⟨q42, h⟩
          · refine awp_region_ 22 ?_
            refine rs0 (.bool y3) (by kernel_rfl) ?_
            refine rs0 (.bool y3) (by kernel_rfl) ?_
            refine rs0 (.box (oi 1 1) 2) (s_gd (by kernel_rfl) q39 (by kernel_rfl)) ?_
            refine rsl (ai a2_2) (s_gd (by kernel_rfl) q39 (by kernel_rfl)) ?_
            refine rs0 (.box (oi 0 1) 2) (s_gd (by kernel_rfl) q39 (by kernel_rfl)) ?_
            refine rsl (ai a1_2) (s_gd (by kernel_rfl) q39 (by kernel_rfl)) ?_
            refine rs0 (ai (IntKind.i64.wrap (a1_2 - 1))) (s_gd (by kernel_rfl) q39 (by kernel_rfl)) ?_
            refine rcall (.bool y40) [] [(ai a2_2), (ai 0), (ai (IntKind.i64.wrap (a1_2 - 1)))] _ (caps := []) (args0 := [(ai a2_2), (ai 0), (ai (IntKind.i64.wrap (a1_2 - 1)))]) (gdOK_b (by kernel_rfl) q39) (by kernel_rfl) (ok_spec_l1In h40) hb_spec_l1In ?_
            refine rs0 (.bool y40) (s_pickT (by kernel_rfl) q39) ?_
            refine rs0 (.bool y40) (by kernel_rfl) ?_
            refine rs0 (.box (oi 1 1) 3) (s_gd (by kernel_rfl) q41 (by kernel_rfl)) ?_
            refine rsl (ai a2_3) (s_gd (by kernel_rfl) q41 (by kernel_rfl)) ?_
            refine rs0 (.bool (a2_3 == 0)) (s_gd (by kernel_rfl) q41 (by kernel_rfl)) ?_
            refine rs0 (.bool (a2_3 == 0)) (s_pickT (by kernel_rfl) q41) ?_
            refine rs0 (.bool (a2_3 == 0)) (by kernel_rfl) ?_
            refine rs0 (.box (oi 1 1) 4) (s_gd (by kernel_rfl) q42 (by kernel_rfl)) ?_
            refine rsl (ai a2_4) (s_gd (by kernel_rfl) q42 (by kernel_rfl)) ?_
            refine rs0 (.bool (a2_4 == 0)) (s_gd (by kernel_rfl) q42 (by kernel_rfl)) ?_
            refine rs0 (.bool (a2_4 == 0)) (s_pickT (by kernel_rfl) q42) ?_
            refine rsB 1 ?_
            refine rnil (tn_ ?_)
            obtain rfl := Option.some.inj h
            exact ⟨_, (weak_ren []), rfl⟩
          refine awp_region_ 22 ?_
          refine rs0 (.bool y3) (by kernel_rfl) ?_
          refine rs0 (.bool y3) (by kernel_rfl) ?_
          refine rs0 (.box (oi 1 1) 2) (s_gd (by kernel_rfl) q39 (by kernel_rfl)) ?_
          refine rsl (ai a2_2) (s_gd (by kernel_rfl) q39 (by kernel_rfl)) ?_
          refine rs0 (.box (oi 0 1) 2) (s_gd (by kernel_rfl) q39 (by kernel_rfl)) ?_
          refine rsl (ai a1_2) (s_gd (by kernel_rfl) q39 (by kernel_rfl)) ?_
          refine rs0 (ai (IntKind.i64.wrap (a1_2 - 1))) (s_gd (by kernel_rfl) q39 (by kernel_rfl)) ?_
          refine rcall (.bool y40) [] [(ai a2_2), (ai 0), (ai (IntKind.i64.wrap (a1_2 - 1)))] _ (caps := []) (args0 := [(ai a2_2), (ai 0), (ai (IntKind.i64.wrap (a1_2 - 1)))]) (gdOK_b (by kernel_rfl) q39) (by kernel_rfl) (ok_spec_l1In h40) hb_spec_l1In ?_
          refine rs0 (.bool y40) (s_pickT (by kernel_rfl) q39) ?_
          refine rs0 (.bool y40) (by kernel_rfl) ?_
          refine rs0 (.box (oi 1 1) 3) (s_gd (by kernel_rfl) q41 (by kernel_rfl)) ?_
          refine rsl (ai a2_3) (s_gd (by kernel_rfl) q41 (by kernel_rfl)) ?_
          refine rs0 (.bool (a2_3 == 0)) (s_gd (by kernel_rfl) q41 (by kernel_rfl)) ?_
          refine rs0 (.bool (a2_3 == 0)) (s_pickT (by kernel_rfl) q41) ?_
          refine rs0 (.bool (a2_3 == 0)) (by kernel_rfl) ?_
          refine rs0 (.tup []) (s_skip (by kernel_rfl) q42) ?_
          refine rs0 (.tup []) (s_skip (by kernel_rfl) q42) ?_
          refine rs0 (.tup []) (s_skip (by kernel_rfl) q42) ?_
          refine rs0 (.bool false) (s_pickF (by kernel_rfl) q42) ?_
          refine rsB 1 ?_
          refine rnil (tn_ ?_)
          obtain rfl := Option.some.inj h
          exact ⟨_, (weak_ren []), rfl⟩
        refine awp_region_ 22 ?_
        refine rs0 (.bool y3) (by kernel_rfl) ?_
        refine rs0 (.bool y3) (by kernel_rfl) ?_
        refine rs0 (.box (oi 1 1) 2) (s_gd (by kernel_rfl) q39 (by kernel_rfl)) ?_
        refine rsl (ai a2_2) (s_gd (by kernel_rfl) q39 (by kernel_rfl)) ?_
        refine rs0 (.box (oi 0 1) 2) (s_gd (by kernel_rfl) q39 (by kernel_rfl)) ?_
        refine rsl (ai a1_2) (s_gd (by kernel_rfl) q39 (by kernel_rfl)) ?_
        refine rs0 (ai (IntKind.i64.wrap (a1_2 - 1))) (s_gd (by kernel_rfl) q39 (by kernel_rfl)) ?_
        refine rcall (.bool y40) [] [(ai a2_2), (ai 0), (ai (IntKind.i64.wrap (a1_2 - 1)))] _ (caps := []) (args0 := [(ai a2_2), (ai 0), (ai (IntKind.i64.wrap (a1_2 - 1)))]) (gdOK_b (by kernel_rfl) q39) (by kernel_rfl) (ok_spec_l1In h40) hb_spec_l1In ?_
        refine rs0 (.bool y40) (s_pickT (by kernel_rfl) q39) ?_
        refine rs0 (.bool y40) (by kernel_rfl) ?_
        refine rs0 (.tup []) (s_skip (by kernel_rfl) q41) ?_
        refine rs0 (.tup []) (s_skip (by kernel_rfl) q41) ?_
        refine rs0 (.tup []) (s_skip (by kernel_rfl) q41) ?_
        refine rs0 (.bool false) (s_pickF (by kernel_rfl) q41) ?_
        refine rsB 6 ?_
        refine rnil (tn_ ?_)
        obtain rfl := Option.some.inj h
        exact ⟨_, (weak_ren []), rfl⟩
      refine awp_region_ 22 ?_
      refine rs0 (.bool y3) (by kernel_rfl) ?_
      refine rs0 (.bool y3) (by kernel_rfl) ?_
      refine rs0 (.tup []) (s_skip (by kernel_rfl) q39) ?_
      refine rs0 (.tup []) (s_skip (by kernel_rfl) q39) ?_
      refine rs0 (.tup []) (s_skip (by kernel_rfl) q39) ?_
      refine rs0 (.tup []) (s_skip (by kernel_rfl) q39) ?_
      refine rs0 (.tup []) (s_skip (by kernel_rfl) q39) ?_
      refine rs0 (.tup []) (s_skip (by kernel_rfl) q39) ?_
      refine rs0 (.bool false) (s_pickF (by kernel_rfl) q39) ?_
      refine rsB 11 ?_
      refine rnil (tn_ ?_)
      obtain rfl := Option.some.inj h
      exact ⟨_, (weak_ren []), rfl⟩
    rintro l38_m6 _ rfl h
    (try dsimp only at h)
    refine awp_ret_ (br_ (tr_ ?_))
    obtain rfl := Option.some.inj h
    exact ret_ [(.bool l38_m6)] (p_one rfl (l_sc (by kernel_rfl)) p_nil)
  refine awp_condF_ q37 ?_
  refine seqR ?_
  rcases cond_some h with ⟨q44, h⟩ | ⟨q44, h⟩
  · refine awp_condT_ q44 ?_
    refine awp_seqB h (fun (l45_m6 : Bool) S_ => S_ = ⟨mkTm [(6, (.bool l45_m6))], mkOb (someL []), 2⟩) ?_ ?_
    · intro v_ h
      rcases cond_some h with ⟨q46, h⟩ | ⟨q46, h⟩
      · obtain ⟨y47, h47, h⟩ := ob_some h
        rcases cond_some h with ⟨q48, h⟩ | ⟨q48, h⟩
        · rcases cond_some h with ⟨q49, h⟩ | ⟨q49, h⟩
          · refine awp_region_ 24 ?_
            refine rs0 (.bool y3) (by kernel_rfl) ?_
            refine rs0 (.bool y3) (by kernel_rfl) ?_
            refine rs0 (.box (oi 1 1) 2) (s_gd (by kernel_rfl) q46 (by kernel_rfl)) ?_
            refine rsl (ai a2_2) (s_gd (by kernel_rfl) q46 (by kernel_rfl)) ?_
            refine rs0 (.box (oi 0 1) 1) (s_gd (by kernel_rfl) q46 (by kernel_rfl)) ?_
            refine rsl (ai a1_1) (s_gd (by kernel_rfl) q46 (by kernel_rfl)) ?_
            refine rs0 (ai (IntKind.i64.wrap (a1_1 - 1))) (s_gd (by kernel_rfl) q46 (by kernel_rfl)) ?_
            refine rcall (.bool y47) [] [(ai a2_2), (ai 0), (ai (IntKind.i64.wrap (a1_1 - 1)))] _ (caps := []) (args0 := [(ai a2_2), (ai 0), (ai (IntKind.i64.wrap (a1_1 - 1)))]) (gdOK_b (by kernel_rfl) q46) (by kernel_rfl) (ok_spec_l1In h47) hb_spec_l1In ?_
            refine rs0 (.bool y47) (s_pickT (by kernel_rfl) q46) ?_
            refine rs0 (.bool y47) (by kernel_rfl) ?_
            refine rs0 (.box (oi 1 1) 3) (s_gd (by kernel_rfl) q48 (by kernel_rfl)) ?_
            refine rsl (ai a2_3) (s_gd (by kernel_rfl) q48 (by kernel_rfl)) ?_
            refine rs0 (.bool (a2_3 == 0)) (s_gd (by kernel_rfl) q48 (by kernel_rfl)) ?_
            refine rs0 (.bool (a2_3 == 0)) (s_pickT (by kernel_rfl) q48) ?_
            refine rs0 (.bool (a2_3 == 0)) (by kernel_rfl) ?_
            refine rs0 (.box (oi 1 1) 4) (s_gd (by kernel_rfl) q49 (by kernel_rfl)) ?_
            refine rsl (ai a2_4) (s_gd (by kernel_rfl) q49 (by kernel_rfl)) ?_
            refine rs0 (.bool (a2_4 == 0)) (s_gd (by kernel_rfl) q49 (by kernel_rfl)) ?_
            refine rs0 (.bool (a2_4 == 0)) (s_pickT (by kernel_rfl) q49) ?_
            refine rsB 1 ?_
            refine rnil (tn_ ?_)
            obtain rfl := Option.some.inj h
            exact ⟨_, (weak_ren []), rfl⟩
          refine awp_region_ 24 ?_
          refine rs0 (.bool y3) (by kernel_rfl) ?_
          refine rs0 (.bool y3) (by kernel_rfl) ?_
          refine rs0 (.box (oi 1 1) 2) (s_gd (by kernel_rfl) q46 (by kernel_rfl)) ?_
          refine rsl (ai a2_2) (s_gd (by kernel_rfl) q46 (by kernel_rfl)) ?_
          refine rs0 (.box (oi 0 1) 1) (s_gd (by kernel_rfl) q46 (by kernel_rfl)) ?_
          refine rsl (ai a1_1) (s_gd (by kernel_rfl) q46 (by kernel_rfl)) ?_
          refine rs0 (ai (IntKind.i64.wrap (a1_1 - 1))) (s_gd (by kernel_rfl) q46 (by kernel_rfl)) ?_
          refine rcall (.bool y47) [] [(ai a2_2), (ai 0), (ai (IntKind.i64.wrap (a1_1 - 1)))] _ (caps := []) (args0 := [(ai a2_2), (ai 0), (ai (IntKind.i64.wrap (a1_1 - 1)))]) (gdOK_b (by kernel_rfl) q46) (by kernel_rfl) (ok_spec_l1In h47) hb_spec_l1In ?_
          refine rs0 (.bool y47) (s_pickT (by kernel_rfl) q46) ?_
          refine rs0 (.bool y47) (by kernel_rfl) ?_
          refine rs0 (.box (oi 1 1) 3) (s_gd (by kernel_rfl) q48 (by kernel_rfl)) ?_
          refine rsl (ai a2_3) (s_gd (by kernel_rfl) q48 (by kernel_rfl)) ?_
          refine rs0 (.bool (a2_3 == 0)) (s_gd (by kernel_rfl) q48 (by kernel_rfl)) ?_
          refine rs0 (.bool (a2_3 == 0)) (s_pickT (by kernel_rfl) q48) ?_
          refine rs0 (.bool (a2_3 == 0)) (by kernel_rfl) ?_
          refine rs0 (.tup []) (s_skip (by kernel_rfl) q49) ?_
          refine rs0 (.tup []) (s_skip (by kernel_rfl) q49) ?_
          refine rs0 (.tup []) (s_skip (by kernel_rfl) q49) ?_
          refine rs0 (.bool false) (s_pickF (by kernel_rfl) q49) ?_
          refine rsB 1 ?_
          refine rnil (tn_ ?_)
          obtain rfl := Option.some.inj h
          exact ⟨_, (weak_ren []), rfl⟩
        refine awp_region_ 24 ?_
        refine rs0 (.bool y3) (by kernel_rfl) ?_
        refine rs0 (.bool y3) (by kernel_rfl) ?_
        refine rs0 (.box (oi 1 1) 2) (s_gd (by kernel_rfl) q46 (by kernel_rfl)) ?_
        refine rsl (ai a2_2) (s_gd (by kernel_rfl) q46 (by kernel_rfl)) ?_
        refine rs0 (.box (oi 0 1) 1) (s_gd (by kernel_rfl) q46 (by kernel_rfl)) ?_
        refine rsl (ai a1_1) (s_gd (by kernel_rfl) q46 (by kernel_rfl)) ?_
        refine rs0 (ai (IntKind.i64.wrap (a1_1 - 1))) (s_gd (by kernel_rfl) q46 (by kernel_rfl)) ?_
        refine rcall (.bool y47) [] [(ai a2_2), (ai 0), (ai (IntKind.i64.wrap (a1_1 - 1)))] _ (caps := []) (args0 := [(ai a2_2), (ai 0), (ai (IntKind.i64.wrap (a1_1 - 1)))]) (gdOK_b (by kernel_rfl) q46) (by kernel_rfl) (ok_spec_l1In h47) hb_spec_l1In ?_
        refine rs0 (.bool y47) (s_pickT (by kernel_rfl) q46) ?_
        refine rs0 (.bool y47) (by kernel_rfl) ?_
        refine rs0 (.tup []) (s_skip (by kernel_rfl) q48) ?_
        refine rs0 (.tup []) (s_skip (by kernel_rfl) q48) ?_
        refine rs0 (.tup []) (s_skip (by kernel_rfl) q48) ?_
        refine rs0 (.bool false) (s_pickF (by kernel_rfl) q48) ?_
        refine rsB 6 ?_
        refine rnil (tn_ ?_)
        obtain rfl := Option.some.inj h
        exact ⟨_, (weak_ren []), rfl⟩
      refine awp_region_ 24 ?_
      refine rs0 (.bool y3) (by kernel_rfl) ?_
      refine rs0 (.bool y3) (by kernel_rfl) ?_
      refine rs0 (.tup []) (s_skip (by kernel_rfl) q46) ?_
      refine rs0 (.tup []) (s_skip (by kernel_rfl) q46) ?_
      refine rs0 (.tup []) (s_skip (by kernel_rfl) q46) ?_
      refine rs0 (.tup []) (s_skip (by kernel_rfl) q46) ?_
      refine rs0 (.tup []) (s_skip (by kernel_rfl) q46) ?_
      refine rs0 (.tup []) (s_skip (by kernel_rfl) q46) ?_
      refine rs0 (.bool false) (s_pickF (by kernel_rfl) q46) ?_
      refine rsB 11 ?_
      refine rnil (tn_ ?_)
      obtain rfl := Option.some.inj h
      exact ⟨_, (weak_ren []), rfl⟩
    rintro l45_m6 _ rfl h
    (try dsimp only at h)
    refine awp_ret_ (br_ (tr_ ?_))
    obtain rfl := Option.some.inj h
    exact ret_ [(.bool l45_m6)] (p_one rfl (l_sc (by kernel_rfl)) p_nil)
  refine awp_condF_ q44 ?_
  refine awp_skip_ (bn_ (tn_ ?_))
  refine ⟨_, Weak.refl _, ?_⟩
  refine seqR ?_
  refine awp_ret_ ?_
  obtain rfl := Option.some.inj h
  exact ret_ [(.bool false)] (p_one rfl (l_sc (by kernel_rfl)) p_nil)
def m_spec_cmGood_l1 : AC :=
  (.seq (rg [xo 44 (qb .lss (tm 43) (tm 42))])
  (.seq (.cond (tm 44)
    .skip
    (.exit 0))
  (.seq (.block 1 (.seq (rg [xo 45 (qx 5 (tm 41) (tm 43)), xo 46 (.i (.ld false 5 (tm 45))), xo 6 (.i (.alloc 69 [(.int .i64 0), (.int .i64 0), (.int .i64 0), (.int .i64 0), (.int .i64 0)])), xn (.st false 5 (tm 6) (tm 46))])
  (.seq (rg [xo 47 (qm (tm 0)), xo 48 (.i (.ld false 5 (tm 3))), xo 49 (.i (.ld false 5 (tm 6))), ⟨(some 50), none, (qc 56 [(tm 47), (tm 48), (tm 49)] [[], [none, none, none, none, (some (.pair .int (.pair .int (.pair .int (.pair .int .int)))))], [none, none, none, none, none]])⟩, xo 51 (.i (.not (tm 50)))])
  (.cond (tm 51)
    (.seq (rg [xo 4 (qm (cb false))])
    .ret)
    .skip))))
  (rg [xo 52 (qb .add (tm 43) (ci 1)), xo 43 (qm (tm 52))]))))
def m_spec_cmGood : AC :=
  (.seq (rg [xo 3 (.i (.box 29 (tm 1))), xo 4 (qm (cb false))])
  (.seq (.seq (rg [xo 7 (qm (tm 0)), xo 8 (qc 55 [(tm 7)] [[]]), xo 9 (.i (.not (tm 8))), xo 10 (qm (tm 9)), ⟨(some 11), (some (10, false)), (qf 0 (tm 3))⟩, ⟨(some 12), (some (10, false)), (ql (tm 11))⟩, ⟨(some 13), (some (10, false)), (qc 37 [(tm 12), (ci 0), (ci 8)] [[], [], []])⟩, ⟨(some 14), (some (10, false)), (.i (.not (tm 13)))⟩, xo 15 (.i (.pick (tm 10) (cb true) (tm 14))), xo 16 (qm (tm 15)), ⟨(some 17), (some (16, false)), (qf 1 (tm 3))⟩, ⟨(some 18), (some (16, false)), (ql (tm 17))⟩, ⟨(some 19), (some (16, false)), (qc 37 [(tm 18), (ci 0), (ci 8)] [[], [], []])⟩, ⟨(some 20), (some (16, false)), (.i (.not (tm 19)))⟩, xo 21 (.i (.pick (tm 16) (cb true) (tm 20))), xo 22 (qm (tm 21)), ⟨(some 23), (some (22, false)), (qf 2 (tm 3))⟩, ⟨(some 24), (some (22, false)), (ql (tm 23))⟩, ⟨(some 25), (some (22, false)), (qc 37 [(tm 24), (ci 0), (ci 40)] [[], [], []])⟩, ⟨(some 26), (some (22, false)), (.i (.not (tm 25)))⟩, xo 27 (.i (.pick (tm 22) (cb true) (tm 26))), xo 28 (qm (tm 27)), ⟨(some 29), (some (28, false)), (qf 3 (tm 3))⟩, ⟨(some 30), (some (28, false)), (ql (tm 29))⟩, ⟨(some 31), (some (28, false)), (qc 37 [(tm 30), (ci 0), (ci 16)] [[], [], []])⟩, ⟨(some 32), (some (28, false)), (.i (.not (tm 31)))⟩, xo 33 (.i (.pick (tm 28) (cb true) (tm 32))), xo 34 (qm (tm 33)), ⟨(some 35), (some (34, false)), (qf 4 (tm 3))⟩, ⟨(some 36), (some (34, false)), (ql (tm 35))⟩, ⟨(some 37), (some (34, false)), (.i (.len (tm 36)))⟩, ⟨(some 38), (some (34, false)), (qb .gtr (tm 37) (ci 120))⟩, xo 39 (.i (.pick (tm 34) (cb true) (tm 38)))])
  (.cond (tm 39)
    (.seq (rg [xo 4 (qm (cb false))])
    .ret)
    .skip))
  (.seq (.seq (rg [xo 40 (qf 4 (tm 3)), xo 41 (ql (tm 40)), xo 42 (.i (.len (tm 41))), xo 43 (qm (ci 0))])
  (.block 0 (.loop m_spec_cmGood_l1)))
  (.seq (rg [xo 4 (qm (cb true))])
  .ret))))
def r_spec_cmGood : List Res := [.tmp 4]
theorem c_spec_cmGood : compiled Tryd.prog Tryd.f33 = some (m_spec_cmGood, r_spec_cmGood) := by kernel_rfl
theorem hb_spec_cmGood : hasBody Tryd.prog 33 = true := by kernel_rfl
def L_spec_cmGood_l1 (a1_4 : List (Int × Int × Int × Int × Int)) (a0 : Int) (a1_0 : Int) (a1_1 : Int) (a1_2 : Int) (a1_3 : Int) (l18_m43 : Nat) : Option (Ctl Nat (Ctl Unit Bool)) :=
  cond (decide (((l18_m43 : Nat) : Int) < ((a1_4.length : Nat) : Int)))
  (Option.bind (a1_4[l18_m43]?) fun x24 =>
  Option.bind (L_spec_cmInstr a0 a1_0 a1_1 a1_2 a1_3 a1_4 x24.1 x24.2.1 x24.2.2.1 x24.2.2.2.1 x24.2.2.2.2) fun y26 =>
  cond (!y26)
    (some (Ctl.out (Ctl.out false)))
    (og (l18_m43 + 1 < 4611686018427387904) <|
    some (Ctl.next (l18_m43 + 1))))
  (some (Ctl.out (Ctl.next ())))
def L_spec_cmGood (a0 : Int) (a1_0 : Int) (a1_1 : Int) (a1_2 : Int) (a1_3 : Int) (a1_4 : List (Int × Int × Int × Int × Int)) : Option Bool :=
  Option.bind (Option.bind (L_spec_fdGood a0) fun y4 =>
  cond (!y4)
    (some true)
    (Option.bind (L_spec_l1In a1_0 0 8) fun y6 =>
    cond (!y6)
      (some true)
      (Option.bind (L_spec_l1In a1_1 0 8) fun y8 =>
      cond (!y8)
        (some true)
        (Option.bind (L_spec_l1In a1_2 0 40) fun y10 =>
        cond (!y10)
          (some true)
          (Option.bind (L_spec_l1In a1_3 0 16) fun y12 =>
          cond (!y12)
            (some true)
            (some (decide (120 < ((a1_4.length : Nat) : Int))))))))) fun l3_m39 =>
cond l3_m39
  (some false)
  (seqC (loopM (fun s_ : Nat => L_spec_cmGood_l1 a1_4 a0 a1_0 a1_1 a1_2 a1_3 s_) 4611686018427387904 0) fun _ =>
  some true)
def rv_spec_cmGood (r : Bool) : RV := ⟨false, [(false, [.sc (.bool r)])]⟩
theorem ok_spec_cmGood {a0 : Int} {a1_0 : Int} {a1_1 : Int} {a1_2 : Int} {a1_3 : Int} {a1_4 : List (Int × Int × Int × Int × Int)} {r : Bool} (h : L_spec_cmGood a0 a1_0 a1_1 a1_2 a1_3 a1_4 = some r) : CallOK Tryd.prog Tab 33 [(ai a0), (.agg [(ai a1_0), (ai a1_1), (ai a1_2), (ai a1_3), (.tree (.pair .int (.pair .int (.pair .int (.pair .int .int)))) a1_4)])] (rv_spec_cmGood r) := by
  refine call_of_ (by kernel_rfl) Tryd.func33 c_spec_cmGood (n := 53) (by kernel_rfl) (by simp) (tl := [(0, (ai a0)), (1, (.agg [(ai a1_0), (ai a1_1), (ai a1_2), (ai a1_3), (.tree (.pair .int (.pair .int (.pair .int (.pair .int .int)))) a1_4)]))]) rfl ?_
  unfold m_spec_cmGood
  unfold L_spec_cmGood at h
  refine seqR ?_
  refine awp_seqv_ ?_
  refine awp_seqB h (fun (l3_m39 : Bool) S_ => S_ = ⟨mkTm [(0, (ai a0)), (3, (.box (oi 0 1) 0)), (39, (.bool l3_m39))], mkOb (someL [((oi 0 1), .cells 29 [(ai a1_0), (ai a1_1), (ai a1_2), (ai a1_3), (.tree (.pair .int (.pair .int (.pair .int (.pair .int .int)))) a1_4)])]), 2⟩) ?_ ?_
  · intro v_ h
    obtain ⟨y4, h4, h⟩ := ob_some h
    rcases cond_some h with ⟨q5, h⟩ | ⟨q5, h⟩
    · refine awp_region_ 36 ?_
      refine rs0 (ai a0) (by kernel_rfl) ?_
      refine rcall (.bool y4) [] [(ai a0)] _ (caps := []) (args0 := [(ai a0)]) trivial (by kernel_rfl) (ok_spec_fdGood h4) hb_spec_fdGood ?_
      refine rs0 (.bool (!y4)) (by kernel_rfl) ?_
      refine rs0 (.bool (!y4)) (by kernel_rfl) ?_
      refine rs0 (.tup []) (s_skip (by kernel_rfl) q5) ?_
      refine rs0 (.tup []) (s_skip (by kernel_rfl) q5) ?_
      refine rs0 (.tup []) (s_skip (by kernel_rfl) q5) ?_
      refine rs0 (.tup []) (s_skip (by kernel_rfl) q5) ?_
      refine rs0 (.bool true) (s_pickT (by kernel_rfl) q5) ?_
      refine rsB 24 ?_
      refine rnil (tn_ ?_)
      obtain rfl := Option.some.inj h
      exact ⟨_, (weak_ren [((oi 0 1), (oi 3 1))]), rfl⟩
    obtain ⟨y6, h6, h⟩ := ob_some h
    rcases cond_some h with ⟨q7, h⟩ | ⟨q7, h⟩
    · refine awp_region_ 36 ?_
      refine rs0 (ai a0) (by kernel_rfl) ?_
      refine rcall (.bool y4) [] [(ai a0)] _ (caps := []) (args0 := [(ai a0)]) trivial (by kernel_rfl) (ok_spec_fdGood h4) hb_spec_fdGood ?_
      refine rs0 (.bool (!y4)) (by kernel_rfl) ?_
      refine rs0 (.bool (!y4)) (by kernel_rfl) ?_
      refine rs0 (.box (oi 3 1) 0) (s_gd (by kernel_rfl) q5 (by kernel_rfl)) ?_
      refine rsl (ai a1_0) (s_gd (by kernel_rfl) q5 (by kernel_rfl)) ?_
      refine rcall (.bool y6) [] [(ai a1_0), (ai 0), (ai 8)] _ (caps := []) (args0 := [(ai a1_0), (ai 0), (ai 8)]) (gdOK_b (by kernel_rfl) q5) (by kernel_rfl) (ok_spec_l1In h6) hb_spec_l1In ?_
      refine rs0 (.bool (!y6)) (s_gd (by kernel_rfl) q5 (by kernel_rfl)) ?_
      refine rs0 (.bool (!y6)) (s_pickF (by kernel_rfl) q5) ?_
      refine rs0 (.bool (!y6)) (by kernel_rfl) ?_
      refine rs0 (.tup []) (s_skip (by kernel_rfl) q7) ?_
      refine rs0 (.tup []) (s_skip (by kernel_rfl) q7) ?_
      refine rs0 (.tup []) (s_skip (by kernel_rfl) q7) ?_
      refine rs0 (.tup []) (s_skip (by kernel_rfl) q7) ?_
      refine rs0 (.bool true) (s_pickT (by kernel_rfl) q7) ?_
      refine rsB 18 ?_
      refine rnil (tn_ ?_)
      obtain rfl := Option.some.inj h
      exact ⟨_, (weak_ren [((oi 0 1), (oi 3 1))]), rfl⟩
    obtain ⟨y8, h8, h⟩ := ob_some h
    rcases cond_some h with ⟨q9, h⟩ | ⟨q9, h⟩
    · refine awp_region_ 36 ?_
      refine rs0 (ai a0) (by kernel_rfl) ?_
      refine rcall (.bool y4) [] [(ai a0)] _ (caps := []) (args0 := [(ai a0)]) trivial (by kernel_rfl) (ok_spec_fdGood h4) hb_spec_fdGood ?_
      refine rs0 (.bool (!y4)) (by kernel_rfl) ?_
      refine rs0 (.bool (!y4)) (by kernel_rfl) ?_
      refine rs0 (.box (oi 3 1) 0) (s_gd (by kernel_rfl) q5 (by kernel_rfl)) ?_
      refine rsl (ai a1_0) (s_gd (by kernel_rfl) q5 (by kernel_rfl)) ?_
      refine rcall (.bool y6) [] [(ai a1_0), (ai 0), (ai 8)] _ (caps := []) (args0 := [(ai a1_0), (ai 0), (ai 8)]) (gdOK_b (by kernel_rfl) q5) (by kernel_rfl) (ok_spec_l1In h6) hb_spec_l1In ?_
      refine rs0 (.bool (!y6)) (s_gd (by kernel_rfl) q5 (by kernel_rfl)) ?_
      refine rs0 (.bool (!y6)) (s_pickF (by kernel_rfl) q5) ?_
      refine rs0 (.bool (!y6)) (by kernel_rfl) ?_
      refine rs0 (.box (oi 3 1) 1) (s_gd (by kernel_rfl) q7 (by kernel_rfl)) ?_
      refine rsl (ai a1_1) (s_gd (by kernel_rfl) q7 (by kernel_rfl)) ?_
      refine rcall (.bool y8) [] [(ai a1_1), (ai 0), (ai 8)] _ (caps := []) (args0 := [(ai a1_1), (ai 0), (ai 8)]) (gdOK_b (by kernel_rfl) q7) (by kernel_rfl) (ok_spec_l1In h8) hb_spec_l1In ?_
      refine rs0 (.bool (!y8)) (s_gd (by kernel_rfl) q7 (by kernel_rfl)) ?_
      refine rs0 (.bool (!y8)) (s_pickF (by kernel_rfl) q7) ?_
      refine rs0 (.bool (!y8)) (by kernel_rfl) ?_
      refine rs0 (.tup []) (s_skip (by kernel_rfl) q9) ?_
      refine rs0 (.tup []) (s_skip (by kernel_rfl) q9) ?_
      refine rs0 (.tup []) (s_skip (by kernel_rfl) q9) ?_
      refine rs0 (.tup []) (s_skip (by kernel_rfl) q9) ?_
      refine rs0 (.bool true) (s_pickT (by kernel_rfl) q9) ?_
      refine rsB 12 ?_
      refine rnil (tn_ ?_)
      obtain rfl := Option.some.inj h
      exact ⟨_, (weak_ren [((oi 0 1), (oi 3 1))]), rfl⟩
    obtain ⟨y10, h10, h⟩ := ob_some h
    rcases cond_some h with ⟨q11, h⟩ | ⟨q11, h⟩
    · refine awp_region_ 36 ?_
      refine rs0 (ai a0) (by kernel_rfl) ?_
      refine rcall (.bool y4) [] [(ai a0)] _ (caps := []) (args0 := [(ai a0)]) trivial (by kernel_rfl) (ok_spec_fdGood h4) hb_spec_fdGood ?_
      refine rs0 (.bool (!y4)) (by kernel_rfl) ?_
      refine rs0 (.bool (!y4)) (by kernel_rfl) ?_
      refine rs0 (.box (oi 3 1) 0) (s_gd (by kernel_rfl) q5 (by kernel_rfl)) ?_
      refine rsl (ai a1_0) (s_gd (by kernel_rfl) q5 (by kernel_rfl)) ?_
      refine rcall (.bool y6) [] [(ai a1_0), (ai 0), (ai 8)] _ (caps := []) (args0 := [(ai a1_0), (ai 0), (ai 8)]) (gdOK_b (by kernel_rfl) q5) (by kernel_rfl) (ok_spec_l1In h6) hb_spec_l1In ?_
      refine rs0 (.bool (!y6)) (s_gd (by kernel_rfl) q5 (by kernel_rfl)) ?_
      refine rs0 (.bool (!y6)) (s_pickF (by kernel_rfl) q5) ?_
      refine rs0 (.bool (!y6)) (by kernel_rfl) ?_
      refine rs0 (.box (oi 3 1) 1) (s_gd (by kernel_rfl) q7 (by kernel_rfl)) ?_
      refine rsl (ai a1_1) (s_gd (by kernel_rfl) q7 (by kernel_rfl)) ?_
      refine rcall (.bool y8) [] [(ai a1_1), (ai 0), (ai 8)] _ (caps := []) (args0 := [(ai a1_1), (ai 0), (ai 8)]) (gdOK_b (by kernel_rfl) q7) (by kernel_rfl) (ok_spec_l1In h8) hb_spec_l1In ?_
      refine rs0 (.bool (!y8)) (s_gd (by kernel_rfl) q7 (by kernel_rfl)) ?_
      refine rs0 (.bool (!y8)) (s_pickF (by kernel_rfl) q7) ?_
      refine rs0 (.bool (!y8)) (by kernel_rfl) ?_
      refine rs0 (.box (oi 3 1) 2) (s_gd (by kernel_rfl) q9 (by kernel_rfl)) ?_
      refine rsl (ai a1_2) (s_gd (by kernel_rfl) q9 (by kernel_rfl)) ?_
      refine rcall (.bool y10) [] [(ai a1_2), (ai 0), (ai 40)] _ (caps := []) (args0 := [(ai a1_2), (ai 0), (ai 40)]) (gdOK_b (by kernel_rfl) q9) (by kernel_rfl) (ok_spec_l1In h10) hb_spec_l1In ?_
      refine rs0 (.bool (!y10)) (s_gd (by kernel_rfl) q9 (by kernel_rfl)) ?_
      refine rs0 (.bool (!y10)) (s_pickF (by kernel_rfl) q9) ?_
      refine rs0 (.bool (!y10)) (by kernel_rfl) ?_
      refine rs0 (.tup []) (s_skip (by kernel_rfl) q11) ?_
      refine rs0 (.tup []) (s_skip (by kernel_rfl) q11) ?_
      refine rs0 (.tup []) (s_skip (by kernel_rfl) q11) ?_
      refine rs0 (.tup []) (s_skip (by kernel_rfl) q11) ?_
      refine rs0 (.bool true) (s_pickT (by kernel_rfl) q11) ?_
      refine rsB 6 ?_
      refine rnil (tn_ ?_)
      obtain rfl := Option.some.inj h
      exact ⟨_, (weak_ren [((oi 0 1), (oi 3 1))]), rfl⟩
    obtain ⟨y12, h12, h⟩ := ob_some h
    rcases cond_some h with ⟨q13, h⟩ | ⟨q13, h⟩
    · refine awp_region_ 36 ?_
      refine rs0 (ai a0) (by kernel_rfl) ?_
      refine rcall (.bool y4) [] [(ai a0)] _ (caps := []) (args0 := [(ai a0)]) trivial (by kernel_rfl) (ok_spec_fdGood h4) hb_spec_fdGood ?_
      refine rs0 (.bool (!y4)) (by kernel_rfl) ?_
      refine rs0 (.bool (!y4)) (by kernel_rfl) ?_
      refine rs0 (.box (oi 3 1) 0) (s_gd (by kernel_rfl) q5 (by kernel_rfl)) ?_
      refine rsl (ai a1_0) (s_gd (by kernel_rfl) q5 (by kernel_rfl)) ?_
      refine rcall (.bool y6) [] [(ai a1_0), (ai 0), (ai 8)] _ (caps := []) (args0 := [(ai a1_0), (ai 0), (ai 8)]) (gdOK_b (by kernel_rfl) q5) (by kernel_rfl) (ok_spec_l1In h6) hb_spec_l1In ?_
      refine rs0 (.bool (!y6)) (s_gd (by kernel_rfl) q5 (by kernel_rfl)) ?_
      refine rs0 (.bool (!y6)) (s_pickF (by kernel_rfl) q5) ?_
      refine rs0 (.bool (!y6)) (by kernel_rfl) ?_
      refine rs0 (.box (oi 3 1) 1) (s_gd (by kernel_rfl) q7 (by kernel_rfl)) ?_
      refine rsl (ai a1_1) (s_gd (by kernel_rfl) q7 (by kernel_rfl)) ?_
      refine rcall (.bool y8) [] [(ai a1_1), (ai 0), (ai 8)] _ (caps := []) (args0 := [(ai a1_1), (ai 0), (ai 8)]) (gdOK_b (by kernel_rfl) q7) (by kernel_rfl) (ok_spec_l1In h8) hb_spec_l1In ?_
      refine rs0 (.bool (!y8)) (s_gd (by kernel_rfl) q7 (by kernel_rfl)) ?_
      refine rs0 (.bool (!y8)) (s_pickF (by kernel_rfl) q7) ?_
      refine rs0 (.bool (!y8)) (by kernel_rfl) ?_
      refine rs0 (.box (oi 3 1) 2) (s_gd (by kernel_rfl) q9 (by kernel_rfl)) ?_
      refine rsl (ai a1_2) (s_gd (by kernel_rfl) q9 (by kernel_rfl)) ?_
      refine rcall (.bool y10) [] [(ai a1_2), (ai 0), (ai 40)] _ (caps := []) (args0 := [(ai a1_2), (ai 0), (ai 40)]) (gdOK_b (by kernel_rfl) q9) (by kernel_rfl) (ok_spec_l1In h10) hb_spec_l1In ?_
      refine rs0 (.bool (!y10)) (s_gd (by kernel_rfl) q9 (by kernel_rfl)) ?_
      refine rs0 (.bool (!y10)) (s_pickF (by kernel_rfl) q9) ?_
      refine rs0 (.bool (!y10)) (by kernel_rfl) ?_
      refine rs0 (.box (oi 3 1) 3) (s_gd (by kernel_rfl) q11 (by kernel_rfl)) ?_
      refine rsl (ai a1_3) (s_gd (by kernel_rfl) q11 (by kernel_rfl)) ?_
      refine rcall (.bool y12) [] [(ai a1_3), (ai 0), (ai 16)] _ (caps := []) (args0 := [(ai a1_3), (ai 0), (ai 16)]) (gdOK_b (by kernel_rfl) q11) (by kernel_rfl) (ok_spec_l1In h12) hb_spec_l1In ?_
      refine rs0 (.bool (!y12)) (s_gd (by kernel_rfl) q11 (by kernel_rfl)) ?_
      refine rs0 (.bool (!y12)) (s_pickF (by kernel_rfl) q11) ?_
      refine rs0 (.bool (!y12)) (by kernel_rfl) ?_
      refine rs0 (.tup []) (s_skip (by kernel_rfl) q13) ?_
      refine rs0 (.tup []) (s_skip (by kernel_rfl) q13) ?_
      refine rs0 (.tup []) (s_skip (by kernel_rfl) q13) ?_
      refine rs0 (.tup []) (s_skip (by kernel_rfl) q13) ?_
      refine rs0 (.bool true) (s_pickT (by kernel_rfl) q13) ?_
      refine rnil (tn_ ?_)
      obtain rfl := Option.some.inj h
      exact ⟨_, (weak_ren [((oi 0 1), (oi 3 1))]), rfl⟩
    refine awp_region_ 36 ?_
    refine rs0 (ai a0) (by kernel_rfl) ?_
    refine rcall (.bool y4) [] [(ai a0)] _ (caps := []) (args0 := [(ai a0)]) trivial (by kernel_rfl) (ok_spec_fdGood h4) hb_spec_fdGood ?_
    refine rs0 (.bool (!y4)) (by kernel_rfl) ?_
    refine rs0 (.bool (!y4)) (by kernel_rfl) ?_
    refine rs0 (.box (oi 3 1) 0) (s_gd (by kernel_rfl) q5 (by kernel_rfl)) ?_
    refine rsl (ai a1_0) (s_gd (by kernel_rfl) q5 (by kernel_rfl)) ?_
    refine rcall (.bool y6) [] [(ai a1_0), (ai 0), (ai 8)] _ (caps := []) (args0 := [(ai a1_0), (ai 0), (ai 8)]) (gdOK_b (by kernel_rfl) q5) (by kernel_rfl) (ok_spec_l1In h6) hb_spec_l1In ?_
    refine rs0 (.bool (!y6)) (s_gd (by kernel_rfl) q5 (by kernel_rfl)) ?_
    refine rs0 (.bool (!y6)) (s_pickF (by kernel_rfl) q5) ?_
    refine rs0 (.bool (!y6)) (by kernel_rfl) ?_
    refine rs0 (.box (oi 3 1) 1) (s_gd (by kernel_rfl) q7 (by kernel_rfl)) ?_
    refine rsl (ai a1_1) (s_gd (by kernel_rfl) q7 (by kernel_rfl)) ?_
    refine rcall (.bool y8) [] [(ai a1_1), (ai 0), (ai 8)] _ (caps := []) (args0 := [(ai a1_1), (ai 0), (ai 8)]) (gdOK_b (by kernel_rfl) q7) (by kernel_rfl) (ok_spec_l1In h8) hb_spec_l1In ?_
    refine rs0 (.bool (!y8)) (s_gd (by kernel_rfl) q7 (by kernel_rfl)) ?_
    refine rs0 (.bool (!y8)) (s_pickF (by kernel_rfl) q7) ?_
    refine rs0 (.bool (!y8)) (by kernel_rfl) ?_
    refine rs0 (.box (oi 3 1) 2) (s_gd (by kernel_rfl) q9 (by kernel_rfl)) ?_
    refine rsl (ai a1_2) (s_gd (by kernel_rfl) q9 (by kernel_rfl)) ?_
    refine rcall (.bool y10) [] [(ai a1_2), (ai 0), (ai 40)] _ (caps := []) (args0 := [(ai a1_2), (ai 0), (ai 40)]) (gdOK_b (by kernel_rfl) q9) (by kernel_rfl) (ok_spec_l1In h10) hb_spec_l1In ?_
    refine rs0 (.bool (!y10)) (s_gd (by kernel_rfl) q9 (by kernel_rfl)) ?_
    refine rs0 (.bool (!y10)) (s_pickF (by kernel_rfl) q9) ?_
    refine rs0 (.bool (!y10)) (by kernel_rfl) ?_
    refine rs0 (.box (oi 3 1) 3) (s_gd (by kernel_rfl) q11 (by kernel_rfl)) ?_
    refine rsl (ai a1_3) (s_gd (by kernel_rfl) q11 (by kernel_rfl)) ?_
    refine rcall (.bool y12) [] [(ai a1_3), (ai 0), (ai 16)] _ (caps := []) (args0 := [(ai a1_3), (ai 0), (ai 16)]) (gdOK_b (by kernel_rfl) q11) (by kernel_rfl) (ok_spec_l1In h12) hb_spec_l1In ?_
    refine rs0 (.bool (!y12)) (s_gd (by kernel_rfl) q11 (by kernel_rfl)) ?_
    refine rs0 (.bool (!y12)) (s_pickF (by kernel_rfl) q11) ?_
    refine rs0 (.bool (!y12)) (by kernel_rfl) ?_
    refine rs0 (.box (oi 3 1) 4) (s_gd (by kernel_rfl) q13 (by kernel_rfl)) ?_
    refine rsl (.tree (.pair .int (.pair .int (.pair .int (.pair .int .int)))) a1_4) (s_gd (by kernel_rfl) q13 (by kernel_rfl)) ?_
    refine rs0 (ai ((a1_4.length : Nat) : Int)) (s_gd (by kernel_rfl) q13 (by kernel_rfl)) ?_
    refine rs0 (.bool (decide (120 < ((a1_4.length : Nat) : Int)))) (s_gd (by kernel_rfl) q13 (by kernel_rfl)) ?_
    refine rs0 (.bool (decide (120 < ((a1_4.length : Nat) : Int)))) (s_pickF (by kernel_rfl) q13) ?_
    refine rnil (tn_ ?_)
    obtain rfl := Option.some.inj h
    exact ⟨_, (weak_ren [((oi 0 1), (oi 3 1))]), rfl⟩
  rintro l3_m39 _ rfl h
  (try dsimp only at h)
  rcases cond_some h with ⟨q14, h⟩ | ⟨q14, h⟩
  · refine awp_condT_ q14 ?_
    refine seqR ?_
    refine awp_ret_ (tr_ ?_)
    obtain rfl := Option.some.inj h
    exact ret_ [(.bool false)] (p_one rfl (l_sc (by kernel_rfl)) p_nil)
  refine awp_condF_ q14 ?_
  refine awp_skip_ (tn_ ?_)
  refine ⟨_, Weak.refl _, ?_⟩
  refine awp_seqC h (fun (_ : Unit) S_ => S_ = ⟨mkTm [], mkOb (someL []), 2⟩) ?_ ?_
  · intro v_ h hk16
    refine seqR ?_
    refine awp_block_ ?_
    refine awp_loopL h (fun (l18_m43 : Nat) S_ => S_ = ⟨mkTm [(0, (ai a0)), (3, (.box (oi 0 1) 0)), (41, (.tree (.pair .int (.pair .int (.pair .int (.pair .int .int)))) a1_4)), (42, (ai ((a1_4.length : Nat) : Int))), (43, (ai ((l18_m43 : Nat) : Int)))], mkOb (someL [((oi 0 1), .cells 29 [(ai a1_0), (ai a1_1), (ai a1_2), (ai a1_3), (.tree (.pair .int (.pair .int (.pair .int (.pair .int .int)))) a1_4)])]), 2⟩) ⟨_, (weak_ren []), rfl⟩ ?_
    rintro n_ l18_m43 _ c_ rfl h hn18
    (try dsimp only at h)
    unfold L_spec_cmGood_l1 at h
    unfold m_spec_cmGood_l1
    refine seqR ?_
    refine awp_seqv_ ?_
    rcases cond_some h with ⟨q21, h⟩ | ⟨q21, h⟩
    · have q21_ := of_decide_eq_true q21
      refine awp_condT_ q21 ?_
      refine awp_skip_ (tn_ ?_)
      refine ⟨_, Weak.refl _, ?_⟩
      refine awp_seqv_ ?_
      refine awp_block_ ?_
      refine awp_seqv_ ?_
      obtain ⟨x24, e24, h⟩ := ob_some h
      refine awp_region_ 7 ?_
      refine rs0 (.telt (.pair .int (.pair .int (.pair .int (.pair .int .int)))) x24 0) (s_idxT (t := (.pair .int (.pair .int (.pair .int (.pair .int .int))))) (xs := a1_4) (k := .i64) (m := ((l18_m43 : Nat) : Int)) (by kernel_rfl) (by kernel_rfl) rfl (nat_nn _) rfl e24) ?_
      refine rsB 3 ?_
      refine rnil (tn_ ?_)
      refine ⟨_, Weak.refl _, ?_⟩
      refine awp_seqv_ ?_
      obtain ⟨y26, h26, h⟩ := ob_some h
      refine awp_region_ 12 ?_
      refine rs0 (ai a0) (by kernel_rfl) ?_
      refine rsl (.agg [(ai a1_0), (ai a1_1), (ai a1_2), (ai a1_3), (.tree (.pair .int (.pair .int (.pair .int (.pair .int .int)))) a1_4)]) (by kernel_rfl) ?_
      refine rsl (.agg [(ai x24.1), (ai x24.2.1), (ai x24.2.2.1), (ai x24.2.2.2.1), (ai x24.2.2.2.2)]) (by kernel_rfl) ?_
      refine rcall (.bool y26) [] [(ai a0), (.agg [(ai a1_0), (ai a1_1), (ai a1_2), (ai a1_3), (.tree (.pair .int (.pair .int (.pair .int (.pair .int .int)))) a1_4)]), (.agg [(ai x24.1), (ai x24.2.1), (ai x24.2.2.1), (ai x24.2.2.2.1), (ai x24.2.2.2.2)])] _ (caps := []) (args0 := [(ai a0), (.agg [(ai a1_0), (ai a1_1), (ai a1_2), (ai a1_3), (.tree (.pair .int (.pair .int (.pair .int (.pair .int .int)))) a1_4)]), (.agg [(ai x24.1), (ai x24.2.1), (ai x24.2.2.1), (ai x24.2.2.2.1), (ai x24.2.2.2.2)])]) trivial (by kernel_rfl) (ok_spec_cmInstr h26) hb_spec_cmInstr ?_
      refine rsB 1 ?_
      refine rnil (tn_ ?_)
      refine ⟨_, Weak.refl _, ?_⟩
      rcases cond_some h with ⟨q27, h⟩ | ⟨q27, h⟩
      · refine awp_condT_ q27 ?_
        refine seqR ?_
        refine awp_ret_ (br_ (tr_ (tr_ (br_ (tr_ ?_)))))
        obtain rfl := Option.some.inj h
        have h := hn18
        (try dsimp only at h)
        obtain rfl := Option.some.inj h
        have h := hk16
        (try dsimp only at h)
        obtain rfl := Option.some.inj h
        exact ret_ [(.bool false)] (p_one rfl (l_sc (by kernel_rfl)) p_nil)
      refine awp_condF_ q27 ?_
      refine awp_skip_ (bn_ (tn_ ?_))
      refine ⟨_, Weak.refl _, ?_⟩
      obtain ⟨g29, h⟩ := og_some h
      refine awp_region_ 14 ?_
      refine rs0 (ai ((l18_m43 + 1 : Nat) : Int)) (s_add1 (j := l18_m43) (by kernel_rfl) (by kernel_rfl) g29) ?_
      refine rsB 1 ?_
      refine rnil (tn_ ?_)
      obtain rfl := Option.some.inj h
      exact ⟨l18_m43 + 1, _, (weak_ren []), rfl, hn18⟩
    have q21_ := of_decide_eq_false q21
    refine awp_condF_ q21 ?_
    refine awp_exit_ (te_ (te_ (be_ (tn_ ?_))))
    obtain rfl := Option.some.inj h
    have h := hn18
    (try dsimp only at h)
    obtain rfl := Option.some.inj h
    exact ⟨(), _, rfl, (weak_ren []), rfl⟩
  rintro _ _ rfl h
  (try dsimp only at h)
  refine seqR ?_
  refine awp_ret_ ?_
  obtain rfl := Option.some.inj h
  exact ret_ [(.bool true)] (p_one rfl (l_sc (by kernel_rfl)) p_nil)
def m_impl_Instr_reads : AC :=
  (.seq (rg [xo 1 (.i (.box 69 (tm 0))), xo 2 (qm (.cst .nils))])
  (.seq (.seq (rg [xo 3 (qf 0 (tm 1)), xo 4 (ql (tm 3))])
  (.block 0 (.seq (rg [xo 6 (qb .eql (tm 4) (ci 3)), xo 5 (qm (tm 6))])
  (.cond (tm 5)
    (.seq (rg [xo 7 (qf 2 (tm 1)), xo 8 (ql (tm 7)), xo 9 (qf 3 (tm 1)), xo 10 (ql (tm 9)), xo 11 (.mkS 3 .int [(tm 8), (tm 10)]), xo 2 (qm (tm 11))])
    .ret)
    (.seq (rg [xo 13 (qb .eql (tm 4) (ci 4)), xo 12 (qm (tm 13))])
    (.cond (tm 12)
      (.seq (rg [xo 14 (qf 2 (tm 1)), xo 15 (ql (tm 14)), xo 16 (.mkS 3 .int [(tm 15)]), xo 2 (qm (tm 16))])
      .ret)
      (.seq (.seq (rg [xo 18 (qb .eql (tm 4) (ci 6)), xo 17 (qm (tm 18))])
      (.cond (tm 17)
        .skip
        (rg [xo 19 (qb .eql (tm 4) (ci 7)), xo 17 (qm (tm 19))])))
      (.cond (tm 17)
        (.seq (rg [xo 20 (qf 1 (tm 1)), xo 21 (ql (tm 20)), xo 22 (.mkS 3 .int [(tm 21)]), xo 2 (qm (tm 22))])
        .ret)
        .skip))))))))
  (.seq (rg [xo 2 (qm (.cst .nils))])
  .ret)))
def r_impl_Instr_reads : List Res := [.tmp 2]
theorem c_impl_Instr_reads : compiled Tryd.prog Tryd.f65 = some (m_impl_Instr_reads, r_impl_Instr_reads) := by kernel_rfl
theorem hb_impl_Instr_reads : hasBody Tryd.prog 65 = true := by kernel_rfl
def L_impl_Instr_reads (a0_0 : Int) (a0_1 : Int) (a0_2 : Int) (a0_3 : Int) (a0_4 : Int) : Option (List Int) :=
  cond (a0_0 == 3)
  (some ([a0_2, a0_3]))
  (cond (a0_0 == 4)
    (some ([a0_2]))
    (Option.bind (cond (a0_0 == 6)
        (some (a0_0 == 6))
        (some (a0_0 == 7))) fun l10_m17 =>
    cond l10_m17
      (some ([a0_1]))
      (some [])))
def rv_impl_Instr_reads (r : List Int) : RV := ⟨false, [(false, [.new 3 .int r])]⟩
theorem ok_impl_Instr_reads {a0_0 : Int} {a0_1 : Int} {a0_2 : Int} {a0_3 : Int} {a0_4 : Int} {r : List Int} (h : L_impl_Instr_reads a0_0 a0_1 a0_2 a0_3 a0_4 = some r) : CallOK Tryd.prog Tab 65 [(.agg [(ai a0_0), (ai a0_1), (ai a0_2), (ai a0_3), (ai a0_4)])] (rv_impl_Instr_reads r) := by
  refine call_of_ (by kernel_rfl) Tryd.func65 c_impl_Instr_reads (n := 23) (by kernel_rfl) (by simp) (tl := [(0, (.agg [(ai a0_0), (ai a0_1), (ai a0_2), (ai a0_3), (ai a0_4)]))]) rfl ?_
  unfold m_impl_Instr_reads
  unfold L_impl_Instr_reads at h
  refine seqR ?_
  refine awp_seqv_ ?_
  refine seqR ?_
  refine awp_block_ ?_
  refine seqR ?_
  rcases cond_some h with ⟨q5, h⟩ | ⟨q5, h⟩
  · refine awp_condT_ q5 ?_
    refine seqR ?_
    refine awp_ret_ (br_ (tr_ ?_))
    obtain rfl := Option.some.inj h
    exact ret_ [(.own (oi 11 11) .int 0 2)] (p_one rfl (l_own (by kernel_rfl) rfl) p_nil)
  refine awp_condF_ q5 ?_
  refine seqR ?_
  rcases cond_some h with ⟨q8, h⟩ | ⟨q8, h⟩
  · refine awp_condT_ q8 ?_
    refine seqR ?_
    refine awp_ret_ (br_ (tr_ ?_))
    obtain rfl := Option.some.inj h
    exact ret_ [(.own (oi 16 11) .int 0 1)] (p_one rfl (l_own (by kernel_rfl) rfl) p_nil)
  refine awp_condF_ q8 ?_
  refine awp_seqB h (fun (l10_m17 : Bool) S_ => S_ = ⟨mkTm [(1, (.box (oi 0 1) 0)), (17, (.bool l10_m17))], mkOb (someL [((oi 0 1), .cells 69 [(ai a0_0), (ai a0_1), (ai a0_2), (ai a0_3), (ai a0_4)])]), 2⟩) ?_ ?_
  · intro v_ h
    refine seqR ?_
    rcases cond_some h with ⟨q12, h⟩ | ⟨q12, h⟩
    · refine awp_condT_ q12 ?_
      refine awp_skip_ (tn_ ?_)
      obtain rfl := Option.some.inj h
      exact ⟨_, (weak_ren [((oi 0 1), (oi 1 1))]), rfl⟩
    refine awp_condF_ q12 ?_
    refine awp_region_ 13 ?_
    refine rsB 2 ?_
    refine rnil (tn_ ?_)
    obtain rfl := Option.some.inj h
    exact ⟨_, (weak_ren [((oi 0 1), (oi 1 1))]), rfl⟩
  rintro l10_m17 _ rfl h
  (try dsimp only at h)
  rcases cond_some h with ⟨q13, h⟩ | ⟨q13, h⟩
  · refine awp_condT_ q13 ?_
    refine seqR ?_
    refine awp_ret_ (br_ (tr_ ?_))
    obtain rfl := Option.some.inj h
    exact ret_ [(.own (oi 22 4) .int 0 1)] (p_one rfl (l_own (by kernel_rfl) rfl) p_nil)
  refine awp_condF_ q13 ?_
  refine awp_skip_ (bn_ (tn_ ?_))
  refine ⟨_, Weak.refl _, ?_⟩
  refine seqR ?_
  refine awp_ret_ ?_
  obtain rfl := Option.some.inj h
  exact ret_ [.nils] (p_one rfl (l_nils rfl) p_nil)
def m_impl_Program_isInstr : AC :=
  (.seq (rg [xo 3 (.i (.box 29 (tm 0))), xo 5 (.i (.box 69 (tm 2))), xo 6 (qm (cb false))])
  (.seq (.seq (.region [xo 8 (qf 1 (tm 5)), xo 9 (ql (tm 8)), xo 10 (qf 3 (tm 3)), xo 11 (ql (tm 10)), xo 12 (qb .sub (tm 11) (ci 1)), xo 13 (qc 39 [(tm 9), (ci 0), (tm 12)] [[], [], []]), xo 14 (.i (.not (tm 13))), xo 15 (qm (tm 14)), ⟨(some 16), (some (15, false)), (.i (.ld false 5 (tm 5)))⟩, ⟨(some 17), (some (15, false)), (qc 65 [(tm 16)] [[none, none, none, none, none]])⟩, ⟨(some 18), (some (15, false)), (qf 3 (tm 3))⟩, ⟨(some 19), (some (15, false)), (ql (tm 18))⟩, ⟨(some 20), (some (15, false)), (qc 76 [(tm 17), (tm 19)] [[(some .int)], []])⟩, ⟨(some 21), (some (15, false)), (.i (.not (tm 20)))⟩, xo 22 (.i (.pick (tm 15) (cb true) (tm 21)))] true [(9, 11)])
  (.cond (tm 22)
    (.seq (rg [xo 6 (qm (cb false))])
    .ret)
    .skip))
  (.seq (rg [xo 23 (qf 3 (tm 5)), xo 24 (ql (tm 23)), xo 25 (qb .eql (tm 24) (ci 0)), xo 26 (qm (tm 25)), ⟨(some 27), (some (26, true)), (qf 4 (tm 5))⟩, ⟨(some 28), (some (26, true)), (ql (tm 27))⟩, ⟨(some 29), (some (26, true)), (qb .eql (tm 28) (ci 0))⟩, xo 30 (.i (.pick (tm 26) (tm 29) (cb false))), xo 7 (qm (tm 30))])
  (.seq (.seq (rg [xo 31 (qf 0 (tm 5)), xo 32 (ql (tm 31))])
  (.block 0 (.seq (rg [xo 34 (qb .eql (tm 32) (ci 1)), xo 33 (qm (tm 34))])
  (.cond (tm 33)
    (.seq (rg [xo 35 (qm (tm 7)), xo 36 (qm (tm 35)), ⟨(some 37), (some (36, true)), (qf 2 (tm 5))⟩, ⟨(some 38), (some (36, true)), (ql (tm 37))⟩, ⟨(some 39), (some (36, true)), (qf 0 (tm 3))⟩, ⟨(some 40), (some (36, true)), (ql (tm 39))⟩, ⟨(some 41), (some (36, true)), (qb .sub (tm 40) (ci 1))⟩, ⟨(some 42), (some (36, true)), (qc 39 [(tm 38), (ci 0), (tm 41)] [[], [], []])⟩, xo 43 (.i (.pick (tm 36) (tm 42) (cb false))), xo 6 (qm (tm 43))])
    .ret)
    (.seq (rg [xo 45 (qb .eql (tm 32) (ci 2)), xo 44 (qm (tm 45))])
    (.cond (tm 44)
      (.seq (rg [xo 46 (qm (tm 7)), xo 47 (qm (tm 46)), ⟨(some 48), (some (47, true)), (qf 2 (tm 5))⟩, ⟨(some 49), (some (47, true)), (ql (tm 48))⟩, ⟨(some 50), (some (47, true)), (qb .eql (tm 49) (ci 0))⟩, xo 51 (.i (.pick (tm 47) (tm 50) (cb false))), xo 6 (qm (tm 51))])
      .ret)
      (.seq (rg [xo 53 (qb .eql (tm 32) (ci 3)), xo 52 (qm (tm 53))])
      (.cond (tm 52)
        (.seq (rg [xo 54 (qf 4 (tm 5)), xo 55 (ql (tm 54)), xo 56 (qb .eql (tm 55) (ci 0)), xo 6 (qm (tm 56))])
        .ret)
        (.seq (rg [xo 58 (qb .eql (tm 32) (ci 4)), xo 57 (qm (tm 58))])
        (.cond (tm 57)
          (.seq (rg [xo 59 (qf 3 (tm 5)), xo 60 (ql (tm 59)), xo 61 (qb .eql (tm 60) (ci 0)), xo 62 (qm (tm 61)), ⟨(some 63), (some (62, true)), (qm (tm 1))⟩, ⟨(some 64), (some (62, true)), (qf 4 (tm 5))⟩, ⟨(some 65), (some (62, true)), (ql (tm 64))⟩, ⟨(some 66), (some (62, true)), (qc 70 [(tm 63), (tm 65)] [[], []])⟩, xo 67 (.i (.pick (tm 62) (tm 66) (cb false))), xo 6 (qm (tm 67))])
          .ret)
          (.seq (.seq (rg [xo 69 (qb .eql (tm 32) (ci 5)), xo 68 (qm (tm 69))])
          (.cond (tm 68)
            .skip
            (rg [xo 70 (qb .eql (tm 32) (ci 6)), xo 68 (qm (tm 70))])))
          (.cond (tm 68)
            (.seq (rg [xo 71 (qm (tm 7)), xo 72 (qm (tm 71)), ⟨(some 73), (some (72, true)), (qf 2 (tm 5))⟩, ⟨(some 74), (some (72, true)), (ql (tm 73))⟩, ⟨(some 75), (some (72, true)), (qf 2 (tm 3))⟩, ⟨(some 76), (some (72, true)), (ql (tm 75))⟩, ⟨(some 77), (some (72, true)), (qb .sub (tm 76) (ci 1))⟩, ⟨(some 78), (some (72, true)), (qc 39 [(tm 74), (ci 0), (tm 77)] [[], [], []])⟩, xo 79 (.i (.pick (tm 72) (tm 78) (cb false))), xo 6 (qm (tm 79))])
            .ret)
            (.seq (rg [xo 81 (qb .eql (tm 32) (ci 7)), xo 80 (qm (tm 81))])
            (.cond (tm 80)
              (.seq (rg [xo 82 (qm (tm 7)), xo 83 (qm (tm 82)), ⟨(some 84), (some (83, true)), (qf 2 (tm 5))⟩, ⟨(some 85), (some (83, true)), (ql (tm 84))⟩, ⟨(some 86), (some (83, true)), (qf 1 (tm 3))⟩, ⟨(some 87), (some (83, true)), (ql (tm 86))⟩, ⟨(some 88), (some (83, true)), (qb .sub (tm 87) (ci 1))⟩, ⟨(some 89), (some (83, true)), (qc 39 [(tm 85), (ci 0), (tm 88)] [[], [], []])⟩, xo 90 (.i (.pick (tm 83) (tm 89) (cb false))), xo 6 (qm (tm 90))])
              .ret)
              .skip))))))))))))))
  (.seq (rg [xo 6 (qm (cb false))])
  .ret)))))
def r_impl_Program_isInstr : List Res := [.tmp 6]
theorem c_impl_Program_isInstr : compiled Tryd.prog Tryd.f61 = some (m_impl_Program_isInstr, r_impl_Program_isInstr) := by kernel_rfl
theorem hb_impl_Program_isInstr : hasBody Tryd.prog 61 = true := by kernel_rfl
def L_impl_Program_isInstr (a0_0 : Int) (a0_1 : Int) (a0_2 : Int) (a0_3 : Int) (a0_4 : List (Int × Int × Int × Int × Int)) (a1 : Int) (a2_0 : Int) (a2_1 : Int) (a2_2 : Int) (a2_3 : Int) (a2_4 : Int) : Option Bool :=
  Option.bind (Option.bind (L_impl_within a2_1 0 (IntKind.i64.wrap (a0_3 - 1))) fun y4 =>
  cond (!y4)
    (some true)
    (Option.bind (L_impl_Instr_reads a2_0 a2_1 a2_2 a2_3 a2_4) fun y6 =>
    Option.bind (L_impl_areBelow y6 a0_3) fun y7 =>
    some (!y7))) fun l3_m22 =>
cond l3_m22
  (some false)
  (Option.bind (cond (a2_3 == 0)
      (some (a2_4 == 0))
      (some false)) fun l10_m7 =>
  cond (a2_0 == 1)
    (Option.bind (cond l10_m7
        (Option.bind (L_impl_within a2_2 0 (IntKind.i64.wrap (a0_0 - 1))) fun y18 =>
        some y18)
        (some false)) fun l16_m6 =>
    some l16_m6)
    (cond (a2_0 == 2)
      (Option.bind (cond l10_m7
          (some (a2_2 == 0))
          (some false)) fun l21_m6 =>
      some l21_m6)
      (cond (a2_0 == 3)
        (some (a2_4 == 0))
        (cond (a2_0 == 4)
          (Option.bind (cond (a2_3 == 0)
              (Option.bind (L_impl_isElement a1 a2_4) fun y30 =>
              some y30)
              (some false)) fun l28_m6 =>
          some l28_m6)
          (Option.bind (cond (a2_0 == 5)
              (some (a2_0 == 5))
              (some (a2_0 == 6))) fun l31_m68 =>
          cond l31_m68
            (Option.bind (cond l10_m7
                (Option.bind (L_impl_within a2_2 0 (IntKind.i64.wrap (a0_2 - 1))) fun y37 =>
                some y37)
                (some false)) fun l35_m6 =>
            some l35_m6)
            (cond (a2_0 == 7)
              (Option.bind (cond l10_m7
                  (Option.bind (L_impl_within a2_2 0 (IntKind.i64.wrap (a0_1 - 1))) fun y42 =>
                  some y42)
                  (some false)) fun l40_m6 =>
              some l40_m6)
              (some false)))))))
def rv_impl_Program_isInstr (r : Bool) : RV := ⟨false, [(false, [.sc (.bool r)])]⟩
theorem ok_impl_Program_isInstr {a0_0 : Int} {a0_1 : Int} {a0_2 : Int} {a0_3 : Int} {a0_4 : List (Int × Int × Int × Int × Int)} {a1 : Int} {a2_0 : Int} {a2_1 : Int} {a2_2 : Int} {a2_3 : Int} {a2_4 : Int} {r : Bool} (h : L_impl_Program_isInstr a0_0 a0_1 a0_2 a0_3 a0_4 a1 a2_0 a2_1 a2_2 a2_3 a2_4 = some r) : CallOK Tryd.prog Tab 61 [(.agg [(ai a0_0), (ai a0_1), (ai a0_2), (ai a0_3), (.tree (.pair .int (.pair .int (.pair .int (.pair .int .int)))) a0_4)]), (ai a1), (.agg [(ai a2_0), (ai a2_1), (ai a2_2), (ai a2_3), (ai a2_4)])] (rv_impl_Program_isInstr r) := by
  refine call_of_ (by kernel_rfl) Tryd.func61 c_impl_Program_isInstr (n := 91) (by kernel_rfl) (by simp) (tl := [(0, (.agg [(ai a0_0), (ai a0_1), (ai a0_2), (ai a0_3), (.tree (.pair .int (.pair .int (.pair .int (.pair .int .int)))) a0_4)])), (1, (ai a1)), (2, (.agg [(ai a2_0), (ai a2_1), (ai a2_2), (ai a2_3), (ai a2_4)]))]) rfl ?_
  unfold m_impl_Program_isInstr
  unfold L_impl_Program_isInstr at h
  refine seqR ?_
  refine awp_seqv_ ?_
  refine awp_seqB h (fun (l3_m22 : Bool) S_ => S_ = ⟨mkTm [(1, (ai a1)), (3, (.box (oi 0 1) 0)), (5, (.box (oi 1 1) 0)), (22, (.bool l3_m22))], mkOb (someL [((oi 0 1), .cells 29 [(ai a0_0), (ai a0_1), (ai a0_2), (ai a0_3), (.tree (.pair .int (.pair .int (.pair .int (.pair .int .int)))) a0_4)]), ((oi 1 1), .cells 69 [(ai a2_0), (ai a2_1), (ai a2_2), (ai a2_3), (ai a2_4)])]), 2⟩) ?_ ?_
  · intro v_ h
    obtain ⟨y4, h4, h⟩ := ob_some h
    rcases cond_some h with ⟨q5, h⟩ | ⟨q5, h⟩
    · refine awp_regionD_ 19 ?_
      refine ds0 (.box (oi 5 2) 1) (by kernel_rfl) ?_
      refine dsl (ai a2_1) (by kernel_rfl) ?_
      refine ds0 (.box (oi 3 1) 3) (by kernel_rfl) ?_
      refine dsl (ai a0_3) (by kernel_rfl) ?_
      refine ds0 (ai (IntKind.i64.wrap (a0_3 - 1))) (by kernel_rfl) ?_
      refine dcall (.bool y4) [] [(ai a2_1), (ai 0), (ai (IntKind.i64.wrap (a0_3 - 1)))] _ (caps := []) (args0 := [(ai a2_1), (ai 0), (ai (IntKind.i64.wrap (a0_3 - 1)))]) trivial (by kernel_rfl) (ok_impl_within h4) hb_impl_within ?_
      refine ds0 (.bool (!y4)) (by kernel_rfl) ?_
      refine ds0 (.bool (!y4)) (by kernel_rfl) ?_
      refine ds0 (.tup []) (s_skip (by kernel_rfl) q5) ?_
      refine ds0 (.tup []) (s_skip (by kernel_rfl) q5) ?_
      refine ds0 (.tup []) (s_skip (by kernel_rfl) q5) ?_
      refine ds0 (.tup []) (s_skip (by kernel_rfl) q5) ?_
      refine ds0 (.tup []) (s_skip (by kernel_rfl) q5) ?_
      refine ds0 (.tup []) (s_skip (by kernel_rfl) q5) ?_
      refine ds0 (.bool true) (s_pickT (by kernel_rfl) q5) ?_
      refine dnil (badB_spec (by kernel_rfl)) (tn_ ?_)
      obtain rfl := Option.some.inj h
      exact ⟨_, (weak_ren [((oi 0 1), (oi 3 1)), ((oi 1 1), (oi 5 2))]), rfl⟩
    obtain ⟨y6, h6, h⟩ := ob_some h
    obtain ⟨y7, h7, h⟩ := ob_some h
    refine awp_regionD_ 19 ?_
    refine ds0 (.box (oi 5 2) 1) (by kernel_rfl) ?_
    refine dsl (ai a2_1) (by kernel_rfl) ?_
    refine ds0 (.box (oi 3 1) 3) (by kernel_rfl) ?_
    refine dsl (ai a0_3) (by kernel_rfl) ?_
    refine ds0 (ai (IntKind.i64.wrap (a0_3 - 1))) (by kernel_rfl) ?_
    refine dcall (.bool y4) [] [(ai a2_1), (ai 0), (ai (IntKind.i64.wrap (a0_3 - 1)))] _ (caps := []) (args0 := [(ai a2_1), (ai 0), (ai (IntKind.i64.wrap (a0_3 - 1)))]) trivial (by kernel_rfl) (ok_impl_within h4) hb_impl_within ?_
    refine ds0 (.bool (!y4)) (by kernel_rfl) ?_
    refine ds0 (.bool (!y4)) (by kernel_rfl) ?_
    refine dsl (.agg [(ai a2_0), (ai a2_1), (ai a2_2), (ai a2_3), (ai a2_4)]) (s_gd (by kernel_rfl) q5 (by kernel_rfl)) ?_
    refine dcall (.own (oi 272 13) .int 0 y6.length) [((oi 272 13), some (.arr 3 .int y6))] [(.agg [(ai a2_0), (ai a2_1), (ai a2_2), (ai a2_3), (ai a2_4)])] _ (caps := []) (args0 := [(.agg [(ai a2_0), (ai a2_1), (ai a2_2), (ai a2_3), (ai a2_4)])]) (gdOK_b (by kernel_rfl) q5) (by kernel_rfl) (ok_impl_Instr_reads h6) hb_impl_Instr_reads ?_
    refine ds0 (.box (oi 3 1) 3) (s_gd (by kernel_rfl) q5 (by kernel_rfl)) ?_
    refine dsl (ai a0_3) (s_gd (by kernel_rfl) q5 (by kernel_rfl)) ?_
    refine dcall (.bool y7) [] [(.own (oi 272 13) .int 0 y6.length), (ai a0_3)] _ (caps := []) (args0 := [(.tree .int y6), (ai a0_3)]) (gdOK_b (by kernel_rfl) q5) (gm_cons (gd_own (e := 3) (by kernel_rfl) rfl) (gm_cons (by kernel_rfl) gm_nil)) (ok_impl_areBelow h7) hb_impl_areBelow ?_
    refine ds0 (.bool (!y7)) (s_gd (by kernel_rfl) q5 (by kernel_rfl)) ?_
    refine ds0 (.bool (!y7)) (s_pickF (by kernel_rfl) q5) ?_
    refine dnil (badB_spec (by kernel_rfl)) (tn_ ?_)
    obtain rfl := Option.some.inj h
    exact ⟨_, (weak_ren [((oi 0 1), (oi 3 1)), ((oi 1 1), (oi 5 2))]), rfl⟩
  rintro l3_m22 _ rfl h
  (try dsimp only at h)
  rcases cond_some h with ⟨q8, h⟩ | ⟨q8, h⟩
  · refine awp_condT_ q8 ?_
    refine seqR ?_
    refine awp_ret_ (tr_ ?_)
    obtain rfl := Option.some.inj h
    exact ret_ [(.bool false)] (p_one rfl (l_sc (by kernel_rfl)) p_nil)
  refine awp_condF_ q8 ?_
  refine awp_skip_ (tn_ ?_)
  refine ⟨_, Weak.refl _, ?_⟩
  refine awp_seqB h (fun (l10_m7 : Bool) S_ => S_ = ⟨mkTm [(1, (ai a1)), (3, (.box (oi 0 1) 0)), (5, (.box (oi 1 1) 0)), (7, (.bool l10_m7))], mkOb (someL [((oi 0 1), .cells 29 [(ai a0_0), (ai a0_1), (ai a0_2), (ai a0_3), (.tree (.pair .int (.pair .int (.pair .int (.pair .int .int)))) a0_4)]), ((oi 1 1), .cells 69 [(ai a2_0), (ai a2_1), (ai a2_2), (ai a2_3), (ai a2_4)])]), 2⟩) ?_ ?_
  · intro v_ h
    rcases cond_some h with ⟨q11, h⟩ | ⟨q11, h⟩
    · refine awp_region_ 11 ?_
      refine rs0 (.box (oi 1 1) 3) (by kernel_rfl) ?_
      refine rsl (ai a2_3) (by kernel_rfl) ?_
      refine rs0 (.bool (a2_3 == 0)) (by kernel_rfl) ?_
      refine rs0 (.bool (a2_3 == 0)) (by kernel_rfl) ?_
      refine rs0 (.box (oi 1 1) 4) (s_gd (by kernel_rfl) q11 (by kernel_rfl)) ?_
      refine rsl (ai a2_4) (s_gd (by kernel_rfl) q11 (by kernel_rfl)) ?_
      refine rs0 (.bool (a2_4 == 0)) (s_gd (by kernel_rfl) q11 (by kernel_rfl)) ?_
      refine rs0 (.bool (a2_4 == 0)) (s_pickT (by kernel_rfl) q11) ?_
      refine rsB 1 ?_
      refine rnil (tn_ ?_)
      obtain rfl := Option.some.inj h
      exact ⟨_, (weak_ren []), rfl⟩
    refine awp_region_ 11 ?_
    refine rs0 (.box (oi 1 1) 3) (by kernel_rfl) ?_
    refine rsl (ai a2_3) (by kernel_rfl) ?_
    refine rs0 (.bool (a2_3 == 0)) (by kernel_rfl) ?_
    refine rs0 (.bool (a2_3 == 0)) (by kernel_rfl) ?_
    refine rs0 (.tup []) (s_skip (by kernel_rfl) q11) ?_
    refine rs0 (.tup []) (s_skip (by kernel_rfl) q11) ?_
    refine rs0 (.tup []) (s_skip (by kernel_rfl) q11) ?_
    refine rs0 (.bool false) (s_pickF (by kernel_rfl) q11) ?_
    refine rsB 1 ?_
    refine rnil (tn_ ?_)
    obtain rfl := Option.some.inj h
    exact ⟨_, (weak_ren []), rfl⟩
  rintro l10_m7 _ rfl h
  (try dsimp only at h)
  refine awp_seqv_ ?_
  refine seqR ?_
  refine awp_block_ ?_
  refine seqR ?_
  rcases cond_some h with ⟨q15, h⟩ | ⟨q15, h⟩
  · refine awp_condT_ q15 ?_
    refine awp_seqB h (fun (l16_m6 : Bool) S_ => S_ = ⟨mkTm [(6, (.bool l16_m6))], mkOb (someL []), 2⟩) ?_ ?_
    · intro v_ h
      rcases cond_some h with ⟨q17, h⟩ | ⟨q17, h⟩
      · obtain ⟨y18, h18, h⟩ := ob_some h
        refine awp_region_ 16 ?_
        refine rs0 (.bool l10_m7) (by kernel_rfl) ?_
        refine rs0 (.bool l10_m7) (by kernel_rfl) ?_
        refine rs0 (.box (oi 1 1) 2) (s_gd (by kernel_rfl) q17 (by kernel_rfl)) ?_
        refine rsl (ai a2_2) (s_gd (by kernel_rfl) q17 (by kernel_rfl)) ?_
        refine rs0 (.box (oi 0 1) 0) (s_gd (by kernel_rfl) q17 (by kernel_rfl)) ?_
        refine rsl (ai a0_0) (s_gd (by kernel_rfl) q17 (by kernel_rfl)) ?_
        refine rs0 (ai (IntKind.i64.wrap (a0_0 - 1))) (s_gd (by kernel_rfl) q17 (by kernel_rfl)) ?_
        refine rcall (.bool y18) [] [(ai a2_2), (ai 0), (ai (IntKind.i64.wrap (a0_0 - 1)))] _ (caps := []) (args0 := [(ai a2_2), (ai 0), (ai (IntKind.i64.wrap (a0_0 - 1)))]) (gdOK_b (by kernel_rfl) q17) (by kernel_rfl) (ok_impl_within h18) hb_impl_within ?_
        refine rs0 (.bool y18) (s_pickT (by kernel_rfl) q17) ?_
        refine rsB 1 ?_
        refine rnil (tn_ ?_)
        obtain rfl := Option.some.inj h
        exact ⟨_, (weak_ren []), rfl⟩
      refine awp_region_ 16 ?_
      refine rs0 (.bool l10_m7) (by kernel_rfl) ?_
      refine rs0 (.bool l10_m7) (by kernel_rfl) ?_
      refine rs0 (.tup []) (s_skip (by kernel_rfl) q17) ?_
      refine rs0 (.tup []) (s_skip (by kernel_rfl) q17) ?_
      refine rs0 (.tup []) (s_skip (by kernel_rfl) q17) ?_
      refine rs0 (.tup []) (s_skip (by kernel_rfl) q17) ?_
      refine rs0 (.tup []) (s_skip (by kernel_rfl) q17) ?_
      refine rs0 (.tup []) (s_skip (by kernel_rfl) q17) ?_
      refine rs0 (.bool false) (s_pickF (by kernel_rfl) q17) ?_
      refine rsB 1 ?_
      refine rnil (tn_ ?_)
      obtain rfl := Option.some.inj h
      exact ⟨_, (weak_ren []), rfl⟩
    rintro l16_m6 _ rfl h
    (try dsimp only at h)
    refine awp_ret_ (br_ (tr_ ?_))
    obtain rfl := Option.some.inj h
    exact ret_ [(.bool l16_m6)] (p_one rfl (l_sc (by kernel_rfl)) p_nil)
  refine awp_condF_ q15 ?_
  refine seqR ?_
  rcases cond_some h with ⟨q20, h⟩ | ⟨q20, h⟩
  · refine awp_condT_ q20 ?_
    refine awp_seqB h (fun (l21_m6 : Bool) S_ => S_ = ⟨mkTm [(6, (.bool l21_m6))], mkOb (someL []), 2⟩) ?_ ?_
    · intro v_ h
      rcases cond_some h with ⟨q22, h⟩ | ⟨q22, h⟩
      · refine awp_region_ 15 ?_
        refine rs0 (.bool l10_m7) (by kernel_rfl) ?_
        refine rs0 (.bool l10_m7) (by kernel_rfl) ?_
        refine rs0 (.box (oi 1 1) 2) (s_gd (by kernel_rfl) q22 (by kernel_rfl)) ?_
        refine rsl (ai a2_2) (s_gd (by kernel_rfl) q22 (by kernel_rfl)) ?_
        refine rs0 (.bool (a2_2 == 0)) (s_gd (by kernel_rfl) q22 (by kernel_rfl)) ?_
        refine rs0 (.bool (a2_2 == 0)) (s_pickT (by kernel_rfl) q22) ?_
        refine rsB 1 ?_
        refine rnil (tn_ ?_)
        obtain rfl := Option.some.inj h
        exact ⟨_, (weak_ren []), rfl⟩
      refine awp_region_ 15 ?_
      refine rs0 (.bool l10_m7) (by kernel_rfl) ?_
      refine rs0 (.bool l10_m7) (by kernel_rfl) ?_
      refine rs0 (.tup []) (s_skip (by kernel_rfl) q22) ?_
      refine rs0 (.tup []) (s_skip (by kernel_rfl) q22) ?_
      refine rs0 (.tup []) (s_skip (by kernel_rfl) q22) ?_
      refine rs0 (.bool false) (s_pickF (by kernel_rfl) q22) ?_
      refine rsB 1 ?_
      refine rnil (tn_ ?_)
      obtain rfl := Option.some.inj h
      exact ⟨_, (weak_ren []), rfl⟩
    rintro l21_m6 _ rfl h
    (try dsimp only at h)
    refine awp_ret_ (br_ (tr_ ?_))
    obtain rfl := Option.some.inj h
    exact ret_ [(.bool l21_m6)] (p_one rfl (l_sc (by kernel_rfl)) p_nil)
  refine awp_condF_ q20 ?_
  refine seqR ?_
  rcases cond_some h with ⟨q24, h⟩ | ⟨q24, h⟩
  · refine awp_condT_ q24 ?_
    refine seqR ?_
    refine awp_ret_ (br_ (tr_ ?_))
    obtain rfl := Option.some.inj h
    exact ret_ [(.bool (a2_4 == 0))] (p_one rfl (l_sc (by kernel_rfl)) p_nil)
  refine awp_condF_ q24 ?_
  refine seqR ?_
  rcases cond_some h with ⟨q27, h⟩ | ⟨q27, h⟩
  · refine awp_condT_ q27 ?_
    refine awp_seqB h (fun (l28_m6 : Bool) S_ => S_ = ⟨mkTm [(6, (.bool l28_m6))], mkOb (someL []), 2⟩) ?_ ?_
    · intro v_ h
      rcases cond_some h with ⟨q29, h⟩ | ⟨q29, h⟩
      · obtain ⟨y30, h30, h⟩ := ob_some h
        refine awp_region_ 22 ?_
        refine rs0 (.box (oi 1 1) 3) (by kernel_rfl) ?_
        refine rsl (ai a2_3) (by kernel_rfl) ?_
        refine rs0 (.bool (a2_3 == 0)) (by kernel_rfl) ?_
        refine rs0 (.bool (a2_3 == 0)) (by kernel_rfl) ?_
        refine rs0 (ai a1) (s_gd (by kernel_rfl) q29 (by kernel_rfl)) ?_
        refine rs0 (.box (oi 1 1) 4) (s_gd (by kernel_rfl) q29 (by kernel_rfl)) ?_
        refine rsl (ai a2_4) (s_gd (by kernel_rfl) q29 (by kernel_rfl)) ?_
        refine rcall (.bool y30) [] [(ai a1), (ai a2_4)] _ (caps := []) (args0 := [(ai a1), (ai a2_4)]) (gdOK_b (by kernel_rfl) q29) (by kernel_rfl) (ok_impl_isElement h30) hb_impl_isElement ?_
        refine rs0 (.bool y30) (s_pickT (by kernel_rfl) q29) ?_
        refine rsB 1 ?_
        refine rnil (tn_ ?_)
        obtain rfl := Option.some.inj h
        exact ⟨_, (weak_ren []), rfl⟩
      refine awp_region_ 22 ?_
      refine rs0 (.box (oi 1 1) 3) (by kernel_rfl) ?_
      refine rsl (ai a2_3) (by kernel_rfl) ?_
      refine rs0 (.bool (a2_3 == 0)) (by kernel_rfl) ?_
      refine rs0 (.bool (a2_3 == 0)) (by kernel_rfl) ?_
      refine rs0 (.tup []) (s_skip (by kernel_rfl) q29) ?_
      refine rs0 (.tup []) (s_skip (by kernel_rfl) q29) ?_
      refine rs0 (.tup []) (s_skip (by kernel_rfl) q29) ?_
      refine rs0 (.tup []) (s_skip (by kernel_rfl) q29) ?_
      refine rs0 (.bool false) (s_pickF (by kernel_rfl) q29) ?_
      refine rsB 1 ?_
      refine rnil (tn_ ?_)
      obtain rfl := Option.some.inj h
      exact ⟨_, (weak_ren []), rfl⟩
    rintro l28_m6 _ rfl h
    (try dsimp only at h)
    refine awp_ret_ (br_ (tr_ ?_))
    obtain rfl := Option.some.inj h
    exact ret_ [(.bool l28_m6)] (p_one rfl (l_sc (by kernel_rfl)) p_nil)
  refine awp_condF_ q27 ?_
  refine awp_seqB h (fun (l31_m68 : Bool) S_ => S_ = ⟨mkTm [(3, (.box (oi 0 1) 0)), (5, (.box (oi 1 1) 0)), (7, (.bool l10_m7)), (32, (ai a2_0)), (68, (.bool l31_m68))], mkOb (someL [((oi 0 1), .cells 29 [(ai a0_0), (ai a0_1), (ai a0_2), (ai a0_3), (.tree (.pair .int (.pair .int (.pair .int (.pair .int .int)))) a0_4)]), ((oi 1 1), .cells 69 [(ai a2_0), (ai a2_1), (ai a2_2), (ai a2_3), (ai a2_4)])]), 2⟩) ?_ ?_
  · intro v_ h
    refine seqR ?_
    rcases cond_some h with ⟨q33, h⟩ | ⟨q33, h⟩
    · refine awp_condT_ q33 ?_
      refine awp_skip_ (tn_ ?_)
      obtain rfl := Option.some.inj h
      exact ⟨_, (weak_ren []), rfl⟩
    refine awp_condF_ q33 ?_
    refine awp_region_ 16 ?_
    refine rsB 2 ?_
    refine rnil (tn_ ?_)
    obtain rfl := Option.some.inj h
    exact ⟨_, (weak_ren []), rfl⟩
  rintro l31_m68 _ rfl h
  (try dsimp only at h)
  rcases cond_some h with ⟨q34, h⟩ | ⟨q34, h⟩
  · refine awp_condT_ q34 ?_
    refine awp_seqB h (fun (l35_m6 : Bool) S_ => S_ = ⟨mkTm [(6, (.bool l35_m6))], mkOb (someL []), 2⟩) ?_ ?_
    · intro v_ h
      rcases cond_some h with ⟨q36, h⟩ | ⟨q36, h⟩
      · obtain ⟨y37, h37, h⟩ := ob_some h
        refine awp_region_ 12 ?_
        refine rs0 (.bool l10_m7) (by kernel_rfl) ?_
        refine rs0 (.bool l10_m7) (by kernel_rfl) ?_
        refine rs0 (.box (oi 1 1) 2) (s_gd (by kernel_rfl) q36 (by kernel_rfl)) ?_
        refine rsl (ai a2_2) (s_gd (by kernel_rfl) q36 (by kernel_rfl)) ?_
        refine rs0 (.box (oi 0 1) 2) (s_gd (by kernel_rfl) q36 (by kernel_rfl)) ?_
        refine rsl (ai a0_2) (s_gd (by kernel_rfl) q36 (by kernel_rfl)) ?_
        refine rs0 (ai (IntKind.i64.wrap (a0_2 - 1))) (s_gd (by kernel_rfl) q36 (by kernel_rfl)) ?_
        refine rcall (.bool y37) [] [(ai a2_2), (ai 0), (ai (IntKind.i64.wrap (a0_2 - 1)))] _ (caps := []) (args0 := [(ai a2_2), (ai 0), (ai (IntKind.i64.wrap (a0_2 - 1)))]) (gdOK_b (by kernel_rfl) q36) (by kernel_rfl) (ok_impl_within h37) hb_impl_within ?_
        refine rs0 (.bool y37) (s_pickT (by kernel_rfl) q36) ?_
        refine rsB 1 ?_
        refine rnil (tn_ ?_)
        obtain rfl := Option.some.inj h
        exact ⟨_, (weak_ren []), rfl⟩
      refine awp_region_ 12 ?_
      refine rs0 (.bool l10_m7) (by kernel_rfl) ?_
      refine rs0 (.bool l10_m7) (by kernel_rfl) ?_
      refine rs0 (.tup []) (s_skip (by kernel_rfl) q36) ?_
      refine rs0 (.tup []) (s_skip (by kernel_rfl) q36) ?_
      refine rs0 (.tup []) (s_skip (by kernel_rfl) q36) ?_
      refine rs0 (.tup []) (s_skip (by kernel_rfl) q36) ?_
      refine rs0 (.tup []) (s_skip (by kernel_rfl) q36) ?_
      refine rs0 (.tup []) (s_skip (by kernel_rfl) q36) ?_
      refine rs0 (.bool false) (s_pickF (by kernel_rfl) q36) ?_
      refine rsB 1 ?_
      refine rnil (tn_ ?_)
      obtain rfl := Option.some.inj h
      exact ⟨_, (weak_ren []), rfl⟩
    rintro l35_m6 _ rfl h
    (try dsimp only at h)
    refine awp_ret_ (br_ (tr_ ?_))
    obtain rfl := Option.some.inj h
    exact ret_ [(.bool l35_m6)] (p_one rfl (l_sc (by kernel_rfl)) p_nil)
  refine awp_condF_ q34 ?_
  refine seqR ?_
  rcases cond_some h with ⟨q39, h⟩ | ⟨q39, h⟩
  · refine awp_condT_ q39 ?_
    refine awp_seqB h (fun (l40_m6 : Bool) S_ => S_ = ⟨mkTm [(6, (.bool l40_m6))], mkOb (someL []), 2⟩) ?_ ?_
    · intro v_ h
      rcases cond_some h with ⟨q41, h⟩ | ⟨q41, h⟩
      · obtain ⟨y42, h42, h⟩ := ob_some h
        refine awp_region_ 14 ?_
        refine rs0 (.bool l10_m7) (by kernel_rfl) ?_
        refine rs0 (.bool l10_m7) (by kernel_rfl) ?_
        refine rs0 (.box (oi 1 1) 2) (s_gd (by kernel_rfl) q41 (by kernel_rfl)) ?_
        refine rsl (ai a2_2) (s_gd (by kernel_rfl) q41 (by kernel_rfl)) ?_
        refine rs0 (.box (oi 0 1) 1) (s_gd (by kernel_rfl) q41 (by kernel_rfl)) ?_
        refine rsl (ai a0_1) (s_gd (by kernel_rfl) q41 (by kernel_rfl)) ?_
        refine rs0 (ai (IntKind.i64.wrap (a0_1 - 1))) (s_gd (by kernel_rfl) q41 (by kernel_rfl)) ?_
        refine rcall (.bool y42) [] [(ai a2_2), (ai 0), (ai (IntKind.i64.wrap (a0_1 - 1)))] _ (caps := []) (args0 := [(ai a2_2), (ai 0), (ai (IntKind.i64.wrap (a0_1 - 1)))]) (gdOK_b (by kernel_rfl) q41) (by kernel_rfl) (ok_impl_within h42) hb_impl_within ?_
        refine rs0 (.bool y42) (s_pickT (by kernel_rfl) q41) ?_
        refine rsB 1 ?_
        refine rnil (tn_ ?_)
        obtain rfl := Option.some.inj h
        exact ⟨_, (weak_ren []), rfl⟩
      refine awp_region_ 14 ?_
      refine rs0 (.bool l10_m7) (by kernel_rfl) ?_
      refine rs0 (.bool l10_m7) (by kernel_rfl) ?_
      refine rs0 (.tup []) (s_skip (by kernel_rfl) q41) ?_
      refine rs0 (.tup []) (s_skip (by kernel_rfl) q41) ?_
      refine rs0 (.tup []) (s_skip (by kernel_rfl) q41) ?_
      refine rs0 (.tup []) (s_skip (by kernel_rfl) q41) ?_
      refine rs0 (.tup []) (s_skip (by kernel_rfl) q41) ?_
      refine rs0 (.tup []) (s_skip (by kernel_rfl) q41) ?_
      refine rs0 (.bool false) (s_pickF (by kernel_rfl) q41) ?_
      refine rsB 1 ?_
      refine rnil (tn_ ?_)
      obtain rfl := Option.some.inj h
      exact ⟨_, (weak_ren []), rfl⟩
    rintro l40_m6 _ rfl h
    (try dsimp only at h)
    refine awp_ret_ (br_ (tr_ ?_))
    obtain rfl := Option.some.inj h
    exact ret_ [(.bool l40_m6)] (p_one rfl (l_sc (by kernel_rfl)) p_nil)
  refine awp_condF_ q39 ?_
  refine awp_skip_ (bn_ (tn_ ?_))
  refine ⟨_, Weak.refl _, ?_⟩
  refine seqR ?_
  refine awp_ret_ ?_
  obtain rfl := Option.some.inj h
  exact ret_ [(.bool false)] (p_one rfl (l_sc (by kernel_rfl)) p_nil)
def m_impl_isProgram_1 : AC :=
  (.seq (rg [xo 3 (.i (.box 69 (tm 0))), xo 4 (qm (cb false))])
  (.seq (rg [xo 5 (.i (.ld false 5 (tm 1))), xo 6 (ql (tm 2)), xo 7 (.i (.ld false 5 (tm 3))), ⟨(some 8), none, (qc 61 [(tm 5), (tm 6), (tm 7)] [[none, none, none, none, (some (.pair .int (.pair .int (.pair .int (.pair .int .int)))))], [], [none, none, none, none, none]])⟩, xo 9 (.i (.not (tm 8))), xo 4 (qm (tm 9))])
  .ret))
def r_impl_isProgram_1 : List Res := [.tmp 4]
theorem c_impl_isProgram_1 : compiled Tryd.prog Tryd.f60 = some (m_impl_isProgram_1, r_impl_isProgram_1) := by kernel_rfl
theorem hb_impl_isProgram_1 : hasBody Tryd.prog 60 = true := by kernel_rfl
def L_impl_isProgram_1 (a0_0 : Int) (a0_1 : Int) (a0_2 : Int) (a0_3 : Int) (a0_4 : Int) (c0_0 : Int) (c0_1 : Int) (c0_2 : Int) (c0_3 : Int) (c0_4 : List (Int × Int × Int × Int × Int)) (c1_0 : Int) : Option Bool :=
  Option.bind (L_impl_Program_isInstr c0_0 c0_1 c0_2 c0_3 c0_4 c1_0 a0_0 a0_1 a0_2 a0_3 a0_4) fun y3 =>
some (!y3)
def rv_impl_isProgram_1 (r : Bool) : RV := ⟨false, [(false, [.sc (.bool r)])]⟩
theorem ok_impl_isProgram_1 {a0_0 : Int} {a0_1 : Int} {a0_2 : Int} {a0_3 : Int} {a0_4 : Int} {c0_0 : Int} {c0_1 : Int} {c0_2 : Int} {c0_3 : Int} {c0_4 : List (Int × Int × Int × Int × Int)} {c1_0 : Int} {r : Bool} (h : L_impl_isProgram_1 a0_0 a0_1 a0_2 a0_3 a0_4 c0_0 c0_1 c0_2 c0_3 c0_4 c1_0 = some r) : CallOK Tryd.prog Tab 60 [(.agg [(ai a0_0), (ai a0_1), (ai a0_2), (ai a0_3), (ai a0_4)]), (.ref [(ai c0_0), (ai c0_1), (ai c0_2), (ai c0_3), (.tree (.pair .int (.pair .int (.pair .int (.pair .int .int)))) c0_4)]), (.ref [(ai c1_0)])] (rv_impl_isProgram_1 r) := by
  refine call_of_ (by kernel_rfl) Tryd.func60 c_impl_isProgram_1 (n := 10) (by kernel_rfl) (by simp) (tl := [(0, (.agg [(ai a0_0), (ai a0_1), (ai a0_2), (ai a0_3), (ai a0_4)])), (1, (.ref [(ai c0_0), (ai c0_1), (ai c0_2), (ai c0_3), (.tree (.pair .int (.pair .int (.pair .int (.pair .int .int)))) c0_4)])), (2, (.ref [(ai c1_0)]))]) rfl ?_
  unfold m_impl_isProgram_1
  unfold L_impl_isProgram_1 at h
  refine seqR ?_
  refine awp_seqv_ ?_
  obtain ⟨y3, h3, h⟩ := ob_some h
  refine awp_region_ 9 ?_
  refine rs0 (.agg [(ai c0_0), (ai c0_1), (ai c0_2), (ai c0_3), (.tree (.pair .int (.pair .int (.pair .int (.pair .int .int)))) c0_4)]) (by kernel_rfl) ?_
  refine rs0 (ai c1_0) (by kernel_rfl) ?_
  refine rsl (.agg [(ai a0_0), (ai a0_1), (ai a0_2), (ai a0_3), (ai a0_4)]) (by kernel_rfl) ?_
  refine rcall (.bool y3) [] [(.agg [(ai c0_0), (ai c0_1), (ai c0_2), (ai c0_3), (.tree (.pair .int (.pair .int (.pair .int (.pair .int .int)))) c0_4)]), (ai c1_0), (.agg [(ai a0_0), (ai a0_1), (ai a0_2), (ai a0_3), (ai a0_4)])] _ (caps := []) (args0 := [(.agg [(ai c0_0), (ai c0_1), (ai c0_2), (ai c0_3), (.tree (.pair .int (.pair .int (.pair .int (.pair .int .int)))) c0_4)]), (ai c1_0), (.agg [(ai a0_0), (ai a0_1), (ai a0_2), (ai a0_3), (ai a0_4)])]) trivial (by kernel_rfl) (ok_impl_Program_isInstr h3) hb_impl_Program_isInstr ?_
  refine rsB 2 ?_
  refine rnil (tn_ ?_)
  refine ⟨_, Weak.refl _, ?_⟩
  refine awp_ret_ ?_
  obtain rfl := Option.some.inj h
  exact ret_ [(.bool (!y3))] (p_one rfl (l_sc (by kernel_rfl)) p_nil)
def m_slices_IndexFunc_impl_Instr_impl_Instr_l1 : AC :=
  (.seq (rg [xo 9 (qb .lss (tm 8) (tm 7))])
  (.seq (.cond (tm 9)
    .skip
    (.exit 0))
  (.seq (.block 1 (.seq (rg [xo 10 (qm (tm 8)), xo 5 (qm (tm 10))])
  (.seq (rg [xo 11 (qm (tm 1)), xo 12 (qm (tm 0)), xo 13 (qm (tm 5)), xo 14 (qx 5 (tm 12) (tm 13)), xo 15 (.i (.ld false 5 (tm 14))), xo 16 (.call (tm 11) [(tm 15)] [[none, none, none, none, none]])])
  (.cond (tm 16)
    (.seq (rg [xo 17 (qm (tm 5)), xo 4 (qm (tm 17))])
    .ret)
    .skip))))
  (rg [xo 18 (qb .add (tm 8) (ci 1)), xo 8 (qm (tm 18))]))))
def m_slices_IndexFunc_impl_Instr_impl_Instr : AC :=
  (.seq (rg [xo 4 (qm (ci 0))])
  (.seq (.seq (rg [xo 6 (qm (tm 0)), xo 7 (.i (.len (tm 6))), xo 8 (qm (ci 0))])
  (.block 0 (.loop m_slices_IndexFunc_impl_Instr_impl_Instr_l1)))
  (.seq (rg [xo 4 (qm (ci (-1)))])
  .ret)))
def r_slices_IndexFunc_impl_Instr_impl_Instr : List Res := [.tmp 4]
theorem c_slices_IndexFunc_impl_Instr_impl_Instr : compiled Tryd.prog Tryd.f75 = some (m_slices_IndexFunc_impl_Instr_impl_Instr, r_slices_IndexFunc_impl_Instr_impl_Instr) := by kernel_rfl
theorem hb_slices_IndexFunc_impl_Instr_impl_Instr : hasBody Tryd.prog 75 = true := by kernel_rfl
def L_slices_IndexFunc_impl_Instr_impl_Instr_for_impl_isProgram_1_l1 (a0 : List (Int × Int × Int × Int × Int)) (a1_0_0 : Int) (a1_0_1 : Int) (a1_0_2 : Int) (a1_0_3 : Int) (a1_0_4 : List (Int × Int × Int × Int × Int)) (a1_1_0 : Int) (l4_m8 : Nat) : Option (Ctl Nat (Ctl Unit Int)) :=
  cond (decide (((l4_m8 : Nat) : Int) < ((a0.length : Nat) : Int)))
  (Option.bind (a0[l4_m8]?) fun x11 =>
  Option.bind (L_impl_isProgram_1 x11.1 x11.2.1 x11.2.2.1 x11.2.2.2.1 x11.2.2.2.2 a1_0_0 a1_0_1 a1_0_2 a1_0_3 a1_0_4 a1_1_0) fun y12 =>
  cond y12
    (some (Ctl.out (Ctl.out ((l4_m8 : Nat) : Int))))
    (og (l4_m8 + 1 < 4611686018427387904) <|
    some (Ctl.next (l4_m8 + 1))))
  (some (Ctl.out (Ctl.next ())))
def L_slices_IndexFunc_impl_Instr_impl_Instr_for_impl_isProgram_1 (a0 : List (Int × Int × Int × Int × Int)) (a1_0_0 : Int) (a1_0_1 : Int) (a1_0_2 : Int) (a1_0_3 : Int) (a1_0_4 : List (Int × Int × Int × Int × Int)) (a1_1_0 : Int) : Option Int :=
  seqC (loopM (fun s_ : Nat => L_slices_IndexFunc_impl_Instr_impl_Instr_for_impl_isProgram_1_l1 a0 a1_0_0 a1_0_1 a1_0_2 a1_0_3 a1_0_4 a1_1_0 s_) 4611686018427387904 0) fun _ =>
some (-1)
def rv_slices_IndexFunc_impl_Instr_impl_Instr_for_impl_isProgram_1 (r : Int) : RV := ⟨false, [(false, [.sc (.int .i64 r)])]⟩
theorem ok_slices_IndexFunc_impl_Instr_impl_Instr_for_impl_isProgram_1 {a0 : List (Int × Int × Int × Int × Int)} {a1_0_0 : Int} {a1_0_1 : Int} {a1_0_2 : Int} {a1_0_3 : Int} {a1_0_4 : List (Int × Int × Int × Int × Int)} {a1_1_0 : Int} {r : Int} (h : L_slices_IndexFunc_impl_Instr_impl_Instr_for_impl_isProgram_1 a0 a1_0_0 a1_0_1 a1_0_2 a1_0_3 a1_0_4 a1_1_0 = some r) : CallOK Tryd.prog Tab 75 [(.tree (.pair .int (.pair .int (.pair .int (.pair .int .int)))) a0), (.fn 60 [(.ref [(ai a1_0_0), (ai a1_0_1), (ai a1_0_2), (ai a1_0_3), (.tree (.pair .int (.pair .int (.pair .int (.pair .int .int)))) a1_0_4)]), (.ref [(ai a1_1_0)])])] (rv_slices_IndexFunc_impl_Instr_impl_Instr_for_impl_isProgram_1 r) := by
  refine call_of_ (by kernel_rfl) Tryd.func75 c_slices_IndexFunc_impl_Instr_impl_Instr (n := 19) (by kernel_rfl) (by simp) (tl := [(0, (.tree (.pair .int (.pair .int (.pair .int (.pair .int .int)))) a0)), (1, (.fn 60 [(.ref [(ai a1_0_0), (ai a1_0_1), (ai a1_0_2), (ai a1_0_3), (.tree (.pair .int (.pair .int (.pair .int (.pair .int .int)))) a1_0_4)]), (.ref [(ai a1_1_0)])]))]) rfl ?_
  unfold m_slices_IndexFunc_impl_Instr_impl_Instr
  unfold L_slices_IndexFunc_impl_Instr_impl_Instr_for_impl_isProgram_1 at h
  refine seqR ?_
  refine awp_seqC h (fun (_ : Unit) S_ => S_ = ⟨mkTm [], mkOb (someL []), 2⟩) ?_ ?_
  · intro v_ h hk2
    refine seqR ?_
    refine awp_block_ ?_
    refine awp_loopL h (fun (l4_m8 : Nat) S_ => S_ = ⟨mkTm [(0, (.tree (.pair .int (.pair .int (.pair .int (.pair .int .int)))) a0)), (1, (.fn 60 [(.ref [(ai a1_0_0), (ai a1_0_1), (ai a1_0_2), (ai a1_0_3), (.tree (.pair .int (.pair .int (.pair .int (.pair .int .int)))) a1_0_4)]), (.ref [(ai a1_1_0)])])), (7, (ai ((a0.length : Nat) : Int))), (8, (ai ((l4_m8 : Nat) : Int)))], mkOb (someL []), 2⟩) ⟨_, (weak_ren []), rfl⟩ ?_
    rintro n_ l4_m8 _ c_ rfl h hn4
    (try dsimp only at h)
    unfold L_slices_IndexFunc_impl_Instr_impl_Instr_for_impl_isProgram_1_l1 at h
    unfold m_slices_IndexFunc_impl_Instr_impl_Instr_l1
    refine seqR ?_
    refine awp_seqv_ ?_
    rcases cond_some h with ⟨q7, h⟩ | ⟨q7, h⟩
    · have q7_ := of_decide_eq_true q7
      refine awp_condT_ q7 ?_
      refine awp_skip_ (tn_ ?_)
      refine ⟨_, Weak.refl _, ?_⟩
      refine awp_seqv_ ?_
      refine awp_block_ ?_
      refine seqR ?_
      refine awp_seqv_ ?_
      obtain ⟨x11, e11, h⟩ := ob_some h
      obtain ⟨y12, h12, h⟩ := ob_some h
      refine awp_region_ 11 ?_
      refine rs0 (.fn 60 [(.ref [(ai a1_0_0), (ai a1_0_1), (ai a1_0_2), (ai a1_0_3), (.tree (.pair .int (.pair .int (.pair .int (.pair .int .int)))) a1_0_4)]), (.ref [(ai a1_1_0)])]) (by kernel_rfl) ?_
      refine rs0 (.tree (.pair .int (.pair .int (.pair .int (.pair .int .int)))) a0) (by kernel_rfl) ?_
      refine rs0 (ai ((l4_m8 : Nat) : Int)) (by kernel_rfl) ?_
      refine rs0 (.telt (.pair .int (.pair .int (.pair .int (.pair .int .int)))) x11 0) (s_idxT (t := (.pair .int (.pair .int (.pair .int (.pair .int .int))))) (xs := a0) (k := .i64) (m := ((l4_m8 : Nat) : Int)) (by kernel_rfl) (by kernel_rfl) rfl (nat_nn _) rfl e11) ?_
      refine rs0 (.agg [(ai x11.1), (ai x11.2.1), (ai x11.2.2.1), (ai x11.2.2.2.1), (ai x11.2.2.2.2)]) (by kernel_rfl) ?_
      refine rcall (.bool y12) [] [(.agg [(ai x11.1), (ai x11.2.1), (ai x11.2.2.1), (ai x11.2.2.2.1), (ai x11.2.2.2.2)]), (.ref [(ai a1_0_0), (ai a1_0_1), (ai a1_0_2), (ai a1_0_3), (.tree (.pair .int (.pair .int (.pair .int (.pair .int .int)))) a1_0_4)]), (.ref [(ai a1_1_0)])] _ (caps := [(.ref [(ai a1_0_0), (ai a1_0_1), (ai a1_0_2), (ai a1_0_3), (.tree (.pair .int (.pair .int (.pair .int (.pair .int .int)))) a1_0_4)]), (.ref [(ai a1_1_0)])]) (args0 := [(.agg [(ai x11.1), (ai x11.2.1), (ai x11.2.2.1), (ai x11.2.2.2.1), (ai x11.2.2.2.2)]), (.ref [(ai a1_0_0), (ai a1_0_1), (ai a1_0_2), (ai a1_0_3), (.tree (.pair .int (.pair .int (.pair .int (.pair .int .int)))) a1_0_4)]), (.ref [(ai a1_1_0)])]) trivial (by kernel_rfl) (ok_impl_isProgram_1 h12) hb_impl_isProgram_1 ?_
      refine rnil (tn_ ?_)
      refine ⟨_, Weak.refl _, ?_⟩
      rcases cond_some h with ⟨q13, h⟩ | ⟨q13, h⟩
      · refine awp_condT_ q13 ?_
        refine seqR ?_
        refine awp_ret_ (br_ (tr_ (tr_ (br_ (tr_ ?_)))))
        obtain rfl := Option.some.inj h
        have h := hn4
        (try dsimp only at h)
        obtain rfl := Option.some.inj h
        have h := hk2
        (try dsimp only at h)
        obtain rfl := Option.some.inj h
        exact ret_ [(ai ((l4_m8 : Nat) : Int))] (p_one rfl (l_sc (by kernel_rfl)) p_nil)
      refine awp_condF_ q13 ?_
      refine awp_skip_ (bn_ (tn_ ?_))
      refine ⟨_, Weak.refl _, ?_⟩
      obtain ⟨g15, h⟩ := og_some h
      refine awp_region_ 13 ?_
      refine rs0 (ai ((l4_m8 + 1 : Nat) : Int)) (s_add1 (j := l4_m8) (by kernel_rfl) (by kernel_rfl) g15) ?_
      refine rsB 1 ?_
      refine rnil (tn_ ?_)
      obtain rfl := Option.some.inj h
      exact ⟨l4_m8 + 1, _, (weak_ren []), rfl, hn4⟩
    have q7_ := of_decide_eq_false q7
    refine awp_condF_ q7 ?_
    refine awp_exit_ (te_ (te_ (be_ (tn_ ?_))))
    obtain rfl := Option.some.inj h
    have h := hn4
    (try dsimp only at h)
    obtain rfl := Option.some.inj h
    exact ⟨(), _, rfl, (weak_ren []), rfl⟩
  rintro _ _ rfl h
  (try dsimp only at h)
  refine seqR ?_
  refine awp_ret_ ?_
  obtain rfl := Option.some.inj h
  exact ret_ [(ai (-1))] (p_one rfl (l_sc (by kernel_rfl)) p_nil)
def m_slices_ContainsFunc_impl_Instr_impl_Instr : AC :=
  (.seq (rg [xo 4 (qm (cb false))])
  (.seq (rg [xo 5 (qm (tm 0)), xo 6 (qm (tm 1)), ⟨(some 7), none, (qc 75 [(tm 5), (tm 6)] [[(some (.pair .int (.pair .int (.pair .int (.pair .int .int)))))], []])⟩, xo 8 (qb .geq (tm 7) (ci 0)), xo 4 (qm (tm 8))])
  .ret))
def r_slices_ContainsFunc_impl_Instr_impl_Instr : List Res := [.tmp 4]
theorem c_slices_ContainsFunc_impl_Instr_impl_Instr : compiled Tryd.prog Tryd.f59 = some (m_slices_ContainsFunc_impl_Instr_impl_Instr, r_slices_ContainsFunc_impl_Instr_impl_Instr) := by kernel_rfl
theorem hb_slices_ContainsFunc_impl_Instr_impl_Instr : hasBody Tryd.prog 59 = true := by kernel_rfl
def L_slices_ContainsFunc_impl_Instr_impl_Instr_for_impl_isProgram_1 (a0 : List (Int × Int × Int × Int × Int)) (a1_0_0 : Int) (a1_0_1 : Int) (a1_0_2 : Int) (a1_0_3 : Int) (a1_0_4 : List (Int × Int × Int × Int × Int)) (a1_1_0 : Int) : Option Bool :=
  Option.bind (L_slices_IndexFunc_impl_Instr_impl_Instr_for_impl_isProgram_1 a0 a1_0_0 a1_0_1 a1_0_2 a1_0_3 a1_0_4 a1_1_0) fun y3 =>
some (decide (0 ≤ y3))
def rv_slices_ContainsFunc_impl_Instr_impl_Instr_for_impl_isProgram_1 (r : Bool) : RV := ⟨false, [(false, [.sc (.bool r)])]⟩
theorem ok_slices_ContainsFunc_impl_Instr_impl_Instr_for_impl_isProgram_1 {a0 : List (Int × Int × Int × Int × Int)} {a1_0_0 : Int} {a1_0_1 : Int} {a1_0_2 : Int} {a1_0_3 : Int} {a1_0_4 : List (Int × Int × Int × Int × Int)} {a1_1_0 : Int} {r : Bool} (h : L_slices_ContainsFunc_impl_Instr_impl_Instr_for_impl_isProgram_1 a0 a1_0_0 a1_0_1 a1_0_2 a1_0_3 a1_0_4 a1_1_0 = some r) : CallOK Tryd.prog Tab 59 [(.tree (.pair .int (.pair .int (.pair .int (.pair .int .int)))) a0), (.fn 60 [(.ref [(ai a1_0_0), (ai a1_0_1), (ai a1_0_2), (ai a1_0_3), (.tree (.pair .int (.pair .int (.pair .int (.pair .int .int)))) a1_0_4)]), (.ref [(ai a1_1_0)])])] (rv_slices_ContainsFunc_impl_Instr_impl_Instr_for_impl_isProgram_1 r) := by
  refine call_of_ (by kernel_rfl) Tryd.func59 c_slices_ContainsFunc_impl_Instr_impl_Instr (n := 9) (by kernel_rfl) (by simp) (tl := [(0, (.tree (.pair .int (.pair .int (.pair .int (.pair .int .int)))) a0)), (1, (.fn 60 [(.ref [(ai a1_0_0), (ai a1_0_1), (ai a1_0_2), (ai a1_0_3), (.tree (.pair .int (.pair .int (.pair .int (.pair .int .int)))) a1_0_4)]), (.ref [(ai a1_1_0)])]))]) rfl ?_
  unfold m_slices_ContainsFunc_impl_Instr_impl_Instr
  unfold L_slices_ContainsFunc_impl_Instr_impl_Instr_for_impl_isProgram_1 at h
  refine seqR ?_
  refine awp_seqv_ ?_
  obtain ⟨y3, h3, h⟩ := ob_some h
  refine awp_region_ 7 ?_
  refine rs0 (.tree (.pair .int (.pair .int (.pair .int (.pair .int .int)))) a0) (by kernel_rfl) ?_
  refine rs0 (.fn 60 [(.ref [(ai a1_0_0), (ai a1_0_1), (ai a1_0_2), (ai a1_0_3), (.tree (.pair .int (.pair .int (.pair .int (.pair .int .int)))) a1_0_4)]), (.ref [(ai a1_1_0)])]) (by kernel_rfl) ?_
  refine rcall (ai y3) [] [(.tree (.pair .int (.pair .int (.pair .int (.pair .int .int)))) a0), (.fn 60 [(.ref [(ai a1_0_0), (ai a1_0_1), (ai a1_0_2), (ai a1_0_3), (.tree (.pair .int (.pair .int (.pair .int (.pair .int .int)))) a1_0_4)]), (.ref [(ai a1_1_0)])])] _ (caps := []) (args0 := [(.tree (.pair .int (.pair .int (.pair .int (.pair .int .int)))) a0), (.fn 60 [(.ref [(ai a1_0_0), (ai a1_0_1), (ai a1_0_2), (ai a1_0_3), (.tree (.pair .int (.pair .int (.pair .int (.pair .int .int)))) a1_0_4)]), (.ref [(ai a1_1_0)])])]) trivial (by kernel_rfl) (ok_slices_IndexFunc_impl_Instr_impl_Instr_for_impl_isProgram_1 h3) hb_slices_IndexFunc_impl_Instr_impl_Instr ?_
  refine rsB 2 ?_
  refine rnil (tn_ ?_)
  refine ⟨_, Weak.refl _, ?_⟩
  refine awp_ret_ ?_
  obtain rfl := Option.some.inj h
  exact ret_ [(.bool (decide (0 ≤ y3)))] (p_one rfl (l_sc (by kernel_rfl)) p_nil)
def m_impl_isProgram : AC :=
  (.seq (rg [xo 2 (.i (.box 3 (tm 0))), xo 3 (.i (.box 29 (tm 1))), xo 4 (qm (cb false))])
  (.seq (.seq (rg [xo 5 (ql (tm 2)), xo 6 (qc 58 [(tm 5)] [[]]), xo 7 (.i (.not (tm 6))), xo 8 (qm (tm 7)), ⟨(some 9), (some (8, false)), (qf 0 (tm 3))⟩, ⟨(some 10), (some (8, false)), (ql (tm 9))⟩, ⟨(some 11), (some (8, false)), (qc 39 [(tm 10), (ci 0), (ci 8)] [[], [], []])⟩, ⟨(some 12), (some (8, false)), (.i (.not (tm 11)))⟩, xo 13 (.i (.pick (tm 8) (cb true) (tm 12))), xo 14 (qm (tm 13)), ⟨(some 15), (some (14, false)), (qf 1 (tm 3))⟩, ⟨(some 16), (some (14, false)), (ql (tm 15))⟩, ⟨(some 17), (some (14, false)), (qc 39 [(tm 16), (ci 0), (ci 8)] [[], [], []])⟩, ⟨(some 18), (some (14, false)), (.i (.not (tm 17)))⟩, xo 19 (.i (.pick (tm 14) (cb true) (tm 18))), xo 20 (qm (tm 19)), ⟨(some 21), (some (20, false)), (qf 2 (tm 3))⟩, ⟨(some 22), (some (20, false)), (ql (tm 21))⟩, ⟨(some 23), (some (20, false)), (qc 39 [(tm 22), (ci 0), (ci 40)] [[], [], []])⟩, ⟨(some 24), (some (20, false)), (.i (.not (tm 23)))⟩, xo 25 (.i (.pick (tm 20) (cb true) (tm 24))), xo 26 (qm (tm 25)), ⟨(some 27), (some (26, false)), (qf 3 (tm 3))⟩, ⟨(some 28), (some (26, false)), (ql (tm 27))⟩, ⟨(some 29), (some (26, false)), (qc 39 [(tm 28), (ci 0), (ci 16)] [[], [], []])⟩, ⟨(some 30), (some (26, false)), (.i (.not (tm 29)))⟩, xo 31 (.i (.pick (tm 26) (cb true) (tm 30))), xo 32 (qm (tm 31)), ⟨(some 33), (some (32, false)), (qf 4 (tm 3))⟩, ⟨(some 34), (some (32, false)), (ql (tm 33))⟩, ⟨(some 35), (some (32, false)), (.i (.len (tm 34)))⟩, ⟨(some 36), (some (32, false)), (qb .gtr (tm 35) (ci 120))⟩, xo 37 (.i (.pick (tm 32) (cb true) (tm 36)))])
  (.cond (tm 37)
    (.seq (rg [xo 4 (qm (cb false))])
    .ret)
    .skip))
  (.seq (rg [xo 38 (qf 4 (tm 3)), xo 39 (ql (tm 38)), xo 40 (.i (.mkfn 60 [(tm 3), (tm 2)])), ⟨(some 41), none, (qc 59 [(tm 39), (tm 40)] [[(some (.pair .int (.pair .int (.pair .int (.pair .int .int)))))], []])⟩, xo 42 (.i (.not (tm 41))), xo 4 (qm (tm 42))])
  .ret)))
def r_impl_isProgram : List Res := [.tmp 4]
theorem c_impl_isProgram : compiled Tryd.prog Tryd.f35 = some (m_impl_isProgram, r_impl_isProgram) := by kernel_rfl
theorem hb_impl_isProgram : hasBody Tryd.prog 35 = true := by kernel_rfl
def L_impl_isProgram (a0 : Int) (a1_0 : Int) (a1_1 : Int) (a1_2 : Int) (a1_3 : Int) (a1_4 : List (Int × Int × Int × Int × Int)) : Option Bool :=
  Option.bind (Option.bind (L_impl_isField a0) fun y4 =>
  cond (!y4)
    (some true)
    (Option.bind (L_impl_within a1_0 0 8) fun y6 =>
    cond (!y6)
      (some true)
      (Option.bind (L_impl_within a1_1 0 8) fun y8 =>
      cond (!y8)
        (some true)
        (Option.bind (L_impl_within a1_2 0 40) fun y10 =>
        cond (!y10)
          (some true)
          (Option.bind (L_impl_within a1_3 0 16) fun y12 =>
          cond (!y12)
            (some true)
            (some (decide (120 < ((a1_4.length : Nat) : Int))))))))) fun l3_m37 =>
cond l3_m37
  (some false)
  (Option.bind (L_slices_ContainsFunc_impl_Instr_impl_Instr_for_impl_isProgram_1 a1_4 a1_0 a1_1 a1_2 a1_3 a1_4 a0) fun y17 =>
  some (!y17))
def rv_impl_isProgram (r : Bool) : RV := ⟨false, [(false, [.sc (.bool r)])]⟩
theorem ok_impl_isProgram {a0 : Int} {a1_0 : Int} {a1_1 : Int} {a1_2 : Int} {a1_3 : Int} {a1_4 : List (Int × Int × Int × Int × Int)} {r : Bool} (h : L_impl_isProgram a0 a1_0 a1_1 a1_2 a1_3 a1_4 = some r) : CallOK Tryd.prog Tab 35 [(ai a0), (.agg [(ai a1_0), (ai a1_1), (ai a1_2), (ai a1_3), (.tree (.pair .int (.pair .int (.pair .int (.pair .int .int)))) a1_4)])] (rv_impl_isProgram r) := by
  refine call_of_ (by kernel_rfl) Tryd.func35 c_impl_isProgram (n := 43) (by kernel_rfl) (by simp) (tl := [(0, (ai a0)), (1, (.agg [(ai a1_0), (ai a1_1), (ai a1_2), (ai a1_3), (.tree (.pair .int (.pair .int (.pair .int (.pair .int .int)))) a1_4)]))]) rfl ?_
  unfold m_impl_isProgram
  unfold L_impl_isProgram at h
  refine seqR ?_
  refine awp_seqv_ ?_
  refine awp_seqB h (fun (l3_m37 : Bool) S_ => S_ = ⟨mkTm [(2, (.box (oi 0 1) 0)), (3, (.box (oi 1 1) 0)), (37, (.bool l3_m37))], mkOb (someL [((oi 0 1), .cells 3 [(ai a0)]), ((oi 1 1), .cells 29 [(ai a1_0), (ai a1_1), (ai a1_2), (ai a1_3), (.tree (.pair .int (.pair .int (.pair .int (.pair .int .int)))) a1_4)])]), 2⟩) ?_ ?_
  · intro v_ h
    obtain ⟨y4, h4, h⟩ := ob_some h
    rcases cond_some h with ⟨q5, h⟩ | ⟨q5, h⟩
    · refine awp_region_ 37 ?_
      refine rsl (ai a0) (by kernel_rfl) ?_
      refine rcall (.bool y4) [] [(ai a0)] _ (caps := []) (args0 := [(ai a0)]) trivial (by kernel_rfl) (ok_impl_isField h4) hb_impl_isField ?_
      refine rs0 (.bool (!y4)) (by kernel_rfl) ?_
      refine rs0 (.bool (!y4)) (by kernel_rfl) ?_
      refine rs0 (.tup []) (s_skip (by kernel_rfl) q5) ?_
      refine rs0 (.tup []) (s_skip (by kernel_rfl) q5) ?_
      refine rs0 (.tup []) (s_skip (by kernel_rfl) q5) ?_
      refine rs0 (.tup []) (s_skip (by kernel_rfl) q5) ?_
      refine rs0 (.bool true) (s_pickT (by kernel_rfl) q5) ?_
      refine rsB 24 ?_
      refine rnil (tn_ ?_)
      obtain rfl := Option.some.inj h
      exact ⟨_, (weak_ren [((oi 0 1), (oi 2 1)), ((oi 1 1), (oi 3 2))]), rfl⟩
    obtain ⟨y6, h6, h⟩ := ob_some h
    rcases cond_some h with ⟨q7, h⟩ | ⟨q7, h⟩
    · refine awp_region_ 37 ?_
      refine rsl (ai a0) (by kernel_rfl) ?_
      refine rcall (.bool y4) [] [(ai a0)] _ (caps := []) (args0 := [(ai a0)]) trivial (by kernel_rfl) (ok_impl_isField h4) hb_impl_isField ?_
      refine rs0 (.bool (!y4)) (by kernel_rfl) ?_
      refine rs0 (.bool (!y4)) (by kernel_rfl) ?_
      refine rs0 (.box (oi 3 2) 0) (s_gd (by kernel_rfl) q5 (by kernel_rfl)) ?_
      refine rsl (ai a1_0) (s_gd (by kernel_rfl) q5 (by kernel_rfl)) ?_
      refine rcall (.bool y6) [] [(ai a1_0), (ai 0), (ai 8)] _ (caps := []) (args0 := [(ai a1_0), (ai 0), (ai 8)]) (gdOK_b (by kernel_rfl) q5) (by kernel_rfl) (ok_impl_within h6) hb_impl_within ?_
      refine rs0 (.bool (!y6)) (s_gd (by kernel_rfl) q5 (by kernel_rfl)) ?_
      refine rs0 (.bool (!y6)) (s_pickF (by kernel_rfl) q5) ?_
      refine rs0 (.bool (!y6)) (by kernel_rfl) ?_
      refine rs0 (.tup []) (s_skip (by kernel_rfl) q7) ?_
      refine rs0 (.tup []) (s_skip (by kernel_rfl) q7) ?_
      refine rs0 (.tup []) (s_skip (by kernel_rfl) q7) ?_
      refine rs0 (.tup []) (s_skip (by kernel_rfl) q7) ?_
      refine rs0 (.bool true) (s_pickT (by kernel_rfl) q7) ?_
      refine rsB 18 ?_
      refine rnil (tn_ ?_)
      obtain rfl := Option.some.inj h
      exact ⟨_, (weak_ren [((oi 0 1), (oi 2 1)), ((oi 1 1), (oi 3 2))]), rfl⟩
    obtain ⟨y8, h8, h⟩ := ob_some h
    rcases cond_some h with ⟨q9, h⟩ | ⟨q9, h⟩
    · refine awp_region_ 37 ?_
      refine rsl (ai a0) (by kernel_rfl) ?_
      refine rcall (.bool y4) [] [(ai a0)] _ (caps := []) (args0 := [(ai a0)]) trivial (by kernel_rfl) (ok_impl_isField h4) hb_impl_isField ?_
      refine rs0 (.bool (!y4)) (by kernel_rfl) ?_
      refine rs0 (.bool (!y4)) (by kernel_rfl) ?_
      refine rs0 (.box (oi 3 2) 0) (s_gd (by kernel_rfl) q5 (by kernel_rfl)) ?_
      refine rsl (ai a1_0) (s_gd (by kernel_rfl) q5 (by kernel_rfl)) ?_
      refine rcall (.bool y6) [] [(ai a1_0), (ai 0), (ai 8)] _ (caps := []) (args0 := [(ai a1_0), (ai 0), (ai 8)]) (gdOK_b (by kernel_rfl) q5) (by kernel_rfl) (ok_impl_within h6) hb_impl_within ?_
      refine rs0 (.bool (!y6)) (s_gd (by kernel_rfl) q5 (by kernel_rfl)) ?_
      refine rs0 (.bool (!y6)) (s_pickF (by kernel_rfl) q5) ?_
      refine rs0 (.bool (!y6)) (by kernel_rfl) ?_
      refine rs0 (.box (oi 3 2) 1) (s_gd (by kernel_rfl) q7 (by kernel_rfl)) ?_
      refine rsl (ai a1_1) (s_gd (by kernel_rfl) q7 (by kernel_rfl)) ?_
      refine rcall (.bool y8) [] [(ai a1_1), (ai 0), (ai 8)] _ (caps := []) (args0 := [(ai a1_1), (ai 0), (ai 8)]) (gdOK_b (by kernel_rfl) q7) (by kernel_rfl) (ok_impl_within h8) hb_impl_within ?_
      refine rs0 (.bool (!y8)) (s_gd (by kernel_rfl) q7 (by kernel_rfl)) ?_
      refine rs0 (.bool (!y8)) (s_pickF (by kernel_rfl) q7) ?_
      refine rs0 (.bool (!y8)) (by kernel_rfl) ?_
      refine rs0 (.tup []) (s_skip (by kernel_rfl) q9) ?_
      refine rs0 (.tup []) (s_skip (by kernel_rfl) q9) ?_
      refine rs0 (.tup []) (s_skip (by kernel_rfl) q9) ?_
      refine rs0 (.tup []) (s_skip (by kernel_rfl) q9) ?_
      refine rs0 (.bool true) (s_pickT (by kernel_rfl) q9) ?_
      refine rsB 12 ?_
      refine rnil (tn_ ?_)
      obtain rfl := Option.some.inj h
      exact ⟨_, (weak_ren [((oi 0 1), (oi 2 1)), ((oi 1 1), (oi 3 2))]), rfl⟩
    obtain ⟨y10, h10, h⟩ := ob_some h
    rcases cond_some h with ⟨q11, h⟩ | ⟨q11, h⟩
    · refine awp_region_ 37 ?_
      refine rsl (ai a0) (by kernel_rfl) ?_
      refine rcall (.bool y4) [] [(ai a0)] _ (caps := []) (args0 := [(ai a0)]) trivial (by kernel_rfl) (ok_impl_isField h4) hb_impl_isField ?_
      refine rs0 (.bool (!y4)) (by kernel_rfl) ?_
      refine rs0 (.bool (!y4)) (by kernel_rfl) ?_
      refine rs0 (.box (oi 3 2) 0) (s_gd (by kernel_rfl) q5 (by kernel_rfl)) ?_
      refine rsl (ai a1_0) (s_gd (by kernel_rfl) q5 (by kernel_rfl)) ?_
      refine rcall (.bool y6) [] [(ai a1_0), (ai 0), (ai 8)] _ (caps := []) (args0 := [(ai a1_0), (ai 0), (ai 8)]) (gdOK_b (by kernel_rfl) q5) (by kernel_rfl) (ok_impl_within h6) hb_impl_within ?_
      refine rs0 (.bool (!y6)) (s_gd (by kernel_rfl) q5 (by kernel_rfl)) ?_
      refine rs0 (.bool (!y6)) (s_pickF (by kernel_rfl) q5) ?_
      refine rs0 (.bool (!y6)) (by kernel_rfl) ?_
      refine rs0 (.box (oi 3 2) 1) (s_gd (by kernel_rfl) q7 (by kernel_rfl)) ?_
      refine rsl (ai a1_1) (s_gd (by kernel_rfl) q7 (by kernel_rfl)) ?_
      refine rcall (.bool y8) [] [(ai a1_1), (ai 0), (ai 8)] _ (caps := []) (args0 := [(ai a1_1), (ai 0), (ai 8)]) (gdOK_b (by kernel_rfl) q7) (by kernel_rfl) (ok_impl_within h8) hb_impl_within ?_
      refine rs0 (.bool (!y8)) (s_gd (by kernel_rfl) q7 (by kernel_rfl)) ?_
      refine rs0 (.bool (!y8)) (s_pickF (by kernel_rfl) q7) ?_
      refine rs0 (.bool (!y8)) (by kernel_rfl) ?_
      refine rs0 (.box (oi 3 2) 2) (s_gd (by kernel_rfl) q9 (by kernel_rfl)) ?_
      refine rsl (ai a1_2) (s_gd (by kernel_rfl) q9 (by kernel_rfl)) ?_
      refine rcall (.bool y10) [] [(ai a1_2), (ai 0), (ai 40)] _ (caps := []) (args0 := [(ai a1_2), (ai 0), (ai 40)]) (gdOK_b (by kernel_rfl) q9) (by kernel_rfl) (ok_impl_within h10) hb_impl_within ?_
      refine rs0 (.bool (!y10)) (s_gd (by kernel_rfl) q9 (by kernel_rfl)) ?_
      refine rs0 (.bool (!y10)) (s_pickF (by kernel_rfl) q9) ?_
      refine rs0 (.bool (!y10)) (by kernel_rfl) ?_
      refine rs0 (.tup []) (s_skip (by kernel_rfl) q11) ?_
      refine rs0 (.tup []) (s_skip (by kernel_rfl) q11) ?_
      refine rs0 (.tup []) (s_skip (by kernel_rfl) q11) ?_
      refine rs0 (.tup []) (s_skip (by kernel_rfl) q11) ?_
      refine rs0 (.bool true) (s_pickT (by kernel_rfl) q11) ?_
      refine rsB 6 ?_
      refine rnil (tn_ ?_)
      obtain rfl := Option.some.inj h
      exact ⟨_, (weak_ren [((oi 0 1), (oi 2 1)), ((oi 1 1), (oi 3 2))]), rfl⟩
    obtain ⟨y12, h12, h⟩ := ob_some h
    rcases cond_some h with ⟨q13, h⟩ | ⟨q13, h⟩
    · refine awp_region_ 37 ?_
      refine rsl (ai a0) (by kernel_rfl) ?_
      refine rcall (.bool y4) [] [(ai a0)] _ (caps := []) (args0 := [(ai a0)]) trivial (by kernel_rfl) (ok_impl_isField h4) hb_impl_isField ?_
      refine rs0 (.bool (!y4)) (by kernel_rfl) ?_
      refine rs0 (.bool (!y4)) (by kernel_rfl) ?_
      refine rs0 (.box (oi 3 2) 0) (s_gd (by kernel_rfl) q5 (by kernel_rfl)) ?_
      refine rsl (ai a1_0) (s_gd (by kernel_rfl) q5 (by kernel_rfl)) ?_
      refine rcall (.bool y6) [] [(ai a1_0), (ai 0), (ai 8)] _ (caps := []) (args0 := [(ai a1_0), (ai 0), (ai 8)]) (gdOK_b (by kernel_rfl) q5) (by kernel_rfl) (ok_impl_within h6) hb_impl_within ?_
      refine rs0 (.bool (!y6)) (s_gd (by kernel_rfl) q5 (by kernel_rfl)) ?_
      refine rs0 (.bool (!y6)) (s_pickF (by kernel_rfl) q5) ?_
      refine rs0 (.bool (!y6)) (by kernel_rfl) ?_
      refine rs0 (.box (oi 3 2) 1) (s_gd (by kernel_rfl) q7 (by kernel_rfl)) ?_
      refine rsl (ai a1_1) (s_gd (by kernel_rfl) q7 (by kernel_rfl)) ?_
      refine rcall (.bool y8) [] [(ai a1_1), (ai 0), (ai 8)] _ (caps := []) (args0 := [(ai a1_1), (ai 0), (ai 8)]) (gdOK_b (by kernel_rfl) q7) (by kernel_rfl) (ok_impl_within h8) hb_impl_within ?_
      refine rs0 (.bool (!y8)) (s_gd (by kernel_rfl) q7 (by kernel_rfl)) ?_
      refine rs0 (.bool (!y8)) (s_pickF (by kernel_rfl) q7) ?_
      refine rs0 (.bool (!y8)) (by kernel_rfl) ?_
      refine rs0 (.box (oi 3 2) 2) (s_gd (by kernel_rfl) q9 (by kernel_rfl)) ?_
      refine rsl (ai a1_2) (s_gd (by kernel_rfl) q9 (by kernel_rfl)) ?_
      refine rcall (.bool y10) [] [(ai a1_2), (ai 0), (ai 40)] _ (caps := []) (args0 := [(ai a1_2), (ai 0), (ai 40)]) (gdOK_b (by kernel_rfl) q9) (by kernel_rfl) (ok_impl_within h10) hb_impl_within ?_
      refine rs0 (.bool (!y10)) (s_gd (by kernel_rfl) q9 (by kernel_rfl)) ?_
      refine rs0 (.bool (!y10)) (s_pickF (by kernel_rfl) q9) ?_
      refine rs0 (.bool (!y10)) (by kernel_rfl) ?_
      refine rs0 (.box (oi 3 2) 3) (s_gd (by kernel_rfl) q11 (by kernel_rfl)) ?_
      refine rsl (ai a1_3) (s_gd (by kernel_rfl) q11 (by kernel_rfl)) ?_
      refine rcall (.bool y12) [] [(ai a1_3), (ai 0), (ai 16)] _ (caps := []) (args0 := [(ai a1_3), (ai 0), (ai 16)]) (gdOK_b (by kernel_rfl) q11) (by kernel_rfl) (ok_impl_within h12) hb_impl_within ?_
      refine rs0 (.bool (!y12)) (s_gd (by kernel_rfl) q11 (by kernel_rfl)) ?_
      refine rs0 (.bool (!y12)) (s_pickF (by kernel_rfl) q11) ?_
      refine rs0 (.bool (!y12)) (by kernel_rfl) ?_
      refine rs0 (.tup []) (s_skip (by kernel_rfl) q13) ?_
      refine rs0 (.tup []) (s_skip (by kernel_rfl) q13) ?_
      refine rs0 (.tup []) (s_skip (by kernel_rfl) q13) ?_
      refine rs0 (.tup []) (s_skip (by kernel_rfl) q13) ?_
      refine rs0 (.bool true) (s_pickT (by kernel_rfl) q13) ?_
      refine rnil (tn_ ?_)
      obtain rfl := Option.some.inj h
      exact ⟨_, (weak_ren [((oi 0 1), (oi 2 1)), ((oi 1 1), (oi 3 2))]), rfl⟩
    refine awp_region_ 37 ?_
    refine rsl (ai a0) (by kernel_rfl) ?_
    refine rcall (.bool y4) [] [(ai a0)] _ (caps := []) (args0 := [(ai a0)]) trivial (by kernel_rfl) (ok_impl_isField h4) hb_impl_isField ?_
    refine rs0 (.bool (!y4)) (by kernel_rfl) ?_
    refine rs0 (.bool (!y4)) (by kernel_rfl) ?_
    refine rs0 (.box (oi 3 2) 0) (s_gd (by kernel_rfl) q5 (by kernel_rfl)) ?_
    refine rsl (ai a1_0) (s_gd (by kernel_rfl) q5 (by kernel_rfl)) ?_
    refine rcall (.bool y6) [] [(ai a1_0), (ai 0), (ai 8)] _ (caps := []) (args0 := [(ai a1_0), (ai 0), (ai 8)]) (gdOK_b (by kernel_rfl) q5) (by kernel_rfl) (ok_impl_within h6) hb_impl_within ?_
    refine rs0 (.bool (!y6)) (s_gd (by kernel_rfl) q5 (by kernel_rfl)) ?_
    refine rs0 (.bool (!y6)) (s_pickF (by kernel_rfl) q5) ?_
    refine rs0 (.bool (!y6)) (by kernel_rfl) ?_
    refine rs0 (.box (oi 3 2) 1) (s_gd (by kernel_rfl) q7 (by kernel_rfl)) ?_
    refine rsl (ai a1_1) (s_gd (by kernel_rfl) q7 (by kernel_rfl)) ?_
    refine rcall (.bool y8) [] [(ai a1_1), (ai 0), (ai 8)] _ (caps := []) (args0 := [(ai a1_1), (ai 0), (ai 8)]) (gdOK_b (by kernel_rfl) q7) (by kernel_rfl) (ok_impl_within h8) hb_impl_within ?_
    refine rs0 (.bool (!y8)) (s_gd (by kernel_rfl) q7 (by kernel_rfl)) ?_
    refine rs0 (.bool (!y8)) (s_pickF (by kernel_rfl) q7) ?_
    refine rs0 (.bool (!y8)) (by kernel_rfl) ?_
    refine rs0 (.box (oi 3 2) 2) (s_gd (by kernel_rfl) q9 (by kernel_rfl)) ?_
    refine rsl (ai a1_2) (s_gd (by kernel_rfl) q9 (by kernel_rfl)) ?_
    refine rcall (.bool y10) [] [(ai a1_2), (ai 0), (ai 40)] _ (caps := []) (args0 := [(ai a1_2), (ai 0), (ai 40)]) (gdOK_b (by kernel_rfl) q9) (by kernel_rfl) (ok_impl_within h10) hb_impl_within ?_
    refine rs0 (.bool (!y10)) (s_gd (by kernel_rfl) q9 (by kernel_rfl)) ?_
    refine rs0 (.bool (!y10)) (s_pickF (by kernel_rfl) q9) ?_
    refine rs0 (.bool (!y10)) (by kernel_rfl) ?_
    refine rs0 (.box (oi 3 2) 3) (s_gd (by kernel_rfl) q11 (by kernel_rfl)) ?_
    refine rsl (ai a1_3) (s_gd (by kernel_rfl) q11 (by kernel_rfl)) ?_
    refine rcall (.bool y12) [] [(ai a1_3), (ai 0), (ai 16)] _ (caps := []) (args0 := [(ai a1_3), (ai 0), (ai 16)]) (gdOK_b (by kernel_rfl) q11) (by kernel_rfl) (ok_impl_within h12) hb_impl_within ?_
    refine rs0 (.bool (!y12)) (s_gd (by kernel_rfl) q11 (by kernel_rfl)) ?_
    refine rs0 (.bool (!y12)) (s_pickF (by kernel_rfl) q11) ?_
    refine rs0 (.bool (!y12)) (by kernel_rfl) ?_
    refine rs0 (.box (oi 3 2) 4) (s_gd (by kernel_rfl) q13 (by kernel_rfl)) ?_
    refine rsl (.tree (.pair .int (.pair .int (.pair .int (.pair .int .int)))) a1_4) (s_gd (by kernel_rfl) q13 (by kernel_rfl)) ?_
    refine rs0 (ai ((a1_4.length : Nat) : Int)) (s_gd (by kernel_rfl) q13 (by kernel_rfl)) ?_
    refine rs0 (.bool (decide (120 < ((a1_4.length : Nat) : Int)))) (s_gd (by kernel_rfl) q13 (by kernel_rfl)) ?_
    refine rs0 (.bool (decide (120 < ((a1_4.length : Nat) : Int)))) (s_pickF (by kernel_rfl) q13) ?_
    refine rnil (tn_ ?_)
    obtain rfl := Option.some.inj h
    exact ⟨_, (weak_ren [((oi 0 1), (oi 2 1)), ((oi 1 1), (oi 3 2))]), rfl⟩
  rintro l3_m37 _ rfl h
  (try dsimp only at h)
  rcases cond_some h with ⟨q14, h⟩ | ⟨q14, h⟩
  · refine awp_condT_ q14 ?_
    refine seqR ?_
    refine awp_ret_ (tr_ ?_)
    obtain rfl := Option.some.inj h
    exact ret_ [(.bool false)] (p_one rfl (l_sc (by kernel_rfl)) p_nil)
  refine awp_condF_ q14 ?_
  refine awp_skip_ (tn_ ?_)
  refine ⟨_, Weak.refl _, ?_⟩
  refine awp_seqv_ ?_
  obtain ⟨y17, h17, h⟩ := ob_some h
  refine awp_region_ 8 ?_
  refine rs0 (.box (oi 1 1) 4) (by kernel_rfl) ?_
  refine rsl (.tree (.pair .int (.pair .int (.pair .int (.pair .int .int)))) a1_4) (by kernel_rfl) ?_
  refine rs0 (.fn 60 [(.box (oi 1 1) 0), (.box (oi 0 1) 0)]) (by kernel_rfl) ?_
  refine rcall (.bool y17) [] [(.tree (.pair .int (.pair .int (.pair .int (.pair .int .int)))) a1_4), (.fn 60 [(.box (oi 1 1) 0), (.box (oi 0 1) 0)])] _ (caps := []) (args0 := [(.tree (.pair .int (.pair .int (.pair .int (.pair .int .int)))) a1_4), (.fn 60 [(.ref [(ai a1_0), (ai a1_1), (ai a1_2), (ai a1_3), (.tree (.pair .int (.pair .int (.pair .int (.pair .int .int)))) a1_4)]), (.ref [(ai a0)])])]) trivial (by kernel_rfl) (ok_slices_ContainsFunc_impl_Instr_impl_Instr_for_impl_isProgram_1 h17) hb_slices_ContainsFunc_impl_Instr_impl_Instr ?_
  refine rsB 2 ?_
  refine rnil (tn_ ?_)
  refine ⟨_, Weak.refl _, ?_⟩
  refine awp_ret_ ?_
  obtain rfl := Option.some.inj h
  exact ret_ [(.bool (!y17))] (p_one rfl (l_sc (by kernel_rfl)) p_nil)
end Go.Proofs.YtomijolkdmaimaaDoor
