/- Partial functions in place of code, and that the code does what they say: SPA. No condition. -/
import Derived.Test.YtomijolkdmaimaaDoorB2
namespace Go.Proofs.YtomijolkdmaimaaDoor
open Go.RowKit Go.Deep
set_option maxRecDepth 4000
def m_spec_cmStep_l1 : AC :=
  (.seq (.region [⟨(some 27), none, (.i (.bin .lss (.tmp 26) (.tmp 25)))⟩] false [])
  (.seq (.cond (.tmp 27)
    .skip
    (.exit 0))
  (.seq (.block 1 (.seq (.region [⟨(some 28), none, (.i (.idx 5 (.tmp 24) (.tmp 26)))⟩, ⟨(some 29), none, (.i (.ld false 5 (.tmp 28)))⟩, ⟨(some 14), none, (.i (.alloc 69 [(.int .i64 0), (.int .i64 0), (.int .i64 0), (.int .i64 0), (.int .i64 0)]))⟩, ⟨none, none, (.st false 5 (.tmp 14) (.tmp 29))⟩] false [])
  (.seq (.region [⟨(some 30), none, (.i (.fld 0 (.tmp 14)))⟩, ⟨(some 31), none, (.i (.ld true 1 (.tmp 30)))⟩] false [])
  (.block 2 (.seq (.region [⟨(some 42), none, (.i (.bin .eql (.tmp 31) (.cst (.int .i64 1))))⟩, ⟨(some 41), none, (.i (.mov (.tmp 42)))⟩] false [])
  (.cond (.tmp 41)
    (.region [⟨(some 43), none, (.i (.mov (.tmp 10)))⟩, ⟨(some 44), none, (.i (.fld 1 (.tmp 14)))⟩, ⟨(some 45), none, (.i (.ld true 1 (.tmp 44)))⟩, ⟨(some 46), none, (.i (.mov (.tmp 3)))⟩, ⟨(some 47), none, (.i (.fld 2 (.tmp 14)))⟩, ⟨(some 48), none, (.i (.ld true 1 (.tmp 47)))⟩, ⟨(some 49), none, (.i (.idx 1 (.tmp 46) (.tmp 48)))⟩, ⟨(some 50), none, (.i (.ld true 1 (.tmp 49)))⟩, ⟨(some 51), none, (.i (.idx 1 (.tmp 43) (.tmp 45)))⟩, ⟨none, none, (.st true 1 (.tmp 51) (.tmp 50))⟩] true [])
    (.seq (.region [⟨(some 53), none, (.i (.bin .eql (.tmp 31) (.cst (.int .i64 2))))⟩, ⟨(some 52), none, (.i (.mov (.tmp 53)))⟩] false [])
    (.cond (.tmp 52)
      (.region [⟨(some 54), none, (.i (.mov (.tmp 10)))⟩, ⟨(some 55), none, (.i (.fld 1 (.tmp 14)))⟩, ⟨(some 56), none, (.i (.ld true 1 (.tmp 55)))⟩, ⟨(some 57), none, (.i (.idx 1 (.tmp 54) (.tmp 56)))⟩, ⟨none, none, (.st true 1 (.tmp 57) (.cst (.int .i64 0)))⟩] false [])
      (.seq (.region [⟨(some 59), none, (.i (.bin .eql (.tmp 31) (.cst (.int .i64 3))))⟩, ⟨(some 58), none, (.i (.mov (.tmp 59)))⟩] false [])
      (.cond (.tmp 58)
        (.region [⟨(some 60), none, (.i (.mov (.tmp 10)))⟩, ⟨(some 61), none, (.i (.fld 1 (.tmp 14)))⟩, ⟨(some 62), none, (.i (.ld true 1 (.tmp 61)))⟩, ⟨(some 63), none, (.i (.mov (.tmp 0)))⟩, ⟨(some 64), none, (.i (.mov (.tmp 10)))⟩, ⟨(some 65), none, (.i (.fld 2 (.tmp 14)))⟩, ⟨(some 66), none, (.i (.ld true 1 (.tmp 65)))⟩, ⟨(some 67), none, (.i (.idx 1 (.tmp 64) (.tmp 66)))⟩, ⟨(some 68), none, (.i (.ld true 1 (.tmp 67)))⟩, ⟨(some 69), none, (.i (.mov (.tmp 10)))⟩, ⟨(some 70), none, (.i (.fld 3 (.tmp 14)))⟩, ⟨(some 71), none, (.i (.ld true 1 (.tmp 70)))⟩, ⟨(some 72), none, (.i (.idx 1 (.tmp 69) (.tmp 71)))⟩, ⟨(some 73), none, (.i (.ld true 1 (.tmp 72)))⟩, ⟨(some 74), none, (.call (.cst (.fn 68 [])) [(.tmp 63), (.tmp 68), (.tmp 73)] [[], [], []])⟩, ⟨(some 75), none, (.i (.idx 1 (.tmp 60) (.tmp 62)))⟩, ⟨none, none, (.st true 1 (.tmp 75) (.tmp 74))⟩] true [(2, 14)])
        (.seq (.region [⟨(some 77), none, (.i (.bin .eql (.tmp 31) (.cst (.int .i64 4))))⟩, ⟨(some 76), none, (.i (.mov (.tmp 77)))⟩] false [])
        (.cond (.tmp 76)
          (.region [⟨(some 78), none, (.i (.mov (.tmp 10)))⟩, ⟨(some 79), none, (.i (.fld 1 (.tmp 14)))⟩, ⟨(some 80), none, (.i (.ld true 1 (.tmp 79)))⟩, ⟨(some 81), none, (.i (.mov (.tmp 0)))⟩, ⟨(some 82), none, (.i (.fld 4 (.tmp 14)))⟩, ⟨(some 83), none, (.i (.ld true 1 (.tmp 82)))⟩, ⟨(some 84), none, (.i (.mov (.tmp 10)))⟩, ⟨(some 85), none, (.i (.fld 2 (.tmp 14)))⟩, ⟨(some 86), none, (.i (.ld true 1 (.tmp 85)))⟩, ⟨(some 87), none, (.i (.idx 1 (.tmp 84) (.tmp 86)))⟩, ⟨(some 88), none, (.i (.ld true 1 (.tmp 87)))⟩, ⟨(some 89), none, (.call (.cst (.fn 69 [])) [(.tmp 81), (.tmp 83), (.tmp 88)] [[], [], []])⟩, ⟨(some 90), none, (.i (.idx 1 (.tmp 78) (.tmp 80)))⟩, ⟨none, none, (.st true 1 (.tmp 90) (.tmp 89))⟩] true [(2, 11)])
          (.seq (.region [⟨(some 92), none, (.i (.bin .eql (.tmp 31) (.cst (.int .i64 5))))⟩, ⟨(some 91), none, (.i (.mov (.tmp 92)))⟩] false [])
          (.cond (.tmp 91)
            (.region [⟨(some 93), none, (.i (.mov (.tmp 10)))⟩, ⟨(some 94), none, (.i (.fld 1 (.tmp 14)))⟩, ⟨(some 95), none, (.i (.ld true 1 (.tmp 94)))⟩, ⟨(some 96), none, (.i (.mov (.tmp 12)))⟩, ⟨(some 97), none, (.i (.fld 2 (.tmp 14)))⟩, ⟨(some 98), none, (.i (.ld true 1 (.tmp 97)))⟩, ⟨(some 99), none, (.i (.idx 1 (.tmp 96) (.tmp 98)))⟩, ⟨(some 100), none, (.i (.ld true 1 (.tmp 99)))⟩, ⟨(some 101), none, (.i (.idx 1 (.tmp 93) (.tmp 95)))⟩, ⟨none, none, (.st true 1 (.tmp 101) (.tmp 100))⟩] true [])
            (.seq (.region [⟨(some 103), none, (.i (.bin .eql (.tmp 31) (.cst (.int .i64 6))))⟩, ⟨(some 102), none, (.i (.mov (.tmp 103)))⟩] false [])
            (.cond (.tmp 102)
              (.region [⟨(some 104), none, (.i (.mov (.tmp 12)))⟩, ⟨(some 105), none, (.i (.fld 2 (.tmp 14)))⟩, ⟨(some 106), none, (.i (.ld true 1 (.tmp 105)))⟩, ⟨(some 107), none, (.i (.mov (.tmp 10)))⟩, ⟨(some 108), none, (.i (.fld 1 (.tmp 14)))⟩, ⟨(some 109), none, (.i (.ld true 1 (.tmp 108)))⟩, ⟨(some 110), none, (.i (.idx 1 (.tmp 107) (.tmp 109)))⟩, ⟨(some 111), none, (.i (.ld true 1 (.tmp 110)))⟩, ⟨(some 112), none, (.i (.idx 1 (.tmp 104) (.tmp 106)))⟩, ⟨none, none, (.st true 1 (.tmp 112) (.tmp 111))⟩] true [])
              (.region [⟨(some 32), none, (.i (.mov (.tmp 11)))⟩, ⟨(some 33), none, (.i (.fld 2 (.tmp 14)))⟩, ⟨(some 34), none, (.i (.ld true 1 (.tmp 33)))⟩, ⟨(some 35), none, (.i (.mov (.tmp 10)))⟩, ⟨(some 36), none, (.i (.fld 1 (.tmp 14)))⟩, ⟨(some 37), none, (.i (.ld true 1 (.tmp 36)))⟩, ⟨(some 38), none, (.i (.idx 1 (.tmp 35) (.tmp 37)))⟩, ⟨(some 39), none, (.i (.ld true 1 (.tmp 38)))⟩, ⟨(some 40), none, (.i (.idx 1 (.tmp 32) (.tmp 34)))⟩, ⟨none, none, (.st true 1 (.tmp 40) (.tmp 39))⟩] true [])))))))))))))))))
  (.region [⟨(some 113), none, (.i (.bin .add (.tmp 26) (.cst (.int .i64 1))))⟩, ⟨(some 26), none, (.i (.mov (.tmp 113)))⟩] false []))))
def m_spec_cmStep : AC :=
  (.seq (.region [⟨(some 5), none, (.i (.box 29 (.tmp 1)))⟩, ⟨(some 8), none, (.i (.mov (.cst .nils)))⟩, ⟨(some 9), none, (.i (.mov (.cst .nils)))⟩] false [])
  (.seq (.region [⟨(some 15), none, (.i (.fld 3 (.tmp 5)))⟩, ⟨(some 16), none, (.i (.ld true 1 (.tmp 15)))⟩, ⟨(some 17), none, (.make 3 .int 8 (.tmp 16) (.tmp 16))⟩, ⟨(some 18), none, (.i (.fld 1 (.tmp 5)))⟩, ⟨(some 19), none, (.i (.ld true 1 (.tmp 18)))⟩, ⟨(some 20), none, (.make 3 .int 8 (.tmp 19) (.tmp 19))⟩, ⟨(some 21), none, (.i (.mov (.tmp 2)))⟩, ⟨(some 22), none, (.call (.cst (.fn 67 [])) [(.tmp 21)] [[(some .int)]])⟩, ⟨(some 10), none, (.i (.mov (.tmp 17)))⟩, ⟨(some 11), none, (.i (.mov (.tmp 20)))⟩, ⟨(some 12), none, (.i (.mov (.tmp 22)))⟩] true [(1, 7), (2, 7), (4, 7), (5, 7)])
  (.seq (.seq (.region [⟨(some 23), none, (.i (.fld 4 (.tmp 5)))⟩, ⟨(some 24), none, (.i (.ld true 1 (.tmp 23)))⟩, ⟨(some 25), none, (.i (.len (.tmp 24)))⟩, ⟨(some 26), none, (.i (.mov (.cst (.int .i64 0))))⟩] false [])
  (.block 0 (.loop m_spec_cmStep_l1)))
  (.seq (.region [⟨(some 114), none, (.i (.mov (.tmp 12)))⟩, ⟨(some 115), none, (.i (.mov (.tmp 11)))⟩, ⟨(some 8), none, (.i (.mov (.tmp 114)))⟩, ⟨(some 9), none, (.i (.mov (.tmp 115)))⟩] false [])
  .ret))))
def r_spec_cmStep : List Res := [.tmp 8, .tmp 9]
theorem c_spec_cmStep : compiled Tryd.prog Tryd.f43 = some (m_spec_cmStep, r_spec_cmStep) := by kernel_rfl
theorem hb_spec_cmStep : hasBody Tryd.prog 43 = true := by kernel_rfl
def L_spec_cmStep_l1 (a1_4 : List (Int × Int × Int × Int × Int)) (a3 : List Int) (a0 : Int) (l8_m26 : Nat) (l8_m10 : List Int) (l8_m11 : List Int) (l8_m12 : List Int) : Option (Ctl (Nat × List Int × List Int × List Int) (List Int × List Int)) :=
  cond (decide (((l8_m26 : Nat) : Int) < ((a1_4.length : Nat) : Int)))
  (Option.bind (Option.bind (a1_4[l8_m26]?) fun x14 =>
    cond (x14.1 == 1)
      (Option.bind (getI a3 x14.2.2.1) fun x18 =>
      Option.bind (getI l8_m10 x14.2.1) fun x19 =>
      some (l8_m10.set x14.2.1.toNat x18, l8_m11, l8_m12))
      (cond (x14.1 == 2)
        (Option.bind (getI l8_m10 x14.2.1) fun x22 =>
        some (l8_m10.set x14.2.1.toNat 0, l8_m11, l8_m12))
        (cond (x14.1 == 3)
          (Option.bind (getI l8_m10 x14.2.2.1) fun x25 =>
          Option.bind (getI l8_m10 x14.2.2.2.1) fun x26 =>
          Option.bind (L_spec_fdAdd a0 x25 x26) fun y27 =>
          Option.bind (getI l8_m10 x14.2.1) fun x28 =>
          some (l8_m10.set x14.2.1.toNat y27, l8_m11, l8_m12))
          (cond (x14.1 == 4)
            (Option.bind (getI l8_m10 x14.2.2.1) fun x31 =>
            Option.bind (L_spec_fdMul a0 x14.2.2.2.2 x31) fun y32 =>
            Option.bind (getI l8_m10 x14.2.1) fun x33 =>
            some (l8_m10.set x14.2.1.toNat y32, l8_m11, l8_m12))
            (cond (x14.1 == 5)
              (Option.bind (getI l8_m12 x14.2.2.1) fun x36 =>
              Option.bind (getI l8_m10 x14.2.1) fun x37 =>
              some (l8_m10.set x14.2.1.toNat x36, l8_m11, l8_m12))
              (cond (x14.1 == 6)
                (Option.bind (getI l8_m10 x14.2.1) fun x40 =>
                Option.bind (getI l8_m12 x14.2.2.1) fun x41 =>
                some (l8_m10, l8_m11, l8_m12.set x14.2.2.1.toNat x40))
                (Option.bind (getI l8_m10 x14.2.1) fun x42 =>
                Option.bind (getI l8_m11 x14.2.2.1) fun x43 =>
                some (l8_m10, l8_m11.set x14.2.2.1.toNat x42, l8_m12)))))))) fun (l12_m10, l12_m11, l12_m12) =>
  og (l8_m26 + 1 < 4611686018427387904) <|
  some (Ctl.next (l8_m26 + 1, l12_m10, l12_m11, l12_m12)))
  (some (Ctl.out (l8_m11, l8_m12)))
def L_spec_cmStep (a0 : Int) (a1_0 : Int) (a1_1 : Int) (a1_2 : Int) (a1_3 : Int) (a1_4 : List (Int × Int × Int × Int × Int)) (a2 : List Int) (a3 : List Int) : Option (List Int × List Int) :=
  og (0 ≤ a1_3 ∧ a1_3 ≤ a1_3 ∧ a1_3 ≤ 1073741824 ∧ (8 : Int) * a1_3 ≤ 140737488355328) <|
og (0 ≤ a1_1 ∧ a1_1 ≤ a1_1 ∧ a1_1 ≤ 1073741824 ∧ (8 : Int) * a1_1 ≤ 140737488355328) <|
Option.bind (L_spec_l1Own a2) fun y5 =>
Option.bind (loopM (fun s_ : Nat × List Int × List Int × List Int => L_spec_cmStep_l1 a1_4 a3 a0 s_.1 s_.2.1 s_.2.2.1 s_.2.2.2) 4611686018427387904 (0, List.replicate a1_3.toNat (0 : Int), List.replicate a1_1.toNat (0 : Int), y5)) fun (l6_m11, l6_m12) =>
some (l6_m12, l6_m11)
def rv_spec_cmStep (r : List Int × List Int) : RV := ⟨true, [(false, [.new 3 .int r.1]), (false, [.new 3 .int r.2])]⟩
theorem ok_spec_cmStep {a0 : Int} {a1_0 : Int} {a1_1 : Int} {a1_2 : Int} {a1_3 : Int} {a1_4 : List (Int × Int × Int × Int × Int)} {a2 : List Int} {a3 : List Int} {r : List Int × List Int} (h : L_spec_cmStep a0 a1_0 a1_1 a1_2 a1_3 a1_4 a2 a3 = some r) : CallOK Tryd.prog Tab 43 [(.int .i64 a0), (.agg [(.int .i64 a1_0), (.int .i64 a1_1), (.int .i64 a1_2), (.int .i64 a1_3), (.tree (.pair .int (.pair .int (.pair .int (.pair .int .int)))) a1_4)]), (.tree .int a2), (.tree .int a3)] (rv_spec_cmStep r) := by
  refine call_of_ (by kernel_rfl) Tryd.func43 c_spec_cmStep (n := 116) (by kernel_rfl) (by simp) (tl := [(0, (.int .i64 a0)), (1, (.agg [(.int .i64 a1_0), (.int .i64 a1_1), (.int .i64 a1_2), (.int .i64 a1_3), (.tree (.pair .int (.pair .int (.pair .int (.pair .int .int)))) a1_4)])), (2, (.tree .int a2)), (3, (.tree .int a3))]) rfl ?_
  unfold m_spec_cmStep
  unfold L_spec_cmStep at h
  refine awp_seq_ ?_
  refine awp_region_ 4 (by kernel_rfl) ?_
  refine rs1 (.box (5, 1) 0) (5, 1) (.cells 29 [(.int .i64 a1_0), (.int .i64 a1_1), (.int .i64 a1_2), (.int .i64 a1_3), (.tree (.pair .int (.pair .int (.pair .int (.pair .int .int)))) a1_4)]) (by kernel_rfl) ?_
  refine rs0 .nils (by kernel_rfl) ?_
  refine rs0 .nils (by kernel_rfl) ?_
  refine rnil (tn_ ?_)
  refine awp_seq_ ?_
  obtain ⟨g3, h⟩ := og_some h
  obtain ⟨g4, h⟩ := og_some h
  obtain ⟨y5, h5, h⟩ := ob_some h
  refine awp_regionD_ 15 (by kernel_rfl) ?_
  refine ds0 (.box (5, 1) 3) (by kernel_rfl) ?_
  refine dsl (.int .i64 a1_3) (by kernel_rfl) ?_
  refine ds1 (.own (17, 6) .int 0 a1_3.toNat) (17, 6) (.arr 3 .int (List.replicate a1_3.toNat (0 : Int))) (s_make (t := .int) (k := .i64) (k' := .i64) (m := a1_3) (m' := a1_3) (by kernel_rfl) (by kernel_rfl) g3 rfl) ?_
  refine ds0 (.box (5, 1) 1) (by kernel_rfl) ?_
  refine dsl (.int .i64 a1_1) (by kernel_rfl) ?_
  refine ds1 (.own (20, 9) .int 0 a1_1.toNat) (20, 9) (.arr 3 .int (List.replicate a1_1.toNat (0 : Int))) (s_make (t := .int) (k := .i64) (k' := .i64) (m := a1_1) (m' := a1_1) (by kernel_rfl) (by kernel_rfl) g4 rfl) ?_
  refine ds0 (.tree .int a2) (by kernel_rfl) ?_
  refine dcall (.own (352, 11) .int 0 y5.length) [((352, 11), some (.arr 3 .int y5))] [(.tree .int a2)] _ (caps := []) (args0 := [(.tree .int a2)]) trivial (by kernel_rfl) (by kernel_rfl) (by kernel_rfl) (by kernel_rfl) (ok_spec_l1Own h5) hb_spec_l1Own (by kernel_rfl) ?_
  refine ds0 (.own (17, 6) .int 0 a1_3.toNat) (by kernel_rfl) ?_
  refine ds0 (.own (20, 9) .int 0 a1_1.toNat) (by kernel_rfl) ?_
  refine ds0 (.own (352, 11) .int 0 y5.length) (by kernel_rfl) ?_
  refine dnil (by kernel_rfl) (tn_ ?_)
  refine awp_seqB h (fun t_ S_ => ∃ (l6_m11 : List Int), ∃ (l6_m12 : List Int), t_ = (l6_m11, l6_m12) ∧ S_ = ⟨mkTm [(11, (.own (0, 1) .int 0 l6_m11.length)), (12, (.own (1, 1) .int 0 l6_m12.length))], mkOb (someL [((0, 1), .arr 3 .int l6_m11), ((1, 1), .arr 3 .int l6_m12)]), 2⟩) ?_ ?_
  · intro v_ h
    refine awp_seq_ ?_
    refine awp_region_ 19 (by kernel_rfl) ?_
    refine rs0 (.box (5, 1) 4) (by kernel_rfl) ?_
    refine rsl (.tree (.pair .int (.pair .int (.pair .int (.pair .int .int)))) a1_4) (by kernel_rfl) ?_
    refine rs0 (.int .i64 ((a1_4.length : Nat) : Int)) (by kernel_rfl) ?_
    refine rs0 (.int .i64 0) (by kernel_rfl) ?_
    refine rnil (tn_ ?_)
    refine awp_block_ ?_
    refine awp_loopL h (fun t_ S_ => ∃ (l8_m26 : Nat), ∃ (l8_m10 : List Int), ∃ (l8_m11 : List Int), ∃ (l8_m12 : List Int), t_ = (l8_m26, l8_m10, l8_m11, l8_m12) ∧ S_ = ⟨mkTm [(0, (.int .i64 a0)), (3, (.tree .int a3)), (10, (.own (0, 1) .int 0 l8_m10.length)), (11, (.own (1, 1) .int 0 l8_m11.length)), (12, (.own (2, 1) .int 0 l8_m12.length)), (24, (.tree (.pair .int (.pair .int (.pair .int (.pair .int .int)))) a1_4)), (25, (.int .i64 ((a1_4.length : Nat) : Int))), (26, (.int .i64 ((l8_m26 : Nat) : Int)))], mkOb (someL [((0, 1), .arr 3 .int l8_m10), ((1, 1), .arr 3 .int l8_m11), ((2, 1), .arr 3 .int l8_m12)]), 2⟩) ⟨_, ((weak_tm_ 10 (.own (17, 6) .int 0 a1_3.toNat) (.own (17, 6) .int 0 ((List.replicate a1_3.toNat (0 : Int)).length)) (by kernel_rfl) (congrArg (fun z_ => ((.own (17, 6) .int 0 z_) : AV)) (List.length_replicate.symm : a1_3.toNat = (List.replicate a1_3.toNat (0 : Int)).length))).trans ((weak_tm_ 11 (.own (20, 9) .int 0 a1_1.toNat) (.own (20, 9) .int 0 ((List.replicate a1_1.toNat (0 : Int)).length)) (by kernel_rfl) (congrArg (fun z_ => ((.own (20, 9) .int 0 z_) : AV)) (List.length_replicate.symm : a1_1.toNat = (List.replicate a1_1.toNat (0 : Int)).length))).trans (weak_ren (renF [((0, 1), (17, 6)), ((1, 1), (20, 9)), ((2, 1), (352, 11))]) (by kernel_rfl) (by kernel_rfl) (by kernel_rfl)))), ⟨0, List.replicate a1_3.toNat (0 : Int), List.replicate a1_1.toNat (0 : Int), y5, rfl, rfl⟩⟩ ?_
    · rintro n_ _ _ c_ ⟨l8_m26, l8_m10, l8_m11, l8_m12, rfl, rfl⟩ h hn8
      (try dsimp only at h)
      unfold L_spec_cmStep_l1 at h
      unfold m_spec_cmStep_l1
      refine awp_seq_ ?_
      refine awp_region_ 3 (by kernel_rfl) ?_
      refine rs0 (.bool (decide (((l8_m26 : Nat) : Int) < ((a1_4.length : Nat) : Int)))) (by kernel_rfl) ?_
      refine rnil (tn_ ?_)
      refine awp_seq_ ?_
      rcases cond_some h with ⟨q11, h⟩ | ⟨q11, h⟩
      · have q11_ := of_decide_eq_true q11
        refine awp_condT_ q11 (by kernel_rfl) ?_
        refine awp_skip_ (tn_ ?_)
        refine awp_seqB h (fun t_ S_ => ∃ (l12_m10 : List Int), ∃ (l12_m11 : List Int), ∃ (l12_m12 : List Int), t_ = (l12_m10, l12_m11, l12_m12) ∧ S_ = ⟨mkTm [(0, (.int .i64 a0)), (3, (.tree .int a3)), (10, (.own (0, 1) .int 0 l12_m10.length)), (11, (.own (1, 1) .int 0 l12_m11.length)), (12, (.own (2, 1) .int 0 l12_m12.length)), (24, (.tree (.pair .int (.pair .int (.pair .int (.pair .int .int)))) a1_4)), (25, (.int .i64 ((a1_4.length : Nat) : Int))), (26, (.int .i64 ((l8_m26 : Nat) : Int)))], mkOb (someL [((0, 1), .arr 3 .int l12_m10), ((1, 1), .arr 3 .int l12_m11), ((2, 1), .arr 3 .int l12_m12)]), 2⟩) ?_ ?_
        · intro v_ h
          refine awp_block_ ?_
          refine awp_seq_ ?_
          obtain ⟨x14, e14, h⟩ := ob_some h
          refine awp_region_ 7 (by kernel_rfl) ?_
          refine rs0 (.telt (.pair .int (.pair .int (.pair .int (.pair .int .int)))) x14 0) (s_idxT (t := (.pair .int (.pair .int (.pair .int (.pair .int .int))))) (xs := a1_4) (k := .i64) (m := ((l8_m26 : Nat) : Int)) (by kernel_rfl) (by kernel_rfl) rfl (nat_nn _) rfl e14) ?_
          refine rs0 (.agg [(.int .i64 x14.1), (.int .i64 x14.2.1), (.int .i64 x14.2.2.1), (.int .i64 x14.2.2.2.1), (.int .i64 x14.2.2.2.2)]) (by kernel_rfl) ?_
          refine rs1 (.box (14, 5) 0) (14, 5) (.cells 69 [(.int .i64 0), (.int .i64 0), (.int .i64 0), (.int .i64 0), (.int .i64 0)]) (by kernel_rfl) ?_
          refine rsn2 (14, 5) (14, 5) (.cells 69 [(.int .i64 x14.1), (.int .i64 x14.2.1), (.int .i64 x14.2.2.1), (.int .i64 x14.2.2.2.1), (.int .i64 x14.2.2.2.2)]) (by kernel_rfl) ?_
          refine rnil (tn_ ?_)
          refine awp_seq_ ?_
          refine awp_region_ 9 (by kernel_rfl) ?_
          refine rs0 (.box (14, 5) 0) (by kernel_rfl) ?_
          refine rsl (.int .i64 x14.1) (by kernel_rfl) ?_
          refine rnil (tn_ ?_)
          refine awp_block_ ?_
          refine awp_seq_ ?_
          refine awp_region_ 11 (by kernel_rfl) ?_
          refine rs0 (.bool (x14.1 == 1)) (by kernel_rfl) ?_
          refine rs0 (.bool (x14.1 == 1)) (by kernel_rfl) ?_
          refine rnil (tn_ ?_)
          rcases cond_some h with ⟨q17, h⟩ | ⟨q17, h⟩
          · refine awp_condT_ q17 (by kernel_rfl) ?_
            obtain ⟨x18, f18, h⟩ := ob_some h
            obtain ⟨p18, b18, e18⟩ := getI_some f18
            obtain ⟨x19, f19, h⟩ := ob_some h
            obtain ⟨p19, b19, e19⟩ := getI_some f19
            refine awp_regionD_ 21 (by kernel_rfl) ?_
            refine ds0 (.own (0, 1) .int 0 l8_m10.length) (by kernel_rfl) ?_
            refine ds0 (.box (14, 5) 1) (by kernel_rfl) ?_
            refine dsl (.int .i64 x14.2.1) (by kernel_rfl) ?_
            refine ds0 (.tree .int a3) (by kernel_rfl) ?_
            refine ds0 (.box (14, 5) 2) (by kernel_rfl) ?_
            refine dsl (.int .i64 x14.2.2.1) (by kernel_rfl) ?_
            refine ds0 (.telt .int x18 0) (s_idxT (t := .int) (xs := a3) (k := .i64) (m := x14.2.2.1) (by kernel_rfl) (by kernel_rfl) rfl p18 rfl e18) ?_
            refine ds0 (.int .i64 x18) (by kernel_rfl) ?_
            refine ds0 (.elt (0, 1) x14.2.1.toNat 0) (s_idxO (t := .int) (o := (0, 1)) (len := l8_m10.length) (k := .i64) (m := x14.2.1) (by kernel_rfl) (by kernel_rfl) rfl p19 rfl (getN_lt e19)) ?_
            refine dsn2 (0, 1) (0, 1) (.arr 3 .int (l8_m10.set x14.2.1.toNat x18)) (s_stE (i := (0, 1)) (j := x14.2.1.toNat) (k := 0) (e := 3) (t := .int) (xs := l8_m10) (cs := [(.int .i64 x18)]) (x1 := x18) (by kernel_rfl) (by kernel_rfl) e19 (by kernel_rfl) (by kernel_rfl)) ?_
            refine dnil (by kernel_rfl) (bn_ (bn_ (tn_ ?_)))
            obtain rfl := Option.some.inj h
            exact ⟨_, ((weak_tm_ 10 (.own (0, 1) .int 0 l8_m10.length) (.own (0, 1) .int 0 ((l8_m10.set x14.2.1.toNat x18).length)) (by kernel_rfl) (congrArg (fun z_ => ((.own (0, 1) .int 0 z_) : AV)) (((rfl : l8_m10.length = l8_m10.length).trans List.length_set.symm) : l8_m10.length = (l8_m10.set x14.2.1.toNat x18).length))).trans (weak_ren (renF []) (by kernel_rfl) (by kernel_rfl) (by kernel_rfl))), ⟨l8_m10.set x14.2.1.toNat x18, l8_m11, l8_m12, rfl, rfl⟩⟩
          · refine awp_condF_ q17 (by kernel_rfl) ?_
            refine awp_seq_ ?_
            refine awp_region_ 13 (by kernel_rfl) ?_
            refine rs0 (.bool (x14.1 == 2)) (by kernel_rfl) ?_
            refine rs0 (.bool (x14.1 == 2)) (by kernel_rfl) ?_
            refine rnil (tn_ ?_)
            rcases cond_some h with ⟨q21, h⟩ | ⟨q21, h⟩
            · refine awp_condT_ q21 (by kernel_rfl) ?_
              obtain ⟨x22, f22, h⟩ := ob_some h
              obtain ⟨p22, b22, e22⟩ := getI_some f22
              refine awp_region_ 18 (by kernel_rfl) ?_
              refine rs0 (.own (0, 1) .int 0 l8_m10.length) (by kernel_rfl) ?_
              refine rs0 (.box (14, 5) 1) (by kernel_rfl) ?_
              refine rsl (.int .i64 x14.2.1) (by kernel_rfl) ?_
              refine rs0 (.elt (0, 1) x14.2.1.toNat 0) (s_idxO (t := .int) (o := (0, 1)) (len := l8_m10.length) (k := .i64) (m := x14.2.1) (by kernel_rfl) (by kernel_rfl) rfl p22 rfl (getN_lt e22)) ?_
              refine rsn2 (0, 1) (0, 1) (.arr 3 .int (l8_m10.set x14.2.1.toNat 0)) (s_stE (i := (0, 1)) (j := x14.2.1.toNat) (k := 0) (e := 3) (t := .int) (xs := l8_m10) (cs := [(.int .i64 0)]) (x1 := 0) (by kernel_rfl) (by kernel_rfl) e22 (by kernel_rfl) (by kernel_rfl)) ?_
              refine rnil (bn_ (bn_ (tn_ ?_)))
              obtain rfl := Option.some.inj h
              exact ⟨_, ((weak_tm_ 10 (.own (0, 1) .int 0 l8_m10.length) (.own (0, 1) .int 0 ((l8_m10.set x14.2.1.toNat 0).length)) (by kernel_rfl) (congrArg (fun z_ => ((.own (0, 1) .int 0 z_) : AV)) (((rfl : l8_m10.length = l8_m10.length).trans List.length_set.symm) : l8_m10.length = (l8_m10.set x14.2.1.toNat 0).length))).trans (weak_ren (renF []) (by kernel_rfl) (by kernel_rfl) (by kernel_rfl))), ⟨l8_m10.set x14.2.1.toNat 0, l8_m11, l8_m12, rfl, rfl⟩⟩
            · refine awp_condF_ q21 (by kernel_rfl) ?_
              refine awp_seq_ ?_
              refine awp_region_ 15 (by kernel_rfl) ?_
              refine rs0 (.bool (x14.1 == 3)) (by kernel_rfl) ?_
              refine rs0 (.bool (x14.1 == 3)) (by kernel_rfl) ?_
              refine rnil (tn_ ?_)
              rcases cond_some h with ⟨q24, h⟩ | ⟨q24, h⟩
              · refine awp_condT_ q24 (by kernel_rfl) ?_
                obtain ⟨x25, f25, h⟩ := ob_some h
                obtain ⟨p25, b25, e25⟩ := getI_some f25
                obtain ⟨x26, f26, h⟩ := ob_some h
                obtain ⟨p26, b26, e26⟩ := getI_some f26
                obtain ⟨y27, h27, h⟩ := ob_some h
                obtain ⟨x28, f28, h⟩ := ob_some h
                obtain ⟨p28, b28, e28⟩ := getI_some f28
                refine awp_regionD_ 32 (by kernel_rfl) ?_
                refine ds0 (.own (0, 1) .int 0 l8_m10.length) (by kernel_rfl) ?_
                refine ds0 (.box (14, 5) 1) (by kernel_rfl) ?_
                refine dsl (.int .i64 x14.2.1) (by kernel_rfl) ?_
                refine ds0 (.int .i64 a0) (by kernel_rfl) ?_
                refine ds0 (.own (0, 1) .int 0 l8_m10.length) (by kernel_rfl) ?_
                refine ds0 (.box (14, 5) 2) (by kernel_rfl) ?_
                refine dsl (.int .i64 x14.2.2.1) (by kernel_rfl) ?_
                refine ds0 (.elt (0, 1) x14.2.2.1.toNat 0) (s_idxO (t := .int) (o := (0, 1)) (len := l8_m10.length) (k := .i64) (m := x14.2.2.1) (by kernel_rfl) (by kernel_rfl) rfl p25 rfl (getN_lt e25)) ?_
                refine dsl (.int .i64 x25) (s_ldE (i := (0, 1)) (j := x14.2.2.1.toNat) (k := 0) (e := 3) (t := .int) (xs := l8_m10) (by kernel_rfl) (by kernel_rfl) e25 (by kernel_rfl)) ?_
                refine ds0 (.own (0, 1) .int 0 l8_m10.length) (by kernel_rfl) ?_
                refine ds0 (.box (14, 5) 3) (by kernel_rfl) ?_
                refine dsl (.int .i64 x14.2.2.2.1) (by kernel_rfl) ?_
                refine ds0 (.elt (0, 1) x14.2.2.2.1.toNat 0) (s_idxO (t := .int) (o := (0, 1)) (len := l8_m10.length) (k := .i64) (m := x14.2.2.2.1) (by kernel_rfl) (by kernel_rfl) rfl p26 rfl (getN_lt e26)) ?_
                refine dsl (.int .i64 x26) (s_ldE (i := (0, 1)) (j := x14.2.2.2.1.toNat) (k := 0) (e := 3) (t := .int) (xs := l8_m10) (by kernel_rfl) (by kernel_rfl) e26 (by kernel_rfl)) ?_
                refine dcall (.int .i64 y27) [] [(.int .i64 a0), (.int .i64 x25), (.int .i64 x26)] _ (caps := []) (args0 := [(.int .i64 a0), (.int .i64 x25), (.int .i64 x26)]) trivial (by kernel_rfl) (by kernel_rfl) (by kernel_rfl) (by kernel_rfl) (ok_spec_fdAdd h27) hb_spec_fdAdd (by kernel_rfl) ?_
                refine ds0 (.elt (0, 1) x14.2.1.toNat 0) (s_idxO (t := .int) (o := (0, 1)) (len := l8_m10.length) (k := .i64) (m := x14.2.1) (by kernel_rfl) (by kernel_rfl) rfl p28 rfl (getN_lt e28)) ?_
                refine dsn2 (0, 1) (0, 1) (.arr 3 .int (l8_m10.set x14.2.1.toNat y27)) (s_stE (i := (0, 1)) (j := x14.2.1.toNat) (k := 0) (e := 3) (t := .int) (xs := l8_m10) (cs := [(.int .i64 y27)]) (x1 := y27) (by kernel_rfl) (by kernel_rfl) e28 (by kernel_rfl) (by kernel_rfl)) ?_
                refine dnil (by kernel_rfl) (bn_ (bn_ (tn_ ?_)))
                obtain rfl := Option.some.inj h
                exact ⟨_, ((weak_tm_ 10 (.own (0, 1) .int 0 l8_m10.length) (.own (0, 1) .int 0 ((l8_m10.set x14.2.1.toNat y27).length)) (by kernel_rfl) (congrArg (fun z_ => ((.own (0, 1) .int 0 z_) : AV)) (((rfl : l8_m10.length = l8_m10.length).trans List.length_set.symm) : l8_m10.length = (l8_m10.set x14.2.1.toNat y27).length))).trans (weak_ren (renF []) (by kernel_rfl) (by kernel_rfl) (by kernel_rfl))), ⟨l8_m10.set x14.2.1.toNat y27, l8_m11, l8_m12, rfl, rfl⟩⟩
              · refine awp_condF_ q24 (by kernel_rfl) ?_
                refine awp_seq_ ?_
                refine awp_region_ 17 (by kernel_rfl) ?_
                refine rs0 (.bool (x14.1 == 4)) (by kernel_rfl) ?_
                refine rs0 (.bool (x14.1 == 4)) (by kernel_rfl) ?_
                refine rnil (tn_ ?_)
                rcases cond_some h with ⟨q30, h⟩ | ⟨q30, h⟩
                · refine awp_condT_ q30 (by kernel_rfl) ?_
                  obtain ⟨x31, f31, h⟩ := ob_some h
                  obtain ⟨p31, b31, e31⟩ := getI_some f31
                  obtain ⟨y32, h32, h⟩ := ob_some h
                  obtain ⟨x33, f33, h⟩ := ob_some h
                  obtain ⟨p33, b33, e33⟩ := getI_some f33
                  refine awp_regionD_ 31 (by kernel_rfl) ?_
                  refine ds0 (.own (0, 1) .int 0 l8_m10.length) (by kernel_rfl) ?_
                  refine ds0 (.box (14, 5) 1) (by kernel_rfl) ?_
                  refine dsl (.int .i64 x14.2.1) (by kernel_rfl) ?_
                  refine ds0 (.int .i64 a0) (by kernel_rfl) ?_
                  refine ds0 (.box (14, 5) 4) (by kernel_rfl) ?_
                  refine dsl (.int .i64 x14.2.2.2.2) (by kernel_rfl) ?_
                  refine ds0 (.own (0, 1) .int 0 l8_m10.length) (by kernel_rfl) ?_
                  refine ds0 (.box (14, 5) 2) (by kernel_rfl) ?_
                  refine dsl (.int .i64 x14.2.2.1) (by kernel_rfl) ?_
                  refine ds0 (.elt (0, 1) x14.2.2.1.toNat 0) (s_idxO (t := .int) (o := (0, 1)) (len := l8_m10.length) (k := .i64) (m := x14.2.2.1) (by kernel_rfl) (by kernel_rfl) rfl p31 rfl (getN_lt e31)) ?_
                  refine dsl (.int .i64 x31) (s_ldE (i := (0, 1)) (j := x14.2.2.1.toNat) (k := 0) (e := 3) (t := .int) (xs := l8_m10) (by kernel_rfl) (by kernel_rfl) e31 (by kernel_rfl)) ?_
                  refine dcall (.int .i64 y32) [] [(.int .i64 a0), (.int .i64 x14.2.2.2.2), (.int .i64 x31)] _ (caps := []) (args0 := [(.int .i64 a0), (.int .i64 x14.2.2.2.2), (.int .i64 x31)]) trivial (by kernel_rfl) (by kernel_rfl) (by kernel_rfl) (by kernel_rfl) (ok_spec_fdMul h32) hb_spec_fdMul (by kernel_rfl) ?_
                  refine ds0 (.elt (0, 1) x14.2.1.toNat 0) (s_idxO (t := .int) (o := (0, 1)) (len := l8_m10.length) (k := .i64) (m := x14.2.1) (by kernel_rfl) (by kernel_rfl) rfl p33 rfl (getN_lt e33)) ?_
                  refine dsn2 (0, 1) (0, 1) (.arr 3 .int (l8_m10.set x14.2.1.toNat y32)) (s_stE (i := (0, 1)) (j := x14.2.1.toNat) (k := 0) (e := 3) (t := .int) (xs := l8_m10) (cs := [(.int .i64 y32)]) (x1 := y32) (by kernel_rfl) (by kernel_rfl) e33 (by kernel_rfl) (by kernel_rfl)) ?_
                  refine dnil (by kernel_rfl) (bn_ (bn_ (tn_ ?_)))
                  obtain rfl := Option.some.inj h
                  exact ⟨_, ((weak_tm_ 10 (.own (0, 1) .int 0 l8_m10.length) (.own (0, 1) .int 0 ((l8_m10.set x14.2.1.toNat y32).length)) (by kernel_rfl) (congrArg (fun z_ => ((.own (0, 1) .int 0 z_) : AV)) (((rfl : l8_m10.length = l8_m10.length).trans List.length_set.symm) : l8_m10.length = (l8_m10.set x14.2.1.toNat y32).length))).trans (weak_ren (renF []) (by kernel_rfl) (by kernel_rfl) (by kernel_rfl))), ⟨l8_m10.set x14.2.1.toNat y32, l8_m11, l8_m12, rfl, rfl⟩⟩
                · refine awp_condF_ q30 (by kernel_rfl) ?_
                  refine awp_seq_ ?_
                  refine awp_region_ 19 (by kernel_rfl) ?_
                  refine rs0 (.bool (x14.1 == 5)) (by kernel_rfl) ?_
                  refine rs0 (.bool (x14.1 == 5)) (by kernel_rfl) ?_
                  refine rnil (tn_ ?_)
                  rcases cond_some h with ⟨q35, h⟩ | ⟨q35, h⟩
                  · refine awp_condT_ q35 (by kernel_rfl) ?_
                    obtain ⟨x36, f36, h⟩ := ob_some h
                    obtain ⟨p36, b36, e36⟩ := getI_some f36
                    obtain ⟨x37, f37, h⟩ := ob_some h
                    obtain ⟨p37, b37, e37⟩ := getI_some f37
                    refine awp_regionD_ 29 (by kernel_rfl) ?_
                    refine ds0 (.own (0, 1) .int 0 l8_m10.length) (by kernel_rfl) ?_
                    refine ds0 (.box (14, 5) 1) (by kernel_rfl) ?_
                    refine dsl (.int .i64 x14.2.1) (by kernel_rfl) ?_
                    refine ds0 (.own (2, 1) .int 0 l8_m12.length) (by kernel_rfl) ?_
                    refine ds0 (.box (14, 5) 2) (by kernel_rfl) ?_
                    refine dsl (.int .i64 x14.2.2.1) (by kernel_rfl) ?_
                    refine ds0 (.elt (2, 1) x14.2.2.1.toNat 0) (s_idxO (t := .int) (o := (2, 1)) (len := l8_m12.length) (k := .i64) (m := x14.2.2.1) (by kernel_rfl) (by kernel_rfl) rfl p36 rfl (getN_lt e36)) ?_
                    refine dsl (.int .i64 x36) (s_ldE (i := (2, 1)) (j := x14.2.2.1.toNat) (k := 0) (e := 3) (t := .int) (xs := l8_m12) (by kernel_rfl) (by kernel_rfl) e36 (by kernel_rfl)) ?_
                    refine ds0 (.elt (0, 1) x14.2.1.toNat 0) (s_idxO (t := .int) (o := (0, 1)) (len := l8_m10.length) (k := .i64) (m := x14.2.1) (by kernel_rfl) (by kernel_rfl) rfl p37 rfl (getN_lt e37)) ?_
                    refine dsn2 (0, 1) (0, 1) (.arr 3 .int (l8_m10.set x14.2.1.toNat x36)) (s_stE (i := (0, 1)) (j := x14.2.1.toNat) (k := 0) (e := 3) (t := .int) (xs := l8_m10) (cs := [(.int .i64 x36)]) (x1 := x36) (by kernel_rfl) (by kernel_rfl) e37 (by kernel_rfl) (by kernel_rfl)) ?_
                    refine dnil (by kernel_rfl) (bn_ (bn_ (tn_ ?_)))
                    obtain rfl := Option.some.inj h
                    exact ⟨_, ((weak_tm_ 10 (.own (0, 1) .int 0 l8_m10.length) (.own (0, 1) .int 0 ((l8_m10.set x14.2.1.toNat x36).length)) (by kernel_rfl) (congrArg (fun z_ => ((.own (0, 1) .int 0 z_) : AV)) (((rfl : l8_m10.length = l8_m10.length).trans List.length_set.symm) : l8_m10.length = (l8_m10.set x14.2.1.toNat x36).length))).trans (weak_ren (renF []) (by kernel_rfl) (by kernel_rfl) (by kernel_rfl))), ⟨l8_m10.set x14.2.1.toNat x36, l8_m11, l8_m12, rfl, rfl⟩⟩
                  · refine awp_condF_ q35 (by kernel_rfl) ?_
                    refine awp_seq_ ?_
                    refine awp_region_ 21 (by kernel_rfl) ?_
                    refine rs0 (.bool (x14.1 == 6)) (by kernel_rfl) ?_
                    refine rs0 (.bool (x14.1 == 6)) (by kernel_rfl) ?_
                    refine rnil (tn_ ?_)
                    rcases cond_some h with ⟨q39, h⟩ | ⟨q39, h⟩
                    · refine awp_condT_ q39 (by kernel_rfl) ?_
                      obtain ⟨x40, f40, h⟩ := ob_some h
                      obtain ⟨p40, b40, e40⟩ := getI_some f40
                      obtain ⟨x41, f41, h⟩ := ob_some h
                      obtain ⟨p41, b41, e41⟩ := getI_some f41
                      refine awp_regionD_ 31 (by kernel_rfl) ?_
                      refine ds0 (.own (2, 1) .int 0 l8_m12.length) (by kernel_rfl) ?_
                      refine ds0 (.box (14, 5) 2) (by kernel_rfl) ?_
                      refine dsl (.int .i64 x14.2.2.1) (by kernel_rfl) ?_
                      refine ds0 (.own (0, 1) .int 0 l8_m10.length) (by kernel_rfl) ?_
                      refine ds0 (.box (14, 5) 1) (by kernel_rfl) ?_
                      refine dsl (.int .i64 x14.2.1) (by kernel_rfl) ?_
                      refine ds0 (.elt (0, 1) x14.2.1.toNat 0) (s_idxO (t := .int) (o := (0, 1)) (len := l8_m10.length) (k := .i64) (m := x14.2.1) (by kernel_rfl) (by kernel_rfl) rfl p40 rfl (getN_lt e40)) ?_
                      refine dsl (.int .i64 x40) (s_ldE (i := (0, 1)) (j := x14.2.1.toNat) (k := 0) (e := 3) (t := .int) (xs := l8_m10) (by kernel_rfl) (by kernel_rfl) e40 (by kernel_rfl)) ?_
                      refine ds0 (.elt (2, 1) x14.2.2.1.toNat 0) (s_idxO (t := .int) (o := (2, 1)) (len := l8_m12.length) (k := .i64) (m := x14.2.2.1) (by kernel_rfl) (by kernel_rfl) rfl p41 rfl (getN_lt e41)) ?_
                      refine dsn2 (2, 1) (2, 1) (.arr 3 .int (l8_m12.set x14.2.2.1.toNat x40)) (s_stE (i := (2, 1)) (j := x14.2.2.1.toNat) (k := 0) (e := 3) (t := .int) (xs := l8_m12) (cs := [(.int .i64 x40)]) (x1 := x40) (by kernel_rfl) (by kernel_rfl) e41 (by kernel_rfl) (by kernel_rfl)) ?_
                      refine dnil (by kernel_rfl) (bn_ (bn_ (tn_ ?_)))
                      obtain rfl := Option.some.inj h
                      exact ⟨_, ((weak_tm_ 12 (.own (2, 1) .int 0 l8_m12.length) (.own (2, 1) .int 0 ((l8_m12.set x14.2.2.1.toNat x40).length)) (by kernel_rfl) (congrArg (fun z_ => ((.own (2, 1) .int 0 z_) : AV)) (((rfl : l8_m12.length = l8_m12.length).trans List.length_set.symm) : l8_m12.length = (l8_m12.set x14.2.2.1.toNat x40).length))).trans (weak_ren (renF []) (by kernel_rfl) (by kernel_rfl) (by kernel_rfl))), ⟨l8_m10, l8_m11, l8_m12.set x14.2.2.1.toNat x40, rfl, rfl⟩⟩
                    · refine awp_condF_ q39 (by kernel_rfl) ?_
                      obtain ⟨x42, f42, h⟩ := ob_some h
                      obtain ⟨p42, b42, e42⟩ := getI_some f42
                      obtain ⟨x43, f43, h⟩ := ob_some h
                      obtain ⟨p43, b43, e43⟩ := getI_some f43
                      refine awp_regionD_ 31 (by kernel_rfl) ?_
                      refine ds0 (.own (1, 1) .int 0 l8_m11.length) (by kernel_rfl) ?_
                      refine ds0 (.box (14, 5) 2) (by kernel_rfl) ?_
                      refine dsl (.int .i64 x14.2.2.1) (by kernel_rfl) ?_
                      refine ds0 (.own (0, 1) .int 0 l8_m10.length) (by kernel_rfl) ?_
                      refine ds0 (.box (14, 5) 1) (by kernel_rfl) ?_
                      refine dsl (.int .i64 x14.2.1) (by kernel_rfl) ?_
                      refine ds0 (.elt (0, 1) x14.2.1.toNat 0) (s_idxO (t := .int) (o := (0, 1)) (len := l8_m10.length) (k := .i64) (m := x14.2.1) (by kernel_rfl) (by kernel_rfl) rfl p42 rfl (getN_lt e42)) ?_
                      refine dsl (.int .i64 x42) (s_ldE (i := (0, 1)) (j := x14.2.1.toNat) (k := 0) (e := 3) (t := .int) (xs := l8_m10) (by kernel_rfl) (by kernel_rfl) e42 (by kernel_rfl)) ?_
                      refine ds0 (.elt (1, 1) x14.2.2.1.toNat 0) (s_idxO (t := .int) (o := (1, 1)) (len := l8_m11.length) (k := .i64) (m := x14.2.2.1) (by kernel_rfl) (by kernel_rfl) rfl p43 rfl (getN_lt e43)) ?_
                      refine dsn2 (1, 1) (1, 1) (.arr 3 .int (l8_m11.set x14.2.2.1.toNat x42)) (s_stE (i := (1, 1)) (j := x14.2.2.1.toNat) (k := 0) (e := 3) (t := .int) (xs := l8_m11) (cs := [(.int .i64 x42)]) (x1 := x42) (by kernel_rfl) (by kernel_rfl) e43 (by kernel_rfl) (by kernel_rfl)) ?_
                      refine dnil (by kernel_rfl) (bn_ (bn_ (tn_ ?_)))
                      obtain rfl := Option.some.inj h
                      exact ⟨_, ((weak_tm_ 11 (.own (1, 1) .int 0 l8_m11.length) (.own (1, 1) .int 0 ((l8_m11.set x14.2.2.1.toNat x42).length)) (by kernel_rfl) (congrArg (fun z_ => ((.own (1, 1) .int 0 z_) : AV)) (((rfl : l8_m11.length = l8_m11.length).trans List.length_set.symm) : l8_m11.length = (l8_m11.set x14.2.2.1.toNat x42).length))).trans (weak_ren (renF []) (by kernel_rfl) (by kernel_rfl) (by kernel_rfl))), ⟨l8_m10, l8_m11.set x14.2.2.1.toNat x42, l8_m12, rfl, rfl⟩⟩
        · rintro _ _ ⟨l12_m10, l12_m11, l12_m12, rfl, rfl⟩ h
          (try dsimp only at h)
          obtain ⟨g44, h⟩ := og_some h
          refine awp_region_ 4 (by kernel_rfl) ?_
          refine rs0 (.int .i64 ((l8_m26 + 1 : Nat) : Int)) (s_add1 (j := l8_m26) (by kernel_rfl) (by kernel_rfl) g44) ?_
          refine rs0 (.int .i64 ((l8_m26 + 1 : Nat) : Int)) (by kernel_rfl) ?_
          refine rnil (tn_ ?_)
          obtain rfl := Option.some.inj h
          exact ⟨(l8_m26 + 1, l12_m10, l12_m11, l12_m12), _, (weak_ren (renF []) (by kernel_rfl) (by kernel_rfl) (by kernel_rfl)), ⟨l8_m26 + 1, l12_m10, l12_m11, l12_m12, rfl, rfl⟩, hn8⟩
      · have q11_ := of_decide_eq_false q11
        refine awp_condF_ q11 (by kernel_rfl) ?_
        refine awp_exit_ (te_ (te_ (be_ (tn_ ?_))))
        obtain rfl := Option.some.inj h
        have h := hn8
        (try dsimp only at h)
        obtain rfl := Option.some.inj h
        exact ⟨_, (weak_ren (renF [((0, 1), (1, 1)), ((1, 1), (2, 1))]) (by kernel_rfl) (by kernel_rfl) (by kernel_rfl)), ⟨l8_m11, l8_m12, rfl, rfl⟩⟩
  · rintro _ _ ⟨l6_m11, l6_m12, rfl, rfl⟩ h
    (try dsimp only at h)
    refine awp_seq_ ?_
    refine awp_region_ 6 (by kernel_rfl) ?_
    refine rs0 (.own (1, 1) .int 0 l6_m12.length) (by kernel_rfl) ?_
    refine rs0 (.own (0, 1) .int 0 l6_m11.length) (by kernel_rfl) ?_
    refine rs0 (.own (1, 1) .int 0 l6_m12.length) (by kernel_rfl) ?_
    refine rs0 (.own (0, 1) .int 0 l6_m11.length) (by kernel_rfl) ?_
    refine rnil (tn_ ?_)
    refine awp_ret_ ?_
    obtain rfl := Option.some.inj h
    exact ret_ [(.own (1, 1) .int 0 l6_m12.length), (.own (0, 1) .int 0 l6_m11.length)] (by simp) (by kernel_rfl) (p_one rfl (l_own (by kernel_rfl) rfl) (p_one rfl (l_own (by kernel_rfl) rfl) p_nil)) (by kernel_rfl) (by kernel_rfl)
def m_spec_StepProgram : AC :=
  (.seq (.region [⟨(some 5), none, (.i (.box 29 (.tmp 1)))⟩, ⟨(some 8), none, (.i (.mov (.cst .nils)))⟩, ⟨(some 9), none, (.i (.mov (.cst .nils)))⟩, ⟨(some 10), none, (.i (.mov (.cst (.bool false))))⟩] false [])
  (.seq (.seq (.region [⟨(some 13), none, (.i (.mov (.tmp 0)))⟩, ⟨(some 14), none, (.i (.ld false 5 (.tmp 5)))⟩, ⟨(some 15), none, (.call (.cst (.fn 33 [])) [(.tmp 13), (.tmp 14)] [[], [none, none, none, none, (some (.pair .int (.pair .int (.pair .int (.pair .int .int)))))]])⟩, ⟨(some 16), none, (.i (.not (.tmp 15)))⟩, ⟨(some 17), none, (.i (.mov (.tmp 16)))⟩, ⟨(some 18), (some (17, false)), (.i (.mov (.tmp 2)))⟩, ⟨(some 19), (some (17, false)), (.i (.len (.tmp 18)))⟩, ⟨(some 20), (some (17, false)), (.i (.fld 2 (.tmp 5)))⟩, ⟨(some 21), (some (17, false)), (.i (.ld true 1 (.tmp 20)))⟩, ⟨(some 22), (some (17, false)), (.i (.bin .neq (.tmp 19) (.tmp 21)))⟩, ⟨(some 23), none, (.i (.pick (.tmp 17) (.cst (.bool true)) (.tmp 22)))⟩, ⟨(some 24), none, (.i (.mov (.tmp 23)))⟩, ⟨(some 25), (some (24, false)), (.i (.mov (.tmp 3)))⟩, ⟨(some 26), (some (24, false)), (.i (.len (.tmp 25)))⟩, ⟨(some 27), (some (24, false)), (.i (.fld 0 (.tmp 5)))⟩, ⟨(some 28), (some (24, false)), (.i (.ld true 1 (.tmp 27)))⟩, ⟨(some 29), (some (24, false)), (.i (.bin .neq (.tmp 26) (.tmp 28)))⟩, ⟨(some 30), none, (.i (.pick (.tmp 24) (.cst (.bool true)) (.tmp 29)))⟩, ⟨(some 31), none, (.i (.mov (.tmp 30)))⟩, ⟨(some 32), (some (31, false)), (.i (.mov (.tmp 0)))⟩, ⟨(some 33), (some (31, false)), (.i (.mov (.tmp 2)))⟩, ⟨(some 34), (some (31, false)), (.call (.cst (.fn 42 [])) [(.tmp 32), (.tmp 33)] [[], [(some .int)]])⟩, ⟨(some 35), (some (31, false)), (.i (.not (.tmp 34)))⟩, ⟨(some 36), none, (.i (.pick (.tmp 31) (.cst (.bool true)) (.tmp 35)))⟩, ⟨(some 37), none, (.i (.mov (.tmp 36)))⟩, ⟨(some 38), (some (37, false)), (.i (.mov (.tmp 0)))⟩, ⟨(some 39), (some (37, false)), (.i (.mov (.tmp 3)))⟩, ⟨(some 40), (some (37, false)), (.call (.cst (.fn 42 [])) [(.tmp 38), (.tmp 39)] [[], [(some .int)]])⟩, ⟨(some 41), (some (37, false)), (.i (.not (.tmp 40)))⟩, ⟨(some 42), none, (.i (.pick (.tmp 37) (.cst (.bool true)) (.tmp 41)))⟩] false [])
  (.cond (.tmp 42)
    (.seq (.region [⟨(some 8), none, (.i (.mov (.cst .nils)))⟩, ⟨(some 9), none, (.i (.mov (.cst .nils)))⟩, ⟨(some 10), none, (.i (.mov (.cst (.bool false))))⟩] false [])
    .ret)
    .skip))
  (.seq (.region [⟨(some 44), none, (.i (.mov (.tmp 0)))⟩, ⟨(some 45), none, (.i (.ld false 5 (.tmp 5)))⟩, ⟨(some 46), none, (.i (.mov (.tmp 2)))⟩, ⟨(some 47), none, (.i (.mov (.tmp 3)))⟩, ⟨(some 48), none, (.call (.cst (.fn 43 [])) [(.tmp 44), (.tmp 45), (.tmp 46), (.tmp 47)] [[], [none, none, none, none, (some (.pair .int (.pair .int (.pair .int (.pair .int .int)))))], [(some .int)], [(some .int)]])⟩, ⟨(some 43), none, (.i (.mov (.tmp 48)))⟩, ⟨(some 49), none, (.i (.extr 0 (.tmp 43)))⟩, ⟨(some 50), none, (.i (.extr 1 (.tmp 43)))⟩, ⟨(some 11), none, (.i (.mov (.tmp 49)))⟩, ⟨(some 12), none, (.i (.mov (.tmp 50)))⟩] false [])
  (.seq (.region [⟨(some 51), none, (.i (.mov (.tmp 11)))⟩, ⟨(some 52), none, (.i (.mov (.tmp 12)))⟩, ⟨(some 8), none, (.i (.mov (.tmp 51)))⟩, ⟨(some 9), none, (.i (.mov (.tmp 52)))⟩, ⟨(some 10), none, (.i (.mov (.cst (.bool true))))⟩] false [])
  .ret))))
def r_spec_StepProgram : List Res := [.tmp 8, .tmp 9, .tmp 10]
theorem c_spec_StepProgram : compiled Tryd.prog Tryd.f19 = some (m_spec_StepProgram, r_spec_StepProgram) := by kernel_rfl
theorem hb_spec_StepProgram : hasBody Tryd.prog 19 = true := by kernel_rfl
def L_spec_StepProgram (a0 : Int) (a1_0 : Int) (a1_1 : Int) (a1_2 : Int) (a1_3 : Int) (a1_4 : List (Int × Int × Int × Int × Int)) (a2 : List Int) (a3 : List Int) : Option (List Int × List Int × Bool) :=
  Option.bind (Option.bind (L_spec_cmGood a0 a1_0 a1_1 a1_2 a1_3 a1_4) fun y4 =>
  cond (!y4)
    (some true)
    (cond (((a2.length : Nat) : Int) != a1_2)
      (some true)
      (cond (((a3.length : Nat) : Int) != a1_0)
        (some true)
        (Option.bind (L_spec_fdIn a0 a2) fun y8 =>
        cond (!y8)
          (some true)
          (Option.bind (L_spec_fdIn a0 a3) fun y10 =>
          some (!y10)))))) fun l3_m42 =>
cond l3_m42
  (some ([], [], false))
  (Option.bind (L_spec_cmStep a0 a1_0 a1_1 a1_2 a1_3 a1_4 a2 a3) fun y14 =>
  some (y14.1, y14.2, true))
def rv_spec_StepProgram (r : List Int × List Int × Bool) : RV := ⟨true, [(false, [.new 3 .int r.1]), (false, [.new 3 .int r.2.1]), (false, [.sc (.bool r.2.2)])]⟩
theorem ok_spec_StepProgram {a0 : Int} {a1_0 : Int} {a1_1 : Int} {a1_2 : Int} {a1_3 : Int} {a1_4 : List (Int × Int × Int × Int × Int)} {a2 : List Int} {a3 : List Int} {r : List Int × List Int × Bool} (h : L_spec_StepProgram a0 a1_0 a1_1 a1_2 a1_3 a1_4 a2 a3 = some r) : CallOK Tryd.prog Tab 19 [(.int .i64 a0), (.agg [(.int .i64 a1_0), (.int .i64 a1_1), (.int .i64 a1_2), (.int .i64 a1_3), (.tree (.pair .int (.pair .int (.pair .int (.pair .int .int)))) a1_4)]), (.tree .int a2), (.tree .int a3)] (rv_spec_StepProgram r) := by
  refine call_of_ (by kernel_rfl) Tryd.func19 c_spec_StepProgram (n := 53) (by kernel_rfl) (by simp) (tl := [(0, (.int .i64 a0)), (1, (.agg [(.int .i64 a1_0), (.int .i64 a1_1), (.int .i64 a1_2), (.int .i64 a1_3), (.tree (.pair .int (.pair .int (.pair .int (.pair .int .int)))) a1_4)])), (2, (.tree .int a2)), (3, (.tree .int a3))]) rfl ?_
  unfold m_spec_StepProgram
  unfold L_spec_StepProgram at h
  refine awp_seq_ ?_
  refine awp_region_ 5 (by kernel_rfl) ?_
  refine rs1 (.box (5, 1) 0) (5, 1) (.cells 29 [(.int .i64 a1_0), (.int .i64 a1_1), (.int .i64 a1_2), (.int .i64 a1_3), (.tree (.pair .int (.pair .int (.pair .int (.pair .int .int)))) a1_4)]) (by kernel_rfl) ?_
  refine rs0 .nils (by kernel_rfl) ?_
  refine rs0 .nils (by kernel_rfl) ?_
  refine rs0 (.bool false) (by kernel_rfl) ?_
  refine rnil (tn_ ?_)
  refine awp_seq_ ?_
  refine awp_seqB h (fun (l3_m42 : Bool) S_ => S_ = ⟨mkTm [(0, (.int .i64 a0)), (2, (.tree .int a2)), (3, (.tree .int a3)), (5, (.box (0, 1) 0)), (42, (.bool l3_m42))], mkOb (someL [((0, 1), .cells 29 [(.int .i64 a1_0), (.int .i64 a1_1), (.int .i64 a1_2), (.int .i64 a1_3), (.tree (.pair .int (.pair .int (.pair .int (.pair .int .int)))) a1_4)])]), 2⟩) ?_ ?_
  · intro v_ h
    obtain ⟨y4, h4, h⟩ := ob_some h
    rcases cond_some h with ⟨q5, h⟩ | ⟨q5, h⟩
    · refine awp_region_ 35 (by kernel_rfl) ?_
      refine rs0 (.int .i64 a0) (by kernel_rfl) ?_
      refine rsl (.agg [(.int .i64 a1_0), (.int .i64 a1_1), (.int .i64 a1_2), (.int .i64 a1_3), (.tree (.pair .int (.pair .int (.pair .int (.pair .int .int)))) a1_4)]) (by kernel_rfl) ?_
      refine rcall (.bool y4) [] [(.int .i64 a0), (.agg [(.int .i64 a1_0), (.int .i64 a1_1), (.int .i64 a1_2), (.int .i64 a1_3), (.tree (.pair .int (.pair .int (.pair .int (.pair .int .int)))) a1_4)])] _ (caps := []) (args0 := [(.int .i64 a0), (.agg [(.int .i64 a1_0), (.int .i64 a1_1), (.int .i64 a1_2), (.int .i64 a1_3), (.tree (.pair .int (.pair .int (.pair .int (.pair .int .int)))) a1_4)])]) trivial (by kernel_rfl) (by kernel_rfl) (by kernel_rfl) (by kernel_rfl) (ok_spec_cmGood h4) hb_spec_cmGood (by kernel_rfl) ?_
      refine rs0 (.bool (!y4)) (by kernel_rfl) ?_
      refine rs0 (.bool (!y4)) (by kernel_rfl) ?_
      refine rs0 .any (s_skip (by kernel_rfl) q5) ?_
      refine rs0 .any (s_skip (by kernel_rfl) q5) ?_
      refine rs0 .any (s_skip (by kernel_rfl) q5) ?_
      refine rs0 .any (s_skip (by kernel_rfl) q5) ?_
      refine rs0 .any (s_skip (by kernel_rfl) q5) ?_
      refine rs0 (.bool true) (s_pickT (by kernel_rfl) q5) ?_
      refine rs0 (.bool true) (by kernel_rfl) ?_
      refine rs0 .any (by kernel_rfl) ?_
      refine rs0 .any (by kernel_rfl) ?_
      refine rs0 .any (by kernel_rfl) ?_
      refine rs0 .any (by kernel_rfl) ?_
      refine rs0 .any (by kernel_rfl) ?_
      refine rs0 (.bool true) (by kernel_rfl) ?_
      refine rs0 (.bool true) (by kernel_rfl) ?_
      refine rs0 .any (by kernel_rfl) ?_
      refine rs0 .any (by kernel_rfl) ?_
      refine rs0 .any (by kernel_rfl) ?_
      refine rs0 .any (by kernel_rfl) ?_
      refine rs0 (.bool true) (by kernel_rfl) ?_
      refine rs0 (.bool true) (by kernel_rfl) ?_
      refine rs0 .any (by kernel_rfl) ?_
      refine rs0 .any (by kernel_rfl) ?_
      refine rs0 .any (by kernel_rfl) ?_
      refine rs0 .any (by kernel_rfl) ?_
      refine rs0 (.bool true) (by kernel_rfl) ?_
      refine rnil (tn_ ?_)
      obtain rfl := Option.some.inj h
      exact ⟨_, (weak_ren (renF [((0, 1), (5, 1))]) (by kernel_rfl) (by kernel_rfl) (by kernel_rfl)), rfl⟩
    · rcases cond_some h with ⟨q6, h⟩ | ⟨q6, h⟩
      · refine awp_region_ 35 (by kernel_rfl) ?_
        refine rs0 (.int .i64 a0) (by kernel_rfl) ?_
        refine rsl (.agg [(.int .i64 a1_0), (.int .i64 a1_1), (.int .i64 a1_2), (.int .i64 a1_3), (.tree (.pair .int (.pair .int (.pair .int (.pair .int .int)))) a1_4)]) (by kernel_rfl) ?_
        refine rcall (.bool y4) [] [(.int .i64 a0), (.agg [(.int .i64 a1_0), (.int .i64 a1_1), (.int .i64 a1_2), (.int .i64 a1_3), (.tree (.pair .int (.pair .int (.pair .int (.pair .int .int)))) a1_4)])] _ (caps := []) (args0 := [(.int .i64 a0), (.agg [(.int .i64 a1_0), (.int .i64 a1_1), (.int .i64 a1_2), (.int .i64 a1_3), (.tree (.pair .int (.pair .int (.pair .int (.pair .int .int)))) a1_4)])]) trivial (by kernel_rfl) (by kernel_rfl) (by kernel_rfl) (by kernel_rfl) (ok_spec_cmGood h4) hb_spec_cmGood (by kernel_rfl) ?_
        refine rs0 (.bool (!y4)) (by kernel_rfl) ?_
        refine rs0 (.bool (!y4)) (by kernel_rfl) ?_
        refine rs0 (.tree .int a2) (s_gd (by kernel_rfl) q5 (by kernel_rfl)) ?_
        refine rs0 (.int .i64 ((a2.length : Nat) : Int)) (s_gd (by kernel_rfl) q5 (by kernel_rfl)) ?_
        refine rs0 (.box (5, 1) 2) (s_gd (by kernel_rfl) q5 (by kernel_rfl)) ?_
        refine rsl (.int .i64 a1_2) (s_gd (by kernel_rfl) q5 (by kernel_rfl)) ?_
        refine rs0 (.bool (((a2.length : Nat) : Int) != a1_2)) (s_gd (by kernel_rfl) q5 (by kernel_rfl)) ?_
        refine rs0 (.bool (((a2.length : Nat) : Int) != a1_2)) (s_pickF (by kernel_rfl) q5) ?_
        refine rs0 (.bool (((a2.length : Nat) : Int) != a1_2)) (by kernel_rfl) ?_
        refine rs0 .any (s_skip (by kernel_rfl) q6) ?_
        refine rs0 .any (s_skip (by kernel_rfl) q6) ?_
        refine rs0 .any (s_skip (by kernel_rfl) q6) ?_
        refine rs0 .any (s_skip (by kernel_rfl) q6) ?_
        refine rs0 .any (s_skip (by kernel_rfl) q6) ?_
        refine rs0 (.bool true) (s_pickT (by kernel_rfl) q6) ?_
        refine rs0 (.bool true) (by kernel_rfl) ?_
        refine rs0 .any (by kernel_rfl) ?_
        refine rs0 .any (by kernel_rfl) ?_
        refine rs0 .any (by kernel_rfl) ?_
        refine rs0 .any (by kernel_rfl) ?_
        refine rs0 (.bool true) (by kernel_rfl) ?_
        refine rs0 (.bool true) (by kernel_rfl) ?_
        refine rs0 .any (by kernel_rfl) ?_
        refine rs0 .any (by kernel_rfl) ?_
        refine rs0 .any (by kernel_rfl) ?_
        refine rs0 .any (by kernel_rfl) ?_
        refine rs0 (.bool true) (by kernel_rfl) ?_
        refine rnil (tn_ ?_)
        obtain rfl := Option.some.inj h
        exact ⟨_, (weak_ren (renF [((0, 1), (5, 1))]) (by kernel_rfl) (by kernel_rfl) (by kernel_rfl)), rfl⟩
      · rcases cond_some h with ⟨q7, h⟩ | ⟨q7, h⟩
        · refine awp_region_ 35 (by kernel_rfl) ?_
          refine rs0 (.int .i64 a0) (by kernel_rfl) ?_
          refine rsl (.agg [(.int .i64 a1_0), (.int .i64 a1_1), (.int .i64 a1_2), (.int .i64 a1_3), (.tree (.pair .int (.pair .int (.pair .int (.pair .int .int)))) a1_4)]) (by kernel_rfl) ?_
          refine rcall (.bool y4) [] [(.int .i64 a0), (.agg [(.int .i64 a1_0), (.int .i64 a1_1), (.int .i64 a1_2), (.int .i64 a1_3), (.tree (.pair .int (.pair .int (.pair .int (.pair .int .int)))) a1_4)])] _ (caps := []) (args0 := [(.int .i64 a0), (.agg [(.int .i64 a1_0), (.int .i64 a1_1), (.int .i64 a1_2), (.int .i64 a1_3), (.tree (.pair .int (.pair .int (.pair .int (.pair .int .int)))) a1_4)])]) trivial (by kernel_rfl) (by kernel_rfl) (by kernel_rfl) (by kernel_rfl) (ok_spec_cmGood h4) hb_spec_cmGood (by kernel_rfl) ?_
          refine rs0 (.bool (!y4)) (by kernel_rfl) ?_
          refine rs0 (.bool (!y4)) (by kernel_rfl) ?_
          refine rs0 (.tree .int a2) (s_gd (by kernel_rfl) q5 (by kernel_rfl)) ?_
          refine rs0 (.int .i64 ((a2.length : Nat) : Int)) (s_gd (by kernel_rfl) q5 (by kernel_rfl)) ?_
          refine rs0 (.box (5, 1) 2) (s_gd (by kernel_rfl) q5 (by kernel_rfl)) ?_
          refine rsl (.int .i64 a1_2) (s_gd (by kernel_rfl) q5 (by kernel_rfl)) ?_
          refine rs0 (.bool (((a2.length : Nat) : Int) != a1_2)) (s_gd (by kernel_rfl) q5 (by kernel_rfl)) ?_
          refine rs0 (.bool (((a2.length : Nat) : Int) != a1_2)) (s_pickF (by kernel_rfl) q5) ?_
          refine rs0 (.bool (((a2.length : Nat) : Int) != a1_2)) (by kernel_rfl) ?_
          refine rs0 (.tree .int a3) (s_gd (by kernel_rfl) q6 (by kernel_rfl)) ?_
          refine rs0 (.int .i64 ((a3.length : Nat) : Int)) (s_gd (by kernel_rfl) q6 (by kernel_rfl)) ?_
          refine rs0 (.box (5, 1) 0) (s_gd (by kernel_rfl) q6 (by kernel_rfl)) ?_
          refine rsl (.int .i64 a1_0) (s_gd (by kernel_rfl) q6 (by kernel_rfl)) ?_
          refine rs0 (.bool (((a3.length : Nat) : Int) != a1_0)) (s_gd (by kernel_rfl) q6 (by kernel_rfl)) ?_
          refine rs0 (.bool (((a3.length : Nat) : Int) != a1_0)) (s_pickF (by kernel_rfl) q6) ?_
          refine rs0 (.bool (((a3.length : Nat) : Int) != a1_0)) (by kernel_rfl) ?_
          refine rs0 .any (s_skip (by kernel_rfl) q7) ?_
          refine rs0 .any (s_skip (by kernel_rfl) q7) ?_
          refine rs0 .any (s_skip (by kernel_rfl) q7) ?_
          refine rs0 .any (s_skip (by kernel_rfl) q7) ?_
          refine rs0 (.bool true) (s_pickT (by kernel_rfl) q7) ?_
          refine rs0 (.bool true) (by kernel_rfl) ?_
          refine rs0 .any (by kernel_rfl) ?_
          refine rs0 .any (by kernel_rfl) ?_
          refine rs0 .any (by kernel_rfl) ?_
          refine rs0 .any (by kernel_rfl) ?_
          refine rs0 (.bool true) (by kernel_rfl) ?_
          refine rnil (tn_ ?_)
          obtain rfl := Option.some.inj h
          exact ⟨_, (weak_ren (renF [((0, 1), (5, 1))]) (by kernel_rfl) (by kernel_rfl) (by kernel_rfl)), rfl⟩
        · obtain ⟨y8, h8, h⟩ := ob_some h
          rcases cond_some h with ⟨q9, h⟩ | ⟨q9, h⟩
          · refine awp_region_ 35 (by kernel_rfl) ?_
            refine rs0 (.int .i64 a0) (by kernel_rfl) ?_
            refine rsl (.agg [(.int .i64 a1_0), (.int .i64 a1_1), (.int .i64 a1_2), (.int .i64 a1_3), (.tree (.pair .int (.pair .int (.pair .int (.pair .int .int)))) a1_4)]) (by kernel_rfl) ?_
            refine rcall (.bool y4) [] [(.int .i64 a0), (.agg [(.int .i64 a1_0), (.int .i64 a1_1), (.int .i64 a1_2), (.int .i64 a1_3), (.tree (.pair .int (.pair .int (.pair .int (.pair .int .int)))) a1_4)])] _ (caps := []) (args0 := [(.int .i64 a0), (.agg [(.int .i64 a1_0), (.int .i64 a1_1), (.int .i64 a1_2), (.int .i64 a1_3), (.tree (.pair .int (.pair .int (.pair .int (.pair .int .int)))) a1_4)])]) trivial (by kernel_rfl) (by kernel_rfl) (by kernel_rfl) (by kernel_rfl) (ok_spec_cmGood h4) hb_spec_cmGood (by kernel_rfl) ?_
            refine rs0 (.bool (!y4)) (by kernel_rfl) ?_
            refine rs0 (.bool (!y4)) (by kernel_rfl) ?_
            refine rs0 (.tree .int a2) (s_gd (by kernel_rfl) q5 (by kernel_rfl)) ?_
            refine rs0 (.int .i64 ((a2.length : Nat) : Int)) (s_gd (by kernel_rfl) q5 (by kernel_rfl)) ?_
            refine rs0 (.box (5, 1) 2) (s_gd (by kernel_rfl) q5 (by kernel_rfl)) ?_
            refine rsl (.int .i64 a1_2) (s_gd (by kernel_rfl) q5 (by kernel_rfl)) ?_
            refine rs0 (.bool (((a2.length : Nat) : Int) != a1_2)) (s_gd (by kernel_rfl) q5 (by kernel_rfl)) ?_
            refine rs0 (.bool (((a2.length : Nat) : Int) != a1_2)) (s_pickF (by kernel_rfl) q5) ?_
            refine rs0 (.bool (((a2.length : Nat) : Int) != a1_2)) (by kernel_rfl) ?_
            refine rs0 (.tree .int a3) (s_gd (by kernel_rfl) q6 (by kernel_rfl)) ?_
            refine rs0 (.int .i64 ((a3.length : Nat) : Int)) (s_gd (by kernel_rfl) q6 (by kernel_rfl)) ?_
            refine rs0 (.box (5, 1) 0) (s_gd (by kernel_rfl) q6 (by kernel_rfl)) ?_
            refine rsl (.int .i64 a1_0) (s_gd (by kernel_rfl) q6 (by kernel_rfl)) ?_
            refine rs0 (.bool (((a3.length : Nat) : Int) != a1_0)) (s_gd (by kernel_rfl) q6 (by kernel_rfl)) ?_
            refine rs0 (.bool (((a3.length : Nat) : Int) != a1_0)) (s_pickF (by kernel_rfl) q6) ?_
            refine rs0 (.bool (((a3.length : Nat) : Int) != a1_0)) (by kernel_rfl) ?_
            refine rs0 (.int .i64 a0) (s_gd (by kernel_rfl) q7 (by kernel_rfl)) ?_
            refine rs0 (.tree .int a2) (s_gd (by kernel_rfl) q7 (by kernel_rfl)) ?_
            refine rcall (.bool y8) [] [(.int .i64 a0), (.tree .int a2)] _ (caps := []) (args0 := [(.int .i64 a0), (.tree .int a2)]) (gdOK_b (by kernel_rfl) q7) (by kernel_rfl) (by kernel_rfl) (by kernel_rfl) (by kernel_rfl) (ok_spec_fdIn h8) hb_spec_fdIn (by kernel_rfl) ?_
            refine rs0 (.bool (!y8)) (s_gd (by kernel_rfl) q7 (by kernel_rfl)) ?_
            refine rs0 (.bool (!y8)) (s_pickF (by kernel_rfl) q7) ?_
            refine rs0 (.bool (!y8)) (by kernel_rfl) ?_
            refine rs0 .any (s_skip (by kernel_rfl) q9) ?_
            refine rs0 .any (s_skip (by kernel_rfl) q9) ?_
            refine rs0 .any (s_skip (by kernel_rfl) q9) ?_
            refine rs0 .any (s_skip (by kernel_rfl) q9) ?_
            refine rs0 (.bool true) (s_pickT (by kernel_rfl) q9) ?_
            refine rnil (tn_ ?_)
            obtain rfl := Option.some.inj h
            exact ⟨_, (weak_ren (renF [((0, 1), (5, 1))]) (by kernel_rfl) (by kernel_rfl) (by kernel_rfl)), rfl⟩
          · obtain ⟨y10, h10, h⟩ := ob_some h
            refine awp_region_ 35 (by kernel_rfl) ?_
            refine rs0 (.int .i64 a0) (by kernel_rfl) ?_
            refine rsl (.agg [(.int .i64 a1_0), (.int .i64 a1_1), (.int .i64 a1_2), (.int .i64 a1_3), (.tree (.pair .int (.pair .int (.pair .int (.pair .int .int)))) a1_4)]) (by kernel_rfl) ?_
            refine rcall (.bool y4) [] [(.int .i64 a0), (.agg [(.int .i64 a1_0), (.int .i64 a1_1), (.int .i64 a1_2), (.int .i64 a1_3), (.tree (.pair .int (.pair .int (.pair .int (.pair .int .int)))) a1_4)])] _ (caps := []) (args0 := [(.int .i64 a0), (.agg [(.int .i64 a1_0), (.int .i64 a1_1), (.int .i64 a1_2), (.int .i64 a1_3), (.tree (.pair .int (.pair .int (.pair .int (.pair .int .int)))) a1_4)])]) trivial (by kernel_rfl) (by kernel_rfl) (by kernel_rfl) (by kernel_rfl) (ok_spec_cmGood h4) hb_spec_cmGood (by kernel_rfl) ?_
            refine rs0 (.bool (!y4)) (by kernel_rfl) ?_
            refine rs0 (.bool (!y4)) (by kernel_rfl) ?_
            refine rs0 (.tree .int a2) (s_gd (by kernel_rfl) q5 (by kernel_rfl)) ?_
            refine rs0 (.int .i64 ((a2.length : Nat) : Int)) (s_gd (by kernel_rfl) q5 (by kernel_rfl)) ?_
            refine rs0 (.box (5, 1) 2) (s_gd (by kernel_rfl) q5 (by kernel_rfl)) ?_
            refine rsl (.int .i64 a1_2) (s_gd (by kernel_rfl) q5 (by kernel_rfl)) ?_
            refine rs0 (.bool (((a2.length : Nat) : Int) != a1_2)) (s_gd (by kernel_rfl) q5 (by kernel_rfl)) ?_
            refine rs0 (.bool (((a2.length : Nat) : Int) != a1_2)) (s_pickF (by kernel_rfl) q5) ?_
            refine rs0 (.bool (((a2.length : Nat) : Int) != a1_2)) (by kernel_rfl) ?_
            refine rs0 (.tree .int a3) (s_gd (by kernel_rfl) q6 (by kernel_rfl)) ?_
            refine rs0 (.int .i64 ((a3.length : Nat) : Int)) (s_gd (by kernel_rfl) q6 (by kernel_rfl)) ?_
            refine rs0 (.box (5, 1) 0) (s_gd (by kernel_rfl) q6 (by kernel_rfl)) ?_
            refine rsl (.int .i64 a1_0) (s_gd (by kernel_rfl) q6 (by kernel_rfl)) ?_
            refine rs0 (.bool (((a3.length : Nat) : Int) != a1_0)) (s_gd (by kernel_rfl) q6 (by kernel_rfl)) ?_
            refine rs0 (.bool (((a3.length : Nat) : Int) != a1_0)) (s_pickF (by kernel_rfl) q6) ?_
            refine rs0 (.bool (((a3.length : Nat) : Int) != a1_0)) (by kernel_rfl) ?_
            refine rs0 (.int .i64 a0) (s_gd (by kernel_rfl) q7 (by kernel_rfl)) ?_
            refine rs0 (.tree .int a2) (s_gd (by kernel_rfl) q7 (by kernel_rfl)) ?_
            refine rcall (.bool y8) [] [(.int .i64 a0), (.tree .int a2)] _ (caps := []) (args0 := [(.int .i64 a0), (.tree .int a2)]) (gdOK_b (by kernel_rfl) q7) (by kernel_rfl) (by kernel_rfl) (by kernel_rfl) (by kernel_rfl) (ok_spec_fdIn h8) hb_spec_fdIn (by kernel_rfl) ?_
            refine rs0 (.bool (!y8)) (s_gd (by kernel_rfl) q7 (by kernel_rfl)) ?_
            refine rs0 (.bool (!y8)) (s_pickF (by kernel_rfl) q7) ?_
            refine rs0 (.bool (!y8)) (by kernel_rfl) ?_
            refine rs0 (.int .i64 a0) (s_gd (by kernel_rfl) q9 (by kernel_rfl)) ?_
            refine rs0 (.tree .int a3) (s_gd (by kernel_rfl) q9 (by kernel_rfl)) ?_
            refine rcall (.bool y10) [] [(.int .i64 a0), (.tree .int a3)] _ (caps := []) (args0 := [(.int .i64 a0), (.tree .int a3)]) (gdOK_b (by kernel_rfl) q9) (by kernel_rfl) (by kernel_rfl) (by kernel_rfl) (by kernel_rfl) (ok_spec_fdIn h10) hb_spec_fdIn (by kernel_rfl) ?_
            refine rs0 (.bool (!y10)) (s_gd (by kernel_rfl) q9 (by kernel_rfl)) ?_
            refine rs0 (.bool (!y10)) (s_pickF (by kernel_rfl) q9) ?_
            refine rnil (tn_ ?_)
            obtain rfl := Option.some.inj h
            exact ⟨_, (weak_ren (renF [((0, 1), (5, 1))]) (by kernel_rfl) (by kernel_rfl) (by kernel_rfl)), rfl⟩
  · rintro l3_m42 _ rfl h
    (try dsimp only at h)
    rcases cond_some h with ⟨q11, h⟩ | ⟨q11, h⟩
    · refine awp_condT_ q11 (by kernel_rfl) ?_
      refine awp_seq_ ?_
      refine awp_region_ 5 (by kernel_rfl) ?_
      refine rs0 .nils (by kernel_rfl) ?_
      refine rs0 .nils (by kernel_rfl) ?_
      refine rs0 (.bool false) (by kernel_rfl) ?_
      refine rnil (tn_ ?_)
      refine awp_ret_ (tr_ ?_)
      obtain rfl := Option.some.inj h
      exact ret_ [.nils, .nils, (.bool false)] (by simp) (by kernel_rfl) (p_one rfl (l_nils rfl) (p_one rfl (l_nils rfl) (p_one rfl (l_sc (by kernel_rfl)) p_nil))) (by kernel_rfl) (by kernel_rfl)
    · refine awp_condF_ q11 (by kernel_rfl) ?_
      refine awp_skip_ (tn_ ?_)
      refine awp_seq_ ?_
      obtain ⟨y14, h14, h⟩ := ob_some h
      refine awp_region_ 12 (by kernel_rfl) ?_
      refine rs0 (.int .i64 a0) (by kernel_rfl) ?_
      refine rsl (.agg [(.int .i64 a1_0), (.int .i64 a1_1), (.int .i64 a1_2), (.int .i64 a1_3), (.tree (.pair .int (.pair .int (.pair .int (.pair .int .int)))) a1_4)]) (by kernel_rfl) ?_
      refine rs0 (.tree .int a2) (by kernel_rfl) ?_
      refine rs0 (.tree .int a3) (by kernel_rfl) ?_
      refine rcall (.tup [(.own (768, 6) .int 0 y14.1.length), (.own (769, 6) .int 0 y14.2.length)]) [((768, 6), some (.arr 3 .int y14.1)), ((769, 6), some (.arr 3 .int y14.2))] [(.int .i64 a0), (.agg [(.int .i64 a1_0), (.int .i64 a1_1), (.int .i64 a1_2), (.int .i64 a1_3), (.tree (.pair .int (.pair .int (.pair .int (.pair .int .int)))) a1_4)]), (.tree .int a2), (.tree .int a3)] _ (caps := []) (args0 := [(.int .i64 a0), (.agg [(.int .i64 a1_0), (.int .i64 a1_1), (.int .i64 a1_2), (.int .i64 a1_3), (.tree (.pair .int (.pair .int (.pair .int (.pair .int .int)))) a1_4)]), (.tree .int a2), (.tree .int a3)]) trivial (by kernel_rfl) (by kernel_rfl) (by kernel_rfl) (by kernel_rfl) (ok_spec_cmStep h14) hb_spec_cmStep (by kernel_rfl) ?_
      refine rs0 (.tup [(.own (768, 6) .int 0 y14.1.length), (.own (769, 6) .int 0 y14.2.length)]) (by kernel_rfl) ?_
      refine rs0 (.own (768, 6) .int 0 y14.1.length) (by kernel_rfl) ?_
      refine rs0 (.own (769, 6) .int 0 y14.2.length) (by kernel_rfl) ?_
      refine rs0 (.own (768, 6) .int 0 y14.1.length) (by kernel_rfl) ?_
      refine rs0 (.own (769, 6) .int 0 y14.2.length) (by kernel_rfl) ?_
      refine rnil (tn_ ?_)
      refine awp_seq_ ?_
      refine awp_region_ 17 (by kernel_rfl) ?_
      refine rs0 (.own (768, 6) .int 0 y14.1.length) (by kernel_rfl) ?_
      refine rs0 (.own (769, 6) .int 0 y14.2.length) (by kernel_rfl) ?_
      refine rs0 (.own (768, 6) .int 0 y14.1.length) (by kernel_rfl) ?_
      refine rs0 (.own (769, 6) .int 0 y14.2.length) (by kernel_rfl) ?_
      refine rs0 (.bool true) (by kernel_rfl) ?_
      refine rnil (tn_ ?_)
      refine awp_ret_ ?_
      obtain rfl := Option.some.inj h
      exact ret_ [(.own (768, 6) .int 0 y14.1.length), (.own (769, 6) .int 0 y14.2.length), (.bool true)] (by simp) (by kernel_rfl) (p_one rfl (l_own (by kernel_rfl) rfl) (p_one rfl (l_own (by kernel_rfl) rfl) (p_one rfl (l_sc (by kernel_rfl)) p_nil))) (by kernel_rfl) (by kernel_rfl)
def m_impl_Program_step_l1 : AC :=
  (.seq (.region [⟨(some 25), none, (.i (.bin .lss (.tmp 24) (.tmp 23)))⟩] false [])
  (.seq (.cond (.tmp 25)
    .skip
    (.exit 0))
  (.seq (.block 1 (.seq (.region [⟨(some 26), none, (.i (.idx 5 (.tmp 22) (.tmp 24)))⟩, ⟨(some 27), none, (.i (.ld false 5 (.tmp 26)))⟩, ⟨(some 14), none, (.i (.alloc 69 [(.int .i64 0), (.int .i64 0), (.int .i64 0), (.int .i64 0), (.int .i64 0)]))⟩, ⟨none, none, (.st false 5 (.tmp 14) (.tmp 27))⟩] false [])
  (.seq (.region [⟨(some 28), none, (.i (.fld 0 (.tmp 14)))⟩, ⟨(some 29), none, (.i (.ld true 1 (.tmp 28)))⟩] false [])
  (.block 2 (.seq (.region [⟨(some 31), none, (.i (.bin .eql (.tmp 29) (.cst (.int .i64 1))))⟩, ⟨(some 30), none, (.i (.mov (.tmp 31)))⟩] false [])
  (.cond (.tmp 30)
    (.region [⟨(some 32), none, (.i (.fld 1 (.tmp 14)))⟩, ⟨(some 33), none, (.i (.ld true 1 (.tmp 32)))⟩, ⟨(some 34), none, (.i (.mov (.tmp 3)))⟩, ⟨(some 35), none, (.i (.fld 2 (.tmp 14)))⟩, ⟨(some 36), none, (.i (.ld true 1 (.tmp 35)))⟩, ⟨(some 37), none, (.i (.idx 1 (.tmp 34) (.tmp 36)))⟩, ⟨(some 38), none, (.i (.ld true 1 (.tmp 37)))⟩, ⟨(some 39), none, (.i (.idxA 59 16 (.tmp 10) (.tmp 33)))⟩, ⟨none, none, (.st true 1 (.tmp 39) (.tmp 38))⟩] true [])
    (.seq (.region [⟨(some 41), none, (.i (.bin .eql (.tmp 29) (.cst (.int .i64 2))))⟩, ⟨(some 40), none, (.i (.mov (.tmp 41)))⟩] false [])
    (.cond (.tmp 40)
      (.region [⟨(some 42), none, (.i (.fld 1 (.tmp 14)))⟩, ⟨(some 43), none, (.i (.ld true 1 (.tmp 42)))⟩, ⟨(some 44), none, (.i (.idxA 59 16 (.tmp 10) (.tmp 43)))⟩, ⟨none, none, (.st true 1 (.tmp 44) (.cst (.int .i64 0)))⟩] false [])
      (.seq (.region [⟨(some 46), none, (.i (.bin .eql (.tmp 29) (.cst (.int .i64 3))))⟩, ⟨(some 45), none, (.i (.mov (.tmp 46)))⟩] false [])
      (.cond (.tmp 45)
        (.region [⟨(some 47), none, (.i (.fld 1 (.tmp 14)))⟩, ⟨(some 48), none, (.i (.ld true 1 (.tmp 47)))⟩, ⟨(some 49), none, (.i (.mov (.tmp 1)))⟩, ⟨(some 50), none, (.i (.fld 2 (.tmp 14)))⟩, ⟨(some 51), none, (.i (.ld true 1 (.tmp 50)))⟩, ⟨(some 52), none, (.i (.idxA 59 16 (.tmp 10) (.tmp 51)))⟩, ⟨(some 53), none, (.i (.ld true 1 (.tmp 52)))⟩, ⟨(some 54), none, (.i (.fld 3 (.tmp 14)))⟩, ⟨(some 55), none, (.i (.ld true 1 (.tmp 54)))⟩, ⟨(some 56), none, (.i (.idxA 59 16 (.tmp 10) (.tmp 55)))⟩, ⟨(some 57), none, (.i (.ld true 1 (.tmp 56)))⟩, ⟨(some 58), none, (.i (.bin .add (.tmp 53) (.tmp 57)))⟩, ⟨(some 59), none, (.call (.cst (.fn 72 [])) [(.tmp 49), (.tmp 58)] [[], []])⟩, ⟨(some 60), none, (.i (.idxA 59 16 (.tmp 10) (.tmp 48)))⟩, ⟨none, none, (.st true 1 (.tmp 60) (.tmp 59))⟩] true [(1, 12)])
        (.seq (.region [⟨(some 62), none, (.i (.bin .eql (.tmp 29) (.cst (.int .i64 4))))⟩, ⟨(some 61), none, (.i (.mov (.tmp 62)))⟩] false [])
        (.cond (.tmp 61)
          (.region [⟨(some 63), none, (.i (.fld 1 (.tmp 14)))⟩, ⟨(some 64), none, (.i (.ld true 1 (.tmp 63)))⟩, ⟨(some 65), none, (.i (.mov (.tmp 1)))⟩, ⟨(some 66), none, (.i (.fld 4 (.tmp 14)))⟩, ⟨(some 67), none, (.i (.ld true 1 (.tmp 66)))⟩, ⟨(some 68), none, (.i (.fld 2 (.tmp 14)))⟩, ⟨(some 69), none, (.i (.ld true 1 (.tmp 68)))⟩, ⟨(some 70), none, (.i (.idxA 59 16 (.tmp 10) (.tmp 69)))⟩, ⟨(some 71), none, (.i (.ld true 1 (.tmp 70)))⟩, ⟨(some 72), none, (.i (.bin .mul (.tmp 67) (.tmp 71)))⟩, ⟨(some 73), none, (.call (.cst (.fn 72 [])) [(.tmp 65), (.tmp 72)] [[], []])⟩, ⟨(some 74), none, (.i (.idxA 59 16 (.tmp 10) (.tmp 64)))⟩, ⟨none, none, (.st true 1 (.tmp 74) (.tmp 73))⟩] true [(1, 10)])
          (.seq (.region [⟨(some 76), none, (.i (.bin .eql (.tmp 29) (.cst (.int .i64 5))))⟩, ⟨(some 75), none, (.i (.mov (.tmp 76)))⟩] false [])
          (.cond (.tmp 75)
            (.region [⟨(some 77), none, (.i (.fld 1 (.tmp 14)))⟩, ⟨(some 78), none, (.i (.ld true 1 (.tmp 77)))⟩, ⟨(some 79), none, (.i (.mov (.tmp 11)))⟩, ⟨(some 80), none, (.i (.fld 2 (.tmp 14)))⟩, ⟨(some 81), none, (.i (.ld true 1 (.tmp 80)))⟩, ⟨(some 82), none, (.i (.idx 1 (.tmp 79) (.tmp 81)))⟩, ⟨(some 83), none, (.i (.ld true 1 (.tmp 82)))⟩, ⟨(some 84), none, (.i (.idxA 59 16 (.tmp 10) (.tmp 78)))⟩, ⟨none, none, (.st true 1 (.tmp 84) (.tmp 83))⟩] true [])
            (.seq (.region [⟨(some 86), none, (.i (.bin .eql (.tmp 29) (.cst (.int .i64 6))))⟩, ⟨(some 85), none, (.i (.mov (.tmp 86)))⟩] false [])
            (.cond (.tmp 85)
              (.region [⟨(some 87), none, (.i (.mov (.tmp 11)))⟩, ⟨(some 88), none, (.i (.fld 2 (.tmp 14)))⟩, ⟨(some 89), none, (.i (.ld true 1 (.tmp 88)))⟩, ⟨(some 90), none, (.i (.fld 1 (.tmp 14)))⟩, ⟨(some 91), none, (.i (.ld true 1 (.tmp 90)))⟩, ⟨(some 92), none, (.i (.idxA 59 16 (.tmp 10) (.tmp 91)))⟩, ⟨(some 93), none, (.i (.ld true 1 (.tmp 92)))⟩, ⟨(some 94), none, (.i (.idx 1 (.tmp 87) (.tmp 89)))⟩, ⟨none, none, (.st true 1 (.tmp 94) (.tmp 93))⟩] true [])
              (.seq (.region [⟨(some 96), none, (.i (.bin .eql (.tmp 29) (.cst (.int .i64 7))))⟩, ⟨(some 95), none, (.i (.mov (.tmp 96)))⟩] false [])
              (.cond (.tmp 95)
                (.region [⟨(some 97), none, (.i (.mov (.tmp 12)))⟩, ⟨(some 98), none, (.i (.fld 2 (.tmp 14)))⟩, ⟨(some 99), none, (.i (.ld true 1 (.tmp 98)))⟩, ⟨(some 100), none, (.i (.fld 1 (.tmp 14)))⟩, ⟨(some 101), none, (.i (.ld true 1 (.tmp 100)))⟩, ⟨(some 102), none, (.i (.idxA 59 16 (.tmp 10) (.tmp 101)))⟩, ⟨(some 103), none, (.i (.ld true 1 (.tmp 102)))⟩, ⟨(some 104), none, (.i (.idx 1 (.tmp 97) (.tmp 99)))⟩, ⟨none, none, (.st true 1 (.tmp 104) (.tmp 103))⟩] true [])
                .skip))))))))))))))))))
  (.region [⟨(some 105), none, (.i (.bin .add (.tmp 24) (.cst (.int .i64 1))))⟩, ⟨(some 24), none, (.i (.mov (.tmp 105)))⟩] false []))))
def m_impl_Program_step : AC :=
  (.seq (.region [⟨(some 4), none, (.i (.box 29 (.tmp 0)))⟩, ⟨(some 8), none, (.i (.mov (.cst .nils)))⟩, ⟨(some 9), none, (.i (.mov (.cst .nils)))⟩] false [])
  (.seq (.region [⟨(some 15), none, (.build [(.int .i64 0), (.int .i64 0), (.int .i64 0), (.int .i64 0), (.int .i64 0), (.int .i64 0), (.int .i64 0), (.int .i64 0), (.int .i64 0), (.int .i64 0), (.int .i64 0), (.int .i64 0), (.int .i64 0), (.int .i64 0), (.int .i64 0), (.int .i64 0)] [])⟩, ⟨(some 16), none, (.i (.mov (.tmp 2)))⟩, ⟨(some 17), none, (.call (.cst (.fn 71 [])) [(.tmp 16)] [[(some .int)]])⟩, ⟨(some 18), none, (.i (.fld 1 (.tmp 4)))⟩, ⟨(some 19), none, (.i (.ld true 1 (.tmp 18)))⟩, ⟨(some 20), none, (.call (.cst (.fn 54 [])) [(.tmp 19)] [[]])⟩, ⟨(some 10), none, (.makeA 59 (.pair .int (.pair .int (.pair .int (.pair .int (.pair .int (.pair .int (.pair .int (.pair .int (.pair .int (.pair .int (.pair .int (.pair .int (.pair .int (.pair .int (.pair .int .int))))))))))))))))⟩, ⟨none, none, (.st false 16 (.tmp 10) (.tmp 15))⟩, ⟨(some 11), none, (.i (.mov (.tmp 17)))⟩, ⟨(some 12), none, (.i (.mov (.tmp 20)))⟩] true [(2, 4), (2, 6), (5, 6)])
  (.seq (.seq (.region [⟨(some 21), none, (.i (.fld 4 (.tmp 4)))⟩, ⟨(some 22), none, (.i (.ld true 1 (.tmp 21)))⟩, ⟨(some 23), none, (.i (.len (.tmp 22)))⟩, ⟨(some 24), none, (.i (.mov (.cst (.int .i64 0))))⟩] false [])
  (.block 0 (.loop m_impl_Program_step_l1)))
  (.seq (.region [⟨(some 106), none, (.i (.mov (.tmp 11)))⟩, ⟨(some 107), none, (.i (.mov (.tmp 12)))⟩, ⟨(some 8), none, (.i (.mov (.tmp 106)))⟩, ⟨(some 9), none, (.i (.mov (.tmp 107)))⟩] false [])
  .ret))))
def r_impl_Program_step : List Res := [.tmp 8, .tmp 9]
theorem c_impl_Program_step : compiled Tryd.prog Tryd.f45 = some (m_impl_Program_step, r_impl_Program_step) := by kernel_rfl
theorem hb_impl_Program_step : hasBody Tryd.prog 45 = true := by kernel_rfl
def L_impl_Program_step_l1 (a0_4 : List (Int × Int × Int × Int × Int)) (a3 : List Int) (a1 : Int) (l7_m24 : Nat) (l7_m10 : List Int) (l7_m11 : List Int) (l7_m12 : List Int) : Option (Ctl (Nat × List Int × List Int × List Int) (List Int × List Int)) :=
  cond (decide (((l7_m24 : Nat) : Int) < ((a0_4.length : Nat) : Int)))
  (Option.bind (Option.bind (a0_4[l7_m24]?) fun x13 =>
    cond (x13.1 == 1)
      (Option.bind (getI a3 x13.2.2.1) fun x17 =>
      og (0 ≤ x13.2.1 ∧ x13.2.1 < ((16 : Nat) : Int)) <|
      Option.bind (getI l7_m10 x13.2.1) fun x19 =>
      some (l7_m10.set x13.2.1.toNat x17, l7_m11, l7_m12))
      (cond (x13.1 == 2)
        (og (0 ≤ x13.2.1 ∧ x13.2.1 < ((16 : Nat) : Int)) <|
        Option.bind (getI l7_m10 x13.2.1) fun x23 =>
        some (l7_m10.set x13.2.1.toNat 0, l7_m11, l7_m12))
        (cond (x13.1 == 3)
          (og (0 ≤ x13.2.2.1 ∧ x13.2.2.1 < ((16 : Nat) : Int)) <|
          Option.bind (getI l7_m10 x13.2.2.1) fun x27 =>
          og (0 ≤ x13.2.2.2.1 ∧ x13.2.2.2.1 < ((16 : Nat) : Int)) <|
          Option.bind (getI l7_m10 x13.2.2.2.1) fun x29 =>
          Option.bind (L_impl_mod a1 (IntKind.i64.wrap (x27 + x29))) fun y30 =>
          og (0 ≤ x13.2.1 ∧ x13.2.1 < ((16 : Nat) : Int)) <|
          Option.bind (getI l7_m10 x13.2.1) fun x32 =>
          some (l7_m10.set x13.2.1.toNat y30, l7_m11, l7_m12))
          (cond (x13.1 == 4)
            (og (0 ≤ x13.2.2.1 ∧ x13.2.2.1 < ((16 : Nat) : Int)) <|
            Option.bind (getI l7_m10 x13.2.2.1) fun x36 =>
            Option.bind (L_impl_mod a1 (IntKind.i64.wrap (x13.2.2.2.2 * x36))) fun y37 =>
            og (0 ≤ x13.2.1 ∧ x13.2.1 < ((16 : Nat) : Int)) <|
            Option.bind (getI l7_m10 x13.2.1) fun x39 =>
            some (l7_m10.set x13.2.1.toNat y37, l7_m11, l7_m12))
            (cond (x13.1 == 5)
              (Option.bind (getI l7_m11 x13.2.2.1) fun x42 =>
              og (0 ≤ x13.2.1 ∧ x13.2.1 < ((16 : Nat) : Int)) <|
              Option.bind (getI l7_m10 x13.2.1) fun x44 =>
              some (l7_m10.set x13.2.1.toNat x42, l7_m11, l7_m12))
              (cond (x13.1 == 6)
                (og (0 ≤ x13.2.1 ∧ x13.2.1 < ((16 : Nat) : Int)) <|
                Option.bind (getI l7_m10 x13.2.1) fun x48 =>
                Option.bind (getI l7_m11 x13.2.2.1) fun x49 =>
                some (l7_m10, l7_m11.set x13.2.2.1.toNat x48, l7_m12))
                (cond (x13.1 == 7)
                  (og (0 ≤ x13.2.1 ∧ x13.2.1 < ((16 : Nat) : Int)) <|
                  Option.bind (getI l7_m10 x13.2.1) fun x53 =>
                  Option.bind (getI l7_m12 x13.2.2.1) fun x54 =>
                  some (l7_m10, l7_m11, l7_m12.set x13.2.2.1.toNat x53))
                  (some (l7_m10, l7_m11, l7_m12))))))))) fun (l11_m10, l11_m11, l11_m12) =>
  og (l7_m24 + 1 < 4611686018427387904) <|
  some (Ctl.next (l7_m24 + 1, l11_m10, l11_m11, l11_m12)))
  (some (Ctl.out (l7_m11, l7_m12)))
def L_impl_Program_step (a0_0 : Int) (a0_1 : Int) (a0_2 : Int) (a0_3 : Int) (a0_4 : List (Int × Int × Int × Int × Int)) (a1 : Int) (a2 : List Int) (a3 : List Int) : Option (List Int × List Int) :=
  Option.bind (L_impl_clone a2) fun y3 =>
Option.bind (L_impl_zeros a0_1) fun y4 =>
Option.bind (loopM (fun s_ : Nat × List Int × List Int × List Int => L_impl_Program_step_l1 a0_4 a3 a1 s_.1 s_.2.1 s_.2.2.1 s_.2.2.2) 4611686018427387904 (0, List.replicate 16 0, y3, y4)) fun (l5_m11, l5_m12) =>
some (l5_m11, l5_m12)
def rv_impl_Program_step (r : List Int × List Int) : RV := ⟨true, [(false, [.new 3 .int r.1]), (false, [.new 3 .int r.2])]⟩
theorem ok_impl_Program_step {a0_0 : Int} {a0_1 : Int} {a0_2 : Int} {a0_3 : Int} {a0_4 : List (Int × Int × Int × Int × Int)} {a1 : Int} {a2 : List Int} {a3 : List Int} {r : List Int × List Int} (h : L_impl_Program_step a0_0 a0_1 a0_2 a0_3 a0_4 a1 a2 a3 = some r) : CallOK Tryd.prog Tab 45 [(.agg [(.int .i64 a0_0), (.int .i64 a0_1), (.int .i64 a0_2), (.int .i64 a0_3), (.tree (.pair .int (.pair .int (.pair .int (.pair .int .int)))) a0_4)]), (.int .i64 a1), (.tree .int a2), (.tree .int a3)] (rv_impl_Program_step r) := by
  refine call_of_ (by kernel_rfl) Tryd.func45 c_impl_Program_step (n := 108) (by kernel_rfl) (by simp) (tl := [(0, (.agg [(.int .i64 a0_0), (.int .i64 a0_1), (.int .i64 a0_2), (.int .i64 a0_3), (.tree (.pair .int (.pair .int (.pair .int (.pair .int .int)))) a0_4)])), (1, (.int .i64 a1)), (2, (.tree .int a2)), (3, (.tree .int a3))]) rfl ?_
  unfold m_impl_Program_step
  unfold L_impl_Program_step at h
  refine awp_seq_ ?_
  refine awp_region_ 4 (by kernel_rfl) ?_
  refine rs1 (.box (4, 1) 0) (4, 1) (.cells 29 [(.int .i64 a0_0), (.int .i64 a0_1), (.int .i64 a0_2), (.int .i64 a0_3), (.tree (.pair .int (.pair .int (.pair .int (.pair .int .int)))) a0_4)]) (by kernel_rfl) ?_
  refine rs0 .nils (by kernel_rfl) ?_
  refine rs0 .nils (by kernel_rfl) ?_
  refine rnil (tn_ ?_)
  refine awp_seq_ ?_
  obtain ⟨y3, h3, h⟩ := ob_some h
  obtain ⟨y4, h4, h⟩ := ob_some h
  refine awp_regionD_ 14 (by kernel_rfl) ?_
  refine ds0 (.agg [(.int .i64 0), (.int .i64 0), (.int .i64 0), (.int .i64 0), (.int .i64 0), (.int .i64 0), (.int .i64 0), (.int .i64 0), (.int .i64 0), (.int .i64 0), (.int .i64 0), (.int .i64 0), (.int .i64 0), (.int .i64 0), (.int .i64 0), (.int .i64 0)]) (by kernel_rfl) ?_
  refine ds0 (.tree .int a2) (by kernel_rfl) ?_
  refine dcall (.own (272, 6) .int 0 y3.length) [((272, 6), some (.arr 3 .int y3))] [(.tree .int a2)] _ (caps := []) (args0 := [(.tree .int a2)]) trivial (by kernel_rfl) (by kernel_rfl) (by kernel_rfl) (by kernel_rfl) (ok_impl_clone h3) hb_impl_clone (by kernel_rfl) ?_
  refine ds0 (.box (4, 1) 1) (by kernel_rfl) ?_
  refine dsl (.int .i64 a0_1) (by kernel_rfl) ?_
  refine dcall (.own (320, 9) .int 0 y4.length) [((320, 9), some (.arr 3 .int y4))] [(.int .i64 a0_1)] _ (caps := []) (args0 := [(.int .i64 a0_1)]) trivial (by kernel_rfl) (by kernel_rfl) (by kernel_rfl) (by kernel_rfl) (ok_impl_zeros h4) hb_impl_zeros (by kernel_rfl) ?_
  refine ds1 (.elt (10, 10) 0 0) (10, 10) (.arr 59 (tyA 15) [tupA 15 (List.replicate 16 0)]) (by kernel_rfl) ?_
  refine dsn2 (10, 10) (10, 10) (.arr 59 (tyA 15) [tupA 15 (List.replicate 16 0)]) (by kernel_rfl) ?_
  refine ds0 (.own (272, 6) .int 0 y3.length) (by kernel_rfl) ?_
  refine ds0 (.own (320, 9) .int 0 y4.length) (by kernel_rfl) ?_
  refine dnil (by kernel_rfl) (tn_ ?_)
  refine awp_seqB h (fun t_ S_ => ∃ (l5_m11 : List Int), ∃ (l5_m12 : List Int), t_ = (l5_m11, l5_m12) ∧ S_ = ⟨mkTm [(11, (.own (0, 1) .int 0 l5_m11.length)), (12, (.own (1, 1) .int 0 l5_m12.length))], mkOb (someL [((0, 1), .arr 3 .int l5_m11), ((1, 1), .arr 3 .int l5_m12)]), 2⟩) ?_ ?_
  · intro v_ h
    refine awp_seq_ ?_
    refine awp_region_ 18 (by kernel_rfl) ?_
    refine rs0 (.box (4, 1) 4) (by kernel_rfl) ?_
    refine rsl (.tree (.pair .int (.pair .int (.pair .int (.pair .int .int)))) a0_4) (by kernel_rfl) ?_
    refine rs0 (.int .i64 ((a0_4.length : Nat) : Int)) (by kernel_rfl) ?_
    refine rs0 (.int .i64 0) (by kernel_rfl) ?_
    refine rnil (tn_ ?_)
    refine awp_block_ ?_
    refine awp_loopL h (fun t_ S_ => ∃ (l7_m24 : Nat), ∃ (l7_m10 : List Int), ∃ (l7_m11 : List Int), ∃ (l7_m12 : List Int), t_ = (l7_m24, l7_m10, l7_m11, l7_m12) ∧ S_ = ⟨mkTm [(1, (.int .i64 a1)), (3, (.tree .int a3)), (10, (.elt (0, 1) 0 0)), (11, (.own (1, 1) .int 0 l7_m11.length)), (12, (.own (2, 1) .int 0 l7_m12.length)), (22, (.tree (.pair .int (.pair .int (.pair .int (.pair .int .int)))) a0_4)), (23, (.int .i64 ((a0_4.length : Nat) : Int))), (24, (.int .i64 ((l7_m24 : Nat) : Int)))], mkOb (someL [((0, 1), .arr 59 (tyA 15) [tupA 15 l7_m10]), ((1, 1), .arr 3 .int l7_m11), ((2, 1), .arr 3 .int l7_m12)]), 2⟩) ⟨_, (weak_ren (renF [((0, 1), (10, 10)), ((1, 1), (272, 6)), ((2, 1), (320, 9))]) (by kernel_rfl) (by kernel_rfl) (by kernel_rfl)), ⟨0, List.replicate 16 0, y3, y4, rfl, rfl⟩⟩ ?_
    · rintro n_ _ _ c_ ⟨l7_m24, l7_m10, l7_m11, l7_m12, rfl, rfl⟩ h hn7
      (try dsimp only at h)
      unfold L_impl_Program_step_l1 at h
      unfold m_impl_Program_step_l1
      refine awp_seq_ ?_
      refine awp_region_ 3 (by kernel_rfl) ?_
      refine rs0 (.bool (decide (((l7_m24 : Nat) : Int) < ((a0_4.length : Nat) : Int)))) (by kernel_rfl) ?_
      refine rnil (tn_ ?_)
      refine awp_seq_ ?_
      rcases cond_some h with ⟨q10, h⟩ | ⟨q10, h⟩
      · have q10_ := of_decide_eq_true q10
        refine awp_condT_ q10 (by kernel_rfl) ?_
        refine awp_skip_ (tn_ ?_)
        refine awp_seqB h (fun t_ S_ => ∃ (l11_m10 : List Int), ∃ (l11_m11 : List Int), ∃ (l11_m12 : List Int), t_ = (l11_m10, l11_m11, l11_m12) ∧ S_ = ⟨mkTm [(1, (.int .i64 a1)), (3, (.tree .int a3)), (10, (.elt (0, 1) 0 0)), (11, (.own (1, 1) .int 0 l11_m11.length)), (12, (.own (2, 1) .int 0 l11_m12.length)), (22, (.tree (.pair .int (.pair .int (.pair .int (.pair .int .int)))) a0_4)), (23, (.int .i64 ((a0_4.length : Nat) : Int))), (24, (.int .i64 ((l7_m24 : Nat) : Int)))], mkOb (someL [((0, 1), .arr 59 (tyA 15) [tupA 15 l11_m10]), ((1, 1), .arr 3 .int l11_m11), ((2, 1), .arr 3 .int l11_m12)]), 2⟩) ?_ ?_
        · intro v_ h
          refine awp_block_ ?_
          refine awp_seq_ ?_
          obtain ⟨x13, e13, h⟩ := ob_some h
          refine awp_region_ 7 (by kernel_rfl) ?_
          refine rs0 (.telt (.pair .int (.pair .int (.pair .int (.pair .int .int)))) x13 0) (s_idxT (t := (.pair .int (.pair .int (.pair .int (.pair .int .int))))) (xs := a0_4) (k := .i64) (m := ((l7_m24 : Nat) : Int)) (by kernel_rfl) (by kernel_rfl) rfl (nat_nn _) rfl e13) ?_
          refine rs0 (.agg [(.int .i64 x13.1), (.int .i64 x13.2.1), (.int .i64 x13.2.2.1), (.int .i64 x13.2.2.2.1), (.int .i64 x13.2.2.2.2)]) (by kernel_rfl) ?_
          refine rs1 (.box (14, 5) 0) (14, 5) (.cells 69 [(.int .i64 0), (.int .i64 0), (.int .i64 0), (.int .i64 0), (.int .i64 0)]) (by kernel_rfl) ?_
          refine rsn2 (14, 5) (14, 5) (.cells 69 [(.int .i64 x13.1), (.int .i64 x13.2.1), (.int .i64 x13.2.2.1), (.int .i64 x13.2.2.2.1), (.int .i64 x13.2.2.2.2)]) (by kernel_rfl) ?_
          refine rnil (tn_ ?_)
          refine awp_seq_ ?_
          refine awp_region_ 9 (by kernel_rfl) ?_
          refine rs0 (.box (14, 5) 0) (by kernel_rfl) ?_
          refine rsl (.int .i64 x13.1) (by kernel_rfl) ?_
          refine rnil (tn_ ?_)
          refine awp_block_ ?_
          refine awp_seq_ ?_
          refine awp_region_ 11 (by kernel_rfl) ?_
          refine rs0 (.bool (x13.1 == 1)) (by kernel_rfl) ?_
          refine rs0 (.bool (x13.1 == 1)) (by kernel_rfl) ?_
          refine rnil (tn_ ?_)
          rcases cond_some h with ⟨q16, h⟩ | ⟨q16, h⟩
          · refine awp_condT_ q16 (by kernel_rfl) ?_
            obtain ⟨x17, f17, h⟩ := ob_some h
            obtain ⟨p17, b17, e17⟩ := getI_some f17
            obtain ⟨g18, h⟩ := og_some h
            obtain ⟨x19, f19, h⟩ := ob_some h
            obtain ⟨p19, b19, e19⟩ := getI_some f19
            refine awp_regionD_ 20 (by kernel_rfl) ?_
            refine ds0 (.box (14, 5) 1) (by kernel_rfl) ?_
            refine dsl (.int .i64 x13.2.1) (by kernel_rfl) ?_
            refine ds0 (.tree .int a3) (by kernel_rfl) ?_
            refine ds0 (.box (14, 5) 2) (by kernel_rfl) ?_
            refine dsl (.int .i64 x13.2.2.1) (by kernel_rfl) ?_
            refine ds0 (.telt .int x17 0) (s_idxT (t := .int) (xs := a3) (k := .i64) (m := x13.2.2.1) (by kernel_rfl) (by kernel_rfl) rfl p17 rfl e17) ?_
            refine ds0 (.int .i64 x17) (by kernel_rfl) ?_
            refine ds0 (.elt (0, 1) 0 x13.2.1.toNat) (s_idxA (o := (0, 1)) (k := .i64) (m := x13.2.1) (by kernel_rfl) (by kernel_rfl) g18 rfl) ?_
            refine dsn2 (0, 1) (0, 1) (.arr 59 (tyA 15) [tupA 15 (l7_m10.set x13.2.1.toNat x17)]) (s_stA (N := 15) (ty := 59) (i := (0, 1)) (e := 0) (j := x13.2.1.toNat) (l := l7_m10) (v := x17) (xs := [tupA 15 l7_m10]) (by kernel_rfl) (by kernel_rfl) rfl (idxA_le g18) e19 (by kernel_rfl) rfl) ?_
            refine dnil (by kernel_rfl) (bn_ (bn_ (tn_ ?_)))
            obtain rfl := Option.some.inj h
            exact ⟨_, (weak_ren (renF []) (by kernel_rfl) (by kernel_rfl) (by kernel_rfl)), ⟨l7_m10.set x13.2.1.toNat x17, l7_m11, l7_m12, rfl, rfl⟩⟩
          · refine awp_condF_ q16 (by kernel_rfl) ?_
            refine awp_seq_ ?_
            refine awp_region_ 13 (by kernel_rfl) ?_
            refine rs0 (.bool (x13.1 == 2)) (by kernel_rfl) ?_
            refine rs0 (.bool (x13.1 == 2)) (by kernel_rfl) ?_
            refine rnil (tn_ ?_)
            rcases cond_some h with ⟨q21, h⟩ | ⟨q21, h⟩
            · refine awp_condT_ q21 (by kernel_rfl) ?_
              obtain ⟨g22, h⟩ := og_some h
              obtain ⟨x23, f23, h⟩ := ob_some h
              obtain ⟨p23, b23, e23⟩ := getI_some f23
              refine awp_region_ 17 (by kernel_rfl) ?_
              refine rs0 (.box (14, 5) 1) (by kernel_rfl) ?_
              refine rsl (.int .i64 x13.2.1) (by kernel_rfl) ?_
              refine rs0 (.elt (0, 1) 0 x13.2.1.toNat) (s_idxA (o := (0, 1)) (k := .i64) (m := x13.2.1) (by kernel_rfl) (by kernel_rfl) g22 rfl) ?_
              refine rsn2 (0, 1) (0, 1) (.arr 59 (tyA 15) [tupA 15 (l7_m10.set x13.2.1.toNat 0)]) (s_stA (N := 15) (ty := 59) (i := (0, 1)) (e := 0) (j := x13.2.1.toNat) (l := l7_m10) (v := 0) (xs := [tupA 15 l7_m10]) (by kernel_rfl) (by kernel_rfl) rfl (idxA_le g22) e23 (by kernel_rfl) rfl) ?_
              refine rnil (bn_ (bn_ (tn_ ?_)))
              obtain rfl := Option.some.inj h
              exact ⟨_, (weak_ren (renF []) (by kernel_rfl) (by kernel_rfl) (by kernel_rfl)), ⟨l7_m10.set x13.2.1.toNat 0, l7_m11, l7_m12, rfl, rfl⟩⟩
            · refine awp_condF_ q21 (by kernel_rfl) ?_
              refine awp_seq_ ?_
              refine awp_region_ 15 (by kernel_rfl) ?_
              refine rs0 (.bool (x13.1 == 3)) (by kernel_rfl) ?_
              refine rs0 (.bool (x13.1 == 3)) (by kernel_rfl) ?_
              refine rnil (tn_ ?_)
              rcases cond_some h with ⟨q25, h⟩ | ⟨q25, h⟩
              · refine awp_condT_ q25 (by kernel_rfl) ?_
                obtain ⟨g26, h⟩ := og_some h
                obtain ⟨x27, f27, h⟩ := ob_some h
                obtain ⟨p27, b27, e27⟩ := getI_some f27
                obtain ⟨g28, h⟩ := og_some h
                obtain ⟨x29, f29, h⟩ := ob_some h
                obtain ⟨p29, b29, e29⟩ := getI_some f29
                obtain ⟨y30, h30, h⟩ := ob_some h
                obtain ⟨g31, h⟩ := og_some h
                obtain ⟨x32, f32, h⟩ := ob_some h
                obtain ⟨p32, b32, e32⟩ := getI_some f32
                refine awp_regionD_ 30 (by kernel_rfl) ?_
                refine ds0 (.box (14, 5) 1) (by kernel_rfl) ?_
                refine dsl (.int .i64 x13.2.1) (by kernel_rfl) ?_
                refine ds0 (.int .i64 a1) (by kernel_rfl) ?_
                refine ds0 (.box (14, 5) 2) (by kernel_rfl) ?_
                refine dsl (.int .i64 x13.2.2.1) (by kernel_rfl) ?_
                refine ds0 (.elt (0, 1) 0 x13.2.2.1.toNat) (s_idxA (o := (0, 1)) (k := .i64) (m := x13.2.2.1) (by kernel_rfl) (by kernel_rfl) g26 rfl) ?_
                refine dsl (.int .i64 x27) (s_ldA (N := 15) (ty := 59) (i := (0, 1)) (e := 0) (j := x13.2.2.1.toNat) (l := l7_m10) (xs := [tupA 15 l7_m10]) (by kernel_rfl) (by kernel_rfl) rfl (idxA_le g26) e27) ?_
                refine ds0 (.box (14, 5) 3) (by kernel_rfl) ?_
                refine dsl (.int .i64 x13.2.2.2.1) (by kernel_rfl) ?_
                refine ds0 (.elt (0, 1) 0 x13.2.2.2.1.toNat) (s_idxA (o := (0, 1)) (k := .i64) (m := x13.2.2.2.1) (by kernel_rfl) (by kernel_rfl) g28 rfl) ?_
                refine dsl (.int .i64 x29) (s_ldA (N := 15) (ty := 59) (i := (0, 1)) (e := 0) (j := x13.2.2.2.1.toNat) (l := l7_m10) (xs := [tupA 15 l7_m10]) (by kernel_rfl) (by kernel_rfl) rfl (idxA_le g28) e29) ?_
                refine ds0 (.int .i64 (IntKind.i64.wrap (x27 + x29))) (by kernel_rfl) ?_
                refine dcall (.int .i64 y30) [] [(.int .i64 a1), (.int .i64 (IntKind.i64.wrap (x27 + x29)))] _ (caps := []) (args0 := [(.int .i64 a1), (.int .i64 (IntKind.i64.wrap (x27 + x29)))]) trivial (by kernel_rfl) (by kernel_rfl) (by kernel_rfl) (by kernel_rfl) (ok_impl_mod h30) hb_impl_mod (by kernel_rfl) ?_
                refine ds0 (.elt (0, 1) 0 x13.2.1.toNat) (s_idxA (o := (0, 1)) (k := .i64) (m := x13.2.1) (by kernel_rfl) (by kernel_rfl) g31 rfl) ?_
                refine dsn2 (0, 1) (0, 1) (.arr 59 (tyA 15) [tupA 15 (l7_m10.set x13.2.1.toNat y30)]) (s_stA (N := 15) (ty := 59) (i := (0, 1)) (e := 0) (j := x13.2.1.toNat) (l := l7_m10) (v := y30) (xs := [tupA 15 l7_m10]) (by kernel_rfl) (by kernel_rfl) rfl (idxA_le g31) e32 (by kernel_rfl) rfl) ?_
                refine dnil (by kernel_rfl) (bn_ (bn_ (tn_ ?_)))
                obtain rfl := Option.some.inj h
                exact ⟨_, (weak_ren (renF []) (by kernel_rfl) (by kernel_rfl) (by kernel_rfl)), ⟨l7_m10.set x13.2.1.toNat y30, l7_m11, l7_m12, rfl, rfl⟩⟩
              · refine awp_condF_ q25 (by kernel_rfl) ?_
                refine awp_seq_ ?_
                refine awp_region_ 17 (by kernel_rfl) ?_
                refine rs0 (.bool (x13.1 == 4)) (by kernel_rfl) ?_
                refine rs0 (.bool (x13.1 == 4)) (by kernel_rfl) ?_
                refine rnil (tn_ ?_)
                rcases cond_some h with ⟨q34, h⟩ | ⟨q34, h⟩
                · refine awp_condT_ q34 (by kernel_rfl) ?_
                  obtain ⟨g35, h⟩ := og_some h
                  obtain ⟨x36, f36, h⟩ := ob_some h
                  obtain ⟨p36, b36, e36⟩ := getI_some f36
                  obtain ⟨y37, h37, h⟩ := ob_some h
                  obtain ⟨g38, h⟩ := og_some h
                  obtain ⟨x39, f39, h⟩ := ob_some h
                  obtain ⟨p39, b39, e39⟩ := getI_some f39
                  refine awp_regionD_ 30 (by kernel_rfl) ?_
                  refine ds0 (.box (14, 5) 1) (by kernel_rfl) ?_
                  refine dsl (.int .i64 x13.2.1) (by kernel_rfl) ?_
                  refine ds0 (.int .i64 a1) (by kernel_rfl) ?_
                  refine ds0 (.box (14, 5) 4) (by kernel_rfl) ?_
                  refine dsl (.int .i64 x13.2.2.2.2) (by kernel_rfl) ?_
                  refine ds0 (.box (14, 5) 2) (by kernel_rfl) ?_
                  refine dsl (.int .i64 x13.2.2.1) (by kernel_rfl) ?_
                  refine ds0 (.elt (0, 1) 0 x13.2.2.1.toNat) (s_idxA (o := (0, 1)) (k := .i64) (m := x13.2.2.1) (by kernel_rfl) (by kernel_rfl) g35 rfl) ?_
                  refine dsl (.int .i64 x36) (s_ldA (N := 15) (ty := 59) (i := (0, 1)) (e := 0) (j := x13.2.2.1.toNat) (l := l7_m10) (xs := [tupA 15 l7_m10]) (by kernel_rfl) (by kernel_rfl) rfl (idxA_le g35) e36) ?_
                  refine ds0 (.int .i64 (IntKind.i64.wrap (x13.2.2.2.2 * x36))) (by kernel_rfl) ?_
                  refine dcall (.int .i64 y37) [] [(.int .i64 a1), (.int .i64 (IntKind.i64.wrap (x13.2.2.2.2 * x36)))] _ (caps := []) (args0 := [(.int .i64 a1), (.int .i64 (IntKind.i64.wrap (x13.2.2.2.2 * x36)))]) trivial (by kernel_rfl) (by kernel_rfl) (by kernel_rfl) (by kernel_rfl) (ok_impl_mod h37) hb_impl_mod (by kernel_rfl) ?_
                  refine ds0 (.elt (0, 1) 0 x13.2.1.toNat) (s_idxA (o := (0, 1)) (k := .i64) (m := x13.2.1) (by kernel_rfl) (by kernel_rfl) g38 rfl) ?_
                  refine dsn2 (0, 1) (0, 1) (.arr 59 (tyA 15) [tupA 15 (l7_m10.set x13.2.1.toNat y37)]) (s_stA (N := 15) (ty := 59) (i := (0, 1)) (e := 0) (j := x13.2.1.toNat) (l := l7_m10) (v := y37) (xs := [tupA 15 l7_m10]) (by kernel_rfl) (by kernel_rfl) rfl (idxA_le g38) e39 (by kernel_rfl) rfl) ?_
                  refine dnil (by kernel_rfl) (bn_ (bn_ (tn_ ?_)))
                  obtain rfl := Option.some.inj h
                  exact ⟨_, (weak_ren (renF []) (by kernel_rfl) (by kernel_rfl) (by kernel_rfl)), ⟨l7_m10.set x13.2.1.toNat y37, l7_m11, l7_m12, rfl, rfl⟩⟩
                · refine awp_condF_ q34 (by kernel_rfl) ?_
                  refine awp_seq_ ?_
                  refine awp_region_ 19 (by kernel_rfl) ?_
                  refine rs0 (.bool (x13.1 == 5)) (by kernel_rfl) ?_
                  refine rs0 (.bool (x13.1 == 5)) (by kernel_rfl) ?_
                  refine rnil (tn_ ?_)
                  rcases cond_some h with ⟨q41, h⟩ | ⟨q41, h⟩
                  · refine awp_condT_ q41 (by kernel_rfl) ?_
                    obtain ⟨x42, f42, h⟩ := ob_some h
                    obtain ⟨p42, b42, e42⟩ := getI_some f42
                    obtain ⟨g43, h⟩ := og_some h
                    obtain ⟨x44, f44, h⟩ := ob_some h
                    obtain ⟨p44, b44, e44⟩ := getI_some f44
                    refine awp_regionD_ 28 (by kernel_rfl) ?_
                    refine ds0 (.box (14, 5) 1) (by kernel_rfl) ?_
                    refine dsl (.int .i64 x13.2.1) (by kernel_rfl) ?_
                    refine ds0 (.own (1, 1) .int 0 l7_m11.length) (by kernel_rfl) ?_
                    refine ds0 (.box (14, 5) 2) (by kernel_rfl) ?_
                    refine dsl (.int .i64 x13.2.2.1) (by kernel_rfl) ?_
                    refine ds0 (.elt (1, 1) x13.2.2.1.toNat 0) (s_idxO (t := .int) (o := (1, 1)) (len := l7_m11.length) (k := .i64) (m := x13.2.2.1) (by kernel_rfl) (by kernel_rfl) rfl p42 rfl (getN_lt e42)) ?_
                    refine dsl (.int .i64 x42) (s_ldE (i := (1, 1)) (j := x13.2.2.1.toNat) (k := 0) (e := 3) (t := .int) (xs := l7_m11) (by kernel_rfl) (by kernel_rfl) e42 (by kernel_rfl)) ?_
                    refine ds0 (.elt (0, 1) 0 x13.2.1.toNat) (s_idxA (o := (0, 1)) (k := .i64) (m := x13.2.1) (by kernel_rfl) (by kernel_rfl) g43 rfl) ?_
                    refine dsn2 (0, 1) (0, 1) (.arr 59 (tyA 15) [tupA 15 (l7_m10.set x13.2.1.toNat x42)]) (s_stA (N := 15) (ty := 59) (i := (0, 1)) (e := 0) (j := x13.2.1.toNat) (l := l7_m10) (v := x42) (xs := [tupA 15 l7_m10]) (by kernel_rfl) (by kernel_rfl) rfl (idxA_le g43) e44 (by kernel_rfl) rfl) ?_
                    refine dnil (by kernel_rfl) (bn_ (bn_ (tn_ ?_)))
                    obtain rfl := Option.some.inj h
                    exact ⟨_, (weak_ren (renF []) (by kernel_rfl) (by kernel_rfl) (by kernel_rfl)), ⟨l7_m10.set x13.2.1.toNat x42, l7_m11, l7_m12, rfl, rfl⟩⟩
                  · refine awp_condF_ q41 (by kernel_rfl) ?_
                    refine awp_seq_ ?_
                    refine awp_region_ 21 (by kernel_rfl) ?_
                    refine rs0 (.bool (x13.1 == 6)) (by kernel_rfl) ?_
                    refine rs0 (.bool (x13.1 == 6)) (by kernel_rfl) ?_
                    refine rnil (tn_ ?_)
                    rcases cond_some h with ⟨q46, h⟩ | ⟨q46, h⟩
                    · refine awp_condT_ q46 (by kernel_rfl) ?_
                      obtain ⟨g47, h⟩ := og_some h
                      obtain ⟨x48, f48, h⟩ := ob_some h
                      obtain ⟨p48, b48, e48⟩ := getI_some f48
                      obtain ⟨x49, f49, h⟩ := ob_some h
                      obtain ⟨p49, b49, e49⟩ := getI_some f49
                      refine awp_regionD_ 30 (by kernel_rfl) ?_
                      refine ds0 (.own (1, 1) .int 0 l7_m11.length) (by kernel_rfl) ?_
                      refine ds0 (.box (14, 5) 2) (by kernel_rfl) ?_
                      refine dsl (.int .i64 x13.2.2.1) (by kernel_rfl) ?_
                      refine ds0 (.box (14, 5) 1) (by kernel_rfl) ?_
                      refine dsl (.int .i64 x13.2.1) (by kernel_rfl) ?_
                      refine ds0 (.elt (0, 1) 0 x13.2.1.toNat) (s_idxA (o := (0, 1)) (k := .i64) (m := x13.2.1) (by kernel_rfl) (by kernel_rfl) g47 rfl) ?_
                      refine dsl (.int .i64 x48) (s_ldA (N := 15) (ty := 59) (i := (0, 1)) (e := 0) (j := x13.2.1.toNat) (l := l7_m10) (xs := [tupA 15 l7_m10]) (by kernel_rfl) (by kernel_rfl) rfl (idxA_le g47) e48) ?_
                      refine ds0 (.elt (1, 1) x13.2.2.1.toNat 0) (s_idxO (t := .int) (o := (1, 1)) (len := l7_m11.length) (k := .i64) (m := x13.2.2.1) (by kernel_rfl) (by kernel_rfl) rfl p49 rfl (getN_lt e49)) ?_
                      refine dsn2 (1, 1) (1, 1) (.arr 3 .int (l7_m11.set x13.2.2.1.toNat x48)) (s_stE (i := (1, 1)) (j := x13.2.2.1.toNat) (k := 0) (e := 3) (t := .int) (xs := l7_m11) (cs := [(.int .i64 x48)]) (x1 := x48) (by kernel_rfl) (by kernel_rfl) e49 (by kernel_rfl) (by kernel_rfl)) ?_
                      refine dnil (by kernel_rfl) (bn_ (bn_ (tn_ ?_)))
                      obtain rfl := Option.some.inj h
                      exact ⟨_, ((weak_tm_ 11 (.own (1, 1) .int 0 l7_m11.length) (.own (1, 1) .int 0 ((l7_m11.set x13.2.2.1.toNat x48).length)) (by kernel_rfl) (congrArg (fun z_ => ((.own (1, 1) .int 0 z_) : AV)) (((rfl : l7_m11.length = l7_m11.length).trans List.length_set.symm) : l7_m11.length = (l7_m11.set x13.2.2.1.toNat x48).length))).trans (weak_ren (renF []) (by kernel_rfl) (by kernel_rfl) (by kernel_rfl))), ⟨l7_m10, l7_m11.set x13.2.2.1.toNat x48, l7_m12, rfl, rfl⟩⟩
                    · refine awp_condF_ q46 (by kernel_rfl) ?_
                      refine awp_seq_ ?_
                      refine awp_region_ 23 (by kernel_rfl) ?_
                      refine rs0 (.bool (x13.1 == 7)) (by kernel_rfl) ?_
                      refine rs0 (.bool (x13.1 == 7)) (by kernel_rfl) ?_
                      refine rnil (tn_ ?_)
                      rcases cond_some h with ⟨q51, h⟩ | ⟨q51, h⟩
                      · refine awp_condT_ q51 (by kernel_rfl) ?_
                        obtain ⟨g52, h⟩ := og_some h
                        obtain ⟨x53, f53, h⟩ := ob_some h
                        obtain ⟨p53, b53, e53⟩ := getI_some f53
                        obtain ⟨x54, f54, h⟩ := ob_some h
                        obtain ⟨p54, b54, e54⟩ := getI_some f54
                        refine awp_regionD_ 32 (by kernel_rfl) ?_
                        refine ds0 (.own (2, 1) .int 0 l7_m12.length) (by kernel_rfl) ?_
                        refine ds0 (.box (14, 5) 2) (by kernel_rfl) ?_
                        refine dsl (.int .i64 x13.2.2.1) (by kernel_rfl) ?_
                        refine ds0 (.box (14, 5) 1) (by kernel_rfl) ?_
                        refine dsl (.int .i64 x13.2.1) (by kernel_rfl) ?_
                        refine ds0 (.elt (0, 1) 0 x13.2.1.toNat) (s_idxA (o := (0, 1)) (k := .i64) (m := x13.2.1) (by kernel_rfl) (by kernel_rfl) g52 rfl) ?_
                        refine dsl (.int .i64 x53) (s_ldA (N := 15) (ty := 59) (i := (0, 1)) (e := 0) (j := x13.2.1.toNat) (l := l7_m10) (xs := [tupA 15 l7_m10]) (by kernel_rfl) (by kernel_rfl) rfl (idxA_le g52) e53) ?_
                        refine ds0 (.elt (2, 1) x13.2.2.1.toNat 0) (s_idxO (t := .int) (o := (2, 1)) (len := l7_m12.length) (k := .i64) (m := x13.2.2.1) (by kernel_rfl) (by kernel_rfl) rfl p54 rfl (getN_lt e54)) ?_
                        refine dsn2 (2, 1) (2, 1) (.arr 3 .int (l7_m12.set x13.2.2.1.toNat x53)) (s_stE (i := (2, 1)) (j := x13.2.2.1.toNat) (k := 0) (e := 3) (t := .int) (xs := l7_m12) (cs := [(.int .i64 x53)]) (x1 := x53) (by kernel_rfl) (by kernel_rfl) e54 (by kernel_rfl) (by kernel_rfl)) ?_
                        refine dnil (by kernel_rfl) (bn_ (bn_ (tn_ ?_)))
                        obtain rfl := Option.some.inj h
                        exact ⟨_, ((weak_tm_ 12 (.own (2, 1) .int 0 l7_m12.length) (.own (2, 1) .int 0 ((l7_m12.set x13.2.2.1.toNat x53).length)) (by kernel_rfl) (congrArg (fun z_ => ((.own (2, 1) .int 0 z_) : AV)) (((rfl : l7_m12.length = l7_m12.length).trans List.length_set.symm) : l7_m12.length = (l7_m12.set x13.2.2.1.toNat x53).length))).trans (weak_ren (renF []) (by kernel_rfl) (by kernel_rfl) (by kernel_rfl))), ⟨l7_m10, l7_m11, l7_m12.set x13.2.2.1.toNat x53, rfl, rfl⟩⟩
                      · refine awp_condF_ q51 (by kernel_rfl) ?_
                        refine awp_skip_ (bn_ (bn_ (tn_ ?_)))
                        obtain rfl := Option.some.inj h
                        exact ⟨_, (weak_ren (renF []) (by kernel_rfl) (by kernel_rfl) (by kernel_rfl)), ⟨l7_m10, l7_m11, l7_m12, rfl, rfl⟩⟩
        · rintro _ _ ⟨l11_m10, l11_m11, l11_m12, rfl, rfl⟩ h
          (try dsimp only at h)
          obtain ⟨g55, h⟩ := og_some h
          refine awp_region_ 4 (by kernel_rfl) ?_
          refine rs0 (.int .i64 ((l7_m24 + 1 : Nat) : Int)) (s_add1 (j := l7_m24) (by kernel_rfl) (by kernel_rfl) g55) ?_
          refine rs0 (.int .i64 ((l7_m24 + 1 : Nat) : Int)) (by kernel_rfl) ?_
          refine rnil (tn_ ?_)
          obtain rfl := Option.some.inj h
          exact ⟨(l7_m24 + 1, l11_m10, l11_m11, l11_m12), _, (weak_ren (renF []) (by kernel_rfl) (by kernel_rfl) (by kernel_rfl)), ⟨l7_m24 + 1, l11_m10, l11_m11, l11_m12, rfl, rfl⟩, hn7⟩
      · have q10_ := of_decide_eq_false q10
        refine awp_condF_ q10 (by kernel_rfl) ?_
        refine awp_exit_ (te_ (te_ (be_ (tn_ ?_))))
        obtain rfl := Option.some.inj h
        have h := hn7
        (try dsimp only at h)
        obtain rfl := Option.some.inj h
        exact ⟨_, (weak_ren (renF [((0, 1), (1, 1)), ((1, 1), (2, 1))]) (by kernel_rfl) (by kernel_rfl) (by kernel_rfl)), ⟨l7_m11, l7_m12, rfl, rfl⟩⟩
  · rintro _ _ ⟨l5_m11, l5_m12, rfl, rfl⟩ h
    (try dsimp only at h)
    refine awp_seq_ ?_
    refine awp_region_ 6 (by kernel_rfl) ?_
    refine rs0 (.own (0, 1) .int 0 l5_m11.length) (by kernel_rfl) ?_
    refine rs0 (.own (1, 1) .int 0 l5_m12.length) (by kernel_rfl) ?_
    refine rs0 (.own (0, 1) .int 0 l5_m11.length) (by kernel_rfl) ?_
    refine rs0 (.own (1, 1) .int 0 l5_m12.length) (by kernel_rfl) ?_
    refine rnil (tn_ ?_)
    refine awp_ret_ ?_
    obtain rfl := Option.some.inj h
    exact ret_ [(.own (0, 1) .int 0 l5_m11.length), (.own (1, 1) .int 0 l5_m12.length)] (by simp) (by kernel_rfl) (p_one rfl (l_own (by kernel_rfl) rfl) (p_one rfl (l_own (by kernel_rfl) rfl) p_nil)) (by kernel_rfl) (by kernel_rfl)
def m_impl_StepProgram : AC :=
  (.seq (.region [⟨(some 5), none, (.i (.box 29 (.tmp 1)))⟩, ⟨(some 8), none, (.i (.mov (.cst .nils)))⟩, ⟨(some 9), none, (.i (.mov (.cst .nils)))⟩, ⟨(some 10), none, (.i (.mov (.cst (.bool false))))⟩] false [])
  (.seq (.seq (.region [⟨(some 13), none, (.i (.mov (.tmp 0)))⟩, ⟨(some 14), none, (.i (.ld false 5 (.tmp 5)))⟩, ⟨(some 15), none, (.call (.cst (.fn 35 [])) [(.tmp 13), (.tmp 14)] [[], [none, none, none, none, (some (.pair .int (.pair .int (.pair .int (.pair .int .int)))))]])⟩, ⟨(some 16), none, (.i (.not (.tmp 15)))⟩, ⟨(some 17), none, (.i (.mov (.tmp 16)))⟩, ⟨(some 18), (some (17, false)), (.i (.mov (.tmp 0)))⟩, ⟨(some 19), (some (17, false)), (.i (.mov (.tmp 2)))⟩, ⟨(some 20), (some (17, false)), (.i (.fld 2 (.tmp 5)))⟩, ⟨(some 21), (some (17, false)), (.i (.ld true 1 (.tmp 20)))⟩, ⟨(some 22), (some (17, false)), (.call (.cst (.fn 44 [])) [(.tmp 18), (.tmp 19), (.tmp 21)] [[], [(some .int)], []])⟩, ⟨(some 23), (some (17, false)), (.i (.not (.tmp 22)))⟩, ⟨(some 24), none, (.i (.pick (.tmp 17) (.cst (.bool true)) (.tmp 23)))⟩, ⟨(some 25), none, (.i (.mov (.tmp 24)))⟩, ⟨(some 26), (some (25, false)), (.i (.mov (.tmp 0)))⟩, ⟨(some 27), (some (25, false)), (.i (.mov (.tmp 3)))⟩, ⟨(some 28), (some (25, false)), (.i (.fld 0 (.tmp 5)))⟩, ⟨(some 29), (some (25, false)), (.i (.ld true 1 (.tmp 28)))⟩, ⟨(some 30), (some (25, false)), (.call (.cst (.fn 44 [])) [(.tmp 26), (.tmp 27), (.tmp 29)] [[], [(some .int)], []])⟩, ⟨(some 31), (some (25, false)), (.i (.not (.tmp 30)))⟩, ⟨(some 32), none, (.i (.pick (.tmp 25) (.cst (.bool true)) (.tmp 31)))⟩] false [])
  (.cond (.tmp 32)
    (.seq (.region [⟨(some 8), none, (.i (.mov (.cst .nils)))⟩, ⟨(some 9), none, (.i (.mov (.cst .nils)))⟩, ⟨(some 10), none, (.i (.mov (.cst (.bool false))))⟩] false [])
    .ret)
    .skip))
  (.seq (.region [⟨(some 34), none, (.i (.ld false 5 (.tmp 5)))⟩, ⟨(some 35), none, (.i (.mov (.tmp 0)))⟩, ⟨(some 36), none, (.i (.mov (.tmp 2)))⟩, ⟨(some 37), none, (.i (.mov (.tmp 3)))⟩, ⟨(some 38), none, (.call (.cst (.fn 45 [])) [(.tmp 34), (.tmp 35), (.tmp 36), (.tmp 37)] [[none, none, none, none, (some (.pair .int (.pair .int (.pair .int (.pair .int .int)))))], [], [(some .int)], [(some .int)]])⟩, ⟨(some 33), none, (.i (.mov (.tmp 38)))⟩, ⟨(some 39), none, (.i (.extr 0 (.tmp 33)))⟩, ⟨(some 40), none, (.i (.extr 1 (.tmp 33)))⟩, ⟨(some 11), none, (.i (.mov (.tmp 39)))⟩, ⟨(some 12), none, (.i (.mov (.tmp 40)))⟩] false [])
  (.seq (.region [⟨(some 41), none, (.i (.mov (.tmp 11)))⟩, ⟨(some 42), none, (.i (.mov (.tmp 12)))⟩, ⟨(some 8), none, (.i (.mov (.tmp 41)))⟩, ⟨(some 9), none, (.i (.mov (.tmp 42)))⟩, ⟨(some 10), none, (.i (.mov (.cst (.bool true))))⟩] false [])
  .ret))))
def r_impl_StepProgram : List Res := [.tmp 8, .tmp 9, .tmp 10]
theorem c_impl_StepProgram : compiled Tryd.prog Tryd.f21 = some (m_impl_StepProgram, r_impl_StepProgram) := by kernel_rfl
theorem hb_impl_StepProgram : hasBody Tryd.prog 21 = true := by kernel_rfl
def L_impl_StepProgram (a0 : Int) (a1_0 : Int) (a1_1 : Int) (a1_2 : Int) (a1_3 : Int) (a1_4 : List (Int × Int × Int × Int × Int)) (a2 : List Int) (a3 : List Int) : Option (List Int × List Int × Bool) :=
  Option.bind (Option.bind (L_impl_isProgram a0 a1_0 a1_1 a1_2 a1_3 a1_4) fun y4 =>
  cond (!y4)
    (some true)
    (Option.bind (L_impl_isVector a0 a2 a1_2) fun y6 =>
    cond (!y6)
      (some true)
      (Option.bind (L_impl_isVector a0 a3 a1_0) fun y8 =>
      some (!y8)))) fun l3_m32 =>
cond l3_m32
  (some ([], [], false))
  (Option.bind (L_impl_Program_step a1_0 a1_1 a1_2 a1_3 a1_4 a0 a2 a3) fun y12 =>
  some (y12.1, y12.2, true))
def rv_impl_StepProgram (r : List Int × List Int × Bool) : RV := ⟨true, [(false, [.new 3 .int r.1]), (false, [.new 3 .int r.2.1]), (false, [.sc (.bool r.2.2)])]⟩
theorem ok_impl_StepProgram {a0 : Int} {a1_0 : Int} {a1_1 : Int} {a1_2 : Int} {a1_3 : Int} {a1_4 : List (Int × Int × Int × Int × Int)} {a2 : List Int} {a3 : List Int} {r : List Int × List Int × Bool} (h : L_impl_StepProgram a0 a1_0 a1_1 a1_2 a1_3 a1_4 a2 a3 = some r) : CallOK Tryd.prog Tab 21 [(.int .i64 a0), (.agg [(.int .i64 a1_0), (.int .i64 a1_1), (.int .i64 a1_2), (.int .i64 a1_3), (.tree (.pair .int (.pair .int (.pair .int (.pair .int .int)))) a1_4)]), (.tree .int a2), (.tree .int a3)] (rv_impl_StepProgram r) := by
  refine call_of_ (by kernel_rfl) Tryd.func21 c_impl_StepProgram (n := 43) (by kernel_rfl) (by simp) (tl := [(0, (.int .i64 a0)), (1, (.agg [(.int .i64 a1_0), (.int .i64 a1_1), (.int .i64 a1_2), (.int .i64 a1_3), (.tree (.pair .int (.pair .int (.pair .int (.pair .int .int)))) a1_4)])), (2, (.tree .int a2)), (3, (.tree .int a3))]) rfl ?_
  unfold m_impl_StepProgram
  unfold L_impl_StepProgram at h
  refine awp_seq_ ?_
  refine awp_region_ 5 (by kernel_rfl) ?_
  refine rs1 (.box (5, 1) 0) (5, 1) (.cells 29 [(.int .i64 a1_0), (.int .i64 a1_1), (.int .i64 a1_2), (.int .i64 a1_3), (.tree (.pair .int (.pair .int (.pair .int (.pair .int .int)))) a1_4)]) (by kernel_rfl) ?_
  refine rs0 .nils (by kernel_rfl) ?_
  refine rs0 .nils (by kernel_rfl) ?_
  refine rs0 (.bool false) (by kernel_rfl) ?_
  refine rnil (tn_ ?_)
  refine awp_seq_ ?_
  refine awp_seqB h (fun (l3_m32 : Bool) S_ => S_ = ⟨mkTm [(0, (.int .i64 a0)), (2, (.tree .int a2)), (3, (.tree .int a3)), (5, (.box (0, 1) 0)), (32, (.bool l3_m32))], mkOb (someL [((0, 1), .cells 29 [(.int .i64 a1_0), (.int .i64 a1_1), (.int .i64 a1_2), (.int .i64 a1_3), (.tree (.pair .int (.pair .int (.pair .int (.pair .int .int)))) a1_4)])]), 2⟩) ?_ ?_
  · intro v_ h
    obtain ⟨y4, h4, h⟩ := ob_some h
    rcases cond_some h with ⟨q5, h⟩ | ⟨q5, h⟩
    · refine awp_region_ 25 (by kernel_rfl) ?_
      refine rs0 (.int .i64 a0) (by kernel_rfl) ?_
      refine rsl (.agg [(.int .i64 a1_0), (.int .i64 a1_1), (.int .i64 a1_2), (.int .i64 a1_3), (.tree (.pair .int (.pair .int (.pair .int (.pair .int .int)))) a1_4)]) (by kernel_rfl) ?_
      refine rcall (.bool y4) [] [(.int .i64 a0), (.agg [(.int .i64 a1_0), (.int .i64 a1_1), (.int .i64 a1_2), (.int .i64 a1_3), (.tree (.pair .int (.pair .int (.pair .int (.pair .int .int)))) a1_4)])] _ (caps := []) (args0 := [(.int .i64 a0), (.agg [(.int .i64 a1_0), (.int .i64 a1_1), (.int .i64 a1_2), (.int .i64 a1_3), (.tree (.pair .int (.pair .int (.pair .int (.pair .int .int)))) a1_4)])]) trivial (by kernel_rfl) (by kernel_rfl) (by kernel_rfl) (by kernel_rfl) (ok_impl_isProgram h4) hb_impl_isProgram (by kernel_rfl) ?_
      refine rs0 (.bool (!y4)) (by kernel_rfl) ?_
      refine rs0 (.bool (!y4)) (by kernel_rfl) ?_
      refine rs0 .any (s_skip (by kernel_rfl) q5) ?_
      refine rs0 .any (s_skip (by kernel_rfl) q5) ?_
      refine rs0 .any (s_skip (by kernel_rfl) q5) ?_
      refine rs0 .any (s_skip (by kernel_rfl) q5) ?_
      refine rs0 .any (s_skip (by kernel_rfl) q5) ?_
      refine rs0 .any (s_skip (by kernel_rfl) q5) ?_
      refine rs0 (.bool true) (s_pickT (by kernel_rfl) q5) ?_
      refine rs0 (.bool true) (by kernel_rfl) ?_
      refine rs0 .any (by kernel_rfl) ?_
      refine rs0 .any (by kernel_rfl) ?_
      refine rs0 .any (by kernel_rfl) ?_
      refine rs0 .any (by kernel_rfl) ?_
      refine rs0 .any (by kernel_rfl) ?_
      refine rs0 .any (by kernel_rfl) ?_
      refine rs0 (.bool true) (by kernel_rfl) ?_
      refine rnil (tn_ ?_)
      obtain rfl := Option.some.inj h
      exact ⟨_, (weak_ren (renF [((0, 1), (5, 1))]) (by kernel_rfl) (by kernel_rfl) (by kernel_rfl)), rfl⟩
    · obtain ⟨y6, h6, h⟩ := ob_some h
      rcases cond_some h with ⟨q7, h⟩ | ⟨q7, h⟩
      · refine awp_region_ 25 (by kernel_rfl) ?_
        refine rs0 (.int .i64 a0) (by kernel_rfl) ?_
        refine rsl (.agg [(.int .i64 a1_0), (.int .i64 a1_1), (.int .i64 a1_2), (.int .i64 a1_3), (.tree (.pair .int (.pair .int (.pair .int (.pair .int .int)))) a1_4)]) (by kernel_rfl) ?_
        refine rcall (.bool y4) [] [(.int .i64 a0), (.agg [(.int .i64 a1_0), (.int .i64 a1_1), (.int .i64 a1_2), (.int .i64 a1_3), (.tree (.pair .int (.pair .int (.pair .int (.pair .int .int)))) a1_4)])] _ (caps := []) (args0 := [(.int .i64 a0), (.agg [(.int .i64 a1_0), (.int .i64 a1_1), (.int .i64 a1_2), (.int .i64 a1_3), (.tree (.pair .int (.pair .int (.pair .int (.pair .int .int)))) a1_4)])]) trivial (by kernel_rfl) (by kernel_rfl) (by kernel_rfl) (by kernel_rfl) (ok_impl_isProgram h4) hb_impl_isProgram (by kernel_rfl) ?_
        refine rs0 (.bool (!y4)) (by kernel_rfl) ?_
        refine rs0 (.bool (!y4)) (by kernel_rfl) ?_
        refine rs0 (.int .i64 a0) (s_gd (by kernel_rfl) q5 (by kernel_rfl)) ?_
        refine rs0 (.tree .int a2) (s_gd (by kernel_rfl) q5 (by kernel_rfl)) ?_
        refine rs0 (.box (5, 1) 2) (s_gd (by kernel_rfl) q5 (by kernel_rfl)) ?_
        refine rsl (.int .i64 a1_2) (s_gd (by kernel_rfl) q5 (by kernel_rfl)) ?_
        refine rcall (.bool y6) [] [(.int .i64 a0), (.tree .int a2), (.int .i64 a1_2)] _ (caps := []) (args0 := [(.int .i64 a0), (.tree .int a2), (.int .i64 a1_2)]) (gdOK_b (by kernel_rfl) q5) (by kernel_rfl) (by kernel_rfl) (by kernel_rfl) (by kernel_rfl) (ok_impl_isVector h6) hb_impl_isVector (by kernel_rfl) ?_
        refine rs0 (.bool (!y6)) (s_gd (by kernel_rfl) q5 (by kernel_rfl)) ?_
        refine rs0 (.bool (!y6)) (s_pickF (by kernel_rfl) q5) ?_
        refine rs0 (.bool (!y6)) (by kernel_rfl) ?_
        refine rs0 .any (s_skip (by kernel_rfl) q7) ?_
        refine rs0 .any (s_skip (by kernel_rfl) q7) ?_
        refine rs0 .any (s_skip (by kernel_rfl) q7) ?_
        refine rs0 .any (s_skip (by kernel_rfl) q7) ?_
        refine rs0 .any (s_skip (by kernel_rfl) q7) ?_
        refine rs0 .any (s_skip (by kernel_rfl) q7) ?_
        refine rs0 (.bool true) (s_pickT (by kernel_rfl) q7) ?_
        refine rnil (tn_ ?_)
        obtain rfl := Option.some.inj h
        exact ⟨_, (weak_ren (renF [((0, 1), (5, 1))]) (by kernel_rfl) (by kernel_rfl) (by kernel_rfl)), rfl⟩
      · obtain ⟨y8, h8, h⟩ := ob_some h
        refine awp_region_ 25 (by kernel_rfl) ?_
        refine rs0 (.int .i64 a0) (by kernel_rfl) ?_
        refine rsl (.agg [(.int .i64 a1_0), (.int .i64 a1_1), (.int .i64 a1_2), (.int .i64 a1_3), (.tree (.pair .int (.pair .int (.pair .int (.pair .int .int)))) a1_4)]) (by kernel_rfl) ?_
        refine rcall (.bool y4) [] [(.int .i64 a0), (.agg [(.int .i64 a1_0), (.int .i64 a1_1), (.int .i64 a1_2), (.int .i64 a1_3), (.tree (.pair .int (.pair .int (.pair .int (.pair .int .int)))) a1_4)])] _ (caps := []) (args0 := [(.int .i64 a0), (.agg [(.int .i64 a1_0), (.int .i64 a1_1), (.int .i64 a1_2), (.int .i64 a1_3), (.tree (.pair .int (.pair .int (.pair .int (.pair .int .int)))) a1_4)])]) trivial (by kernel_rfl) (by kernel_rfl) (by kernel_rfl) (by kernel_rfl) (ok_impl_isProgram h4) hb_impl_isProgram (by kernel_rfl) ?_
        refine rs0 (.bool (!y4)) (by kernel_rfl) ?_
        refine rs0 (.bool (!y4)) (by kernel_rfl) ?_
        refine rs0 (.int .i64 a0) (s_gd (by kernel_rfl) q5 (by kernel_rfl)) ?_
        refine rs0 (.tree .int a2) (s_gd (by kernel_rfl) q5 (by kernel_rfl)) ?_
        refine rs0 (.box (5, 1) 2) (s_gd (by kernel_rfl) q5 (by kernel_rfl)) ?_
        refine rsl (.int .i64 a1_2) (s_gd (by kernel_rfl) q5 (by kernel_rfl)) ?_
        refine rcall (.bool y6) [] [(.int .i64 a0), (.tree .int a2), (.int .i64 a1_2)] _ (caps := []) (args0 := [(.int .i64 a0), (.tree .int a2), (.int .i64 a1_2)]) (gdOK_b (by kernel_rfl) q5) (by kernel_rfl) (by kernel_rfl) (by kernel_rfl) (by kernel_rfl) (ok_impl_isVector h6) hb_impl_isVector (by kernel_rfl) ?_
        refine rs0 (.bool (!y6)) (s_gd (by kernel_rfl) q5 (by kernel_rfl)) ?_
        refine rs0 (.bool (!y6)) (s_pickF (by kernel_rfl) q5) ?_
        refine rs0 (.bool (!y6)) (by kernel_rfl) ?_
        refine rs0 (.int .i64 a0) (s_gd (by kernel_rfl) q7 (by kernel_rfl)) ?_
        refine rs0 (.tree .int a3) (s_gd (by kernel_rfl) q7 (by kernel_rfl)) ?_
        refine rs0 (.box (5, 1) 0) (s_gd (by kernel_rfl) q7 (by kernel_rfl)) ?_
        refine rsl (.int .i64 a1_0) (s_gd (by kernel_rfl) q7 (by kernel_rfl)) ?_
        refine rcall (.bool y8) [] [(.int .i64 a0), (.tree .int a3), (.int .i64 a1_0)] _ (caps := []) (args0 := [(.int .i64 a0), (.tree .int a3), (.int .i64 a1_0)]) (gdOK_b (by kernel_rfl) q7) (by kernel_rfl) (by kernel_rfl) (by kernel_rfl) (by kernel_rfl) (ok_impl_isVector h8) hb_impl_isVector (by kernel_rfl) ?_
        refine rs0 (.bool (!y8)) (s_gd (by kernel_rfl) q7 (by kernel_rfl)) ?_
        refine rs0 (.bool (!y8)) (s_pickF (by kernel_rfl) q7) ?_
        refine rnil (tn_ ?_)
        obtain rfl := Option.some.inj h
        exact ⟨_, (weak_ren (renF [((0, 1), (5, 1))]) (by kernel_rfl) (by kernel_rfl) (by kernel_rfl)), rfl⟩
  · rintro l3_m32 _ rfl h
    (try dsimp only at h)
    rcases cond_some h with ⟨q9, h⟩ | ⟨q9, h⟩
    · refine awp_condT_ q9 (by kernel_rfl) ?_
      refine awp_seq_ ?_
      refine awp_region_ 5 (by kernel_rfl) ?_
      refine rs0 .nils (by kernel_rfl) ?_
      refine rs0 .nils (by kernel_rfl) ?_
      refine rs0 (.bool false) (by kernel_rfl) ?_
      refine rnil (tn_ ?_)
      refine awp_ret_ (tr_ ?_)
      obtain rfl := Option.some.inj h
      exact ret_ [.nils, .nils, (.bool false)] (by simp) (by kernel_rfl) (p_one rfl (l_nils rfl) (p_one rfl (l_nils rfl) (p_one rfl (l_sc (by kernel_rfl)) p_nil))) (by kernel_rfl) (by kernel_rfl)
    · refine awp_condF_ q9 (by kernel_rfl) ?_
      refine awp_skip_ (tn_ ?_)
      refine awp_seq_ ?_
      obtain ⟨y12, h12, h⟩ := ob_some h
      refine awp_region_ 12 (by kernel_rfl) ?_
      refine rsl (.agg [(.int .i64 a1_0), (.int .i64 a1_1), (.int .i64 a1_2), (.int .i64 a1_3), (.tree (.pair .int (.pair .int (.pair .int (.pair .int .int)))) a1_4)]) (by kernel_rfl) ?_
      refine rs0 (.int .i64 a0) (by kernel_rfl) ?_
      refine rs0 (.tree .int a2) (by kernel_rfl) ?_
      refine rs0 (.tree .int a3) (by kernel_rfl) ?_
      refine rcall (.tup [(.own (608, 6) .int 0 y12.1.length), (.own (609, 6) .int 0 y12.2.length)]) [((608, 6), some (.arr 3 .int y12.1)), ((609, 6), some (.arr 3 .int y12.2))] [(.agg [(.int .i64 a1_0), (.int .i64 a1_1), (.int .i64 a1_2), (.int .i64 a1_3), (.tree (.pair .int (.pair .int (.pair .int (.pair .int .int)))) a1_4)]), (.int .i64 a0), (.tree .int a2), (.tree .int a3)] _ (caps := []) (args0 := [(.agg [(.int .i64 a1_0), (.int .i64 a1_1), (.int .i64 a1_2), (.int .i64 a1_3), (.tree (.pair .int (.pair .int (.pair .int (.pair .int .int)))) a1_4)]), (.int .i64 a0), (.tree .int a2), (.tree .int a3)]) trivial (by kernel_rfl) (by kernel_rfl) (by kernel_rfl) (by kernel_rfl) (ok_impl_Program_step h12) hb_impl_Program_step (by kernel_rfl) ?_
      refine rs0 (.tup [(.own (608, 6) .int 0 y12.1.length), (.own (609, 6) .int 0 y12.2.length)]) (by kernel_rfl) ?_
      refine rs0 (.own (608, 6) .int 0 y12.1.length) (by kernel_rfl) ?_
      refine rs0 (.own (609, 6) .int 0 y12.2.length) (by kernel_rfl) ?_
      refine rs0 (.own (608, 6) .int 0 y12.1.length) (by kernel_rfl) ?_
      refine rs0 (.own (609, 6) .int 0 y12.2.length) (by kernel_rfl) ?_
      refine rnil (tn_ ?_)
      refine awp_seq_ ?_
      refine awp_region_ 17 (by kernel_rfl) ?_
      refine rs0 (.own (608, 6) .int 0 y12.1.length) (by kernel_rfl) ?_
      refine rs0 (.own (609, 6) .int 0 y12.2.length) (by kernel_rfl) ?_
      refine rs0 (.own (608, 6) .int 0 y12.1.length) (by kernel_rfl) ?_
      refine rs0 (.own (609, 6) .int 0 y12.2.length) (by kernel_rfl) ?_
      refine rs0 (.bool true) (by kernel_rfl) ?_
      refine rnil (tn_ ?_)
      refine awp_ret_ ?_
      obtain rfl := Option.some.inj h
      exact ret_ [(.own (608, 6) .int 0 y12.1.length), (.own (609, 6) .int 0 y12.2.length), (.bool true)] (by simp) (by kernel_rfl) (p_one rfl (l_own (by kernel_rfl) rfl) (p_one rfl (l_own (by kernel_rfl) rfl) (p_one rfl (l_sc (by kernel_rfl)) p_nil))) (by kernel_rfl) (by kernel_rfl)
def m_laws_FnExactStepProgram : AC :=
  (.seq (.region [⟨(some 5), none, (.i (.box 24 (.tmp 1)))⟩, ⟨(some 8), none, (.i (.mov (.cst (.bool false))))⟩] false [])
  (.seq (.seq (.region [⟨(some 25), none, (.i (.mov (.tmp 2)))⟩, ⟨(some 26), none, (.i (.len (.tmp 25)))⟩, ⟨(some 27), none, (.i (.bin .gtr (.tmp 26) (.cst (.int .i64 1048576))))⟩] false [])
  (.cond (.tmp 27)
    (.seq (.region [⟨(some 8), none, (.i (.mov (.cst (.bool true))))⟩] false [])
    .ret)
    .skip))
  (.seq (.seq (.region [⟨(some 28), none, (.i (.mov (.tmp 3)))⟩, ⟨(some 29), none, (.i (.len (.tmp 28)))⟩, ⟨(some 30), none, (.i (.bin .gtr (.tmp 29) (.cst (.int .i64 1048576))))⟩] false [])
  (.cond (.tmp 30)
    (.seq (.region [⟨(some 8), none, (.i (.mov (.cst (.bool true))))⟩] false [])
    .ret)
    .skip))
  (.seq (.region [⟨(some 9), none, (.i (.mov (.cst (.int .i64 1048576))))⟩] false [])
  (.seq (.region [⟨(some 31), none, (.i (.ld false 5 (.tmp 5)))⟩, ⟨(some 32), none, (.i (.mov (.tmp 9)))⟩, ⟨(some 33), none, (.call (.cst (.fn 8 [])) [(.tmp 31), (.tmp 32)] [[none, none, none, none, (some (.pair .int (.pair .int (.pair .int (.pair .int .int)))))], []])⟩, ⟨(some 9), none, (.i (.mov (.tmp 33)))⟩] false [])
  (.seq (.seq (.region [⟨(some 34), none, (.i (.mov (.tmp 9)))⟩, ⟨(some 35), none, (.i (.bin .lss (.tmp 34) (.cst (.int .i64 0))))⟩] false [])
  (.cond (.tmp 35)
    (.seq (.region [⟨(some 8), none, (.i (.mov (.cst (.bool true))))⟩] false [])
    .ret)
    .skip))
  (.seq (.region [⟨(some 37), none, (.i (.mov (.tmp 0)))⟩, ⟨(some 38), none, (.i (.ld false 5 (.tmp 5)))⟩, ⟨(some 39), none, (.call (.cst (.fn 10 [])) [(.tmp 38)] [[none, none, none, none, (some (.pair .int (.pair .int (.pair .int (.pair .int .int)))))]])⟩, ⟨(some 40), none, (.i (.mov (.tmp 2)))⟩, ⟨(some 41), none, (.call (.cst (.fn 20 [])) [(.tmp 40)] [[(some .int)]])⟩, ⟨(some 42), none, (.i (.mov (.tmp 3)))⟩, ⟨(some 43), none, (.call (.cst (.fn 20 [])) [(.tmp 42)] [[(some .int)]])⟩, ⟨(some 44), none, (.call (.cst (.fn 19 [])) [(.tmp 37), (.tmp 39), (.tmp 41), (.tmp 43)] [[], [none, none, none, none, (some (.pair .int (.pair .int (.pair .int (.pair .int .int)))))], [(some .int)], [(some .int)]])⟩, ⟨(some 36), none, (.i (.mov (.tmp 44)))⟩, ⟨(some 45), none, (.i (.extr 0 (.tmp 36)))⟩, ⟨(some 46), none, (.i (.extr 1 (.tmp 36)))⟩, ⟨(some 47), none, (.i (.extr 2 (.tmp 36)))⟩, ⟨(some 10), none, (.i (.mov (.tmp 45)))⟩, ⟨(some 11), none, (.i (.mov (.tmp 46)))⟩, ⟨(some 12), none, (.i (.mov (.tmp 47)))⟩] false [])
  (.seq (.region [⟨(some 48), none, (.i (.ld false 5 (.tmp 5)))⟩, ⟨(some 49), none, (.call (.cst (.fn 10 [])) [(.tmp 48)] [[none, none, none, none, (some (.pair .int (.pair .int (.pair .int (.pair .int .int)))))]])⟩, ⟨(some 13), none, (.i (.alloc 29 [(.int .i64 0), (.int .i64 0), (.int .i64 0), (.int .i64 0), .nils]))⟩, ⟨none, none, (.st false 5 (.tmp 13) (.tmp 49))⟩] false [])
  (.seq (.region [⟨(some 50), none, (.i (.mov (.tmp 2)))⟩, ⟨(some 51), none, (.call (.cst (.fn 20 [])) [(.tmp 50)] [[(some .int)]])⟩, ⟨(some 14), none, (.i (.mov (.tmp 51)))⟩] false [])
  (.seq (.region [⟨(some 52), none, (.i (.mov (.tmp 3)))⟩, ⟨(some 53), none, (.call (.cst (.fn 20 [])) [(.tmp 52)] [[(some .int)]])⟩, ⟨(some 15), none, (.i (.mov (.tmp 53)))⟩] false [])
  (.seq (.region [⟨(some 55), none, (.i (.mov (.tmp 0)))⟩, ⟨(some 56), none, (.i (.ld false 5 (.tmp 13)))⟩, ⟨(some 57), none, (.i (.mov (.tmp 14)))⟩, ⟨(some 58), none, (.i (.mov (.tmp 15)))⟩, ⟨(some 59), none, (.call (.cst (.fn 21 [])) [(.tmp 55), (.tmp 56), (.tmp 57), (.tmp 58)] [[], [none, none, none, none, (some (.pair .int (.pair .int (.pair .int (.pair .int .int)))))], [(some .int)], [(some .int)]])⟩, ⟨(some 54), none, (.i (.mov (.tmp 59)))⟩, ⟨(some 60), none, (.i (.extr 0 (.tmp 54)))⟩, ⟨(some 61), none, (.i (.extr 1 (.tmp 54)))⟩, ⟨(some 62), none, (.i (.extr 2 (.tmp 54)))⟩, ⟨(some 16), none, (.i (.mov (.tmp 60)))⟩, ⟨(some 17), none, (.i (.mov (.tmp 61)))⟩, ⟨(some 18), none, (.i (.mov (.tmp 62)))⟩] false [])
  (.seq (.seq (.region [⟨(some 63), none, (.i (.mov (.tmp 16)))⟩, ⟨(some 64), none, (.i (.mov (.tmp 10)))⟩, ⟨(some 65), none, (.call (.cst (.fn 15 [])) [(.tmp 63), (.tmp 64)] [[(some .int)], [(some .int)]])⟩, ⟨(some 66), none, (.i (.not (.tmp 65)))⟩, ⟨(some 67), none, (.i (.mov (.tmp 66)))⟩, ⟨(some 68), (some (67, false)), (.i (.mov (.tmp 17)))⟩, ⟨(some 69), (some (67, false)), (.i (.mov (.tmp 11)))⟩, ⟨(some 70), (some (67, false)), (.call (.cst (.fn 15 [])) [(.tmp 68), (.tmp 69)] [[(some .int)], [(some .int)]])⟩, ⟨(some 71), (some (67, false)), (.i (.not (.tmp 70)))⟩, ⟨(some 72), none, (.i (.pick (.tmp 67) (.cst (.bool true)) (.tmp 71)))⟩, ⟨(some 73), none, (.i (.mov (.tmp 72)))⟩, ⟨(some 74), (some (73, false)), (.i (.mov (.tmp 18)))⟩, ⟨(some 75), (some (73, false)), (.i (.mov (.tmp 12)))⟩, ⟨(some 76), (some (73, false)), (.i (.cmp true 0 (.tmp 74) (.tmp 75)))⟩, ⟨(some 77), none, (.i (.pick (.tmp 73) (.cst (.bool true)) (.tmp 76)))⟩] false [])
  (.cond (.tmp 77)
    (.seq (.region [⟨(some 8), none, (.i (.mov (.cst (.bool false))))⟩] false [])
    .ret)
    .skip))
  (.seq (.seq (.region [⟨(some 78), none, (.i (.ld false 5 (.tmp 13)))⟩, ⟨(some 79), none, (.i (.ld false 5 (.tmp 5)))⟩, ⟨(some 80), none, (.call (.cst (.fn 10 [])) [(.tmp 79)] [[none, none, none, none, (some (.pair .int (.pair .int (.pair .int (.pair .int .int)))))]])⟩, ⟨(some 81), none, (.call (.cst (.fn 12 [])) [(.tmp 78), (.tmp 80)] [[none, none, none, none, (some (.pair .int (.pair .int (.pair .int (.pair .int .int)))))], [none, none, none, none, (some (.pair .int (.pair .int (.pair .int (.pair .int .int)))))]])⟩, ⟨(some 82), none, (.i (.not (.tmp 81)))⟩] true [(0, 2)])
  (.cond (.tmp 82)
    (.seq (.region [⟨(some 8), none, (.i (.mov (.cst (.bool false))))⟩] false [])
    .ret)
    .skip))
  (.seq (.seq (.region [⟨(some 83), none, (.i (.mov (.tmp 14)))⟩, ⟨(some 84), none, (.i (.mov (.tmp 2)))⟩, ⟨(some 85), none, (.call (.cst (.fn 20 [])) [(.tmp 84)] [[(some .int)]])⟩, ⟨(some 86), none, (.call (.cst (.fn 15 [])) [(.tmp 83), (.tmp 85)] [[(some .int)], [(some .int)]])⟩, ⟨(some 87), none, (.i (.not (.tmp 86)))⟩] false [])
  (.cond (.tmp 87)
    (.seq (.region [⟨(some 8), none, (.i (.mov (.cst (.bool false))))⟩] false [])
    .ret)
    .skip))
  (.seq (.seq (.region [⟨(some 88), none, (.i (.mov (.tmp 15)))⟩, ⟨(some 89), none, (.i (.mov (.tmp 3)))⟩, ⟨(some 90), none, (.call (.cst (.fn 20 [])) [(.tmp 89)] [[(some .int)]])⟩, ⟨(some 91), none, (.call (.cst (.fn 15 [])) [(.tmp 88), (.tmp 90)] [[(some .int)], [(some .int)]])⟩, ⟨(some 92), none, (.i (.not (.tmp 91)))⟩] false [])
  (.cond (.tmp 92)
    (.seq (.region [⟨(some 8), none, (.i (.mov (.cst (.bool false))))⟩] false [])
    .ret)
    .skip))
  (.seq (.region [⟨(some 19), none, (.i (.mov (.cst (.int .i64 1))))⟩] false [])
  (.seq (.region [⟨(some 93), none, (.i (.ld false 5 (.tmp 13)))⟩, ⟨(some 94), none, (.i (.mov (.tmp 19)))⟩, ⟨(some 95), none, (.call (.cst (.fn 16 [])) [(.tmp 93), (.tmp 94)] [[none, none, none, none, (some (.pair .int (.pair .int (.pair .int (.pair .int .int)))))], []])⟩, ⟨(some 19), none, (.i (.mov (.tmp 95)))⟩] false [])
  (.seq (.region [⟨(some 96), none, (.i (.mov (.tmp 14)))⟩, ⟨(some 97), none, (.i (.mov (.tmp 19)))⟩, ⟨(some 98), none, (.call (.cst (.fn 17 [])) [(.tmp 96), (.tmp 97)] [[(some .int)], []])⟩, ⟨(some 19), none, (.i (.mov (.tmp 98)))⟩] false [])
  (.seq (.region [⟨(some 99), none, (.i (.mov (.tmp 15)))⟩, ⟨(some 100), none, (.i (.mov (.tmp 19)))⟩, ⟨(some 101), none, (.call (.cst (.fn 17 [])) [(.tmp 99), (.tmp 100)] [[(some .int)], []])⟩, ⟨(some 19), none, (.i (.mov (.tmp 101)))⟩] false [])
  (.seq (.seq (.region [⟨(some 102), none, (.i (.mov (.tmp 19)))⟩, ⟨(some 103), none, (.i (.bin .lss (.tmp 102) (.cst (.int .i64 0))))⟩, ⟨(some 104), none, (.i (.mov (.tmp 103)))⟩, ⟨(some 105), (some (104, false)), (.i (.mov (.tmp 16)))⟩, ⟨(some 106), (some (104, false)), (.i (.mov (.tmp 10)))⟩, ⟨(some 107), (some (104, false)), (.call (.cst (.fn 15 [])) [(.tmp 105), (.tmp 106)] [[(some .int)], [(some .int)]])⟩, ⟨(some 108), (some (104, false)), (.i (.not (.tmp 107)))⟩, ⟨(some 109), none, (.i (.pick (.tmp 104) (.cst (.bool true)) (.tmp 108)))⟩, ⟨(some 110), none, (.i (.mov (.tmp 109)))⟩, ⟨(some 111), (some (110, false)), (.i (.mov (.tmp 17)))⟩, ⟨(some 112), (some (110, false)), (.i (.mov (.tmp 11)))⟩, ⟨(some 113), (some (110, false)), (.call (.cst (.fn 15 [])) [(.tmp 111), (.tmp 112)] [[(some .int)], [(some .int)]])⟩, ⟨(some 114), (some (110, false)), (.i (.not (.tmp 113)))⟩, ⟨(some 115), none, (.i (.pick (.tmp 110) (.cst (.bool true)) (.tmp 114)))⟩, ⟨(some 116), none, (.i (.mov (.tmp 115)))⟩, ⟨(some 117), (some (116, false)), (.i (.mov (.tmp 18)))⟩, ⟨(some 118), (some (116, false)), (.i (.mov (.tmp 12)))⟩, ⟨(some 119), (some (116, false)), (.i (.cmp true 0 (.tmp 117) (.tmp 118)))⟩, ⟨(some 120), none, (.i (.pick (.tmp 116) (.cst (.bool true)) (.tmp 119)))⟩] false [])
  (.cond (.tmp 120)
    (.seq (.region [⟨(some 8), none, (.i (.mov (.cst (.bool false))))⟩] false [])
    .ret)
    .skip))
  (.seq (.region [⟨(some 20), none, (.i (.mov (.cst (.int .i64 1))))⟩] false [])
  (.seq (.region [⟨(some 121), none, (.i (.mov (.tmp 16)))⟩, ⟨(some 122), none, (.i (.mov (.tmp 20)))⟩, ⟨(some 123), none, (.call (.cst (.fn 17 [])) [(.tmp 121), (.tmp 122)] [[(some .int)], []])⟩, ⟨(some 20), none, (.i (.mov (.tmp 123)))⟩] false [])
  (.seq (.region [⟨(some 124), none, (.i (.mov (.tmp 17)))⟩, ⟨(some 125), none, (.i (.mov (.tmp 20)))⟩, ⟨(some 126), none, (.call (.cst (.fn 17 [])) [(.tmp 124), (.tmp 125)] [[(some .int)], []])⟩, ⟨(some 20), none, (.i (.mov (.tmp 126)))⟩] false [])
  (.seq (.region [⟨(some 21), none, (.i (.mov (.cst (.int .i64 1))))⟩] false [])
  (.seq (.region [⟨(some 127), none, (.i (.mov (.tmp 16)))⟩, ⟨(some 128), none, (.i (.mov (.tmp 21)))⟩, ⟨(some 129), none, (.call (.cst (.fn 18 [])) [(.tmp 127), (.tmp 128)] [[(some .int)], []])⟩, ⟨(some 21), none, (.i (.mov (.tmp 129)))⟩] false [])
  (.seq (.seq (.region [⟨(some 130), none, (.i (.mov (.tmp 21)))⟩, ⟨(some 131), none, (.i (.bin .lss (.tmp 130) (.cst (.int .i64 0))))⟩] false [])
  (.cond (.tmp 131)
    (.seq (.region [⟨(some 8), none, (.i (.mov (.cst (.bool false))))⟩] false [])
    .ret)
    .skip))
  (.seq (.region [⟨(some 132), none, (.i (.mov (.tmp 17)))⟩, ⟨(some 133), none, (.i (.mov (.tmp 21)))⟩, ⟨(some 134), none, (.call (.cst (.fn 18 [])) [(.tmp 132), (.tmp 133)] [[(some .int)], []])⟩, ⟨(some 21), none, (.i (.mov (.tmp 134)))⟩] false [])
  (.seq (.seq (.region [⟨(some 135), none, (.i (.mov (.tmp 21)))⟩, ⟨(some 136), none, (.i (.bin .lss (.tmp 135) (.cst (.int .i64 0))))⟩] false [])
  (.cond (.tmp 136)
    (.seq (.region [⟨(some 8), none, (.i (.mov (.cst (.bool false))))⟩] false [])
    .ret)
    .skip))
  (.seq (.seq (.region [⟨(some 137), none, (.i (.mov (.tmp 21)))⟩, ⟨(some 138), none, (.i (.mov (.tmp 20)))⟩, ⟨(some 139), none, (.i (.bin .neq (.tmp 137) (.tmp 138)))⟩] false [])
  (.cond (.tmp 139)
    (.seq (.region [⟨(some 8), none, (.i (.mov (.cst (.bool false))))⟩] false [])
    .ret)
    .skip))
  (.seq (.region [⟨(some 141), none, (.i (.mov (.tmp 0)))⟩, ⟨(some 142), none, (.i (.ld false 5 (.tmp 5)))⟩, ⟨(some 143), none, (.call (.cst (.fn 10 [])) [(.tmp 142)] [[none, none, none, none, (some (.pair .int (.pair .int (.pair .int (.pair .int .int)))))]])⟩, ⟨(some 144), none, (.i (.mov (.tmp 2)))⟩, ⟨(some 145), none, (.call (.cst (.fn 20 [])) [(.tmp 144)] [[(some .int)]])⟩, ⟨(some 146), none, (.i (.mov (.tmp 3)))⟩, ⟨(some 147), none, (.call (.cst (.fn 20 [])) [(.tmp 146)] [[(some .int)]])⟩, ⟨(some 148), none, (.call (.cst (.fn 21 [])) [(.tmp 141), (.tmp 143), (.tmp 145), (.tmp 147)] [[], [none, none, none, none, (some (.pair .int (.pair .int (.pair .int (.pair .int .int)))))], [(some .int)], [(some .int)]])⟩, ⟨(some 140), none, (.i (.mov (.tmp 148)))⟩, ⟨(some 149), none, (.i (.extr 0 (.tmp 140)))⟩, ⟨(some 150), none, (.i (.extr 1 (.tmp 140)))⟩, ⟨(some 151), none, (.i (.extr 2 (.tmp 140)))⟩, ⟨(some 22), none, (.i (.mov (.tmp 149)))⟩, ⟨(some 23), none, (.i (.mov (.tmp 150)))⟩, ⟨(some 24), none, (.i (.mov (.tmp 151)))⟩] false [])
  (.seq (.seq (.region [⟨(some 152), none, (.i (.mov (.tmp 22)))⟩, ⟨(some 153), none, (.i (.mov (.tmp 10)))⟩, ⟨(some 154), none, (.call (.cst (.fn 15 [])) [(.tmp 152), (.tmp 153)] [[(some .int)], [(some .int)]])⟩, ⟨(some 155), none, (.i (.not (.tmp 154)))⟩, ⟨(some 156), none, (.i (.mov (.tmp 155)))⟩, ⟨(some 157), (some (156, false)), (.i (.mov (.tmp 23)))⟩, ⟨(some 158), (some (156, false)), (.i (.mov (.tmp 11)))⟩, ⟨(some 159), (some (156, false)), (.call (.cst (.fn 15 [])) [(.tmp 157), (.tmp 158)] [[(some .int)], [(some .int)]])⟩, ⟨(some 160), (some (156, false)), (.i (.not (.tmp 159)))⟩, ⟨(some 161), none, (.i (.pick (.tmp 156) (.cst (.bool true)) (.tmp 160)))⟩, ⟨(some 162), none, (.i (.mov (.tmp 161)))⟩, ⟨(some 163), (some (162, false)), (.i (.mov (.tmp 24)))⟩, ⟨(some 164), (some (162, false)), (.i (.mov (.tmp 12)))⟩, ⟨(some 165), (some (162, false)), (.i (.cmp true 0 (.tmp 163) (.tmp 164)))⟩, ⟨(some 166), none, (.i (.pick (.tmp 162) (.cst (.bool true)) (.tmp 165)))⟩] false [])
  (.cond (.tmp 166)
    (.seq (.region [⟨(some 8), none, (.i (.mov (.cst (.bool false))))⟩] false [])
    .ret)
    .skip))
  (.seq (.region [⟨(some 21), none, (.i (.mov (.cst (.int .i64 1))))⟩] false [])
  (.seq (.region [⟨(some 167), none, (.i (.mov (.tmp 16)))⟩, ⟨(some 168), none, (.i (.mov (.tmp 21)))⟩, ⟨(some 169), none, (.call (.cst (.fn 18 [])) [(.tmp 167), (.tmp 168)] [[(some .int)], []])⟩, ⟨(some 21), none, (.i (.mov (.tmp 169)))⟩] false [])
  (.seq (.seq (.region [⟨(some 170), none, (.i (.mov (.tmp 21)))⟩, ⟨(some 171), none, (.i (.bin .lss (.tmp 170) (.cst (.int .i64 0))))⟩] false [])
  (.cond (.tmp 171)
    (.seq (.region [⟨(some 8), none, (.i (.mov (.cst (.bool false))))⟩] false [])
    .ret)
    .skip))
  (.seq (.region [⟨(some 172), none, (.i (.mov (.tmp 17)))⟩, ⟨(some 173), none, (.i (.mov (.tmp 21)))⟩, ⟨(some 174), none, (.call (.cst (.fn 18 [])) [(.tmp 172), (.tmp 173)] [[(some .int)], []])⟩, ⟨(some 21), none, (.i (.mov (.tmp 174)))⟩] false [])
  (.seq (.seq (.region [⟨(some 175), none, (.i (.mov (.tmp 21)))⟩, ⟨(some 176), none, (.i (.bin .lss (.tmp 175) (.cst (.int .i64 0))))⟩] false [])
  (.cond (.tmp 176)
    (.seq (.region [⟨(some 8), none, (.i (.mov (.cst (.bool false))))⟩] false [])
    .ret)
    .skip))
  (.seq (.seq (.region [⟨(some 177), none, (.i (.mov (.tmp 21)))⟩, ⟨(some 178), none, (.i (.mov (.tmp 20)))⟩, ⟨(some 179), none, (.i (.bin .neq (.tmp 177) (.tmp 178)))⟩] false [])
  (.cond (.tmp 179)
    (.seq (.region [⟨(some 8), none, (.i (.mov (.cst (.bool false))))⟩] false [])
    .ret)
    .skip))
  (.seq (.region [⟨(some 8), none, (.i (.mov (.cst (.bool true))))⟩] false [])
  .ret))))))))))))))))))))))))))))))))))))))
def r_laws_FnExactStepProgram : List Res := [.tmp 8]
theorem c_laws_FnExactStepProgram : compiled Tryd.prog Tryd.f5 = some (m_laws_FnExactStepProgram, r_laws_FnExactStepProgram) := by kernel_rfl
theorem hb_laws_FnExactStepProgram : hasBody Tryd.prog 5 = true := by kernel_rfl
def L_laws_FnExactStepProgram (a0 : Int) (a1_0 : Int) (a1_1 : Int) (a1_2 : Int) (a1_3 : Int) (a1_4 : List (Int × Int × Int × Int × Int)) (a2 : List Int) (a3 : List Int) : Option Bool :=
  cond (decide (1048576 < ((a2.length : Nat) : Int)))
  (some true)
  (cond (decide (1048576 < ((a3.length : Nat) : Int)))
    (some true)
    (Option.bind (L_laws_szProgram a1_0 a1_1 a1_2 a1_3 a1_4 1048576) fun y12 =>
    cond (decide (y12 < 0))
      (some true)
      (Option.bind (L_laws_toProgram a1_0 a1_1 a1_2 a1_3 a1_4) fun y18 =>
      Option.bind (L_laws_toIntS a2) fun y19 =>
      Option.bind (L_laws_toIntS a3) fun y20 =>
      Option.bind (L_spec_StepProgram a0 y18.1 y18.2.1 y18.2.2.1 y18.2.2.2.1 y18.2.2.2.2 y19 y20) fun y21 =>
      Option.bind (L_laws_toProgram a1_0 a1_1 a1_2 a1_3 a1_4) fun y23 =>
      Option.bind (L_laws_toIntS a2) fun y25 =>
      Option.bind (L_laws_toIntS a3) fun y27 =>
      Option.bind (L_impl_StepProgram a0 y23.1 y23.2.1 y23.2.2.1 y23.2.2.2.1 y23.2.2.2.2 y25 y27) fun y29 =>
      Option.bind (Option.bind (L_laws_eqIntS y29.1 y21.1) fun y32 =>
        cond (!y32)
          (some true)
          (Option.bind (L_laws_eqIntS y29.2.1 y21.2.1) fun y34 =>
          cond (!y34)
            (some true)
            (some (y29.2.2 != y21.2.2)))) fun l31_m77 =>
      cond l31_m77
        (some false)
        (Option.bind (L_laws_toProgram a1_0 a1_1 a1_2 a1_3 a1_4) fun y40 =>
        Option.bind (L_laws_eqProgram y23.1 y23.2.1 y23.2.2.1 y23.2.2.2.1 y23.2.2.2.2 y40.1 y40.2.1 y40.2.2.1 y40.2.2.2.1 y40.2.2.2.2) fun y41 =>
        cond (!y41)
          (some false)
          (Option.bind (L_laws_toIntS a2) fun y46 =>
          Option.bind (L_laws_eqIntS y25 y46) fun y47 =>
          cond (!y47)
            (some false)
            (Option.bind (L_laws_toIntS a3) fun y52 =>
            Option.bind (L_laws_eqIntS y27 y52) fun y53 =>
            cond (!y53)
              (some false)
              (Option.bind (L_laws_markProgram y23.1 y23.2.1 y23.2.2.1 y23.2.2.2.1 y23.2.2.2.2 1) fun y58 =>
              og (y58.1.length = y23.2.2.2.2.length) <|
              Option.bind (L_laws_markIntS y25 y58.2) fun y61 =>
              og (y61.1.length = y25.length) <|
              Option.bind (L_laws_markIntS y27 y61.2) fun y64 =>
              og (y64.1.length = y27.length) <|
              Option.bind (cond (decide (y64.2 < 0))
                  (some true)
                  (Option.bind (L_laws_eqIntS y29.1 y21.1) fun y69 =>
                  cond (!y69)
                    (some true)
                    (Option.bind (L_laws_eqIntS y29.2.1 y21.2.1) fun y71 =>
                    cond (!y71)
                      (some true)
                      (some (y29.2.2 != y21.2.2))))) fun l67_m120 =>
              cond l67_m120
                (some false)
                (Option.bind (L_laws_markIntS y29.1 1) fun y77 =>
                og (y77.1.length = y29.1.length) <|
                Option.bind (L_laws_markIntS y29.2.1 y77.2) fun y80 =>
                og (y80.1.length = y29.2.1.length) <|
                Option.bind (L_laws_heldIntS y77.1 1) fun y84 =>
                cond (decide (y84 < 0))
                  (some false)
                  (Option.bind (L_laws_heldIntS y80.1 y84) fun y90 =>
                  cond (decide (y90 < 0))
                    (some false)
                    (cond (y90 != y80.2)
                      (some false)
                      (Option.bind (L_laws_toProgram a1_0 a1_1 a1_2 a1_3 a1_4) fun y100 =>
                      Option.bind (L_laws_toIntS a2) fun y101 =>
                      Option.bind (L_laws_toIntS a3) fun y102 =>
                      Option.bind (L_impl_StepProgram a0 y100.1 y100.2.1 y100.2.2.1 y100.2.2.2.1 y100.2.2.2.2 y101 y102) fun y103 =>
                      Option.bind (Option.bind (L_laws_eqIntS y103.1 y21.1) fun y106 =>
                        cond (!y106)
                          (some true)
                          (Option.bind (L_laws_eqIntS y103.2.1 y21.2.1) fun y108 =>
                          cond (!y108)
                            (some true)
                            (some (y103.2.2 != y21.2.2)))) fun l105_m166 =>
                      cond l105_m166
                        (some false)
                        (Option.bind (L_laws_heldIntS y77.1 1) fun y114 =>
                        cond (decide (y114 < 0))
                          (some false)
                          (Option.bind (L_laws_heldIntS y80.1 y114) fun y120 =>
                          cond (decide (y120 < 0))
                            (some false)
                            (cond (y120 != y80.2)
                              (some false)
                              (some true)))))))))))))))
def rv_laws_FnExactStepProgram (r : Bool) : RV := ⟨false, [(false, [.sc (.bool r)])]⟩
theorem ok_laws_FnExactStepProgram {a0 : Int} {a1_0 : Int} {a1_1 : Int} {a1_2 : Int} {a1_3 : Int} {a1_4 : List (Int × Int × Int × Int × Int)} {a2 : List Int} {a3 : List Int} {r : Bool} (h : L_laws_FnExactStepProgram a0 a1_0 a1_1 a1_2 a1_3 a1_4 a2 a3 = some r) : CallOK Tryd.prog Tab 5 [(.int .i64 a0), (.agg [(.int .i64 a1_0), (.int .i64 a1_1), (.int .i64 a1_2), (.int .i64 a1_3), (.tree (.pair .int (.pair .int (.pair .int (.pair .int .int)))) a1_4)]), (.tree .int a2), (.tree .int a3)] (rv_laws_FnExactStepProgram r) := by
  refine call_of_ (by kernel_rfl) Tryd.func5 c_laws_FnExactStepProgram (n := 180) (by kernel_rfl) (by simp) (tl := [(0, (.int .i64 a0)), (1, (.agg [(.int .i64 a1_0), (.int .i64 a1_1), (.int .i64 a1_2), (.int .i64 a1_3), (.tree (.pair .int (.pair .int (.pair .int (.pair .int .int)))) a1_4)])), (2, (.tree .int a2)), (3, (.tree .int a3))]) rfl ?_
  unfold m_laws_FnExactStepProgram
  unfold L_laws_FnExactStepProgram at h
  refine awp_seq_ ?_
  refine awp_region_ 3 (by kernel_rfl) ?_
  refine rs1 (.box (5, 1) 0) (5, 1) (.cells 24 [(.int .i64 a1_0), (.int .i64 a1_1), (.int .i64 a1_2), (.int .i64 a1_3), (.tree (.pair .int (.pair .int (.pair .int (.pair .int .int)))) a1_4)]) (by kernel_rfl) ?_
  refine rs0 (.bool false) (by kernel_rfl) ?_
  refine rnil (tn_ ?_)
  refine awp_seq_ ?_
  refine awp_seq_ ?_
  refine awp_region_ 6 (by kernel_rfl) ?_
  refine rs0 (.tree .int a2) (by kernel_rfl) ?_
  refine rs0 (.int .i64 ((a2.length : Nat) : Int)) (by kernel_rfl) ?_
  refine rs0 (.bool (decide (1048576 < ((a2.length : Nat) : Int)))) (by kernel_rfl) ?_
  refine rnil (tn_ ?_)
  rcases cond_some h with ⟨q4, h⟩ | ⟨q4, h⟩
  · have q4_ := of_decide_eq_true q4
    refine awp_condT_ q4 (by kernel_rfl) ?_
    refine awp_seq_ ?_
    refine awp_region_ 7 (by kernel_rfl) ?_
    refine rs0 (.bool true) (by kernel_rfl) ?_
    refine rnil (tn_ ?_)
    refine awp_ret_ (tr_ ?_)
    obtain rfl := Option.some.inj h
    exact ret_ [(.bool true)] (by simp) (by kernel_rfl) (p_one rfl (l_sc (by kernel_rfl)) p_nil) (by kernel_rfl) (by kernel_rfl)
  · have q4_ := of_decide_eq_false q4
    refine awp_condF_ q4 (by kernel_rfl) ?_
    refine awp_skip_ (tn_ ?_)
    refine awp_seq_ ?_
    refine awp_seq_ ?_
    refine awp_region_ 9 (by kernel_rfl) ?_
    refine rs0 (.tree .int a3) (by kernel_rfl) ?_
    refine rs0 (.int .i64 ((a3.length : Nat) : Int)) (by kernel_rfl) ?_
    refine rs0 (.bool (decide (1048576 < ((a3.length : Nat) : Int)))) (by kernel_rfl) ?_
    refine rnil (tn_ ?_)
    rcases cond_some h with ⟨q8, h⟩ | ⟨q8, h⟩
    · have q8_ := of_decide_eq_true q8
      refine awp_condT_ q8 (by kernel_rfl) ?_
      refine awp_seq_ ?_
      refine awp_region_ 10 (by kernel_rfl) ?_
      refine rs0 (.bool true) (by kernel_rfl) ?_
      refine rnil (tn_ ?_)
      refine awp_ret_ (tr_ ?_)
      obtain rfl := Option.some.inj h
      exact ret_ [(.bool true)] (by simp) (by kernel_rfl) (p_one rfl (l_sc (by kernel_rfl)) p_nil) (by kernel_rfl) (by kernel_rfl)
    · have q8_ := of_decide_eq_false q8
      refine awp_condF_ q8 (by kernel_rfl) ?_
      refine awp_skip_ (tn_ ?_)
      refine awp_seq_ ?_
      refine awp_region_ 10 (by kernel_rfl) ?_
      refine rs0 (.int .i64 1048576) (by kernel_rfl) ?_
      refine rnil (tn_ ?_)
      refine awp_seq_ ?_
      obtain ⟨y12, h12, h⟩ := ob_some h
      refine awp_region_ 14 (by kernel_rfl) ?_
      refine rsl (.agg [(.int .i64 a1_0), (.int .i64 a1_1), (.int .i64 a1_2), (.int .i64 a1_3), (.tree (.pair .int (.pair .int (.pair .int (.pair .int .int)))) a1_4)]) (by kernel_rfl) ?_
      refine rs0 (.int .i64 1048576) (by kernel_rfl) ?_
      refine rcall (.int .i64 y12) [] [(.agg [(.int .i64 a1_0), (.int .i64 a1_1), (.int .i64 a1_2), (.int .i64 a1_3), (.tree (.pair .int (.pair .int (.pair .int (.pair .int .int)))) a1_4)]), (.int .i64 1048576)] _ (caps := []) (args0 := [(.agg [(.int .i64 a1_0), (.int .i64 a1_1), (.int .i64 a1_2), (.int .i64 a1_3), (.tree (.pair .int (.pair .int (.pair .int (.pair .int .int)))) a1_4)]), (.int .i64 1048576)]) trivial (by kernel_rfl) (by kernel_rfl) (by kernel_rfl) (by kernel_rfl) (ok_laws_szProgram h12) hb_laws_szProgram (by kernel_rfl) ?_
      refine rs0 (.int .i64 y12) (by kernel_rfl) ?_
      refine rnil (tn_ ?_)
      refine awp_seq_ ?_
      refine awp_seq_ ?_
      refine awp_region_ 16 (by kernel_rfl) ?_
      refine rs0 (.int .i64 y12) (by kernel_rfl) ?_
      refine rs0 (.bool (decide (y12 < 0))) (by kernel_rfl) ?_
      refine rnil (tn_ ?_)
      rcases cond_some h with ⟨q15, h⟩ | ⟨q15, h⟩
      · have q15_ := of_decide_eq_true q15
        refine awp_condT_ q15 (by kernel_rfl) ?_
        refine awp_seq_ ?_
        refine awp_region_ 17 (by kernel_rfl) ?_
        refine rs0 (.bool true) (by kernel_rfl) ?_
        refine rnil (tn_ ?_)
        refine awp_ret_ (tr_ ?_)
        obtain rfl := Option.some.inj h
        exact ret_ [(.bool true)] (by simp) (by kernel_rfl) (p_one rfl (l_sc (by kernel_rfl)) p_nil) (by kernel_rfl) (by kernel_rfl)
      · have q15_ := of_decide_eq_false q15
        refine awp_condF_ q15 (by kernel_rfl) ?_
        refine awp_skip_ (tn_ ?_)
        refine awp_seq_ ?_
        obtain ⟨y18, h18, h⟩ := ob_some h
        obtain ⟨y19, h19, h⟩ := ob_some h
        obtain ⟨y20, h20, h⟩ := ob_some h
        obtain ⟨y21, h21, h⟩ := ob_some h
        refine awp_region_ 31 (by kernel_rfl) ?_
        refine rs0 (.int .i64 a0) (by kernel_rfl) ?_
        refine rsl (.agg [(.int .i64 a1_0), (.int .i64 a1_1), (.int .i64 a1_2), (.int .i64 a1_3), (.tree (.pair .int (.pair .int (.pair .int (.pair .int .int)))) a1_4)]) (by kernel_rfl) ?_
        refine rcall (.agg [(.int .i64 y18.1), (.int .i64 y18.2.1), (.int .i64 y18.2.2.1), (.int .i64 y18.2.2.2.1), (.own (624, 18) (.pair .int (.pair .int (.pair .int (.pair .int .int)))) 0 y18.2.2.2.2.length)]) [((624, 18), some (.arr 69 (.pair .int (.pair .int (.pair .int (.pair .int .int)))) y18.2.2.2.2))] [(.agg [(.int .i64 a1_0), (.int .i64 a1_1), (.int .i64 a1_2), (.int .i64 a1_3), (.tree (.pair .int (.pair .int (.pair .int (.pair .int .int)))) a1_4)])] _ (caps := []) (args0 := [(.agg [(.int .i64 a1_0), (.int .i64 a1_1), (.int .i64 a1_2), (.int .i64 a1_3), (.tree (.pair .int (.pair .int (.pair .int (.pair .int .int)))) a1_4)])]) trivial (by kernel_rfl) (by kernel_rfl) (by kernel_rfl) (by kernel_rfl) (ok_laws_toProgram h18) hb_laws_toProgram (by kernel_rfl) ?_
        refine rs0 (.tree .int a2) (by kernel_rfl) ?_
        refine rcall (.own (656, 20) .int 0 y19.length) [((656, 20), some (.arr 3 .int y19))] [(.tree .int a2)] _ (caps := []) (args0 := [(.tree .int a2)]) trivial (by kernel_rfl) (by kernel_rfl) (by kernel_rfl) (by kernel_rfl) (ok_laws_toIntS h19) hb_laws_toIntS (by kernel_rfl) ?_
        refine rs0 (.tree .int a3) (by kernel_rfl) ?_
        refine rcall (.own (688, 22) .int 0 y20.length) [((688, 22), some (.arr 3 .int y20))] [(.tree .int a3)] _ (caps := []) (args0 := [(.tree .int a3)]) trivial (by kernel_rfl) (by kernel_rfl) (by kernel_rfl) (by kernel_rfl) (ok_laws_toIntS h20) hb_laws_toIntS (by kernel_rfl) ?_
        refine rcall (.tup [(.own (704, 23) .int 0 y21.1.length), (.own (705, 23) .int 0 y21.2.1.length), (.bool y21.2.2)]) [((704, 23), some (.arr 3 .int y21.1)), ((705, 23), some (.arr 3 .int y21.2.1))] [(.int .i64 a0), (.agg [(.int .i64 y18.1), (.int .i64 y18.2.1), (.int .i64 y18.2.2.1), (.int .i64 y18.2.2.2.1), (.own (624, 18) (.pair .int (.pair .int (.pair .int (.pair .int .int)))) 0 y18.2.2.2.2.length)]), (.own (656, 20) .int 0 y19.length), (.own (688, 22) .int 0 y20.length)] _ (caps := []) (args0 := [(.int .i64 a0), (.agg [(.int .i64 y18.1), (.int .i64 y18.2.1), (.int .i64 y18.2.2.1), (.int .i64 y18.2.2.2.1), (.tree (.pair .int (.pair .int (.pair .int (.pair .int .int)))) y18.2.2.2.2)]), (.tree .int y19), (.tree .int y20)]) trivial (by kernel_rfl) (by kernel_rfl) (gm_cons (by kernel_rfl) (gm_cons (gd_agg (gm_cons (by kernel_rfl) (gm_cons (by kernel_rfl) (gm_cons (by kernel_rfl) (gm_cons (by kernel_rfl) (gm_cons (gd_own (e := 69) (by kernel_rfl) rfl) gm_nil)))))) (gm_cons (gd_own (e := 3) (by kernel_rfl) rfl) (gm_cons (gd_own (e := 3) (by kernel_rfl) rfl) gm_nil)))) (by kernel_rfl) (ok_spec_StepProgram h21) hb_spec_StepProgram (by kernel_rfl) ?_
        refine rs0 (.tup [(.own (704, 23) .int 0 y21.1.length), (.own (705, 23) .int 0 y21.2.1.length), (.bool y21.2.2)]) (by kernel_rfl) ?_
        refine rs0 (.own (704, 23) .int 0 y21.1.length) (by kernel_rfl) ?_
        refine rs0 (.own (705, 23) .int 0 y21.2.1.length) (by kernel_rfl) ?_
        refine rs0 (.bool y21.2.2) (by kernel_rfl) ?_
        refine rs0 (.own (704, 23) .int 0 y21.1.length) (by kernel_rfl) ?_
        refine rs0 (.own (705, 23) .int 0 y21.2.1.length) (by kernel_rfl) ?_
        refine rs0 (.bool y21.2.2) (by kernel_rfl) ?_
        refine rnil (tn_ ?_)
        refine awp_seq_ ?_
        obtain ⟨y23, h23, h⟩ := ob_some h
        refine awp_region_ 35 (by kernel_rfl) ?_
        refine rsl (.agg [(.int .i64 a1_0), (.int .i64 a1_1), (.int .i64 a1_2), (.int .i64 a1_3), (.tree (.pair .int (.pair .int (.pair .int (.pair .int .int)))) a1_4)]) (by kernel_rfl) ?_
        refine rcall (.agg [(.int .i64 y23.1), (.int .i64 y23.2.1), (.int .i64 y23.2.2.1), (.int .i64 y23.2.2.2.1), (.own (784, 32) (.pair .int (.pair .int (.pair .int (.pair .int .int)))) 0 y23.2.2.2.2.length)]) [((784, 32), some (.arr 69 (.pair .int (.pair .int (.pair .int (.pair .int .int)))) y23.2.2.2.2))] [(.agg [(.int .i64 a1_0), (.int .i64 a1_1), (.int .i64 a1_2), (.int .i64 a1_3), (.tree (.pair .int (.pair .int (.pair .int (.pair .int .int)))) a1_4)])] _ (caps := []) (args0 := [(.agg [(.int .i64 a1_0), (.int .i64 a1_1), (.int .i64 a1_2), (.int .i64 a1_3), (.tree (.pair .int (.pair .int (.pair .int (.pair .int .int)))) a1_4)])]) trivial (by kernel_rfl) (by kernel_rfl) (by kernel_rfl) (by kernel_rfl) (ok_laws_toProgram h23) hb_laws_toProgram (by kernel_rfl) ?_
        refine rs1 (.box (13, 33) 0) (13, 33) (.cells 29 [(.int .i64 0), (.int .i64 0), (.int .i64 0), (.int .i64 0), .nils]) (by kernel_rfl) ?_
        refine rsn2 (13, 33) (13, 33) (.cells 29 [(.int .i64 y23.1), (.int .i64 y23.2.1), (.int .i64 y23.2.2.1), (.int .i64 y23.2.2.2.1), (.own (784, 32) (.pair .int (.pair .int (.pair .int (.pair .int .int)))) 0 y23.2.2.2.2.length)]) (by kernel_rfl) ?_
        refine rnil (tn_ ?_)
        refine awp_seq_ ?_
        obtain ⟨y25, h25, h⟩ := ob_some h
        refine awp_region_ 38 (by kernel_rfl) ?_
        refine rs0 (.tree .int a2) (by kernel_rfl) ?_
        refine rcall (.own (816, 36) .int 0 y25.length) [((816, 36), some (.arr 3 .int y25))] [(.tree .int a2)] _ (caps := []) (args0 := [(.tree .int a2)]) trivial (by kernel_rfl) (by kernel_rfl) (by kernel_rfl) (by kernel_rfl) (ok_laws_toIntS h25) hb_laws_toIntS (by kernel_rfl) ?_
        refine rs0 (.own (816, 36) .int 0 y25.length) (by kernel_rfl) ?_
        refine rnil (tn_ ?_)
        refine awp_seq_ ?_
        obtain ⟨y27, h27, h⟩ := ob_some h
        refine awp_region_ 41 (by kernel_rfl) ?_
        refine rs0 (.tree .int a3) (by kernel_rfl) ?_
        refine rcall (.own (848, 39) .int 0 y27.length) [((848, 39), some (.arr 3 .int y27))] [(.tree .int a3)] _ (caps := []) (args0 := [(.tree .int a3)]) trivial (by kernel_rfl) (by kernel_rfl) (by kernel_rfl) (by kernel_rfl) (ok_laws_toIntS h27) hb_laws_toIntS (by kernel_rfl) ?_
        refine rs0 (.own (848, 39) .int 0 y27.length) (by kernel_rfl) ?_
        refine rnil (tn_ ?_)
        refine awp_seq_ ?_
        obtain ⟨y29, h29, h⟩ := ob_some h
        refine awp_region_ 53 (by kernel_rfl) ?_
        refine rs0 (.int .i64 a0) (by kernel_rfl) ?_
        refine rsl (.agg [(.int .i64 y23.1), (.int .i64 y23.2.1), (.int .i64 y23.2.2.1), (.int .i64 y23.2.2.2.1), (.own (784, 32) (.pair .int (.pair .int (.pair .int (.pair .int .int)))) 0 y23.2.2.2.2.length)]) (by kernel_rfl) ?_
        refine rs0 (.own (816, 36) .int 0 y25.length) (by kernel_rfl) ?_
        refine rs0 (.own (848, 39) .int 0 y27.length) (by kernel_rfl) ?_
        refine rcall (.tup [(.own (944, 45) .int 0 y29.1.length), (.own (945, 45) .int 0 y29.2.1.length), (.bool y29.2.2)]) [((944, 45), some (.arr 3 .int y29.1)), ((945, 45), some (.arr 3 .int y29.2.1))] [(.int .i64 a0), (.agg [(.int .i64 y23.1), (.int .i64 y23.2.1), (.int .i64 y23.2.2.1), (.int .i64 y23.2.2.2.1), (.own (784, 32) (.pair .int (.pair .int (.pair .int (.pair .int .int)))) 0 y23.2.2.2.2.length)]), (.own (816, 36) .int 0 y25.length), (.own (848, 39) .int 0 y27.length)] _ (caps := []) (args0 := [(.int .i64 a0), (.agg [(.int .i64 y23.1), (.int .i64 y23.2.1), (.int .i64 y23.2.2.1), (.int .i64 y23.2.2.2.1), (.tree (.pair .int (.pair .int (.pair .int (.pair .int .int)))) y23.2.2.2.2)]), (.tree .int y25), (.tree .int y27)]) trivial (by kernel_rfl) (by kernel_rfl) (gm_cons (by kernel_rfl) (gm_cons (gd_agg (gm_cons (by kernel_rfl) (gm_cons (by kernel_rfl) (gm_cons (by kernel_rfl) (gm_cons (by kernel_rfl) (gm_cons (gd_own (e := 69) (by kernel_rfl) rfl) gm_nil)))))) (gm_cons (gd_own (e := 3) (by kernel_rfl) rfl) (gm_cons (gd_own (e := 3) (by kernel_rfl) rfl) gm_nil)))) (by kernel_rfl) (ok_impl_StepProgram h29) hb_impl_StepProgram (by kernel_rfl) ?_
        refine rs0 (.tup [(.own (944, 45) .int 0 y29.1.length), (.own (945, 45) .int 0 y29.2.1.length), (.bool y29.2.2)]) (by kernel_rfl) ?_
        refine rs0 (.own (944, 45) .int 0 y29.1.length) (by kernel_rfl) ?_
        refine rs0 (.own (945, 45) .int 0 y29.2.1.length) (by kernel_rfl) ?_
        refine rs0 (.bool y29.2.2) (by kernel_rfl) ?_
        refine rs0 (.own (944, 45) .int 0 y29.1.length) (by kernel_rfl) ?_
        refine rs0 (.own (945, 45) .int 0 y29.2.1.length) (by kernel_rfl) ?_
        refine rs0 (.bool y29.2.2) (by kernel_rfl) ?_
        refine rnil (tn_ ?_)
        refine awp_seq_ ?_
        refine awp_seqB h (fun (l31_m77 : Bool) S_ => S_ = ⟨mkTm [(0, (.int .i64 a0)), (2, (.tree .int a2)), (3, (.tree .int a3)), (5, (.box (0, 1) 0)), (10, (.own (1, 1) .int 0 y21.1.length)), (11, (.own (2, 1) .int 0 y21.2.1.length)), (12, (.bool y21.2.2)), (13, (.box (3, 1) 0)), (14, (.own (4, 1) .int 0 y25.length)), (15, (.own (5, 1) .int 0 y27.length)), (16, (.own (6, 1) .int 0 y29.1.length)), (17, (.own (7, 1) .int 0 y29.2.1.length)), (18, (.bool y29.2.2)), (77, (.bool l31_m77))], mkOb (someL [((0, 1), .cells 24 [(.int .i64 a1_0), (.int .i64 a1_1), (.int .i64 a1_2), (.int .i64 a1_3), (.tree (.pair .int (.pair .int (.pair .int (.pair .int .int)))) a1_4)]), ((1, 1), .arr 3 .int y21.1), ((2, 1), .arr 3 .int y21.2.1), ((3, 1), .cells 29 [(.int .i64 y23.1), (.int .i64 y23.2.1), (.int .i64 y23.2.2.1), (.int .i64 y23.2.2.2.1), (.own (8, 1) (.pair .int (.pair .int (.pair .int (.pair .int .int)))) 0 y23.2.2.2.2.length)]), ((4, 1), .arr 3 .int y25), ((5, 1), .arr 3 .int y27), ((6, 1), .arr 3 .int y29.1), ((7, 1), .arr 3 .int y29.2.1), ((8, 1), .arr 69 (.pair .int (.pair .int (.pair .int (.pair .int .int)))) y23.2.2.2.2)]), 2⟩) ?_ ?_
        · intro v_ h
          obtain ⟨y32, h32, h⟩ := ob_some h
          rcases cond_some h with ⟨q33, h⟩ | ⟨q33, h⟩
          · refine awp_region_ 68 (by kernel_rfl) ?_
            refine rs0 (.own (944, 45) .int 0 y29.1.length) (by kernel_rfl) ?_
            refine rs0 (.own (704, 23) .int 0 y21.1.length) (by kernel_rfl) ?_
            refine rcall (.bool y32) [] [(.own (944, 45) .int 0 y29.1.length), (.own (704, 23) .int 0 y21.1.length)] _ (caps := []) (args0 := [(.tree .int y29.1), (.tree .int y21.1)]) trivial (by kernel_rfl) (by kernel_rfl) (gm_cons (gd_own (e := 3) (by kernel_rfl) rfl) (gm_cons (gd_own (e := 3) (by kernel_rfl) rfl) gm_nil)) (by kernel_rfl) (ok_laws_eqIntS h32) hb_laws_eqIntS (by kernel_rfl) ?_
            refine rs0 (.bool (!y32)) (by kernel_rfl) ?_
            refine rs0 (.bool (!y32)) (by kernel_rfl) ?_
            refine rs0 .any (s_skip (by kernel_rfl) q33) ?_
            refine rs0 .any (s_skip (by kernel_rfl) q33) ?_
            refine rs0 .any (s_skip (by kernel_rfl) q33) ?_
            refine rs0 .any (s_skip (by kernel_rfl) q33) ?_
            refine rs0 (.bool true) (s_pickT (by kernel_rfl) q33) ?_
            refine rs0 (.bool true) (by kernel_rfl) ?_
            refine rs0 .any (by kernel_rfl) ?_
            refine rs0 .any (by kernel_rfl) ?_
            refine rs0 .any (by kernel_rfl) ?_
            refine rs0 (.bool true) (by kernel_rfl) ?_
            refine rnil (tn_ ?_)
            obtain rfl := Option.some.inj h
            exact ⟨_, (weak_ren (renF [((0, 1), (5, 1)), ((1, 1), (704, 23)), ((2, 1), (705, 23)), ((3, 1), (13, 33)), ((8, 1), (784, 32)), ((4, 1), (816, 36)), ((5, 1), (848, 39)), ((6, 1), (944, 45)), ((7, 1), (945, 45))]) (by kernel_rfl) (by kernel_rfl) (by kernel_rfl)), rfl⟩
          · obtain ⟨y34, h34, h⟩ := ob_some h
            rcases cond_some h with ⟨q35, h⟩ | ⟨q35, h⟩
            · refine awp_region_ 68 (by kernel_rfl) ?_
              refine rs0 (.own (944, 45) .int 0 y29.1.length) (by kernel_rfl) ?_
              refine rs0 (.own (704, 23) .int 0 y21.1.length) (by kernel_rfl) ?_
              refine rcall (.bool y32) [] [(.own (944, 45) .int 0 y29.1.length), (.own (704, 23) .int 0 y21.1.length)] _ (caps := []) (args0 := [(.tree .int y29.1), (.tree .int y21.1)]) trivial (by kernel_rfl) (by kernel_rfl) (gm_cons (gd_own (e := 3) (by kernel_rfl) rfl) (gm_cons (gd_own (e := 3) (by kernel_rfl) rfl) gm_nil)) (by kernel_rfl) (ok_laws_eqIntS h32) hb_laws_eqIntS (by kernel_rfl) ?_
              refine rs0 (.bool (!y32)) (by kernel_rfl) ?_
              refine rs0 (.bool (!y32)) (by kernel_rfl) ?_
              refine rs0 (.own (945, 45) .int 0 y29.2.1.length) (s_gd (by kernel_rfl) q33 (by kernel_rfl)) ?_
              refine rs0 (.own (705, 23) .int 0 y21.2.1.length) (s_gd (by kernel_rfl) q33 (by kernel_rfl)) ?_
              refine rcall (.bool y34) [] [(.own (945, 45) .int 0 y29.2.1.length), (.own (705, 23) .int 0 y21.2.1.length)] _ (caps := []) (args0 := [(.tree .int y29.2.1), (.tree .int y21.2.1)]) (gdOK_b (by kernel_rfl) q33) (by kernel_rfl) (by kernel_rfl) (gm_cons (gd_own (e := 3) (by kernel_rfl) rfl) (gm_cons (gd_own (e := 3) (by kernel_rfl) rfl) gm_nil)) (by kernel_rfl) (ok_laws_eqIntS h34) hb_laws_eqIntS (by kernel_rfl) ?_
              refine rs0 (.bool (!y34)) (s_gd (by kernel_rfl) q33 (by kernel_rfl)) ?_
              refine rs0 (.bool (!y34)) (s_pickF (by kernel_rfl) q33) ?_
              refine rs0 (.bool (!y34)) (by kernel_rfl) ?_
              refine rs0 .any (s_skip (by kernel_rfl) q35) ?_
              refine rs0 .any (s_skip (by kernel_rfl) q35) ?_
              refine rs0 .any (s_skip (by kernel_rfl) q35) ?_
              refine rs0 (.bool true) (s_pickT (by kernel_rfl) q35) ?_
              refine rnil (tn_ ?_)
              obtain rfl := Option.some.inj h
              exact ⟨_, (weak_ren (renF [((0, 1), (5, 1)), ((1, 1), (704, 23)), ((2, 1), (705, 23)), ((3, 1), (13, 33)), ((8, 1), (784, 32)), ((4, 1), (816, 36)), ((5, 1), (848, 39)), ((6, 1), (944, 45)), ((7, 1), (945, 45))]) (by kernel_rfl) (by kernel_rfl) (by kernel_rfl)), rfl⟩
            · refine awp_region_ 68 (by kernel_rfl) ?_
              refine rs0 (.own (944, 45) .int 0 y29.1.length) (by kernel_rfl) ?_
              refine rs0 (.own (704, 23) .int 0 y21.1.length) (by kernel_rfl) ?_
              refine rcall (.bool y32) [] [(.own (944, 45) .int 0 y29.1.length), (.own (704, 23) .int 0 y21.1.length)] _ (caps := []) (args0 := [(.tree .int y29.1), (.tree .int y21.1)]) trivial (by kernel_rfl) (by kernel_rfl) (gm_cons (gd_own (e := 3) (by kernel_rfl) rfl) (gm_cons (gd_own (e := 3) (by kernel_rfl) rfl) gm_nil)) (by kernel_rfl) (ok_laws_eqIntS h32) hb_laws_eqIntS (by kernel_rfl) ?_
              refine rs0 (.bool (!y32)) (by kernel_rfl) ?_
              refine rs0 (.bool (!y32)) (by kernel_rfl) ?_
              refine rs0 (.own (945, 45) .int 0 y29.2.1.length) (s_gd (by kernel_rfl) q33 (by kernel_rfl)) ?_
              refine rs0 (.own (705, 23) .int 0 y21.2.1.length) (s_gd (by kernel_rfl) q33 (by kernel_rfl)) ?_
              refine rcall (.bool y34) [] [(.own (945, 45) .int 0 y29.2.1.length), (.own (705, 23) .int 0 y21.2.1.length)] _ (caps := []) (args0 := [(.tree .int y29.2.1), (.tree .int y21.2.1)]) (gdOK_b (by kernel_rfl) q33) (by kernel_rfl) (by kernel_rfl) (gm_cons (gd_own (e := 3) (by kernel_rfl) rfl) (gm_cons (gd_own (e := 3) (by kernel_rfl) rfl) gm_nil)) (by kernel_rfl) (ok_laws_eqIntS h34) hb_laws_eqIntS (by kernel_rfl) ?_
              refine rs0 (.bool (!y34)) (s_gd (by kernel_rfl) q33 (by kernel_rfl)) ?_
              refine rs0 (.bool (!y34)) (s_pickF (by kernel_rfl) q33) ?_
              refine rs0 (.bool (!y34)) (by kernel_rfl) ?_
              refine rs0 (.bool y29.2.2) (s_gd (by kernel_rfl) q35 (by kernel_rfl)) ?_
              refine rs0 (.bool y21.2.2) (s_gd (by kernel_rfl) q35 (by kernel_rfl)) ?_
              refine rs0 (.bool (y29.2.2 != y21.2.2)) (s_gd (by kernel_rfl) q35 (by kernel_rfl)) ?_
              refine rs0 (.bool (y29.2.2 != y21.2.2)) (s_pickF (by kernel_rfl) q35) ?_
              refine rnil (tn_ ?_)
              obtain rfl := Option.some.inj h
              exact ⟨_, (weak_ren (renF [((0, 1), (5, 1)), ((1, 1), (704, 23)), ((2, 1), (705, 23)), ((3, 1), (13, 33)), ((8, 1), (784, 32)), ((4, 1), (816, 36)), ((5, 1), (848, 39)), ((6, 1), (944, 45)), ((7, 1), (945, 45))]) (by kernel_rfl) (by kernel_rfl) (by kernel_rfl)), rfl⟩
        · rintro l31_m77 _ rfl h
          (try dsimp only at h)
          rcases cond_some h with ⟨q36, h⟩ | ⟨q36, h⟩
          · refine awp_condT_ q36 (by kernel_rfl) ?_
            refine awp_seq_ ?_
            refine awp_region_ 3 (by kernel_rfl) ?_
            refine rs0 (.bool false) (by kernel_rfl) ?_
            refine rnil (tn_ ?_)
            refine awp_ret_ (tr_ ?_)
            obtain rfl := Option.some.inj h
            exact ret_ [(.bool false)] (by simp) (by kernel_rfl) (p_one rfl (l_sc (by kernel_rfl)) p_nil) (by kernel_rfl) (by kernel_rfl)
          · refine awp_condF_ q36 (by kernel_rfl) ?_
            refine awp_skip_ (tn_ ?_)
            refine awp_seq_ ?_
            refine awp_seq_ ?_
            obtain ⟨y40, h40, h⟩ := ob_some h
            obtain ⟨y41, h41, h⟩ := ob_some h
            refine awp_regionD_ 7 (by kernel_rfl) ?_
            refine dsl (.agg [(.int .i64 y23.1), (.int .i64 y23.2.1), (.int .i64 y23.2.2.1), (.int .i64 y23.2.2.2.1), (.own (8, 1) (.pair .int (.pair .int (.pair .int (.pair .int .int)))) 0 y23.2.2.2.2.length)]) (by kernel_rfl) ?_
            refine dsl (.agg [(.int .i64 a1_0), (.int .i64 a1_1), (.int .i64 a1_2), (.int .i64 a1_3), (.tree (.pair .int (.pair .int (.pair .int (.pair .int .int)))) a1_4)]) (by kernel_rfl) ?_
            refine dcall (.agg [(.int .i64 y40.1), (.int .i64 y40.2.1), (.int .i64 y40.2.2.1), (.int .i64 y40.2.2.2.1), (.own (1280, 4) (.pair .int (.pair .int (.pair .int (.pair .int .int)))) 0 y40.2.2.2.2.length)]) [((1280, 4), some (.arr 69 (.pair .int (.pair .int (.pair .int (.pair .int .int)))) y40.2.2.2.2))] [(.agg [(.int .i64 a1_0), (.int .i64 a1_1), (.int .i64 a1_2), (.int .i64 a1_3), (.tree (.pair .int (.pair .int (.pair .int (.pair .int .int)))) a1_4)])] _ (caps := []) (args0 := [(.agg [(.int .i64 a1_0), (.int .i64 a1_1), (.int .i64 a1_2), (.int .i64 a1_3), (.tree (.pair .int (.pair .int (.pair .int (.pair .int .int)))) a1_4)])]) trivial (by kernel_rfl) (by kernel_rfl) (by kernel_rfl) (by kernel_rfl) (ok_laws_toProgram h40) hb_laws_toProgram (by kernel_rfl) ?_
            refine dcall (.bool y41) [] [(.agg [(.int .i64 y23.1), (.int .i64 y23.2.1), (.int .i64 y23.2.2.1), (.int .i64 y23.2.2.2.1), (.own (8, 1) (.pair .int (.pair .int (.pair .int (.pair .int .int)))) 0 y23.2.2.2.2.length)]), (.agg [(.int .i64 y40.1), (.int .i64 y40.2.1), (.int .i64 y40.2.2.1), (.int .i64 y40.2.2.2.1), (.own (1280, 4) (.pair .int (.pair .int (.pair .int (.pair .int .int)))) 0 y40.2.2.2.2.length)])] _ (caps := []) (args0 := [(.agg [(.int .i64 y23.1), (.int .i64 y23.2.1), (.int .i64 y23.2.2.1), (.int .i64 y23.2.2.2.1), (.tree (.pair .int (.pair .int (.pair .int (.pair .int .int)))) y23.2.2.2.2)]), (.agg [(.int .i64 y40.1), (.int .i64 y40.2.1), (.int .i64 y40.2.2.1), (.int .i64 y40.2.2.2.1), (.tree (.pair .int (.pair .int (.pair .int (.pair .int .int)))) y40.2.2.2.2)])]) trivial (by kernel_rfl) (by kernel_rfl) (gm_cons (gd_agg (gm_cons (by kernel_rfl) (gm_cons (by kernel_rfl) (gm_cons (by kernel_rfl) (gm_cons (by kernel_rfl) (gm_cons (gd_own (e := 69) (by kernel_rfl) rfl) gm_nil)))))) (gm_cons (gd_agg (gm_cons (by kernel_rfl) (gm_cons (by kernel_rfl) (gm_cons (by kernel_rfl) (gm_cons (by kernel_rfl) (gm_cons (gd_own (e := 69) (by kernel_rfl) rfl) gm_nil)))))) gm_nil)) (by kernel_rfl) (ok_laws_eqProgram h41) hb_laws_eqProgram (by kernel_rfl) ?_
            refine ds0 (.bool (!y41)) (by kernel_rfl) ?_
            refine dnil (by kernel_rfl) (tn_ ?_)
            rcases cond_some h with ⟨q42, h⟩ | ⟨q42, h⟩
            · refine awp_condT_ q42 (by kernel_rfl) ?_
              refine awp_seq_ ?_
              refine awp_region_ 8 (by kernel_rfl) ?_
              refine rs0 (.bool false) (by kernel_rfl) ?_
              refine rnil (tn_ ?_)
              refine awp_ret_ (tr_ ?_)
              obtain rfl := Option.some.inj h
              exact ret_ [(.bool false)] (by simp) (by kernel_rfl) (p_one rfl (l_sc (by kernel_rfl)) p_nil) (by kernel_rfl) (by kernel_rfl)
            · refine awp_condF_ q42 (by kernel_rfl) ?_
              refine awp_skip_ (tn_ ?_)
              refine awp_seq_ ?_
              refine awp_seq_ ?_
              obtain ⟨y46, h46, h⟩ := ob_some h
              obtain ⟨y47, h47, h⟩ := ob_some h
              refine awp_region_ 12 (by kernel_rfl) ?_
              refine rs0 (.own (4, 1) .int 0 y25.length) (by kernel_rfl) ?_
              refine rs0 (.tree .int a2) (by kernel_rfl) ?_
              refine rcall (.own (1360, 9) .int 0 y46.length) [((1360, 9), some (.arr 3 .int y46))] [(.tree .int a2)] _ (caps := []) (args0 := [(.tree .int a2)]) trivial (by kernel_rfl) (by kernel_rfl) (by kernel_rfl) (by kernel_rfl) (ok_laws_toIntS h46) hb_laws_toIntS (by kernel_rfl) ?_
              refine rcall (.bool y47) [] [(.own (4, 1) .int 0 y25.length), (.own (1360, 9) .int 0 y46.length)] _ (caps := []) (args0 := [(.tree .int y25), (.tree .int y46)]) trivial (by kernel_rfl) (by kernel_rfl) (gm_cons (gd_own (e := 3) (by kernel_rfl) rfl) (gm_cons (gd_own (e := 3) (by kernel_rfl) rfl) gm_nil)) (by kernel_rfl) (ok_laws_eqIntS h47) hb_laws_eqIntS (by kernel_rfl) ?_
              refine rs0 (.bool (!y47)) (by kernel_rfl) ?_
              refine rnil (tn_ ?_)
              rcases cond_some h with ⟨q48, h⟩ | ⟨q48, h⟩
              · refine awp_condT_ q48 (by kernel_rfl) ?_
                refine awp_seq_ ?_
                refine awp_region_ 13 (by kernel_rfl) ?_
                refine rs0 (.bool false) (by kernel_rfl) ?_
                refine rnil (tn_ ?_)
                refine awp_ret_ (tr_ ?_)
                obtain rfl := Option.some.inj h
                exact ret_ [(.bool false)] (by simp) (by kernel_rfl) (p_one rfl (l_sc (by kernel_rfl)) p_nil) (by kernel_rfl) (by kernel_rfl)
              · refine awp_condF_ q48 (by kernel_rfl) ?_
                refine awp_skip_ (tn_ ?_)
                refine awp_seq_ ?_
                refine awp_seq_ ?_
                obtain ⟨y52, h52, h⟩ := ob_some h
                obtain ⟨y53, h53, h⟩ := ob_some h
                refine awp_region_ 17 (by kernel_rfl) ?_
                refine rs0 (.own (5, 1) .int 0 y27.length) (by kernel_rfl) ?_
                refine rs0 (.tree .int a3) (by kernel_rfl) ?_
                refine rcall (.own (1440, 14) .int 0 y52.length) [((1440, 14), some (.arr 3 .int y52))] [(.tree .int a3)] _ (caps := []) (args0 := [(.tree .int a3)]) trivial (by kernel_rfl) (by kernel_rfl) (by kernel_rfl) (by kernel_rfl) (ok_laws_toIntS h52) hb_laws_toIntS (by kernel_rfl) ?_
                refine rcall (.bool y53) [] [(.own (5, 1) .int 0 y27.length), (.own (1440, 14) .int 0 y52.length)] _ (caps := []) (args0 := [(.tree .int y27), (.tree .int y52)]) trivial (by kernel_rfl) (by kernel_rfl) (gm_cons (gd_own (e := 3) (by kernel_rfl) rfl) (gm_cons (gd_own (e := 3) (by kernel_rfl) rfl) gm_nil)) (by kernel_rfl) (ok_laws_eqIntS h53) hb_laws_eqIntS (by kernel_rfl) ?_
                refine rs0 (.bool (!y53)) (by kernel_rfl) ?_
                refine rnil (tn_ ?_)
                rcases cond_some h with ⟨q54, h⟩ | ⟨q54, h⟩
                · refine awp_condT_ q54 (by kernel_rfl) ?_
                  refine awp_seq_ ?_
                  refine awp_region_ 18 (by kernel_rfl) ?_
                  refine rs0 (.bool false) (by kernel_rfl) ?_
                  refine rnil (tn_ ?_)
                  refine awp_ret_ (tr_ ?_)
                  obtain rfl := Option.some.inj h
                  exact ret_ [(.bool false)] (by simp) (by kernel_rfl) (p_one rfl (l_sc (by kernel_rfl)) p_nil) (by kernel_rfl) (by kernel_rfl)
                · refine awp_condF_ q54 (by kernel_rfl) ?_
                  refine awp_skip_ (tn_ ?_)
                  refine awp_seq_ ?_
                  refine awp_region_ 18 (by kernel_rfl) ?_
                  refine rs0 (.int .i64 1) (by kernel_rfl) ?_
                  refine rnil (tn_ ?_)
                  refine awp_seq_ ?_
                  obtain ⟨y58, h58, h⟩ := ob_some h
                  obtain ⟨g59, h⟩ := og_some h
                  refine awp_region_ 22 (by kernel_rfl) ?_
                  refine rsl (.agg [(.int .i64 y23.1), (.int .i64 y23.2.1), (.int .i64 y23.2.2.1), (.int .i64 y23.2.2.2.1), (.own (8, 1) (.pair .int (.pair .int (.pair .int (.pair .int .int)))) 0 y23.2.2.2.2.length)]) (by kernel_rfl) ?_
                  refine rs0 (.int .i64 1) (by kernel_rfl) ?_
                  refine rcallM (.int .i64 y58.2) [((0, 0), (8, 1))] [(.agg [(.int .i64 y23.1), (.int .i64 y23.2.1), (.int .i64 y23.2.2.1), (.int .i64 y23.2.2.2.1), (.own (8, 1) (.pair .int (.pair .int (.pair .int (.pair .int .int)))) 0 y23.2.2.2.2.length)]), (.int .i64 1)] (caps := []) trivial (by kernel_rfl) (by kernel_rfl) (ok_laws_markProgram h58 rfl) (by kernel_rfl) (by kernel_rfl) (by kernel_rfl) (by kernel_rfl) (by kernel_rfl) hb_laws_markProgram ?_
                  refine rs0 (.int .i64 y58.2) (by kernel_rfl) ?_
                  refine rnil (tn_ ?_)
                  refine awp_seq_ ?_
                  obtain ⟨y61, h61, h⟩ := ob_some h
                  obtain ⟨g62, h⟩ := og_some h
                  refine awp_region_ 26 (by kernel_rfl) ?_
                  refine rs0 (.own (4, 1) .int 0 y25.length) (by kernel_rfl) ?_
                  refine rs0 (.int .i64 y58.2) (by kernel_rfl) ?_
                  refine rcallM (.int .i64 y61.2) [((0, 0), (4, 1))] [(.own (4, 1) .int 0 y25.length), (.int .i64 y58.2)] (caps := []) trivial (by kernel_rfl) (by kernel_rfl) (ok_laws_markIntS h61 rfl) (by kernel_rfl) (by kernel_rfl) (by kernel_rfl) (by kernel_rfl) (by kernel_rfl) hb_laws_markIntS ?_
                  refine rs0 (.int .i64 y61.2) (by kernel_rfl) ?_
                  refine rnil (tn_ ?_)
                  refine awp_seq_ ?_
                  obtain ⟨y64, h64, h⟩ := ob_some h
                  obtain ⟨g65, h⟩ := og_some h
                  refine awp_region_ 30 (by kernel_rfl) ?_
                  refine rs0 (.own (5, 1) .int 0 y27.length) (by kernel_rfl) ?_
                  refine rs0 (.int .i64 y61.2) (by kernel_rfl) ?_
                  refine rcallM (.int .i64 y64.2) [((0, 0), (5, 1))] [(.own (5, 1) .int 0 y27.length), (.int .i64 y61.2)] (caps := []) trivial (by kernel_rfl) (by kernel_rfl) (ok_laws_markIntS h64 rfl) (by kernel_rfl) (by kernel_rfl) (by kernel_rfl) (by kernel_rfl) (by kernel_rfl) hb_laws_markIntS ?_
                  refine rs0 (.int .i64 y64.2) (by kernel_rfl) ?_
                  refine rnil (tn_ ?_)
                  refine awp_seq_ ?_
                  refine awp_seqB h (fun (l67_m120 : Bool) S_ => S_ = ⟨mkTm [(0, (.int .i64 a0)), (2, (.tree .int a2)), (3, (.tree .int a3)), (5, (.box (0, 1) 0)), (10, (.own (1, 1) .int 0 y21.1.length)), (11, (.own (2, 1) .int 0 y21.2.1.length)), (12, (.bool y21.2.2)), (16, (.own (3, 1) .int 0 y29.1.length)), (17, (.own (4, 1) .int 0 y29.2.1.length)), (120, (.bool l67_m120))], mkOb (someL [((0, 1), .cells 24 [(.int .i64 a1_0), (.int .i64 a1_1), (.int .i64 a1_2), (.int .i64 a1_3), (.tree (.pair .int (.pair .int (.pair .int (.pair .int .int)))) a1_4)]), ((1, 1), .arr 3 .int y21.1), ((2, 1), .arr 3 .int y21.2.1), ((3, 1), .arr 3 .int y29.1), ((4, 1), .arr 3 .int y29.2.1)]), 2⟩) ?_ ?_
                  · intro v_ h
                    rcases cond_some h with ⟨q68, h⟩ | ⟨q68, h⟩
                    · have q68_ := of_decide_eq_true q68
                      refine awp_region_ 49 (by kernel_rfl) ?_
                      refine rs0 (.int .i64 y64.2) (by kernel_rfl) ?_
                      refine rs0 (.bool (decide (y64.2 < 0))) (by kernel_rfl) ?_
                      refine rs0 (.bool (decide (y64.2 < 0))) (by kernel_rfl) ?_
                      refine rs0 .any (s_skip (by kernel_rfl) q68) ?_
                      refine rs0 .any (s_skip (by kernel_rfl) q68) ?_
                      refine rs0 .any (s_skip (by kernel_rfl) q68) ?_
                      refine rs0 .any (s_skip (by kernel_rfl) q68) ?_
                      refine rs0 (.bool true) (s_pickT (by kernel_rfl) q68) ?_
                      refine rs0 (.bool true) (by kernel_rfl) ?_
                      refine rs0 .any (by kernel_rfl) ?_
                      refine rs0 .any (by kernel_rfl) ?_
                      refine rs0 .any (by kernel_rfl) ?_
                      refine rs0 .any (by kernel_rfl) ?_
                      refine rs0 (.bool true) (by kernel_rfl) ?_
                      refine rs0 (.bool true) (by kernel_rfl) ?_
                      refine rs0 .any (by kernel_rfl) ?_
                      refine rs0 .any (by kernel_rfl) ?_
                      refine rs0 .any (by kernel_rfl) ?_
                      refine rs0 (.bool true) (by kernel_rfl) ?_
                      refine rnil (tn_ ?_)
                      obtain rfl := Option.some.inj h
                      exact ⟨_, (weak_ren (renF [((3, 1), (6, 1)), ((4, 1), (7, 1))]) (by kernel_rfl) (by kernel_rfl) (by kernel_rfl)), rfl⟩
                    · have q68_ := of_decide_eq_false q68
                      obtain ⟨y69, h69, h⟩ := ob_some h
                      rcases cond_some h with ⟨q70, h⟩ | ⟨q70, h⟩
                      · refine awp_region_ 49 (by kernel_rfl) ?_
                        refine rs0 (.int .i64 y64.2) (by kernel_rfl) ?_
                        refine rs0 (.bool (decide (y64.2 < 0))) (by kernel_rfl) ?_
                        refine rs0 (.bool (decide (y64.2 < 0))) (by kernel_rfl) ?_
                        refine rs0 (.own (6, 1) .int 0 y29.1.length) (s_gd (by kernel_rfl) q68 (by kernel_rfl)) ?_
                        refine rs0 (.own (1, 1) .int 0 y21.1.length) (s_gd (by kernel_rfl) q68 (by kernel_rfl)) ?_
                        refine rcall (.bool y69) [] [(.own (6, 1) .int 0 y29.1.length), (.own (1, 1) .int 0 y21.1.length)] _ (caps := []) (args0 := [(.tree .int y29.1), (.tree .int y21.1)]) (gdOK_b (by kernel_rfl) q68) (by kernel_rfl) (by kernel_rfl) (gm_cons (gd_own (e := 3) (by kernel_rfl) rfl) (gm_cons (gd_own (e := 3) (by kernel_rfl) rfl) gm_nil)) (by kernel_rfl) (ok_laws_eqIntS h69) hb_laws_eqIntS (by kernel_rfl) ?_
                        refine rs0 (.bool (!y69)) (s_gd (by kernel_rfl) q68 (by kernel_rfl)) ?_
                        refine rs0 (.bool (!y69)) (s_pickF (by kernel_rfl) q68) ?_
                        refine rs0 (.bool (!y69)) (by kernel_rfl) ?_
                        refine rs0 .any (s_skip (by kernel_rfl) q70) ?_
                        refine rs0 .any (s_skip (by kernel_rfl) q70) ?_
                        refine rs0 .any (s_skip (by kernel_rfl) q70) ?_
                        refine rs0 .any (s_skip (by kernel_rfl) q70) ?_
                        refine rs0 (.bool true) (s_pickT (by kernel_rfl) q70) ?_
                        refine rs0 (.bool true) (by kernel_rfl) ?_
                        refine rs0 .any (by kernel_rfl) ?_
                        refine rs0 .any (by kernel_rfl) ?_
                        refine rs0 .any (by kernel_rfl) ?_
                        refine rs0 (.bool true) (by kernel_rfl) ?_
                        refine rnil (tn_ ?_)
                        obtain rfl := Option.some.inj h
                        exact ⟨_, (weak_ren (renF [((3, 1), (6, 1)), ((4, 1), (7, 1))]) (by kernel_rfl) (by kernel_rfl) (by kernel_rfl)), rfl⟩
                      · obtain ⟨y71, h71, h⟩ := ob_some h
                        rcases cond_some h with ⟨q72, h⟩ | ⟨q72, h⟩
                        · refine awp_region_ 49 (by kernel_rfl) ?_
                          refine rs0 (.int .i64 y64.2) (by kernel_rfl) ?_
                          refine rs0 (.bool (decide (y64.2 < 0))) (by kernel_rfl) ?_
                          refine rs0 (.bool (decide (y64.2 < 0))) (by kernel_rfl) ?_
                          refine rs0 (.own (6, 1) .int 0 y29.1.length) (s_gd (by kernel_rfl) q68 (by kernel_rfl)) ?_
                          refine rs0 (.own (1, 1) .int 0 y21.1.length) (s_gd (by kernel_rfl) q68 (by kernel_rfl)) ?_
                          refine rcall (.bool y69) [] [(.own (6, 1) .int 0 y29.1.length), (.own (1, 1) .int 0 y21.1.length)] _ (caps := []) (args0 := [(.tree .int y29.1), (.tree .int y21.1)]) (gdOK_b (by kernel_rfl) q68) (by kernel_rfl) (by kernel_rfl) (gm_cons (gd_own (e := 3) (by kernel_rfl) rfl) (gm_cons (gd_own (e := 3) (by kernel_rfl) rfl) gm_nil)) (by kernel_rfl) (ok_laws_eqIntS h69) hb_laws_eqIntS (by kernel_rfl) ?_
                          refine rs0 (.bool (!y69)) (s_gd (by kernel_rfl) q68 (by kernel_rfl)) ?_
                          refine rs0 (.bool (!y69)) (s_pickF (by kernel_rfl) q68) ?_
                          refine rs0 (.bool (!y69)) (by kernel_rfl) ?_
                          refine rs0 (.own (7, 1) .int 0 y29.2.1.length) (s_gd (by kernel_rfl) q70 (by kernel_rfl)) ?_
                          refine rs0 (.own (2, 1) .int 0 y21.2.1.length) (s_gd (by kernel_rfl) q70 (by kernel_rfl)) ?_
                          refine rcall (.bool y71) [] [(.own (7, 1) .int 0 y29.2.1.length), (.own (2, 1) .int 0 y21.2.1.length)] _ (caps := []) (args0 := [(.tree .int y29.2.1), (.tree .int y21.2.1)]) (gdOK_b (by kernel_rfl) q70) (by kernel_rfl) (by kernel_rfl) (gm_cons (gd_own (e := 3) (by kernel_rfl) rfl) (gm_cons (gd_own (e := 3) (by kernel_rfl) rfl) gm_nil)) (by kernel_rfl) (ok_laws_eqIntS h71) hb_laws_eqIntS (by kernel_rfl) ?_
                          refine rs0 (.bool (!y71)) (s_gd (by kernel_rfl) q70 (by kernel_rfl)) ?_
                          refine rs0 (.bool (!y71)) (s_pickF (by kernel_rfl) q70) ?_
                          refine rs0 (.bool (!y71)) (by kernel_rfl) ?_
                          refine rs0 .any (s_skip (by kernel_rfl) q72) ?_
                          refine rs0 .any (s_skip (by kernel_rfl) q72) ?_
                          refine rs0 .any (s_skip (by kernel_rfl) q72) ?_
                          refine rs0 (.bool true) (s_pickT (by kernel_rfl) q72) ?_
                          refine rnil (tn_ ?_)
                          obtain rfl := Option.some.inj h
                          exact ⟨_, (weak_ren (renF [((3, 1), (6, 1)), ((4, 1), (7, 1))]) (by kernel_rfl) (by kernel_rfl) (by kernel_rfl)), rfl⟩
                        · refine awp_region_ 49 (by kernel_rfl) ?_
                          refine rs0 (.int .i64 y64.2) (by kernel_rfl) ?_
                          refine rs0 (.bool (decide (y64.2 < 0))) (by kernel_rfl) ?_
                          refine rs0 (.bool (decide (y64.2 < 0))) (by kernel_rfl) ?_
                          refine rs0 (.own (6, 1) .int 0 y29.1.length) (s_gd (by kernel_rfl) q68 (by kernel_rfl)) ?_
                          refine rs0 (.own (1, 1) .int 0 y21.1.length) (s_gd (by kernel_rfl) q68 (by kernel_rfl)) ?_
                          refine rcall (.bool y69) [] [(.own (6, 1) .int 0 y29.1.length), (.own (1, 1) .int 0 y21.1.length)] _ (caps := []) (args0 := [(.tree .int y29.1), (.tree .int y21.1)]) (gdOK_b (by kernel_rfl) q68) (by kernel_rfl) (by kernel_rfl) (gm_cons (gd_own (e := 3) (by kernel_rfl) rfl) (gm_cons (gd_own (e := 3) (by kernel_rfl) rfl) gm_nil)) (by kernel_rfl) (ok_laws_eqIntS h69) hb_laws_eqIntS (by kernel_rfl) ?_
                          refine rs0 (.bool (!y69)) (s_gd (by kernel_rfl) q68 (by kernel_rfl)) ?_
                          refine rs0 (.bool (!y69)) (s_pickF (by kernel_rfl) q68) ?_
                          refine rs0 (.bool (!y69)) (by kernel_rfl) ?_
                          refine rs0 (.own (7, 1) .int 0 y29.2.1.length) (s_gd (by kernel_rfl) q70 (by kernel_rfl)) ?_
                          refine rs0 (.own (2, 1) .int 0 y21.2.1.length) (s_gd (by kernel_rfl) q70 (by kernel_rfl)) ?_
                          refine rcall (.bool y71) [] [(.own (7, 1) .int 0 y29.2.1.length), (.own (2, 1) .int 0 y21.2.1.length)] _ (caps := []) (args0 := [(.tree .int y29.2.1), (.tree .int y21.2.1)]) (gdOK_b (by kernel_rfl) q70) (by kernel_rfl) (by kernel_rfl) (gm_cons (gd_own (e := 3) (by kernel_rfl) rfl) (gm_cons (gd_own (e := 3) (by kernel_rfl) rfl) gm_nil)) (by kernel_rfl) (ok_laws_eqIntS h71) hb_laws_eqIntS (by kernel_rfl) ?_
                          refine rs0 (.bool (!y71)) (s_gd (by kernel_rfl) q70 (by kernel_rfl)) ?_
                          refine rs0 (.bool (!y71)) (s_pickF (by kernel_rfl) q70) ?_
                          refine rs0 (.bool (!y71)) (by kernel_rfl) ?_
                          refine rs0 (.bool y29.2.2) (s_gd (by kernel_rfl) q72 (by kernel_rfl)) ?_
                          refine rs0 (.bool y21.2.2) (s_gd (by kernel_rfl) q72 (by kernel_rfl)) ?_
                          refine rs0 (.bool (y29.2.2 != y21.2.2)) (s_gd (by kernel_rfl) q72 (by kernel_rfl)) ?_
                          refine rs0 (.bool (y29.2.2 != y21.2.2)) (s_pickF (by kernel_rfl) q72) ?_
                          refine rnil (tn_ ?_)
                          obtain rfl := Option.some.inj h
                          exact ⟨_, (weak_ren (renF [((3, 1), (6, 1)), ((4, 1), (7, 1))]) (by kernel_rfl) (by kernel_rfl) (by kernel_rfl)), rfl⟩
                  · rintro l67_m120 _ rfl h
                    (try dsimp only at h)
                    rcases cond_some h with ⟨q73, h⟩ | ⟨q73, h⟩
                    · refine awp_condT_ q73 (by kernel_rfl) ?_
                      refine awp_seq_ ?_
                      refine awp_region_ 3 (by kernel_rfl) ?_
                      refine rs0 (.bool false) (by kernel_rfl) ?_
                      refine rnil (tn_ ?_)
                      refine awp_ret_ (tr_ ?_)
                      obtain rfl := Option.some.inj h
                      exact ret_ [(.bool false)] (by simp) (by kernel_rfl) (p_one rfl (l_sc (by kernel_rfl)) p_nil) (by kernel_rfl) (by kernel_rfl)
                    · refine awp_condF_ q73 (by kernel_rfl) ?_
                      refine awp_skip_ (tn_ ?_)
                      refine awp_seq_ ?_
                      refine awp_region_ 3 (by kernel_rfl) ?_
                      refine rs0 (.int .i64 1) (by kernel_rfl) ?_
                      refine rnil (tn_ ?_)
                      refine awp_seq_ ?_
                      obtain ⟨y77, h77, h⟩ := ob_some h
                      obtain ⟨g78, h⟩ := og_some h
                      refine awp_region_ 7 (by kernel_rfl) ?_
                      refine rs0 (.own (3, 1) .int 0 y29.1.length) (by kernel_rfl) ?_
                      refine rs0 (.int .i64 1) (by kernel_rfl) ?_
                      refine rcallM (.int .i64 y77.2) [((0, 0), (3, 1))] [(.own (3, 1) .int 0 y29.1.length), (.int .i64 1)] (caps := []) trivial (by kernel_rfl) (by kernel_rfl) (ok_laws_markIntS h77 rfl) (by kernel_rfl) (by kernel_rfl) (by kernel_rfl) (by kernel_rfl) (by kernel_rfl) hb_laws_markIntS ?_
                      refine rs0 (.int .i64 y77.2) (by kernel_rfl) ?_
                      refine rnil (tn_ ?_)
                      refine awp_seq_ ?_
                      obtain ⟨y80, h80, h⟩ := ob_some h
                      obtain ⟨g81, h⟩ := og_some h
                      refine awp_region_ 11 (by kernel_rfl) ?_
                      refine rs0 (.own (4, 1) .int 0 y29.2.1.length) (by kernel_rfl) ?_
                      refine rs0 (.int .i64 y77.2) (by kernel_rfl) ?_
                      refine rcallM (.int .i64 y80.2) [((0, 0), (4, 1))] [(.own (4, 1) .int 0 y29.2.1.length), (.int .i64 y77.2)] (caps := []) trivial (by kernel_rfl) (by kernel_rfl) (ok_laws_markIntS h80 rfl) (by kernel_rfl) (by kernel_rfl) (by kernel_rfl) (by kernel_rfl) (by kernel_rfl) hb_laws_markIntS ?_
                      refine rs0 (.int .i64 y80.2) (by kernel_rfl) ?_
                      refine rnil (tn_ ?_)
                      refine awp_seq_ ?_
                      refine awp_region_ 12 (by kernel_rfl) ?_
                      refine rs0 (.int .i64 1) (by kernel_rfl) ?_
                      refine rnil (tn_ ?_)
                      refine awp_seq_ ?_
                      obtain ⟨y84, h84, h⟩ := ob_some h
                      refine awp_region_ 16 (by kernel_rfl) ?_
                      refine rs0 (.own (3, 1) .int 0 y29.1.length) (by kernel_rfl) ?_
                      refine rs0 (.int .i64 1) (by kernel_rfl) ?_
                      refine rcall (.int .i64 y84) [] [(.own (3, 1) .int 0 y29.1.length), (.int .i64 1)] _ (caps := []) (args0 := [(.tree .int y77.1), (.int .i64 1)]) trivial (by kernel_rfl) (by kernel_rfl) (gm_cons (gd_own (e := 3) (by kernel_rfl) g78.symm) (gm_cons (by kernel_rfl) gm_nil)) (by kernel_rfl) (ok_laws_heldIntS h84) hb_laws_heldIntS (by kernel_rfl) ?_
                      refine rs0 (.int .i64 y84) (by kernel_rfl) ?_
                      refine rnil (tn_ ?_)
                      refine awp_seq_ ?_
                      refine awp_seq_ ?_
                      refine awp_region_ 18 (by kernel_rfl) ?_
                      refine rs0 (.int .i64 y84) (by kernel_rfl) ?_
                      refine rs0 (.bool (decide (y84 < 0))) (by kernel_rfl) ?_
                      refine rnil (tn_ ?_)
                      rcases cond_some h with ⟨q87, h⟩ | ⟨q87, h⟩
                      · have q87_ := of_decide_eq_true q87
                        refine awp_condT_ q87 (by kernel_rfl) ?_
                        refine awp_seq_ ?_
                        refine awp_region_ 19 (by kernel_rfl) ?_
                        refine rs0 (.bool false) (by kernel_rfl) ?_
                        refine rnil (tn_ ?_)
                        refine awp_ret_ (tr_ ?_)
                        obtain rfl := Option.some.inj h
                        exact ret_ [(.bool false)] (by simp) (by kernel_rfl) (p_one rfl (l_sc (by kernel_rfl)) p_nil) (by kernel_rfl) (by kernel_rfl)
                      · have q87_ := of_decide_eq_false q87
                        refine awp_condF_ q87 (by kernel_rfl) ?_
                        refine awp_skip_ (tn_ ?_)
                        refine awp_seq_ ?_
                        obtain ⟨y90, h90, h⟩ := ob_some h
                        refine awp_region_ 22 (by kernel_rfl) ?_
                        refine rs0 (.own (4, 1) .int 0 y29.2.1.length) (by kernel_rfl) ?_
                        refine rs0 (.int .i64 y84) (by kernel_rfl) ?_
                        refine rcall (.int .i64 y90) [] [(.own (4, 1) .int 0 y29.2.1.length), (.int .i64 y84)] _ (caps := []) (args0 := [(.tree .int y80.1), (.int .i64 y84)]) trivial (by kernel_rfl) (by kernel_rfl) (gm_cons (gd_own (e := 3) (by kernel_rfl) g81.symm) (gm_cons (by kernel_rfl) gm_nil)) (by kernel_rfl) (ok_laws_heldIntS h90) hb_laws_heldIntS (by kernel_rfl) ?_
                        refine rs0 (.int .i64 y90) (by kernel_rfl) ?_
                        refine rnil (tn_ ?_)
                        refine awp_seq_ ?_
                        refine awp_seq_ ?_
                        refine awp_region_ 24 (by kernel_rfl) ?_
                        refine rs0 (.int .i64 y90) (by kernel_rfl) ?_
                        refine rs0 (.bool (decide (y90 < 0))) (by kernel_rfl) ?_
                        refine rnil (tn_ ?_)
                        rcases cond_some h with ⟨q93, h⟩ | ⟨q93, h⟩
                        · have q93_ := of_decide_eq_true q93
                          refine awp_condT_ q93 (by kernel_rfl) ?_
                          refine awp_seq_ ?_
                          refine awp_region_ 25 (by kernel_rfl) ?_
                          refine rs0 (.bool false) (by kernel_rfl) ?_
                          refine rnil (tn_ ?_)
                          refine awp_ret_ (tr_ ?_)
                          obtain rfl := Option.some.inj h
                          exact ret_ [(.bool false)] (by simp) (by kernel_rfl) (p_one rfl (l_sc (by kernel_rfl)) p_nil) (by kernel_rfl) (by kernel_rfl)
                        · have q93_ := of_decide_eq_false q93
                          refine awp_condF_ q93 (by kernel_rfl) ?_
                          refine awp_skip_ (tn_ ?_)
                          refine awp_seq_ ?_
                          refine awp_seq_ ?_
                          refine awp_region_ 27 (by kernel_rfl) ?_
                          refine rs0 (.int .i64 y90) (by kernel_rfl) ?_
                          refine rs0 (.int .i64 y80.2) (by kernel_rfl) ?_
                          refine rs0 (.bool (y90 != y80.2)) (by kernel_rfl) ?_
                          refine rnil (tn_ ?_)
                          rcases cond_some h with ⟨q97, h⟩ | ⟨q97, h⟩
                          · refine awp_condT_ q97 (by kernel_rfl) ?_
                            refine awp_seq_ ?_
                            refine awp_region_ 28 (by kernel_rfl) ?_
                            refine rs0 (.bool false) (by kernel_rfl) ?_
                            refine rnil (tn_ ?_)
                            refine awp_ret_ (tr_ ?_)
                            obtain rfl := Option.some.inj h
                            exact ret_ [(.bool false)] (by simp) (by kernel_rfl) (p_one rfl (l_sc (by kernel_rfl)) p_nil) (by kernel_rfl) (by kernel_rfl)
                          · refine awp_condF_ q97 (by kernel_rfl) ?_
                            refine awp_skip_ (tn_ ?_)
                            refine awp_seq_ ?_
                            obtain ⟨y100, h100, h⟩ := ob_some h
                            obtain ⟨y101, h101, h⟩ := ob_some h
                            obtain ⟨y102, h102, h⟩ := ob_some h
                            obtain ⟨y103, h103, h⟩ := ob_some h
                            refine awp_region_ 42 (by kernel_rfl) ?_
                            refine rs0 (.int .i64 a0) (by kernel_rfl) ?_
                            refine rsl (.agg [(.int .i64 a1_0), (.int .i64 a1_1), (.int .i64 a1_2), (.int .i64 a1_3), (.tree (.pair .int (.pair .int (.pair .int (.pair .int .int)))) a1_4)]) (by kernel_rfl) ?_
                            refine rcall (.agg [(.int .i64 y100.1), (.int .i64 y100.2.1), (.int .i64 y100.2.2.1), (.int .i64 y100.2.2.2.1), (.own (2288, 29) (.pair .int (.pair .int (.pair .int (.pair .int .int)))) 0 y100.2.2.2.2.length)]) [((2288, 29), some (.arr 69 (.pair .int (.pair .int (.pair .int (.pair .int .int)))) y100.2.2.2.2))] [(.agg [(.int .i64 a1_0), (.int .i64 a1_1), (.int .i64 a1_2), (.int .i64 a1_3), (.tree (.pair .int (.pair .int (.pair .int (.pair .int .int)))) a1_4)])] _ (caps := []) (args0 := [(.agg [(.int .i64 a1_0), (.int .i64 a1_1), (.int .i64 a1_2), (.int .i64 a1_3), (.tree (.pair .int (.pair .int (.pair .int (.pair .int .int)))) a1_4)])]) trivial (by kernel_rfl) (by kernel_rfl) (by kernel_rfl) (by kernel_rfl) (ok_laws_toProgram h100) hb_laws_toProgram (by kernel_rfl) ?_
                            refine rs0 (.tree .int a2) (by kernel_rfl) ?_
                            refine rcall (.own (2320, 31) .int 0 y101.length) [((2320, 31), some (.arr 3 .int y101))] [(.tree .int a2)] _ (caps := []) (args0 := [(.tree .int a2)]) trivial (by kernel_rfl) (by kernel_rfl) (by kernel_rfl) (by kernel_rfl) (ok_laws_toIntS h101) hb_laws_toIntS (by kernel_rfl) ?_
                            refine rs0 (.tree .int a3) (by kernel_rfl) ?_
                            refine rcall (.own (2352, 33) .int 0 y102.length) [((2352, 33), some (.arr 3 .int y102))] [(.tree .int a3)] _ (caps := []) (args0 := [(.tree .int a3)]) trivial (by kernel_rfl) (by kernel_rfl) (by kernel_rfl) (by kernel_rfl) (ok_laws_toIntS h102) hb_laws_toIntS (by kernel_rfl) ?_
                            refine rcall (.tup [(.own (2368, 34) .int 0 y103.1.length), (.own (2369, 34) .int 0 y103.2.1.length), (.bool y103.2.2)]) [((2368, 34), some (.arr 3 .int y103.1)), ((2369, 34), some (.arr 3 .int y103.2.1))] [(.int .i64 a0), (.agg [(.int .i64 y100.1), (.int .i64 y100.2.1), (.int .i64 y100.2.2.1), (.int .i64 y100.2.2.2.1), (.own (2288, 29) (.pair .int (.pair .int (.pair .int (.pair .int .int)))) 0 y100.2.2.2.2.length)]), (.own (2320, 31) .int 0 y101.length), (.own (2352, 33) .int 0 y102.length)] _ (caps := []) (args0 := [(.int .i64 a0), (.agg [(.int .i64 y100.1), (.int .i64 y100.2.1), (.int .i64 y100.2.2.1), (.int .i64 y100.2.2.2.1), (.tree (.pair .int (.pair .int (.pair .int (.pair .int .int)))) y100.2.2.2.2)]), (.tree .int y101), (.tree .int y102)]) trivial (by kernel_rfl) (by kernel_rfl) (gm_cons (by kernel_rfl) (gm_cons (gd_agg (gm_cons (by kernel_rfl) (gm_cons (by kernel_rfl) (gm_cons (by kernel_rfl) (gm_cons (by kernel_rfl) (gm_cons (gd_own (e := 69) (by kernel_rfl) rfl) gm_nil)))))) (gm_cons (gd_own (e := 3) (by kernel_rfl) rfl) (gm_cons (gd_own (e := 3) (by kernel_rfl) rfl) gm_nil)))) (by kernel_rfl) (ok_impl_StepProgram h103) hb_impl_StepProgram (by kernel_rfl) ?_
                            refine rs0 (.tup [(.own (2368, 34) .int 0 y103.1.length), (.own (2369, 34) .int 0 y103.2.1.length), (.bool y103.2.2)]) (by kernel_rfl) ?_
                            refine rs0 (.own (2368, 34) .int 0 y103.1.length) (by kernel_rfl) ?_
                            refine rs0 (.own (2369, 34) .int 0 y103.2.1.length) (by kernel_rfl) ?_
                            refine rs0 (.bool y103.2.2) (by kernel_rfl) ?_
                            refine rs0 (.own (2368, 34) .int 0 y103.1.length) (by kernel_rfl) ?_
                            refine rs0 (.own (2369, 34) .int 0 y103.2.1.length) (by kernel_rfl) ?_
                            refine rs0 (.bool y103.2.2) (by kernel_rfl) ?_
                            refine rnil (tn_ ?_)
                            refine awp_seq_ ?_
                            refine awp_seqB h (fun (l105_m166 : Bool) S_ => S_ = ⟨mkTm [(16, (.own (0, 1) .int 0 y77.1.length)), (17, (.own (1, 1) .int 0 y80.1.length)), (20, (.int .i64 y80.2)), (166, (.bool l105_m166))], mkOb (someL [((0, 1), .arr 3 .int y77.1), ((1, 1), .arr 3 .int y80.1)]), 2⟩) ?_ ?_
                            · intro v_ h
                              obtain ⟨y106, h106, h⟩ := ob_some h
                              rcases cond_some h with ⟨q107, h⟩ | ⟨q107, h⟩
                              · refine awp_region_ 57 (by kernel_rfl) ?_
                                refine rs0 (.own (2368, 34) .int 0 y103.1.length) (by kernel_rfl) ?_
                                refine rs0 (.own (1, 1) .int 0 y21.1.length) (by kernel_rfl) ?_
                                refine rcall (.bool y106) [] [(.own (2368, 34) .int 0 y103.1.length), (.own (1, 1) .int 0 y21.1.length)] _ (caps := []) (args0 := [(.tree .int y103.1), (.tree .int y21.1)]) trivial (by kernel_rfl) (by kernel_rfl) (gm_cons (gd_own (e := 3) (by kernel_rfl) rfl) (gm_cons (gd_own (e := 3) (by kernel_rfl) rfl) gm_nil)) (by kernel_rfl) (ok_laws_eqIntS h106) hb_laws_eqIntS (by kernel_rfl) ?_
                                refine rs0 (.bool (!y106)) (by kernel_rfl) ?_
                                refine rs0 (.bool (!y106)) (by kernel_rfl) ?_
                                refine rs0 .any (s_skip (by kernel_rfl) q107) ?_
                                refine rs0 .any (s_skip (by kernel_rfl) q107) ?_
                                refine rs0 .any (s_skip (by kernel_rfl) q107) ?_
                                refine rs0 .any (s_skip (by kernel_rfl) q107) ?_
                                refine rs0 (.bool true) (s_pickT (by kernel_rfl) q107) ?_
                                refine rs0 (.bool true) (by kernel_rfl) ?_
                                refine rs0 .any (by kernel_rfl) ?_
                                refine rs0 .any (by kernel_rfl) ?_
                                refine rs0 .any (by kernel_rfl) ?_
                                refine rs0 (.bool true) (by kernel_rfl) ?_
                                refine rnil (tn_ ?_)
                                obtain rfl := Option.some.inj h
                                exact ⟨_, ((weak_tm_ 16 (.own (3, 1) .int 0 y29.1.length) (.own (3, 1) .int 0 y77.1.length) (by kernel_rfl) (congrArg (fun z_ => ((.own (3, 1) .int 0 z_) : AV)) (g78.symm : y29.1.length = y77.1.length))).trans ((weak_tm_ 17 (.own (4, 1) .int 0 y29.2.1.length) (.own (4, 1) .int 0 y80.1.length) (by kernel_rfl) (congrArg (fun z_ => ((.own (4, 1) .int 0 z_) : AV)) (g81.symm : y29.2.1.length = y80.1.length))).trans (weak_ren (renF [((0, 1), (3, 1)), ((1, 1), (4, 1))]) (by kernel_rfl) (by kernel_rfl) (by kernel_rfl)))), rfl⟩
                              · obtain ⟨y108, h108, h⟩ := ob_some h
                                rcases cond_some h with ⟨q109, h⟩ | ⟨q109, h⟩
                                · refine awp_region_ 57 (by kernel_rfl) ?_
                                  refine rs0 (.own (2368, 34) .int 0 y103.1.length) (by kernel_rfl) ?_
                                  refine rs0 (.own (1, 1) .int 0 y21.1.length) (by kernel_rfl) ?_
                                  refine rcall (.bool y106) [] [(.own (2368, 34) .int 0 y103.1.length), (.own (1, 1) .int 0 y21.1.length)] _ (caps := []) (args0 := [(.tree .int y103.1), (.tree .int y21.1)]) trivial (by kernel_rfl) (by kernel_rfl) (gm_cons (gd_own (e := 3) (by kernel_rfl) rfl) (gm_cons (gd_own (e := 3) (by kernel_rfl) rfl) gm_nil)) (by kernel_rfl) (ok_laws_eqIntS h106) hb_laws_eqIntS (by kernel_rfl) ?_
                                  refine rs0 (.bool (!y106)) (by kernel_rfl) ?_
                                  refine rs0 (.bool (!y106)) (by kernel_rfl) ?_
                                  refine rs0 (.own (2369, 34) .int 0 y103.2.1.length) (s_gd (by kernel_rfl) q107 (by kernel_rfl)) ?_
                                  refine rs0 (.own (2, 1) .int 0 y21.2.1.length) (s_gd (by kernel_rfl) q107 (by kernel_rfl)) ?_
                                  refine rcall (.bool y108) [] [(.own (2369, 34) .int 0 y103.2.1.length), (.own (2, 1) .int 0 y21.2.1.length)] _ (caps := []) (args0 := [(.tree .int y103.2.1), (.tree .int y21.2.1)]) (gdOK_b (by kernel_rfl) q107) (by kernel_rfl) (by kernel_rfl) (gm_cons (gd_own (e := 3) (by kernel_rfl) rfl) (gm_cons (gd_own (e := 3) (by kernel_rfl) rfl) gm_nil)) (by kernel_rfl) (ok_laws_eqIntS h108) hb_laws_eqIntS (by kernel_rfl) ?_
                                  refine rs0 (.bool (!y108)) (s_gd (by kernel_rfl) q107 (by kernel_rfl)) ?_
                                  refine rs0 (.bool (!y108)) (s_pickF (by kernel_rfl) q107) ?_
                                  refine rs0 (.bool (!y108)) (by kernel_rfl) ?_
                                  refine rs0 .any (s_skip (by kernel_rfl) q109) ?_
                                  refine rs0 .any (s_skip (by kernel_rfl) q109) ?_
                                  refine rs0 .any (s_skip (by kernel_rfl) q109) ?_
                                  refine rs0 (.bool true) (s_pickT (by kernel_rfl) q109) ?_
                                  refine rnil (tn_ ?_)
                                  obtain rfl := Option.some.inj h
                                  exact ⟨_, ((weak_tm_ 16 (.own (3, 1) .int 0 y29.1.length) (.own (3, 1) .int 0 y77.1.length) (by kernel_rfl) (congrArg (fun z_ => ((.own (3, 1) .int 0 z_) : AV)) (g78.symm : y29.1.length = y77.1.length))).trans ((weak_tm_ 17 (.own (4, 1) .int 0 y29.2.1.length) (.own (4, 1) .int 0 y80.1.length) (by kernel_rfl) (congrArg (fun z_ => ((.own (4, 1) .int 0 z_) : AV)) (g81.symm : y29.2.1.length = y80.1.length))).trans (weak_ren (renF [((0, 1), (3, 1)), ((1, 1), (4, 1))]) (by kernel_rfl) (by kernel_rfl) (by kernel_rfl)))), rfl⟩
                                · refine awp_region_ 57 (by kernel_rfl) ?_
                                  refine rs0 (.own (2368, 34) .int 0 y103.1.length) (by kernel_rfl) ?_
                                  refine rs0 (.own (1, 1) .int 0 y21.1.length) (by kernel_rfl) ?_
                                  refine rcall (.bool y106) [] [(.own (2368, 34) .int 0 y103.1.length), (.own (1, 1) .int 0 y21.1.length)] _ (caps := []) (args0 := [(.tree .int y103.1), (.tree .int y21.1)]) trivial (by kernel_rfl) (by kernel_rfl) (gm_cons (gd_own (e := 3) (by kernel_rfl) rfl) (gm_cons (gd_own (e := 3) (by kernel_rfl) rfl) gm_nil)) (by kernel_rfl) (ok_laws_eqIntS h106) hb_laws_eqIntS (by kernel_rfl) ?_
                                  refine rs0 (.bool (!y106)) (by kernel_rfl) ?_
                                  refine rs0 (.bool (!y106)) (by kernel_rfl) ?_
                                  refine rs0 (.own (2369, 34) .int 0 y103.2.1.length) (s_gd (by kernel_rfl) q107 (by kernel_rfl)) ?_
                                  refine rs0 (.own (2, 1) .int 0 y21.2.1.length) (s_gd (by kernel_rfl) q107 (by kernel_rfl)) ?_
                                  refine rcall (.bool y108) [] [(.own (2369, 34) .int 0 y103.2.1.length), (.own (2, 1) .int 0 y21.2.1.length)] _ (caps := []) (args0 := [(.tree .int y103.2.1), (.tree .int y21.2.1)]) (gdOK_b (by kernel_rfl) q107) (by kernel_rfl) (by kernel_rfl) (gm_cons (gd_own (e := 3) (by kernel_rfl) rfl) (gm_cons (gd_own (e := 3) (by kernel_rfl) rfl) gm_nil)) (by kernel_rfl) (ok_laws_eqIntS h108) hb_laws_eqIntS (by kernel_rfl) ?_
                                  refine rs0 (.bool (!y108)) (s_gd (by kernel_rfl) q107 (by kernel_rfl)) ?_
                                  refine rs0 (.bool (!y108)) (s_pickF (by kernel_rfl) q107) ?_
                                  refine rs0 (.bool (!y108)) (by kernel_rfl) ?_
                                  refine rs0 (.bool y103.2.2) (s_gd (by kernel_rfl) q109 (by kernel_rfl)) ?_
                                  refine rs0 (.bool y21.2.2) (s_gd (by kernel_rfl) q109 (by kernel_rfl)) ?_
                                  refine rs0 (.bool (y103.2.2 != y21.2.2)) (s_gd (by kernel_rfl) q109 (by kernel_rfl)) ?_
                                  refine rs0 (.bool (y103.2.2 != y21.2.2)) (s_pickF (by kernel_rfl) q109) ?_
                                  refine rnil (tn_ ?_)
                                  obtain rfl := Option.some.inj h
                                  exact ⟨_, ((weak_tm_ 16 (.own (3, 1) .int 0 y29.1.length) (.own (3, 1) .int 0 y77.1.length) (by kernel_rfl) (congrArg (fun z_ => ((.own (3, 1) .int 0 z_) : AV)) (g78.symm : y29.1.length = y77.1.length))).trans ((weak_tm_ 17 (.own (4, 1) .int 0 y29.2.1.length) (.own (4, 1) .int 0 y80.1.length) (by kernel_rfl) (congrArg (fun z_ => ((.own (4, 1) .int 0 z_) : AV)) (g81.symm : y29.2.1.length = y80.1.length))).trans (weak_ren (renF [((0, 1), (3, 1)), ((1, 1), (4, 1))]) (by kernel_rfl) (by kernel_rfl) (by kernel_rfl)))), rfl⟩
                            · rintro l105_m166 _ rfl h
                              (try dsimp only at h)
                              rcases cond_some h with ⟨q110, h⟩ | ⟨q110, h⟩
                              · refine awp_condT_ q110 (by kernel_rfl) ?_
                                refine awp_seq_ ?_
                                refine awp_region_ 3 (by kernel_rfl) ?_
                                refine rs0 (.bool false) (by kernel_rfl) ?_
                                refine rnil (tn_ ?_)
                                refine awp_ret_ (tr_ ?_)
                                obtain rfl := Option.some.inj h
                                exact ret_ [(.bool false)] (by simp) (by kernel_rfl) (p_one rfl (l_sc (by kernel_rfl)) p_nil) (by kernel_rfl) (by kernel_rfl)
                              · refine awp_condF_ q110 (by kernel_rfl) ?_
                                refine awp_skip_ (tn_ ?_)
                                refine awp_seq_ ?_
                                refine awp_region_ 3 (by kernel_rfl) ?_
                                refine rs0 (.int .i64 1) (by kernel_rfl) ?_
                                refine rnil (tn_ ?_)
                                refine awp_seq_ ?_
                                obtain ⟨y114, h114, h⟩ := ob_some h
                                refine awp_region_ 7 (by kernel_rfl) ?_
                                refine rs0 (.own (0, 1) .int 0 y77.1.length) (by kernel_rfl) ?_
                                refine rs0 (.int .i64 1) (by kernel_rfl) ?_
                                refine rcall (.int .i64 y114) [] [(.own (0, 1) .int 0 y77.1.length), (.int .i64 1)] _ (caps := []) (args0 := [(.tree .int y77.1), (.int .i64 1)]) trivial (by kernel_rfl) (by kernel_rfl) (gm_cons (gd_own (e := 3) (by kernel_rfl) rfl) (gm_cons (by kernel_rfl) gm_nil)) (by kernel_rfl) (ok_laws_heldIntS h114) hb_laws_heldIntS (by kernel_rfl) ?_
                                refine rs0 (.int .i64 y114) (by kernel_rfl) ?_
                                refine rnil (tn_ ?_)
                                refine awp_seq_ ?_
                                refine awp_seq_ ?_
                                refine awp_region_ 9 (by kernel_rfl) ?_
                                refine rs0 (.int .i64 y114) (by kernel_rfl) ?_
                                refine rs0 (.bool (decide (y114 < 0))) (by kernel_rfl) ?_
                                refine rnil (tn_ ?_)
                                rcases cond_some h with ⟨q117, h⟩ | ⟨q117, h⟩
                                · have q117_ := of_decide_eq_true q117
                                  refine awp_condT_ q117 (by kernel_rfl) ?_
                                  refine awp_seq_ ?_
                                  refine awp_region_ 10 (by kernel_rfl) ?_
                                  refine rs0 (.bool false) (by kernel_rfl) ?_
                                  refine rnil (tn_ ?_)
                                  refine awp_ret_ (tr_ ?_)
                                  obtain rfl := Option.some.inj h
                                  exact ret_ [(.bool false)] (by simp) (by kernel_rfl) (p_one rfl (l_sc (by kernel_rfl)) p_nil) (by kernel_rfl) (by kernel_rfl)
                                · have q117_ := of_decide_eq_false q117
                                  refine awp_condF_ q117 (by kernel_rfl) ?_
                                  refine awp_skip_ (tn_ ?_)
                                  refine awp_seq_ ?_
                                  obtain ⟨y120, h120, h⟩ := ob_some h
                                  refine awp_region_ 13 (by kernel_rfl) ?_
                                  refine rs0 (.own (1, 1) .int 0 y80.1.length) (by kernel_rfl) ?_
                                  refine rs0 (.int .i64 y114) (by kernel_rfl) ?_
                                  refine rcall (.int .i64 y120) [] [(.own (1, 1) .int 0 y80.1.length), (.int .i64 y114)] _ (caps := []) (args0 := [(.tree .int y80.1), (.int .i64 y114)]) trivial (by kernel_rfl) (by kernel_rfl) (gm_cons (gd_own (e := 3) (by kernel_rfl) rfl) (gm_cons (by kernel_rfl) gm_nil)) (by kernel_rfl) (ok_laws_heldIntS h120) hb_laws_heldIntS (by kernel_rfl) ?_
                                  refine rs0 (.int .i64 y120) (by kernel_rfl) ?_
                                  refine rnil (tn_ ?_)
                                  refine awp_seq_ ?_
                                  refine awp_seq_ ?_
                                  refine awp_region_ 15 (by kernel_rfl) ?_
                                  refine rs0 (.int .i64 y120) (by kernel_rfl) ?_
                                  refine rs0 (.bool (decide (y120 < 0))) (by kernel_rfl) ?_
                                  refine rnil (tn_ ?_)
                                  rcases cond_some h with ⟨q123, h⟩ | ⟨q123, h⟩
                                  · have q123_ := of_decide_eq_true q123
                                    refine awp_condT_ q123 (by kernel_rfl) ?_
                                    refine awp_seq_ ?_
                                    refine awp_region_ 16 (by kernel_rfl) ?_
                                    refine rs0 (.bool false) (by kernel_rfl) ?_
                                    refine rnil (tn_ ?_)
                                    refine awp_ret_ (tr_ ?_)
                                    obtain rfl := Option.some.inj h
                                    exact ret_ [(.bool false)] (by simp) (by kernel_rfl) (p_one rfl (l_sc (by kernel_rfl)) p_nil) (by kernel_rfl) (by kernel_rfl)
                                  · have q123_ := of_decide_eq_false q123
                                    refine awp_condF_ q123 (by kernel_rfl) ?_
                                    refine awp_skip_ (tn_ ?_)
                                    refine awp_seq_ ?_
                                    refine awp_seq_ ?_
                                    refine awp_region_ 18 (by kernel_rfl) ?_
                                    refine rs0 (.int .i64 y120) (by kernel_rfl) ?_
                                    refine rs0 (.int .i64 y80.2) (by kernel_rfl) ?_
                                    refine rs0 (.bool (y120 != y80.2)) (by kernel_rfl) ?_
                                    refine rnil (tn_ ?_)
                                    rcases cond_some h with ⟨q127, h⟩ | ⟨q127, h⟩
                                    · refine awp_condT_ q127 (by kernel_rfl) ?_
                                      refine awp_seq_ ?_
                                      refine awp_region_ 19 (by kernel_rfl) ?_
                                      refine rs0 (.bool false) (by kernel_rfl) ?_
                                      refine rnil (tn_ ?_)
                                      refine awp_ret_ (tr_ ?_)
                                      obtain rfl := Option.some.inj h
                                      exact ret_ [(.bool false)] (by simp) (by kernel_rfl) (p_one rfl (l_sc (by kernel_rfl)) p_nil) (by kernel_rfl) (by kernel_rfl)
                                    · refine awp_condF_ q127 (by kernel_rfl) ?_
                                      refine awp_skip_ (tn_ ?_)
                                      refine awp_seq_ ?_
                                      refine awp_region_ 19 (by kernel_rfl) ?_
                                      refine rs0 (.bool true) (by kernel_rfl) ?_
                                      refine rnil (tn_ ?_)
                                      refine awp_ret_ ?_
                                      obtain rfl := Option.some.inj h
                                      exact ret_ [(.bool true)] (by simp) (by kernel_rfl) (p_one rfl (l_sc (by kernel_rfl)) p_nil) (by kernel_rfl) (by kernel_rfl)
end Go.Proofs.YtomijolkdmaimaaDoor
