/- Partial functions in place of code, and that the code does what they say: SCA. No condition. -/
import Derived.Test.YthjdknddcceigaaDoorB3
namespace Go.Proofs.YthjdknddcceigaaDoor
open Go.RowKit Go.Deep
set_option maxRecDepth 4000
def m_spec_crStep_l4 : AC :=
  (.seq (.region [⟨(some 108), none, (.i (.bin .lss (.tmp 107) (.tmp 106)))⟩] false [])
  (.seq (.cond (.tmp 108)
    .skip
    (.exit 6))
  (.seq (.block 7 (.seq (.region [⟨(some 109), none, (.i (.idx 1 (.tmp 105) (.tmp 107)))⟩, ⟨(some 110), none, (.i (.ld true 1 (.tmp 109)))⟩, ⟨(some 20), none, (.i (.mov (.tmp 110)))⟩] false [])
  (.region [⟨(some 111), none, (.i (.mov (.tmp 18)))⟩, ⟨(some 112), none, (.i (.mov (.tmp 10)))⟩, ⟨(some 113), none, (.i (.fld 1 (.tmp 5)))⟩, ⟨(some 114), none, (.i (.ld true 1 (.tmp 113)))⟩, ⟨(some 115), none, (.i (.mov (.tmp 20)))⟩, ⟨(some 116), none, (.i (.idx 4 (.tmp 114) (.tmp 115)))⟩, ⟨(some 117), none, (.i (.fld 1 (.tmp 116)))⟩, ⟨(some 118), none, (.i (.ld true 1 (.tmp 117)))⟩, ⟨(some 119), none, (.i (.idx 1 (.tmp 112) (.tmp 118)))⟩, ⟨(some 120), none, (.i (.ld true 1 (.tmp 119)))⟩, ⟨(some 121), none, (.mkS 3 .int [(.tmp 120)])⟩, ⟨(some 122), none, (.append 3 .int 8 (.tmp 111) (.tmp 121))⟩, ⟨(some 18), none, (.i (.mov (.tmp 122)))⟩] false [])))
  (.region [⟨(some 123), none, (.i (.bin .add (.tmp 107) (.cst (.int .i64 1))))⟩, ⟨(some 107), none, (.i (.mov (.tmp 123)))⟩] false []))))
def m_spec_crStep_l3 : AC :=
  (.seq (.region [⟨(some 65), none, (.i (.bin .lss (.tmp 64) (.tmp 63)))⟩] false [])
  (.seq (.cond (.tmp 65)
    .skip
    (.exit 4))
  (.seq (.block 5 (.seq (.region [⟨(some 66), none, (.i (.idx 1 (.tmp 62) (.tmp 64)))⟩, ⟨(some 67), none, (.i (.ld true 1 (.tmp 66)))⟩, ⟨(some 16), none, (.i (.mov (.tmp 67)))⟩] false [])
  (.seq (.region [⟨(some 68), none, (.i (.fld 1 (.tmp 5)))⟩, ⟨(some 69), none, (.i (.ld true 1 (.tmp 68)))⟩, ⟨(some 70), none, (.i (.mov (.tmp 16)))⟩, ⟨(some 71), none, (.i (.idx 4 (.tmp 69) (.tmp 70)))⟩, ⟨(some 72), none, (.i (.ld false 4 (.tmp 71)))⟩, ⟨(some 17), none, (.i (.alloc 51 [(.int .i64 0), (.int .i64 0), (.int .i64 0), (.int .i64 0)]))⟩, ⟨none, none, (.st false 4 (.tmp 17) (.tmp 72))⟩] false [])
  (.seq (.region [⟨(some 73), none, (.i (.fld 0 (.tmp 17)))⟩, ⟨(some 74), none, (.i (.ld true 1 (.tmp 73)))⟩, ⟨(some 75), none, (.i (.bin .eql (.tmp 74) (.cst (.int .i64 3))))⟩] false [])
  (.cond (.tmp 75)
    (.region [⟨(some 76), none, (.i (.mov (.tmp 10)))⟩, ⟨(some 77), none, (.i (.mov (.tmp 16)))⟩, ⟨(some 78), none, (.i (.mov (.tmp 0)))⟩, ⟨(some 79), none, (.i (.mov (.tmp 10)))⟩, ⟨(some 80), none, (.i (.fld 1 (.tmp 17)))⟩, ⟨(some 81), none, (.i (.ld true 1 (.tmp 80)))⟩, ⟨(some 82), none, (.i (.idx 1 (.tmp 79) (.tmp 81)))⟩, ⟨(some 83), none, (.i (.ld true 1 (.tmp 82)))⟩, ⟨(some 84), none, (.i (.mov (.tmp 10)))⟩, ⟨(some 85), none, (.i (.fld 2 (.tmp 17)))⟩, ⟨(some 86), none, (.i (.ld true 1 (.tmp 85)))⟩, ⟨(some 87), none, (.i (.idx 1 (.tmp 84) (.tmp 86)))⟩, ⟨(some 88), none, (.i (.ld true 1 (.tmp 87)))⟩, ⟨(some 89), none, (.call (.cst (.fn 81 [])) [(.tmp 78), (.tmp 83), (.tmp 88)] [[], [], []])⟩, ⟨(some 90), none, (.i (.idx 1 (.tmp 76) (.tmp 77)))⟩, ⟨none, none, (.st true 1 (.tmp 90) (.tmp 89))⟩] true [])
    (.region [⟨(some 91), none, (.i (.mov (.tmp 10)))⟩, ⟨(some 92), none, (.i (.mov (.tmp 16)))⟩, ⟨(some 93), none, (.i (.mov (.tmp 0)))⟩, ⟨(some 94), none, (.i (.fld 3 (.tmp 17)))⟩, ⟨(some 95), none, (.i (.ld true 1 (.tmp 94)))⟩, ⟨(some 96), none, (.i (.mov (.tmp 10)))⟩, ⟨(some 97), none, (.i (.fld 1 (.tmp 17)))⟩, ⟨(some 98), none, (.i (.ld true 1 (.tmp 97)))⟩, ⟨(some 99), none, (.i (.idx 1 (.tmp 96) (.tmp 98)))⟩, ⟨(some 100), none, (.i (.ld true 1 (.tmp 99)))⟩, ⟨(some 101), none, (.call (.cst (.fn 82 [])) [(.tmp 93), (.tmp 95), (.tmp 100)] [[], [], []])⟩, ⟨(some 102), none, (.i (.idx 1 (.tmp 91) (.tmp 92)))⟩, ⟨none, none, (.st true 1 (.tmp 102) (.tmp 101))⟩] true []))))))
  (.region [⟨(some 103), none, (.i (.bin .add (.tmp 64) (.cst (.int .i64 1))))⟩, ⟨(some 64), none, (.i (.mov (.tmp 103)))⟩] false []))))
def m_spec_crStep_l2 : AC :=
  (.seq (.region [⟨(some 49), none, (.i (.bin .lss (.tmp 48) (.tmp 47)))⟩] false [])
  (.seq (.cond (.tmp 49)
    .skip
    (.exit 2))
  (.seq (.block 3 (.seq (.region [⟨(some 50), none, (.i (.mov (.tmp 48)))⟩, ⟨(some 51), none, (.i (.idx 1 (.tmp 46) (.tmp 48)))⟩, ⟨(some 52), none, (.i (.ld true 1 (.tmp 51)))⟩, ⟨(some 13), none, (.i (.mov (.tmp 50)))⟩, ⟨(some 14), none, (.i (.mov (.tmp 52)))⟩] false [])
  (.region [⟨(some 53), none, (.i (.mov (.tmp 10)))⟩, ⟨(some 54), none, (.i (.mov (.tmp 14)))⟩, ⟨(some 55), none, (.i (.mov (.tmp 2)))⟩, ⟨(some 56), none, (.i (.mov (.tmp 13)))⟩, ⟨(some 57), none, (.i (.idx 1 (.tmp 55) (.tmp 56)))⟩, ⟨(some 58), none, (.i (.ld true 1 (.tmp 57)))⟩, ⟨(some 59), none, (.i (.idx 1 (.tmp 53) (.tmp 54)))⟩, ⟨none, none, (.st true 1 (.tmp 59) (.tmp 58))⟩] false [])))
  (.region [⟨(some 60), none, (.i (.bin .add (.tmp 48) (.cst (.int .i64 1))))⟩, ⟨(some 48), none, (.i (.mov (.tmp 60)))⟩] false []))))
def m_spec_crStep_l1 : AC :=
  (.seq (.region [⟨(some 29), none, (.i (.bin .lss (.tmp 28) (.tmp 27)))⟩] false [])
  (.seq (.cond (.tmp 29)
    .skip
    (.exit 0))
  (.seq (.block 1 (.seq (.region [⟨(some 30), none, (.i (.mov (.tmp 28)))⟩, ⟨(some 31), none, (.i (.idx 4 (.tmp 26) (.tmp 28)))⟩, ⟨(some 32), none, (.i (.ld false 4 (.tmp 31)))⟩, ⟨(some 12), none, (.i (.alloc 51 [(.int .i64 0), (.int .i64 0), (.int .i64 0), (.int .i64 0)]))⟩, ⟨(some 11), none, (.i (.mov (.tmp 30)))⟩, ⟨none, none, (.st false 4 (.tmp 12) (.tmp 32))⟩] false [])
  (.seq (.region [⟨(some 33), none, (.i (.fld 0 (.tmp 12)))⟩, ⟨(some 34), none, (.i (.ld true 1 (.tmp 33)))⟩, ⟨(some 35), none, (.i (.bin .eql (.tmp 34) (.cst (.int .i64 1))))⟩] false [])
  (.cond (.tmp 35)
    (.region [⟨(some 36), none, (.i (.mov (.tmp 10)))⟩, ⟨(some 37), none, (.i (.mov (.tmp 11)))⟩, ⟨(some 38), none, (.i (.mov (.tmp 3)))⟩, ⟨(some 39), none, (.i (.fld 3 (.tmp 12)))⟩, ⟨(some 40), none, (.i (.ld true 1 (.tmp 39)))⟩, ⟨(some 41), none, (.i (.idx 1 (.tmp 38) (.tmp 40)))⟩, ⟨(some 42), none, (.i (.ld true 1 (.tmp 41)))⟩, ⟨(some 43), none, (.i (.idx 1 (.tmp 36) (.tmp 37)))⟩, ⟨none, none, (.st true 1 (.tmp 43) (.tmp 42))⟩] false [])
    .skip))))
  (.region [⟨(some 44), none, (.i (.bin .add (.tmp 28) (.cst (.int .i64 1))))⟩, ⟨(some 28), none, (.i (.mov (.tmp 44)))⟩] false []))))
def m_spec_crStep : AC :=
  (.seq (.region [⟨(some 5), none, (.i (.box 31 (.tmp 1)))⟩, ⟨(some 8), none, (.i (.mov (.cst .nils)))⟩, ⟨(some 9), none, (.i (.mov (.cst .nils)))⟩] false [])
  (.seq (.region [⟨(some 21), none, (.i (.fld 1 (.tmp 5)))⟩, ⟨(some 22), none, (.i (.ld true 1 (.tmp 21)))⟩, ⟨(some 23), none, (.i (.len (.tmp 22)))⟩, ⟨(some 24), none, (.make 3 .int 8 (.tmp 23) (.tmp 23))⟩, ⟨(some 10), none, (.i (.mov (.tmp 24)))⟩] false [])
  (.seq (.seq (.region [⟨(some 25), none, (.i (.fld 1 (.tmp 5)))⟩, ⟨(some 26), none, (.i (.ld true 1 (.tmp 25)))⟩, ⟨(some 27), none, (.i (.len (.tmp 26)))⟩, ⟨(some 28), none, (.i (.mov (.cst (.int .i64 0))))⟩] false [])
  (.block 0 (.loop m_spec_crStep_l1)))
  (.seq (.seq (.region [⟨(some 45), none, (.i (.ld false 3 (.tmp 5)))⟩, ⟨(some 46), none, (.call (.cst (.fn 58 [])) [(.tmp 45)] [[none, (some (.pair .int (.pair .int (.pair .int .int)))), (some .int)]])⟩, ⟨(some 47), none, (.i (.len (.tmp 46)))⟩, ⟨(some 48), none, (.i (.mov (.cst (.int .i64 0))))⟩] false [])
  (.block 2 (.loop m_spec_crStep_l2)))
  (.seq (.seq (.region [⟨(some 61), none, (.i (.ld false 3 (.tmp 5)))⟩, ⟨(some 62), none, (.call (.cst (.fn 72 [])) [(.tmp 61)] [[none, (some (.pair .int (.pair .int (.pair .int .int)))), (some .int)]])⟩, ⟨(some 63), none, (.i (.len (.tmp 62)))⟩, ⟨(some 64), none, (.i (.mov (.cst (.int .i64 0))))⟩] false [])
  (.block 4 (.loop m_spec_crStep_l3)))
  (.seq (.region [⟨(some 18), none, (.i (.mov (.cst .nils)))⟩] false [])
  (.seq (.seq (.region [⟨(some 104), none, (.i (.ld false 3 (.tmp 5)))⟩, ⟨(some 105), none, (.call (.cst (.fn 58 [])) [(.tmp 104)] [[none, (some (.pair .int (.pair .int (.pair .int .int)))), (some .int)]])⟩, ⟨(some 106), none, (.i (.len (.tmp 105)))⟩, ⟨(some 107), none, (.i (.mov (.cst (.int .i64 0))))⟩] false [])
  (.block 6 (.loop m_spec_crStep_l4)))
  (.seq (.region [⟨(some 124), none, (.i (.mov (.tmp 18)))⟩, ⟨(some 125), none, (.i (.fld 2 (.tmp 5)))⟩, ⟨(some 126), none, (.i (.ld true 1 (.tmp 125)))⟩, ⟨(some 127), none, (.i (.mov (.tmp 10)))⟩, ⟨(some 128), none, (.call (.cst (.fn 83 [])) [(.tmp 126), (.tmp 127)] [[(some .int)], [(some .int)]])⟩, ⟨(some 8), none, (.i (.mov (.tmp 124)))⟩, ⟨(some 9), none, (.i (.mov (.tmp 128)))⟩] false [])
  .ret))))))))
def r_spec_crStep : List Res := [.tmp 8, .tmp 9]
theorem c_spec_crStep : compiled Tryd.prog Tryd.f60 = some (m_spec_crStep, r_spec_crStep) := by kernel_rfl
theorem hb_spec_crStep : hasBody Tryd.prog 60 = true := by kernel_rfl
def L_spec_crStep_l1 (a1_1 : List (Int × Int × Int × Int)) (a3 : List Int) (l6_m28 : Nat) (l6_m10 : List Int) : Option (Ctl (Nat × List Int) (List Int)) :=
  cond (decide (((l6_m28 : Nat) : Int) < ((a1_1.length : Nat) : Int)))
  (Option.bind (Option.bind (a1_1[l6_m28]?) fun x12 =>
    cond (x12.1 == 1)
      (Option.bind (getI a3 x12.2.2.2) fun x15 =>
      Option.bind (l6_m10[l6_m28]?) fun x16 =>
      some (l6_m10.set l6_m28 x15))
      (some l6_m10)) fun l10_m10 =>
  og (l6_m28 + 1 < 4611686018427387904) <|
  some (Ctl.next (l6_m28 + 1, l10_m10)))
  (some (Ctl.out l6_m10))
def L_spec_crStep_l2 (y20 : List Int) (a2 : List Int) (l21_m48 : Nat) (l21_m10 : List Int) : Option (Ctl (Nat × List Int) (List Int)) :=
  cond (decide (((l21_m48 : Nat) : Int) < ((y20.length : Nat) : Int)))
  (Option.bind (y20[l21_m48]?) fun x27 =>
  Option.bind (a2[l21_m48]?) fun x28 =>
  Option.bind (getI l21_m10 x27) fun x29 =>
  og (l21_m48 + 1 < 4611686018427387904) <|
  some (Ctl.next (l21_m48 + 1, l21_m10.set x27.toNat x28)))
  (some (Ctl.out l21_m10))
def L_spec_crStep_l3 (y33 : List Int) (a1_1 : List (Int × Int × Int × Int)) (a0 : Int) (l34_m64 : Nat) (l34_m10 : List Int) : Option (Ctl (Nat × List Int) (List Int)) :=
  cond (decide (((l34_m64 : Nat) : Int) < ((y33.length : Nat) : Int)))
  (Option.bind (Option.bind (y33[l34_m64]?) fun x40 =>
    Option.bind (getI a1_1 x40) fun x42 =>
    cond (x42.1 == 3)
      (Option.bind (getI l34_m10 x42.2.1) fun x45 =>
      Option.bind (getI l34_m10 x42.2.2.1) fun x46 =>
      Option.bind (L_spec_fdAdd a0 x45 x46) fun y47 =>
      Option.bind (getI l34_m10 x40) fun x48 =>
      some (l34_m10.set x40.toNat y47))
      (Option.bind (getI l34_m10 x42.2.1) fun x49 =>
      Option.bind (L_spec_fdMul a0 x42.2.2.2 x49) fun y50 =>
      Option.bind (getI l34_m10 x40) fun x51 =>
      some (l34_m10.set x40.toNat y50))) fun l38_m10 =>
  og (l34_m64 + 1 < 4611686018427387904) <|
  some (Ctl.next (l34_m64 + 1, l38_m10)))
  (some (Ctl.out l34_m10))
def L_spec_crStep_l4 (y56 : List Int) (a1_1 : List (Int × Int × Int × Int)) (l31_m10 : List Int) (l57_m107 : Nat) (l57_m18 : List Int) : Option (Ctl (Nat × List Int) (List Int)) :=
  cond (decide (((l57_m107 : Nat) : Int) < ((y56.length : Nat) : Int)))
  (Option.bind (y56[l57_m107]?) fun x63 =>
  Option.bind (getI a1_1 x63) fun x64 =>
  Option.bind (getI l31_m10 x64.2.1) fun x65 =>
  og (l57_m18.length + 1 ≤ 1073741824 ∧ (l57_m18.length + 1) * 8 ≤ 140737488355328) <|
  og (l57_m107 + 1 < 4611686018427387904) <|
  some (Ctl.next (l57_m107 + 1, l57_m18 ++ ([x65]))))
  (some (Ctl.out l57_m18))
def L_spec_crStep (a0 : Int) (a1_0 : Int) (a1_1 : List (Int × Int × Int × Int)) (a1_2 : List Int) (a2 : List Int) (a3 : List Int) : Option (List Int × List Int) :=
  og (0 ≤ ((a1_1.length : Nat) : Int) ∧ ((a1_1.length : Nat) : Int) ≤ ((a1_1.length : Nat) : Int) ∧ ((a1_1.length : Nat) : Int) ≤ 1073741824 ∧ (8 : Int) * ((a1_1.length : Nat) : Int) ≤ 140737488355328) <|
Option.bind (loopM (fun s_ : Nat × List Int => L_spec_crStep_l1 a1_1 a3 s_.1 s_.2) 4611686018427387904 (0, List.replicate a1_1.length (0 : Int))) fun l4_m10 =>
Option.bind (Option.bind (L_spec_crDelays a1_0 a1_1 a1_2) fun y20 =>
  loopM (fun s_ : Nat × List Int => L_spec_crStep_l2 y20 a2 s_.1 s_.2) 4611686018427387904 (0, l4_m10)) fun l18_m10 =>
Option.bind (Option.bind (L_spec_crOrder a1_0 a1_1 a1_2) fun y33 =>
  loopM (fun s_ : Nat × List Int => L_spec_crStep_l3 y33 a1_1 a0 s_.1 s_.2) 4611686018427387904 (0, l18_m10)) fun l31_m10 =>
Option.bind (Option.bind (L_spec_crDelays a1_0 a1_1 a1_2) fun y56 =>
  loopM (fun s_ : Nat × List Int => L_spec_crStep_l4 y56 a1_1 l31_m10 s_.1 s_.2) 4611686018427387904 (0, [])) fun l54_m18 =>
Option.bind (L_spec_hgList a1_2 l31_m10) fun y69 =>
some (l54_m18, y69)
def rv_spec_crStep (r : List Int × List Int) : RV := ⟨true, [(false, [.new 3 .int r.1]), (false, [.new 3 .int r.2])]⟩
theorem ok_spec_crStep {a0 : Int} {a1_0 : Int} {a1_1 : List (Int × Int × Int × Int)} {a1_2 : List Int} {a2 : List Int} {a3 : List Int} {r : List Int × List Int} (h : L_spec_crStep a0 a1_0 a1_1 a1_2 a2 a3 = some r) : CallOK Tryd.prog Tab 60 [(.int .i64 a0), (.agg [(.int .i64 a1_0), (.tree (.pair .int (.pair .int (.pair .int .int))) a1_1), (.tree .int a1_2)]), (.tree .int a2), (.tree .int a3)] (rv_spec_crStep r) := by
  refine call_of_ (by kernel_rfl) Tryd.func60 c_spec_crStep (n := 129) (by kernel_rfl) (by simp) (tl := [(0, (.int .i64 a0)), (1, (.agg [(.int .i64 a1_0), (.tree (.pair .int (.pair .int (.pair .int .int))) a1_1), (.tree .int a1_2)])), (2, (.tree .int a2)), (3, (.tree .int a3))]) rfl ?_
  unfold m_spec_crStep
  unfold L_spec_crStep at h
  refine awp_seq_ ?_
  refine awp_region_ 4 (by kernel_rfl) ?_
  refine rs1 (.box (5, 1) 0) (5, 1) (.cells 31 [(.int .i64 a1_0), (.tree (.pair .int (.pair .int (.pair .int .int))) a1_1), (.tree .int a1_2)]) (by kernel_rfl) ?_
  refine rs0 .nils (by kernel_rfl) ?_
  refine rs0 .nils (by kernel_rfl) ?_
  refine rnil (tn_ ?_)
  refine awp_seq_ ?_
  obtain ⟨g3, h⟩ := og_some h
  refine awp_region_ 9 (by kernel_rfl) ?_
  refine rs0 (.box (5, 1) 1) (by kernel_rfl) ?_
  refine rsl (.tree (.pair .int (.pair .int (.pair .int .int))) a1_1) (by kernel_rfl) ?_
  refine rs0 (.int .i64 ((a1_1.length : Nat) : Int)) (by kernel_rfl) ?_
  refine rs1 (.own (24, 7) .int 0 a1_1.length) (24, 7) (.arr 3 .int (List.replicate a1_1.length (0 : Int))) (s_make (t := .int) (k := .i64) (k' := .i64) (m := ((a1_1.length : Nat) : Int)) (m' := ((a1_1.length : Nat) : Int)) (by kernel_rfl) (by kernel_rfl) g3 rfl) ?_
  refine rs0 (.own (24, 7) .int 0 a1_1.length) (by kernel_rfl) ?_
  refine rnil (tn_ ?_)
  refine awp_seqB h (fun (l4_m10 : List Int) S_ => S_ = ⟨mkTm [(0, (.int .i64 a0)), (2, (.tree .int a2)), (5, (.box (0, 1) 0)), (10, (.own (1, 1) .int 0 l4_m10.length))], mkOb (someL [((0, 1), .cells 31 [(.int .i64 a1_0), (.tree (.pair .int (.pair .int (.pair .int .int))) a1_1), (.tree .int a1_2)]), ((1, 1), .arr 3 .int l4_m10)]), 2⟩) ?_ ?_
  · intro v_ h
    refine awp_seq_ ?_
    refine awp_region_ 13 (by kernel_rfl) ?_
    refine rs0 (.box (5, 1) 1) (by kernel_rfl) ?_
    refine rsl (.tree (.pair .int (.pair .int (.pair .int .int))) a1_1) (by kernel_rfl) ?_
    refine rs0 (.int .i64 ((a1_1.length : Nat) : Int)) (by kernel_rfl) ?_
    refine rs0 (.int .i64 0) (by kernel_rfl) ?_
    refine rnil (tn_ ?_)
    refine awp_block_ ?_
    refine awp_loopL h (fun t_ S_ => ∃ (l6_m28 : Nat), ∃ (l6_m10 : List Int), t_ = (l6_m28, l6_m10) ∧ S_ = ⟨mkTm [(0, (.int .i64 a0)), (2, (.tree .int a2)), (3, (.tree .int a3)), (5, (.box (0, 1) 0)), (10, (.own (1, 1) .int 0 l6_m10.length)), (26, (.tree (.pair .int (.pair .int (.pair .int .int))) a1_1)), (27, (.int .i64 ((a1_1.length : Nat) : Int))), (28, (.int .i64 ((l6_m28 : Nat) : Int)))], mkOb (someL [((0, 1), .cells 31 [(.int .i64 a1_0), (.tree (.pair .int (.pair .int (.pair .int .int))) a1_1), (.tree .int a1_2)]), ((1, 1), .arr 3 .int l6_m10)]), 2⟩) ⟨_, ((weak_tm_ 10 (.own (24, 7) .int 0 a1_1.length) (.own (24, 7) .int 0 ((List.replicate a1_1.length (0 : Int)).length)) (by kernel_rfl) (congrArg (fun z_ => ((.own (24, 7) .int 0 z_) : AV)) (List.length_replicate.symm : a1_1.length = (List.replicate a1_1.length (0 : Int)).length))).trans (weak_ren (renF [((0, 1), (5, 1)), ((1, 1), (24, 7))]) (by kernel_rfl) (by kernel_rfl) (by kernel_rfl))), ⟨0, List.replicate a1_1.length (0 : Int), rfl, rfl⟩⟩ ?_
    · rintro n_ _ _ c_ ⟨l6_m28, l6_m10, rfl, rfl⟩ h hn6
      (try dsimp only at h)
      unfold L_spec_crStep_l1 at h
      unfold m_spec_crStep_l1
      refine awp_seq_ ?_
      refine awp_region_ 3 (by kernel_rfl) ?_
      refine rs0 (.bool (decide (((l6_m28 : Nat) : Int) < ((a1_1.length : Nat) : Int)))) (by kernel_rfl) ?_
      refine rnil (tn_ ?_)
      refine awp_seq_ ?_
      rcases cond_some h with ⟨q9, h⟩ | ⟨q9, h⟩
      · have q9_ := of_decide_eq_true q9
        refine awp_condT_ q9 (by kernel_rfl) ?_
        refine awp_skip_ (tn_ ?_)
        refine awp_seqB h (fun (l10_m10 : List Int) S_ => S_ = ⟨mkTm [(0, (.int .i64 a0)), (2, (.tree .int a2)), (3, (.tree .int a3)), (5, (.box (0, 1) 0)), (10, (.own (1, 1) .int 0 l10_m10.length)), (26, (.tree (.pair .int (.pair .int (.pair .int .int))) a1_1)), (27, (.int .i64 ((a1_1.length : Nat) : Int))), (28, (.int .i64 ((l6_m28 : Nat) : Int)))], mkOb (someL [((0, 1), .cells 31 [(.int .i64 a1_0), (.tree (.pair .int (.pair .int (.pair .int .int))) a1_1), (.tree .int a1_2)]), ((1, 1), .arr 3 .int l10_m10)]), 2⟩) ?_ ?_
        · intro v_ h
          refine awp_block_ ?_
          refine awp_seq_ ?_
          obtain ⟨x12, e12, h⟩ := ob_some h
          refine awp_region_ 9 (by kernel_rfl) ?_
          refine rs0 (.int .i64 ((l6_m28 : Nat) : Int)) (by kernel_rfl) ?_
          refine rs0 (.telt (.pair .int (.pair .int (.pair .int .int))) x12 0) (s_idxT (t := (.pair .int (.pair .int (.pair .int .int)))) (xs := a1_1) (k := .i64) (m := ((l6_m28 : Nat) : Int)) (by kernel_rfl) (by kernel_rfl) rfl (nat_nn _) rfl e12) ?_
          refine rs0 (.agg [(.int .i64 x12.1), (.int .i64 x12.2.1), (.int .i64 x12.2.2.1), (.int .i64 x12.2.2.2)]) (by kernel_rfl) ?_
          refine rs1 (.box (12, 6) 0) (12, 6) (.cells 51 [(.int .i64 0), (.int .i64 0), (.int .i64 0), (.int .i64 0)]) (by kernel_rfl) ?_
          refine rs0 (.int .i64 ((l6_m28 : Nat) : Int)) (by kernel_rfl) ?_
          refine rsn2 (12, 6) (12, 6) (.cells 51 [(.int .i64 x12.1), (.int .i64 x12.2.1), (.int .i64 x12.2.2.1), (.int .i64 x12.2.2.2)]) (by kernel_rfl) ?_
          refine rnil (tn_ ?_)
          refine awp_seq_ ?_
          refine awp_region_ 12 (by kernel_rfl) ?_
          refine rs0 (.box (12, 6) 0) (by kernel_rfl) ?_
          refine rsl (.int .i64 x12.1) (by kernel_rfl) ?_
          refine rs0 (.bool (x12.1 == 1)) (by kernel_rfl) ?_
          refine rnil (tn_ ?_)
          rcases cond_some h with ⟨q14, h⟩ | ⟨q14, h⟩
          · refine awp_condT_ q14 (by kernel_rfl) ?_
            obtain ⟨x15, f15, h⟩ := ob_some h
            obtain ⟨p15, b15, e15⟩ := getI_some f15
            obtain ⟨x16, e16, h⟩ := ob_some h
            refine awp_region_ 21 (by kernel_rfl) ?_
            refine rs0 (.own (1, 1) .int 0 l6_m10.length) (by kernel_rfl) ?_
            refine rs0 (.int .i64 ((l6_m28 : Nat) : Int)) (by kernel_rfl) ?_
            refine rs0 (.tree .int a3) (by kernel_rfl) ?_
            refine rs0 (.box (12, 6) 3) (by kernel_rfl) ?_
            refine rsl (.int .i64 x12.2.2.2) (by kernel_rfl) ?_
            refine rs0 (.telt .int x15 0) (s_idxT (t := .int) (xs := a3) (k := .i64) (m := x12.2.2.2) (by kernel_rfl) (by kernel_rfl) rfl p15 rfl e15) ?_
            refine rs0 (.int .i64 x15) (by kernel_rfl) ?_
            refine rs0 (.elt (1, 1) l6_m28 0) (s_idxO (t := .int) (o := (1, 1)) (len := l6_m10.length) (k := .i64) (m := ((l6_m28 : Nat) : Int)) (by kernel_rfl) (by kernel_rfl) rfl (nat_nn _) rfl (getN_lt e16)) ?_
            refine rsn2 (1, 1) (1, 1) (.arr 3 .int (l6_m10.set l6_m28 x15)) (s_stE (i := (1, 1)) (j := l6_m28) (k := 0) (e := 3) (t := .int) (xs := l6_m10) (cs := [(.int .i64 x15)]) (x1 := x15) (by kernel_rfl) (by kernel_rfl) e16 (by kernel_rfl) (by kernel_rfl)) ?_
            refine rnil (bn_ (tn_ ?_))
            obtain rfl := Option.some.inj h
            exact ⟨_, ((weak_tm_ 10 (.own (1, 1) .int 0 l6_m10.length) (.own (1, 1) .int 0 ((l6_m10.set l6_m28 x15).length)) (by kernel_rfl) (congrArg (fun z_ => ((.own (1, 1) .int 0 z_) : AV)) (((rfl : l6_m10.length = l6_m10.length).trans List.length_set.symm) : l6_m10.length = (l6_m10.set l6_m28 x15).length))).trans (weak_ren (renF []) (by kernel_rfl) (by kernel_rfl) (by kernel_rfl))), rfl⟩
          · refine awp_condF_ q14 (by kernel_rfl) ?_
            refine awp_skip_ (bn_ (tn_ ?_))
            obtain rfl := Option.some.inj h
            exact ⟨_, (weak_ren (renF []) (by kernel_rfl) (by kernel_rfl) (by kernel_rfl)), rfl⟩
        · rintro l10_m10 _ rfl h
          (try dsimp only at h)
          obtain ⟨g17, h⟩ := og_some h
          refine awp_region_ 4 (by kernel_rfl) ?_
          refine rs0 (.int .i64 ((l6_m28 + 1 : Nat) : Int)) (s_add1 (j := l6_m28) (by kernel_rfl) (by kernel_rfl) g17) ?_
          refine rs0 (.int .i64 ((l6_m28 + 1 : Nat) : Int)) (by kernel_rfl) ?_
          refine rnil (tn_ ?_)
          obtain rfl := Option.some.inj h
          exact ⟨(l6_m28 + 1, l10_m10), _, (weak_ren (renF []) (by kernel_rfl) (by kernel_rfl) (by kernel_rfl)), ⟨l6_m28 + 1, l10_m10, rfl, rfl⟩, hn6⟩
      · have q9_ := of_decide_eq_false q9
        refine awp_condF_ q9 (by kernel_rfl) ?_
        refine awp_exit_ (te_ (te_ (be_ (tn_ ?_))))
        obtain rfl := Option.some.inj h
        have h := hn6
        (try dsimp only at h)
        obtain rfl := Option.some.inj h
        exact ⟨_, (weak_ren (renF []) (by kernel_rfl) (by kernel_rfl) (by kernel_rfl)), rfl⟩
  · rintro l4_m10 _ rfl h
    (try dsimp only at h)
    refine awp_seqB h (fun (l18_m10 : List Int) S_ => S_ = ⟨mkTm [(0, (.int .i64 a0)), (5, (.box (0, 1) 0)), (10, (.own (1, 1) .int 0 l18_m10.length))], mkOb (someL [((0, 1), .cells 31 [(.int .i64 a1_0), (.tree (.pair .int (.pair .int (.pair .int .int))) a1_1), (.tree .int a1_2)]), ((1, 1), .arr 3 .int l18_m10)]), 2⟩) ?_ ?_
    · intro v_ h
      refine awp_seq_ ?_
      obtain ⟨y20, h20, h⟩ := ob_some h
      refine awp_region_ 6 (by kernel_rfl) ?_
      refine rsl (.agg [(.int .i64 a1_0), (.tree (.pair .int (.pair .int (.pair .int .int))) a1_1), (.tree .int a1_2)]) (by kernel_rfl) ?_
      refine rcall (.own (736, 3) .int 0 y20.length) [((736, 3), some (.arr 3 .int y20))] [(.agg [(.int .i64 a1_0), (.tree (.pair .int (.pair .int (.pair .int .int))) a1_1), (.tree .int a1_2)])] _ (caps := []) (args0 := [(.agg [(.int .i64 a1_0), (.tree (.pair .int (.pair .int (.pair .int .int))) a1_1), (.tree .int a1_2)])]) trivial (by kernel_rfl) (by kernel_rfl) (by kernel_rfl) (by kernel_rfl) (ok_spec_crDelays h20) hb_spec_crDelays (by kernel_rfl) ?_
      refine rs0 (.int .i64 ((y20.length : Nat) : Int)) (by kernel_rfl) ?_
      refine rs0 (.int .i64 0) (by kernel_rfl) ?_
      refine rnil (tn_ ?_)
      refine awp_block_ ?_
      refine awp_loopL h (fun t_ S_ => ∃ (l21_m48 : Nat), ∃ (l21_m10 : List Int), t_ = (l21_m48, l21_m10) ∧ S_ = ⟨mkTm [(0, (.int .i64 a0)), (2, (.tree .int a2)), (5, (.box (0, 1) 0)), (10, (.own (1, 1) .int 0 l21_m10.length)), (46, (.own (2, 1) .int 0 y20.length)), (47, (.int .i64 ((y20.length : Nat) : Int))), (48, (.int .i64 ((l21_m48 : Nat) : Int)))], mkOb (someL [((0, 1), .cells 31 [(.int .i64 a1_0), (.tree (.pair .int (.pair .int (.pair .int .int))) a1_1), (.tree .int a1_2)]), ((1, 1), .arr 3 .int l21_m10), ((2, 1), .arr 3 .int y20)]), 2⟩) ⟨_, (weak_ren (renF [((2, 1), (736, 3))]) (by kernel_rfl) (by kernel_rfl) (by kernel_rfl)), ⟨0, l4_m10, rfl, rfl⟩⟩ ?_
      · rintro n_ _ _ c_ ⟨l21_m48, l21_m10, rfl, rfl⟩ h hn21
        (try dsimp only at h)
        unfold L_spec_crStep_l2 at h
        unfold m_spec_crStep_l2
        refine awp_seq_ ?_
        refine awp_region_ 3 (by kernel_rfl) ?_
        refine rs0 (.bool (decide (((l21_m48 : Nat) : Int) < ((y20.length : Nat) : Int)))) (by kernel_rfl) ?_
        refine rnil (tn_ ?_)
        refine awp_seq_ ?_
        rcases cond_some h with ⟨q24, h⟩ | ⟨q24, h⟩
        · have q24_ := of_decide_eq_true q24
          refine awp_condT_ q24 (by kernel_rfl) ?_
          refine awp_skip_ (tn_ ?_)
          refine awp_seq_ ?_
          refine awp_block_ ?_
          refine awp_seq_ ?_
          obtain ⟨x27, e27, h⟩ := ob_some h
          refine awp_region_ 8 (by kernel_rfl) ?_
          refine rs0 (.int .i64 ((l21_m48 : Nat) : Int)) (by kernel_rfl) ?_
          refine rs0 (.elt (2, 1) l21_m48 0) (s_idxO (t := .int) (o := (2, 1)) (len := y20.length) (k := .i64) (m := ((l21_m48 : Nat) : Int)) (by kernel_rfl) (by kernel_rfl) rfl (nat_nn _) rfl (getN_lt e27)) ?_
          refine rsl (.int .i64 x27) (s_ldE (i := (2, 1)) (j := l21_m48) (k := 0) (e := 3) (t := .int) (xs := y20) (by kernel_rfl) (by kernel_rfl) e27 (by kernel_rfl)) ?_
          refine rs0 (.int .i64 ((l21_m48 : Nat) : Int)) (by kernel_rfl) ?_
          refine rs0 (.int .i64 x27) (by kernel_rfl) ?_
          refine rnil (tn_ ?_)
          obtain ⟨x28, e28, h⟩ := ob_some h
          obtain ⟨x29, f29, h⟩ := ob_some h
          obtain ⟨p29, b29, e29⟩ := getI_some f29
          refine awp_region_ 16 (by kernel_rfl) ?_
          refine rs0 (.own (1, 1) .int 0 l21_m10.length) (by kernel_rfl) ?_
          refine rs0 (.int .i64 x27) (by kernel_rfl) ?_
          refine rs0 (.tree .int a2) (by kernel_rfl) ?_
          refine rs0 (.int .i64 ((l21_m48 : Nat) : Int)) (by kernel_rfl) ?_
          refine rs0 (.telt .int x28 0) (s_idxT (t := .int) (xs := a2) (k := .i64) (m := ((l21_m48 : Nat) : Int)) (by kernel_rfl) (by kernel_rfl) rfl (nat_nn _) rfl e28) ?_
          refine rs0 (.int .i64 x28) (by kernel_rfl) ?_
          refine rs0 (.elt (1, 1) x27.toNat 0) (s_idxO (t := .int) (o := (1, 1)) (len := l21_m10.length) (k := .i64) (m := x27) (by kernel_rfl) (by kernel_rfl) rfl p29 rfl (getN_lt e29)) ?_
          refine rsn2 (1, 1) (1, 1) (.arr 3 .int (l21_m10.set x27.toNat x28)) (s_stE (i := (1, 1)) (j := x27.toNat) (k := 0) (e := 3) (t := .int) (xs := l21_m10) (cs := [(.int .i64 x28)]) (x1 := x28) (by kernel_rfl) (by kernel_rfl) e29 (by kernel_rfl) (by kernel_rfl)) ?_
          refine rnil (bn_ (tn_ ?_))
          obtain ⟨g30, h⟩ := og_some h
          refine awp_region_ 18 (by kernel_rfl) ?_
          refine rs0 (.int .i64 ((l21_m48 + 1 : Nat) : Int)) (s_add1 (j := l21_m48) (by kernel_rfl) (by kernel_rfl) g30) ?_
          refine rs0 (.int .i64 ((l21_m48 + 1 : Nat) : Int)) (by kernel_rfl) ?_
          refine rnil (tn_ ?_)
          obtain rfl := Option.some.inj h
          exact ⟨(l21_m48 + 1, l21_m10.set x27.toNat x28), _, ((weak_tm_ 10 (.own (1, 1) .int 0 l21_m10.length) (.own (1, 1) .int 0 ((l21_m10.set x27.toNat x28).length)) (by kernel_rfl) (congrArg (fun z_ => ((.own (1, 1) .int 0 z_) : AV)) (((rfl : l21_m10.length = l21_m10.length).trans List.length_set.symm) : l21_m10.length = (l21_m10.set x27.toNat x28).length))).trans (weak_ren (renF []) (by kernel_rfl) (by kernel_rfl) (by kernel_rfl))), ⟨l21_m48 + 1, l21_m10.set x27.toNat x28, rfl, rfl⟩, hn21⟩
        · have q24_ := of_decide_eq_false q24
          refine awp_condF_ q24 (by kernel_rfl) ?_
          refine awp_exit_ (te_ (te_ (be_ (tn_ ?_))))
          obtain rfl := Option.some.inj h
          have h := hn21
          (try dsimp only at h)
          obtain rfl := Option.some.inj h
          exact ⟨_, (weak_ren (renF []) (by kernel_rfl) (by kernel_rfl) (by kernel_rfl)), rfl⟩
    · rintro l18_m10 _ rfl h
      (try dsimp only at h)
      refine awp_seqB h (fun (l31_m10 : List Int) S_ => S_ = ⟨mkTm [(5, (.box (0, 1) 0)), (10, (.own (1, 1) .int 0 l31_m10.length))], mkOb (someL [((0, 1), .cells 31 [(.int .i64 a1_0), (.tree (.pair .int (.pair .int (.pair .int .int))) a1_1), (.tree .int a1_2)]), ((1, 1), .arr 3 .int l31_m10)]), 2⟩) ?_ ?_
      · intro v_ h
        refine awp_seq_ ?_
        obtain ⟨y33, h33, h⟩ := ob_some h
        refine awp_region_ 6 (by kernel_rfl) ?_
        refine rsl (.agg [(.int .i64 a1_0), (.tree (.pair .int (.pair .int (.pair .int .int))) a1_1), (.tree .int a1_2)]) (by kernel_rfl) ?_
        refine rcall (.own (992, 3) .int 0 y33.length) [((992, 3), some (.arr 3 .int y33))] [(.agg [(.int .i64 a1_0), (.tree (.pair .int (.pair .int (.pair .int .int))) a1_1), (.tree .int a1_2)])] _ (caps := []) (args0 := [(.agg [(.int .i64 a1_0), (.tree (.pair .int (.pair .int (.pair .int .int))) a1_1), (.tree .int a1_2)])]) trivial (by kernel_rfl) (by kernel_rfl) (by kernel_rfl) (by kernel_rfl) (ok_spec_crOrder h33) hb_spec_crOrder (by kernel_rfl) ?_
        refine rs0 (.int .i64 ((y33.length : Nat) : Int)) (by kernel_rfl) ?_
        refine rs0 (.int .i64 0) (by kernel_rfl) ?_
        refine rnil (tn_ ?_)
        refine awp_block_ ?_
        refine awp_loopL h (fun t_ S_ => ∃ (l34_m64 : Nat), ∃ (l34_m10 : List Int), t_ = (l34_m64, l34_m10) ∧ S_ = ⟨mkTm [(0, (.int .i64 a0)), (5, (.box (0, 1) 0)), (10, (.own (1, 1) .int 0 l34_m10.length)), (62, (.own (2, 1) .int 0 y33.length)), (63, (.int .i64 ((y33.length : Nat) : Int))), (64, (.int .i64 ((l34_m64 : Nat) : Int)))], mkOb (someL [((0, 1), .cells 31 [(.int .i64 a1_0), (.tree (.pair .int (.pair .int (.pair .int .int))) a1_1), (.tree .int a1_2)]), ((1, 1), .arr 3 .int l34_m10), ((2, 1), .arr 3 .int y33)]), 2⟩) ⟨_, (weak_ren (renF [((2, 1), (992, 3))]) (by kernel_rfl) (by kernel_rfl) (by kernel_rfl)), ⟨0, l18_m10, rfl, rfl⟩⟩ ?_
        · rintro n_ _ _ c_ ⟨l34_m64, l34_m10, rfl, rfl⟩ h hn34
          (try dsimp only at h)
          unfold L_spec_crStep_l3 at h
          unfold m_spec_crStep_l3
          refine awp_seq_ ?_
          refine awp_region_ 3 (by kernel_rfl) ?_
          refine rs0 (.bool (decide (((l34_m64 : Nat) : Int) < ((y33.length : Nat) : Int)))) (by kernel_rfl) ?_
          refine rnil (tn_ ?_)
          refine awp_seq_ ?_
          rcases cond_some h with ⟨q37, h⟩ | ⟨q37, h⟩
          · have q37_ := of_decide_eq_true q37
            refine awp_condT_ q37 (by kernel_rfl) ?_
            refine awp_skip_ (tn_ ?_)
            refine awp_seqB h (fun (l38_m10 : List Int) S_ => S_ = ⟨mkTm [(0, (.int .i64 a0)), (5, (.box (0, 1) 0)), (10, (.own (1, 1) .int 0 l38_m10.length)), (62, (.own (2, 1) .int 0 y33.length)), (63, (.int .i64 ((y33.length : Nat) : Int))), (64, (.int .i64 ((l34_m64 : Nat) : Int)))], mkOb (someL [((0, 1), .cells 31 [(.int .i64 a1_0), (.tree (.pair .int (.pair .int (.pair .int .int))) a1_1), (.tree .int a1_2)]), ((1, 1), .arr 3 .int l38_m10), ((2, 1), .arr 3 .int y33)]), 2⟩) ?_ ?_
            · intro v_ h
              refine awp_block_ ?_
              refine awp_seq_ ?_
              obtain ⟨x40, e40, h⟩ := ob_some h
              refine awp_region_ 6 (by kernel_rfl) ?_
              refine rs0 (.elt (2, 1) l34_m64 0) (s_idxO (t := .int) (o := (2, 1)) (len := y33.length) (k := .i64) (m := ((l34_m64 : Nat) : Int)) (by kernel_rfl) (by kernel_rfl) rfl (nat_nn _) rfl (getN_lt e40)) ?_
              refine rsl (.int .i64 x40) (s_ldE (i := (2, 1)) (j := l34_m64) (k := 0) (e := 3) (t := .int) (xs := y33) (by kernel_rfl) (by kernel_rfl) e40 (by kernel_rfl)) ?_
              refine rs0 (.int .i64 x40) (by kernel_rfl) ?_
              refine rnil (tn_ ?_)
              refine awp_seq_ ?_
              obtain ⟨x42, f42, h⟩ := ob_some h
              obtain ⟨p42, b42, e42⟩ := getI_some f42
              refine awp_region_ 13 (by kernel_rfl) ?_
              refine rs0 (.box (0, 1) 1) (by kernel_rfl) ?_
              refine rsl (.tree (.pair .int (.pair .int (.pair .int .int))) a1_1) (by kernel_rfl) ?_
              refine rs0 (.int .i64 x40) (by kernel_rfl) ?_
              refine rs0 (.telt (.pair .int (.pair .int (.pair .int .int))) x42 0) (s_idxT (t := (.pair .int (.pair .int (.pair .int .int)))) (xs := a1_1) (k := .i64) (m := x40) (by kernel_rfl) (by kernel_rfl) rfl p42 rfl e42) ?_
              refine rs0 (.agg [(.int .i64 x42.1), (.int .i64 x42.2.1), (.int .i64 x42.2.2.1), (.int .i64 x42.2.2.2)]) (by kernel_rfl) ?_
              refine rs1 (.box (17, 11) 0) (17, 11) (.cells 51 [(.int .i64 0), (.int .i64 0), (.int .i64 0), (.int .i64 0)]) (by kernel_rfl) ?_
              refine rsn2 (17, 11) (17, 11) (.cells 51 [(.int .i64 x42.1), (.int .i64 x42.2.1), (.int .i64 x42.2.2.1), (.int .i64 x42.2.2.2)]) (by kernel_rfl) ?_
              refine rnil (tn_ ?_)
              refine awp_seq_ ?_
              refine awp_region_ 16 (by kernel_rfl) ?_
              refine rs0 (.box (17, 11) 0) (by kernel_rfl) ?_
              refine rsl (.int .i64 x42.1) (by kernel_rfl) ?_
              refine rs0 (.bool (x42.1 == 3)) (by kernel_rfl) ?_
              refine rnil (tn_ ?_)
              rcases cond_some h with ⟨q44, h⟩ | ⟨q44, h⟩
              · refine awp_condT_ q44 (by kernel_rfl) ?_
                obtain ⟨x45, f45, h⟩ := ob_some h
                obtain ⟨p45, b45, e45⟩ := getI_some f45
                obtain ⟨x46, f46, h⟩ := ob_some h
                obtain ⟨p46, b46, e46⟩ := getI_some f46
                obtain ⟨y47, h47, h⟩ := ob_some h
                obtain ⟨x48, f48, h⟩ := ob_some h
                obtain ⟨p48, b48, e48⟩ := getI_some f48
                refine awp_regionD_ 32 (by kernel_rfl) ?_
                refine ds0 (.own (1, 1) .int 0 l34_m10.length) (by kernel_rfl) ?_
                refine ds0 (.int .i64 x40) (by kernel_rfl) ?_
                refine ds0 (.int .i64 a0) (by kernel_rfl) ?_
                refine ds0 (.own (1, 1) .int 0 l34_m10.length) (by kernel_rfl) ?_
                refine ds0 (.box (17, 11) 1) (by kernel_rfl) ?_
                refine dsl (.int .i64 x42.2.1) (by kernel_rfl) ?_
                refine ds0 (.elt (1, 1) x42.2.1.toNat 0) (s_idxO (t := .int) (o := (1, 1)) (len := l34_m10.length) (k := .i64) (m := x42.2.1) (by kernel_rfl) (by kernel_rfl) rfl p45 rfl (getN_lt e45)) ?_
                refine dsl (.int .i64 x45) (s_ldE (i := (1, 1)) (j := x42.2.1.toNat) (k := 0) (e := 3) (t := .int) (xs := l34_m10) (by kernel_rfl) (by kernel_rfl) e45 (by kernel_rfl)) ?_
                refine ds0 (.own (1, 1) .int 0 l34_m10.length) (by kernel_rfl) ?_
                refine ds0 (.box (17, 11) 2) (by kernel_rfl) ?_
                refine dsl (.int .i64 x42.2.2.1) (by kernel_rfl) ?_
                refine ds0 (.elt (1, 1) x42.2.2.1.toNat 0) (s_idxO (t := .int) (o := (1, 1)) (len := l34_m10.length) (k := .i64) (m := x42.2.2.1) (by kernel_rfl) (by kernel_rfl) rfl p46 rfl (getN_lt e46)) ?_
                refine dsl (.int .i64 x46) (s_ldE (i := (1, 1)) (j := x42.2.2.1.toNat) (k := 0) (e := 3) (t := .int) (xs := l34_m10) (by kernel_rfl) (by kernel_rfl) e46 (by kernel_rfl)) ?_
                refine dcall (.int .i64 y47) [] [(.int .i64 a0), (.int .i64 x45), (.int .i64 x46)] _ (caps := []) (args0 := [(.int .i64 a0), (.int .i64 x45), (.int .i64 x46)]) trivial (by kernel_rfl) (by kernel_rfl) (by kernel_rfl) (by kernel_rfl) (ok_spec_fdAdd h47) hb_spec_fdAdd (by kernel_rfl) ?_
                refine ds0 (.elt (1, 1) x40.toNat 0) (s_idxO (t := .int) (o := (1, 1)) (len := l34_m10.length) (k := .i64) (m := x40) (by kernel_rfl) (by kernel_rfl) rfl p48 rfl (getN_lt e48)) ?_
                refine dsn2 (1, 1) (1, 1) (.arr 3 .int (l34_m10.set x40.toNat y47)) (s_stE (i := (1, 1)) (j := x40.toNat) (k := 0) (e := 3) (t := .int) (xs := l34_m10) (cs := [(.int .i64 y47)]) (x1 := y47) (by kernel_rfl) (by kernel_rfl) e48 (by kernel_rfl) (by kernel_rfl)) ?_
                refine dnil (by kernel_rfl) (bn_ (tn_ ?_))
                obtain rfl := Option.some.inj h
                exact ⟨_, ((weak_tm_ 10 (.own (1, 1) .int 0 l34_m10.length) (.own (1, 1) .int 0 ((l34_m10.set x40.toNat y47).length)) (by kernel_rfl) (congrArg (fun z_ => ((.own (1, 1) .int 0 z_) : AV)) (((rfl : l34_m10.length = l34_m10.length).trans List.length_set.symm) : l34_m10.length = (l34_m10.set x40.toNat y47).length))).trans (weak_ren (renF []) (by kernel_rfl) (by kernel_rfl) (by kernel_rfl))), rfl⟩
              · refine awp_condF_ q44 (by kernel_rfl) ?_
                obtain ⟨x49, f49, h⟩ := ob_some h
                obtain ⟨p49, b49, e49⟩ := getI_some f49
                obtain ⟨y50, h50, h⟩ := ob_some h
                obtain ⟨x51, f51, h⟩ := ob_some h
                obtain ⟨p51, b51, e51⟩ := getI_some f51
                refine awp_regionD_ 29 (by kernel_rfl) ?_
                refine ds0 (.own (1, 1) .int 0 l34_m10.length) (by kernel_rfl) ?_
                refine ds0 (.int .i64 x40) (by kernel_rfl) ?_
                refine ds0 (.int .i64 a0) (by kernel_rfl) ?_
                refine ds0 (.box (17, 11) 3) (by kernel_rfl) ?_
                refine dsl (.int .i64 x42.2.2.2) (by kernel_rfl) ?_
                refine ds0 (.own (1, 1) .int 0 l34_m10.length) (by kernel_rfl) ?_
                refine ds0 (.box (17, 11) 1) (by kernel_rfl) ?_
                refine dsl (.int .i64 x42.2.1) (by kernel_rfl) ?_
                refine ds0 (.elt (1, 1) x42.2.1.toNat 0) (s_idxO (t := .int) (o := (1, 1)) (len := l34_m10.length) (k := .i64) (m := x42.2.1) (by kernel_rfl) (by kernel_rfl) rfl p49 rfl (getN_lt e49)) ?_
                refine dsl (.int .i64 x49) (s_ldE (i := (1, 1)) (j := x42.2.1.toNat) (k := 0) (e := 3) (t := .int) (xs := l34_m10) (by kernel_rfl) (by kernel_rfl) e49 (by kernel_rfl)) ?_
                refine dcall (.int .i64 y50) [] [(.int .i64 a0), (.int .i64 x42.2.2.2), (.int .i64 x49)] _ (caps := []) (args0 := [(.int .i64 a0), (.int .i64 x42.2.2.2), (.int .i64 x49)]) trivial (by kernel_rfl) (by kernel_rfl) (by kernel_rfl) (by kernel_rfl) (ok_spec_fdMul h50) hb_spec_fdMul (by kernel_rfl) ?_
                refine ds0 (.elt (1, 1) x40.toNat 0) (s_idxO (t := .int) (o := (1, 1)) (len := l34_m10.length) (k := .i64) (m := x40) (by kernel_rfl) (by kernel_rfl) rfl p51 rfl (getN_lt e51)) ?_
                refine dsn2 (1, 1) (1, 1) (.arr 3 .int (l34_m10.set x40.toNat y50)) (s_stE (i := (1, 1)) (j := x40.toNat) (k := 0) (e := 3) (t := .int) (xs := l34_m10) (cs := [(.int .i64 y50)]) (x1 := y50) (by kernel_rfl) (by kernel_rfl) e51 (by kernel_rfl) (by kernel_rfl)) ?_
                refine dnil (by kernel_rfl) (bn_ (tn_ ?_))
                obtain rfl := Option.some.inj h
                exact ⟨_, ((weak_tm_ 10 (.own (1, 1) .int 0 l34_m10.length) (.own (1, 1) .int 0 ((l34_m10.set x40.toNat y50).length)) (by kernel_rfl) (congrArg (fun z_ => ((.own (1, 1) .int 0 z_) : AV)) (((rfl : l34_m10.length = l34_m10.length).trans List.length_set.symm) : l34_m10.length = (l34_m10.set x40.toNat y50).length))).trans (weak_ren (renF []) (by kernel_rfl) (by kernel_rfl) (by kernel_rfl))), rfl⟩
            · rintro l38_m10 _ rfl h
              (try dsimp only at h)
              obtain ⟨g52, h⟩ := og_some h
              refine awp_region_ 4 (by kernel_rfl) ?_
              refine rs0 (.int .i64 ((l34_m64 + 1 : Nat) : Int)) (s_add1 (j := l34_m64) (by kernel_rfl) (by kernel_rfl) g52) ?_
              refine rs0 (.int .i64 ((l34_m64 + 1 : Nat) : Int)) (by kernel_rfl) ?_
              refine rnil (tn_ ?_)
              obtain rfl := Option.some.inj h
              exact ⟨(l34_m64 + 1, l38_m10), _, (weak_ren (renF []) (by kernel_rfl) (by kernel_rfl) (by kernel_rfl)), ⟨l34_m64 + 1, l38_m10, rfl, rfl⟩, hn34⟩
          · have q37_ := of_decide_eq_false q37
            refine awp_condF_ q37 (by kernel_rfl) ?_
            refine awp_exit_ (te_ (te_ (be_ (tn_ ?_))))
            obtain rfl := Option.some.inj h
            have h := hn34
            (try dsimp only at h)
            obtain rfl := Option.some.inj h
            exact ⟨_, (weak_ren (renF []) (by kernel_rfl) (by kernel_rfl) (by kernel_rfl)), rfl⟩
      · rintro l31_m10 _ rfl h
        (try dsimp only at h)
        refine awp_seq_ ?_
        refine awp_region_ 3 (by kernel_rfl) ?_
        refine rs0 .nils (by kernel_rfl) ?_
        refine rnil (tn_ ?_)
        refine awp_seqB h (fun (l54_m18 : List Int) S_ => S_ = ⟨mkTm [(5, (.box (0, 1) 0)), (10, (.own (1, 1) .int 0 l31_m10.length)), (18, (.own (2, 1) .int 0 l54_m18.length))], mkOb (someL [((0, 1), .cells 31 [(.int .i64 a1_0), (.tree (.pair .int (.pair .int (.pair .int .int))) a1_1), (.tree .int a1_2)]), ((1, 1), .arr 3 .int l31_m10), ((2, 1), .arr 3 .int l54_m18)]), 2⟩) ?_ ?_
        · intro v_ h
          refine awp_seq_ ?_
          obtain ⟨y56, h56, h⟩ := ob_some h
          refine awp_region_ 7 (by kernel_rfl) ?_
          refine rsl (.agg [(.int .i64 a1_0), (.tree (.pair .int (.pair .int (.pair .int .int))) a1_1), (.tree .int a1_2)]) (by kernel_rfl) ?_
          refine rcall (.own (1680, 4) .int 0 y56.length) [((1680, 4), some (.arr 3 .int y56))] [(.agg [(.int .i64 a1_0), (.tree (.pair .int (.pair .int (.pair .int .int))) a1_1), (.tree .int a1_2)])] _ (caps := []) (args0 := [(.agg [(.int .i64 a1_0), (.tree (.pair .int (.pair .int (.pair .int .int))) a1_1), (.tree .int a1_2)])]) trivial (by kernel_rfl) (by kernel_rfl) (by kernel_rfl) (by kernel_rfl) (ok_spec_crDelays h56) hb_spec_crDelays (by kernel_rfl) ?_
          refine rs0 (.int .i64 ((y56.length : Nat) : Int)) (by kernel_rfl) ?_
          refine rs0 (.int .i64 0) (by kernel_rfl) ?_
          refine rnil (tn_ ?_)
          refine awp_block_ ?_
          refine awp_loopL h (fun t_ S_ => ∃ (l57_m107 : Nat), ∃ (l57_m18 : List Int), t_ = (l57_m107, l57_m18) ∧ S_ = ⟨mkTm [(5, (.box (0, 1) 0)), (10, (.own (1, 1) .int 0 l31_m10.length)), (18, (.own (2, 1) .int 0 l57_m18.length)), (105, (.own (3, 1) .int 0 y56.length)), (106, (.int .i64 ((y56.length : Nat) : Int))), (107, (.int .i64 ((l57_m107 : Nat) : Int)))], mkOb (someL [((0, 1), .cells 31 [(.int .i64 a1_0), (.tree (.pair .int (.pair .int (.pair .int .int))) a1_1), (.tree .int a1_2)]), ((1, 1), .arr 3 .int l31_m10), ((2, 1), .arr 3 .int l57_m18), ((3, 1), .arr 3 .int y56)]), 2⟩) ⟨_, ((weak_nil_ 18 3 .int rfl (by kernel_rfl)).trans (weak_ren (renF [((2, 1), (18, 7)), ((3, 1), (1680, 4))]) (by kernel_rfl) (by kernel_rfl) (by kernel_rfl))), ⟨0, [], rfl, rfl⟩⟩ ?_
          · rintro n_ _ _ c_ ⟨l57_m107, l57_m18, rfl, rfl⟩ h hn57
            (try dsimp only at h)
            unfold L_spec_crStep_l4 at h
            unfold m_spec_crStep_l4
            refine awp_seq_ ?_
            refine awp_region_ 3 (by kernel_rfl) ?_
            refine rs0 (.bool (decide (((l57_m107 : Nat) : Int) < ((y56.length : Nat) : Int)))) (by kernel_rfl) ?_
            refine rnil (tn_ ?_)
            refine awp_seq_ ?_
            rcases cond_some h with ⟨q60, h⟩ | ⟨q60, h⟩
            · have q60_ := of_decide_eq_true q60
              refine awp_condT_ q60 (by kernel_rfl) ?_
              refine awp_skip_ (tn_ ?_)
              refine awp_seq_ ?_
              refine awp_block_ ?_
              refine awp_seq_ ?_
              obtain ⟨x63, e63, h⟩ := ob_some h
              refine awp_region_ 6 (by kernel_rfl) ?_
              refine rs0 (.elt (3, 1) l57_m107 0) (s_idxO (t := .int) (o := (3, 1)) (len := y56.length) (k := .i64) (m := ((l57_m107 : Nat) : Int)) (by kernel_rfl) (by kernel_rfl) rfl (nat_nn _) rfl (getN_lt e63)) ?_
              refine rsl (.int .i64 x63) (s_ldE (i := (3, 1)) (j := l57_m107) (k := 0) (e := 3) (t := .int) (xs := y56) (by kernel_rfl) (by kernel_rfl) e63 (by kernel_rfl)) ?_
              refine rs0 (.int .i64 x63) (by kernel_rfl) ?_
              refine rnil (tn_ ?_)
              obtain ⟨x64, f64, h⟩ := ob_some h
              obtain ⟨p64, b64, e64⟩ := getI_some f64
              obtain ⟨x65, f65, h⟩ := ob_some h
              obtain ⟨p65, b65, e65⟩ := getI_some f65
              obtain ⟨g66, h⟩ := og_some h
              refine awp_region_ 19 (by kernel_rfl) ?_
              refine rs0 (.own (2, 1) .int 0 l57_m18.length) (by kernel_rfl) ?_
              refine rs0 (.own (1, 1) .int 0 l31_m10.length) (by kernel_rfl) ?_
              refine rs0 (.box (0, 1) 1) (by kernel_rfl) ?_
              refine rsl (.tree (.pair .int (.pair .int (.pair .int .int))) a1_1) (by kernel_rfl) ?_
              refine rs0 (.int .i64 x63) (by kernel_rfl) ?_
              refine rs0 (.telt (.pair .int (.pair .int (.pair .int .int))) x64 0) (s_idxT (t := (.pair .int (.pair .int (.pair .int .int)))) (xs := a1_1) (k := .i64) (m := x63) (by kernel_rfl) (by kernel_rfl) rfl p64 rfl e64) ?_
              refine rs0 (.telt (.pair .int (.pair .int (.pair .int .int))) x64 1) (by kernel_rfl) ?_
              refine rs0 (.int .i64 x64.2.1) (by kernel_rfl) ?_
              refine rs0 (.elt (1, 1) x64.2.1.toNat 0) (s_idxO (t := .int) (o := (1, 1)) (len := l31_m10.length) (k := .i64) (m := x64.2.1) (by kernel_rfl) (by kernel_rfl) rfl p65 rfl (getN_lt e65)) ?_
              refine rsl (.int .i64 x65) (s_ldE (i := (1, 1)) (j := x64.2.1.toNat) (k := 0) (e := 3) (t := .int) (xs := l31_m10) (by kernel_rfl) (by kernel_rfl) e65 (by kernel_rfl)) ?_
              refine rs1 (.own (121, 16) .int 0 1) (121, 16) (.arr 3 .int ([x65])) (by kernel_rfl) ?_
              refine rs2 (.own (2, 17) .int 0 ((l57_m18 ++ ([x65])).length)) (2, 1) (2, 17) (.arr 3 .int (l57_m18 ++ ([x65]))) (s_appO (t := .int) (t' := .int) (xs := l57_m18) (ys := [x65]) (zs := l57_m18 ++ ([x65])) (j := (2, 1)) (len := l57_m18.length) (c := (.own (121, 16) .int 0 1)) (by kernel_rfl) (by kernel_rfl) rfl (by kernel_rfl) (sr_own (e := 3) (by kernel_rfl) rfl) rfl g66) ?_
              refine rs0 (.own (2, 17) .int 0 ((l57_m18 ++ ([x65])).length)) (by kernel_rfl) ?_
              refine rnil (bn_ (tn_ ?_))
              obtain ⟨g67, h⟩ := og_some h
              refine awp_region_ 21 (by kernel_rfl) ?_
              refine rs0 (.int .i64 ((l57_m107 + 1 : Nat) : Int)) (s_add1 (j := l57_m107) (by kernel_rfl) (by kernel_rfl) g67) ?_
              refine rs0 (.int .i64 ((l57_m107 + 1 : Nat) : Int)) (by kernel_rfl) ?_
              refine rnil (tn_ ?_)
              obtain rfl := Option.some.inj h
              exact ⟨(l57_m107 + 1, l57_m18 ++ ([x65])), _, (weak_ren (renF [((2, 1), (2, 17))]) (by kernel_rfl) (by kernel_rfl) (by kernel_rfl)), ⟨l57_m107 + 1, l57_m18 ++ ([x65]), rfl, rfl⟩, hn57⟩
            · have q60_ := of_decide_eq_false q60
              refine awp_condF_ q60 (by kernel_rfl) ?_
              refine awp_exit_ (te_ (te_ (be_ (tn_ ?_))))
              obtain rfl := Option.some.inj h
              have h := hn57
              (try dsimp only at h)
              obtain rfl := Option.some.inj h
              exact ⟨_, (weak_ren (renF []) (by kernel_rfl) (by kernel_rfl) (by kernel_rfl)), rfl⟩
        · rintro l54_m18 _ rfl h
          (try dsimp only at h)
          refine awp_seq_ ?_
          obtain ⟨y69, h69, h⟩ := ob_some h
          refine awp_region_ 9 (by kernel_rfl) ?_
          refine rs0 (.own (2, 1) .int 0 l54_m18.length) (by kernel_rfl) ?_
          refine rs0 (.box (0, 1) 2) (by kernel_rfl) ?_
          refine rsl (.tree .int a1_2) (by kernel_rfl) ?_
          refine rs0 (.own (1, 1) .int 0 l31_m10.length) (by kernel_rfl) ?_
          refine rcall (.own (2048, 6) .int 0 y69.length) [((2048, 6), some (.arr 3 .int y69))] [(.tree .int a1_2), (.own (1, 1) .int 0 l31_m10.length)] _ (caps := []) (args0 := [(.tree .int a1_2), (.tree .int l31_m10)]) trivial (by kernel_rfl) (by kernel_rfl) (gm_cons (by kernel_rfl) (gm_cons (gd_own (e := 3) (by kernel_rfl) rfl) gm_nil)) (by kernel_rfl) (ok_spec_hgList h69) hb_spec_hgList (by kernel_rfl) ?_
          refine rs0 (.own (2, 1) .int 0 l54_m18.length) (by kernel_rfl) ?_
          refine rs0 (.own (2048, 6) .int 0 y69.length) (by kernel_rfl) ?_
          refine rnil (tn_ ?_)
          refine awp_ret_ ?_
          obtain rfl := Option.some.inj h
          exact ret_ [(.own (2, 1) .int 0 l54_m18.length), (.own (2048, 6) .int 0 y69.length)] (by simp) (by kernel_rfl) (p_one rfl (l_own (by kernel_rfl) rfl) (p_one rfl (l_own (by kernel_rfl) rfl) p_nil)) (by kernel_rfl) (by kernel_rfl)
def m_spec_StepCircuit : AC :=
  (.seq (.region [⟨(some 5), none, (.i (.box 31 (.tmp 1)))⟩, ⟨(some 8), none, (.i (.mov (.cst .nils)))⟩, ⟨(some 9), none, (.i (.mov (.cst .nils)))⟩, ⟨(some 10), none, (.i (.mov (.cst (.bool false))))⟩] false [])
  (.seq (.seq (.region [⟨(some 13), none, (.i (.mov (.tmp 0)))⟩, ⟨(some 14), none, (.i (.ld false 3 (.tmp 5)))⟩, ⟨(some 15), none, (.call (.cst (.fn 35 [])) [(.tmp 13), (.tmp 14)] [[], [none, (some (.pair .int (.pair .int (.pair .int .int)))), (some .int)]])⟩, ⟨(some 16), none, (.i (.not (.tmp 15)))⟩, ⟨(some 17), none, (.i (.mov (.tmp 16)))⟩, ⟨(some 18), (some (17, false)), (.i (.mov (.tmp 2)))⟩, ⟨(some 19), (some (17, false)), (.i (.len (.tmp 18)))⟩, ⟨(some 20), (some (17, false)), (.i (.ld false 3 (.tmp 5)))⟩, ⟨(some 21), (some (17, false)), (.call (.cst (.fn 58 [])) [(.tmp 20)] [[none, (some (.pair .int (.pair .int (.pair .int .int)))), (some .int)]])⟩, ⟨(some 22), (some (17, false)), (.i (.len (.tmp 21)))⟩, ⟨(some 23), (some (17, false)), (.i (.bin .neq (.tmp 19) (.tmp 22)))⟩, ⟨(some 24), none, (.i (.pick (.tmp 17) (.cst (.bool true)) (.tmp 23)))⟩, ⟨(some 25), none, (.i (.mov (.tmp 24)))⟩, ⟨(some 26), (some (25, false)), (.i (.mov (.tmp 3)))⟩, ⟨(some 27), (some (25, false)), (.i (.len (.tmp 26)))⟩, ⟨(some 28), (some (25, false)), (.i (.fld 0 (.tmp 5)))⟩, ⟨(some 29), (some (25, false)), (.i (.ld true 1 (.tmp 28)))⟩, ⟨(some 30), (some (25, false)), (.i (.bin .neq (.tmp 27) (.tmp 29)))⟩, ⟨(some 31), none, (.i (.pick (.tmp 25) (.cst (.bool true)) (.tmp 30)))⟩, ⟨(some 32), none, (.i (.mov (.tmp 31)))⟩, ⟨(some 33), (some (32, false)), (.i (.mov (.tmp 0)))⟩, ⟨(some 34), (some (32, false)), (.i (.mov (.tmp 2)))⟩, ⟨(some 35), (some (32, false)), (.call (.cst (.fn 59 [])) [(.tmp 33), (.tmp 34)] [[], [(some .int)]])⟩, ⟨(some 36), (some (32, false)), (.i (.not (.tmp 35)))⟩, ⟨(some 37), none, (.i (.pick (.tmp 32) (.cst (.bool true)) (.tmp 36)))⟩, ⟨(some 38), none, (.i (.mov (.tmp 37)))⟩, ⟨(some 39), (some (38, false)), (.i (.mov (.tmp 0)))⟩, ⟨(some 40), (some (38, false)), (.i (.mov (.tmp 3)))⟩, ⟨(some 41), (some (38, false)), (.call (.cst (.fn 59 [])) [(.tmp 39), (.tmp 40)] [[], [(some .int)]])⟩, ⟨(some 42), (some (38, false)), (.i (.not (.tmp 41)))⟩, ⟨(some 43), none, (.i (.pick (.tmp 38) (.cst (.bool true)) (.tmp 42)))⟩] false [])
  (.cond (.tmp 43)
    (.seq (.region [⟨(some 8), none, (.i (.mov (.cst .nils)))⟩, ⟨(some 9), none, (.i (.mov (.cst .nils)))⟩, ⟨(some 10), none, (.i (.mov (.cst (.bool false))))⟩] false [])
    .ret)
    .skip))
  (.seq (.region [⟨(some 45), none, (.i (.mov (.tmp 0)))⟩, ⟨(some 46), none, (.i (.ld false 3 (.tmp 5)))⟩, ⟨(some 47), none, (.i (.mov (.tmp 2)))⟩, ⟨(some 48), none, (.i (.mov (.tmp 3)))⟩, ⟨(some 49), none, (.call (.cst (.fn 60 [])) [(.tmp 45), (.tmp 46), (.tmp 47), (.tmp 48)] [[], [none, (some (.pair .int (.pair .int (.pair .int .int)))), (some .int)], [(some .int)], [(some .int)]])⟩, ⟨(some 44), none, (.i (.mov (.tmp 49)))⟩, ⟨(some 50), none, (.i (.extr 0 (.tmp 44)))⟩, ⟨(some 51), none, (.i (.extr 1 (.tmp 44)))⟩, ⟨(some 11), none, (.i (.mov (.tmp 50)))⟩, ⟨(some 12), none, (.i (.mov (.tmp 51)))⟩] false [])
  (.seq (.region [⟨(some 52), none, (.i (.mov (.tmp 11)))⟩, ⟨(some 53), none, (.i (.mov (.tmp 12)))⟩, ⟨(some 8), none, (.i (.mov (.tmp 52)))⟩, ⟨(some 9), none, (.i (.mov (.tmp 53)))⟩, ⟨(some 10), none, (.i (.mov (.cst (.bool true))))⟩] false [])
  .ret))))
def r_spec_StepCircuit : List Res := [.tmp 8, .tmp 9, .tmp 10]
theorem c_spec_StepCircuit : compiled Tryd.prog Tryd.f26 = some (m_spec_StepCircuit, r_spec_StepCircuit) := by kernel_rfl
theorem hb_spec_StepCircuit : hasBody Tryd.prog 26 = true := by kernel_rfl
def L_spec_StepCircuit (a0 : Int) (a1_0 : Int) (a1_1 : List (Int × Int × Int × Int)) (a1_2 : List Int) (a2 : List Int) (a3 : List Int) : Option (List Int × List Int × Bool) :=
  Option.bind (Option.bind (L_spec_crGood a0 a1_0 a1_1 a1_2) fun y4 =>
  cond (!y4)
    (some true)
    (Option.bind (L_spec_crDelays a1_0 a1_1 a1_2) fun y6 =>
    cond (((a2.length : Nat) : Int) != ((y6.length : Nat) : Int))
      (some true)
      (cond (((a3.length : Nat) : Int) != a1_0)
        (some true)
        (Option.bind (L_spec_fdIn a0 a2) fun y9 =>
        cond (!y9)
          (some true)
          (Option.bind (L_spec_fdIn a0 a3) fun y11 =>
          some (!y11)))))) fun l3_m43 =>
cond l3_m43
  (some ([], [], false))
  (Option.bind (L_spec_crStep a0 a1_0 a1_1 a1_2 a2 a3) fun y15 =>
  some (y15.1, y15.2, true))
def rv_spec_StepCircuit (r : List Int × List Int × Bool) : RV := ⟨true, [(false, [.new 3 .int r.1]), (false, [.new 3 .int r.2.1]), (false, [.sc (.bool r.2.2)])]⟩
theorem ok_spec_StepCircuit {a0 : Int} {a1_0 : Int} {a1_1 : List (Int × Int × Int × Int)} {a1_2 : List Int} {a2 : List Int} {a3 : List Int} {r : List Int × List Int × Bool} (h : L_spec_StepCircuit a0 a1_0 a1_1 a1_2 a2 a3 = some r) : CallOK Tryd.prog Tab 26 [(.int .i64 a0), (.agg [(.int .i64 a1_0), (.tree (.pair .int (.pair .int (.pair .int .int))) a1_1), (.tree .int a1_2)]), (.tree .int a2), (.tree .int a3)] (rv_spec_StepCircuit r) := by
  refine call_of_ (by kernel_rfl) Tryd.func26 c_spec_StepCircuit (n := 54) (by kernel_rfl) (by simp) (tl := [(0, (.int .i64 a0)), (1, (.agg [(.int .i64 a1_0), (.tree (.pair .int (.pair .int (.pair .int .int))) a1_1), (.tree .int a1_2)])), (2, (.tree .int a2)), (3, (.tree .int a3))]) rfl ?_
  unfold m_spec_StepCircuit
  unfold L_spec_StepCircuit at h
  refine awp_seq_ ?_
  refine awp_region_ 5 (by kernel_rfl) ?_
  refine rs1 (.box (5, 1) 0) (5, 1) (.cells 31 [(.int .i64 a1_0), (.tree (.pair .int (.pair .int (.pair .int .int))) a1_1), (.tree .int a1_2)]) (by kernel_rfl) ?_
  refine rs0 .nils (by kernel_rfl) ?_
  refine rs0 .nils (by kernel_rfl) ?_
  refine rs0 (.bool false) (by kernel_rfl) ?_
  refine rnil (tn_ ?_)
  refine awp_seq_ ?_
  refine awp_seqB h (fun (l3_m43 : Bool) S_ => S_ = ⟨mkTm [(0, (.int .i64 a0)), (2, (.tree .int a2)), (3, (.tree .int a3)), (5, (.box (0, 1) 0)), (43, (.bool l3_m43))], mkOb (someL [((0, 1), .cells 31 [(.int .i64 a1_0), (.tree (.pair .int (.pair .int (.pair .int .int))) a1_1), (.tree .int a1_2)])]), 2⟩) ?_ ?_
  · intro v_ h
    obtain ⟨y4, h4, h⟩ := ob_some h
    rcases cond_some h with ⟨q5, h⟩ | ⟨q5, h⟩
    · refine awp_region_ 36 (by kernel_rfl) ?_
      refine rs0 (.int .i64 a0) (by kernel_rfl) ?_
      refine rsl (.agg [(.int .i64 a1_0), (.tree (.pair .int (.pair .int (.pair .int .int))) a1_1), (.tree .int a1_2)]) (by kernel_rfl) ?_
      refine rcall (.bool y4) [] [(.int .i64 a0), (.agg [(.int .i64 a1_0), (.tree (.pair .int (.pair .int (.pair .int .int))) a1_1), (.tree .int a1_2)])] _ (caps := []) (args0 := [(.int .i64 a0), (.agg [(.int .i64 a1_0), (.tree (.pair .int (.pair .int (.pair .int .int))) a1_1), (.tree .int a1_2)])]) trivial (by kernel_rfl) (by kernel_rfl) (by kernel_rfl) (by kernel_rfl) (ok_spec_crGood h4) hb_spec_crGood (by kernel_rfl) ?_
      refine rs0 (.bool (!y4)) (by kernel_rfl) ?_
      refine rs0 (.bool (!y4)) (by kernel_rfl) ?_
      refine rs0 (.tup []) (s_skip (by kernel_rfl) q5) ?_
      refine rs0 (.tup []) (s_skip (by kernel_rfl) q5) ?_
      refine rs0 (.tup []) (s_skip (by kernel_rfl) q5) ?_
      refine rs0 (.tup []) (s_skip (by kernel_rfl) q5) ?_
      refine rs0 (.tup []) (s_skip (by kernel_rfl) q5) ?_
      refine rs0 (.tup []) (s_skip (by kernel_rfl) q5) ?_
      refine rs0 (.bool true) (s_pickT (by kernel_rfl) q5) ?_
      refine rs0 (.bool true) (by kernel_rfl) ?_
      refine rs0 (.tup []) (by kernel_rfl) ?_
      refine rs0 (.tup []) (by kernel_rfl) ?_
      refine rs0 (.tup []) (by kernel_rfl) ?_
      refine rs0 (.tup []) (by kernel_rfl) ?_
      refine rs0 (.tup []) (by kernel_rfl) ?_
      refine rs0 (.bool true) (by kernel_rfl) ?_
      refine rs0 (.bool true) (by kernel_rfl) ?_
      refine rs0 (.tup []) (by kernel_rfl) ?_
      refine rs0 (.tup []) (by kernel_rfl) ?_
      refine rs0 (.tup []) (by kernel_rfl) ?_
      refine rs0 (.tup []) (by kernel_rfl) ?_
      refine rs0 (.bool true) (by kernel_rfl) ?_
      refine rs0 (.bool true) (by kernel_rfl) ?_
      refine rs0 (.tup []) (by kernel_rfl) ?_
      refine rs0 (.tup []) (by kernel_rfl) ?_
      refine rs0 (.tup []) (by kernel_rfl) ?_
      refine rs0 (.tup []) (by kernel_rfl) ?_
      refine rs0 (.bool true) (by kernel_rfl) ?_
      refine rnil (tn_ ?_)
      obtain rfl := Option.some.inj h
      exact ⟨_, (weak_ren (renF [((0, 1), (5, 1))]) (by kernel_rfl) (by kernel_rfl) (by kernel_rfl)), rfl⟩
    · obtain ⟨y6, h6, h⟩ := ob_some h
      rcases cond_some h with ⟨q7, h⟩ | ⟨q7, h⟩
      · refine awp_region_ 36 (by kernel_rfl) ?_
        refine rs0 (.int .i64 a0) (by kernel_rfl) ?_
        refine rsl (.agg [(.int .i64 a1_0), (.tree (.pair .int (.pair .int (.pair .int .int))) a1_1), (.tree .int a1_2)]) (by kernel_rfl) ?_
        refine rcall (.bool y4) [] [(.int .i64 a0), (.agg [(.int .i64 a1_0), (.tree (.pair .int (.pair .int (.pair .int .int))) a1_1), (.tree .int a1_2)])] _ (caps := []) (args0 := [(.int .i64 a0), (.agg [(.int .i64 a1_0), (.tree (.pair .int (.pair .int (.pair .int .int))) a1_1), (.tree .int a1_2)])]) trivial (by kernel_rfl) (by kernel_rfl) (by kernel_rfl) (by kernel_rfl) (ok_spec_crGood h4) hb_spec_crGood (by kernel_rfl) ?_
        refine rs0 (.bool (!y4)) (by kernel_rfl) ?_
        refine rs0 (.bool (!y4)) (by kernel_rfl) ?_
        refine rs0 (.tree .int a2) (s_gd (by kernel_rfl) q5 (by kernel_rfl)) ?_
        refine rs0 (.int .i64 ((a2.length : Nat) : Int)) (s_gd (by kernel_rfl) q5 (by kernel_rfl)) ?_
        refine rsl (.agg [(.int .i64 a1_0), (.tree (.pair .int (.pair .int (.pair .int .int))) a1_1), (.tree .int a1_2)]) (s_gd (by kernel_rfl) q5 (by kernel_rfl)) ?_
        refine rcall (.own (336, 13) .int 0 y6.length) [((336, 13), some (.arr 3 .int y6))] [(.agg [(.int .i64 a1_0), (.tree (.pair .int (.pair .int (.pair .int .int))) a1_1), (.tree .int a1_2)])] _ (caps := []) (args0 := [(.agg [(.int .i64 a1_0), (.tree (.pair .int (.pair .int (.pair .int .int))) a1_1), (.tree .int a1_2)])]) (gdOK_b (by kernel_rfl) q5) (by kernel_rfl) (by kernel_rfl) (by kernel_rfl) (by kernel_rfl) (ok_spec_crDelays h6) hb_spec_crDelays (by kernel_rfl) ?_
        refine rs0 (.int .i64 ((y6.length : Nat) : Int)) (s_gd (by kernel_rfl) q5 (by kernel_rfl)) ?_
        refine rs0 (.bool (((a2.length : Nat) : Int) != ((y6.length : Nat) : Int))) (s_gd (by kernel_rfl) q5 (by kernel_rfl)) ?_
        refine rs0 (.bool (((a2.length : Nat) : Int) != ((y6.length : Nat) : Int))) (s_pickF (by kernel_rfl) q5) ?_
        refine rs0 (.bool (((a2.length : Nat) : Int) != ((y6.length : Nat) : Int))) (by kernel_rfl) ?_
        refine rs0 (.tup []) (s_skip (by kernel_rfl) q7) ?_
        refine rs0 (.tup []) (s_skip (by kernel_rfl) q7) ?_
        refine rs0 (.tup []) (s_skip (by kernel_rfl) q7) ?_
        refine rs0 (.tup []) (s_skip (by kernel_rfl) q7) ?_
        refine rs0 (.tup []) (s_skip (by kernel_rfl) q7) ?_
        refine rs0 (.bool true) (s_pickT (by kernel_rfl) q7) ?_
        refine rs0 (.bool true) (by kernel_rfl) ?_
        refine rs0 (.tup []) (by kernel_rfl) ?_
        refine rs0 (.tup []) (by kernel_rfl) ?_
        refine rs0 (.tup []) (by kernel_rfl) ?_
        refine rs0 (.tup []) (by kernel_rfl) ?_
        refine rs0 (.bool true) (by kernel_rfl) ?_
        refine rs0 (.bool true) (by kernel_rfl) ?_
        refine rs0 (.tup []) (by kernel_rfl) ?_
        refine rs0 (.tup []) (by kernel_rfl) ?_
        refine rs0 (.tup []) (by kernel_rfl) ?_
        refine rs0 (.tup []) (by kernel_rfl) ?_
        refine rs0 (.bool true) (by kernel_rfl) ?_
        refine rnil (tn_ ?_)
        obtain rfl := Option.some.inj h
        exact ⟨_, (weak_ren (renF [((0, 1), (5, 1))]) (by kernel_rfl) (by kernel_rfl) (by kernel_rfl)), rfl⟩
      · rcases cond_some h with ⟨q8, h⟩ | ⟨q8, h⟩
        · refine awp_region_ 36 (by kernel_rfl) ?_
          refine rs0 (.int .i64 a0) (by kernel_rfl) ?_
          refine rsl (.agg [(.int .i64 a1_0), (.tree (.pair .int (.pair .int (.pair .int .int))) a1_1), (.tree .int a1_2)]) (by kernel_rfl) ?_
          refine rcall (.bool y4) [] [(.int .i64 a0), (.agg [(.int .i64 a1_0), (.tree (.pair .int (.pair .int (.pair .int .int))) a1_1), (.tree .int a1_2)])] _ (caps := []) (args0 := [(.int .i64 a0), (.agg [(.int .i64 a1_0), (.tree (.pair .int (.pair .int (.pair .int .int))) a1_1), (.tree .int a1_2)])]) trivial (by kernel_rfl) (by kernel_rfl) (by kernel_rfl) (by kernel_rfl) (ok_spec_crGood h4) hb_spec_crGood (by kernel_rfl) ?_
          refine rs0 (.bool (!y4)) (by kernel_rfl) ?_
          refine rs0 (.bool (!y4)) (by kernel_rfl) ?_
          refine rs0 (.tree .int a2) (s_gd (by kernel_rfl) q5 (by kernel_rfl)) ?_
          refine rs0 (.int .i64 ((a2.length : Nat) : Int)) (s_gd (by kernel_rfl) q5 (by kernel_rfl)) ?_
          refine rsl (.agg [(.int .i64 a1_0), (.tree (.pair .int (.pair .int (.pair .int .int))) a1_1), (.tree .int a1_2)]) (s_gd (by kernel_rfl) q5 (by kernel_rfl)) ?_
          refine rcall (.own (336, 13) .int 0 y6.length) [((336, 13), some (.arr 3 .int y6))] [(.agg [(.int .i64 a1_0), (.tree (.pair .int (.pair .int (.pair .int .int))) a1_1), (.tree .int a1_2)])] _ (caps := []) (args0 := [(.agg [(.int .i64 a1_0), (.tree (.pair .int (.pair .int (.pair .int .int))) a1_1), (.tree .int a1_2)])]) (gdOK_b (by kernel_rfl) q5) (by kernel_rfl) (by kernel_rfl) (by kernel_rfl) (by kernel_rfl) (ok_spec_crDelays h6) hb_spec_crDelays (by kernel_rfl) ?_
          refine rs0 (.int .i64 ((y6.length : Nat) : Int)) (s_gd (by kernel_rfl) q5 (by kernel_rfl)) ?_
          refine rs0 (.bool (((a2.length : Nat) : Int) != ((y6.length : Nat) : Int))) (s_gd (by kernel_rfl) q5 (by kernel_rfl)) ?_
          refine rs0 (.bool (((a2.length : Nat) : Int) != ((y6.length : Nat) : Int))) (s_pickF (by kernel_rfl) q5) ?_
          refine rs0 (.bool (((a2.length : Nat) : Int) != ((y6.length : Nat) : Int))) (by kernel_rfl) ?_
          refine rs0 (.tree .int a3) (s_gd (by kernel_rfl) q7 (by kernel_rfl)) ?_
          refine rs0 (.int .i64 ((a3.length : Nat) : Int)) (s_gd (by kernel_rfl) q7 (by kernel_rfl)) ?_
          refine rs0 (.box (5, 1) 0) (s_gd (by kernel_rfl) q7 (by kernel_rfl)) ?_
          refine rsl (.int .i64 a1_0) (s_gd (by kernel_rfl) q7 (by kernel_rfl)) ?_
          refine rs0 (.bool (((a3.length : Nat) : Int) != a1_0)) (s_gd (by kernel_rfl) q7 (by kernel_rfl)) ?_
          refine rs0 (.bool (((a3.length : Nat) : Int) != a1_0)) (s_pickF (by kernel_rfl) q7) ?_
          refine rs0 (.bool (((a3.length : Nat) : Int) != a1_0)) (by kernel_rfl) ?_
          refine rs0 (.tup []) (s_skip (by kernel_rfl) q8) ?_
          refine rs0 (.tup []) (s_skip (by kernel_rfl) q8) ?_
          refine rs0 (.tup []) (s_skip (by kernel_rfl) q8) ?_
          refine rs0 (.tup []) (s_skip (by kernel_rfl) q8) ?_
          refine rs0 (.bool true) (s_pickT (by kernel_rfl) q8) ?_
          refine rs0 (.bool true) (by kernel_rfl) ?_
          refine rs0 (.tup []) (by kernel_rfl) ?_
          refine rs0 (.tup []) (by kernel_rfl) ?_
          refine rs0 (.tup []) (by kernel_rfl) ?_
          refine rs0 (.tup []) (by kernel_rfl) ?_
          refine rs0 (.bool true) (by kernel_rfl) ?_
          refine rnil (tn_ ?_)
          obtain rfl := Option.some.inj h
          exact ⟨_, (weak_ren (renF [((0, 1), (5, 1))]) (by kernel_rfl) (by kernel_rfl) (by kernel_rfl)), rfl⟩
        · obtain ⟨y9, h9, h⟩ := ob_some h
          rcases cond_some h with ⟨q10, h⟩ | ⟨q10, h⟩
          · refine awp_region_ 36 (by kernel_rfl) ?_
            refine rs0 (.int .i64 a0) (by kernel_rfl) ?_
            refine rsl (.agg [(.int .i64 a1_0), (.tree (.pair .int (.pair .int (.pair .int .int))) a1_1), (.tree .int a1_2)]) (by kernel_rfl) ?_
            refine rcall (.bool y4) [] [(.int .i64 a0), (.agg [(.int .i64 a1_0), (.tree (.pair .int (.pair .int (.pair .int .int))) a1_1), (.tree .int a1_2)])] _ (caps := []) (args0 := [(.int .i64 a0), (.agg [(.int .i64 a1_0), (.tree (.pair .int (.pair .int (.pair .int .int))) a1_1), (.tree .int a1_2)])]) trivial (by kernel_rfl) (by kernel_rfl) (by kernel_rfl) (by kernel_rfl) (ok_spec_crGood h4) hb_spec_crGood (by kernel_rfl) ?_
            refine rs0 (.bool (!y4)) (by kernel_rfl) ?_
            refine rs0 (.bool (!y4)) (by kernel_rfl) ?_
            refine rs0 (.tree .int a2) (s_gd (by kernel_rfl) q5 (by kernel_rfl)) ?_
            refine rs0 (.int .i64 ((a2.length : Nat) : Int)) (s_gd (by kernel_rfl) q5 (by kernel_rfl)) ?_
            refine rsl (.agg [(.int .i64 a1_0), (.tree (.pair .int (.pair .int (.pair .int .int))) a1_1), (.tree .int a1_2)]) (s_gd (by kernel_rfl) q5 (by kernel_rfl)) ?_
            refine rcall (.own (336, 13) .int 0 y6.length) [((336, 13), some (.arr 3 .int y6))] [(.agg [(.int .i64 a1_0), (.tree (.pair .int (.pair .int (.pair .int .int))) a1_1), (.tree .int a1_2)])] _ (caps := []) (args0 := [(.agg [(.int .i64 a1_0), (.tree (.pair .int (.pair .int (.pair .int .int))) a1_1), (.tree .int a1_2)])]) (gdOK_b (by kernel_rfl) q5) (by kernel_rfl) (by kernel_rfl) (by kernel_rfl) (by kernel_rfl) (ok_spec_crDelays h6) hb_spec_crDelays (by kernel_rfl) ?_
            refine rs0 (.int .i64 ((y6.length : Nat) : Int)) (s_gd (by kernel_rfl) q5 (by kernel_rfl)) ?_
            refine rs0 (.bool (((a2.length : Nat) : Int) != ((y6.length : Nat) : Int))) (s_gd (by kernel_rfl) q5 (by kernel_rfl)) ?_
            refine rs0 (.bool (((a2.length : Nat) : Int) != ((y6.length : Nat) : Int))) (s_pickF (by kernel_rfl) q5) ?_
            refine rs0 (.bool (((a2.length : Nat) : Int) != ((y6.length : Nat) : Int))) (by kernel_rfl) ?_
            refine rs0 (.tree .int a3) (s_gd (by kernel_rfl) q7 (by kernel_rfl)) ?_
            refine rs0 (.int .i64 ((a3.length : Nat) : Int)) (s_gd (by kernel_rfl) q7 (by kernel_rfl)) ?_
            refine rs0 (.box (5, 1) 0) (s_gd (by kernel_rfl) q7 (by kernel_rfl)) ?_
            refine rsl (.int .i64 a1_0) (s_gd (by kernel_rfl) q7 (by kernel_rfl)) ?_
            refine rs0 (.bool (((a3.length : Nat) : Int) != a1_0)) (s_gd (by kernel_rfl) q7 (by kernel_rfl)) ?_
            refine rs0 (.bool (((a3.length : Nat) : Int) != a1_0)) (s_pickF (by kernel_rfl) q7) ?_
            refine rs0 (.bool (((a3.length : Nat) : Int) != a1_0)) (by kernel_rfl) ?_
            refine rs0 (.int .i64 a0) (s_gd (by kernel_rfl) q8 (by kernel_rfl)) ?_
            refine rs0 (.tree .int a2) (s_gd (by kernel_rfl) q8 (by kernel_rfl)) ?_
            refine rcall (.bool y9) [] [(.int .i64 a0), (.tree .int a2)] _ (caps := []) (args0 := [(.int .i64 a0), (.tree .int a2)]) (gdOK_b (by kernel_rfl) q8) (by kernel_rfl) (by kernel_rfl) (by kernel_rfl) (by kernel_rfl) (ok_spec_fdIn h9) hb_spec_fdIn (by kernel_rfl) ?_
            refine rs0 (.bool (!y9)) (s_gd (by kernel_rfl) q8 (by kernel_rfl)) ?_
            refine rs0 (.bool (!y9)) (s_pickF (by kernel_rfl) q8) ?_
            refine rs0 (.bool (!y9)) (by kernel_rfl) ?_
            refine rs0 (.tup []) (s_skip (by kernel_rfl) q10) ?_
            refine rs0 (.tup []) (s_skip (by kernel_rfl) q10) ?_
            refine rs0 (.tup []) (s_skip (by kernel_rfl) q10) ?_
            refine rs0 (.tup []) (s_skip (by kernel_rfl) q10) ?_
            refine rs0 (.bool true) (s_pickT (by kernel_rfl) q10) ?_
            refine rnil (tn_ ?_)
            obtain rfl := Option.some.inj h
            exact ⟨_, (weak_ren (renF [((0, 1), (5, 1))]) (by kernel_rfl) (by kernel_rfl) (by kernel_rfl)), rfl⟩
          · obtain ⟨y11, h11, h⟩ := ob_some h
            refine awp_region_ 36 (by kernel_rfl) ?_
            refine rs0 (.int .i64 a0) (by kernel_rfl) ?_
            refine rsl (.agg [(.int .i64 a1_0), (.tree (.pair .int (.pair .int (.pair .int .int))) a1_1), (.tree .int a1_2)]) (by kernel_rfl) ?_
            refine rcall (.bool y4) [] [(.int .i64 a0), (.agg [(.int .i64 a1_0), (.tree (.pair .int (.pair .int (.pair .int .int))) a1_1), (.tree .int a1_2)])] _ (caps := []) (args0 := [(.int .i64 a0), (.agg [(.int .i64 a1_0), (.tree (.pair .int (.pair .int (.pair .int .int))) a1_1), (.tree .int a1_2)])]) trivial (by kernel_rfl) (by kernel_rfl) (by kernel_rfl) (by kernel_rfl) (ok_spec_crGood h4) hb_spec_crGood (by kernel_rfl) ?_
            refine rs0 (.bool (!y4)) (by kernel_rfl) ?_
            refine rs0 (.bool (!y4)) (by kernel_rfl) ?_
            refine rs0 (.tree .int a2) (s_gd (by kernel_rfl) q5 (by kernel_rfl)) ?_
            refine rs0 (.int .i64 ((a2.length : Nat) : Int)) (s_gd (by kernel_rfl) q5 (by kernel_rfl)) ?_
            refine rsl (.agg [(.int .i64 a1_0), (.tree (.pair .int (.pair .int (.pair .int .int))) a1_1), (.tree .int a1_2)]) (s_gd (by kernel_rfl) q5 (by kernel_rfl)) ?_
            refine rcall (.own (336, 13) .int 0 y6.length) [((336, 13), some (.arr 3 .int y6))] [(.agg [(.int .i64 a1_0), (.tree (.pair .int (.pair .int (.pair .int .int))) a1_1), (.tree .int a1_2)])] _ (caps := []) (args0 := [(.agg [(.int .i64 a1_0), (.tree (.pair .int (.pair .int (.pair .int .int))) a1_1), (.tree .int a1_2)])]) (gdOK_b (by kernel_rfl) q5) (by kernel_rfl) (by kernel_rfl) (by kernel_rfl) (by kernel_rfl) (ok_spec_crDelays h6) hb_spec_crDelays (by kernel_rfl) ?_
            refine rs0 (.int .i64 ((y6.length : Nat) : Int)) (s_gd (by kernel_rfl) q5 (by kernel_rfl)) ?_
            refine rs0 (.bool (((a2.length : Nat) : Int) != ((y6.length : Nat) : Int))) (s_gd (by kernel_rfl) q5 (by kernel_rfl)) ?_
            refine rs0 (.bool (((a2.length : Nat) : Int) != ((y6.length : Nat) : Int))) (s_pickF (by kernel_rfl) q5) ?_
            refine rs0 (.bool (((a2.length : Nat) : Int) != ((y6.length : Nat) : Int))) (by kernel_rfl) ?_
            refine rs0 (.tree .int a3) (s_gd (by kernel_rfl) q7 (by kernel_rfl)) ?_
            refine rs0 (.int .i64 ((a3.length : Nat) : Int)) (s_gd (by kernel_rfl) q7 (by kernel_rfl)) ?_
            refine rs0 (.box (5, 1) 0) (s_gd (by kernel_rfl) q7 (by kernel_rfl)) ?_
            refine rsl (.int .i64 a1_0) (s_gd (by kernel_rfl) q7 (by kernel_rfl)) ?_
            refine rs0 (.bool (((a3.length : Nat) : Int) != a1_0)) (s_gd (by kernel_rfl) q7 (by kernel_rfl)) ?_
            refine rs0 (.bool (((a3.length : Nat) : Int) != a1_0)) (s_pickF (by kernel_rfl) q7) ?_
            refine rs0 (.bool (((a3.length : Nat) : Int) != a1_0)) (by kernel_rfl) ?_
            refine rs0 (.int .i64 a0) (s_gd (by kernel_rfl) q8 (by kernel_rfl)) ?_
            refine rs0 (.tree .int a2) (s_gd (by kernel_rfl) q8 (by kernel_rfl)) ?_
            refine rcall (.bool y9) [] [(.int .i64 a0), (.tree .int a2)] _ (caps := []) (args0 := [(.int .i64 a0), (.tree .int a2)]) (gdOK_b (by kernel_rfl) q8) (by kernel_rfl) (by kernel_rfl) (by kernel_rfl) (by kernel_rfl) (ok_spec_fdIn h9) hb_spec_fdIn (by kernel_rfl) ?_
            refine rs0 (.bool (!y9)) (s_gd (by kernel_rfl) q8 (by kernel_rfl)) ?_
            refine rs0 (.bool (!y9)) (s_pickF (by kernel_rfl) q8) ?_
            refine rs0 (.bool (!y9)) (by kernel_rfl) ?_
            refine rs0 (.int .i64 a0) (s_gd (by kernel_rfl) q10 (by kernel_rfl)) ?_
            refine rs0 (.tree .int a3) (s_gd (by kernel_rfl) q10 (by kernel_rfl)) ?_
            refine rcall (.bool y11) [] [(.int .i64 a0), (.tree .int a3)] _ (caps := []) (args0 := [(.int .i64 a0), (.tree .int a3)]) (gdOK_b (by kernel_rfl) q10) (by kernel_rfl) (by kernel_rfl) (by kernel_rfl) (by kernel_rfl) (ok_spec_fdIn h11) hb_spec_fdIn (by kernel_rfl) ?_
            refine rs0 (.bool (!y11)) (s_gd (by kernel_rfl) q10 (by kernel_rfl)) ?_
            refine rs0 (.bool (!y11)) (s_pickF (by kernel_rfl) q10) ?_
            refine rnil (tn_ ?_)
            obtain rfl := Option.some.inj h
            exact ⟨_, (weak_ren (renF [((0, 1), (5, 1))]) (by kernel_rfl) (by kernel_rfl) (by kernel_rfl)), rfl⟩
  · rintro l3_m43 _ rfl h
    (try dsimp only at h)
    rcases cond_some h with ⟨q12, h⟩ | ⟨q12, h⟩
    · refine awp_condT_ q12 (by kernel_rfl) ?_
      refine awp_seq_ ?_
      refine awp_region_ 5 (by kernel_rfl) ?_
      refine rs0 .nils (by kernel_rfl) ?_
      refine rs0 .nils (by kernel_rfl) ?_
      refine rs0 (.bool false) (by kernel_rfl) ?_
      refine rnil (tn_ ?_)
      refine awp_ret_ (tr_ ?_)
      obtain rfl := Option.some.inj h
      exact ret_ [.nils, .nils, (.bool false)] (by simp) (by kernel_rfl) (p_one rfl (l_nils rfl) (p_one rfl (l_nils rfl) (p_one rfl (l_sc (by kernel_rfl)) p_nil))) (by kernel_rfl) (by kernel_rfl)
    · refine awp_condF_ q12 (by kernel_rfl) ?_
      refine awp_skip_ (tn_ ?_)
      refine awp_seq_ ?_
      obtain ⟨y15, h15, h⟩ := ob_some h
      refine awp_region_ 12 (by kernel_rfl) ?_
      refine rs0 (.int .i64 a0) (by kernel_rfl) ?_
      refine rsl (.agg [(.int .i64 a1_0), (.tree (.pair .int (.pair .int (.pair .int .int))) a1_1), (.tree .int a1_2)]) (by kernel_rfl) ?_
      refine rs0 (.tree .int a2) (by kernel_rfl) ?_
      refine rs0 (.tree .int a3) (by kernel_rfl) ?_
      refine rcall (.tup [(.own (784, 6) .int 0 y15.1.length), (.own (785, 6) .int 0 y15.2.length)]) [((784, 6), some (.arr 3 .int y15.1)), ((785, 6), some (.arr 3 .int y15.2))] [(.int .i64 a0), (.agg [(.int .i64 a1_0), (.tree (.pair .int (.pair .int (.pair .int .int))) a1_1), (.tree .int a1_2)]), (.tree .int a2), (.tree .int a3)] _ (caps := []) (args0 := [(.int .i64 a0), (.agg [(.int .i64 a1_0), (.tree (.pair .int (.pair .int (.pair .int .int))) a1_1), (.tree .int a1_2)]), (.tree .int a2), (.tree .int a3)]) trivial (by kernel_rfl) (by kernel_rfl) (by kernel_rfl) (by kernel_rfl) (ok_spec_crStep h15) hb_spec_crStep (by kernel_rfl) ?_
      refine rs0 (.tup [(.own (784, 6) .int 0 y15.1.length), (.own (785, 6) .int 0 y15.2.length)]) (by kernel_rfl) ?_
      refine rs0 (.own (784, 6) .int 0 y15.1.length) (by kernel_rfl) ?_
      refine rs0 (.own (785, 6) .int 0 y15.2.length) (by kernel_rfl) ?_
      refine rs0 (.own (784, 6) .int 0 y15.1.length) (by kernel_rfl) ?_
      refine rs0 (.own (785, 6) .int 0 y15.2.length) (by kernel_rfl) ?_
      refine rnil (tn_ ?_)
      refine awp_seq_ ?_
      refine awp_region_ 17 (by kernel_rfl) ?_
      refine rs0 (.own (784, 6) .int 0 y15.1.length) (by kernel_rfl) ?_
      refine rs0 (.own (785, 6) .int 0 y15.2.length) (by kernel_rfl) ?_
      refine rs0 (.own (784, 6) .int 0 y15.1.length) (by kernel_rfl) ?_
      refine rs0 (.own (785, 6) .int 0 y15.2.length) (by kernel_rfl) ?_
      refine rs0 (.bool true) (by kernel_rfl) ?_
      refine rnil (tn_ ?_)
      refine awp_ret_ ?_
      obtain rfl := Option.some.inj h
      exact ret_ [(.own (784, 6) .int 0 y15.1.length), (.own (785, 6) .int 0 y15.2.length), (.bool true)] (by simp) (by kernel_rfl) (p_one rfl (l_own (by kernel_rfl) rfl) (p_one rfl (l_own (by kernel_rfl) rfl) (p_one rfl (l_sc (by kernel_rfl)) p_nil))) (by kernel_rfl) (by kernel_rfl)
def m_impl_Circuit_step_l4 : AC :=
  (.seq (.region [⟨(some 118), none, (.i (.bin .lss (.tmp 117) (.tmp 116)))⟩] false [])
  (.seq (.cond (.tmp 118)
    .skip
    (.exit 6))
  (.seq (.block 7 (.seq (.region [⟨(some 119), none, (.i (.idx 1 (.tmp 115) (.tmp 117)))⟩, ⟨(some 120), none, (.i (.ld true 1 (.tmp 119)))⟩, ⟨(some 23), none, (.i (.mov (.tmp 120)))⟩] false [])
  (.region [⟨(some 121), none, (.i (.mov (.tmp 21)))⟩, ⟨(some 122), none, (.i (.mov (.tmp 10)))⟩, ⟨(some 123), none, (.i (.fld 1 (.tmp 4)))⟩, ⟨(some 124), none, (.i (.ld true 1 (.tmp 123)))⟩, ⟨(some 125), none, (.i (.mov (.tmp 23)))⟩, ⟨(some 126), none, (.i (.idx 4 (.tmp 124) (.tmp 125)))⟩, ⟨(some 127), none, (.i (.fld 1 (.tmp 126)))⟩, ⟨(some 128), none, (.i (.ld true 1 (.tmp 127)))⟩, ⟨(some 129), none, (.i (.idx 1 (.tmp 122) (.tmp 128)))⟩, ⟨(some 130), none, (.i (.ld true 1 (.tmp 129)))⟩, ⟨(some 131), none, (.mkS 3 .int [(.tmp 130)])⟩, ⟨(some 132), none, (.append 3 .int 8 (.tmp 121) (.tmp 131))⟩, ⟨(some 21), none, (.i (.mov (.tmp 132)))⟩] false [])))
  (.region [⟨(some 133), none, (.i (.bin .add (.tmp 117) (.cst (.int .i64 1))))⟩, ⟨(some 117), none, (.i (.mov (.tmp 133)))⟩] false []))))
def m_impl_Circuit_step_l3 : AC :=
  (.seq (.region [⟨(some 73), none, (.i (.bin .lss (.tmp 72) (.tmp 71)))⟩] false [])
  (.seq (.cond (.tmp 73)
    .skip
    (.exit 4))
  (.seq (.block 5 (.seq (.region [⟨(some 74), none, (.i (.idx 1 (.tmp 70) (.tmp 72)))⟩, ⟨(some 75), none, (.i (.ld true 1 (.tmp 74)))⟩, ⟨(some 19), none, (.i (.mov (.tmp 75)))⟩] false [])
  (.seq (.region [⟨(some 76), none, (.i (.fld 1 (.tmp 4)))⟩, ⟨(some 77), none, (.i (.ld true 1 (.tmp 76)))⟩, ⟨(some 78), none, (.i (.mov (.tmp 19)))⟩, ⟨(some 79), none, (.i (.idx 4 (.tmp 77) (.tmp 78)))⟩, ⟨(some 80), none, (.i (.ld false 4 (.tmp 79)))⟩, ⟨(some 20), none, (.i (.alloc 51 [(.int .i64 0), (.int .i64 0), (.int .i64 0), (.int .i64 0)]))⟩, ⟨none, none, (.st false 4 (.tmp 20) (.tmp 80))⟩] false [])
  (.seq (.region [⟨(some 81), none, (.i (.fld 0 (.tmp 20)))⟩, ⟨(some 82), none, (.i (.ld true 1 (.tmp 81)))⟩, ⟨(some 83), none, (.i (.bin .eql (.tmp 82) (.cst (.int .i64 3))))⟩] false [])
  (.cond (.tmp 83)
    (.region [⟨(some 84), none, (.i (.mov (.tmp 10)))⟩, ⟨(some 85), none, (.i (.mov (.tmp 19)))⟩, ⟨(some 86), none, (.i (.mov (.tmp 1)))⟩, ⟨(some 87), none, (.i (.mov (.tmp 10)))⟩, ⟨(some 88), none, (.i (.fld 1 (.tmp 20)))⟩, ⟨(some 89), none, (.i (.ld true 1 (.tmp 88)))⟩, ⟨(some 90), none, (.i (.idx 1 (.tmp 87) (.tmp 89)))⟩, ⟨(some 91), none, (.i (.ld true 1 (.tmp 90)))⟩, ⟨(some 92), none, (.i (.mov (.tmp 10)))⟩, ⟨(some 93), none, (.i (.fld 2 (.tmp 20)))⟩, ⟨(some 94), none, (.i (.ld true 1 (.tmp 93)))⟩, ⟨(some 95), none, (.i (.idx 1 (.tmp 92) (.tmp 94)))⟩, ⟨(some 96), none, (.i (.ld true 1 (.tmp 95)))⟩, ⟨(some 97), none, (.i (.bin .add (.tmp 91) (.tmp 96)))⟩, ⟨(some 98), none, (.call (.cst (.fn 85 [])) [(.tmp 86), (.tmp 97)] [[], []])⟩, ⟨(some 99), none, (.i (.idx 1 (.tmp 84) (.tmp 85)))⟩, ⟨none, none, (.st true 1 (.tmp 99) (.tmp 98))⟩] true [])
    (.region [⟨(some 100), none, (.i (.mov (.tmp 10)))⟩, ⟨(some 101), none, (.i (.mov (.tmp 19)))⟩, ⟨(some 102), none, (.i (.mov (.tmp 1)))⟩, ⟨(some 103), none, (.i (.fld 3 (.tmp 20)))⟩, ⟨(some 104), none, (.i (.ld true 1 (.tmp 103)))⟩, ⟨(some 105), none, (.i (.mov (.tmp 10)))⟩, ⟨(some 106), none, (.i (.fld 1 (.tmp 20)))⟩, ⟨(some 107), none, (.i (.ld true 1 (.tmp 106)))⟩, ⟨(some 108), none, (.i (.idx 1 (.tmp 105) (.tmp 107)))⟩, ⟨(some 109), none, (.i (.ld true 1 (.tmp 108)))⟩, ⟨(some 110), none, (.i (.bin .mul (.tmp 104) (.tmp 109)))⟩, ⟨(some 111), none, (.call (.cst (.fn 85 [])) [(.tmp 102), (.tmp 110)] [[], []])⟩, ⟨(some 112), none, (.i (.idx 1 (.tmp 100) (.tmp 101)))⟩, ⟨none, none, (.st true 1 (.tmp 112) (.tmp 111))⟩] true []))))))
  (.region [⟨(some 113), none, (.i (.bin .add (.tmp 72) (.cst (.int .i64 1))))⟩, ⟨(some 72), none, (.i (.mov (.tmp 113)))⟩] false []))))
def m_impl_Circuit_step_l2 : AC :=
  (.seq (.region [⟨(some 49), none, (.i (.bin .lss (.tmp 48) (.tmp 47)))⟩] false [])
  (.seq (.cond (.tmp 49)
    .skip
    (.exit 2))
  (.seq (.block 3 (.seq (.region [⟨(some 50), none, (.i (.mov (.tmp 48)))⟩, ⟨(some 51), none, (.i (.idx 4 (.tmp 46) (.tmp 48)))⟩, ⟨(some 52), none, (.i (.ld false 4 (.tmp 51)))⟩, ⟨(some 15), none, (.i (.alloc 51 [(.int .i64 0), (.int .i64 0), (.int .i64 0), (.int .i64 0)]))⟩, ⟨(some 14), none, (.i (.mov (.tmp 50)))⟩, ⟨none, none, (.st false 4 (.tmp 15) (.tmp 52))⟩] false [])
  (.seq (.region [⟨(some 53), none, (.i (.fld 0 (.tmp 15)))⟩, ⟨(some 54), none, (.i (.ld true 1 (.tmp 53)))⟩, ⟨(some 55), none, (.i (.bin .eql (.tmp 54) (.cst (.int .i64 1))))⟩] false [])
  (.cond (.tmp 55)
    (.region [⟨(some 56), none, (.i (.mov (.tmp 10)))⟩, ⟨(some 57), none, (.i (.mov (.tmp 14)))⟩, ⟨(some 58), none, (.i (.mov (.tmp 3)))⟩, ⟨(some 59), none, (.i (.fld 3 (.tmp 15)))⟩, ⟨(some 60), none, (.i (.ld true 1 (.tmp 59)))⟩, ⟨(some 61), none, (.i (.idx 1 (.tmp 58) (.tmp 60)))⟩, ⟨(some 62), none, (.i (.ld true 1 (.tmp 61)))⟩, ⟨(some 63), none, (.i (.idx 1 (.tmp 56) (.tmp 57)))⟩, ⟨none, none, (.st true 1 (.tmp 63) (.tmp 62))⟩] false [])
    .skip))))
  (.region [⟨(some 64), none, (.i (.bin .add (.tmp 48) (.cst (.int .i64 1))))⟩, ⟨(some 48), none, (.i (.mov (.tmp 64)))⟩] false []))))
def m_impl_Circuit_step_l1 : AC :=
  (.seq (.region [⟨(some 33), none, (.i (.bin .lss (.tmp 32) (.tmp 31)))⟩] false [])
  (.seq (.cond (.tmp 33)
    .skip
    (.exit 0))
  (.seq (.block 1 (.seq (.region [⟨(some 34), none, (.i (.mov (.tmp 32)))⟩, ⟨(some 35), none, (.i (.idx 1 (.tmp 30) (.tmp 32)))⟩, ⟨(some 36), none, (.i (.ld true 1 (.tmp 35)))⟩, ⟨(some 12), none, (.i (.mov (.tmp 34)))⟩, ⟨(some 13), none, (.i (.mov (.tmp 36)))⟩] false [])
  (.region [⟨(some 37), none, (.i (.mov (.tmp 10)))⟩, ⟨(some 38), none, (.i (.mov (.tmp 13)))⟩, ⟨(some 39), none, (.i (.mov (.tmp 2)))⟩, ⟨(some 40), none, (.i (.mov (.tmp 12)))⟩, ⟨(some 41), none, (.i (.idx 1 (.tmp 39) (.tmp 40)))⟩, ⟨(some 42), none, (.i (.ld true 1 (.tmp 41)))⟩, ⟨(some 43), none, (.i (.idx 1 (.tmp 37) (.tmp 38)))⟩, ⟨none, none, (.st true 1 (.tmp 43) (.tmp 42))⟩] false [])))
  (.region [⟨(some 44), none, (.i (.bin .add (.tmp 32) (.cst (.int .i64 1))))⟩, ⟨(some 32), none, (.i (.mov (.tmp 44)))⟩] false []))))
def m_impl_Circuit_step : AC :=
  (.seq (.region [⟨(some 4), none, (.i (.box 31 (.tmp 0)))⟩, ⟨(some 8), none, (.i (.mov (.cst .nils)))⟩, ⟨(some 9), none, (.i (.mov (.cst .nils)))⟩] false [])
  (.seq (.region [⟨(some 24), none, (.i (.fld 1 (.tmp 4)))⟩, ⟨(some 25), none, (.i (.ld true 1 (.tmp 24)))⟩, ⟨(some 26), none, (.i (.len (.tmp 25)))⟩, ⟨(some 27), none, (.call (.cst (.fn 38 [])) [(.tmp 26)] [[]])⟩, ⟨(some 10), none, (.i (.mov (.tmp 27)))⟩] false [])
  (.seq (.region [⟨(some 28), none, (.i (.ld false 3 (.tmp 4)))⟩, ⟨(some 29), none, (.call (.cst (.fn 62 [])) [(.tmp 28)] [[none, (some (.pair .int (.pair .int (.pair .int .int)))), (some .int)]])⟩, ⟨(some 11), none, (.i (.mov (.tmp 29)))⟩] false [])
  (.seq (.seq (.region [⟨(some 30), none, (.i (.mov (.tmp 11)))⟩, ⟨(some 31), none, (.i (.len (.tmp 30)))⟩, ⟨(some 32), none, (.i (.mov (.cst (.int .i64 0))))⟩] false [])
  (.block 0 (.loop m_impl_Circuit_step_l1)))
  (.seq (.seq (.region [⟨(some 45), none, (.i (.fld 1 (.tmp 4)))⟩, ⟨(some 46), none, (.i (.ld true 1 (.tmp 45)))⟩, ⟨(some 47), none, (.i (.len (.tmp 46)))⟩, ⟨(some 48), none, (.i (.mov (.cst (.int .i64 0))))⟩] false [])
  (.block 2 (.loop m_impl_Circuit_step_l2)))
  (.seq (.region [⟨(some 66), none, (.i (.ld false 3 (.tmp 4)))⟩, ⟨(some 67), none, (.call (.cst (.fn 77 [])) [(.tmp 66)] [[none, (some (.pair .int (.pair .int (.pair .int .int)))), (some .int)]])⟩, ⟨(some 65), none, (.i (.mov (.tmp 67)))⟩, ⟨(some 68), none, (.i (.extr 0 (.tmp 65)))⟩, ⟨(some 69), none, (.i (.extr 1 (.tmp 65)))⟩, ⟨(some 16), none, (.i (.mov (.tmp 68)))⟩, ⟨(some 17), none, (.i (.mov (.tmp 69)))⟩] false [])
  (.seq (.seq (.region [⟨(some 70), none, (.i (.mov (.tmp 16)))⟩, ⟨(some 71), none, (.i (.len (.tmp 70)))⟩, ⟨(some 72), none, (.i (.mov (.cst (.int .i64 0))))⟩] false [])
  (.block 4 (.loop m_impl_Circuit_step_l3)))
  (.seq (.region [⟨(some 114), none, (.mkS 3 .int [])⟩, ⟨(some 21), none, (.i (.mov (.tmp 114)))⟩] false [])
  (.seq (.seq (.region [⟨(some 115), none, (.i (.mov (.tmp 11)))⟩, ⟨(some 116), none, (.i (.len (.tmp 115)))⟩, ⟨(some 117), none, (.i (.mov (.cst (.int .i64 0))))⟩] false [])
  (.block 6 (.loop m_impl_Circuit_step_l4)))
  (.seq (.region [⟨(some 134), none, (.i (.mov (.tmp 21)))⟩, ⟨(some 135), none, (.i (.mov (.tmp 10)))⟩, ⟨(some 136), none, (.i (.fld 2 (.tmp 4)))⟩, ⟨(some 137), none, (.i (.ld true 1 (.tmp 136)))⟩, ⟨(some 138), none, (.call (.cst (.fn 86 [])) [(.tmp 135), (.tmp 137)] [[(some .int)], [(some .int)]])⟩, ⟨(some 8), none, (.i (.mov (.tmp 134)))⟩, ⟨(some 9), none, (.i (.mov (.tmp 138)))⟩] false [])
  .ret))))))))))
def r_impl_Circuit_step : List Res := [.tmp 8, .tmp 9]
theorem c_impl_Circuit_step : compiled Tryd.prog Tryd.f63 = some (m_impl_Circuit_step, r_impl_Circuit_step) := by kernel_rfl
theorem hb_impl_Circuit_step : hasBody Tryd.prog 63 = true := by kernel_rfl
def L_impl_Circuit_step_l1 (y5 : List Int) (a2 : List Int) (l8_m32 : Nat) (l8_m10 : List Int) : Option (Ctl (Nat × List Int) (List Int)) :=
  cond (decide (((l8_m32 : Nat) : Int) < ((y5.length : Nat) : Int)))
  (Option.bind (y5[l8_m32]?) fun x14 =>
  Option.bind (a2[l8_m32]?) fun x15 =>
  Option.bind (getI l8_m10 x14) fun x16 =>
  og (l8_m32 + 1 < 4611686018427387904) <|
  some (Ctl.next (l8_m32 + 1, l8_m10.set x14.toNat x15)))
  (some (Ctl.out l8_m10))
def L_impl_Circuit_step_l2 (a0_1 : List (Int × Int × Int × Int)) (a3 : List Int) (l20_m48 : Nat) (l20_m10 : List Int) : Option (Ctl (Nat × List Int) (List Int)) :=
  cond (decide (((l20_m48 : Nat) : Int) < ((a0_1.length : Nat) : Int)))
  (Option.bind (Option.bind (a0_1[l20_m48]?) fun x26 =>
    cond (x26.1 == 1)
      (Option.bind (getI a3 x26.2.2.2) fun x29 =>
      Option.bind (l20_m10[l20_m48]?) fun x30 =>
      some (l20_m10.set l20_m48 x29))
      (some l20_m10)) fun l24_m10 =>
  og (l20_m48 + 1 < 4611686018427387904) <|
  some (Ctl.next (l20_m48 + 1, l24_m10)))
  (some (Ctl.out l20_m10))
def L_impl_Circuit_step_l3 (y33 : List Int × Bool) (a0_1 : List (Int × Int × Int × Int)) (a1 : Int) (l36_m72 : Nat) (l36_m10 : List Int) : Option (Ctl (Nat × List Int) (List Int)) :=
  cond (decide (((l36_m72 : Nat) : Int) < ((y33.1.length : Nat) : Int)))
  (Option.bind (Option.bind (y33.1[l36_m72]?) fun x42 =>
    Option.bind (getI a0_1 x42) fun x44 =>
    cond (x44.1 == 3)
      (Option.bind (getI l36_m10 x44.2.1) fun x47 =>
      Option.bind (getI l36_m10 x44.2.2.1) fun x48 =>
      Option.bind (L_impl_mod a1 (IntKind.i64.wrap (x47 + x48))) fun y49 =>
      Option.bind (getI l36_m10 x42) fun x50 =>
      some (l36_m10.set x42.toNat y49))
      (Option.bind (getI l36_m10 x44.2.1) fun x51 =>
      Option.bind (L_impl_mod a1 (IntKind.i64.wrap (x44.2.2.2 * x51))) fun y52 =>
      Option.bind (getI l36_m10 x42) fun x53 =>
      some (l36_m10.set x42.toNat y52))) fun l40_m10 =>
  og (l36_m72 + 1 < 4611686018427387904) <|
  some (Ctl.next (l36_m72 + 1, l40_m10)))
  (some (Ctl.out l36_m10))
def L_impl_Circuit_step_l4 (y5 : List Int) (a0_1 : List (Int × Int × Int × Int)) (l34_m10 : List Int) (l58_m117 : Nat) (l58_m21 : List Int) : Option (Ctl (Nat × List Int) (List Int)) :=
  cond (decide (((l58_m117 : Nat) : Int) < ((y5.length : Nat) : Int)))
  (Option.bind (y5[l58_m117]?) fun x64 =>
  Option.bind (getI a0_1 x64) fun x65 =>
  Option.bind (getI l34_m10 x65.2.1) fun x66 =>
  og (l58_m21.length + 1 ≤ 1073741824 ∧ (l58_m21.length + 1) * 8 ≤ 140737488355328) <|
  og (l58_m117 + 1 < 4611686018427387904) <|
  some (Ctl.next (l58_m117 + 1, l58_m21 ++ ([x66]))))
  (some (Ctl.out l58_m21))
def L_impl_Circuit_step (a0_0 : Int) (a0_1 : List (Int × Int × Int × Int)) (a0_2 : List Int) (a1 : Int) (a2 : List Int) (a3 : List Int) : Option (List Int × List Int) :=
  Option.bind (L_impl_zeros ((a0_1.length : Nat) : Int)) fun y3 =>
Option.bind (L_impl_Circuit_delays a0_0 a0_1 a0_2) fun y5 =>
Option.bind (loopM (fun s_ : Nat × List Int => L_impl_Circuit_step_l1 y5 a2 s_.1 s_.2) 4611686018427387904 (0, y3)) fun l6_m10 =>
Option.bind (loopM (fun s_ : Nat × List Int => L_impl_Circuit_step_l2 a0_1 a3 s_.1 s_.2) 4611686018427387904 (0, l6_m10)) fun l18_m10 =>
Option.bind (L_impl_Circuit_schedule a0_0 a0_1 a0_2) fun y33 =>
Option.bind (loopM (fun s_ : Nat × List Int => L_impl_Circuit_step_l3 y33 a0_1 a1 s_.1 s_.2) 4611686018427387904 (0, l18_m10)) fun l34_m10 =>
Option.bind (loopM (fun s_ : Nat × List Int => L_impl_Circuit_step_l4 y5 a0_1 l34_m10 s_.1 s_.2) 4611686018427387904 (0, [])) fun l56_m21 =>
Option.bind (L_impl_chosen l34_m10 a0_2) fun y70 =>
some (l56_m21, y70)
def rv_impl_Circuit_step (r : List Int × List Int) : RV := ⟨true, [(false, [.new 3 .int r.1]), (false, [.new 3 .int r.2])]⟩
theorem ok_impl_Circuit_step {a0_0 : Int} {a0_1 : List (Int × Int × Int × Int)} {a0_2 : List Int} {a1 : Int} {a2 : List Int} {a3 : List Int} {r : List Int × List Int} (h : L_impl_Circuit_step a0_0 a0_1 a0_2 a1 a2 a3 = some r) : CallOK Tryd.prog Tab 63 [(.agg [(.int .i64 a0_0), (.tree (.pair .int (.pair .int (.pair .int .int))) a0_1), (.tree .int a0_2)]), (.int .i64 a1), (.tree .int a2), (.tree .int a3)] (rv_impl_Circuit_step r) := by
  refine call_of_ (by kernel_rfl) Tryd.func63 c_impl_Circuit_step (n := 139) (by kernel_rfl) (by simp) (tl := [(0, (.agg [(.int .i64 a0_0), (.tree (.pair .int (.pair .int (.pair .int .int))) a0_1), (.tree .int a0_2)])), (1, (.int .i64 a1)), (2, (.tree .int a2)), (3, (.tree .int a3))]) rfl ?_
  unfold m_impl_Circuit_step
  unfold L_impl_Circuit_step at h
  refine awp_seq_ ?_
  refine awp_region_ 4 (by kernel_rfl) ?_
  refine rs1 (.box (4, 1) 0) (4, 1) (.cells 31 [(.int .i64 a0_0), (.tree (.pair .int (.pair .int (.pair .int .int))) a0_1), (.tree .int a0_2)]) (by kernel_rfl) ?_
  refine rs0 .nils (by kernel_rfl) ?_
  refine rs0 .nils (by kernel_rfl) ?_
  refine rnil (tn_ ?_)
  refine awp_seq_ ?_
  obtain ⟨y3, h3, h⟩ := ob_some h
  refine awp_region_ 9 (by kernel_rfl) ?_
  refine rs0 (.box (4, 1) 1) (by kernel_rfl) ?_
  refine rsl (.tree (.pair .int (.pair .int (.pair .int .int))) a0_1) (by kernel_rfl) ?_
  refine rs0 (.int .i64 ((a0_1.length : Nat) : Int)) (by kernel_rfl) ?_
  refine rcall (.own (432, 7) .int 0 y3.length) [((432, 7), some (.arr 3 .int y3))] [(.int .i64 ((a0_1.length : Nat) : Int))] _ (caps := []) (args0 := [(.int .i64 ((a0_1.length : Nat) : Int))]) trivial (by kernel_rfl) (by kernel_rfl) (by kernel_rfl) (by kernel_rfl) (ok_impl_zeros h3) hb_impl_zeros (by kernel_rfl) ?_
  refine rs0 (.own (432, 7) .int 0 y3.length) (by kernel_rfl) ?_
  refine rnil (tn_ ?_)
  refine awp_seq_ ?_
  obtain ⟨y5, h5, h⟩ := ob_some h
  refine awp_region_ 12 (by kernel_rfl) ?_
  refine rsl (.agg [(.int .i64 a0_0), (.tree (.pair .int (.pair .int (.pair .int .int))) a0_1), (.tree .int a0_2)]) (by kernel_rfl) ?_
  refine rcall (.own (464, 10) .int 0 y5.length) [((464, 10), some (.arr 3 .int y5))] [(.agg [(.int .i64 a0_0), (.tree (.pair .int (.pair .int (.pair .int .int))) a0_1), (.tree .int a0_2)])] _ (caps := []) (args0 := [(.agg [(.int .i64 a0_0), (.tree (.pair .int (.pair .int (.pair .int .int))) a0_1), (.tree .int a0_2)])]) trivial (by kernel_rfl) (by kernel_rfl) (by kernel_rfl) (by kernel_rfl) (ok_impl_Circuit_delays h5) hb_impl_Circuit_delays (by kernel_rfl) ?_
  refine rs0 (.own (464, 10) .int 0 y5.length) (by kernel_rfl) ?_
  refine rnil (tn_ ?_)
  refine awp_seqB h (fun (l6_m10 : List Int) S_ => S_ = ⟨mkTm [(1, (.int .i64 a1)), (3, (.tree .int a3)), (4, (.box (0, 1) 0)), (10, (.own (1, 1) .int 0 l6_m10.length)), (11, (.own (2, 1) .int 0 y5.length))], mkOb (someL [((0, 1), .cells 31 [(.int .i64 a0_0), (.tree (.pair .int (.pair .int (.pair .int .int))) a0_1), (.tree .int a0_2)]), ((1, 1), .arr 3 .int l6_m10), ((2, 1), .arr 3 .int y5)]), 2⟩) ?_ ?_
  · intro v_ h
    refine awp_seq_ ?_
    refine awp_region_ 15 (by kernel_rfl) ?_
    refine rs0 (.own (464, 10) .int 0 y5.length) (by kernel_rfl) ?_
    refine rs0 (.int .i64 ((y5.length : Nat) : Int)) (by kernel_rfl) ?_
    refine rs0 (.int .i64 0) (by kernel_rfl) ?_
    refine rnil (tn_ ?_)
    refine awp_block_ ?_
    refine awp_loopL h (fun t_ S_ => ∃ (l8_m32 : Nat), ∃ (l8_m10 : List Int), t_ = (l8_m32, l8_m10) ∧ S_ = ⟨mkTm [(1, (.int .i64 a1)), (2, (.tree .int a2)), (3, (.tree .int a3)), (4, (.box (0, 1) 0)), (10, (.own (1, 1) .int 0 l8_m10.length)), (11, (.own (2, 1) .int 0 y5.length)), (30, (.own (2, 1) .int 0 y5.length)), (31, (.int .i64 ((y5.length : Nat) : Int))), (32, (.int .i64 ((l8_m32 : Nat) : Int)))], mkOb (someL [((0, 1), .cells 31 [(.int .i64 a0_0), (.tree (.pair .int (.pair .int (.pair .int .int))) a0_1), (.tree .int a0_2)]), ((1, 1), .arr 3 .int l8_m10), ((2, 1), .arr 3 .int y5)]), 2⟩) ⟨_, (weak_ren (renF [((0, 1), (4, 1)), ((1, 1), (432, 7)), ((2, 1), (464, 10))]) (by kernel_rfl) (by kernel_rfl) (by kernel_rfl)), ⟨0, y3, rfl, rfl⟩⟩ ?_
    · rintro n_ _ _ c_ ⟨l8_m32, l8_m10, rfl, rfl⟩ h hn8
      (try dsimp only at h)
      unfold L_impl_Circuit_step_l1 at h
      unfold m_impl_Circuit_step_l1
      refine awp_seq_ ?_
      refine awp_region_ 3 (by kernel_rfl) ?_
      refine rs0 (.bool (decide (((l8_m32 : Nat) : Int) < ((y5.length : Nat) : Int)))) (by kernel_rfl) ?_
      refine rnil (tn_ ?_)
      refine awp_seq_ ?_
      rcases cond_some h with ⟨q11, h⟩ | ⟨q11, h⟩
      · have q11_ := of_decide_eq_true q11
        refine awp_condT_ q11 (by kernel_rfl) ?_
        refine awp_skip_ (tn_ ?_)
        refine awp_seq_ ?_
        refine awp_block_ ?_
        refine awp_seq_ ?_
        obtain ⟨x14, e14, h⟩ := ob_some h
        refine awp_region_ 8 (by kernel_rfl) ?_
        refine rs0 (.int .i64 ((l8_m32 : Nat) : Int)) (by kernel_rfl) ?_
        refine rs0 (.elt (2, 1) l8_m32 0) (s_idxO (t := .int) (o := (2, 1)) (len := y5.length) (k := .i64) (m := ((l8_m32 : Nat) : Int)) (by kernel_rfl) (by kernel_rfl) rfl (nat_nn _) rfl (getN_lt e14)) ?_
        refine rsl (.int .i64 x14) (s_ldE (i := (2, 1)) (j := l8_m32) (k := 0) (e := 3) (t := .int) (xs := y5) (by kernel_rfl) (by kernel_rfl) e14 (by kernel_rfl)) ?_
        refine rs0 (.int .i64 ((l8_m32 : Nat) : Int)) (by kernel_rfl) ?_
        refine rs0 (.int .i64 x14) (by kernel_rfl) ?_
        refine rnil (tn_ ?_)
        obtain ⟨x15, e15, h⟩ := ob_some h
        obtain ⟨x16, f16, h⟩ := ob_some h
        obtain ⟨p16, b16, e16⟩ := getI_some f16
        refine awp_region_ 16 (by kernel_rfl) ?_
        refine rs0 (.own (1, 1) .int 0 l8_m10.length) (by kernel_rfl) ?_
        refine rs0 (.int .i64 x14) (by kernel_rfl) ?_
        refine rs0 (.tree .int a2) (by kernel_rfl) ?_
        refine rs0 (.int .i64 ((l8_m32 : Nat) : Int)) (by kernel_rfl) ?_
        refine rs0 (.telt .int x15 0) (s_idxT (t := .int) (xs := a2) (k := .i64) (m := ((l8_m32 : Nat) : Int)) (by kernel_rfl) (by kernel_rfl) rfl (nat_nn _) rfl e15) ?_
        refine rs0 (.int .i64 x15) (by kernel_rfl) ?_
        refine rs0 (.elt (1, 1) x14.toNat 0) (s_idxO (t := .int) (o := (1, 1)) (len := l8_m10.length) (k := .i64) (m := x14) (by kernel_rfl) (by kernel_rfl) rfl p16 rfl (getN_lt e16)) ?_
        refine rsn2 (1, 1) (1, 1) (.arr 3 .int (l8_m10.set x14.toNat x15)) (s_stE (i := (1, 1)) (j := x14.toNat) (k := 0) (e := 3) (t := .int) (xs := l8_m10) (cs := [(.int .i64 x15)]) (x1 := x15) (by kernel_rfl) (by kernel_rfl) e16 (by kernel_rfl) (by kernel_rfl)) ?_
        refine rnil (bn_ (tn_ ?_))
        obtain ⟨g17, h⟩ := og_some h
        refine awp_region_ 18 (by kernel_rfl) ?_
        refine rs0 (.int .i64 ((l8_m32 + 1 : Nat) : Int)) (s_add1 (j := l8_m32) (by kernel_rfl) (by kernel_rfl) g17) ?_
        refine rs0 (.int .i64 ((l8_m32 + 1 : Nat) : Int)) (by kernel_rfl) ?_
        refine rnil (tn_ ?_)
        obtain rfl := Option.some.inj h
        exact ⟨(l8_m32 + 1, l8_m10.set x14.toNat x15), _, ((weak_tm_ 10 (.own (1, 1) .int 0 l8_m10.length) (.own (1, 1) .int 0 ((l8_m10.set x14.toNat x15).length)) (by kernel_rfl) (congrArg (fun z_ => ((.own (1, 1) .int 0 z_) : AV)) (((rfl : l8_m10.length = l8_m10.length).trans List.length_set.symm) : l8_m10.length = (l8_m10.set x14.toNat x15).length))).trans (weak_ren (renF []) (by kernel_rfl) (by kernel_rfl) (by kernel_rfl))), ⟨l8_m32 + 1, l8_m10.set x14.toNat x15, rfl, rfl⟩, hn8⟩
      · have q11_ := of_decide_eq_false q11
        refine awp_condF_ q11 (by kernel_rfl) ?_
        refine awp_exit_ (te_ (te_ (be_ (tn_ ?_))))
        obtain rfl := Option.some.inj h
        have h := hn8
        (try dsimp only at h)
        obtain rfl := Option.some.inj h
        exact ⟨_, (weak_ren (renF []) (by kernel_rfl) (by kernel_rfl) (by kernel_rfl)), rfl⟩
  · rintro l6_m10 _ rfl h
    (try dsimp only at h)
    refine awp_seqB h (fun (l18_m10 : List Int) S_ => S_ = ⟨mkTm [(1, (.int .i64 a1)), (4, (.box (0, 1) 0)), (10, (.own (1, 1) .int 0 l18_m10.length)), (11, (.own (2, 1) .int 0 y5.length))], mkOb (someL [((0, 1), .cells 31 [(.int .i64 a0_0), (.tree (.pair .int (.pair .int (.pair .int .int))) a0_1), (.tree .int a0_2)]), ((1, 1), .arr 3 .int l18_m10), ((2, 1), .arr 3 .int y5)]), 2⟩) ?_ ?_
    · intro v_ h
      refine awp_seq_ ?_
      refine awp_region_ 6 (by kernel_rfl) ?_
      refine rs0 (.box (0, 1) 1) (by kernel_rfl) ?_
      refine rsl (.tree (.pair .int (.pair .int (.pair .int .int))) a0_1) (by kernel_rfl) ?_
      refine rs0 (.int .i64 ((a0_1.length : Nat) : Int)) (by kernel_rfl) ?_
      refine rs0 (.int .i64 0) (by kernel_rfl) ?_
      refine rnil (tn_ ?_)
      refine awp_block_ ?_
      refine awp_loopL h (fun t_ S_ => ∃ (l20_m48 : Nat), ∃ (l20_m10 : List Int), t_ = (l20_m48, l20_m10) ∧ S_ = ⟨mkTm [(1, (.int .i64 a1)), (3, (.tree .int a3)), (4, (.box (0, 1) 0)), (10, (.own (1, 1) .int 0 l20_m10.length)), (11, (.own (2, 1) .int 0 y5.length)), (46, (.tree (.pair .int (.pair .int (.pair .int .int))) a0_1)), (47, (.int .i64 ((a0_1.length : Nat) : Int))), (48, (.int .i64 ((l20_m48 : Nat) : Int)))], mkOb (someL [((0, 1), .cells 31 [(.int .i64 a0_0), (.tree (.pair .int (.pair .int (.pair .int .int))) a0_1), (.tree .int a0_2)]), ((1, 1), .arr 3 .int l20_m10), ((2, 1), .arr 3 .int y5)]), 2⟩) ⟨_, (weak_ren (renF []) (by kernel_rfl) (by kernel_rfl) (by kernel_rfl)), ⟨0, l6_m10, rfl, rfl⟩⟩ ?_
      · rintro n_ _ _ c_ ⟨l20_m48, l20_m10, rfl, rfl⟩ h hn20
        (try dsimp only at h)
        unfold L_impl_Circuit_step_l2 at h
        unfold m_impl_Circuit_step_l2
        refine awp_seq_ ?_
        refine awp_region_ 3 (by kernel_rfl) ?_
        refine rs0 (.bool (decide (((l20_m48 : Nat) : Int) < ((a0_1.length : Nat) : Int)))) (by kernel_rfl) ?_
        refine rnil (tn_ ?_)
        refine awp_seq_ ?_
        rcases cond_some h with ⟨q23, h⟩ | ⟨q23, h⟩
        · have q23_ := of_decide_eq_true q23
          refine awp_condT_ q23 (by kernel_rfl) ?_
          refine awp_skip_ (tn_ ?_)
          refine awp_seqB h (fun (l24_m10 : List Int) S_ => S_ = ⟨mkTm [(1, (.int .i64 a1)), (3, (.tree .int a3)), (4, (.box (0, 1) 0)), (10, (.own (1, 1) .int 0 l24_m10.length)), (11, (.own (2, 1) .int 0 y5.length)), (46, (.tree (.pair .int (.pair .int (.pair .int .int))) a0_1)), (47, (.int .i64 ((a0_1.length : Nat) : Int))), (48, (.int .i64 ((l20_m48 : Nat) : Int)))], mkOb (someL [((0, 1), .cells 31 [(.int .i64 a0_0), (.tree (.pair .int (.pair .int (.pair .int .int))) a0_1), (.tree .int a0_2)]), ((1, 1), .arr 3 .int l24_m10), ((2, 1), .arr 3 .int y5)]), 2⟩) ?_ ?_
          · intro v_ h
            refine awp_block_ ?_
            refine awp_seq_ ?_
            obtain ⟨x26, e26, h⟩ := ob_some h
            refine awp_region_ 9 (by kernel_rfl) ?_
            refine rs0 (.int .i64 ((l20_m48 : Nat) : Int)) (by kernel_rfl) ?_
            refine rs0 (.telt (.pair .int (.pair .int (.pair .int .int))) x26 0) (s_idxT (t := (.pair .int (.pair .int (.pair .int .int)))) (xs := a0_1) (k := .i64) (m := ((l20_m48 : Nat) : Int)) (by kernel_rfl) (by kernel_rfl) rfl (nat_nn _) rfl e26) ?_
            refine rs0 (.agg [(.int .i64 x26.1), (.int .i64 x26.2.1), (.int .i64 x26.2.2.1), (.int .i64 x26.2.2.2)]) (by kernel_rfl) ?_
            refine rs1 (.box (15, 6) 0) (15, 6) (.cells 51 [(.int .i64 0), (.int .i64 0), (.int .i64 0), (.int .i64 0)]) (by kernel_rfl) ?_
            refine rs0 (.int .i64 ((l20_m48 : Nat) : Int)) (by kernel_rfl) ?_
            refine rsn2 (15, 6) (15, 6) (.cells 51 [(.int .i64 x26.1), (.int .i64 x26.2.1), (.int .i64 x26.2.2.1), (.int .i64 x26.2.2.2)]) (by kernel_rfl) ?_
            refine rnil (tn_ ?_)
            refine awp_seq_ ?_
            refine awp_region_ 12 (by kernel_rfl) ?_
            refine rs0 (.box (15, 6) 0) (by kernel_rfl) ?_
            refine rsl (.int .i64 x26.1) (by kernel_rfl) ?_
            refine rs0 (.bool (x26.1 == 1)) (by kernel_rfl) ?_
            refine rnil (tn_ ?_)
            rcases cond_some h with ⟨q28, h⟩ | ⟨q28, h⟩
            · refine awp_condT_ q28 (by kernel_rfl) ?_
              obtain ⟨x29, f29, h⟩ := ob_some h
              obtain ⟨p29, b29, e29⟩ := getI_some f29
              obtain ⟨x30, e30, h⟩ := ob_some h
              refine awp_region_ 21 (by kernel_rfl) ?_
              refine rs0 (.own (1, 1) .int 0 l20_m10.length) (by kernel_rfl) ?_
              refine rs0 (.int .i64 ((l20_m48 : Nat) : Int)) (by kernel_rfl) ?_
              refine rs0 (.tree .int a3) (by kernel_rfl) ?_
              refine rs0 (.box (15, 6) 3) (by kernel_rfl) ?_
              refine rsl (.int .i64 x26.2.2.2) (by kernel_rfl) ?_
              refine rs0 (.telt .int x29 0) (s_idxT (t := .int) (xs := a3) (k := .i64) (m := x26.2.2.2) (by kernel_rfl) (by kernel_rfl) rfl p29 rfl e29) ?_
              refine rs0 (.int .i64 x29) (by kernel_rfl) ?_
              refine rs0 (.elt (1, 1) l20_m48 0) (s_idxO (t := .int) (o := (1, 1)) (len := l20_m10.length) (k := .i64) (m := ((l20_m48 : Nat) : Int)) (by kernel_rfl) (by kernel_rfl) rfl (nat_nn _) rfl (getN_lt e30)) ?_
              refine rsn2 (1, 1) (1, 1) (.arr 3 .int (l20_m10.set l20_m48 x29)) (s_stE (i := (1, 1)) (j := l20_m48) (k := 0) (e := 3) (t := .int) (xs := l20_m10) (cs := [(.int .i64 x29)]) (x1 := x29) (by kernel_rfl) (by kernel_rfl) e30 (by kernel_rfl) (by kernel_rfl)) ?_
              refine rnil (bn_ (tn_ ?_))
              obtain rfl := Option.some.inj h
              exact ⟨_, ((weak_tm_ 10 (.own (1, 1) .int 0 l20_m10.length) (.own (1, 1) .int 0 ((l20_m10.set l20_m48 x29).length)) (by kernel_rfl) (congrArg (fun z_ => ((.own (1, 1) .int 0 z_) : AV)) (((rfl : l20_m10.length = l20_m10.length).trans List.length_set.symm) : l20_m10.length = (l20_m10.set l20_m48 x29).length))).trans (weak_ren (renF []) (by kernel_rfl) (by kernel_rfl) (by kernel_rfl))), rfl⟩
            · refine awp_condF_ q28 (by kernel_rfl) ?_
              refine awp_skip_ (bn_ (tn_ ?_))
              obtain rfl := Option.some.inj h
              exact ⟨_, (weak_ren (renF []) (by kernel_rfl) (by kernel_rfl) (by kernel_rfl)), rfl⟩
          · rintro l24_m10 _ rfl h
            (try dsimp only at h)
            obtain ⟨g31, h⟩ := og_some h
            refine awp_region_ 4 (by kernel_rfl) ?_
            refine rs0 (.int .i64 ((l20_m48 + 1 : Nat) : Int)) (s_add1 (j := l20_m48) (by kernel_rfl) (by kernel_rfl) g31) ?_
            refine rs0 (.int .i64 ((l20_m48 + 1 : Nat) : Int)) (by kernel_rfl) ?_
            refine rnil (tn_ ?_)
            obtain rfl := Option.some.inj h
            exact ⟨(l20_m48 + 1, l24_m10), _, (weak_ren (renF []) (by kernel_rfl) (by kernel_rfl) (by kernel_rfl)), ⟨l20_m48 + 1, l24_m10, rfl, rfl⟩, hn20⟩
        · have q23_ := of_decide_eq_false q23
          refine awp_condF_ q23 (by kernel_rfl) ?_
          refine awp_exit_ (te_ (te_ (be_ (tn_ ?_))))
          obtain rfl := Option.some.inj h
          have h := hn20
          (try dsimp only at h)
          obtain rfl := Option.some.inj h
          exact ⟨_, (weak_ren (renF []) (by kernel_rfl) (by kernel_rfl) (by kernel_rfl)), rfl⟩
    · rintro l18_m10 _ rfl h
      (try dsimp only at h)
      refine awp_seq_ ?_
      obtain ⟨y33, h33, h⟩ := ob_some h
      refine awp_region_ 9 (by kernel_rfl) ?_
      refine rsl (.agg [(.int .i64 a0_0), (.tree (.pair .int (.pair .int (.pair .int .int))) a0_1), (.tree .int a0_2)]) (by kernel_rfl) ?_
      refine rcall (.tup [(.own (1072, 3) .int 0 y33.1.length), (.bool y33.2)]) [((1072, 3), some (.arr 3 .int y33.1))] [(.agg [(.int .i64 a0_0), (.tree (.pair .int (.pair .int (.pair .int .int))) a0_1), (.tree .int a0_2)])] _ (caps := []) (args0 := [(.agg [(.int .i64 a0_0), (.tree (.pair .int (.pair .int (.pair .int .int))) a0_1), (.tree .int a0_2)])]) trivial (by kernel_rfl) (by kernel_rfl) (by kernel_rfl) (by kernel_rfl) (ok_impl_Circuit_schedule h33) hb_impl_Circuit_schedule (by kernel_rfl) ?_
      refine rs0 (.tup [(.own (1072, 3) .int 0 y33.1.length), (.bool y33.2)]) (by kernel_rfl) ?_
      refine rs0 (.own (1072, 3) .int 0 y33.1.length) (by kernel_rfl) ?_
      refine rs0 (.bool y33.2) (by kernel_rfl) ?_
      refine rs0 (.own (1072, 3) .int 0 y33.1.length) (by kernel_rfl) ?_
      refine rs0 (.bool y33.2) (by kernel_rfl) ?_
      refine rnil (tn_ ?_)
      refine awp_seqB h (fun (l34_m10 : List Int) S_ => S_ = ⟨mkTm [(4, (.box (0, 1) 0)), (10, (.own (1, 1) .int 0 l34_m10.length)), (11, (.own (2, 1) .int 0 y5.length))], mkOb (someL [((0, 1), .cells 31 [(.int .i64 a0_0), (.tree (.pair .int (.pair .int (.pair .int .int))) a0_1), (.tree .int a0_2)]), ((1, 1), .arr 3 .int l34_m10), ((2, 1), .arr 3 .int y5)]), 2⟩) ?_ ?_
      · intro v_ h
        refine awp_seq_ ?_
        refine awp_region_ 12 (by kernel_rfl) ?_
        refine rs0 (.own (1072, 3) .int 0 y33.1.length) (by kernel_rfl) ?_
        refine rs0 (.int .i64 ((y33.1.length : Nat) : Int)) (by kernel_rfl) ?_
        refine rs0 (.int .i64 0) (by kernel_rfl) ?_
        refine rnil (tn_ ?_)
        refine awp_block_ ?_
        refine awp_loopL h (fun t_ S_ => ∃ (l36_m72 : Nat), ∃ (l36_m10 : List Int), t_ = (l36_m72, l36_m10) ∧ S_ = ⟨mkTm [(1, (.int .i64 a1)), (4, (.box (0, 1) 0)), (10, (.own (1, 1) .int 0 l36_m10.length)), (11, (.own (2, 1) .int 0 y5.length)), (70, (.own (3, 1) .int 0 y33.1.length)), (71, (.int .i64 ((y33.1.length : Nat) : Int))), (72, (.int .i64 ((l36_m72 : Nat) : Int)))], mkOb (someL [((0, 1), .cells 31 [(.int .i64 a0_0), (.tree (.pair .int (.pair .int (.pair .int .int))) a0_1), (.tree .int a0_2)]), ((1, 1), .arr 3 .int l36_m10), ((2, 1), .arr 3 .int y5), ((3, 1), .arr 3 .int y33.1)]), 2⟩) ⟨_, (weak_ren (renF [((3, 1), (1072, 3))]) (by kernel_rfl) (by kernel_rfl) (by kernel_rfl)), ⟨0, l18_m10, rfl, rfl⟩⟩ ?_
        · rintro n_ _ _ c_ ⟨l36_m72, l36_m10, rfl, rfl⟩ h hn36
          (try dsimp only at h)
          unfold L_impl_Circuit_step_l3 at h
          unfold m_impl_Circuit_step_l3
          refine awp_seq_ ?_
          refine awp_region_ 3 (by kernel_rfl) ?_
          refine rs0 (.bool (decide (((l36_m72 : Nat) : Int) < ((y33.1.length : Nat) : Int)))) (by kernel_rfl) ?_
          refine rnil (tn_ ?_)
          refine awp_seq_ ?_
          rcases cond_some h with ⟨q39, h⟩ | ⟨q39, h⟩
          · have q39_ := of_decide_eq_true q39
            refine awp_condT_ q39 (by kernel_rfl) ?_
            refine awp_skip_ (tn_ ?_)
            refine awp_seqB h (fun (l40_m10 : List Int) S_ => S_ = ⟨mkTm [(1, (.int .i64 a1)), (4, (.box (0, 1) 0)), (10, (.own (1, 1) .int 0 l40_m10.length)), (11, (.own (2, 1) .int 0 y5.length)), (70, (.own (3, 1) .int 0 y33.1.length)), (71, (.int .i64 ((y33.1.length : Nat) : Int))), (72, (.int .i64 ((l36_m72 : Nat) : Int)))], mkOb (someL [((0, 1), .cells 31 [(.int .i64 a0_0), (.tree (.pair .int (.pair .int (.pair .int .int))) a0_1), (.tree .int a0_2)]), ((1, 1), .arr 3 .int l40_m10), ((2, 1), .arr 3 .int y5), ((3, 1), .arr 3 .int y33.1)]), 2⟩) ?_ ?_
            · intro v_ h
              refine awp_block_ ?_
              refine awp_seq_ ?_
              obtain ⟨x42, e42, h⟩ := ob_some h
              refine awp_region_ 6 (by kernel_rfl) ?_
              refine rs0 (.elt (3, 1) l36_m72 0) (s_idxO (t := .int) (o := (3, 1)) (len := y33.1.length) (k := .i64) (m := ((l36_m72 : Nat) : Int)) (by kernel_rfl) (by kernel_rfl) rfl (nat_nn _) rfl (getN_lt e42)) ?_
              refine rsl (.int .i64 x42) (s_ldE (i := (3, 1)) (j := l36_m72) (k := 0) (e := 3) (t := .int) (xs := y33.1) (by kernel_rfl) (by kernel_rfl) e42 (by kernel_rfl)) ?_
              refine rs0 (.int .i64 x42) (by kernel_rfl) ?_
              refine rnil (tn_ ?_)
              refine awp_seq_ ?_
              obtain ⟨x44, f44, h⟩ := ob_some h
              obtain ⟨p44, b44, e44⟩ := getI_some f44
              refine awp_region_ 13 (by kernel_rfl) ?_
              refine rs0 (.box (0, 1) 1) (by kernel_rfl) ?_
              refine rsl (.tree (.pair .int (.pair .int (.pair .int .int))) a0_1) (by kernel_rfl) ?_
              refine rs0 (.int .i64 x42) (by kernel_rfl) ?_
              refine rs0 (.telt (.pair .int (.pair .int (.pair .int .int))) x44 0) (s_idxT (t := (.pair .int (.pair .int (.pair .int .int)))) (xs := a0_1) (k := .i64) (m := x42) (by kernel_rfl) (by kernel_rfl) rfl p44 rfl e44) ?_
              refine rs0 (.agg [(.int .i64 x44.1), (.int .i64 x44.2.1), (.int .i64 x44.2.2.1), (.int .i64 x44.2.2.2)]) (by kernel_rfl) ?_
              refine rs1 (.box (20, 11) 0) (20, 11) (.cells 51 [(.int .i64 0), (.int .i64 0), (.int .i64 0), (.int .i64 0)]) (by kernel_rfl) ?_
              refine rsn2 (20, 11) (20, 11) (.cells 51 [(.int .i64 x44.1), (.int .i64 x44.2.1), (.int .i64 x44.2.2.1), (.int .i64 x44.2.2.2)]) (by kernel_rfl) ?_
              refine rnil (tn_ ?_)
              refine awp_seq_ ?_
              refine awp_region_ 16 (by kernel_rfl) ?_
              refine rs0 (.box (20, 11) 0) (by kernel_rfl) ?_
              refine rsl (.int .i64 x44.1) (by kernel_rfl) ?_
              refine rs0 (.bool (x44.1 == 3)) (by kernel_rfl) ?_
              refine rnil (tn_ ?_)
              rcases cond_some h with ⟨q46, h⟩ | ⟨q46, h⟩
              · refine awp_condT_ q46 (by kernel_rfl) ?_
                obtain ⟨x47, f47, h⟩ := ob_some h
                obtain ⟨p47, b47, e47⟩ := getI_some f47
                obtain ⟨x48, f48, h⟩ := ob_some h
                obtain ⟨p48, b48, e48⟩ := getI_some f48
                obtain ⟨y49, h49, h⟩ := ob_some h
                obtain ⟨x50, f50, h⟩ := ob_some h
                obtain ⟨p50, b50, e50⟩ := getI_some f50
                refine awp_regionD_ 33 (by kernel_rfl) ?_
                refine ds0 (.own (1, 1) .int 0 l36_m10.length) (by kernel_rfl) ?_
                refine ds0 (.int .i64 x42) (by kernel_rfl) ?_
                refine ds0 (.int .i64 a1) (by kernel_rfl) ?_
                refine ds0 (.own (1, 1) .int 0 l36_m10.length) (by kernel_rfl) ?_
                refine ds0 (.box (20, 11) 1) (by kernel_rfl) ?_
                refine dsl (.int .i64 x44.2.1) (by kernel_rfl) ?_
                refine ds0 (.elt (1, 1) x44.2.1.toNat 0) (s_idxO (t := .int) (o := (1, 1)) (len := l36_m10.length) (k := .i64) (m := x44.2.1) (by kernel_rfl) (by kernel_rfl) rfl p47 rfl (getN_lt e47)) ?_
                refine dsl (.int .i64 x47) (s_ldE (i := (1, 1)) (j := x44.2.1.toNat) (k := 0) (e := 3) (t := .int) (xs := l36_m10) (by kernel_rfl) (by kernel_rfl) e47 (by kernel_rfl)) ?_
                refine ds0 (.own (1, 1) .int 0 l36_m10.length) (by kernel_rfl) ?_
                refine ds0 (.box (20, 11) 2) (by kernel_rfl) ?_
                refine dsl (.int .i64 x44.2.2.1) (by kernel_rfl) ?_
                refine ds0 (.elt (1, 1) x44.2.2.1.toNat 0) (s_idxO (t := .int) (o := (1, 1)) (len := l36_m10.length) (k := .i64) (m := x44.2.2.1) (by kernel_rfl) (by kernel_rfl) rfl p48 rfl (getN_lt e48)) ?_
                refine dsl (.int .i64 x48) (s_ldE (i := (1, 1)) (j := x44.2.2.1.toNat) (k := 0) (e := 3) (t := .int) (xs := l36_m10) (by kernel_rfl) (by kernel_rfl) e48 (by kernel_rfl)) ?_
                refine ds0 (.int .i64 (IntKind.i64.wrap (x47 + x48))) (by kernel_rfl) ?_
                refine dcall (.int .i64 y49) [] [(.int .i64 a1), (.int .i64 (IntKind.i64.wrap (x47 + x48)))] _ (caps := []) (args0 := [(.int .i64 a1), (.int .i64 (IntKind.i64.wrap (x47 + x48)))]) trivial (by kernel_rfl) (by kernel_rfl) (by kernel_rfl) (by kernel_rfl) (ok_impl_mod h49) hb_impl_mod (by kernel_rfl) ?_
                refine ds0 (.elt (1, 1) x42.toNat 0) (s_idxO (t := .int) (o := (1, 1)) (len := l36_m10.length) (k := .i64) (m := x42) (by kernel_rfl) (by kernel_rfl) rfl p50 rfl (getN_lt e50)) ?_
                refine dsn2 (1, 1) (1, 1) (.arr 3 .int (l36_m10.set x42.toNat y49)) (s_stE (i := (1, 1)) (j := x42.toNat) (k := 0) (e := 3) (t := .int) (xs := l36_m10) (cs := [(.int .i64 y49)]) (x1 := y49) (by kernel_rfl) (by kernel_rfl) e50 (by kernel_rfl) (by kernel_rfl)) ?_
                refine dnil (by kernel_rfl) (bn_ (tn_ ?_))
                obtain rfl := Option.some.inj h
                exact ⟨_, ((weak_tm_ 10 (.own (1, 1) .int 0 l36_m10.length) (.own (1, 1) .int 0 ((l36_m10.set x42.toNat y49).length)) (by kernel_rfl) (congrArg (fun z_ => ((.own (1, 1) .int 0 z_) : AV)) (((rfl : l36_m10.length = l36_m10.length).trans List.length_set.symm) : l36_m10.length = (l36_m10.set x42.toNat y49).length))).trans (weak_ren (renF []) (by kernel_rfl) (by kernel_rfl) (by kernel_rfl))), rfl⟩
              · refine awp_condF_ q46 (by kernel_rfl) ?_
                obtain ⟨x51, f51, h⟩ := ob_some h
                obtain ⟨p51, b51, e51⟩ := getI_some f51
                obtain ⟨y52, h52, h⟩ := ob_some h
                obtain ⟨x53, f53, h⟩ := ob_some h
                obtain ⟨p53, b53, e53⟩ := getI_some f53
                refine awp_regionD_ 30 (by kernel_rfl) ?_
                refine ds0 (.own (1, 1) .int 0 l36_m10.length) (by kernel_rfl) ?_
                refine ds0 (.int .i64 x42) (by kernel_rfl) ?_
                refine ds0 (.int .i64 a1) (by kernel_rfl) ?_
                refine ds0 (.box (20, 11) 3) (by kernel_rfl) ?_
                refine dsl (.int .i64 x44.2.2.2) (by kernel_rfl) ?_
                refine ds0 (.own (1, 1) .int 0 l36_m10.length) (by kernel_rfl) ?_
                refine ds0 (.box (20, 11) 1) (by kernel_rfl) ?_
                refine dsl (.int .i64 x44.2.1) (by kernel_rfl) ?_
                refine ds0 (.elt (1, 1) x44.2.1.toNat 0) (s_idxO (t := .int) (o := (1, 1)) (len := l36_m10.length) (k := .i64) (m := x44.2.1) (by kernel_rfl) (by kernel_rfl) rfl p51 rfl (getN_lt e51)) ?_
                refine dsl (.int .i64 x51) (s_ldE (i := (1, 1)) (j := x44.2.1.toNat) (k := 0) (e := 3) (t := .int) (xs := l36_m10) (by kernel_rfl) (by kernel_rfl) e51 (by kernel_rfl)) ?_
                refine ds0 (.int .i64 (IntKind.i64.wrap (x44.2.2.2 * x51))) (by kernel_rfl) ?_
                refine dcall (.int .i64 y52) [] [(.int .i64 a1), (.int .i64 (IntKind.i64.wrap (x44.2.2.2 * x51)))] _ (caps := []) (args0 := [(.int .i64 a1), (.int .i64 (IntKind.i64.wrap (x44.2.2.2 * x51)))]) trivial (by kernel_rfl) (by kernel_rfl) (by kernel_rfl) (by kernel_rfl) (ok_impl_mod h52) hb_impl_mod (by kernel_rfl) ?_
                refine ds0 (.elt (1, 1) x42.toNat 0) (s_idxO (t := .int) (o := (1, 1)) (len := l36_m10.length) (k := .i64) (m := x42) (by kernel_rfl) (by kernel_rfl) rfl p53 rfl (getN_lt e53)) ?_
                refine dsn2 (1, 1) (1, 1) (.arr 3 .int (l36_m10.set x42.toNat y52)) (s_stE (i := (1, 1)) (j := x42.toNat) (k := 0) (e := 3) (t := .int) (xs := l36_m10) (cs := [(.int .i64 y52)]) (x1 := y52) (by kernel_rfl) (by kernel_rfl) e53 (by kernel_rfl) (by kernel_rfl)) ?_
                refine dnil (by kernel_rfl) (bn_ (tn_ ?_))
                obtain rfl := Option.some.inj h
                exact ⟨_, ((weak_tm_ 10 (.own (1, 1) .int 0 l36_m10.length) (.own (1, 1) .int 0 ((l36_m10.set x42.toNat y52).length)) (by kernel_rfl) (congrArg (fun z_ => ((.own (1, 1) .int 0 z_) : AV)) (((rfl : l36_m10.length = l36_m10.length).trans List.length_set.symm) : l36_m10.length = (l36_m10.set x42.toNat y52).length))).trans (weak_ren (renF []) (by kernel_rfl) (by kernel_rfl) (by kernel_rfl))), rfl⟩
            · rintro l40_m10 _ rfl h
              (try dsimp only at h)
              obtain ⟨g54, h⟩ := og_some h
              refine awp_region_ 4 (by kernel_rfl) ?_
              refine rs0 (.int .i64 ((l36_m72 + 1 : Nat) : Int)) (s_add1 (j := l36_m72) (by kernel_rfl) (by kernel_rfl) g54) ?_
              refine rs0 (.int .i64 ((l36_m72 + 1 : Nat) : Int)) (by kernel_rfl) ?_
              refine rnil (tn_ ?_)
              obtain rfl := Option.some.inj h
              exact ⟨(l36_m72 + 1, l40_m10), _, (weak_ren (renF []) (by kernel_rfl) (by kernel_rfl) (by kernel_rfl)), ⟨l36_m72 + 1, l40_m10, rfl, rfl⟩, hn36⟩
          · have q39_ := of_decide_eq_false q39
            refine awp_condF_ q39 (by kernel_rfl) ?_
            refine awp_exit_ (te_ (te_ (be_ (tn_ ?_))))
            obtain rfl := Option.some.inj h
            have h := hn36
            (try dsimp only at h)
            obtain rfl := Option.some.inj h
            exact ⟨_, (weak_ren (renF []) (by kernel_rfl) (by kernel_rfl) (by kernel_rfl)), rfl⟩
      · rintro l34_m10 _ rfl h
        (try dsimp only at h)
        refine awp_seq_ ?_
        refine awp_region_ 4 (by kernel_rfl) ?_
        refine rs1 (.own (114, 2) .int 0 0) (114, 2) (.arr 3 .int []) (by kernel_rfl) ?_
        refine rs0 (.own (114, 2) .int 0 0) (by kernel_rfl) ?_
        refine rnil (tn_ ?_)
        refine awp_seqB h (fun (l56_m21 : List Int) S_ => S_ = ⟨mkTm [(4, (.box (0, 1) 0)), (10, (.own (1, 1) .int 0 l34_m10.length)), (21, (.own (2, 1) .int 0 l56_m21.length))], mkOb (someL [((0, 1), .cells 31 [(.int .i64 a0_0), (.tree (.pair .int (.pair .int (.pair .int .int))) a0_1), (.tree .int a0_2)]), ((1, 1), .arr 3 .int l34_m10), ((2, 1), .arr 3 .int l56_m21)]), 2⟩) ?_ ?_
        · intro v_ h
          refine awp_seq_ ?_
          refine awp_region_ 7 (by kernel_rfl) ?_
          refine rs0 (.own (2, 1) .int 0 y5.length) (by kernel_rfl) ?_
          refine rs0 (.int .i64 ((y5.length : Nat) : Int)) (by kernel_rfl) ?_
          refine rs0 (.int .i64 0) (by kernel_rfl) ?_
          refine rnil (tn_ ?_)
          refine awp_block_ ?_
          refine awp_loopL h (fun t_ S_ => ∃ (l58_m117 : Nat), ∃ (l58_m21 : List Int), t_ = (l58_m117, l58_m21) ∧ S_ = ⟨mkTm [(4, (.box (0, 1) 0)), (10, (.own (1, 1) .int 0 l34_m10.length)), (21, (.own (2, 1) .int 0 l58_m21.length)), (115, (.own (3, 1) .int 0 y5.length)), (116, (.int .i64 ((y5.length : Nat) : Int))), (117, (.int .i64 ((l58_m117 : Nat) : Int)))], mkOb (someL [((0, 1), .cells 31 [(.int .i64 a0_0), (.tree (.pair .int (.pair .int (.pair .int .int))) a0_1), (.tree .int a0_2)]), ((1, 1), .arr 3 .int l34_m10), ((2, 1), .arr 3 .int l58_m21), ((3, 1), .arr 3 .int y5)]), 2⟩) ⟨_, (weak_ren (renF [((2, 1), (114, 2)), ((3, 1), (2, 1))]) (by kernel_rfl) (by kernel_rfl) (by kernel_rfl)), ⟨0, [], rfl, rfl⟩⟩ ?_
          · rintro n_ _ _ c_ ⟨l58_m117, l58_m21, rfl, rfl⟩ h hn58
            (try dsimp only at h)
            unfold L_impl_Circuit_step_l4 at h
            unfold m_impl_Circuit_step_l4
            refine awp_seq_ ?_
            refine awp_region_ 3 (by kernel_rfl) ?_
            refine rs0 (.bool (decide (((l58_m117 : Nat) : Int) < ((y5.length : Nat) : Int)))) (by kernel_rfl) ?_
            refine rnil (tn_ ?_)
            refine awp_seq_ ?_
            rcases cond_some h with ⟨q61, h⟩ | ⟨q61, h⟩
            · have q61_ := of_decide_eq_true q61
              refine awp_condT_ q61 (by kernel_rfl) ?_
              refine awp_skip_ (tn_ ?_)
              refine awp_seq_ ?_
              refine awp_block_ ?_
              refine awp_seq_ ?_
              obtain ⟨x64, e64, h⟩ := ob_some h
              refine awp_region_ 6 (by kernel_rfl) ?_
              refine rs0 (.elt (3, 1) l58_m117 0) (s_idxO (t := .int) (o := (3, 1)) (len := y5.length) (k := .i64) (m := ((l58_m117 : Nat) : Int)) (by kernel_rfl) (by kernel_rfl) rfl (nat_nn _) rfl (getN_lt e64)) ?_
              refine rsl (.int .i64 x64) (s_ldE (i := (3, 1)) (j := l58_m117) (k := 0) (e := 3) (t := .int) (xs := y5) (by kernel_rfl) (by kernel_rfl) e64 (by kernel_rfl)) ?_
              refine rs0 (.int .i64 x64) (by kernel_rfl) ?_
              refine rnil (tn_ ?_)
              obtain ⟨x65, f65, h⟩ := ob_some h
              obtain ⟨p65, b65, e65⟩ := getI_some f65
              obtain ⟨x66, f66, h⟩ := ob_some h
              obtain ⟨p66, b66, e66⟩ := getI_some f66
              obtain ⟨g67, h⟩ := og_some h
              refine awp_region_ 19 (by kernel_rfl) ?_
              refine rs0 (.own (2, 1) .int 0 l58_m21.length) (by kernel_rfl) ?_
              refine rs0 (.own (1, 1) .int 0 l34_m10.length) (by kernel_rfl) ?_
              refine rs0 (.box (0, 1) 1) (by kernel_rfl) ?_
              refine rsl (.tree (.pair .int (.pair .int (.pair .int .int))) a0_1) (by kernel_rfl) ?_
              refine rs0 (.int .i64 x64) (by kernel_rfl) ?_
              refine rs0 (.telt (.pair .int (.pair .int (.pair .int .int))) x65 0) (s_idxT (t := (.pair .int (.pair .int (.pair .int .int)))) (xs := a0_1) (k := .i64) (m := x64) (by kernel_rfl) (by kernel_rfl) rfl p65 rfl e65) ?_
              refine rs0 (.telt (.pair .int (.pair .int (.pair .int .int))) x65 1) (by kernel_rfl) ?_
              refine rs0 (.int .i64 x65.2.1) (by kernel_rfl) ?_
              refine rs0 (.elt (1, 1) x65.2.1.toNat 0) (s_idxO (t := .int) (o := (1, 1)) (len := l34_m10.length) (k := .i64) (m := x65.2.1) (by kernel_rfl) (by kernel_rfl) rfl p66 rfl (getN_lt e66)) ?_
              refine rsl (.int .i64 x66) (s_ldE (i := (1, 1)) (j := x65.2.1.toNat) (k := 0) (e := 3) (t := .int) (xs := l34_m10) (by kernel_rfl) (by kernel_rfl) e66 (by kernel_rfl)) ?_
              refine rs1 (.own (131, 16) .int 0 1) (131, 16) (.arr 3 .int ([x66])) (by kernel_rfl) ?_
              refine rs2 (.own (2, 17) .int 0 ((l58_m21 ++ ([x66])).length)) (2, 1) (2, 17) (.arr 3 .int (l58_m21 ++ ([x66]))) (s_appO (t := .int) (t' := .int) (xs := l58_m21) (ys := [x66]) (zs := l58_m21 ++ ([x66])) (j := (2, 1)) (len := l58_m21.length) (c := (.own (131, 16) .int 0 1)) (by kernel_rfl) (by kernel_rfl) rfl (by kernel_rfl) (sr_own (e := 3) (by kernel_rfl) rfl) rfl g67) ?_
              refine rs0 (.own (2, 17) .int 0 ((l58_m21 ++ ([x66])).length)) (by kernel_rfl) ?_
              refine rnil (bn_ (tn_ ?_))
              obtain ⟨g68, h⟩ := og_some h
              refine awp_region_ 21 (by kernel_rfl) ?_
              refine rs0 (.int .i64 ((l58_m117 + 1 : Nat) : Int)) (s_add1 (j := l58_m117) (by kernel_rfl) (by kernel_rfl) g68) ?_
              refine rs0 (.int .i64 ((l58_m117 + 1 : Nat) : Int)) (by kernel_rfl) ?_
              refine rnil (tn_ ?_)
              obtain rfl := Option.some.inj h
              exact ⟨(l58_m117 + 1, l58_m21 ++ ([x66])), _, (weak_ren (renF [((2, 1), (2, 17))]) (by kernel_rfl) (by kernel_rfl) (by kernel_rfl)), ⟨l58_m117 + 1, l58_m21 ++ ([x66]), rfl, rfl⟩, hn58⟩
            · have q61_ := of_decide_eq_false q61
              refine awp_condF_ q61 (by kernel_rfl) ?_
              refine awp_exit_ (te_ (te_ (be_ (tn_ ?_))))
              obtain rfl := Option.some.inj h
              have h := hn58
              (try dsimp only at h)
              obtain rfl := Option.some.inj h
              exact ⟨_, (weak_ren (renF []) (by kernel_rfl) (by kernel_rfl) (by kernel_rfl)), rfl⟩
        · rintro l56_m21 _ rfl h
          (try dsimp only at h)
          refine awp_seq_ ?_
          obtain ⟨y70, h70, h⟩ := ob_some h
          refine awp_region_ 9 (by kernel_rfl) ?_
          refine rs0 (.own (2, 1) .int 0 l56_m21.length) (by kernel_rfl) ?_
          refine rs0 (.own (1, 1) .int 0 l34_m10.length) (by kernel_rfl) ?_
          refine rs0 (.box (0, 1) 2) (by kernel_rfl) ?_
          refine rsl (.tree .int a0_2) (by kernel_rfl) ?_
          refine rcall (.own (2208, 6) .int 0 y70.length) [((2208, 6), some (.arr 3 .int y70))] [(.own (1, 1) .int 0 l34_m10.length), (.tree .int a0_2)] _ (caps := []) (args0 := [(.tree .int l34_m10), (.tree .int a0_2)]) trivial (by kernel_rfl) (by kernel_rfl) (gm_cons (gd_own (e := 3) (by kernel_rfl) rfl) (gm_cons (by kernel_rfl) gm_nil)) (by kernel_rfl) (ok_impl_chosen h70) hb_impl_chosen (by kernel_rfl) ?_
          refine rs0 (.own (2, 1) .int 0 l56_m21.length) (by kernel_rfl) ?_
          refine rs0 (.own (2208, 6) .int 0 y70.length) (by kernel_rfl) ?_
          refine rnil (tn_ ?_)
          refine awp_ret_ ?_
          obtain rfl := Option.some.inj h
          exact ret_ [(.own (2, 1) .int 0 l56_m21.length), (.own (2208, 6) .int 0 y70.length)] (by simp) (by kernel_rfl) (p_one rfl (l_own (by kernel_rfl) rfl) (p_one rfl (l_own (by kernel_rfl) rfl) p_nil)) (by kernel_rfl) (by kernel_rfl)
def m_impl_StepCircuit : AC :=
  (.seq (.region [⟨(some 5), none, (.i (.box 31 (.tmp 1)))⟩, ⟨(some 8), none, (.i (.mov (.cst .nils)))⟩, ⟨(some 9), none, (.i (.mov (.cst .nils)))⟩, ⟨(some 10), none, (.i (.mov (.cst (.bool false))))⟩] false [])
  (.seq (.seq (.region [⟨(some 13), none, (.i (.mov (.tmp 0)))⟩, ⟨(some 14), none, (.i (.ld false 3 (.tmp 5)))⟩, ⟨(some 15), none, (.call (.cst (.fn 37 [])) [(.tmp 13), (.tmp 14)] [[], [none, (some (.pair .int (.pair .int (.pair .int .int)))), (some .int)]])⟩, ⟨(some 16), none, (.i (.not (.tmp 15)))⟩, ⟨(some 17), none, (.i (.mov (.tmp 16)))⟩, ⟨(some 18), (some (17, false)), (.i (.mov (.tmp 0)))⟩, ⟨(some 19), (some (17, false)), (.i (.mov (.tmp 2)))⟩, ⟨(some 20), (some (17, false)), (.i (.ld false 3 (.tmp 5)))⟩, ⟨(some 21), (some (17, false)), (.call (.cst (.fn 62 [])) [(.tmp 20)] [[none, (some (.pair .int (.pair .int (.pair .int .int)))), (some .int)]])⟩, ⟨(some 22), (some (17, false)), (.i (.len (.tmp 21)))⟩, ⟨(some 23), (some (17, false)), (.call (.cst (.fn 61 [])) [(.tmp 18), (.tmp 19), (.tmp 22)] [[], [(some .int)], []])⟩, ⟨(some 24), (some (17, false)), (.i (.not (.tmp 23)))⟩, ⟨(some 25), none, (.i (.pick (.tmp 17) (.cst (.bool true)) (.tmp 24)))⟩, ⟨(some 26), none, (.i (.mov (.tmp 25)))⟩, ⟨(some 27), (some (26, false)), (.i (.mov (.tmp 0)))⟩, ⟨(some 28), (some (26, false)), (.i (.mov (.tmp 3)))⟩, ⟨(some 29), (some (26, false)), (.i (.fld 0 (.tmp 5)))⟩, ⟨(some 30), (some (26, false)), (.i (.ld true 1 (.tmp 29)))⟩, ⟨(some 31), (some (26, false)), (.call (.cst (.fn 61 [])) [(.tmp 27), (.tmp 28), (.tmp 30)] [[], [(some .int)], []])⟩, ⟨(some 32), (some (26, false)), (.i (.not (.tmp 31)))⟩, ⟨(some 33), none, (.i (.pick (.tmp 26) (.cst (.bool true)) (.tmp 32)))⟩] false [])
  (.cond (.tmp 33)
    (.seq (.region [⟨(some 8), none, (.i (.mov (.cst .nils)))⟩, ⟨(some 9), none, (.i (.mov (.cst .nils)))⟩, ⟨(some 10), none, (.i (.mov (.cst (.bool false))))⟩] false [])
    .ret)
    .skip))
  (.seq (.region [⟨(some 35), none, (.i (.ld false 3 (.tmp 5)))⟩, ⟨(some 36), none, (.i (.mov (.tmp 0)))⟩, ⟨(some 37), none, (.i (.mov (.tmp 2)))⟩, ⟨(some 38), none, (.i (.mov (.tmp 3)))⟩, ⟨(some 39), none, (.call (.cst (.fn 63 [])) [(.tmp 35), (.tmp 36), (.tmp 37), (.tmp 38)] [[none, (some (.pair .int (.pair .int (.pair .int .int)))), (some .int)], [], [(some .int)], [(some .int)]])⟩, ⟨(some 34), none, (.i (.mov (.tmp 39)))⟩, ⟨(some 40), none, (.i (.extr 0 (.tmp 34)))⟩, ⟨(some 41), none, (.i (.extr 1 (.tmp 34)))⟩, ⟨(some 11), none, (.i (.mov (.tmp 40)))⟩, ⟨(some 12), none, (.i (.mov (.tmp 41)))⟩] false [])
  (.seq (.region [⟨(some 42), none, (.i (.mov (.tmp 11)))⟩, ⟨(some 43), none, (.i (.mov (.tmp 12)))⟩, ⟨(some 8), none, (.i (.mov (.tmp 42)))⟩, ⟨(some 9), none, (.i (.mov (.tmp 43)))⟩, ⟨(some 10), none, (.i (.mov (.cst (.bool true))))⟩] false [])
  .ret))))
def r_impl_StepCircuit : List Res := [.tmp 8, .tmp 9, .tmp 10]
theorem c_impl_StepCircuit : compiled Tryd.prog Tryd.f28 = some (m_impl_StepCircuit, r_impl_StepCircuit) := by kernel_rfl
theorem hb_impl_StepCircuit : hasBody Tryd.prog 28 = true := by kernel_rfl
def L_impl_StepCircuit (a0 : Int) (a1_0 : Int) (a1_1 : List (Int × Int × Int × Int)) (a1_2 : List Int) (a2 : List Int) (a3 : List Int) : Option (List Int × List Int × Bool) :=
  Option.bind (Option.bind (L_impl_isCircuit a0 a1_0 a1_1 a1_2) fun y4 =>
  cond (!y4)
    (some true)
    (Option.bind (L_impl_Circuit_delays a1_0 a1_1 a1_2) fun y6 =>
    Option.bind (L_impl_isVector a0 a2 ((y6.length : Nat) : Int)) fun y7 =>
    cond (!y7)
      (some true)
      (Option.bind (L_impl_isVector a0 a3 a1_0) fun y9 =>
      some (!y9)))) fun l3_m33 =>
cond l3_m33
  (some ([], [], false))
  (Option.bind (L_impl_Circuit_step a1_0 a1_1 a1_2 a0 a2 a3) fun y13 =>
  some (y13.1, y13.2, true))
def rv_impl_StepCircuit (r : List Int × List Int × Bool) : RV := ⟨true, [(false, [.new 3 .int r.1]), (false, [.new 3 .int r.2.1]), (false, [.sc (.bool r.2.2)])]⟩
theorem ok_impl_StepCircuit {a0 : Int} {a1_0 : Int} {a1_1 : List (Int × Int × Int × Int)} {a1_2 : List Int} {a2 : List Int} {a3 : List Int} {r : List Int × List Int × Bool} (h : L_impl_StepCircuit a0 a1_0 a1_1 a1_2 a2 a3 = some r) : CallOK Tryd.prog Tab 28 [(.int .i64 a0), (.agg [(.int .i64 a1_0), (.tree (.pair .int (.pair .int (.pair .int .int))) a1_1), (.tree .int a1_2)]), (.tree .int a2), (.tree .int a3)] (rv_impl_StepCircuit r) := by
  refine call_of_ (by kernel_rfl) Tryd.func28 c_impl_StepCircuit (n := 44) (by kernel_rfl) (by simp) (tl := [(0, (.int .i64 a0)), (1, (.agg [(.int .i64 a1_0), (.tree (.pair .int (.pair .int (.pair .int .int))) a1_1), (.tree .int a1_2)])), (2, (.tree .int a2)), (3, (.tree .int a3))]) rfl ?_
  unfold m_impl_StepCircuit
  unfold L_impl_StepCircuit at h
  refine awp_seq_ ?_
  refine awp_region_ 5 (by kernel_rfl) ?_
  refine rs1 (.box (5, 1) 0) (5, 1) (.cells 31 [(.int .i64 a1_0), (.tree (.pair .int (.pair .int (.pair .int .int))) a1_1), (.tree .int a1_2)]) (by kernel_rfl) ?_
  refine rs0 .nils (by kernel_rfl) ?_
  refine rs0 .nils (by kernel_rfl) ?_
  refine rs0 (.bool false) (by kernel_rfl) ?_
  refine rnil (tn_ ?_)
  refine awp_seq_ ?_
  refine awp_seqB h (fun (l3_m33 : Bool) S_ => S_ = ⟨mkTm [(0, (.int .i64 a0)), (2, (.tree .int a2)), (3, (.tree .int a3)), (5, (.box (0, 1) 0)), (33, (.bool l3_m33))], mkOb (someL [((0, 1), .cells 31 [(.int .i64 a1_0), (.tree (.pair .int (.pair .int (.pair .int .int))) a1_1), (.tree .int a1_2)])]), 2⟩) ?_ ?_
  · intro v_ h
    obtain ⟨y4, h4, h⟩ := ob_some h
    rcases cond_some h with ⟨q5, h⟩ | ⟨q5, h⟩
    · refine awp_region_ 26 (by kernel_rfl) ?_
      refine rs0 (.int .i64 a0) (by kernel_rfl) ?_
      refine rsl (.agg [(.int .i64 a1_0), (.tree (.pair .int (.pair .int (.pair .int .int))) a1_1), (.tree .int a1_2)]) (by kernel_rfl) ?_
      refine rcall (.bool y4) [] [(.int .i64 a0), (.agg [(.int .i64 a1_0), (.tree (.pair .int (.pair .int (.pair .int .int))) a1_1), (.tree .int a1_2)])] _ (caps := []) (args0 := [(.int .i64 a0), (.agg [(.int .i64 a1_0), (.tree (.pair .int (.pair .int (.pair .int .int))) a1_1), (.tree .int a1_2)])]) trivial (by kernel_rfl) (by kernel_rfl) (by kernel_rfl) (by kernel_rfl) (ok_impl_isCircuit h4) hb_impl_isCircuit (by kernel_rfl) ?_
      refine rs0 (.bool (!y4)) (by kernel_rfl) ?_
      refine rs0 (.bool (!y4)) (by kernel_rfl) ?_
      refine rs0 (.tup []) (s_skip (by kernel_rfl) q5) ?_
      refine rs0 (.tup []) (s_skip (by kernel_rfl) q5) ?_
      refine rs0 (.tup []) (s_skip (by kernel_rfl) q5) ?_
      refine rs0 (.tup []) (s_skip (by kernel_rfl) q5) ?_
      refine rs0 (.tup []) (s_skip (by kernel_rfl) q5) ?_
      refine rs0 (.tup []) (s_skip (by kernel_rfl) q5) ?_
      refine rs0 (.tup []) (s_skip (by kernel_rfl) q5) ?_
      refine rs0 (.bool true) (s_pickT (by kernel_rfl) q5) ?_
      refine rs0 (.bool true) (by kernel_rfl) ?_
      refine rs0 (.tup []) (by kernel_rfl) ?_
      refine rs0 (.tup []) (by kernel_rfl) ?_
      refine rs0 (.tup []) (by kernel_rfl) ?_
      refine rs0 (.tup []) (by kernel_rfl) ?_
      refine rs0 (.tup []) (by kernel_rfl) ?_
      refine rs0 (.tup []) (by kernel_rfl) ?_
      refine rs0 (.bool true) (by kernel_rfl) ?_
      refine rnil (tn_ ?_)
      obtain rfl := Option.some.inj h
      exact ⟨_, (weak_ren (renF [((0, 1), (5, 1))]) (by kernel_rfl) (by kernel_rfl) (by kernel_rfl)), rfl⟩
    · obtain ⟨y6, h6, h⟩ := ob_some h
      obtain ⟨y7, h7, h⟩ := ob_some h
      rcases cond_some h with ⟨q8, h⟩ | ⟨q8, h⟩
      · refine awp_region_ 26 (by kernel_rfl) ?_
        refine rs0 (.int .i64 a0) (by kernel_rfl) ?_
        refine rsl (.agg [(.int .i64 a1_0), (.tree (.pair .int (.pair .int (.pair .int .int))) a1_1), (.tree .int a1_2)]) (by kernel_rfl) ?_
        refine rcall (.bool y4) [] [(.int .i64 a0), (.agg [(.int .i64 a1_0), (.tree (.pair .int (.pair .int (.pair .int .int))) a1_1), (.tree .int a1_2)])] _ (caps := []) (args0 := [(.int .i64 a0), (.agg [(.int .i64 a1_0), (.tree (.pair .int (.pair .int (.pair .int .int))) a1_1), (.tree .int a1_2)])]) trivial (by kernel_rfl) (by kernel_rfl) (by kernel_rfl) (by kernel_rfl) (ok_impl_isCircuit h4) hb_impl_isCircuit (by kernel_rfl) ?_
        refine rs0 (.bool (!y4)) (by kernel_rfl) ?_
        refine rs0 (.bool (!y4)) (by kernel_rfl) ?_
        refine rs0 (.int .i64 a0) (s_gd (by kernel_rfl) q5 (by kernel_rfl)) ?_
        refine rs0 (.tree .int a2) (s_gd (by kernel_rfl) q5 (by kernel_rfl)) ?_
        refine rsl (.agg [(.int .i64 a1_0), (.tree (.pair .int (.pair .int (.pair .int .int))) a1_1), (.tree .int a1_2)]) (s_gd (by kernel_rfl) q5 (by kernel_rfl)) ?_
        refine rcall (.own (336, 13) .int 0 y6.length) [((336, 13), some (.arr 3 .int y6))] [(.agg [(.int .i64 a1_0), (.tree (.pair .int (.pair .int (.pair .int .int))) a1_1), (.tree .int a1_2)])] _ (caps := []) (args0 := [(.agg [(.int .i64 a1_0), (.tree (.pair .int (.pair .int (.pair .int .int))) a1_1), (.tree .int a1_2)])]) (gdOK_b (by kernel_rfl) q5) (by kernel_rfl) (by kernel_rfl) (by kernel_rfl) (by kernel_rfl) (ok_impl_Circuit_delays h6) hb_impl_Circuit_delays (by kernel_rfl) ?_
        refine rs0 (.int .i64 ((y6.length : Nat) : Int)) (s_gd (by kernel_rfl) q5 (by kernel_rfl)) ?_
        refine rcall (.bool y7) [] [(.int .i64 a0), (.tree .int a2), (.int .i64 ((y6.length : Nat) : Int))] _ (caps := []) (args0 := [(.int .i64 a0), (.tree .int a2), (.int .i64 ((y6.length : Nat) : Int))]) (gdOK_b (by kernel_rfl) q5) (by kernel_rfl) (by kernel_rfl) (by kernel_rfl) (by kernel_rfl) (ok_impl_isVector h7) hb_impl_isVector (by kernel_rfl) ?_
        refine rs0 (.bool (!y7)) (s_gd (by kernel_rfl) q5 (by kernel_rfl)) ?_
        refine rs0 (.bool (!y7)) (s_pickF (by kernel_rfl) q5) ?_
        refine rs0 (.bool (!y7)) (by kernel_rfl) ?_
        refine rs0 (.tup []) (s_skip (by kernel_rfl) q8) ?_
        refine rs0 (.tup []) (s_skip (by kernel_rfl) q8) ?_
        refine rs0 (.tup []) (s_skip (by kernel_rfl) q8) ?_
        refine rs0 (.tup []) (s_skip (by kernel_rfl) q8) ?_
        refine rs0 (.tup []) (s_skip (by kernel_rfl) q8) ?_
        refine rs0 (.tup []) (s_skip (by kernel_rfl) q8) ?_
        refine rs0 (.bool true) (s_pickT (by kernel_rfl) q8) ?_
        refine rnil (tn_ ?_)
        obtain rfl := Option.some.inj h
        exact ⟨_, (weak_ren (renF [((0, 1), (5, 1))]) (by kernel_rfl) (by kernel_rfl) (by kernel_rfl)), rfl⟩
      · obtain ⟨y9, h9, h⟩ := ob_some h
        refine awp_region_ 26 (by kernel_rfl) ?_
        refine rs0 (.int .i64 a0) (by kernel_rfl) ?_
        refine rsl (.agg [(.int .i64 a1_0), (.tree (.pair .int (.pair .int (.pair .int .int))) a1_1), (.tree .int a1_2)]) (by kernel_rfl) ?_
        refine rcall (.bool y4) [] [(.int .i64 a0), (.agg [(.int .i64 a1_0), (.tree (.pair .int (.pair .int (.pair .int .int))) a1_1), (.tree .int a1_2)])] _ (caps := []) (args0 := [(.int .i64 a0), (.agg [(.int .i64 a1_0), (.tree (.pair .int (.pair .int (.pair .int .int))) a1_1), (.tree .int a1_2)])]) trivial (by kernel_rfl) (by kernel_rfl) (by kernel_rfl) (by kernel_rfl) (ok_impl_isCircuit h4) hb_impl_isCircuit (by kernel_rfl) ?_
        refine rs0 (.bool (!y4)) (by kernel_rfl) ?_
        refine rs0 (.bool (!y4)) (by kernel_rfl) ?_
        refine rs0 (.int .i64 a0) (s_gd (by kernel_rfl) q5 (by kernel_rfl)) ?_
        refine rs0 (.tree .int a2) (s_gd (by kernel_rfl) q5 (by kernel_rfl)) ?_
        refine rsl (.agg [(.int .i64 a1_0), (.tree (.pair .int (.pair .int (.pair .int .int))) a1_1), (.tree .int a1_2)]) (s_gd (by kernel_rfl) q5 (by kernel_rfl)) ?_
        refine rcall (.own (336, 13) .int 0 y6.length) [((336, 13), some (.arr 3 .int y6))] [(.agg [(.int .i64 a1_0), (.tree (.pair .int (.pair .int (.pair .int .int))) a1_1), (.tree .int a1_2)])] _ (caps := []) (args0 := [(.agg [(.int .i64 a1_0), (.tree (.pair .int (.pair .int (.pair .int .int))) a1_1), (.tree .int a1_2)])]) (gdOK_b (by kernel_rfl) q5) (by kernel_rfl) (by kernel_rfl) (by kernel_rfl) (by kernel_rfl) (ok_impl_Circuit_delays h6) hb_impl_Circuit_delays (by kernel_rfl) ?_
        refine rs0 (.int .i64 ((y6.length : Nat) : Int)) (s_gd (by kernel_rfl) q5 (by kernel_rfl)) ?_
        refine rcall (.bool y7) [] [(.int .i64 a0), (.tree .int a2), (.int .i64 ((y6.length : Nat) : Int))] _ (caps := []) (args0 := [(.int .i64 a0), (.tree .int a2), (.int .i64 ((y6.length : Nat) : Int))]) (gdOK_b (by kernel_rfl) q5) (by kernel_rfl) (by kernel_rfl) (by kernel_rfl) (by kernel_rfl) (ok_impl_isVector h7) hb_impl_isVector (by kernel_rfl) ?_
        refine rs0 (.bool (!y7)) (s_gd (by kernel_rfl) q5 (by kernel_rfl)) ?_
        refine rs0 (.bool (!y7)) (s_pickF (by kernel_rfl) q5) ?_
        refine rs0 (.bool (!y7)) (by kernel_rfl) ?_
        refine rs0 (.int .i64 a0) (s_gd (by kernel_rfl) q8 (by kernel_rfl)) ?_
        refine rs0 (.tree .int a3) (s_gd (by kernel_rfl) q8 (by kernel_rfl)) ?_
        refine rs0 (.box (5, 1) 0) (s_gd (by kernel_rfl) q8 (by kernel_rfl)) ?_
        refine rsl (.int .i64 a1_0) (s_gd (by kernel_rfl) q8 (by kernel_rfl)) ?_
        refine rcall (.bool y9) [] [(.int .i64 a0), (.tree .int a3), (.int .i64 a1_0)] _ (caps := []) (args0 := [(.int .i64 a0), (.tree .int a3), (.int .i64 a1_0)]) (gdOK_b (by kernel_rfl) q8) (by kernel_rfl) (by kernel_rfl) (by kernel_rfl) (by kernel_rfl) (ok_impl_isVector h9) hb_impl_isVector (by kernel_rfl) ?_
        refine rs0 (.bool (!y9)) (s_gd (by kernel_rfl) q8 (by kernel_rfl)) ?_
        refine rs0 (.bool (!y9)) (s_pickF (by kernel_rfl) q8) ?_
        refine rnil (tn_ ?_)
        obtain rfl := Option.some.inj h
        exact ⟨_, (weak_ren (renF [((0, 1), (5, 1))]) (by kernel_rfl) (by kernel_rfl) (by kernel_rfl)), rfl⟩
  · rintro l3_m33 _ rfl h
    (try dsimp only at h)
    rcases cond_some h with ⟨q10, h⟩ | ⟨q10, h⟩
    · refine awp_condT_ q10 (by kernel_rfl) ?_
      refine awp_seq_ ?_
      refine awp_region_ 5 (by kernel_rfl) ?_
      refine rs0 .nils (by kernel_rfl) ?_
      refine rs0 .nils (by kernel_rfl) ?_
      refine rs0 (.bool false) (by kernel_rfl) ?_
      refine rnil (tn_ ?_)
      refine awp_ret_ (tr_ ?_)
      obtain rfl := Option.some.inj h
      exact ret_ [.nils, .nils, (.bool false)] (by simp) (by kernel_rfl) (p_one rfl (l_nils rfl) (p_one rfl (l_nils rfl) (p_one rfl (l_sc (by kernel_rfl)) p_nil))) (by kernel_rfl) (by kernel_rfl)
    · refine awp_condF_ q10 (by kernel_rfl) ?_
      refine awp_skip_ (tn_ ?_)
      refine awp_seq_ ?_
      obtain ⟨y13, h13, h⟩ := ob_some h
      refine awp_region_ 12 (by kernel_rfl) ?_
      refine rsl (.agg [(.int .i64 a1_0), (.tree (.pair .int (.pair .int (.pair .int .int))) a1_1), (.tree .int a1_2)]) (by kernel_rfl) ?_
      refine rs0 (.int .i64 a0) (by kernel_rfl) ?_
      refine rs0 (.tree .int a2) (by kernel_rfl) ?_
      refine rs0 (.tree .int a3) (by kernel_rfl) ?_
      refine rcall (.tup [(.own (624, 6) .int 0 y13.1.length), (.own (625, 6) .int 0 y13.2.length)]) [((624, 6), some (.arr 3 .int y13.1)), ((625, 6), some (.arr 3 .int y13.2))] [(.agg [(.int .i64 a1_0), (.tree (.pair .int (.pair .int (.pair .int .int))) a1_1), (.tree .int a1_2)]), (.int .i64 a0), (.tree .int a2), (.tree .int a3)] _ (caps := []) (args0 := [(.agg [(.int .i64 a1_0), (.tree (.pair .int (.pair .int (.pair .int .int))) a1_1), (.tree .int a1_2)]), (.int .i64 a0), (.tree .int a2), (.tree .int a3)]) trivial (by kernel_rfl) (by kernel_rfl) (by kernel_rfl) (by kernel_rfl) (ok_impl_Circuit_step h13) hb_impl_Circuit_step (by kernel_rfl) ?_
      refine rs0 (.tup [(.own (624, 6) .int 0 y13.1.length), (.own (625, 6) .int 0 y13.2.length)]) (by kernel_rfl) ?_
      refine rs0 (.own (624, 6) .int 0 y13.1.length) (by kernel_rfl) ?_
      refine rs0 (.own (625, 6) .int 0 y13.2.length) (by kernel_rfl) ?_
      refine rs0 (.own (624, 6) .int 0 y13.1.length) (by kernel_rfl) ?_
      refine rs0 (.own (625, 6) .int 0 y13.2.length) (by kernel_rfl) ?_
      refine rnil (tn_ ?_)
      refine awp_seq_ ?_
      refine awp_region_ 17 (by kernel_rfl) ?_
      refine rs0 (.own (624, 6) .int 0 y13.1.length) (by kernel_rfl) ?_
      refine rs0 (.own (625, 6) .int 0 y13.2.length) (by kernel_rfl) ?_
      refine rs0 (.own (624, 6) .int 0 y13.1.length) (by kernel_rfl) ?_
      refine rs0 (.own (625, 6) .int 0 y13.2.length) (by kernel_rfl) ?_
      refine rs0 (.bool true) (by kernel_rfl) ?_
      refine rnil (tn_ ?_)
      refine awp_ret_ ?_
      obtain rfl := Option.some.inj h
      exact ret_ [(.own (624, 6) .int 0 y13.1.length), (.own (625, 6) .int 0 y13.2.length), (.bool true)] (by simp) (by kernel_rfl) (p_one rfl (l_own (by kernel_rfl) rfl) (p_one rfl (l_own (by kernel_rfl) rfl) (p_one rfl (l_sc (by kernel_rfl)) p_nil))) (by kernel_rfl) (by kernel_rfl)
def m_laws_FnExactStepCircuit : AC :=
  (.seq (.region [⟨(some 5), none, (.i (.box 25 (.tmp 1)))⟩, ⟨(some 8), none, (.i (.mov (.cst (.bool false))))⟩] false [])
  (.seq (.seq (.region [⟨(some 25), none, (.i (.mov (.tmp 2)))⟩, ⟨(some 26), none, (.i (.len (.tmp 25)))⟩, ⟨(some 27), none, (.i (.bin .gtr (.tmp 26) (.cst (.int .i64 1048576))))⟩] false [])
  (.cond (.tmp 27)
    (.seq (.region [⟨(some 8), none, (.i (.mov (.cst (.bool true))))⟩] false [])
    .ret)
    .skip))
  (.seq (.seq (.region [⟨(some 28), none, (.i (.mov (.tmp 3)))⟩, ⟨(some 29), none, (.i (.len (.tmp 28)))⟩, ⟨(some 30), none, (.i (.bin .gtr (.tmp 29) (.cst (.int .i64 1048576))))⟩] false [])
  (.cond (.tmp 30)
    (.seq (.region [⟨(some 8), none, (.i (.mov (.cst (.bool true))))⟩] false [])
    .ret)
    .skip))
  (.seq (.region [⟨(some 9), none, (.i (.mov (.cst (.int .i64 1048576))))⟩] false [])
  (.seq (.region [⟨(some 31), none, (.i (.ld false 3 (.tmp 5)))⟩, ⟨(some 32), none, (.i (.mov (.tmp 9)))⟩, ⟨(some 33), none, (.call (.cst (.fn 10 [])) [(.tmp 31), (.tmp 32)] [[none, (some (.pair .int (.pair .int (.pair .int .int)))), (some .int)], []])⟩, ⟨(some 9), none, (.i (.mov (.tmp 33)))⟩] false [])
  (.seq (.seq (.region [⟨(some 34), none, (.i (.mov (.tmp 9)))⟩, ⟨(some 35), none, (.i (.bin .lss (.tmp 34) (.cst (.int .i64 0))))⟩] false [])
  (.cond (.tmp 35)
    (.seq (.region [⟨(some 8), none, (.i (.mov (.cst (.bool true))))⟩] false [])
    .ret)
    .skip))
  (.seq (.region [⟨(some 37), none, (.i (.mov (.tmp 0)))⟩, ⟨(some 38), none, (.i (.ld false 3 (.tmp 5)))⟩, ⟨(some 39), none, (.call (.cst (.fn 12 [])) [(.tmp 38)] [[none, (some (.pair .int (.pair .int (.pair .int .int)))), (some .int)]])⟩, ⟨(some 40), none, (.i (.mov (.tmp 2)))⟩, ⟨(some 41), none, (.call (.cst (.fn 27 [])) [(.tmp 40)] [[(some .int)]])⟩, ⟨(some 42), none, (.i (.mov (.tmp 3)))⟩, ⟨(some 43), none, (.call (.cst (.fn 27 [])) [(.tmp 42)] [[(some .int)]])⟩, ⟨(some 44), none, (.call (.cst (.fn 26 [])) [(.tmp 37), (.tmp 39), (.tmp 41), (.tmp 43)] [[], [none, (some (.pair .int (.pair .int (.pair .int .int)))), (some .int)], [(some .int)], [(some .int)]])⟩, ⟨(some 36), none, (.i (.mov (.tmp 44)))⟩, ⟨(some 45), none, (.i (.extr 0 (.tmp 36)))⟩, ⟨(some 46), none, (.i (.extr 1 (.tmp 36)))⟩, ⟨(some 47), none, (.i (.extr 2 (.tmp 36)))⟩, ⟨(some 10), none, (.i (.mov (.tmp 45)))⟩, ⟨(some 11), none, (.i (.mov (.tmp 46)))⟩, ⟨(some 12), none, (.i (.mov (.tmp 47)))⟩] false [])
  (.seq (.region [⟨(some 48), none, (.i (.ld false 3 (.tmp 5)))⟩, ⟨(some 49), none, (.call (.cst (.fn 12 [])) [(.tmp 48)] [[none, (some (.pair .int (.pair .int (.pair .int .int)))), (some .int)]])⟩, ⟨(some 13), none, (.i (.alloc 31 [(.int .i64 0), .nils, .nils]))⟩, ⟨none, none, (.st false 3 (.tmp 13) (.tmp 49))⟩] false [])
  (.seq (.region [⟨(some 50), none, (.i (.mov (.tmp 2)))⟩, ⟨(some 51), none, (.call (.cst (.fn 27 [])) [(.tmp 50)] [[(some .int)]])⟩, ⟨(some 14), none, (.i (.mov (.tmp 51)))⟩] false [])
  (.seq (.region [⟨(some 52), none, (.i (.mov (.tmp 3)))⟩, ⟨(some 53), none, (.call (.cst (.fn 27 [])) [(.tmp 52)] [[(some .int)]])⟩, ⟨(some 15), none, (.i (.mov (.tmp 53)))⟩] false [])
  (.seq (.region [⟨(some 55), none, (.i (.mov (.tmp 0)))⟩, ⟨(some 56), none, (.i (.ld false 3 (.tmp 13)))⟩, ⟨(some 57), none, (.i (.mov (.tmp 14)))⟩, ⟨(some 58), none, (.i (.mov (.tmp 15)))⟩, ⟨(some 59), none, (.call (.cst (.fn 28 [])) [(.tmp 55), (.tmp 56), (.tmp 57), (.tmp 58)] [[], [none, (some (.pair .int (.pair .int (.pair .int .int)))), (some .int)], [(some .int)], [(some .int)]])⟩, ⟨(some 54), none, (.i (.mov (.tmp 59)))⟩, ⟨(some 60), none, (.i (.extr 0 (.tmp 54)))⟩, ⟨(some 61), none, (.i (.extr 1 (.tmp 54)))⟩, ⟨(some 62), none, (.i (.extr 2 (.tmp 54)))⟩, ⟨(some 16), none, (.i (.mov (.tmp 60)))⟩, ⟨(some 17), none, (.i (.mov (.tmp 61)))⟩, ⟨(some 18), none, (.i (.mov (.tmp 62)))⟩] false [])
  (.seq (.seq (.region [⟨(some 63), none, (.i (.mov (.tmp 16)))⟩, ⟨(some 64), none, (.i (.mov (.tmp 10)))⟩, ⟨(some 65), none, (.call (.cst (.fn 14 [])) [(.tmp 63), (.tmp 64)] [[(some .int)], [(some .int)]])⟩, ⟨(some 66), none, (.i (.not (.tmp 65)))⟩, ⟨(some 67), none, (.i (.mov (.tmp 66)))⟩, ⟨(some 68), (some (67, false)), (.i (.mov (.tmp 17)))⟩, ⟨(some 69), (some (67, false)), (.i (.mov (.tmp 11)))⟩, ⟨(some 70), (some (67, false)), (.call (.cst (.fn 14 [])) [(.tmp 68), (.tmp 69)] [[(some .int)], [(some .int)]])⟩, ⟨(some 71), (some (67, false)), (.i (.not (.tmp 70)))⟩, ⟨(some 72), none, (.i (.pick (.tmp 67) (.cst (.bool true)) (.tmp 71)))⟩, ⟨(some 73), none, (.i (.mov (.tmp 72)))⟩, ⟨(some 74), (some (73, false)), (.i (.mov (.tmp 18)))⟩, ⟨(some 75), (some (73, false)), (.i (.mov (.tmp 12)))⟩, ⟨(some 76), (some (73, false)), (.i (.cmp true 0 (.tmp 74) (.tmp 75)))⟩, ⟨(some 77), none, (.i (.pick (.tmp 73) (.cst (.bool true)) (.tmp 76)))⟩] false [])
  (.cond (.tmp 77)
    (.seq (.region [⟨(some 8), none, (.i (.mov (.cst (.bool false))))⟩] false [])
    .ret)
    .skip))
  (.seq (.seq (.region [⟨(some 78), none, (.i (.ld false 3 (.tmp 13)))⟩, ⟨(some 79), none, (.i (.ld false 3 (.tmp 5)))⟩, ⟨(some 80), none, (.call (.cst (.fn 12 [])) [(.tmp 79)] [[none, (some (.pair .int (.pair .int (.pair .int .int)))), (some .int)]])⟩, ⟨(some 81), none, (.call (.cst (.fn 15 [])) [(.tmp 78), (.tmp 80)] [[none, (some (.pair .int (.pair .int (.pair .int .int)))), (some .int)], [none, (some (.pair .int (.pair .int (.pair .int .int)))), (some .int)]])⟩, ⟨(some 82), none, (.i (.not (.tmp 81)))⟩] true [(0, 2)])
  (.cond (.tmp 82)
    (.seq (.region [⟨(some 8), none, (.i (.mov (.cst (.bool false))))⟩] false [])
    .ret)
    .skip))
  (.seq (.seq (.region [⟨(some 83), none, (.i (.mov (.tmp 14)))⟩, ⟨(some 84), none, (.i (.mov (.tmp 2)))⟩, ⟨(some 85), none, (.call (.cst (.fn 27 [])) [(.tmp 84)] [[(some .int)]])⟩, ⟨(some 86), none, (.call (.cst (.fn 14 [])) [(.tmp 83), (.tmp 85)] [[(some .int)], [(some .int)]])⟩, ⟨(some 87), none, (.i (.not (.tmp 86)))⟩] false [])
  (.cond (.tmp 87)
    (.seq (.region [⟨(some 8), none, (.i (.mov (.cst (.bool false))))⟩] false [])
    .ret)
    .skip))
  (.seq (.seq (.region [⟨(some 88), none, (.i (.mov (.tmp 15)))⟩, ⟨(some 89), none, (.i (.mov (.tmp 3)))⟩, ⟨(some 90), none, (.call (.cst (.fn 27 [])) [(.tmp 89)] [[(some .int)]])⟩, ⟨(some 91), none, (.call (.cst (.fn 14 [])) [(.tmp 88), (.tmp 90)] [[(some .int)], [(some .int)]])⟩, ⟨(some 92), none, (.i (.not (.tmp 91)))⟩] false [])
  (.cond (.tmp 92)
    (.seq (.region [⟨(some 8), none, (.i (.mov (.cst (.bool false))))⟩] false [])
    .ret)
    .skip))
  (.seq (.region [⟨(some 19), none, (.i (.mov (.cst (.int .i64 1))))⟩] false [])
  (.seq (.region [⟨(some 93), none, (.i (.ld false 3 (.tmp 13)))⟩, ⟨(some 94), none, (.i (.mov (.tmp 19)))⟩, ⟨(some 95), none, (.call (.cst (.fn 16 [])) [(.tmp 93), (.tmp 94)] [[none, (some (.pair .int (.pair .int (.pair .int .int)))), (some .int)], []])⟩, ⟨(some 19), none, (.i (.mov (.tmp 95)))⟩] false [])
  (.seq (.region [⟨(some 96), none, (.i (.mov (.tmp 14)))⟩, ⟨(some 97), none, (.i (.mov (.tmp 19)))⟩, ⟨(some 98), none, (.call (.cst (.fn 17 [])) [(.tmp 96), (.tmp 97)] [[(some .int)], []])⟩, ⟨(some 19), none, (.i (.mov (.tmp 98)))⟩] false [])
  (.seq (.region [⟨(some 99), none, (.i (.mov (.tmp 15)))⟩, ⟨(some 100), none, (.i (.mov (.tmp 19)))⟩, ⟨(some 101), none, (.call (.cst (.fn 17 [])) [(.tmp 99), (.tmp 100)] [[(some .int)], []])⟩, ⟨(some 19), none, (.i (.mov (.tmp 101)))⟩] false [])
  (.seq (.seq (.region [⟨(some 102), none, (.i (.mov (.tmp 19)))⟩, ⟨(some 103), none, (.i (.bin .lss (.tmp 102) (.cst (.int .i64 0))))⟩, ⟨(some 104), none, (.i (.mov (.tmp 103)))⟩, ⟨(some 105), (some (104, false)), (.i (.mov (.tmp 16)))⟩, ⟨(some 106), (some (104, false)), (.i (.mov (.tmp 10)))⟩, ⟨(some 107), (some (104, false)), (.call (.cst (.fn 14 [])) [(.tmp 105), (.tmp 106)] [[(some .int)], [(some .int)]])⟩, ⟨(some 108), (some (104, false)), (.i (.not (.tmp 107)))⟩, ⟨(some 109), none, (.i (.pick (.tmp 104) (.cst (.bool true)) (.tmp 108)))⟩, ⟨(some 110), none, (.i (.mov (.tmp 109)))⟩, ⟨(some 111), (some (110, false)), (.i (.mov (.tmp 17)))⟩, ⟨(some 112), (some (110, false)), (.i (.mov (.tmp 11)))⟩, ⟨(some 113), (some (110, false)), (.call (.cst (.fn 14 [])) [(.tmp 111), (.tmp 112)] [[(some .int)], [(some .int)]])⟩, ⟨(some 114), (some (110, false)), (.i (.not (.tmp 113)))⟩, ⟨(some 115), none, (.i (.pick (.tmp 110) (.cst (.bool true)) (.tmp 114)))⟩, ⟨(some 116), none, (.i (.mov (.tmp 115)))⟩, ⟨(some 117), (some (116, false)), (.i (.mov (.tmp 18)))⟩, ⟨(some 118), (some (116, false)), (.i (.mov (.tmp 12)))⟩, ⟨(some 119), (some (116, false)), (.i (.cmp true 0 (.tmp 117) (.tmp 118)))⟩, ⟨(some 120), none, (.i (.pick (.tmp 116) (.cst (.bool true)) (.tmp 119)))⟩] false [])
  (.cond (.tmp 120)
    (.seq (.region [⟨(some 8), none, (.i (.mov (.cst (.bool false))))⟩] false [])
    .ret)
    .skip))
  (.seq (.region [⟨(some 20), none, (.i (.mov (.cst (.int .i64 1))))⟩] false [])
  (.seq (.region [⟨(some 121), none, (.i (.mov (.tmp 16)))⟩, ⟨(some 122), none, (.i (.mov (.tmp 20)))⟩, ⟨(some 123), none, (.call (.cst (.fn 17 [])) [(.tmp 121), (.tmp 122)] [[(some .int)], []])⟩, ⟨(some 20), none, (.i (.mov (.tmp 123)))⟩] false [])
  (.seq (.region [⟨(some 124), none, (.i (.mov (.tmp 17)))⟩, ⟨(some 125), none, (.i (.mov (.tmp 20)))⟩, ⟨(some 126), none, (.call (.cst (.fn 17 [])) [(.tmp 124), (.tmp 125)] [[(some .int)], []])⟩, ⟨(some 20), none, (.i (.mov (.tmp 126)))⟩] false [])
  (.seq (.region [⟨(some 21), none, (.i (.mov (.cst (.int .i64 1))))⟩] false [])
  (.seq (.region [⟨(some 127), none, (.i (.mov (.tmp 16)))⟩, ⟨(some 128), none, (.i (.mov (.tmp 21)))⟩, ⟨(some 129), none, (.call (.cst (.fn 18 [])) [(.tmp 127), (.tmp 128)] [[(some .int)], []])⟩, ⟨(some 21), none, (.i (.mov (.tmp 129)))⟩] false [])
  (.seq (.seq (.region [⟨(some 130), none, (.i (.mov (.tmp 21)))⟩, ⟨(some 131), none, (.i (.bin .lss (.tmp 130) (.cst (.int .i64 0))))⟩] false [])
  (.cond (.tmp 131)
    (.seq (.region [⟨(some 8), none, (.i (.mov (.cst (.bool false))))⟩] false [])
    .ret)
    .skip))
  (.seq (.region [⟨(some 132), none, (.i (.mov (.tmp 17)))⟩, ⟨(some 133), none, (.i (.mov (.tmp 21)))⟩, ⟨(some 134), none, (.call (.cst (.fn 18 [])) [(.tmp 132), (.tmp 133)] [[(some .int)], []])⟩, ⟨(some 21), none, (.i (.mov (.tmp 134)))⟩] false [])
  (.seq (.seq (.region [⟨(some 135), none, (.i (.mov (.tmp 21)))⟩, ⟨(some 136), none, (.i (.bin .lss (.tmp 135) (.cst (.int .i64 0))))⟩] false [])
  (.cond (.tmp 136)
    (.seq (.region [⟨(some 8), none, (.i (.mov (.cst (.bool false))))⟩] false [])
    .ret)
    .skip))
  (.seq (.seq (.region [⟨(some 137), none, (.i (.mov (.tmp 21)))⟩, ⟨(some 138), none, (.i (.mov (.tmp 20)))⟩, ⟨(some 139), none, (.i (.bin .neq (.tmp 137) (.tmp 138)))⟩] false [])
  (.cond (.tmp 139)
    (.seq (.region [⟨(some 8), none, (.i (.mov (.cst (.bool false))))⟩] false [])
    .ret)
    .skip))
  (.seq (.region [⟨(some 141), none, (.i (.mov (.tmp 0)))⟩, ⟨(some 142), none, (.i (.ld false 3 (.tmp 5)))⟩, ⟨(some 143), none, (.call (.cst (.fn 12 [])) [(.tmp 142)] [[none, (some (.pair .int (.pair .int (.pair .int .int)))), (some .int)]])⟩, ⟨(some 144), none, (.i (.mov (.tmp 2)))⟩, ⟨(some 145), none, (.call (.cst (.fn 27 [])) [(.tmp 144)] [[(some .int)]])⟩, ⟨(some 146), none, (.i (.mov (.tmp 3)))⟩, ⟨(some 147), none, (.call (.cst (.fn 27 [])) [(.tmp 146)] [[(some .int)]])⟩, ⟨(some 148), none, (.call (.cst (.fn 28 [])) [(.tmp 141), (.tmp 143), (.tmp 145), (.tmp 147)] [[], [none, (some (.pair .int (.pair .int (.pair .int .int)))), (some .int)], [(some .int)], [(some .int)]])⟩, ⟨(some 140), none, (.i (.mov (.tmp 148)))⟩, ⟨(some 149), none, (.i (.extr 0 (.tmp 140)))⟩, ⟨(some 150), none, (.i (.extr 1 (.tmp 140)))⟩, ⟨(some 151), none, (.i (.extr 2 (.tmp 140)))⟩, ⟨(some 22), none, (.i (.mov (.tmp 149)))⟩, ⟨(some 23), none, (.i (.mov (.tmp 150)))⟩, ⟨(some 24), none, (.i (.mov (.tmp 151)))⟩] false [])
  (.seq (.seq (.region [⟨(some 152), none, (.i (.mov (.tmp 22)))⟩, ⟨(some 153), none, (.i (.mov (.tmp 10)))⟩, ⟨(some 154), none, (.call (.cst (.fn 14 [])) [(.tmp 152), (.tmp 153)] [[(some .int)], [(some .int)]])⟩, ⟨(some 155), none, (.i (.not (.tmp 154)))⟩, ⟨(some 156), none, (.i (.mov (.tmp 155)))⟩, ⟨(some 157), (some (156, false)), (.i (.mov (.tmp 23)))⟩, ⟨(some 158), (some (156, false)), (.i (.mov (.tmp 11)))⟩, ⟨(some 159), (some (156, false)), (.call (.cst (.fn 14 [])) [(.tmp 157), (.tmp 158)] [[(some .int)], [(some .int)]])⟩, ⟨(some 160), (some (156, false)), (.i (.not (.tmp 159)))⟩, ⟨(some 161), none, (.i (.pick (.tmp 156) (.cst (.bool true)) (.tmp 160)))⟩, ⟨(some 162), none, (.i (.mov (.tmp 161)))⟩, ⟨(some 163), (some (162, false)), (.i (.mov (.tmp 24)))⟩, ⟨(some 164), (some (162, false)), (.i (.mov (.tmp 12)))⟩, ⟨(some 165), (some (162, false)), (.i (.cmp true 0 (.tmp 163) (.tmp 164)))⟩, ⟨(some 166), none, (.i (.pick (.tmp 162) (.cst (.bool true)) (.tmp 165)))⟩] false [])
  (.cond (.tmp 166)
    (.seq (.region [⟨(some 8), none, (.i (.mov (.cst (.bool false))))⟩] false [])
    .ret)
    .skip))
  (.seq (.region [⟨(some 21), none, (.i (.mov (.cst (.int .i64 1))))⟩] false [])
  (.seq (.region [⟨(some 167), none, (.i (.mov (.tmp 16)))⟩, ⟨(some 168), none, (.i (.mov (.tmp 21)))⟩, ⟨(some 169), none, (.call (.cst (.fn 18 [])) [(.tmp 167), (.tmp 168)] [[(some .int)], []])⟩, ⟨(some 21), none, (.i (.mov (.tmp 169)))⟩] false [])
  (.seq (.seq (.region [⟨(some 170), none, (.i (.mov (.tmp 21)))⟩, ⟨(some 171), none, (.i (.bin .lss (.tmp 170) (.cst (.int .i64 0))))⟩] false [])
  (.cond (.tmp 171)
    (.seq (.region [⟨(some 8), none, (.i (.mov (.cst (.bool false))))⟩] false [])
    .ret)
    .skip))
  (.seq (.region [⟨(some 172), none, (.i (.mov (.tmp 17)))⟩, ⟨(some 173), none, (.i (.mov (.tmp 21)))⟩, ⟨(some 174), none, (.call (.cst (.fn 18 [])) [(.tmp 172), (.tmp 173)] [[(some .int)], []])⟩, ⟨(some 21), none, (.i (.mov (.tmp 174)))⟩] false [])
  (.seq (.seq (.region [⟨(some 175), none, (.i (.mov (.tmp 21)))⟩, ⟨(some 176), none, (.i (.bin .lss (.tmp 175) (.cst (.int .i64 0))))⟩] false [])
  (.cond (.tmp 176)
    (.seq (.region [⟨(some 8), none, (.i (.mov (.cst (.bool false))))⟩] false [])
    .ret)
    .skip))
  (.seq (.seq (.region [⟨(some 177), none, (.i (.mov (.tmp 21)))⟩, ⟨(some 178), none, (.i (.mov (.tmp 20)))⟩, ⟨(some 179), none, (.i (.bin .neq (.tmp 177) (.tmp 178)))⟩] false [])
  (.cond (.tmp 179)
    (.seq (.region [⟨(some 8), none, (.i (.mov (.cst (.bool false))))⟩] false [])
    .ret)
    .skip))
  (.seq (.region [⟨(some 8), none, (.i (.mov (.cst (.bool true))))⟩] false [])
  .ret))))))))))))))))))))))))))))))))))))))
def r_laws_FnExactStepCircuit : List Res := [.tmp 8]
theorem c_laws_FnExactStepCircuit : compiled Tryd.prog Tryd.f7 = some (m_laws_FnExactStepCircuit, r_laws_FnExactStepCircuit) := by kernel_rfl
theorem hb_laws_FnExactStepCircuit : hasBody Tryd.prog 7 = true := by kernel_rfl
def L_laws_FnExactStepCircuit (a0 : Int) (a1_0 : Int) (a1_1 : List (Int × Int × Int × Int)) (a1_2 : List Int) (a2 : List Int) (a3 : List Int) : Option Bool :=
  cond (decide (1048576 < ((a2.length : Nat) : Int)))
  (some true)
  (cond (decide (1048576 < ((a3.length : Nat) : Int)))
    (some true)
    (Option.bind (L_laws_szCircuit a1_0 a1_1 a1_2 1048576) fun y12 =>
    cond (decide (y12 < 0))
      (some true)
      (Option.bind (L_laws_toCircuit a1_0 a1_1 a1_2) fun y18 =>
      Option.bind (L_laws_toIntS a2) fun y19 =>
      Option.bind (L_laws_toIntS a3) fun y20 =>
      Option.bind (L_spec_StepCircuit a0 y18.1 y18.2.1 y18.2.2 y19 y20) fun y21 =>
      Option.bind (L_laws_toCircuit a1_0 a1_1 a1_2) fun y23 =>
      Option.bind (L_laws_toIntS a2) fun y25 =>
      Option.bind (L_laws_toIntS a3) fun y27 =>
      Option.bind (L_impl_StepCircuit a0 y23.1 y23.2.1 y23.2.2 y25 y27) fun y29 =>
      Option.bind (Option.bind (L_laws_eqIntS y29.1 y21.1) fun y32 =>
        cond (!y32)
          (some true)
          (Option.bind (L_laws_eqIntS y29.2.1 y21.2.1) fun y34 =>
          cond (!y34)
            (some true)
            (some (y29.2.2 != y21.2.2)))) fun l31_m77 =>
      cond l31_m77
        (some false)
        (Option.bind (L_laws_toCircuit a1_0 a1_1 a1_2) fun y40 =>
        Option.bind (L_laws_eqCircuit y23.1 y23.2.1 y23.2.2 y40.1 y40.2.1 y40.2.2) fun y41 =>
        cond (!y41)
          (some false)
          (Option.bind (L_laws_toIntS a2) fun y46 =>
          Option.bind (L_laws_eqIntS y25 y46) fun y47 =>
          cond (!y47)
            (some false)
            (Option.bind (L_laws_toIntS a3) fun y52 =>
            Option.bind (L_laws_eqIntS y27 y52) fun y53 =>
            cond (!y53)
              (some false)
              (Option.bind (L_laws_markCircuit y23.1 y23.2.1 y23.2.2 1) fun y58 =>
              og (y58.1.length = y23.2.1.length) <|
              og (y58.2.1.length = y23.2.2.length) <|
              Option.bind (L_laws_markIntS y25 y58.2.2) fun y62 =>
              og (y62.1.length = y25.length) <|
              Option.bind (L_laws_markIntS y27 y62.2) fun y65 =>
              og (y65.1.length = y27.length) <|
              Option.bind (cond (decide (y65.2 < 0))
                  (some true)
                  (Option.bind (L_laws_eqIntS y29.1 y21.1) fun y70 =>
                  cond (!y70)
                    (some true)
                    (Option.bind (L_laws_eqIntS y29.2.1 y21.2.1) fun y72 =>
                    cond (!y72)
                      (some true)
                      (some (y29.2.2 != y21.2.2))))) fun l68_m120 =>
              cond l68_m120
                (some false)
                (Option.bind (L_laws_markIntS y29.1 1) fun y78 =>
                og (y78.1.length = y29.1.length) <|
                Option.bind (L_laws_markIntS y29.2.1 y78.2) fun y81 =>
                og (y81.1.length = y29.2.1.length) <|
                Option.bind (L_laws_heldIntS y78.1 1) fun y85 =>
                cond (decide (y85 < 0))
                  (some false)
                  (Option.bind (L_laws_heldIntS y81.1 y85) fun y91 =>
                  cond (decide (y91 < 0))
                    (some false)
                    (cond (y91 != y81.2)
                      (some false)
                      (Option.bind (L_laws_toCircuit a1_0 a1_1 a1_2) fun y101 =>
                      Option.bind (L_laws_toIntS a2) fun y102 =>
                      Option.bind (L_laws_toIntS a3) fun y103 =>
                      Option.bind (L_impl_StepCircuit a0 y101.1 y101.2.1 y101.2.2 y102 y103) fun y104 =>
                      Option.bind (Option.bind (L_laws_eqIntS y104.1 y21.1) fun y107 =>
                        cond (!y107)
                          (some true)
                          (Option.bind (L_laws_eqIntS y104.2.1 y21.2.1) fun y109 =>
                          cond (!y109)
                            (some true)
                            (some (y104.2.2 != y21.2.2)))) fun l106_m166 =>
                      cond l106_m166
                        (some false)
                        (Option.bind (L_laws_heldIntS y78.1 1) fun y115 =>
                        cond (decide (y115 < 0))
                          (some false)
                          (Option.bind (L_laws_heldIntS y81.1 y115) fun y121 =>
                          cond (decide (y121 < 0))
                            (some false)
                            (cond (y121 != y81.2)
                              (some false)
                              (some true)))))))))))))))
def rv_laws_FnExactStepCircuit (r : Bool) : RV := ⟨false, [(false, [.sc (.bool r)])]⟩
theorem ok_laws_FnExactStepCircuit {a0 : Int} {a1_0 : Int} {a1_1 : List (Int × Int × Int × Int)} {a1_2 : List Int} {a2 : List Int} {a3 : List Int} {r : Bool} (h : L_laws_FnExactStepCircuit a0 a1_0 a1_1 a1_2 a2 a3 = some r) : CallOK Tryd.prog Tab 7 [(.int .i64 a0), (.agg [(.int .i64 a1_0), (.tree (.pair .int (.pair .int (.pair .int .int))) a1_1), (.tree .int a1_2)]), (.tree .int a2), (.tree .int a3)] (rv_laws_FnExactStepCircuit r) := by
  refine call_of_ (by kernel_rfl) Tryd.func7 c_laws_FnExactStepCircuit (n := 180) (by kernel_rfl) (by simp) (tl := [(0, (.int .i64 a0)), (1, (.agg [(.int .i64 a1_0), (.tree (.pair .int (.pair .int (.pair .int .int))) a1_1), (.tree .int a1_2)])), (2, (.tree .int a2)), (3, (.tree .int a3))]) rfl ?_
  unfold m_laws_FnExactStepCircuit
  unfold L_laws_FnExactStepCircuit at h
  refine awp_seq_ ?_
  refine awp_region_ 3 (by kernel_rfl) ?_
  refine rs1 (.box (5, 1) 0) (5, 1) (.cells 25 [(.int .i64 a1_0), (.tree (.pair .int (.pair .int (.pair .int .int))) a1_1), (.tree .int a1_2)]) (by kernel_rfl) ?_
  refine rs0 (.bool false) (by kernel_rfl) ?_
  refine rnil (tn_ ?_)
  refine awp_seq_ ?_
  refine awp_seq_ ?_
  refine awp_region_ 6 (by kernel_rfl) ?_
  refine rs0 (.tree .int a2) (by kernel_rfl) ?_
  refine rs0 (.int .i64 ((a2.length : Nat) : Int)) (by kernel_rfl) ?_
  refine rs0 (.bool (decide (1048576 < ((a2.length : Nat) : Int)))) (by kernel_rfl) ?_
  refine rnil (tn_ ?_)
  rcases cond_some h with ⟨q4, h⟩ | ⟨q4, h⟩
  · have q4_ := of_decide_eq_true q4
    refine awp_condT_ q4 (by kernel_rfl) ?_
    refine awp_seq_ ?_
    refine awp_region_ 7 (by kernel_rfl) ?_
    refine rs0 (.bool true) (by kernel_rfl) ?_
    refine rnil (tn_ ?_)
    refine awp_ret_ (tr_ ?_)
    obtain rfl := Option.some.inj h
    exact ret_ [(.bool true)] (by simp) (by kernel_rfl) (p_one rfl (l_sc (by kernel_rfl)) p_nil) (by kernel_rfl) (by kernel_rfl)
  · have q4_ := of_decide_eq_false q4
    refine awp_condF_ q4 (by kernel_rfl) ?_
    refine awp_skip_ (tn_ ?_)
    refine awp_seq_ ?_
    refine awp_seq_ ?_
    refine awp_region_ 9 (by kernel_rfl) ?_
    refine rs0 (.tree .int a3) (by kernel_rfl) ?_
    refine rs0 (.int .i64 ((a3.length : Nat) : Int)) (by kernel_rfl) ?_
    refine rs0 (.bool (decide (1048576 < ((a3.length : Nat) : Int)))) (by kernel_rfl) ?_
    refine rnil (tn_ ?_)
    rcases cond_some h with ⟨q8, h⟩ | ⟨q8, h⟩
    · have q8_ := of_decide_eq_true q8
      refine awp_condT_ q8 (by kernel_rfl) ?_
      refine awp_seq_ ?_
      refine awp_region_ 10 (by kernel_rfl) ?_
      refine rs0 (.bool true) (by kernel_rfl) ?_
      refine rnil (tn_ ?_)
      refine awp_ret_ (tr_ ?_)
      obtain rfl := Option.some.inj h
      exact ret_ [(.bool true)] (by simp) (by kernel_rfl) (p_one rfl (l_sc (by kernel_rfl)) p_nil) (by kernel_rfl) (by kernel_rfl)
    · have q8_ := of_decide_eq_false q8
      refine awp_condF_ q8 (by kernel_rfl) ?_
      refine awp_skip_ (tn_ ?_)
      refine awp_seq_ ?_
      refine awp_region_ 10 (by kernel_rfl) ?_
      refine rs0 (.int .i64 1048576) (by kernel_rfl) ?_
      refine rnil (tn_ ?_)
      refine awp_seq_ ?_
      obtain ⟨y12, h12, h⟩ := ob_some h
      refine awp_region_ 14 (by kernel_rfl) ?_
      refine rsl (.agg [(.int .i64 a1_0), (.tree (.pair .int (.pair .int (.pair .int .int))) a1_1), (.tree .int a1_2)]) (by kernel_rfl) ?_
      refine rs0 (.int .i64 1048576) (by kernel_rfl) ?_
      refine rcall (.int .i64 y12) [] [(.agg [(.int .i64 a1_0), (.tree (.pair .int (.pair .int (.pair .int .int))) a1_1), (.tree .int a1_2)]), (.int .i64 1048576)] _ (caps := []) (args0 := [(.agg [(.int .i64 a1_0), (.tree (.pair .int (.pair .int (.pair .int .int))) a1_1), (.tree .int a1_2)]), (.int .i64 1048576)]) trivial (by kernel_rfl) (by kernel_rfl) (by kernel_rfl) (by kernel_rfl) (ok_laws_szCircuit h12) hb_laws_szCircuit (by kernel_rfl) ?_
      refine rs0 (.int .i64 y12) (by kernel_rfl) ?_
      refine rnil (tn_ ?_)
      refine awp_seq_ ?_
      refine awp_seq_ ?_
      refine awp_region_ 16 (by kernel_rfl) ?_
      refine rs0 (.int .i64 y12) (by kernel_rfl) ?_
      refine rs0 (.bool (decide (y12 < 0))) (by kernel_rfl) ?_
      refine rnil (tn_ ?_)
      rcases cond_some h with ⟨q15, h⟩ | ⟨q15, h⟩
      · have q15_ := of_decide_eq_true q15
        refine awp_condT_ q15 (by kernel_rfl) ?_
        refine awp_seq_ ?_
        refine awp_region_ 17 (by kernel_rfl) ?_
        refine rs0 (.bool true) (by kernel_rfl) ?_
        refine rnil (tn_ ?_)
        refine awp_ret_ (tr_ ?_)
        obtain rfl := Option.some.inj h
        exact ret_ [(.bool true)] (by simp) (by kernel_rfl) (p_one rfl (l_sc (by kernel_rfl)) p_nil) (by kernel_rfl) (by kernel_rfl)
      · have q15_ := of_decide_eq_false q15
        refine awp_condF_ q15 (by kernel_rfl) ?_
        refine awp_skip_ (tn_ ?_)
        refine awp_seq_ ?_
        obtain ⟨y18, h18, h⟩ := ob_some h
        obtain ⟨y19, h19, h⟩ := ob_some h
        obtain ⟨y20, h20, h⟩ := ob_some h
        obtain ⟨y21, h21, h⟩ := ob_some h
        refine awp_region_ 31 (by kernel_rfl) ?_
        refine rs0 (.int .i64 a0) (by kernel_rfl) ?_
        refine rsl (.agg [(.int .i64 a1_0), (.tree (.pair .int (.pair .int (.pair .int .int))) a1_1), (.tree .int a1_2)]) (by kernel_rfl) ?_
        refine rcall (.agg [(.int .i64 y18.1), (.own (624, 18) (.pair .int (.pair .int (.pair .int .int))) 0 y18.2.1.length), (.own (625, 18) .int 0 y18.2.2.length)]) [((624, 18), some (.arr 51 (.pair .int (.pair .int (.pair .int .int))) y18.2.1)), ((625, 18), some (.arr 3 .int y18.2.2))] [(.agg [(.int .i64 a1_0), (.tree (.pair .int (.pair .int (.pair .int .int))) a1_1), (.tree .int a1_2)])] _ (caps := []) (args0 := [(.agg [(.int .i64 a1_0), (.tree (.pair .int (.pair .int (.pair .int .int))) a1_1), (.tree .int a1_2)])]) trivial (by kernel_rfl) (by kernel_rfl) (by kernel_rfl) (by kernel_rfl) (ok_laws_toCircuit h18) hb_laws_toCircuit (by kernel_rfl) ?_
        refine rs0 (.tree .int a2) (by kernel_rfl) ?_
        refine rcall (.own (656, 20) .int 0 y19.length) [((656, 20), some (.arr 3 .int y19))] [(.tree .int a2)] _ (caps := []) (args0 := [(.tree .int a2)]) trivial (by kernel_rfl) (by kernel_rfl) (by kernel_rfl) (by kernel_rfl) (ok_laws_toIntS h19) hb_laws_toIntS (by kernel_rfl) ?_
        refine rs0 (.tree .int a3) (by kernel_rfl) ?_
        refine rcall (.own (688, 22) .int 0 y20.length) [((688, 22), some (.arr 3 .int y20))] [(.tree .int a3)] _ (caps := []) (args0 := [(.tree .int a3)]) trivial (by kernel_rfl) (by kernel_rfl) (by kernel_rfl) (by kernel_rfl) (ok_laws_toIntS h20) hb_laws_toIntS (by kernel_rfl) ?_
        refine rcall (.tup [(.own (704, 23) .int 0 y21.1.length), (.own (705, 23) .int 0 y21.2.1.length), (.bool y21.2.2)]) [((704, 23), some (.arr 3 .int y21.1)), ((705, 23), some (.arr 3 .int y21.2.1))] [(.int .i64 a0), (.agg [(.int .i64 y18.1), (.own (624, 18) (.pair .int (.pair .int (.pair .int .int))) 0 y18.2.1.length), (.own (625, 18) .int 0 y18.2.2.length)]), (.own (656, 20) .int 0 y19.length), (.own (688, 22) .int 0 y20.length)] _ (caps := []) (args0 := [(.int .i64 a0), (.agg [(.int .i64 y18.1), (.tree (.pair .int (.pair .int (.pair .int .int))) y18.2.1), (.tree .int y18.2.2)]), (.tree .int y19), (.tree .int y20)]) trivial (by kernel_rfl) (by kernel_rfl) (gm_cons (by kernel_rfl) (gm_cons (gd_agg (gm_cons (by kernel_rfl) (gm_cons (gd_own (e := 51) (by kernel_rfl) rfl) (gm_cons (gd_own (e := 3) (by kernel_rfl) rfl) gm_nil)))) (gm_cons (gd_own (e := 3) (by kernel_rfl) rfl) (gm_cons (gd_own (e := 3) (by kernel_rfl) rfl) gm_nil)))) (by kernel_rfl) (ok_spec_StepCircuit h21) hb_spec_StepCircuit (by kernel_rfl) ?_
        refine rs0 (.tup [(.own (704, 23) .int 0 y21.1.length), (.own (705, 23) .int 0 y21.2.1.length), (.bool y21.2.2)]) (by kernel_rfl) ?_
        refine rs0 (.own (704, 23) .int 0 y21.1.length) (by kernel_rfl) ?_
        refine rs0 (.own (705, 23) .int 0 y21.2.1.length) (by kernel_rfl) ?_
        refine rs0 (.bool y21.2.2) (by kernel_rfl) ?_
        refine rs0 (.own (704, 23) .int 0 y21.1.length) (by kernel_rfl) ?_
        refine rs0 (.own (705, 23) .int 0 y21.2.1.length) (by kernel_rfl) ?_
        refine rs0 (.bool y21.2.2) (by kernel_rfl) ?_
        refine rnil (tn_ ?_)
        refine awp_seq_ ?_
        obtain ⟨y23, h23, h⟩ := ob_some h
        refine awp_region_ 35 (by kernel_rfl) ?_
        refine rsl (.agg [(.int .i64 a1_0), (.tree (.pair .int (.pair .int (.pair .int .int))) a1_1), (.tree .int a1_2)]) (by kernel_rfl) ?_
        refine rcall (.agg [(.int .i64 y23.1), (.own (784, 32) (.pair .int (.pair .int (.pair .int .int))) 0 y23.2.1.length), (.own (785, 32) .int 0 y23.2.2.length)]) [((784, 32), some (.arr 51 (.pair .int (.pair .int (.pair .int .int))) y23.2.1)), ((785, 32), some (.arr 3 .int y23.2.2))] [(.agg [(.int .i64 a1_0), (.tree (.pair .int (.pair .int (.pair .int .int))) a1_1), (.tree .int a1_2)])] _ (caps := []) (args0 := [(.agg [(.int .i64 a1_0), (.tree (.pair .int (.pair .int (.pair .int .int))) a1_1), (.tree .int a1_2)])]) trivial (by kernel_rfl) (by kernel_rfl) (by kernel_rfl) (by kernel_rfl) (ok_laws_toCircuit h23) hb_laws_toCircuit (by kernel_rfl) ?_
        refine rs1 (.box (13, 33) 0) (13, 33) (.cells 31 [(.int .i64 0), .nils, .nils]) (by kernel_rfl) ?_
        refine rsn2 (13, 33) (13, 33) (.cells 31 [(.int .i64 y23.1), (.own (784, 32) (.pair .int (.pair .int (.pair .int .int))) 0 y23.2.1.length), (.own (785, 32) .int 0 y23.2.2.length)]) (by kernel_rfl) ?_
        refine rnil (tn_ ?_)
        refine awp_seq_ ?_
        obtain ⟨y25, h25, h⟩ := ob_some h
        refine awp_region_ 38 (by kernel_rfl) ?_
        refine rs0 (.tree .int a2) (by kernel_rfl) ?_
        refine rcall (.own (816, 36) .int 0 y25.length) [((816, 36), some (.arr 3 .int y25))] [(.tree .int a2)] _ (caps := []) (args0 := [(.tree .int a2)]) trivial (by kernel_rfl) (by kernel_rfl) (by kernel_rfl) (by kernel_rfl) (ok_laws_toIntS h25) hb_laws_toIntS (by kernel_rfl) ?_
        refine rs0 (.own (816, 36) .int 0 y25.length) (by kernel_rfl) ?_
        refine rnil (tn_ ?_)
        refine awp_seq_ ?_
        obtain ⟨y27, h27, h⟩ := ob_some h
        refine awp_region_ 41 (by kernel_rfl) ?_
        refine rs0 (.tree .int a3) (by kernel_rfl) ?_
        refine rcall (.own (848, 39) .int 0 y27.length) [((848, 39), some (.arr 3 .int y27))] [(.tree .int a3)] _ (caps := []) (args0 := [(.tree .int a3)]) trivial (by kernel_rfl) (by kernel_rfl) (by kernel_rfl) (by kernel_rfl) (ok_laws_toIntS h27) hb_laws_toIntS (by kernel_rfl) ?_
        refine rs0 (.own (848, 39) .int 0 y27.length) (by kernel_rfl) ?_
        refine rnil (tn_ ?_)
        refine awp_seq_ ?_
        obtain ⟨y29, h29, h⟩ := ob_some h
        refine awp_region_ 53 (by kernel_rfl) ?_
        refine rs0 (.int .i64 a0) (by kernel_rfl) ?_
        refine rsl (.agg [(.int .i64 y23.1), (.own (784, 32) (.pair .int (.pair .int (.pair .int .int))) 0 y23.2.1.length), (.own (785, 32) .int 0 y23.2.2.length)]) (by kernel_rfl) ?_
        refine rs0 (.own (816, 36) .int 0 y25.length) (by kernel_rfl) ?_
        refine rs0 (.own (848, 39) .int 0 y27.length) (by kernel_rfl) ?_
        refine rcall (.tup [(.own (944, 45) .int 0 y29.1.length), (.own (945, 45) .int 0 y29.2.1.length), (.bool y29.2.2)]) [((944, 45), some (.arr 3 .int y29.1)), ((945, 45), some (.arr 3 .int y29.2.1))] [(.int .i64 a0), (.agg [(.int .i64 y23.1), (.own (784, 32) (.pair .int (.pair .int (.pair .int .int))) 0 y23.2.1.length), (.own (785, 32) .int 0 y23.2.2.length)]), (.own (816, 36) .int 0 y25.length), (.own (848, 39) .int 0 y27.length)] _ (caps := []) (args0 := [(.int .i64 a0), (.agg [(.int .i64 y23.1), (.tree (.pair .int (.pair .int (.pair .int .int))) y23.2.1), (.tree .int y23.2.2)]), (.tree .int y25), (.tree .int y27)]) trivial (by kernel_rfl) (by kernel_rfl) (gm_cons (by kernel_rfl) (gm_cons (gd_agg (gm_cons (by kernel_rfl) (gm_cons (gd_own (e := 51) (by kernel_rfl) rfl) (gm_cons (gd_own (e := 3) (by kernel_rfl) rfl) gm_nil)))) (gm_cons (gd_own (e := 3) (by kernel_rfl) rfl) (gm_cons (gd_own (e := 3) (by kernel_rfl) rfl) gm_nil)))) (by kernel_rfl) (ok_impl_StepCircuit h29) hb_impl_StepCircuit (by kernel_rfl) ?_
        refine rs0 (.tup [(.own (944, 45) .int 0 y29.1.length), (.own (945, 45) .int 0 y29.2.1.length), (.bool y29.2.2)]) (by kernel_rfl) ?_
        refine rs0 (.own (944, 45) .int 0 y29.1.length) (by kernel_rfl) ?_
        refine rs0 (.own (945, 45) .int 0 y29.2.1.length) (by kernel_rfl) ?_
        refine rs0 (.bool y29.2.2) (by kernel_rfl) ?_
        refine rs0 (.own (944, 45) .int 0 y29.1.length) (by kernel_rfl) ?_
        refine rs0 (.own (945, 45) .int 0 y29.2.1.length) (by kernel_rfl) ?_
        refine rs0 (.bool y29.2.2) (by kernel_rfl) ?_
        refine rnil (tn_ ?_)
        refine awp_seq_ ?_
        refine awp_seqB h (fun (l31_m77 : Bool) S_ => S_ = ⟨mkTm [(0, (.int .i64 a0)), (2, (.tree .int a2)), (3, (.tree .int a3)), (5, (.box (0, 1) 0)), (10, (.own (1, 1) .int 0 y21.1.length)), (11, (.own (2, 1) .int 0 y21.2.1.length)), (12, (.bool y21.2.2)), (13, (.box (3, 1) 0)), (14, (.own (4, 1) .int 0 y25.length)), (15, (.own (5, 1) .int 0 y27.length)), (16, (.own (6, 1) .int 0 y29.1.length)), (17, (.own (7, 1) .int 0 y29.2.1.length)), (18, (.bool y29.2.2)), (77, (.bool l31_m77))], mkOb (someL [((0, 1), .cells 25 [(.int .i64 a1_0), (.tree (.pair .int (.pair .int (.pair .int .int))) a1_1), (.tree .int a1_2)]), ((1, 1), .arr 3 .int y21.1), ((2, 1), .arr 3 .int y21.2.1), ((3, 1), .cells 31 [(.int .i64 y23.1), (.own (8, 1) (.pair .int (.pair .int (.pair .int .int))) 0 y23.2.1.length), (.own (9, 1) .int 0 y23.2.2.length)]), ((4, 1), .arr 3 .int y25), ((5, 1), .arr 3 .int y27), ((6, 1), .arr 3 .int y29.1), ((7, 1), .arr 3 .int y29.2.1), ((8, 1), .arr 51 (.pair .int (.pair .int (.pair .int .int))) y23.2.1), ((9, 1), .arr 3 .int y23.2.2)]), 2⟩) ?_ ?_
        · intro v_ h
          obtain ⟨y32, h32, h⟩ := ob_some h
          rcases cond_some h with ⟨q33, h⟩ | ⟨q33, h⟩
          · refine awp_region_ 68 (by kernel_rfl) ?_
            refine rs0 (.own (944, 45) .int 0 y29.1.length) (by kernel_rfl) ?_
            refine rs0 (.own (704, 23) .int 0 y21.1.length) (by kernel_rfl) ?_
            refine rcall (.bool y32) [] [(.own (944, 45) .int 0 y29.1.length), (.own (704, 23) .int 0 y21.1.length)] _ (caps := []) (args0 := [(.tree .int y29.1), (.tree .int y21.1)]) trivial (by kernel_rfl) (by kernel_rfl) (gm_cons (gd_own (e := 3) (by kernel_rfl) rfl) (gm_cons (gd_own (e := 3) (by kernel_rfl) rfl) gm_nil)) (by kernel_rfl) (ok_laws_eqIntS h32) hb_laws_eqIntS (by kernel_rfl) ?_
            refine rs0 (.bool (!y32)) (by kernel_rfl) ?_
            refine rs0 (.bool (!y32)) (by kernel_rfl) ?_
            refine rs0 (.tup []) (s_skip (by kernel_rfl) q33) ?_
            refine rs0 (.tup []) (s_skip (by kernel_rfl) q33) ?_
            refine rs0 (.tup []) (s_skip (by kernel_rfl) q33) ?_
            refine rs0 (.tup []) (s_skip (by kernel_rfl) q33) ?_
            refine rs0 (.bool true) (s_pickT (by kernel_rfl) q33) ?_
            refine rs0 (.bool true) (by kernel_rfl) ?_
            refine rs0 (.tup []) (by kernel_rfl) ?_
            refine rs0 (.tup []) (by kernel_rfl) ?_
            refine rs0 (.tup []) (by kernel_rfl) ?_
            refine rs0 (.bool true) (by kernel_rfl) ?_
            refine rnil (tn_ ?_)
            obtain rfl := Option.some.inj h
            exact ⟨_, (weak_ren (renF [((0, 1), (5, 1)), ((1, 1), (704, 23)), ((2, 1), (705, 23)), ((3, 1), (13, 33)), ((8, 1), (784, 32)), ((9, 1), (785, 32)), ((4, 1), (816, 36)), ((5, 1), (848, 39)), ((6, 1), (944, 45)), ((7, 1), (945, 45))]) (by kernel_rfl) (by kernel_rfl) (by kernel_rfl)), rfl⟩
          · obtain ⟨y34, h34, h⟩ := ob_some h
            rcases cond_some h with ⟨q35, h⟩ | ⟨q35, h⟩
            · refine awp_region_ 68 (by kernel_rfl) ?_
              refine rs0 (.own (944, 45) .int 0 y29.1.length) (by kernel_rfl) ?_
              refine rs0 (.own (704, 23) .int 0 y21.1.length) (by kernel_rfl) ?_
              refine rcall (.bool y32) [] [(.own (944, 45) .int 0 y29.1.length), (.own (704, 23) .int 0 y21.1.length)] _ (caps := []) (args0 := [(.tree .int y29.1), (.tree .int y21.1)]) trivial (by kernel_rfl) (by kernel_rfl) (gm_cons (gd_own (e := 3) (by kernel_rfl) rfl) (gm_cons (gd_own (e := 3) (by kernel_rfl) rfl) gm_nil)) (by kernel_rfl) (ok_laws_eqIntS h32) hb_laws_eqIntS (by kernel_rfl) ?_
              refine rs0 (.bool (!y32)) (by kernel_rfl) ?_
              refine rs0 (.bool (!y32)) (by kernel_rfl) ?_
              refine rs0 (.own (945, 45) .int 0 y29.2.1.length) (s_gd (by kernel_rfl) q33 (by kernel_rfl)) ?_
              refine rs0 (.own (705, 23) .int 0 y21.2.1.length) (s_gd (by kernel_rfl) q33 (by kernel_rfl)) ?_
              refine rcall (.bool y34) [] [(.own (945, 45) .int 0 y29.2.1.length), (.own (705, 23) .int 0 y21.2.1.length)] _ (caps := []) (args0 := [(.tree .int y29.2.1), (.tree .int y21.2.1)]) (gdOK_b (by kernel_rfl) q33) (by kernel_rfl) (by kernel_rfl) (gm_cons (gd_own (e := 3) (by kernel_rfl) rfl) (gm_cons (gd_own (e := 3) (by kernel_rfl) rfl) gm_nil)) (by kernel_rfl) (ok_laws_eqIntS h34) hb_laws_eqIntS (by kernel_rfl) ?_
              refine rs0 (.bool (!y34)) (s_gd (by kernel_rfl) q33 (by kernel_rfl)) ?_
              refine rs0 (.bool (!y34)) (s_pickF (by kernel_rfl) q33) ?_
              refine rs0 (.bool (!y34)) (by kernel_rfl) ?_
              refine rs0 (.tup []) (s_skip (by kernel_rfl) q35) ?_
              refine rs0 (.tup []) (s_skip (by kernel_rfl) q35) ?_
              refine rs0 (.tup []) (s_skip (by kernel_rfl) q35) ?_
              refine rs0 (.bool true) (s_pickT (by kernel_rfl) q35) ?_
              refine rnil (tn_ ?_)
              obtain rfl := Option.some.inj h
              exact ⟨_, (weak_ren (renF [((0, 1), (5, 1)), ((1, 1), (704, 23)), ((2, 1), (705, 23)), ((3, 1), (13, 33)), ((8, 1), (784, 32)), ((9, 1), (785, 32)), ((4, 1), (816, 36)), ((5, 1), (848, 39)), ((6, 1), (944, 45)), ((7, 1), (945, 45))]) (by kernel_rfl) (by kernel_rfl) (by kernel_rfl)), rfl⟩
            · refine awp_region_ 68 (by kernel_rfl) ?_
              refine rs0 (.own (944, 45) .int 0 y29.1.length) (by kernel_rfl) ?_
              refine rs0 (.own (704, 23) .int 0 y21.1.length) (by kernel_rfl) ?_
              refine rcall (.bool y32) [] [(.own (944, 45) .int 0 y29.1.length), (.own (704, 23) .int 0 y21.1.length)] _ (caps := []) (args0 := [(.tree .int y29.1), (.tree .int y21.1)]) trivial (by kernel_rfl) (by kernel_rfl) (gm_cons (gd_own (e := 3) (by kernel_rfl) rfl) (gm_cons (gd_own (e := 3) (by kernel_rfl) rfl) gm_nil)) (by kernel_rfl) (ok_laws_eqIntS h32) hb_laws_eqIntS (by kernel_rfl) ?_
              refine rs0 (.bool (!y32)) (by kernel_rfl) ?_
              refine rs0 (.bool (!y32)) (by kernel_rfl) ?_
              refine rs0 (.own (945, 45) .int 0 y29.2.1.length) (s_gd (by kernel_rfl) q33 (by kernel_rfl)) ?_
              refine rs0 (.own (705, 23) .int 0 y21.2.1.length) (s_gd (by kernel_rfl) q33 (by kernel_rfl)) ?_
              refine rcall (.bool y34) [] [(.own (945, 45) .int 0 y29.2.1.length), (.own (705, 23) .int 0 y21.2.1.length)] _ (caps := []) (args0 := [(.tree .int y29.2.1), (.tree .int y21.2.1)]) (gdOK_b (by kernel_rfl) q33) (by kernel_rfl) (by kernel_rfl) (gm_cons (gd_own (e := 3) (by kernel_rfl) rfl) (gm_cons (gd_own (e := 3) (by kernel_rfl) rfl) gm_nil)) (by kernel_rfl) (ok_laws_eqIntS h34) hb_laws_eqIntS (by kernel_rfl) ?_
              refine rs0 (.bool (!y34)) (s_gd (by kernel_rfl) q33 (by kernel_rfl)) ?_
              refine rs0 (.bool (!y34)) (s_pickF (by kernel_rfl) q33) ?_
              refine rs0 (.bool (!y34)) (by kernel_rfl) ?_
              refine rs0 (.bool y29.2.2) (s_gd (by kernel_rfl) q35 (by kernel_rfl)) ?_
              refine rs0 (.bool y21.2.2) (s_gd (by kernel_rfl) q35 (by kernel_rfl)) ?_
              refine rs0 (.bool (y29.2.2 != y21.2.2)) (s_gd (by kernel_rfl) q35 (by kernel_rfl)) ?_
              refine rs0 (.bool (y29.2.2 != y21.2.2)) (s_pickF (by kernel_rfl) q35) ?_
              refine rnil (tn_ ?_)
              obtain rfl := Option.some.inj h
              exact ⟨_, (weak_ren (renF [((0, 1), (5, 1)), ((1, 1), (704, 23)), ((2, 1), (705, 23)), ((3, 1), (13, 33)), ((8, 1), (784, 32)), ((9, 1), (785, 32)), ((4, 1), (816, 36)), ((5, 1), (848, 39)), ((6, 1), (944, 45)), ((7, 1), (945, 45))]) (by kernel_rfl) (by kernel_rfl) (by kernel_rfl)), rfl⟩
        · rintro l31_m77 _ rfl h
          (try dsimp only at h)
          rcases cond_some h with ⟨q36, h⟩ | ⟨q36, h⟩
          · refine awp_condT_ q36 (by kernel_rfl) ?_
            refine awp_seq_ ?_
            refine awp_region_ 3 (by kernel_rfl) ?_
            refine rs0 (.bool false) (by kernel_rfl) ?_
            refine rnil (tn_ ?_)
            refine awp_ret_ (tr_ ?_)
            obtain rfl := Option.some.inj h
            exact ret_ [(.bool false)] (by simp) (by kernel_rfl) (p_one rfl (l_sc (by kernel_rfl)) p_nil) (by kernel_rfl) (by kernel_rfl)
          · refine awp_condF_ q36 (by kernel_rfl) ?_
            refine awp_skip_ (tn_ ?_)
            refine awp_seq_ ?_
            refine awp_seq_ ?_
            obtain ⟨y40, h40, h⟩ := ob_some h
            obtain ⟨y41, h41, h⟩ := ob_some h
            refine awp_regionD_ 7 (by kernel_rfl) ?_
            refine dsl (.agg [(.int .i64 y23.1), (.own (8, 1) (.pair .int (.pair .int (.pair .int .int))) 0 y23.2.1.length), (.own (9, 1) .int 0 y23.2.2.length)]) (by kernel_rfl) ?_
            refine dsl (.agg [(.int .i64 a1_0), (.tree (.pair .int (.pair .int (.pair .int .int))) a1_1), (.tree .int a1_2)]) (by kernel_rfl) ?_
            refine dcall (.agg [(.int .i64 y40.1), (.own (1280, 4) (.pair .int (.pair .int (.pair .int .int))) 0 y40.2.1.length), (.own (1281, 4) .int 0 y40.2.2.length)]) [((1280, 4), some (.arr 51 (.pair .int (.pair .int (.pair .int .int))) y40.2.1)), ((1281, 4), some (.arr 3 .int y40.2.2))] [(.agg [(.int .i64 a1_0), (.tree (.pair .int (.pair .int (.pair .int .int))) a1_1), (.tree .int a1_2)])] _ (caps := []) (args0 := [(.agg [(.int .i64 a1_0), (.tree (.pair .int (.pair .int (.pair .int .int))) a1_1), (.tree .int a1_2)])]) trivial (by kernel_rfl) (by kernel_rfl) (by kernel_rfl) (by kernel_rfl) (ok_laws_toCircuit h40) hb_laws_toCircuit (by kernel_rfl) ?_
            refine dcall (.bool y41) [] [(.agg [(.int .i64 y23.1), (.own (8, 1) (.pair .int (.pair .int (.pair .int .int))) 0 y23.2.1.length), (.own (9, 1) .int 0 y23.2.2.length)]), (.agg [(.int .i64 y40.1), (.own (1280, 4) (.pair .int (.pair .int (.pair .int .int))) 0 y40.2.1.length), (.own (1281, 4) .int 0 y40.2.2.length)])] _ (caps := []) (args0 := [(.agg [(.int .i64 y23.1), (.tree (.pair .int (.pair .int (.pair .int .int))) y23.2.1), (.tree .int y23.2.2)]), (.agg [(.int .i64 y40.1), (.tree (.pair .int (.pair .int (.pair .int .int))) y40.2.1), (.tree .int y40.2.2)])]) trivial (by kernel_rfl) (by kernel_rfl) (gm_cons (gd_agg (gm_cons (by kernel_rfl) (gm_cons (gd_own (e := 51) (by kernel_rfl) rfl) (gm_cons (gd_own (e := 3) (by kernel_rfl) rfl) gm_nil)))) (gm_cons (gd_agg (gm_cons (by kernel_rfl) (gm_cons (gd_own (e := 51) (by kernel_rfl) rfl) (gm_cons (gd_own (e := 3) (by kernel_rfl) rfl) gm_nil)))) gm_nil)) (by kernel_rfl) (ok_laws_eqCircuit h41) hb_laws_eqCircuit (by kernel_rfl) ?_
            refine ds0 (.bool (!y41)) (by kernel_rfl) ?_
            refine dnil (by kernel_rfl) (tn_ ?_)
            rcases cond_some h with ⟨q42, h⟩ | ⟨q42, h⟩
            · refine awp_condT_ q42 (by kernel_rfl) ?_
              refine awp_seq_ ?_
              refine awp_region_ 8 (by kernel_rfl) ?_
              refine rs0 (.bool false) (by kernel_rfl) ?_
              refine rnil (tn_ ?_)
              refine awp_ret_ (tr_ ?_)
              obtain rfl := Option.some.inj h
              exact ret_ [(.bool false)] (by simp) (by kernel_rfl) (p_one rfl (l_sc (by kernel_rfl)) p_nil) (by kernel_rfl) (by kernel_rfl)
            · refine awp_condF_ q42 (by kernel_rfl) ?_
              refine awp_skip_ (tn_ ?_)
              refine awp_seq_ ?_
              refine awp_seq_ ?_
              obtain ⟨y46, h46, h⟩ := ob_some h
              obtain ⟨y47, h47, h⟩ := ob_some h
              refine awp_region_ 12 (by kernel_rfl) ?_
              refine rs0 (.own (4, 1) .int 0 y25.length) (by kernel_rfl) ?_
              refine rs0 (.tree .int a2) (by kernel_rfl) ?_
              refine rcall (.own (1360, 9) .int 0 y46.length) [((1360, 9), some (.arr 3 .int y46))] [(.tree .int a2)] _ (caps := []) (args0 := [(.tree .int a2)]) trivial (by kernel_rfl) (by kernel_rfl) (by kernel_rfl) (by kernel_rfl) (ok_laws_toIntS h46) hb_laws_toIntS (by kernel_rfl) ?_
              refine rcall (.bool y47) [] [(.own (4, 1) .int 0 y25.length), (.own (1360, 9) .int 0 y46.length)] _ (caps := []) (args0 := [(.tree .int y25), (.tree .int y46)]) trivial (by kernel_rfl) (by kernel_rfl) (gm_cons (gd_own (e := 3) (by kernel_rfl) rfl) (gm_cons (gd_own (e := 3) (by kernel_rfl) rfl) gm_nil)) (by kernel_rfl) (ok_laws_eqIntS h47) hb_laws_eqIntS (by kernel_rfl) ?_
              refine rs0 (.bool (!y47)) (by kernel_rfl) ?_
              refine rnil (tn_ ?_)
              rcases cond_some h with ⟨q48, h⟩ | ⟨q48, h⟩
              · refine awp_condT_ q48 (by kernel_rfl) ?_
                refine awp_seq_ ?_
                refine awp_region_ 13 (by kernel_rfl) ?_
                refine rs0 (.bool false) (by kernel_rfl) ?_
                refine rnil (tn_ ?_)
                refine awp_ret_ (tr_ ?_)
                obtain rfl := Option.some.inj h
                exact ret_ [(.bool false)] (by simp) (by kernel_rfl) (p_one rfl (l_sc (by kernel_rfl)) p_nil) (by kernel_rfl) (by kernel_rfl)
              · refine awp_condF_ q48 (by kernel_rfl) ?_
                refine awp_skip_ (tn_ ?_)
                refine awp_seq_ ?_
                refine awp_seq_ ?_
                obtain ⟨y52, h52, h⟩ := ob_some h
                obtain ⟨y53, h53, h⟩ := ob_some h
                refine awp_region_ 17 (by kernel_rfl) ?_
                refine rs0 (.own (5, 1) .int 0 y27.length) (by kernel_rfl) ?_
                refine rs0 (.tree .int a3) (by kernel_rfl) ?_
                refine rcall (.own (1440, 14) .int 0 y52.length) [((1440, 14), some (.arr 3 .int y52))] [(.tree .int a3)] _ (caps := []) (args0 := [(.tree .int a3)]) trivial (by kernel_rfl) (by kernel_rfl) (by kernel_rfl) (by kernel_rfl) (ok_laws_toIntS h52) hb_laws_toIntS (by kernel_rfl) ?_
                refine rcall (.bool y53) [] [(.own (5, 1) .int 0 y27.length), (.own (1440, 14) .int 0 y52.length)] _ (caps := []) (args0 := [(.tree .int y27), (.tree .int y52)]) trivial (by kernel_rfl) (by kernel_rfl) (gm_cons (gd_own (e := 3) (by kernel_rfl) rfl) (gm_cons (gd_own (e := 3) (by kernel_rfl) rfl) gm_nil)) (by kernel_rfl) (ok_laws_eqIntS h53) hb_laws_eqIntS (by kernel_rfl) ?_
                refine rs0 (.bool (!y53)) (by kernel_rfl) ?_
                refine rnil (tn_ ?_)
                rcases cond_some h with ⟨q54, h⟩ | ⟨q54, h⟩
                · refine awp_condT_ q54 (by kernel_rfl) ?_
                  refine awp_seq_ ?_
                  refine awp_region_ 18 (by kernel_rfl) ?_
                  refine rs0 (.bool false) (by kernel_rfl) ?_
                  refine rnil (tn_ ?_)
                  refine awp_ret_ (tr_ ?_)
                  obtain rfl := Option.some.inj h
                  exact ret_ [(.bool false)] (by simp) (by kernel_rfl) (p_one rfl (l_sc (by kernel_rfl)) p_nil) (by kernel_rfl) (by kernel_rfl)
                · refine awp_condF_ q54 (by kernel_rfl) ?_
                  refine awp_skip_ (tn_ ?_)
                  refine awp_seq_ ?_
                  refine awp_region_ 18 (by kernel_rfl) ?_
                  refine rs0 (.int .i64 1) (by kernel_rfl) ?_
                  refine rnil (tn_ ?_)
                  refine awp_seq_ ?_
                  obtain ⟨y58, h58, h⟩ := ob_some h
                  obtain ⟨g59, h⟩ := og_some h
                  obtain ⟨g60, h⟩ := og_some h
                  refine awp_region_ 22 (by kernel_rfl) ?_
                  refine rsl (.agg [(.int .i64 y23.1), (.own (8, 1) (.pair .int (.pair .int (.pair .int .int))) 0 y23.2.1.length), (.own (9, 1) .int 0 y23.2.2.length)]) (by kernel_rfl) ?_
                  refine rs0 (.int .i64 1) (by kernel_rfl) ?_
                  refine rcallM (.int .i64 y58.2.2) [((0, 0), (8, 1)), ((1, 0), (9, 1))] [(.agg [(.int .i64 y23.1), (.own (8, 1) (.pair .int (.pair .int (.pair .int .int))) 0 y23.2.1.length), (.own (9, 1) .int 0 y23.2.2.length)]), (.int .i64 1)] (caps := []) trivial (by kernel_rfl) (by kernel_rfl) (ok_laws_markCircuit h58 rfl rfl) (by kernel_rfl) (by kernel_rfl) (by kernel_rfl) (by kernel_rfl) (by kernel_rfl) hb_laws_markCircuit ?_
                  refine rs0 (.int .i64 y58.2.2) (by kernel_rfl) ?_
                  refine rnil (tn_ ?_)
                  refine awp_seq_ ?_
                  obtain ⟨y62, h62, h⟩ := ob_some h
                  obtain ⟨g63, h⟩ := og_some h
                  refine awp_region_ 26 (by kernel_rfl) ?_
                  refine rs0 (.own (4, 1) .int 0 y25.length) (by kernel_rfl) ?_
                  refine rs0 (.int .i64 y58.2.2) (by kernel_rfl) ?_
                  refine rcallM (.int .i64 y62.2) [((0, 0), (4, 1))] [(.own (4, 1) .int 0 y25.length), (.int .i64 y58.2.2)] (caps := []) trivial (by kernel_rfl) (by kernel_rfl) (ok_laws_markIntS h62 rfl) (by kernel_rfl) (by kernel_rfl) (by kernel_rfl) (by kernel_rfl) (by kernel_rfl) hb_laws_markIntS ?_
                  refine rs0 (.int .i64 y62.2) (by kernel_rfl) ?_
                  refine rnil (tn_ ?_)
                  refine awp_seq_ ?_
                  obtain ⟨y65, h65, h⟩ := ob_some h
                  obtain ⟨g66, h⟩ := og_some h
                  refine awp_region_ 30 (by kernel_rfl) ?_
                  refine rs0 (.own (5, 1) .int 0 y27.length) (by kernel_rfl) ?_
                  refine rs0 (.int .i64 y62.2) (by kernel_rfl) ?_
                  refine rcallM (.int .i64 y65.2) [((0, 0), (5, 1))] [(.own (5, 1) .int 0 y27.length), (.int .i64 y62.2)] (caps := []) trivial (by kernel_rfl) (by kernel_rfl) (ok_laws_markIntS h65 rfl) (by kernel_rfl) (by kernel_rfl) (by kernel_rfl) (by kernel_rfl) (by kernel_rfl) hb_laws_markIntS ?_
                  refine rs0 (.int .i64 y65.2) (by kernel_rfl) ?_
                  refine rnil (tn_ ?_)
                  refine awp_seq_ ?_
                  refine awp_seqB h (fun (l68_m120 : Bool) S_ => S_ = ⟨mkTm [(0, (.int .i64 a0)), (2, (.tree .int a2)), (3, (.tree .int a3)), (5, (.box (0, 1) 0)), (10, (.own (1, 1) .int 0 y21.1.length)), (11, (.own (2, 1) .int 0 y21.2.1.length)), (12, (.bool y21.2.2)), (16, (.own (3, 1) .int 0 y29.1.length)), (17, (.own (4, 1) .int 0 y29.2.1.length)), (120, (.bool l68_m120))], mkOb (someL [((0, 1), .cells 25 [(.int .i64 a1_0), (.tree (.pair .int (.pair .int (.pair .int .int))) a1_1), (.tree .int a1_2)]), ((1, 1), .arr 3 .int y21.1), ((2, 1), .arr 3 .int y21.2.1), ((3, 1), .arr 3 .int y29.1), ((4, 1), .arr 3 .int y29.2.1)]), 2⟩) ?_ ?_
                  · intro v_ h
                    rcases cond_some h with ⟨q69, h⟩ | ⟨q69, h⟩
                    · have q69_ := of_decide_eq_true q69
                      refine awp_region_ 49 (by kernel_rfl) ?_
                      refine rs0 (.int .i64 y65.2) (by kernel_rfl) ?_
                      refine rs0 (.bool (decide (y65.2 < 0))) (by kernel_rfl) ?_
                      refine rs0 (.bool (decide (y65.2 < 0))) (by kernel_rfl) ?_
                      refine rs0 (.tup []) (s_skip (by kernel_rfl) q69) ?_
                      refine rs0 (.tup []) (s_skip (by kernel_rfl) q69) ?_
                      refine rs0 (.tup []) (s_skip (by kernel_rfl) q69) ?_
                      refine rs0 (.tup []) (s_skip (by kernel_rfl) q69) ?_
                      refine rs0 (.bool true) (s_pickT (by kernel_rfl) q69) ?_
                      refine rs0 (.bool true) (by kernel_rfl) ?_
                      refine rs0 (.tup []) (by kernel_rfl) ?_
                      refine rs0 (.tup []) (by kernel_rfl) ?_
                      refine rs0 (.tup []) (by kernel_rfl) ?_
                      refine rs0 (.tup []) (by kernel_rfl) ?_
                      refine rs0 (.bool true) (by kernel_rfl) ?_
                      refine rs0 (.bool true) (by kernel_rfl) ?_
                      refine rs0 (.tup []) (by kernel_rfl) ?_
                      refine rs0 (.tup []) (by kernel_rfl) ?_
                      refine rs0 (.tup []) (by kernel_rfl) ?_
                      refine rs0 (.bool true) (by kernel_rfl) ?_
                      refine rnil (tn_ ?_)
                      obtain rfl := Option.some.inj h
                      exact ⟨_, (weak_ren (renF [((3, 1), (6, 1)), ((4, 1), (7, 1))]) (by kernel_rfl) (by kernel_rfl) (by kernel_rfl)), rfl⟩
                    · have q69_ := of_decide_eq_false q69
                      obtain ⟨y70, h70, h⟩ := ob_some h
                      rcases cond_some h with ⟨q71, h⟩ | ⟨q71, h⟩
                      · refine awp_region_ 49 (by kernel_rfl) ?_
                        refine rs0 (.int .i64 y65.2) (by kernel_rfl) ?_
                        refine rs0 (.bool (decide (y65.2 < 0))) (by kernel_rfl) ?_
                        refine rs0 (.bool (decide (y65.2 < 0))) (by kernel_rfl) ?_
                        refine rs0 (.own (6, 1) .int 0 y29.1.length) (s_gd (by kernel_rfl) q69 (by kernel_rfl)) ?_
                        refine rs0 (.own (1, 1) .int 0 y21.1.length) (s_gd (by kernel_rfl) q69 (by kernel_rfl)) ?_
                        refine rcall (.bool y70) [] [(.own (6, 1) .int 0 y29.1.length), (.own (1, 1) .int 0 y21.1.length)] _ (caps := []) (args0 := [(.tree .int y29.1), (.tree .int y21.1)]) (gdOK_b (by kernel_rfl) q69) (by kernel_rfl) (by kernel_rfl) (gm_cons (gd_own (e := 3) (by kernel_rfl) rfl) (gm_cons (gd_own (e := 3) (by kernel_rfl) rfl) gm_nil)) (by kernel_rfl) (ok_laws_eqIntS h70) hb_laws_eqIntS (by kernel_rfl) ?_
                        refine rs0 (.bool (!y70)) (s_gd (by kernel_rfl) q69 (by kernel_rfl)) ?_
                        refine rs0 (.bool (!y70)) (s_pickF (by kernel_rfl) q69) ?_
                        refine rs0 (.bool (!y70)) (by kernel_rfl) ?_
                        refine rs0 (.tup []) (s_skip (by kernel_rfl) q71) ?_
                        refine rs0 (.tup []) (s_skip (by kernel_rfl) q71) ?_
                        refine rs0 (.tup []) (s_skip (by kernel_rfl) q71) ?_
                        refine rs0 (.tup []) (s_skip (by kernel_rfl) q71) ?_
                        refine rs0 (.bool true) (s_pickT (by kernel_rfl) q71) ?_
                        refine rs0 (.bool true) (by kernel_rfl) ?_
                        refine rs0 (.tup []) (by kernel_rfl) ?_
                        refine rs0 (.tup []) (by kernel_rfl) ?_
                        refine rs0 (.tup []) (by kernel_rfl) ?_
                        refine rs0 (.bool true) (by kernel_rfl) ?_
                        refine rnil (tn_ ?_)
                        obtain rfl := Option.some.inj h
                        exact ⟨_, (weak_ren (renF [((3, 1), (6, 1)), ((4, 1), (7, 1))]) (by kernel_rfl) (by kernel_rfl) (by kernel_rfl)), rfl⟩
                      · obtain ⟨y72, h72, h⟩ := ob_some h
                        rcases cond_some h with ⟨q73, h⟩ | ⟨q73, h⟩
                        · refine awp_region_ 49 (by kernel_rfl) ?_
                          refine rs0 (.int .i64 y65.2) (by kernel_rfl) ?_
                          refine rs0 (.bool (decide (y65.2 < 0))) (by kernel_rfl) ?_
                          refine rs0 (.bool (decide (y65.2 < 0))) (by kernel_rfl) ?_
                          refine rs0 (.own (6, 1) .int 0 y29.1.length) (s_gd (by kernel_rfl) q69 (by kernel_rfl)) ?_
                          refine rs0 (.own (1, 1) .int 0 y21.1.length) (s_gd (by kernel_rfl) q69 (by kernel_rfl)) ?_
                          refine rcall (.bool y70) [] [(.own (6, 1) .int 0 y29.1.length), (.own (1, 1) .int 0 y21.1.length)] _ (caps := []) (args0 := [(.tree .int y29.1), (.tree .int y21.1)]) (gdOK_b (by kernel_rfl) q69) (by kernel_rfl) (by kernel_rfl) (gm_cons (gd_own (e := 3) (by kernel_rfl) rfl) (gm_cons (gd_own (e := 3) (by kernel_rfl) rfl) gm_nil)) (by kernel_rfl) (ok_laws_eqIntS h70) hb_laws_eqIntS (by kernel_rfl) ?_
                          refine rs0 (.bool (!y70)) (s_gd (by kernel_rfl) q69 (by kernel_rfl)) ?_
                          refine rs0 (.bool (!y70)) (s_pickF (by kernel_rfl) q69) ?_
                          refine rs0 (.bool (!y70)) (by kernel_rfl) ?_
                          refine rs0 (.own (7, 1) .int 0 y29.2.1.length) (s_gd (by kernel_rfl) q71 (by kernel_rfl)) ?_
                          refine rs0 (.own (2, 1) .int 0 y21.2.1.length) (s_gd (by kernel_rfl) q71 (by kernel_rfl)) ?_
                          refine rcall (.bool y72) [] [(.own (7, 1) .int 0 y29.2.1.length), (.own (2, 1) .int 0 y21.2.1.length)] _ (caps := []) (args0 := [(.tree .int y29.2.1), (.tree .int y21.2.1)]) (gdOK_b (by kernel_rfl) q71) (by kernel_rfl) (by kernel_rfl) (gm_cons (gd_own (e := 3) (by kernel_rfl) rfl) (gm_cons (gd_own (e := 3) (by kernel_rfl) rfl) gm_nil)) (by kernel_rfl) (ok_laws_eqIntS h72) hb_laws_eqIntS (by kernel_rfl) ?_
                          refine rs0 (.bool (!y72)) (s_gd (by kernel_rfl) q71 (by kernel_rfl)) ?_
                          refine rs0 (.bool (!y72)) (s_pickF (by kernel_rfl) q71) ?_
                          refine rs0 (.bool (!y72)) (by kernel_rfl) ?_
                          refine rs0 (.tup []) (s_skip (by kernel_rfl) q73) ?_
                          refine rs0 (.tup []) (s_skip (by kernel_rfl) q73) ?_
                          refine rs0 (.tup []) (s_skip (by kernel_rfl) q73) ?_
                          refine rs0 (.bool true) (s_pickT (by kernel_rfl) q73) ?_
                          refine rnil (tn_ ?_)
                          obtain rfl := Option.some.inj h
                          exact ⟨_, (weak_ren (renF [((3, 1), (6, 1)), ((4, 1), (7, 1))]) (by kernel_rfl) (by kernel_rfl) (by kernel_rfl)), rfl⟩
                        · refine awp_region_ 49 (by kernel_rfl) ?_
                          refine rs0 (.int .i64 y65.2) (by kernel_rfl) ?_
                          refine rs0 (.bool (decide (y65.2 < 0))) (by kernel_rfl) ?_
                          refine rs0 (.bool (decide (y65.2 < 0))) (by kernel_rfl) ?_
                          refine rs0 (.own (6, 1) .int 0 y29.1.length) (s_gd (by kernel_rfl) q69 (by kernel_rfl)) ?_
                          refine rs0 (.own (1, 1) .int 0 y21.1.length) (s_gd (by kernel_rfl) q69 (by kernel_rfl)) ?_
                          refine rcall (.bool y70) [] [(.own (6, 1) .int 0 y29.1.length), (.own (1, 1) .int 0 y21.1.length)] _ (caps := []) (args0 := [(.tree .int y29.1), (.tree .int y21.1)]) (gdOK_b (by kernel_rfl) q69) (by kernel_rfl) (by kernel_rfl) (gm_cons (gd_own (e := 3) (by kernel_rfl) rfl) (gm_cons (gd_own (e := 3) (by kernel_rfl) rfl) gm_nil)) (by kernel_rfl) (ok_laws_eqIntS h70) hb_laws_eqIntS (by kernel_rfl) ?_
                          refine rs0 (.bool (!y70)) (s_gd (by kernel_rfl) q69 (by kernel_rfl)) ?_
                          refine rs0 (.bool (!y70)) (s_pickF (by kernel_rfl) q69) ?_
                          refine rs0 (.bool (!y70)) (by kernel_rfl) ?_
                          refine rs0 (.own (7, 1) .int 0 y29.2.1.length) (s_gd (by kernel_rfl) q71 (by kernel_rfl)) ?_
                          refine rs0 (.own (2, 1) .int 0 y21.2.1.length) (s_gd (by kernel_rfl) q71 (by kernel_rfl)) ?_
                          refine rcall (.bool y72) [] [(.own (7, 1) .int 0 y29.2.1.length), (.own (2, 1) .int 0 y21.2.1.length)] _ (caps := []) (args0 := [(.tree .int y29.2.1), (.tree .int y21.2.1)]) (gdOK_b (by kernel_rfl) q71) (by kernel_rfl) (by kernel_rfl) (gm_cons (gd_own (e := 3) (by kernel_rfl) rfl) (gm_cons (gd_own (e := 3) (by kernel_rfl) rfl) gm_nil)) (by kernel_rfl) (ok_laws_eqIntS h72) hb_laws_eqIntS (by kernel_rfl) ?_
                          refine rs0 (.bool (!y72)) (s_gd (by kernel_rfl) q71 (by kernel_rfl)) ?_
                          refine rs0 (.bool (!y72)) (s_pickF (by kernel_rfl) q71) ?_
                          refine rs0 (.bool (!y72)) (by kernel_rfl) ?_
                          refine rs0 (.bool y29.2.2) (s_gd (by kernel_rfl) q73 (by kernel_rfl)) ?_
                          refine rs0 (.bool y21.2.2) (s_gd (by kernel_rfl) q73 (by kernel_rfl)) ?_
                          refine rs0 (.bool (y29.2.2 != y21.2.2)) (s_gd (by kernel_rfl) q73 (by kernel_rfl)) ?_
                          refine rs0 (.bool (y29.2.2 != y21.2.2)) (s_pickF (by kernel_rfl) q73) ?_
                          refine rnil (tn_ ?_)
                          obtain rfl := Option.some.inj h
                          exact ⟨_, (weak_ren (renF [((3, 1), (6, 1)), ((4, 1), (7, 1))]) (by kernel_rfl) (by kernel_rfl) (by kernel_rfl)), rfl⟩
                  · rintro l68_m120 _ rfl h
                    (try dsimp only at h)
                    rcases cond_some h with ⟨q74, h⟩ | ⟨q74, h⟩
                    · refine awp_condT_ q74 (by kernel_rfl) ?_
                      refine awp_seq_ ?_
                      refine awp_region_ 3 (by kernel_rfl) ?_
                      refine rs0 (.bool false) (by kernel_rfl) ?_
                      refine rnil (tn_ ?_)
                      refine awp_ret_ (tr_ ?_)
                      obtain rfl := Option.some.inj h
                      exact ret_ [(.bool false)] (by simp) (by kernel_rfl) (p_one rfl (l_sc (by kernel_rfl)) p_nil) (by kernel_rfl) (by kernel_rfl)
                    · refine awp_condF_ q74 (by kernel_rfl) ?_
                      refine awp_skip_ (tn_ ?_)
                      refine awp_seq_ ?_
                      refine awp_region_ 3 (by kernel_rfl) ?_
                      refine rs0 (.int .i64 1) (by kernel_rfl) ?_
                      refine rnil (tn_ ?_)
                      refine awp_seq_ ?_
                      obtain ⟨y78, h78, h⟩ := ob_some h
                      obtain ⟨g79, h⟩ := og_some h
                      refine awp_region_ 7 (by kernel_rfl) ?_
                      refine rs0 (.own (3, 1) .int 0 y29.1.length) (by kernel_rfl) ?_
                      refine rs0 (.int .i64 1) (by kernel_rfl) ?_
                      refine rcallM (.int .i64 y78.2) [((0, 0), (3, 1))] [(.own (3, 1) .int 0 y29.1.length), (.int .i64 1)] (caps := []) trivial (by kernel_rfl) (by kernel_rfl) (ok_laws_markIntS h78 rfl) (by kernel_rfl) (by kernel_rfl) (by kernel_rfl) (by kernel_rfl) (by kernel_rfl) hb_laws_markIntS ?_
                      refine rs0 (.int .i64 y78.2) (by kernel_rfl) ?_
                      refine rnil (tn_ ?_)
                      refine awp_seq_ ?_
                      obtain ⟨y81, h81, h⟩ := ob_some h
                      obtain ⟨g82, h⟩ := og_some h
                      refine awp_region_ 11 (by kernel_rfl) ?_
                      refine rs0 (.own (4, 1) .int 0 y29.2.1.length) (by kernel_rfl) ?_
                      refine rs0 (.int .i64 y78.2) (by kernel_rfl) ?_
                      refine rcallM (.int .i64 y81.2) [((0, 0), (4, 1))] [(.own (4, 1) .int 0 y29.2.1.length), (.int .i64 y78.2)] (caps := []) trivial (by kernel_rfl) (by kernel_rfl) (ok_laws_markIntS h81 rfl) (by kernel_rfl) (by kernel_rfl) (by kernel_rfl) (by kernel_rfl) (by kernel_rfl) hb_laws_markIntS ?_
                      refine rs0 (.int .i64 y81.2) (by kernel_rfl) ?_
                      refine rnil (tn_ ?_)
                      refine awp_seq_ ?_
                      refine awp_region_ 12 (by kernel_rfl) ?_
                      refine rs0 (.int .i64 1) (by kernel_rfl) ?_
                      refine rnil (tn_ ?_)
                      refine awp_seq_ ?_
                      obtain ⟨y85, h85, h⟩ := ob_some h
                      refine awp_region_ 16 (by kernel_rfl) ?_
                      refine rs0 (.own (3, 1) .int 0 y29.1.length) (by kernel_rfl) ?_
                      refine rs0 (.int .i64 1) (by kernel_rfl) ?_
                      refine rcall (.int .i64 y85) [] [(.own (3, 1) .int 0 y29.1.length), (.int .i64 1)] _ (caps := []) (args0 := [(.tree .int y78.1), (.int .i64 1)]) trivial (by kernel_rfl) (by kernel_rfl) (gm_cons (gd_own (e := 3) (by kernel_rfl) g79.symm) (gm_cons (by kernel_rfl) gm_nil)) (by kernel_rfl) (ok_laws_heldIntS h85) hb_laws_heldIntS (by kernel_rfl) ?_
                      refine rs0 (.int .i64 y85) (by kernel_rfl) ?_
                      refine rnil (tn_ ?_)
                      refine awp_seq_ ?_
                      refine awp_seq_ ?_
                      refine awp_region_ 18 (by kernel_rfl) ?_
                      refine rs0 (.int .i64 y85) (by kernel_rfl) ?_
                      refine rs0 (.bool (decide (y85 < 0))) (by kernel_rfl) ?_
                      refine rnil (tn_ ?_)
                      rcases cond_some h with ⟨q88, h⟩ | ⟨q88, h⟩
                      · have q88_ := of_decide_eq_true q88
                        refine awp_condT_ q88 (by kernel_rfl) ?_
                        refine awp_seq_ ?_
                        refine awp_region_ 19 (by kernel_rfl) ?_
                        refine rs0 (.bool false) (by kernel_rfl) ?_
                        refine rnil (tn_ ?_)
                        refine awp_ret_ (tr_ ?_)
                        obtain rfl := Option.some.inj h
                        exact ret_ [(.bool false)] (by simp) (by kernel_rfl) (p_one rfl (l_sc (by kernel_rfl)) p_nil) (by kernel_rfl) (by kernel_rfl)
                      · have q88_ := of_decide_eq_false q88
                        refine awp_condF_ q88 (by kernel_rfl) ?_
                        refine awp_skip_ (tn_ ?_)
                        refine awp_seq_ ?_
                        obtain ⟨y91, h91, h⟩ := ob_some h
                        refine awp_region_ 22 (by kernel_rfl) ?_
                        refine rs0 (.own (4, 1) .int 0 y29.2.1.length) (by kernel_rfl) ?_
                        refine rs0 (.int .i64 y85) (by kernel_rfl) ?_
                        refine rcall (.int .i64 y91) [] [(.own (4, 1) .int 0 y29.2.1.length), (.int .i64 y85)] _ (caps := []) (args0 := [(.tree .int y81.1), (.int .i64 y85)]) trivial (by kernel_rfl) (by kernel_rfl) (gm_cons (gd_own (e := 3) (by kernel_rfl) g82.symm) (gm_cons (by kernel_rfl) gm_nil)) (by kernel_rfl) (ok_laws_heldIntS h91) hb_laws_heldIntS (by kernel_rfl) ?_
                        refine rs0 (.int .i64 y91) (by kernel_rfl) ?_
                        refine rnil (tn_ ?_)
                        refine awp_seq_ ?_
                        refine awp_seq_ ?_
                        refine awp_region_ 24 (by kernel_rfl) ?_
                        refine rs0 (.int .i64 y91) (by kernel_rfl) ?_
                        refine rs0 (.bool (decide (y91 < 0))) (by kernel_rfl) ?_
                        refine rnil (tn_ ?_)
                        rcases cond_some h with ⟨q94, h⟩ | ⟨q94, h⟩
                        · have q94_ := of_decide_eq_true q94
                          refine awp_condT_ q94 (by kernel_rfl) ?_
                          refine awp_seq_ ?_
                          refine awp_region_ 25 (by kernel_rfl) ?_
                          refine rs0 (.bool false) (by kernel_rfl) ?_
                          refine rnil (tn_ ?_)
                          refine awp_ret_ (tr_ ?_)
                          obtain rfl := Option.some.inj h
                          exact ret_ [(.bool false)] (by simp) (by kernel_rfl) (p_one rfl (l_sc (by kernel_rfl)) p_nil) (by kernel_rfl) (by kernel_rfl)
                        · have q94_ := of_decide_eq_false q94
                          refine awp_condF_ q94 (by kernel_rfl) ?_
                          refine awp_skip_ (tn_ ?_)
                          refine awp_seq_ ?_
                          refine awp_seq_ ?_
                          refine awp_region_ 27 (by kernel_rfl) ?_
                          refine rs0 (.int .i64 y91) (by kernel_rfl) ?_
                          refine rs0 (.int .i64 y81.2) (by kernel_rfl) ?_
                          refine rs0 (.bool (y91 != y81.2)) (by kernel_rfl) ?_
                          refine rnil (tn_ ?_)
                          rcases cond_some h with ⟨q98, h⟩ | ⟨q98, h⟩
                          · refine awp_condT_ q98 (by kernel_rfl) ?_
                            refine awp_seq_ ?_
                            refine awp_region_ 28 (by kernel_rfl) ?_
                            refine rs0 (.bool false) (by kernel_rfl) ?_
                            refine rnil (tn_ ?_)
                            refine awp_ret_ (tr_ ?_)
                            obtain rfl := Option.some.inj h
                            exact ret_ [(.bool false)] (by simp) (by kernel_rfl) (p_one rfl (l_sc (by kernel_rfl)) p_nil) (by kernel_rfl) (by kernel_rfl)
                          · refine awp_condF_ q98 (by kernel_rfl) ?_
                            refine awp_skip_ (tn_ ?_)
                            refine awp_seq_ ?_
                            obtain ⟨y101, h101, h⟩ := ob_some h
                            obtain ⟨y102, h102, h⟩ := ob_some h
                            obtain ⟨y103, h103, h⟩ := ob_some h
                            obtain ⟨y104, h104, h⟩ := ob_some h
                            refine awp_region_ 42 (by kernel_rfl) ?_
                            refine rs0 (.int .i64 a0) (by kernel_rfl) ?_
                            refine rsl (.agg [(.int .i64 a1_0), (.tree (.pair .int (.pair .int (.pair .int .int))) a1_1), (.tree .int a1_2)]) (by kernel_rfl) ?_
                            refine rcall (.agg [(.int .i64 y101.1), (.own (2288, 29) (.pair .int (.pair .int (.pair .int .int))) 0 y101.2.1.length), (.own (2289, 29) .int 0 y101.2.2.length)]) [((2288, 29), some (.arr 51 (.pair .int (.pair .int (.pair .int .int))) y101.2.1)), ((2289, 29), some (.arr 3 .int y101.2.2))] [(.agg [(.int .i64 a1_0), (.tree (.pair .int (.pair .int (.pair .int .int))) a1_1), (.tree .int a1_2)])] _ (caps := []) (args0 := [(.agg [(.int .i64 a1_0), (.tree (.pair .int (.pair .int (.pair .int .int))) a1_1), (.tree .int a1_2)])]) trivial (by kernel_rfl) (by kernel_rfl) (by kernel_rfl) (by kernel_rfl) (ok_laws_toCircuit h101) hb_laws_toCircuit (by kernel_rfl) ?_
                            refine rs0 (.tree .int a2) (by kernel_rfl) ?_
                            refine rcall (.own (2320, 31) .int 0 y102.length) [((2320, 31), some (.arr 3 .int y102))] [(.tree .int a2)] _ (caps := []) (args0 := [(.tree .int a2)]) trivial (by kernel_rfl) (by kernel_rfl) (by kernel_rfl) (by kernel_rfl) (ok_laws_toIntS h102) hb_laws_toIntS (by kernel_rfl) ?_
                            refine rs0 (.tree .int a3) (by kernel_rfl) ?_
                            refine rcall (.own (2352, 33) .int 0 y103.length) [((2352, 33), some (.arr 3 .int y103))] [(.tree .int a3)] _ (caps := []) (args0 := [(.tree .int a3)]) trivial (by kernel_rfl) (by kernel_rfl) (by kernel_rfl) (by kernel_rfl) (ok_laws_toIntS h103) hb_laws_toIntS (by kernel_rfl) ?_
                            refine rcall (.tup [(.own (2368, 34) .int 0 y104.1.length), (.own (2369, 34) .int 0 y104.2.1.length), (.bool y104.2.2)]) [((2368, 34), some (.arr 3 .int y104.1)), ((2369, 34), some (.arr 3 .int y104.2.1))] [(.int .i64 a0), (.agg [(.int .i64 y101.1), (.own (2288, 29) (.pair .int (.pair .int (.pair .int .int))) 0 y101.2.1.length), (.own (2289, 29) .int 0 y101.2.2.length)]), (.own (2320, 31) .int 0 y102.length), (.own (2352, 33) .int 0 y103.length)] _ (caps := []) (args0 := [(.int .i64 a0), (.agg [(.int .i64 y101.1), (.tree (.pair .int (.pair .int (.pair .int .int))) y101.2.1), (.tree .int y101.2.2)]), (.tree .int y102), (.tree .int y103)]) trivial (by kernel_rfl) (by kernel_rfl) (gm_cons (by kernel_rfl) (gm_cons (gd_agg (gm_cons (by kernel_rfl) (gm_cons (gd_own (e := 51) (by kernel_rfl) rfl) (gm_cons (gd_own (e := 3) (by kernel_rfl) rfl) gm_nil)))) (gm_cons (gd_own (e := 3) (by kernel_rfl) rfl) (gm_cons (gd_own (e := 3) (by kernel_rfl) rfl) gm_nil)))) (by kernel_rfl) (ok_impl_StepCircuit h104) hb_impl_StepCircuit (by kernel_rfl) ?_
                            refine rs0 (.tup [(.own (2368, 34) .int 0 y104.1.length), (.own (2369, 34) .int 0 y104.2.1.length), (.bool y104.2.2)]) (by kernel_rfl) ?_
                            refine rs0 (.own (2368, 34) .int 0 y104.1.length) (by kernel_rfl) ?_
                            refine rs0 (.own (2369, 34) .int 0 y104.2.1.length) (by kernel_rfl) ?_
                            refine rs0 (.bool y104.2.2) (by kernel_rfl) ?_
                            refine rs0 (.own (2368, 34) .int 0 y104.1.length) (by kernel_rfl) ?_
                            refine rs0 (.own (2369, 34) .int 0 y104.2.1.length) (by kernel_rfl) ?_
                            refine rs0 (.bool y104.2.2) (by kernel_rfl) ?_
                            refine rnil (tn_ ?_)
                            refine awp_seq_ ?_
                            refine awp_seqB h (fun (l106_m166 : Bool) S_ => S_ = ⟨mkTm [(16, (.own (0, 1) .int 0 y78.1.length)), (17, (.own (1, 1) .int 0 y81.1.length)), (20, (.int .i64 y81.2)), (166, (.bool l106_m166))], mkOb (someL [((0, 1), .arr 3 .int y78.1), ((1, 1), .arr 3 .int y81.1)]), 2⟩) ?_ ?_
                            · intro v_ h
                              obtain ⟨y107, h107, h⟩ := ob_some h
                              rcases cond_some h with ⟨q108, h⟩ | ⟨q108, h⟩
                              · refine awp_region_ 57 (by kernel_rfl) ?_
                                refine rs0 (.own (2368, 34) .int 0 y104.1.length) (by kernel_rfl) ?_
                                refine rs0 (.own (1, 1) .int 0 y21.1.length) (by kernel_rfl) ?_
                                refine rcall (.bool y107) [] [(.own (2368, 34) .int 0 y104.1.length), (.own (1, 1) .int 0 y21.1.length)] _ (caps := []) (args0 := [(.tree .int y104.1), (.tree .int y21.1)]) trivial (by kernel_rfl) (by kernel_rfl) (gm_cons (gd_own (e := 3) (by kernel_rfl) rfl) (gm_cons (gd_own (e := 3) (by kernel_rfl) rfl) gm_nil)) (by kernel_rfl) (ok_laws_eqIntS h107) hb_laws_eqIntS (by kernel_rfl) ?_
                                refine rs0 (.bool (!y107)) (by kernel_rfl) ?_
                                refine rs0 (.bool (!y107)) (by kernel_rfl) ?_
                                refine rs0 (.tup []) (s_skip (by kernel_rfl) q108) ?_
                                refine rs0 (.tup []) (s_skip (by kernel_rfl) q108) ?_
                                refine rs0 (.tup []) (s_skip (by kernel_rfl) q108) ?_
                                refine rs0 (.tup []) (s_skip (by kernel_rfl) q108) ?_
                                refine rs0 (.bool true) (s_pickT (by kernel_rfl) q108) ?_
                                refine rs0 (.bool true) (by kernel_rfl) ?_
                                refine rs0 (.tup []) (by kernel_rfl) ?_
                                refine rs0 (.tup []) (by kernel_rfl) ?_
                                refine rs0 (.tup []) (by kernel_rfl) ?_
                                refine rs0 (.bool true) (by kernel_rfl) ?_
                                refine rnil (tn_ ?_)
                                obtain rfl := Option.some.inj h
                                exact ⟨_, ((weak_tm_ 16 (.own (3, 1) .int 0 y29.1.length) (.own (3, 1) .int 0 y78.1.length) (by kernel_rfl) (congrArg (fun z_ => ((.own (3, 1) .int 0 z_) : AV)) (g79.symm : y29.1.length = y78.1.length))).trans ((weak_tm_ 17 (.own (4, 1) .int 0 y29.2.1.length) (.own (4, 1) .int 0 y81.1.length) (by kernel_rfl) (congrArg (fun z_ => ((.own (4, 1) .int 0 z_) : AV)) (g82.symm : y29.2.1.length = y81.1.length))).trans (weak_ren (renF [((0, 1), (3, 1)), ((1, 1), (4, 1))]) (by kernel_rfl) (by kernel_rfl) (by kernel_rfl)))), rfl⟩
                              · obtain ⟨y109, h109, h⟩ := ob_some h
                                rcases cond_some h with ⟨q110, h⟩ | ⟨q110, h⟩
                                · refine awp_region_ 57 (by kernel_rfl) ?_
                                  refine rs0 (.own (2368, 34) .int 0 y104.1.length) (by kernel_rfl) ?_
                                  refine rs0 (.own (1, 1) .int 0 y21.1.length) (by kernel_rfl) ?_
                                  refine rcall (.bool y107) [] [(.own (2368, 34) .int 0 y104.1.length), (.own (1, 1) .int 0 y21.1.length)] _ (caps := []) (args0 := [(.tree .int y104.1), (.tree .int y21.1)]) trivial (by kernel_rfl) (by kernel_rfl) (gm_cons (gd_own (e := 3) (by kernel_rfl) rfl) (gm_cons (gd_own (e := 3) (by kernel_rfl) rfl) gm_nil)) (by kernel_rfl) (ok_laws_eqIntS h107) hb_laws_eqIntS (by kernel_rfl) ?_
                                  refine rs0 (.bool (!y107)) (by kernel_rfl) ?_
                                  refine rs0 (.bool (!y107)) (by kernel_rfl) ?_
                                  refine rs0 (.own (2369, 34) .int 0 y104.2.1.length) (s_gd (by kernel_rfl) q108 (by kernel_rfl)) ?_
                                  refine rs0 (.own (2, 1) .int 0 y21.2.1.length) (s_gd (by kernel_rfl) q108 (by kernel_rfl)) ?_
                                  refine rcall (.bool y109) [] [(.own (2369, 34) .int 0 y104.2.1.length), (.own (2, 1) .int 0 y21.2.1.length)] _ (caps := []) (args0 := [(.tree .int y104.2.1), (.tree .int y21.2.1)]) (gdOK_b (by kernel_rfl) q108) (by kernel_rfl) (by kernel_rfl) (gm_cons (gd_own (e := 3) (by kernel_rfl) rfl) (gm_cons (gd_own (e := 3) (by kernel_rfl) rfl) gm_nil)) (by kernel_rfl) (ok_laws_eqIntS h109) hb_laws_eqIntS (by kernel_rfl) ?_
                                  refine rs0 (.bool (!y109)) (s_gd (by kernel_rfl) q108 (by kernel_rfl)) ?_
                                  refine rs0 (.bool (!y109)) (s_pickF (by kernel_rfl) q108) ?_
                                  refine rs0 (.bool (!y109)) (by kernel_rfl) ?_
                                  refine rs0 (.tup []) (s_skip (by kernel_rfl) q110) ?_
                                  refine rs0 (.tup []) (s_skip (by kernel_rfl) q110) ?_
                                  refine rs0 (.tup []) (s_skip (by kernel_rfl) q110) ?_
                                  refine rs0 (.bool true) (s_pickT (by kernel_rfl) q110) ?_
                                  refine rnil (tn_ ?_)
                                  obtain rfl := Option.some.inj h
                                  exact ⟨_, ((weak_tm_ 16 (.own (3, 1) .int 0 y29.1.length) (.own (3, 1) .int 0 y78.1.length) (by kernel_rfl) (congrArg (fun z_ => ((.own (3, 1) .int 0 z_) : AV)) (g79.symm : y29.1.length = y78.1.length))).trans ((weak_tm_ 17 (.own (4, 1) .int 0 y29.2.1.length) (.own (4, 1) .int 0 y81.1.length) (by kernel_rfl) (congrArg (fun z_ => ((.own (4, 1) .int 0 z_) : AV)) (g82.symm : y29.2.1.length = y81.1.length))).trans (weak_ren (renF [((0, 1), (3, 1)), ((1, 1), (4, 1))]) (by kernel_rfl) (by kernel_rfl) (by kernel_rfl)))), rfl⟩
                                · refine awp_region_ 57 (by kernel_rfl) ?_
                                  refine rs0 (.own (2368, 34) .int 0 y104.1.length) (by kernel_rfl) ?_
                                  refine rs0 (.own (1, 1) .int 0 y21.1.length) (by kernel_rfl) ?_
                                  refine rcall (.bool y107) [] [(.own (2368, 34) .int 0 y104.1.length), (.own (1, 1) .int 0 y21.1.length)] _ (caps := []) (args0 := [(.tree .int y104.1), (.tree .int y21.1)]) trivial (by kernel_rfl) (by kernel_rfl) (gm_cons (gd_own (e := 3) (by kernel_rfl) rfl) (gm_cons (gd_own (e := 3) (by kernel_rfl) rfl) gm_nil)) (by kernel_rfl) (ok_laws_eqIntS h107) hb_laws_eqIntS (by kernel_rfl) ?_
                                  refine rs0 (.bool (!y107)) (by kernel_rfl) ?_
                                  refine rs0 (.bool (!y107)) (by kernel_rfl) ?_
                                  refine rs0 (.own (2369, 34) .int 0 y104.2.1.length) (s_gd (by kernel_rfl) q108 (by kernel_rfl)) ?_
                                  refine rs0 (.own (2, 1) .int 0 y21.2.1.length) (s_gd (by kernel_rfl) q108 (by kernel_rfl)) ?_
                                  refine rcall (.bool y109) [] [(.own (2369, 34) .int 0 y104.2.1.length), (.own (2, 1) .int 0 y21.2.1.length)] _ (caps := []) (args0 := [(.tree .int y104.2.1), (.tree .int y21.2.1)]) (gdOK_b (by kernel_rfl) q108) (by kernel_rfl) (by kernel_rfl) (gm_cons (gd_own (e := 3) (by kernel_rfl) rfl) (gm_cons (gd_own (e := 3) (by kernel_rfl) rfl) gm_nil)) (by kernel_rfl) (ok_laws_eqIntS h109) hb_laws_eqIntS (by kernel_rfl) ?_
                                  refine rs0 (.bool (!y109)) (s_gd (by kernel_rfl) q108 (by kernel_rfl)) ?_
                                  refine rs0 (.bool (!y109)) (s_pickF (by kernel_rfl) q108) ?_
                                  refine rs0 (.bool (!y109)) (by kernel_rfl) ?_
                                  refine rs0 (.bool y104.2.2) (s_gd (by kernel_rfl) q110 (by kernel_rfl)) ?_
                                  refine rs0 (.bool y21.2.2) (s_gd (by kernel_rfl) q110 (by kernel_rfl)) ?_
                                  refine rs0 (.bool (y104.2.2 != y21.2.2)) (s_gd (by kernel_rfl) q110 (by kernel_rfl)) ?_
                                  refine rs0 (.bool (y104.2.2 != y21.2.2)) (s_pickF (by kernel_rfl) q110) ?_
                                  refine rnil (tn_ ?_)
                                  obtain rfl := Option.some.inj h
                                  exact ⟨_, ((weak_tm_ 16 (.own (3, 1) .int 0 y29.1.length) (.own (3, 1) .int 0 y78.1.length) (by kernel_rfl) (congrArg (fun z_ => ((.own (3, 1) .int 0 z_) : AV)) (g79.symm : y29.1.length = y78.1.length))).trans ((weak_tm_ 17 (.own (4, 1) .int 0 y29.2.1.length) (.own (4, 1) .int 0 y81.1.length) (by kernel_rfl) (congrArg (fun z_ => ((.own (4, 1) .int 0 z_) : AV)) (g82.symm : y29.2.1.length = y81.1.length))).trans (weak_ren (renF [((0, 1), (3, 1)), ((1, 1), (4, 1))]) (by kernel_rfl) (by kernel_rfl) (by kernel_rfl)))), rfl⟩
                            · rintro l106_m166 _ rfl h
                              (try dsimp only at h)
                              rcases cond_some h with ⟨q111, h⟩ | ⟨q111, h⟩
                              · refine awp_condT_ q111 (by kernel_rfl) ?_
                                refine awp_seq_ ?_
                                refine awp_region_ 3 (by kernel_rfl) ?_
                                refine rs0 (.bool false) (by kernel_rfl) ?_
                                refine rnil (tn_ ?_)
                                refine awp_ret_ (tr_ ?_)
                                obtain rfl := Option.some.inj h
                                exact ret_ [(.bool false)] (by simp) (by kernel_rfl) (p_one rfl (l_sc (by kernel_rfl)) p_nil) (by kernel_rfl) (by kernel_rfl)
                              · refine awp_condF_ q111 (by kernel_rfl) ?_
                                refine awp_skip_ (tn_ ?_)
                                refine awp_seq_ ?_
                                refine awp_region_ 3 (by kernel_rfl) ?_
                                refine rs0 (.int .i64 1) (by kernel_rfl) ?_
                                refine rnil (tn_ ?_)
                                refine awp_seq_ ?_
                                obtain ⟨y115, h115, h⟩ := ob_some h
                                refine awp_region_ 7 (by kernel_rfl) ?_
                                refine rs0 (.own (0, 1) .int 0 y78.1.length) (by kernel_rfl) ?_
                                refine rs0 (.int .i64 1) (by kernel_rfl) ?_
                                refine rcall (.int .i64 y115) [] [(.own (0, 1) .int 0 y78.1.length), (.int .i64 1)] _ (caps := []) (args0 := [(.tree .int y78.1), (.int .i64 1)]) trivial (by kernel_rfl) (by kernel_rfl) (gm_cons (gd_own (e := 3) (by kernel_rfl) rfl) (gm_cons (by kernel_rfl) gm_nil)) (by kernel_rfl) (ok_laws_heldIntS h115) hb_laws_heldIntS (by kernel_rfl) ?_
                                refine rs0 (.int .i64 y115) (by kernel_rfl) ?_
                                refine rnil (tn_ ?_)
                                refine awp_seq_ ?_
                                refine awp_seq_ ?_
                                refine awp_region_ 9 (by kernel_rfl) ?_
                                refine rs0 (.int .i64 y115) (by kernel_rfl) ?_
                                refine rs0 (.bool (decide (y115 < 0))) (by kernel_rfl) ?_
                                refine rnil (tn_ ?_)
                                rcases cond_some h with ⟨q118, h⟩ | ⟨q118, h⟩
                                · have q118_ := of_decide_eq_true q118
                                  refine awp_condT_ q118 (by kernel_rfl) ?_
                                  refine awp_seq_ ?_
                                  refine awp_region_ 10 (by kernel_rfl) ?_
                                  refine rs0 (.bool false) (by kernel_rfl) ?_
                                  refine rnil (tn_ ?_)
                                  refine awp_ret_ (tr_ ?_)
                                  obtain rfl := Option.some.inj h
                                  exact ret_ [(.bool false)] (by simp) (by kernel_rfl) (p_one rfl (l_sc (by kernel_rfl)) p_nil) (by kernel_rfl) (by kernel_rfl)
                                · have q118_ := of_decide_eq_false q118
                                  refine awp_condF_ q118 (by kernel_rfl) ?_
                                  refine awp_skip_ (tn_ ?_)
                                  refine awp_seq_ ?_
                                  obtain ⟨y121, h121, h⟩ := ob_some h
                                  refine awp_region_ 13 (by kernel_rfl) ?_
                                  refine rs0 (.own (1, 1) .int 0 y81.1.length) (by kernel_rfl) ?_
                                  refine rs0 (.int .i64 y115) (by kernel_rfl) ?_
                                  refine rcall (.int .i64 y121) [] [(.own (1, 1) .int 0 y81.1.length), (.int .i64 y115)] _ (caps := []) (args0 := [(.tree .int y81.1), (.int .i64 y115)]) trivial (by kernel_rfl) (by kernel_rfl) (gm_cons (gd_own (e := 3) (by kernel_rfl) rfl) (gm_cons (by kernel_rfl) gm_nil)) (by kernel_rfl) (ok_laws_heldIntS h121) hb_laws_heldIntS (by kernel_rfl) ?_
                                  refine rs0 (.int .i64 y121) (by kernel_rfl) ?_
                                  refine rnil (tn_ ?_)
                                  refine awp_seq_ ?_
                                  refine awp_seq_ ?_
                                  refine awp_region_ 15 (by kernel_rfl) ?_
                                  refine rs0 (.int .i64 y121) (by kernel_rfl) ?_
                                  refine rs0 (.bool (decide (y121 < 0))) (by kernel_rfl) ?_
                                  refine rnil (tn_ ?_)
                                  rcases cond_some h with ⟨q124, h⟩ | ⟨q124, h⟩
                                  · have q124_ := of_decide_eq_true q124
                                    refine awp_condT_ q124 (by kernel_rfl) ?_
                                    refine awp_seq_ ?_
                                    refine awp_region_ 16 (by kernel_rfl) ?_
                                    refine rs0 (.bool false) (by kernel_rfl) ?_
                                    refine rnil (tn_ ?_)
                                    refine awp_ret_ (tr_ ?_)
                                    obtain rfl := Option.some.inj h
                                    exact ret_ [(.bool false)] (by simp) (by kernel_rfl) (p_one rfl (l_sc (by kernel_rfl)) p_nil) (by kernel_rfl) (by kernel_rfl)
                                  · have q124_ := of_decide_eq_false q124
                                    refine awp_condF_ q124 (by kernel_rfl) ?_
                                    refine awp_skip_ (tn_ ?_)
                                    refine awp_seq_ ?_
                                    refine awp_seq_ ?_
                                    refine awp_region_ 18 (by kernel_rfl) ?_
                                    refine rs0 (.int .i64 y121) (by kernel_rfl) ?_
                                    refine rs0 (.int .i64 y81.2) (by kernel_rfl) ?_
                                    refine rs0 (.bool (y121 != y81.2)) (by kernel_rfl) ?_
                                    refine rnil (tn_ ?_)
                                    rcases cond_some h with ⟨q128, h⟩ | ⟨q128, h⟩
                                    · refine awp_condT_ q128 (by kernel_rfl) ?_
                                      refine awp_seq_ ?_
                                      refine awp_region_ 19 (by kernel_rfl) ?_
                                      refine rs0 (.bool false) (by kernel_rfl) ?_
                                      refine rnil (tn_ ?_)
                                      refine awp_ret_ (tr_ ?_)
                                      obtain rfl := Option.some.inj h
                                      exact ret_ [(.bool false)] (by simp) (by kernel_rfl) (p_one rfl (l_sc (by kernel_rfl)) p_nil) (by kernel_rfl) (by kernel_rfl)
                                    · refine awp_condF_ q128 (by kernel_rfl) ?_
                                      refine awp_skip_ (tn_ ?_)
                                      refine awp_seq_ ?_
                                      refine awp_region_ 19 (by kernel_rfl) ?_
                                      refine rs0 (.bool true) (by kernel_rfl) ?_
                                      refine rnil (tn_ ?_)
                                      refine awp_ret_ ?_
                                      obtain rfl := Option.some.inj h
                                      exact ret_ [(.bool true)] (by simp) (by kernel_rfl) (p_one rfl (l_sc (by kernel_rfl)) p_nil) (by kernel_rfl) (by kernel_rfl)
end Go.Proofs.YthjdknddcceigaaDoor
