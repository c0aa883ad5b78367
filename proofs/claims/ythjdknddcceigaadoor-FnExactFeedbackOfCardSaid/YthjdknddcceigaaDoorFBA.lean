/- Partial functions in place of code, and that the code does what they say: FBA. No condition. -/
import Derived.Test.YthjdknddcceigaaDoorB3
namespace Go.Proofs.YthjdknddcceigaaDoor
open Go.RowKit Go.Deep
set_option maxRecDepth 4000
def m_spec_crBack_l1 : AC :=
  (.seq (.region [⟨(some 26), none, (.i (.bin .lss (.tmp 25) (.tmp 24)))⟩] false [])
  (.seq (.cond (.tmp 26)
    .skip
    (.exit 0))
  (.seq (.block 1 (.seq (.region [⟨(some 27), none, (.i (.idx 4 (.tmp 23) (.tmp 25)))⟩, ⟨(some 28), none, (.i (.ld false 4 (.tmp 27)))⟩, ⟨(some 7), none, (.i (.alloc 51 [(.int .i64 0), (.int .i64 0), (.int .i64 0), (.int .i64 0)]))⟩, ⟨none, none, (.st false 4 (.tmp 7) (.tmp 28))⟩] false [])
  (.seq (.seq (.region [⟨(some 29), none, (.i (.fld 0 (.tmp 7)))⟩, ⟨(some 30), none, (.i (.ld true 1 (.tmp 29)))⟩, ⟨(some 31), none, (.i (.bin .eql (.tmp 30) (.cst (.int .i64 1))))⟩, ⟨(some 32), none, (.i (.mov (.tmp 31)))⟩, ⟨(some 33), (some (32, true)), (.i (.fld 3 (.tmp 7)))⟩, ⟨(some 34), (some (32, true)), (.i (.ld true 1 (.tmp 33)))⟩, ⟨(some 35), (some (32, true)), (.i (.fld 0 (.tmp 5)))⟩, ⟨(some 36), (some (32, true)), (.i (.ld true 1 (.tmp 35)))⟩, ⟨(some 37), (some (32, true)), (.i (.bin .geq (.tmp 34) (.tmp 36)))⟩, ⟨(some 38), none, (.i (.pick (.tmp 32) (.tmp 37) (.cst (.bool false))))⟩] false [])
  (.cond (.tmp 38)
    (.region [⟨(some 39), none, (.i (.fld 2 (.tmp 2)))⟩, ⟨(some 40), none, (.i (.ld true 1 (.tmp 39)))⟩, ⟨(some 41), none, (.i (.fld 2 (.tmp 2)))⟩, ⟨(some 42), none, (.i (.ld true 1 (.tmp 41)))⟩, ⟨(some 43), none, (.i (.len (.tmp 42)))⟩, ⟨(some 44), none, (.i (.mov (.tmp 1)))⟩, ⟨(some 45), none, (.i (.bin .sub (.tmp 43) (.tmp 44)))⟩, ⟨(some 46), none, (.i (.fld 3 (.tmp 7)))⟩, ⟨(some 47), none, (.i (.ld true 1 (.tmp 46)))⟩, ⟨(some 48), none, (.i (.bin .add (.tmp 45) (.tmp 47)))⟩, ⟨(some 49), none, (.i (.fld 0 (.tmp 5)))⟩, ⟨(some 50), none, (.i (.ld true 1 (.tmp 49)))⟩, ⟨(some 51), none, (.i (.bin .sub (.tmp 48) (.tmp 50)))⟩, ⟨(some 52), none, (.i (.idx 1 (.tmp 40) (.tmp 51)))⟩, ⟨(some 53), none, (.i (.ld true 1 (.tmp 52)))⟩, ⟨(some 54), none, (.build [(.int .i64 0), (.int .i64 0), (.int .i64 0), (.int .i64 0)] [(0, 1, (.cst (.int .i64 5))), (1, 1, (.tmp 53))])⟩, ⟨none, none, (.st false 4 (.tmp 7) (.tmp 54))⟩] false [])
    .skip))
  (.region [⟨(some 55), none, (.i (.fld 1 (.tmp 5)))⟩, ⟨(some 56), none, (.i (.ld true 1 (.tmp 55)))⟩, ⟨(some 57), none, (.i (.ld false 4 (.tmp 7)))⟩, ⟨(some 58), none, (.mkS 51 (.pair .int (.pair .int (.pair .int .int))) [(.tmp 57)])⟩, ⟨(some 59), none, (.append 51 (.pair .int (.pair .int (.pair .int .int))) 32 (.tmp 56) (.tmp 58))⟩, ⟨(some 60), none, (.i (.fld 1 (.tmp 5)))⟩, ⟨none, none, (.st true 1 (.tmp 60) (.tmp 59))⟩] false []))))
  (.region [⟨(some 61), none, (.i (.bin .add (.tmp 25) (.cst (.int .i64 1))))⟩, ⟨(some 25), none, (.i (.mov (.tmp 61)))⟩] false []))))
def m_spec_crBack : AC :=
  (.seq (.region [⟨(some 2), none, (.i (.box 31 (.tmp 0)))⟩, ⟨(some 4), none, (.i (.alloc 31 [(.int .i64 0), .nils, .nils]))⟩] false [])
  (.seq (.region [⟨(some 8), none, (.i (.fld 0 (.tmp 2)))⟩, ⟨(some 9), none, (.i (.ld true 1 (.tmp 8)))⟩, ⟨(some 10), none, (.i (.mov (.tmp 1)))⟩, ⟨(some 11), none, (.i (.bin .sub (.tmp 9) (.tmp 10)))⟩, ⟨(some 12), none, (.i (.fld 2 (.tmp 2)))⟩, ⟨(some 13), none, (.i (.ld true 1 (.tmp 12)))⟩, ⟨(some 14), none, (.i (.fld 2 (.tmp 2)))⟩, ⟨(some 15), none, (.i (.ld true 1 (.tmp 14)))⟩, ⟨(some 16), none, (.i (.len (.tmp 15)))⟩, ⟨(some 17), none, (.i (.mov (.tmp 1)))⟩, ⟨(some 18), none, (.i (.bin .sub (.tmp 16) (.tmp 17)))⟩, ⟨(some 19), none, (.slice 1 (.tmp 13) none (some (.tmp 18)) none)⟩, ⟨(some 20), none, (.call (.cst (.fn 79 [])) [(.tmp 19)] [[(some .int)]])⟩, ⟨(some 21), none, (.build [(.int .i64 0), .nils, .nils] [(0, 1, (.tmp 11)), (2, 1, (.tmp 20))])⟩, ⟨(some 5), none, (.i (.alloc 31 [(.int .i64 0), .nils, .nils]))⟩, ⟨none, none, (.st false 3 (.tmp 5) (.tmp 21))⟩] true [(1, 12), (12, 14)])
  (.seq (.seq (.region [⟨(some 22), none, (.i (.fld 1 (.tmp 2)))⟩, ⟨(some 23), none, (.i (.ld true 1 (.tmp 22)))⟩, ⟨(some 24), none, (.i (.len (.tmp 23)))⟩, ⟨(some 25), none, (.i (.mov (.cst (.int .i64 0))))⟩] false [])
  (.block 0 (.loop m_spec_crBack_l1)))
  (.seq (.region [⟨(some 62), none, (.i (.ld false 3 (.tmp 5)))⟩, ⟨none, none, (.st false 3 (.tmp 4) (.tmp 62))⟩] false [])
  .ret))))
def r_spec_crBack : List Res := [.cell 4 false 3]
theorem c_spec_crBack : compiled Tryd.prog Tryd.f44 = some (m_spec_crBack, r_spec_crBack) := by kernel_rfl
theorem hb_spec_crBack : hasBody Tryd.prog 44 = true := by kernel_rfl
def L_spec_crBack_l1 (a0_1 : List (Int × Int × Int × Int)) (a0_0 : Int) (a1 : Int) (a0_2 : List Int) (l7_m25 : Nat) (l7_m5_1 : List (Int × Int × Int × Int)) : Option (Ctl (Nat × (List (Int × Int × Int × Int))) (List (Int × Int × Int × Int))) :=
  cond (decide (((l7_m25 : Nat) : Int) < ((a0_1.length : Nat) : Int)))
  (Option.bind (a0_1[l7_m25]?) fun x13 =>
  Option.bind (Option.bind (cond (x13.1 == 1)
        (some (decide (IntKind.i64.wrap (a0_0 - a1) ≤ x13.2.2.2)))
        (some false)) fun l15_m38 =>
    cond l15_m38
      (Option.bind (getI a0_2 (IntKind.i64.wrap ((IntKind.i64.wrap (IntKind.i64.wrap (((a0_2.length : Nat) : Int) - a1) + x13.2.2.2)) - (IntKind.i64.wrap (a0_0 - a1))))) fun x18 =>
      some (5, x18, 0, 0))
      (some (x13.1, x13.2.1, x13.2.2.1, x13.2.2.2))) fun (l14_m7_0, l14_m7_1, l14_m7_2, l14_m7_3) =>
  og (l7_m5_1.length + 1 ≤ 1073741824 ∧ (l7_m5_1.length + 1) * 32 ≤ 140737488355328) <|
  og (l7_m25 + 1 < 4611686018427387904) <|
  some (Ctl.next (l7_m25 + 1, l7_m5_1 ++ ([(l14_m7_0, l14_m7_1, l14_m7_2, l14_m7_3)]))))
  (some (Ctl.out l7_m5_1))
def L_spec_crBack (a0_0 : Int) (a0_1 : List (Int × Int × Int × Int)) (a0_2 : List Int) (a1 : Int) : Option (Int × (List (Int × Int × Int × Int)) × List Int) :=
  og ((0 : Int) ≤ 0 ∧ 0 ≤ IntKind.i64.wrap (((a0_2.length : Nat) : Int) - a1) ∧ IntKind.i64.wrap (((a0_2.length : Nat) : Int) - a1) ≤ ((a0_2.length : Nat) : Int) ∧ ((a0_2.length : Nat) : Int) ≤ ((a0_2.length : Nat) : Int)) <|
Option.bind (L_spec_l1Own (a0_2.take ((IntKind.i64.wrap (((a0_2.length : Nat) : Int) - a1)).toNat))) fun y4 =>
Option.bind (loopM (fun s_ : Nat × (List (Int × Int × Int × Int)) => L_spec_crBack_l1 a0_1 a0_0 a1 a0_2 s_.1 s_.2) 4611686018427387904 (0, [])) fun l5_m5_1 =>
some (IntKind.i64.wrap (a0_0 - a1), l5_m5_1, y4)
def rv_spec_crBack (r : Int × (List (Int × Int × Int × Int)) × List Int) : RV := ⟨false, [(true, [.sc (.int .i64 r.1), .new 51 (.pair .int (.pair .int (.pair .int .int))) r.2.1, .new 3 .int r.2.2])]⟩
theorem ok_spec_crBack {a0_0 : Int} {a0_1 : List (Int × Int × Int × Int)} {a0_2 : List Int} {a1 : Int} {r : Int × (List (Int × Int × Int × Int)) × List Int} (h : L_spec_crBack a0_0 a0_1 a0_2 a1 = some r) : CallOK Tryd.prog Tab 44 [(.agg [(.int .i64 a0_0), (.tree (.pair .int (.pair .int (.pair .int .int))) a0_1), (.tree .int a0_2)]), (.int .i64 a1)] (rv_spec_crBack r) := by
  refine call_of_ (by kernel_rfl) Tryd.func44 c_spec_crBack (n := 63) (by kernel_rfl) (by simp) (tl := [(0, (.agg [(.int .i64 a0_0), (.tree (.pair .int (.pair .int (.pair .int .int))) a0_1), (.tree .int a0_2)])), (1, (.int .i64 a1))]) rfl ?_
  unfold m_spec_crBack
  unfold L_spec_crBack at h
  refine awp_seq_ ?_
  refine awp_region_ 3 (by kernel_rfl) ?_
  refine rs1 (.box (2, 1) 0) (2, 1) (.cells 31 [(.int .i64 a0_0), (.tree (.pair .int (.pair .int (.pair .int .int))) a0_1), (.tree .int a0_2)]) (by kernel_rfl) ?_
  refine rs1 (.box (4, 2) 0) (4, 2) (.cells 31 [(.int .i64 0), .nils, .nils]) (by kernel_rfl) ?_
  refine rnil (tn_ ?_)
  refine awp_seq_ ?_
  obtain ⟨g3, h⟩ := og_some h
  obtain ⟨y4, h4, h⟩ := ob_some h
  refine awp_regionD_ 19 (by kernel_rfl) ?_
  refine ds0 (.box (2, 1) 0) (by kernel_rfl) ?_
  refine dsl (.int .i64 a0_0) (by kernel_rfl) ?_
  refine ds0 (.int .i64 a1) (by kernel_rfl) ?_
  refine ds0 (.int .i64 (IntKind.i64.wrap (a0_0 - a1))) (by kernel_rfl) ?_
  refine ds0 (.box (2, 1) 2) (by kernel_rfl) ?_
  refine dsl (.tree .int a0_2) (by kernel_rfl) ?_
  refine ds0 (.box (2, 1) 2) (by kernel_rfl) ?_
  refine dsl (.tree .int a0_2) (by kernel_rfl) ?_
  refine ds0 (.int .i64 ((a0_2.length : Nat) : Int)) (by kernel_rfl) ?_
  refine ds0 (.int .i64 a1) (by kernel_rfl) ?_
  refine ds0 (.int .i64 (IntKind.i64.wrap (((a0_2.length : Nat) : Int) - a1))) (by kernel_rfl) ?_
  refine ds0 (.tree .int (a0_2.take ((IntKind.i64.wrap (((a0_2.length : Nat) : Int) - a1)).toNat))) (s_sliceT (t := .int) (xs := a0_2) (zs := a0_2.take ((IntKind.i64.wrap (((a0_2.length : Nat) : Int) - a1)).toNat)) (l := 0) (h := IntKind.i64.wrap (((a0_2.length : Nat) : Int) - a1)) (m := ((a0_2.length : Nat) : Int)) (by kernel_rfl) (by kernel_rfl) (by kernel_rfl) (by kernel_rfl) rfl g3 rfl) ?_
  refine dcall (.own (320, 15) .int 0 y4.length) [((320, 15), some (.arr 3 .int y4))] [(.tree .int (a0_2.take ((IntKind.i64.wrap (((a0_2.length : Nat) : Int) - a1)).toNat)))] _ (caps := []) (args0 := [(.tree .int (a0_2.take ((IntKind.i64.wrap (((a0_2.length : Nat) : Int) - a1)).toNat)))]) trivial (by kernel_rfl) (by kernel_rfl) (by kernel_rfl) (by kernel_rfl) (ok_spec_l1Own h4) hb_spec_l1Own (by kernel_rfl) ?_
  refine ds0 (.agg [(.int .i64 (IntKind.i64.wrap (a0_0 - a1))), .nils, (.own (320, 15) .int 0 y4.length)]) (by kernel_rfl) ?_
  refine ds1 (.box (5, 17) 0) (5, 17) (.cells 31 [(.int .i64 0), .nils, .nils]) (by kernel_rfl) ?_
  refine dsn2 (5, 17) (5, 17) (.cells 31 [(.int .i64 (IntKind.i64.wrap (a0_0 - a1))), .nils, (.own (320, 15) .int 0 y4.length)]) (by kernel_rfl) ?_
  refine dnil (by kernel_rfl) (tn_ ?_)
  refine awp_seqB h (fun (l5_m5_1 : List (Int × Int × Int × Int)) S_ => S_ = ⟨mkTm [(4, (.box (0, 1) 0)), (5, (.box (1, 1) 0))], mkOb (someL [((0, 1), .cells 31 [(.int .i64 0), .nils, .nils]), ((1, 1), .cells 31 [(.int .i64 (IntKind.i64.wrap (a0_0 - a1))), (.own (2, 1) (.pair .int (.pair .int (.pair .int .int))) 0 l5_m5_1.length), (.own (3, 1) .int 0 y4.length)]), ((2, 1), .arr 51 (.pair .int (.pair .int (.pair .int .int))) l5_m5_1), ((3, 1), .arr 3 .int y4)]), 2⟩) ?_ ?_
  · intro v_ h
    refine awp_seq_ ?_
    refine awp_region_ 23 (by kernel_rfl) ?_
    refine rs0 (.box (2, 1) 1) (by kernel_rfl) ?_
    refine rsl (.tree (.pair .int (.pair .int (.pair .int .int))) a0_1) (by kernel_rfl) ?_
    refine rs0 (.int .i64 ((a0_1.length : Nat) : Int)) (by kernel_rfl) ?_
    refine rs0 (.int .i64 0) (by kernel_rfl) ?_
    refine rnil (tn_ ?_)
    refine awp_block_ ?_
    refine awp_loopL h (fun t_ S_ => ∃ (l7_m25 : Nat), ∃ (l7_m5_1 : List (Int × Int × Int × Int)), t_ = (l7_m25, l7_m5_1) ∧ S_ = ⟨mkTm [(1, (.int .i64 a1)), (2, (.box (0, 1) 0)), (4, (.box (1, 1) 0)), (5, (.box (2, 1) 0)), (23, (.tree (.pair .int (.pair .int (.pair .int .int))) a0_1)), (24, (.int .i64 ((a0_1.length : Nat) : Int))), (25, (.int .i64 ((l7_m25 : Nat) : Int)))], mkOb (someL [((0, 1), .cells 31 [(.int .i64 a0_0), (.tree (.pair .int (.pair .int (.pair .int .int))) a0_1), (.tree .int a0_2)]), ((1, 1), .cells 31 [(.int .i64 0), .nils, .nils]), ((2, 1), .cells 31 [(.int .i64 (IntKind.i64.wrap (a0_0 - a1))), (.own (3, 1) (.pair .int (.pair .int (.pair .int .int))) 0 l7_m5_1.length), (.own (4, 1) .int 0 y4.length)]), ((3, 1), .arr 51 (.pair .int (.pair .int (.pair .int .int))) l7_m5_1), ((4, 1), .arr 3 .int y4)]), 2⟩) ⟨_, ((weak_nil_cell_ 9000 (5, 17) 1 31 [(.int .i64 (IntKind.i64.wrap (a0_0 - a1))), .nils, (.own (320, 15) .int 0 y4.length)] [(.int .i64 (IntKind.i64.wrap (a0_0 - a1))), (.own (9000, 23) (.pair .int (.pair .int (.pair .int .int))) 0 0), (.own (320, 15) .int 0 y4.length)] 51 (.pair .int (.pair .int (.pair .int .int))) rfl (by kernel_rfl) (by kernel_rfl) (by kernel_rfl)).trans (weak_ren (renF [((0, 1), (2, 1)), ((1, 1), (4, 2)), ((2, 1), (5, 17)), ((3, 1), (9000, 23)), ((4, 1), (320, 15))]) (by kernel_rfl) (by kernel_rfl) (by kernel_rfl))), ⟨0, [], rfl, rfl⟩⟩ ?_
    · rintro n_ _ _ c_ ⟨l7_m25, l7_m5_1, rfl, rfl⟩ h hn7
      (try dsimp only at h)
      unfold L_spec_crBack_l1 at h
      unfold m_spec_crBack_l1
      refine awp_seq_ ?_
      refine awp_region_ 3 (by kernel_rfl) ?_
      refine rs0 (.bool (decide (((l7_m25 : Nat) : Int) < ((a0_1.length : Nat) : Int)))) (by kernel_rfl) ?_
      refine rnil (tn_ ?_)
      refine awp_seq_ ?_
      rcases cond_some h with ⟨q10, h⟩ | ⟨q10, h⟩
      · have q10_ := of_decide_eq_true q10
        refine awp_condT_ q10 (by kernel_rfl) ?_
        refine awp_skip_ (tn_ ?_)
        refine awp_seq_ ?_
        refine awp_block_ ?_
        refine awp_seq_ ?_
        obtain ⟨x13, e13, h⟩ := ob_some h
        refine awp_region_ 7 (by kernel_rfl) ?_
        refine rs0 (.telt (.pair .int (.pair .int (.pair .int .int))) x13 0) (s_idxT (t := (.pair .int (.pair .int (.pair .int .int)))) (xs := a0_1) (k := .i64) (m := ((l7_m25 : Nat) : Int)) (by kernel_rfl) (by kernel_rfl) rfl (nat_nn _) rfl e13) ?_
        refine rs0 (.agg [(.int .i64 x13.1), (.int .i64 x13.2.1), (.int .i64 x13.2.2.1), (.int .i64 x13.2.2.2)]) (by kernel_rfl) ?_
        refine rs1 (.box (7, 5) 0) (7, 5) (.cells 51 [(.int .i64 0), (.int .i64 0), (.int .i64 0), (.int .i64 0)]) (by kernel_rfl) ?_
        refine rsn2 (7, 5) (7, 5) (.cells 51 [(.int .i64 x13.1), (.int .i64 x13.2.1), (.int .i64 x13.2.2.1), (.int .i64 x13.2.2.2)]) (by kernel_rfl) ?_
        refine rnil (tn_ ?_)
        refine awp_seqB h (fun t_ S_ => ∃ (l14_m7_0 : Int), ∃ (l14_m7_1 : Int), ∃ (l14_m7_2 : Int), ∃ (l14_m7_3 : Int), t_ = (l14_m7_0, l14_m7_1, l14_m7_2, l14_m7_3) ∧ S_ = ⟨mkTm [(1, (.int .i64 a1)), (2, (.box (0, 1) 0)), (4, (.box (1, 1) 0)), (5, (.box (2, 1) 0)), (7, (.box (3, 1) 0)), (23, (.tree (.pair .int (.pair .int (.pair .int .int))) a0_1)), (24, (.int .i64 ((a0_1.length : Nat) : Int))), (25, (.int .i64 ((l7_m25 : Nat) : Int)))], mkOb (someL [((0, 1), .cells 31 [(.int .i64 a0_0), (.tree (.pair .int (.pair .int (.pair .int .int))) a0_1), (.tree .int a0_2)]), ((1, 1), .cells 31 [(.int .i64 0), .nils, .nils]), ((2, 1), .cells 31 [(.int .i64 (IntKind.i64.wrap (a0_0 - a1))), (.own (4, 1) (.pair .int (.pair .int (.pair .int .int))) 0 l7_m5_1.length), (.own (5, 1) .int 0 y4.length)]), ((3, 1), .cells 51 [(.int .i64 l14_m7_0), (.int .i64 l14_m7_1), (.int .i64 l14_m7_2), (.int .i64 l14_m7_3)]), ((4, 1), .arr 51 (.pair .int (.pair .int (.pair .int .int))) l7_m5_1), ((5, 1), .arr 3 .int y4)]), 2⟩) ?_ ?_
        · intro v_ h
          refine awp_seqB h (fun (l15_m38 : Bool) S_ => S_ = ⟨mkTm [(1, (.int .i64 a1)), (2, (.box (0, 1) 0)), (4, (.box (1, 1) 0)), (5, (.box (2, 1) 0)), (7, (.box (3, 1) 0)), (23, (.tree (.pair .int (.pair .int (.pair .int .int))) a0_1)), (24, (.int .i64 ((a0_1.length : Nat) : Int))), (25, (.int .i64 ((l7_m25 : Nat) : Int))), (38, (.bool l15_m38))], mkOb (someL [((0, 1), .cells 31 [(.int .i64 a0_0), (.tree (.pair .int (.pair .int (.pair .int .int))) a0_1), (.tree .int a0_2)]), ((1, 1), .cells 31 [(.int .i64 0), .nils, .nils]), ((2, 1), .cells 31 [(.int .i64 (IntKind.i64.wrap (a0_0 - a1))), (.own (4, 1) (.pair .int (.pair .int (.pair .int .int))) 0 l7_m5_1.length), (.own (5, 1) .int 0 y4.length)]), ((3, 1), .cells 51 [(.int .i64 x13.1), (.int .i64 x13.2.1), (.int .i64 x13.2.2.1), (.int .i64 x13.2.2.2)]), ((4, 1), .arr 51 (.pair .int (.pair .int (.pair .int .int))) l7_m5_1), ((5, 1), .arr 3 .int y4)]), 2⟩) ?_ ?_
          · intro v_ h
            rcases cond_some h with ⟨q16, h⟩ | ⟨q16, h⟩
            · refine awp_region_ 17 (by kernel_rfl) ?_
              refine rs0 (.box (7, 5) 0) (by kernel_rfl) ?_
              refine rsl (.int .i64 x13.1) (by kernel_rfl) ?_
              refine rs0 (.bool (x13.1 == 1)) (by kernel_rfl) ?_
              refine rs0 (.bool (x13.1 == 1)) (by kernel_rfl) ?_
              refine rs0 (.box (7, 5) 3) (s_gd (by kernel_rfl) q16 (by kernel_rfl)) ?_
              refine rsl (.int .i64 x13.2.2.2) (s_gd (by kernel_rfl) q16 (by kernel_rfl)) ?_
              refine rs0 (.box (2, 1) 0) (s_gd (by kernel_rfl) q16 (by kernel_rfl)) ?_
              refine rsl (.int .i64 (IntKind.i64.wrap (a0_0 - a1))) (s_gd (by kernel_rfl) q16 (by kernel_rfl)) ?_
              refine rs0 (.bool (decide (IntKind.i64.wrap (a0_0 - a1) ≤ x13.2.2.2))) (s_gd (by kernel_rfl) q16 (by kernel_rfl)) ?_
              refine rs0 (.bool (decide (IntKind.i64.wrap (a0_0 - a1) ≤ x13.2.2.2))) (s_pickT (by kernel_rfl) q16) ?_
              refine rnil (tn_ ?_)
              obtain rfl := Option.some.inj h
              exact ⟨_, (weak_ren (renF [((4, 1), (3, 1)), ((5, 1), (4, 1)), ((3, 1), (7, 5))]) (by kernel_rfl) (by kernel_rfl) (by kernel_rfl)), rfl⟩
            · refine awp_region_ 17 (by kernel_rfl) ?_
              refine rs0 (.box (7, 5) 0) (by kernel_rfl) ?_
              refine rsl (.int .i64 x13.1) (by kernel_rfl) ?_
              refine rs0 (.bool (x13.1 == 1)) (by kernel_rfl) ?_
              refine rs0 (.bool (x13.1 == 1)) (by kernel_rfl) ?_
              refine rs0 (.tup []) (s_skip (by kernel_rfl) q16) ?_
              refine rs0 (.tup []) (s_skip (by kernel_rfl) q16) ?_
              refine rs0 (.tup []) (s_skip (by kernel_rfl) q16) ?_
              refine rs0 (.tup []) (s_skip (by kernel_rfl) q16) ?_
              refine rs0 (.tup []) (s_skip (by kernel_rfl) q16) ?_
              refine rs0 (.bool false) (s_pickF (by kernel_rfl) q16) ?_
              refine rnil (tn_ ?_)
              obtain rfl := Option.some.inj h
              exact ⟨_, (weak_ren (renF [((4, 1), (3, 1)), ((5, 1), (4, 1)), ((3, 1), (7, 5))]) (by kernel_rfl) (by kernel_rfl) (by kernel_rfl)), rfl⟩
          · rintro l15_m38 _ rfl h
            (try dsimp only at h)
            rcases cond_some h with ⟨q17, h⟩ | ⟨q17, h⟩
            · refine awp_condT_ q17 (by kernel_rfl) ?_
              obtain ⟨x18, f18, h⟩ := ob_some h
              obtain ⟨p18, b18, e18⟩ := getI_some f18
              refine awp_region_ 19 (by kernel_rfl) ?_
              refine rs0 (.box (0, 1) 2) (by kernel_rfl) ?_
              refine rsl (.tree .int a0_2) (by kernel_rfl) ?_
              refine rs0 (.box (0, 1) 2) (by kernel_rfl) ?_
              refine rsl (.tree .int a0_2) (by kernel_rfl) ?_
              refine rs0 (.int .i64 ((a0_2.length : Nat) : Int)) (by kernel_rfl) ?_
              refine rs0 (.int .i64 a1) (by kernel_rfl) ?_
              refine rs0 (.int .i64 (IntKind.i64.wrap (((a0_2.length : Nat) : Int) - a1))) (by kernel_rfl) ?_
              refine rs0 (.box (3, 1) 3) (by kernel_rfl) ?_
              refine rsl (.int .i64 x13.2.2.2) (by kernel_rfl) ?_
              refine rs0 (.int .i64 (IntKind.i64.wrap (IntKind.i64.wrap (((a0_2.length : Nat) : Int) - a1) + x13.2.2.2))) (by kernel_rfl) ?_
              refine rs0 (.box (2, 1) 0) (by kernel_rfl) ?_
              refine rsl (.int .i64 (IntKind.i64.wrap (a0_0 - a1))) (by kernel_rfl) ?_
              refine rs0 (.int .i64 (IntKind.i64.wrap ((IntKind.i64.wrap (IntKind.i64.wrap (((a0_2.length : Nat) : Int) - a1) + x13.2.2.2)) - (IntKind.i64.wrap (a0_0 - a1))))) (by kernel_rfl) ?_
              refine rs0 (.telt .int x18 0) (s_idxT (t := .int) (xs := a0_2) (k := .i64) (m := IntKind.i64.wrap ((IntKind.i64.wrap (IntKind.i64.wrap (((a0_2.length : Nat) : Int) - a1) + x13.2.2.2)) - (IntKind.i64.wrap (a0_0 - a1)))) (by kernel_rfl) (by kernel_rfl) rfl p18 rfl e18) ?_
              refine rs0 (.int .i64 x18) (by kernel_rfl) ?_
              refine rs0 (.agg [(.int .i64 5), (.int .i64 x18), (.int .i64 0), (.int .i64 0)]) (by kernel_rfl) ?_
              refine rsn2 (3, 1) (3, 1) (.cells 51 [(.int .i64 5), (.int .i64 x18), (.int .i64 0), (.int .i64 0)]) (by kernel_rfl) ?_
              refine rnil (tn_ ?_)
              obtain rfl := Option.some.inj h
              exact ⟨_, (weak_ren (renF []) (by kernel_rfl) (by kernel_rfl) (by kernel_rfl)), ⟨5, x18, 0, 0, rfl, rfl⟩⟩
            · refine awp_condF_ q17 (by kernel_rfl) ?_
              refine awp_skip_ (tn_ ?_)
              obtain rfl := Option.some.inj h
              exact ⟨_, (weak_ren (renF []) (by kernel_rfl) (by kernel_rfl) (by kernel_rfl)), ⟨x13.1, x13.2.1, x13.2.2.1, x13.2.2.2, rfl, rfl⟩⟩
        · rintro _ _ ⟨l14_m7_0, l14_m7_1, l14_m7_2, l14_m7_3, rfl, rfl⟩ h
          (try dsimp only at h)
          obtain ⟨g19, h⟩ := og_some h
          refine awp_region_ 9 (by kernel_rfl) ?_
          refine rs0 (.box (2, 1) 1) (by kernel_rfl) ?_
          refine rsl (.own (4, 1) (.pair .int (.pair .int (.pair .int .int))) 0 l7_m5_1.length) (by kernel_rfl) ?_
          refine rsl (.agg [(.int .i64 l14_m7_0), (.int .i64 l14_m7_1), (.int .i64 l14_m7_2), (.int .i64 l14_m7_3)]) (by kernel_rfl) ?_
          refine rs1 (.own (58, 5) (.pair .int (.pair .int (.pair .int .int))) 0 1) (58, 5) (.arr 51 (.pair .int (.pair .int (.pair .int .int))) ([(l14_m7_0, l14_m7_1, l14_m7_2, l14_m7_3)])) (by kernel_rfl) ?_
          refine rs2 (.own (4, 6) (.pair .int (.pair .int (.pair .int .int))) 0 ((l7_m5_1 ++ ([(l14_m7_0, l14_m7_1, l14_m7_2, l14_m7_3)])).length)) (4, 1) (4, 6) (.arr 51 (.pair .int (.pair .int (.pair .int .int))) (l7_m5_1 ++ ([(l14_m7_0, l14_m7_1, l14_m7_2, l14_m7_3)]))) (s_appO (t := (.pair .int (.pair .int (.pair .int .int)))) (t' := (.pair .int (.pair .int (.pair .int .int)))) (xs := l7_m5_1) (ys := [(l14_m7_0, l14_m7_1, l14_m7_2, l14_m7_3)]) (zs := l7_m5_1 ++ ([(l14_m7_0, l14_m7_1, l14_m7_2, l14_m7_3)])) (j := (4, 1)) (len := l7_m5_1.length) (c := (.own (58, 5) (.pair .int (.pair .int (.pair .int .int))) 0 1)) (by kernel_rfl) (by kernel_rfl) rfl (by kernel_rfl) (sr_own (e := 51) (by kernel_rfl) rfl) rfl g19) ?_
          refine rs0 (.box (2, 1) 1) (by kernel_rfl) ?_
          refine rsn2 (2, 1) (2, 1) (.cells 31 [(.int .i64 (IntKind.i64.wrap (a0_0 - a1))), (.own (4, 6) (.pair .int (.pair .int (.pair .int .int))) 0 ((l7_m5_1 ++ ([(l14_m7_0, l14_m7_1, l14_m7_2, l14_m7_3)])).length)), (.own (5, 1) .int 0 y4.length)]) (by kernel_rfl) ?_
          refine rnil (bn_ (tn_ ?_))
          obtain ⟨g20, h⟩ := og_some h
          refine awp_region_ 11 (by kernel_rfl) ?_
          refine rs0 (.int .i64 ((l7_m25 + 1 : Nat) : Int)) (s_add1 (j := l7_m25) (by kernel_rfl) (by kernel_rfl) g20) ?_
          refine rs0 (.int .i64 ((l7_m25 + 1 : Nat) : Int)) (by kernel_rfl) ?_
          refine rnil (tn_ ?_)
          obtain rfl := Option.some.inj h
          exact ⟨(l7_m25 + 1, l7_m5_1 ++ ([(l14_m7_0, l14_m7_1, l14_m7_2, l14_m7_3)])), _, (weak_ren (renF [((3, 1), (4, 6)), ((4, 1), (5, 1))]) (by kernel_rfl) (by kernel_rfl) (by kernel_rfl)), ⟨l7_m25 + 1, l7_m5_1 ++ ([(l14_m7_0, l14_m7_1, l14_m7_2, l14_m7_3)]), rfl, rfl⟩, hn7⟩
      · have q10_ := of_decide_eq_false q10
        refine awp_condF_ q10 (by kernel_rfl) ?_
        refine awp_exit_ (te_ (te_ (be_ (tn_ ?_))))
        obtain rfl := Option.some.inj h
        have h := hn7
        (try dsimp only at h)
        obtain rfl := Option.some.inj h
        exact ⟨_, (weak_ren (renF [((0, 1), (1, 1)), ((1, 1), (2, 1)), ((2, 1), (3, 1)), ((3, 1), (4, 1))]) (by kernel_rfl) (by kernel_rfl) (by kernel_rfl)), rfl⟩
  · rintro l5_m5_1 _ rfl h
    (try dsimp only at h)
    refine awp_seq_ ?_
    refine awp_region_ 4 (by kernel_rfl) ?_
    refine rsl (.agg [(.int .i64 (IntKind.i64.wrap (a0_0 - a1))), (.own (2, 1) (.pair .int (.pair .int (.pair .int .int))) 0 l5_m5_1.length), (.own (3, 1) .int 0 y4.length)]) (by kernel_rfl) ?_
    refine rsn2 (0, 1) (0, 1) (.cells 31 [(.int .i64 (IntKind.i64.wrap (a0_0 - a1))), (.own (2, 1) (.pair .int (.pair .int (.pair .int .int))) 0 l5_m5_1.length), (.own (3, 1) .int 0 y4.length)]) (by kernel_rfl) ?_
    refine rnil (tn_ ?_)
    refine awp_ret_ ?_
    obtain rfl := Option.some.inj h
    exact ret_ [(.agg [(.int .i64 (IntKind.i64.wrap (a0_0 - a1))), (.own (2, 1) (.pair .int (.pair .int (.pair .int .int))) 0 l5_m5_1.length), (.own (3, 1) .int 0 y4.length)])] (by simp) (by kernel_rfl) (p_agg (l_cons (l_sc (by kernel_rfl)) (l_cons (l_own (by kernel_rfl) rfl) (l_cons (l_own (by kernel_rfl) rfl) l_nil))) p_nil) (by kernel_rfl) (by kernel_rfl)
def m_spec_FeedbackOf : AC :=
  (.seq (.region [⟨(some 4), none, (.i (.box 31 (.tmp 1)))⟩, ⟨(some 6), none, (.i (.alloc 31 [(.int .i64 0), .nils, .nils]))⟩, ⟨(some 7), none, (.i (.mov (.cst (.bool false))))⟩] false [])
  (.seq (.seq (.region [⟨(some 8), none, (.i (.mov (.tmp 0)))⟩, ⟨(some 9), none, (.i (.ld false 3 (.tmp 4)))⟩, ⟨(some 10), none, (.call (.cst (.fn 35 [])) [(.tmp 8), (.tmp 9)] [[], [none, (some (.pair .int (.pair .int (.pair .int .int)))), (some .int)]])⟩, ⟨(some 11), none, (.i (.not (.tmp 10)))⟩, ⟨(some 12), none, (.i (.mov (.tmp 11)))⟩, ⟨(some 13), (some (12, false)), (.i (.mov (.tmp 2)))⟩, ⟨(some 14), (some (12, false)), (.i (.fld 0 (.tmp 4)))⟩, ⟨(some 15), (some (12, false)), (.i (.ld true 1 (.tmp 14)))⟩, ⟨(some 16), (some (12, false)), (.i (.fld 2 (.tmp 4)))⟩, ⟨(some 17), (some (12, false)), (.i (.ld true 1 (.tmp 16)))⟩, ⟨(some 18), (some (12, false)), (.i (.len (.tmp 17)))⟩, ⟨(some 19), (some (12, false)), (.call (.cst (.fn 42 [])) [(.tmp 15), (.tmp 18)] [[], []])⟩, ⟨(some 20), (some (12, false)), (.call (.cst (.fn 41 [])) [(.tmp 13), (.cst (.int .i64 0)), (.tmp 19)] [[], [], []])⟩, ⟨(some 21), (some (12, false)), (.i (.not (.tmp 20)))⟩, ⟨(some 22), none, (.i (.pick (.tmp 12) (.cst (.bool true)) (.tmp 21)))⟩] false [])
  (.cond (.tmp 22)
    (.seq (.region [⟨(some 23), none, (.build [(.int .i64 0), .nils, .nils] [])⟩, ⟨none, none, (.st false 3 (.tmp 6) (.tmp 23))⟩, ⟨(some 7), none, (.i (.mov (.cst (.bool false))))⟩] false [])
    .ret)
    .skip))
  (.seq (.region [⟨(some 24), none, (.i (.mov (.tmp 0)))⟩, ⟨(some 25), none, (.i (.ld false 3 (.tmp 4)))⟩, ⟨(some 26), none, (.i (.mov (.tmp 2)))⟩, ⟨(some 27), none, (.call (.cst (.fn 44 [])) [(.tmp 25), (.tmp 26)] [[none, (some (.pair .int (.pair .int (.pair .int .int)))), (some .int)], []])⟩, ⟨(some 28), none, (.call (.cst (.fn 43 [])) [(.tmp 24), (.tmp 27)] [[], [none, (some (.pair .int (.pair .int (.pair .int .int)))), (some .int)]])⟩, ⟨(some 29), none, (.i (.extr 0 (.tmp 28)))⟩, ⟨(some 30), none, (.i (.extr 1 (.tmp 28)))⟩, ⟨none, none, (.st false 3 (.tmp 6) (.tmp 29))⟩, ⟨(some 7), none, (.i (.mov (.tmp 30)))⟩] false [])
  .ret)))
def r_spec_FeedbackOf : List Res := [.cell 6 false 3, .tmp 7]
theorem c_spec_FeedbackOf : compiled Tryd.prog Tryd.f19 = some (m_spec_FeedbackOf, r_spec_FeedbackOf) := by kernel_rfl
theorem hb_spec_FeedbackOf : hasBody Tryd.prog 19 = true := by kernel_rfl
def L_spec_FeedbackOf (a0 : Int) (a1_0 : Int) (a1_1 : List (Int × Int × Int × Int)) (a1_2 : List Int) (a2 : Int) : Option (Int × (List (Int × Int × Int × Int)) × List Int × Bool) :=
  Option.bind (Option.bind (L_spec_crGood a0 a1_0 a1_1 a1_2) fun y4 =>
  cond (!y4)
    (some true)
    (Option.bind (L_spec_l1Least a1_0 ((a1_2.length : Nat) : Int)) fun y6 =>
    Option.bind (L_spec_l1In a2 0 y6) fun y7 =>
    some (!y7))) fun l3_m22 =>
cond l3_m22
  (some (0, [], [], false))
  (Option.bind (Option.bind (L_spec_crBack a1_0 a1_1 a1_2 a2) fun y11 =>
    Option.bind (L_spec_crIf a0 y11.1 y11.2.1 y11.2.2) fun y12 =>
    (Sum.elim (fun z12_0 =>
    some (z12_0.2, z12_0.1, [], [])) (fun z12_1 =>
    some (z12_1.2, z12_1.1, y11.2.1, y11.2.2))) y12) fun (l10_m7, l10_m6_0, l10_m6_1, l10_m6_2) =>
  some (l10_m6_0, l10_m6_1, l10_m6_2, l10_m7))
def rv_spec_FeedbackOf (r : Int × (List (Int × Int × Int × Int)) × List Int × Bool) : RV := ⟨true, [(true, [.sc (.int .i64 r.1), .new 51 (.pair .int (.pair .int (.pair .int .int))) r.2.1, .new 3 .int r.2.2.1]), (false, [.sc (.bool r.2.2.2)])]⟩
theorem ok_spec_FeedbackOf {a0 : Int} {a1_0 : Int} {a1_1 : List (Int × Int × Int × Int)} {a1_2 : List Int} {a2 : Int} {r : Int × (List (Int × Int × Int × Int)) × List Int × Bool} (h : L_spec_FeedbackOf a0 a1_0 a1_1 a1_2 a2 = some r) : CallOK Tryd.prog Tab 19 [(.int .i64 a0), (.agg [(.int .i64 a1_0), (.tree (.pair .int (.pair .int (.pair .int .int))) a1_1), (.tree .int a1_2)]), (.int .i64 a2)] (rv_spec_FeedbackOf r) := by
  refine call_of_ (by kernel_rfl) Tryd.func19 c_spec_FeedbackOf (n := 31) (by kernel_rfl) (by simp) (tl := [(0, (.int .i64 a0)), (1, (.agg [(.int .i64 a1_0), (.tree (.pair .int (.pair .int (.pair .int .int))) a1_1), (.tree .int a1_2)])), (2, (.int .i64 a2))]) rfl ?_
  unfold m_spec_FeedbackOf
  unfold L_spec_FeedbackOf at h
  refine awp_seq_ ?_
  refine awp_region_ 4 (by kernel_rfl) ?_
  refine rs1 (.box (4, 1) 0) (4, 1) (.cells 31 [(.int .i64 a1_0), (.tree (.pair .int (.pair .int (.pair .int .int))) a1_1), (.tree .int a1_2)]) (by kernel_rfl) ?_
  refine rs1 (.box (6, 2) 0) (6, 2) (.cells 31 [(.int .i64 0), .nils, .nils]) (by kernel_rfl) ?_
  refine rs0 (.bool false) (by kernel_rfl) ?_
  refine rnil (tn_ ?_)
  refine awp_seq_ ?_
  refine awp_seqB h (fun (l3_m22 : Bool) S_ => S_ = ⟨mkTm [(0, (.int .i64 a0)), (2, (.int .i64 a2)), (4, (.box (0, 1) 0)), (6, (.box (1, 1) 0)), (22, (.bool l3_m22))], mkOb (someL [((0, 1), .cells 31 [(.int .i64 a1_0), (.tree (.pair .int (.pair .int (.pair .int .int))) a1_1), (.tree .int a1_2)]), ((1, 1), .cells 31 [(.int .i64 0), .nils, .nils])]), 2⟩) ?_ ?_
  · intro v_ h
    obtain ⟨y4, h4, h⟩ := ob_some h
    rcases cond_some h with ⟨q5, h⟩ | ⟨q5, h⟩
    · refine awp_region_ 19 (by kernel_rfl) ?_
      refine rs0 (.int .i64 a0) (by kernel_rfl) ?_
      refine rsl (.agg [(.int .i64 a1_0), (.tree (.pair .int (.pair .int (.pair .int .int))) a1_1), (.tree .int a1_2)]) (by kernel_rfl) ?_
      refine rcall (.bool y4) [] [(.int .i64 a0), (.agg [(.int .i64 a1_0), (.tree (.pair .int (.pair .int (.pair .int .int))) a1_1), (.tree .int a1_2)])] _ (caps := []) (args0 := [(.int .i64 a0), (.agg [(.int .i64 a1_0), (.tree (.pair .int (.pair .int (.pair .int .int))) a1_1), (.tree .int a1_2)])]) trivial (by kernel_rfl) (by kernel_rfl) (by kernel_rfl) (by kernel_rfl) (ok_spec_crGood h4) hb_spec_crGood (by kernel_rfl) ?_
      refine rs0 (.bool (!y4)) (by kernel_rfl) ?_
      refine rs0 (.bool (!y4)) (by kernel_rfl) ?_
      refine rs0 (.tup []) (s_skip (by kernel_rfl) q5) ?_
      refine rs0 (.tup []) (s_skip (by kernel_rfl) q5) ?_
      refine rs0 (.tup []) (s_skip (by kernel_rfl) q5) ?_
      refine rs0 (.tup []) (s_skip (by kernel_rfl) q5) ?_
      refine rs0 (.tup []) (s_skip (by kernel_rfl) q5) ?_
      refine rs0 (.tup []) (s_skip (by kernel_rfl) q5) ?_
      refine rs0 (.tup []) (s_skip (by kernel_rfl) q5) ?_
      refine rs0 (.tup []) (s_skip (by kernel_rfl) q5) ?_
      refine rs0 (.tup []) (s_skip (by kernel_rfl) q5) ?_
      refine rs0 (.bool true) (s_pickT (by kernel_rfl) q5) ?_
      refine rnil (tn_ ?_)
      obtain rfl := Option.some.inj h
      exact ⟨_, (weak_ren (renF [((0, 1), (4, 1)), ((1, 1), (6, 2))]) (by kernel_rfl) (by kernel_rfl) (by kernel_rfl)), rfl⟩
    · obtain ⟨y6, h6, h⟩ := ob_some h
      obtain ⟨y7, h7, h⟩ := ob_some h
      refine awp_region_ 19 (by kernel_rfl) ?_
      refine rs0 (.int .i64 a0) (by kernel_rfl) ?_
      refine rsl (.agg [(.int .i64 a1_0), (.tree (.pair .int (.pair .int (.pair .int .int))) a1_1), (.tree .int a1_2)]) (by kernel_rfl) ?_
      refine rcall (.bool y4) [] [(.int .i64 a0), (.agg [(.int .i64 a1_0), (.tree (.pair .int (.pair .int (.pair .int .int))) a1_1), (.tree .int a1_2)])] _ (caps := []) (args0 := [(.int .i64 a0), (.agg [(.int .i64 a1_0), (.tree (.pair .int (.pair .int (.pair .int .int))) a1_1), (.tree .int a1_2)])]) trivial (by kernel_rfl) (by kernel_rfl) (by kernel_rfl) (by kernel_rfl) (ok_spec_crGood h4) hb_spec_crGood (by kernel_rfl) ?_
      refine rs0 (.bool (!y4)) (by kernel_rfl) ?_
      refine rs0 (.bool (!y4)) (by kernel_rfl) ?_
      refine rs0 (.int .i64 a2) (s_gd (by kernel_rfl) q5 (by kernel_rfl)) ?_
      refine rs0 (.box (4, 1) 0) (s_gd (by kernel_rfl) q5 (by kernel_rfl)) ?_
      refine rsl (.int .i64 a1_0) (s_gd (by kernel_rfl) q5 (by kernel_rfl)) ?_
      refine rs0 (.box (4, 1) 2) (s_gd (by kernel_rfl) q5 (by kernel_rfl)) ?_
      refine rsl (.tree .int a1_2) (s_gd (by kernel_rfl) q5 (by kernel_rfl)) ?_
      refine rs0 (.int .i64 ((a1_2.length : Nat) : Int)) (s_gd (by kernel_rfl) q5 (by kernel_rfl)) ?_
      refine rcall (.int .i64 y6) [] [(.int .i64 a1_0), (.int .i64 ((a1_2.length : Nat) : Int))] _ (caps := []) (args0 := [(.int .i64 a1_0), (.int .i64 ((a1_2.length : Nat) : Int))]) (gdOK_b (by kernel_rfl) q5) (by kernel_rfl) (by kernel_rfl) (by kernel_rfl) (by kernel_rfl) (ok_spec_l1Least h6) hb_spec_l1Least (by kernel_rfl) ?_
      refine rcall (.bool y7) [] [(.int .i64 a2), (.int .i64 0), (.int .i64 y6)] _ (caps := []) (args0 := [(.int .i64 a2), (.int .i64 0), (.int .i64 y6)]) (gdOK_b (by kernel_rfl) q5) (by kernel_rfl) (by kernel_rfl) (by kernel_rfl) (by kernel_rfl) (ok_spec_l1In h7) hb_spec_l1In (by kernel_rfl) ?_
      refine rs0 (.bool (!y7)) (s_gd (by kernel_rfl) q5 (by kernel_rfl)) ?_
      refine rs0 (.bool (!y7)) (s_pickF (by kernel_rfl) q5) ?_
      refine rnil (tn_ ?_)
      obtain rfl := Option.some.inj h
      exact ⟨_, (weak_ren (renF [((0, 1), (4, 1)), ((1, 1), (6, 2))]) (by kernel_rfl) (by kernel_rfl) (by kernel_rfl)), rfl⟩
  · rintro l3_m22 _ rfl h
    (try dsimp only at h)
    rcases cond_some h with ⟨q8, h⟩ | ⟨q8, h⟩
    · refine awp_condT_ q8 (by kernel_rfl) ?_
      refine awp_seq_ ?_
      refine awp_region_ 5 (by kernel_rfl) ?_
      refine rs0 (.agg [(.int .i64 0), .nils, .nils]) (by kernel_rfl) ?_
      refine rsn2 (1, 1) (1, 1) (.cells 31 [(.int .i64 0), .nils, .nils]) (by kernel_rfl) ?_
      refine rs0 (.bool false) (by kernel_rfl) ?_
      refine rnil (tn_ ?_)
      refine awp_ret_ (tr_ ?_)
      obtain rfl := Option.some.inj h
      exact ret_ [(.agg [(.int .i64 0), .nils, .nils]), (.bool false)] (by simp) (by kernel_rfl) (p_agg (l_cons (l_sc (by kernel_rfl)) (l_cons (l_nils rfl) (l_cons (l_nils rfl) l_nil))) (p_one rfl (l_sc (by kernel_rfl)) p_nil)) (by kernel_rfl) (by kernel_rfl)
    · refine awp_condF_ q8 (by kernel_rfl) ?_
      refine awp_skip_ (tn_ ?_)
      refine awp_seqB h (fun t_ S_ => ∃ (l10_m7 : Bool), ∃ (l10_m6_0 : Int), ∃ (l10_m6_1 : List (Int × Int × Int × Int)), ∃ (l10_m6_2 : List Int), t_ = (l10_m7, l10_m6_0, l10_m6_1, l10_m6_2) ∧ S_ = ⟨mkTm [(6, (.box (0, 1) 0)), (7, (.bool l10_m7))], mkOb (someL [((0, 1), .cells 31 [(.int .i64 l10_m6_0), (.own (1, 1) (.pair .int (.pair .int (.pair .int .int))) 0 l10_m6_1.length), (.own (2, 1) .int 0 l10_m6_2.length)]), ((1, 1), .arr 51 (.pair .int (.pair .int (.pair .int .int))) l10_m6_1), ((2, 1), .arr 3 .int l10_m6_2)]), 2⟩) ?_ ?_
      · intro v_ h
        obtain ⟨y11, h11, h⟩ := ob_some h
        obtain ⟨y12, h12, h⟩ := ob_some h
        rcases y12 with z12_0 | z12_1
        · (try simp only [Sum.elim_inl, Sum.elim_inr] at h)
          refine awp_region_ 11 (by kernel_rfl) ?_
          refine rs0 (.int .i64 a0) (by kernel_rfl) ?_
          refine rsl (.agg [(.int .i64 a1_0), (.tree (.pair .int (.pair .int (.pair .int .int))) a1_1), (.tree .int a1_2)]) (by kernel_rfl) ?_
          refine rs0 (.int .i64 a2) (by kernel_rfl) ?_
          refine rcall (.agg [(.int .i64 y11.1), (.own (432, 5) (.pair .int (.pair .int (.pair .int .int))) 0 y11.2.1.length), (.own (433, 5) .int 0 y11.2.2.length)]) [((432, 5), some (.arr 51 (.pair .int (.pair .int (.pair .int .int))) y11.2.1)), ((433, 5), some (.arr 3 .int y11.2.2))] [(.agg [(.int .i64 a1_0), (.tree (.pair .int (.pair .int (.pair .int .int))) a1_1), (.tree .int a1_2)]), (.int .i64 a2)] _ (caps := []) (args0 := [(.agg [(.int .i64 a1_0), (.tree (.pair .int (.pair .int (.pair .int .int))) a1_1), (.tree .int a1_2)]), (.int .i64 a2)]) trivial (by kernel_rfl) (by kernel_rfl) (by kernel_rfl) (by kernel_rfl) (ok_spec_crBack h11) hb_spec_crBack (by kernel_rfl) ?_
          refine rcall (.tup [(.agg [(.int .i64 z12_0.1), .nils, .nils]), (.bool z12_0.2)]) [] [(.int .i64 a0), (.agg [(.int .i64 y11.1), (.own (432, 5) (.pair .int (.pair .int (.pair .int .int))) 0 y11.2.1.length), (.own (433, 5) .int 0 y11.2.2.length)])] _ (caps := []) (args0 := [(.int .i64 a0), (.agg [(.int .i64 y11.1), (.tree (.pair .int (.pair .int (.pair .int .int))) y11.2.1), (.tree .int y11.2.2)])]) trivial (by kernel_rfl) (by kernel_rfl) (gm_cons (by kernel_rfl) (gm_cons (gd_agg (gm_cons (by kernel_rfl) (gm_cons (gd_own (e := 51) (by kernel_rfl) rfl) (gm_cons (gd_own (e := 3) (by kernel_rfl) rfl) gm_nil)))) gm_nil)) (by kernel_rfl) (ok_spec_crIf h12) hb_spec_crIf (by kernel_rfl) ?_
          refine rs0 (.agg [(.int .i64 z12_0.1), .nils, .nils]) (by kernel_rfl) ?_
          refine rs0 (.bool z12_0.2) (by kernel_rfl) ?_
          refine rsn2 (1, 1) (1, 1) (.cells 31 [(.int .i64 z12_0.1), .nils, .nils]) (by kernel_rfl) ?_
          refine rs0 (.bool z12_0.2) (by kernel_rfl) ?_
          refine rnil (tn_ ?_)
          obtain rfl := Option.some.inj h
          exact ⟨_, ((weak_nil_cell_ 9000 (1, 1) 1 31 [(.int .i64 z12_0.1), .nils, .nils] [(.int .i64 z12_0.1), (.own (9000, 11) (.pair .int (.pair .int (.pair .int .int))) 0 0), .nils] 51 (.pair .int (.pair .int (.pair .int .int))) rfl (by kernel_rfl) (by kernel_rfl) (by kernel_rfl)).trans ((weak_nil_cell_ 9001 (1, 1) 2 31 [(.int .i64 z12_0.1), (.own (9000, 11) (.pair .int (.pair .int (.pair .int .int))) 0 0), .nils] [(.int .i64 z12_0.1), (.own (9000, 11) (.pair .int (.pair .int (.pair .int .int))) 0 0), (.own (9001, 12) .int 0 0)] 3 .int rfl (by kernel_rfl) (by kernel_rfl) (by kernel_rfl)).trans (weak_ren (renF [((0, 1), (1, 1)), ((1, 1), (9000, 11)), ((2, 1), (9001, 12))]) (by kernel_rfl) (by kernel_rfl) (by kernel_rfl)))), ⟨z12_0.2, z12_0.1, [], [], rfl, rfl⟩⟩
        · (try simp only [Sum.elim_inl, Sum.elim_inr] at h)
          refine awp_region_ 11 (by kernel_rfl) ?_
          refine rs0 (.int .i64 a0) (by kernel_rfl) ?_
          refine rsl (.agg [(.int .i64 a1_0), (.tree (.pair .int (.pair .int (.pair .int .int))) a1_1), (.tree .int a1_2)]) (by kernel_rfl) ?_
          refine rs0 (.int .i64 a2) (by kernel_rfl) ?_
          refine rcall (.agg [(.int .i64 y11.1), (.own (432, 5) (.pair .int (.pair .int (.pair .int .int))) 0 y11.2.1.length), (.own (433, 5) .int 0 y11.2.2.length)]) [((432, 5), some (.arr 51 (.pair .int (.pair .int (.pair .int .int))) y11.2.1)), ((433, 5), some (.arr 3 .int y11.2.2))] [(.agg [(.int .i64 a1_0), (.tree (.pair .int (.pair .int (.pair .int .int))) a1_1), (.tree .int a1_2)]), (.int .i64 a2)] _ (caps := []) (args0 := [(.agg [(.int .i64 a1_0), (.tree (.pair .int (.pair .int (.pair .int .int))) a1_1), (.tree .int a1_2)]), (.int .i64 a2)]) trivial (by kernel_rfl) (by kernel_rfl) (by kernel_rfl) (by kernel_rfl) (ok_spec_crBack h11) hb_spec_crBack (by kernel_rfl) ?_
          refine rcall (.tup [(.agg [(.int .i64 z12_1.1), (.own (432, 5) (.pair .int (.pair .int (.pair .int .int))) 0 y11.2.1.length), (.own (433, 5) .int 0 y11.2.2.length)]), (.bool z12_1.2)]) [] [(.int .i64 a0), (.agg [(.int .i64 y11.1), (.own (432, 5) (.pair .int (.pair .int (.pair .int .int))) 0 y11.2.1.length), (.own (433, 5) .int 0 y11.2.2.length)])] _ (caps := []) (args0 := [(.int .i64 a0), (.agg [(.int .i64 y11.1), (.tree (.pair .int (.pair .int (.pair .int .int))) y11.2.1), (.tree .int y11.2.2)])]) trivial (by kernel_rfl) (by kernel_rfl) (gm_cons (by kernel_rfl) (gm_cons (gd_agg (gm_cons (by kernel_rfl) (gm_cons (gd_own (e := 51) (by kernel_rfl) rfl) (gm_cons (gd_own (e := 3) (by kernel_rfl) rfl) gm_nil)))) gm_nil)) (by kernel_rfl) (ok_spec_crIf h12) hb_spec_crIf (by kernel_rfl) ?_
          refine rs0 (.agg [(.int .i64 z12_1.1), (.own (432, 5) (.pair .int (.pair .int (.pair .int .int))) 0 y11.2.1.length), (.own (433, 5) .int 0 y11.2.2.length)]) (by kernel_rfl) ?_
          refine rs0 (.bool z12_1.2) (by kernel_rfl) ?_
          refine rsn2 (1, 1) (1, 1) (.cells 31 [(.int .i64 z12_1.1), (.own (432, 5) (.pair .int (.pair .int (.pair .int .int))) 0 y11.2.1.length), (.own (433, 5) .int 0 y11.2.2.length)]) (by kernel_rfl) ?_
          refine rs0 (.bool z12_1.2) (by kernel_rfl) ?_
          refine rnil (tn_ ?_)
          obtain rfl := Option.some.inj h
          exact ⟨_, (weak_ren (renF [((0, 1), (1, 1)), ((1, 1), (432, 5)), ((2, 1), (433, 5))]) (by kernel_rfl) (by kernel_rfl) (by kernel_rfl)), ⟨z12_1.2, z12_1.1, y11.2.1, y11.2.2, rfl, rfl⟩⟩
      · rintro _ _ ⟨l10_m7, l10_m6_0, l10_m6_1, l10_m6_2, rfl, rfl⟩ h
        (try dsimp only at h)
        refine awp_ret_ ?_
        obtain rfl := Option.some.inj h
        exact ret_ [(.agg [(.int .i64 l10_m6_0), (.own (1, 1) (.pair .int (.pair .int (.pair .int .int))) 0 l10_m6_1.length), (.own (2, 1) .int 0 l10_m6_2.length)]), (.bool l10_m7)] (by simp) (by kernel_rfl) (p_agg (l_cons (l_sc (by kernel_rfl)) (l_cons (l_own (by kernel_rfl) rfl) (l_cons (l_own (by kernel_rfl) rfl) l_nil))) (p_one rfl (l_sc (by kernel_rfl)) p_nil)) (by kernel_rfl) (by kernel_rfl)
def m_impl_FeedbackOf_l1 : AC :=
  (.seq (.region [⟨(some 57), none, (.i (.bin .lss (.tmp 56) (.tmp 55)))⟩] false [])
  (.seq (.cond (.tmp 57)
    .skip
    (.exit 0))
  (.seq (.block 1 (.seq (.region [⟨(some 58), none, (.i (.mov (.tmp 56)))⟩, ⟨(some 59), none, (.i (.idx 4 (.tmp 54) (.tmp 56)))⟩, ⟨(some 60), none, (.i (.ld false 4 (.tmp 59)))⟩, ⟨(some 11), none, (.i (.alloc 51 [(.int .i64 0), (.int .i64 0), (.int .i64 0), (.int .i64 0)]))⟩, ⟨(some 10), none, (.i (.mov (.tmp 58)))⟩, ⟨none, none, (.st false 4 (.tmp 11) (.tmp 60))⟩] false [])
  (.seq (.region [⟨(some 61), none, (.i (.fld 0 (.tmp 11)))⟩, ⟨(some 62), none, (.i (.ld true 1 (.tmp 61)))⟩, ⟨(some 63), none, (.i (.bin .eql (.tmp 62) (.cst (.int .i64 1))))⟩, ⟨(some 64), none, (.i (.mov (.tmp 63)))⟩, ⟨(some 65), (some (64, true)), (.i (.fld 3 (.tmp 11)))⟩, ⟨(some 66), (some (64, true)), (.i (.ld true 1 (.tmp 65)))⟩, ⟨(some 67), (some (64, true)), (.i (.fld 0 (.tmp 8)))⟩, ⟨(some 68), (some (64, true)), (.i (.ld true 1 (.tmp 67)))⟩, ⟨(some 69), (some (64, true)), (.i (.bin .geq (.tmp 66) (.tmp 68)))⟩, ⟨(some 70), none, (.i (.pick (.tmp 64) (.tmp 69) (.cst (.bool false))))⟩] false [])
  (.cond (.tmp 70)
    (.region [⟨(some 71), none, (.i (.fld 1 (.tmp 8)))⟩, ⟨(some 72), none, (.i (.ld true 1 (.tmp 71)))⟩, ⟨(some 73), none, (.i (.mov (.tmp 10)))⟩, ⟨(some 74), none, (.i (.mov (.tmp 9)))⟩, ⟨(some 75), none, (.i (.fld 3 (.tmp 11)))⟩, ⟨(some 76), none, (.i (.ld true 1 (.tmp 75)))⟩, ⟨(some 77), none, (.i (.fld 0 (.tmp 8)))⟩, ⟨(some 78), none, (.i (.ld true 1 (.tmp 77)))⟩, ⟨(some 79), none, (.i (.bin .sub (.tmp 76) (.tmp 78)))⟩, ⟨(some 80), none, (.i (.idx 1 (.tmp 74) (.tmp 79)))⟩, ⟨(some 81), none, (.i (.ld true 1 (.tmp 80)))⟩, ⟨(some 82), none, (.build [(.int .i64 0), (.int .i64 0), (.int .i64 0), (.int .i64 0)] [(0, 1, (.cst (.int .i64 5))), (1, 1, (.tmp 81))])⟩, ⟨(some 83), none, (.i (.idx 4 (.tmp 72) (.tmp 73)))⟩, ⟨none, none, (.st false 4 (.tmp 83) (.tmp 82))⟩] true [])
    .skip))))
  (.region [⟨(some 84), none, (.i (.bin .add (.tmp 56) (.cst (.int .i64 1))))⟩, ⟨(some 56), none, (.i (.mov (.tmp 84)))⟩] false []))))
def m_impl_FeedbackOf : AC :=
  (.seq (.region [⟨(some 4), none, (.i (.box 31 (.tmp 1)))⟩, ⟨(some 6), none, (.i (.alloc 31 [(.int .i64 0), .nils, .nils]))⟩, ⟨(some 7), none, (.i (.mov (.cst (.bool false))))⟩] false [])
  (.seq (.seq (.region [⟨(some 12), none, (.i (.mov (.tmp 0)))⟩, ⟨(some 13), none, (.i (.ld false 3 (.tmp 4)))⟩, ⟨(some 14), none, (.call (.cst (.fn 37 [])) [(.tmp 12), (.tmp 13)] [[], [none, (some (.pair .int (.pair .int (.pair .int .int)))), (some .int)]])⟩, ⟨(some 15), none, (.i (.not (.tmp 14)))⟩, ⟨(some 16), none, (.i (.mov (.tmp 15)))⟩, ⟨(some 17), (some (16, false)), (.i (.mov (.tmp 2)))⟩, ⟨(some 18), (some (16, false)), (.i (.fld 0 (.tmp 4)))⟩, ⟨(some 19), (some (16, false)), (.i (.ld true 1 (.tmp 18)))⟩, ⟨(some 20), (some (16, false)), (.i (.fld 2 (.tmp 4)))⟩, ⟨(some 21), (some (16, false)), (.i (.ld true 1 (.tmp 20)))⟩, ⟨(some 22), (some (16, false)), (.i (.len (.tmp 21)))⟩, ⟨(some 23), (some (16, false)), (.mm false (.tmp 19) (.tmp 22))⟩, ⟨(some 24), (some (16, false)), (.call (.cst (.fn 45 [])) [(.tmp 17), (.cst (.int .i64 0)), (.tmp 23)] [[], [], []])⟩, ⟨(some 25), (some (16, false)), (.i (.not (.tmp 24)))⟩, ⟨(some 26), none, (.i (.pick (.tmp 16) (.cst (.bool true)) (.tmp 25)))⟩] false [])
  (.cond (.tmp 26)
    (.seq (.region [⟨(some 27), none, (.build [(.int .i64 0), .nils, .nils] [])⟩, ⟨none, none, (.st false 3 (.tmp 6) (.tmp 27))⟩, ⟨(some 7), none, (.i (.mov (.cst (.bool false))))⟩] false [])
    .ret)
    .skip))
  (.seq (.region [⟨(some 28), none, (.i (.ld false 3 (.tmp 4)))⟩, ⟨(some 29), none, (.call (.cst (.fn 46 [])) [(.tmp 28)] [[none, (some (.pair .int (.pair .int (.pair .int .int)))), (some .int)]])⟩, ⟨(some 8), none, (.i (.alloc 31 [(.int .i64 0), .nils, .nils]))⟩, ⟨none, none, (.st false 3 (.tmp 8) (.tmp 29))⟩] false [])
  (.seq (.region [⟨(some 30), none, (.i (.fld 0 (.tmp 8)))⟩, ⟨(some 31), none, (.i (.ld true 1 (.tmp 30)))⟩, ⟨(some 32), none, (.i (.mov (.tmp 2)))⟩, ⟨(some 33), none, (.i (.bin .sub (.tmp 31) (.tmp 32)))⟩, ⟨(some 34), none, (.i (.fld 0 (.tmp 8)))⟩, ⟨none, none, (.st true 1 (.tmp 34) (.tmp 33))⟩] false [])
  (.seq (.region [⟨(some 35), none, (.i (.fld 2 (.tmp 8)))⟩, ⟨(some 36), none, (.i (.ld true 1 (.tmp 35)))⟩, ⟨(some 37), none, (.i (.fld 2 (.tmp 8)))⟩, ⟨(some 38), none, (.i (.ld true 1 (.tmp 37)))⟩, ⟨(some 39), none, (.i (.len (.tmp 38)))⟩, ⟨(some 40), none, (.i (.mov (.tmp 2)))⟩, ⟨(some 41), none, (.i (.bin .sub (.tmp 39) (.tmp 40)))⟩, ⟨(some 42), none, (.slice 1 (.tmp 36) (some (.tmp 41)) none none)⟩, ⟨(some 9), none, (.i (.mov (.tmp 42)))⟩] false [])
  (.seq (.region [⟨(some 43), none, (.i (.fld 2 (.tmp 8)))⟩, ⟨(some 44), none, (.i (.ld true 1 (.tmp 43)))⟩, ⟨(some 45), none, (.i (.fld 2 (.tmp 8)))⟩, ⟨(some 46), none, (.i (.ld true 1 (.tmp 45)))⟩, ⟨(some 47), none, (.i (.len (.tmp 46)))⟩, ⟨(some 48), none, (.i (.mov (.tmp 2)))⟩, ⟨(some 49), none, (.i (.bin .sub (.tmp 47) (.tmp 48)))⟩, ⟨(some 50), none, (.slice 1 (.tmp 44) none (some (.tmp 49)) none)⟩, ⟨(some 51), none, (.call (.cst (.fn 47 [])) [(.tmp 50)] [[(some .int)]])⟩, ⟨(some 52), none, (.i (.fld 2 (.tmp 8)))⟩, ⟨none, none, (.st true 1 (.tmp 52) (.tmp 51))⟩] false [])
  (.seq (.seq (.region [⟨(some 53), none, (.i (.fld 1 (.tmp 8)))⟩, ⟨(some 54), none, (.i (.ld true 1 (.tmp 53)))⟩, ⟨(some 55), none, (.i (.len (.tmp 54)))⟩, ⟨(some 56), none, (.i (.mov (.cst (.int .i64 0))))⟩] false [])
  (.block 0 (.loop m_impl_FeedbackOf_l1)))
  (.seq (.region [⟨(some 85), none, (.i (.mov (.tmp 0)))⟩, ⟨(some 86), none, (.i (.ld false 3 (.tmp 8)))⟩, ⟨(some 87), none, (.call (.cst (.fn 48 [])) [(.tmp 85), (.tmp 86)] [[], [none, (some (.pair .int (.pair .int (.pair .int .int)))), (some .int)]])⟩, ⟨(some 88), none, (.i (.extr 0 (.tmp 87)))⟩, ⟨(some 89), none, (.i (.extr 1 (.tmp 87)))⟩, ⟨none, none, (.st false 3 (.tmp 6) (.tmp 88))⟩, ⟨(some 7), none, (.i (.mov (.tmp 89)))⟩] false [])
  .ret))))))))
def r_impl_FeedbackOf : List Res := [.cell 6 false 3, .tmp 7]
theorem c_impl_FeedbackOf : compiled Tryd.prog Tryd.f20 = some (m_impl_FeedbackOf, r_impl_FeedbackOf) := by kernel_rfl
theorem hb_impl_FeedbackOf : hasBody Tryd.prog 20 = true := by kernel_rfl
def L_impl_FeedbackOf_l1 (y10 : Int × (List (Int × Int × Int × Int)) × List Int) (a2 : Int) (l19_m56 : Nat) (l19_m54 : List (Int × Int × Int × Int)) : Option (Ctl (Nat × (List (Int × Int × Int × Int))) (List (Int × Int × Int × Int))) :=
  cond (decide (((l19_m56 : Nat) : Int) < ((y10.2.1.length : Nat) : Int)))
  (Option.bind (Option.bind (l19_m54[l19_m56]?) fun x25 =>
    Option.bind (cond (x25.1 == 1)
        (some (decide (IntKind.i64.wrap (y10.1 - a2) ≤ x25.2.2.2)))
        (some false)) fun l26_m70 =>
    cond l26_m70
      (og (0 ≤ IntKind.i64.wrap (x25.2.2.2 - (IntKind.i64.wrap (y10.1 - a2))) ∧ (IntKind.i64.wrap (x25.2.2.2 - (IntKind.i64.wrap (y10.1 - a2)))).toNat < (((y10.2.2.length : Nat) : Int) - (IntKind.i64.wrap (((y10.2.2.length : Nat) : Int) - a2))).toNat) <|
      Option.bind (y10.2.2[((IntKind.i64.wrap (((y10.2.2.length : Nat) : Int) - a2)).toNat) + (IntKind.i64.wrap (x25.2.2.2 - (IntKind.i64.wrap (y10.1 - a2)))).toNat]?) fun x30 =>
      some (l19_m54.set l19_m56 (5, x30, 0, 0)))
      (some l19_m54)) fun l23_m54 =>
  og (l19_m56 + 1 < 4611686018427387904) <|
  some (Ctl.next (l19_m56 + 1, l23_m54)))
  (some (Ctl.out l19_m54))
def L_impl_FeedbackOf (a0 : Int) (a1_0 : Int) (a1_1 : List (Int × Int × Int × Int)) (a1_2 : List Int) (a2 : Int) : Option (Int × (List (Int × Int × Int × Int)) × List Int × Bool) :=
  Option.bind (Option.bind (L_impl_isCircuit a0 a1_0 a1_1 a1_2) fun y4 =>
  cond (!y4)
    (some true)
    (Option.bind (L_impl_within a2 0 (if ((a1_2.length : Nat) : Int) < a1_0 then ((a1_2.length : Nat) : Int) else a1_0)) fun y6 =>
    some (!y6))) fun l3_m26 =>
cond l3_m26
  (some (0, [], [], false))
  (Option.bind (L_impl_Circuit_copy a1_0 a1_1 a1_2) fun y10 =>
  og ((0 : Int) ≤ IntKind.i64.wrap (((y10.2.2.length : Nat) : Int) - a2) ∧ IntKind.i64.wrap (((y10.2.2.length : Nat) : Int) - a2) ≤ ((y10.2.2.length : Nat) : Int) ∧ ((y10.2.2.length : Nat) : Int) ≤ ((y10.2.2.length : Nat) : Int)) <|
  og ((0 : Int) ≤ 0 ∧ 0 ≤ IntKind.i64.wrap (((y10.2.2.length : Nat) : Int) - a2) ∧ IntKind.i64.wrap (((y10.2.2.length : Nat) : Int) - a2) ≤ ((y10.2.2.length : Nat) : Int)) <|
  Option.bind (L_impl_clone (y10.2.2.take ((IntKind.i64.wrap (((y10.2.2.length : Nat) : Int) - a2)).toNat))) fun y16 =>
  Option.bind (loopM (fun s_ : Nat × (List (Int × Int × Int × Int)) => L_impl_FeedbackOf_l1 y10 a2 s_.1 s_.2) 4611686018427387904 (0, y10.2.1)) fun l17_m8_1 =>
  Option.bind (Option.bind (L_impl_validCircuit a0 (IntKind.i64.wrap (y10.1 - a2)) l17_m8_1 y16) fun y33 =>
    (Sum.elim (fun z33_0 =>
    some (z33_0.2, z33_0.1, [], [])) (fun z33_1 =>
    some (z33_1.2, z33_1.1, l17_m8_1, y16))) y33) fun (l32_m7, l32_m6_0, l32_m6_1, l32_m6_2) =>
  some (l32_m6_0, l32_m6_1, l32_m6_2, l32_m7))
def rv_impl_FeedbackOf (r : Int × (List (Int × Int × Int × Int)) × List Int × Bool) : RV := ⟨true, [(true, [.sc (.int .i64 r.1), .new 51 (.pair .int (.pair .int (.pair .int .int))) r.2.1, .new 3 .int r.2.2.1]), (false, [.sc (.bool r.2.2.2)])]⟩
theorem ok_impl_FeedbackOf {a0 : Int} {a1_0 : Int} {a1_1 : List (Int × Int × Int × Int)} {a1_2 : List Int} {a2 : Int} {r : Int × (List (Int × Int × Int × Int)) × List Int × Bool} (h : L_impl_FeedbackOf a0 a1_0 a1_1 a1_2 a2 = some r) : CallOK Tryd.prog Tab 20 [(.int .i64 a0), (.agg [(.int .i64 a1_0), (.tree (.pair .int (.pair .int (.pair .int .int))) a1_1), (.tree .int a1_2)]), (.int .i64 a2)] (rv_impl_FeedbackOf r) := by
  refine call_of_ (by kernel_rfl) Tryd.func20 c_impl_FeedbackOf (n := 90) (by kernel_rfl) (by simp) (tl := [(0, (.int .i64 a0)), (1, (.agg [(.int .i64 a1_0), (.tree (.pair .int (.pair .int (.pair .int .int))) a1_1), (.tree .int a1_2)])), (2, (.int .i64 a2))]) rfl ?_
  unfold m_impl_FeedbackOf
  unfold L_impl_FeedbackOf at h
  refine awp_seq_ ?_
  refine awp_region_ 4 (by kernel_rfl) ?_
  refine rs1 (.box (4, 1) 0) (4, 1) (.cells 31 [(.int .i64 a1_0), (.tree (.pair .int (.pair .int (.pair .int .int))) a1_1), (.tree .int a1_2)]) (by kernel_rfl) ?_
  refine rs1 (.box (6, 2) 0) (6, 2) (.cells 31 [(.int .i64 0), .nils, .nils]) (by kernel_rfl) ?_
  refine rs0 (.bool false) (by kernel_rfl) ?_
  refine rnil (tn_ ?_)
  refine awp_seq_ ?_
  refine awp_seqB h (fun (l3_m26 : Bool) S_ => S_ = ⟨mkTm [(0, (.int .i64 a0)), (2, (.int .i64 a2)), (4, (.box (0, 1) 0)), (6, (.box (1, 1) 0)), (26, (.bool l3_m26))], mkOb (someL [((0, 1), .cells 31 [(.int .i64 a1_0), (.tree (.pair .int (.pair .int (.pair .int .int))) a1_1), (.tree .int a1_2)]), ((1, 1), .cells 31 [(.int .i64 0), .nils, .nils])]), 2⟩) ?_ ?_
  · intro v_ h
    obtain ⟨y4, h4, h⟩ := ob_some h
    rcases cond_some h with ⟨q5, h⟩ | ⟨q5, h⟩
    · refine awp_region_ 19 (by kernel_rfl) ?_
      refine rs0 (.int .i64 a0) (by kernel_rfl) ?_
      refine rsl (.agg [(.int .i64 a1_0), (.tree (.pair .int (.pair .int (.pair .int .int))) a1_1), (.tree .int a1_2)]) (by kernel_rfl) ?_
      refine rcall (.bool y4) [] [(.int .i64 a0), (.agg [(.int .i64 a1_0), (.tree (.pair .int (.pair .int (.pair .int .int))) a1_1), (.tree .int a1_2)])] _ (caps := []) (args0 := [(.int .i64 a0), (.agg [(.int .i64 a1_0), (.tree (.pair .int (.pair .int (.pair .int .int))) a1_1), (.tree .int a1_2)])]) trivial (by kernel_rfl) (by kernel_rfl) (by kernel_rfl) (by kernel_rfl) (ok_impl_isCircuit h4) hb_impl_isCircuit (by kernel_rfl) ?_
      refine rs0 (.bool (!y4)) (by kernel_rfl) ?_
      refine rs0 (.bool (!y4)) (by kernel_rfl) ?_
      refine rs0 (.tup []) (s_skip (by kernel_rfl) q5) ?_
      refine rs0 (.tup []) (s_skip (by kernel_rfl) q5) ?_
      refine rs0 (.tup []) (s_skip (by kernel_rfl) q5) ?_
      refine rs0 (.tup []) (s_skip (by kernel_rfl) q5) ?_
      refine rs0 (.tup []) (s_skip (by kernel_rfl) q5) ?_
      refine rs0 (.tup []) (s_skip (by kernel_rfl) q5) ?_
      refine rs0 (.tup []) (s_skip (by kernel_rfl) q5) ?_
      refine rs0 (.tup []) (s_skip (by kernel_rfl) q5) ?_
      refine rs0 (.tup []) (s_skip (by kernel_rfl) q5) ?_
      refine rs0 (.bool true) (s_pickT (by kernel_rfl) q5) ?_
      refine rnil (tn_ ?_)
      obtain rfl := Option.some.inj h
      exact ⟨_, (weak_ren (renF [((0, 1), (4, 1)), ((1, 1), (6, 2))]) (by kernel_rfl) (by kernel_rfl) (by kernel_rfl)), rfl⟩
    · obtain ⟨y6, h6, h⟩ := ob_some h
      refine awp_region_ 19 (by kernel_rfl) ?_
      refine rs0 (.int .i64 a0) (by kernel_rfl) ?_
      refine rsl (.agg [(.int .i64 a1_0), (.tree (.pair .int (.pair .int (.pair .int .int))) a1_1), (.tree .int a1_2)]) (by kernel_rfl) ?_
      refine rcall (.bool y4) [] [(.int .i64 a0), (.agg [(.int .i64 a1_0), (.tree (.pair .int (.pair .int (.pair .int .int))) a1_1), (.tree .int a1_2)])] _ (caps := []) (args0 := [(.int .i64 a0), (.agg [(.int .i64 a1_0), (.tree (.pair .int (.pair .int (.pair .int .int))) a1_1), (.tree .int a1_2)])]) trivial (by kernel_rfl) (by kernel_rfl) (by kernel_rfl) (by kernel_rfl) (ok_impl_isCircuit h4) hb_impl_isCircuit (by kernel_rfl) ?_
      refine rs0 (.bool (!y4)) (by kernel_rfl) ?_
      refine rs0 (.bool (!y4)) (by kernel_rfl) ?_
      refine rs0 (.int .i64 a2) (s_gd (by kernel_rfl) q5 (by kernel_rfl)) ?_
      refine rs0 (.box (4, 1) 0) (s_gd (by kernel_rfl) q5 (by kernel_rfl)) ?_
      refine rsl (.int .i64 a1_0) (s_gd (by kernel_rfl) q5 (by kernel_rfl)) ?_
      refine rs0 (.box (4, 1) 2) (s_gd (by kernel_rfl) q5 (by kernel_rfl)) ?_
      refine rsl (.tree .int a1_2) (s_gd (by kernel_rfl) q5 (by kernel_rfl)) ?_
      refine rs0 (.int .i64 ((a1_2.length : Nat) : Int)) (s_gd (by kernel_rfl) q5 (by kernel_rfl)) ?_
      refine rs0 (.int .i64 (if ((a1_2.length : Nat) : Int) < a1_0 then ((a1_2.length : Nat) : Int) else a1_0)) (s_gd (by kernel_rfl) q5 (by kernel_rfl)) ?_
      refine rcall (.bool y6) [] [(.int .i64 a2), (.int .i64 0), (.int .i64 (if ((a1_2.length : Nat) : Int) < a1_0 then ((a1_2.length : Nat) : Int) else a1_0))] _ (caps := []) (args0 := [(.int .i64 a2), (.int .i64 0), (.int .i64 (if ((a1_2.length : Nat) : Int) < a1_0 then ((a1_2.length : Nat) : Int) else a1_0))]) (gdOK_b (by kernel_rfl) q5) (by kernel_rfl) (by kernel_rfl) (by kernel_rfl) (by kernel_rfl) (ok_impl_within h6) hb_impl_within (by kernel_rfl) ?_
      refine rs0 (.bool (!y6)) (s_gd (by kernel_rfl) q5 (by kernel_rfl)) ?_
      refine rs0 (.bool (!y6)) (s_pickF (by kernel_rfl) q5) ?_
      refine rnil (tn_ ?_)
      obtain rfl := Option.some.inj h
      exact ⟨_, (weak_ren (renF [((0, 1), (4, 1)), ((1, 1), (6, 2))]) (by kernel_rfl) (by kernel_rfl) (by kernel_rfl)), rfl⟩
  · rintro l3_m26 _ rfl h
    (try dsimp only at h)
    rcases cond_some h with ⟨q7, h⟩ | ⟨q7, h⟩
    · refine awp_condT_ q7 (by kernel_rfl) ?_
      refine awp_seq_ ?_
      refine awp_region_ 5 (by kernel_rfl) ?_
      refine rs0 (.agg [(.int .i64 0), .nils, .nils]) (by kernel_rfl) ?_
      refine rsn2 (1, 1) (1, 1) (.cells 31 [(.int .i64 0), .nils, .nils]) (by kernel_rfl) ?_
      refine rs0 (.bool false) (by kernel_rfl) ?_
      refine rnil (tn_ ?_)
      refine awp_ret_ (tr_ ?_)
      obtain rfl := Option.some.inj h
      exact ret_ [(.agg [(.int .i64 0), .nils, .nils]), (.bool false)] (by simp) (by kernel_rfl) (p_agg (l_cons (l_sc (by kernel_rfl)) (l_cons (l_nils rfl) (l_cons (l_nils rfl) l_nil))) (p_one rfl (l_sc (by kernel_rfl)) p_nil)) (by kernel_rfl) (by kernel_rfl)
    · refine awp_condF_ q7 (by kernel_rfl) ?_
      refine awp_skip_ (tn_ ?_)
      refine awp_seq_ ?_
      obtain ⟨y10, h10, h⟩ := ob_some h
      refine awp_region_ 6 (by kernel_rfl) ?_
      refine rsl (.agg [(.int .i64 a1_0), (.tree (.pair .int (.pair .int (.pair .int .int))) a1_1), (.tree .int a1_2)]) (by kernel_rfl) ?_
      refine rcall (.agg [(.int .i64 y10.1), (.own (464, 3) (.pair .int (.pair .int (.pair .int .int))) 0 y10.2.1.length), (.own (465, 3) .int 0 y10.2.2.length)]) [((464, 3), some (.arr 51 (.pair .int (.pair .int (.pair .int .int))) y10.2.1)), ((465, 3), some (.arr 3 .int y10.2.2))] [(.agg [(.int .i64 a1_0), (.tree (.pair .int (.pair .int (.pair .int .int))) a1_1), (.tree .int a1_2)])] _ (caps := []) (args0 := [(.agg [(.int .i64 a1_0), (.tree (.pair .int (.pair .int (.pair .int .int))) a1_1), (.tree .int a1_2)])]) trivial (by kernel_rfl) (by kernel_rfl) (by kernel_rfl) (by kernel_rfl) (ok_impl_Circuit_copy h10) hb_impl_Circuit_copy (by kernel_rfl) ?_
      refine rs1 (.box (8, 4) 0) (8, 4) (.cells 31 [(.int .i64 0), .nils, .nils]) (by kernel_rfl) ?_
      refine rsn2 (8, 4) (8, 4) (.cells 31 [(.int .i64 y10.1), (.own (464, 3) (.pair .int (.pair .int (.pair .int .int))) 0 y10.2.1.length), (.own (465, 3) .int 0 y10.2.2.length)]) (by kernel_rfl) ?_
      refine rnil (tn_ ?_)
      refine awp_seq_ ?_
      refine awp_region_ 12 (by kernel_rfl) ?_
      refine rs0 (.box (8, 4) 0) (by kernel_rfl) ?_
      refine rsl (.int .i64 y10.1) (by kernel_rfl) ?_
      refine rs0 (.int .i64 a2) (by kernel_rfl) ?_
      refine rs0 (.int .i64 (IntKind.i64.wrap (y10.1 - a2))) (by kernel_rfl) ?_
      refine rs0 (.box (8, 4) 0) (by kernel_rfl) ?_
      refine rsn2 (8, 4) (8, 4) (.cells 31 [(.int .i64 (IntKind.i64.wrap (y10.1 - a2))), (.own (464, 3) (.pair .int (.pair .int (.pair .int .int))) 0 y10.2.1.length), (.own (465, 3) .int 0 y10.2.2.length)]) (by kernel_rfl) ?_
      refine rnil (tn_ ?_)
      refine awp_seq_ ?_
      obtain ⟨g13, h⟩ := og_some h
      refine awp_region_ 21 (by kernel_rfl) ?_
      refine rs0 (.box (8, 4) 2) (by kernel_rfl) ?_
      refine rsl (.own (465, 3) .int 0 y10.2.2.length) (by kernel_rfl) ?_
      refine rs0 (.box (8, 4) 2) (by kernel_rfl) ?_
      refine rsl (.own (465, 3) .int 0 y10.2.2.length) (by kernel_rfl) ?_
      refine rs0 (.int .i64 ((y10.2.2.length : Nat) : Int)) (by kernel_rfl) ?_
      refine rs0 (.int .i64 a2) (by kernel_rfl) ?_
      refine rs0 (.int .i64 (IntKind.i64.wrap (((y10.2.2.length : Nat) : Int) - a2))) (by kernel_rfl) ?_
      refine rs0 (.own (465, 3) .int ((IntKind.i64.wrap (((y10.2.2.length : Nat) : Int) - a2)).toNat) ((((y10.2.2.length : Nat) : Int) - (IntKind.i64.wrap (((y10.2.2.length : Nat) : Int) - a2))).toNat)) (s_sliceO (t := .int) (i := (465, 3)) (off := 0) (len := y10.2.2.length) (l := IntKind.i64.wrap (((y10.2.2.length : Nat) : Int) - a2)) (h := ((y10.2.2.length : Nat) : Int)) (by kernel_rfl) (by kernel_rfl) (by kernel_rfl) rfl g13 (Nat.zero_add _) (by omega)) ?_
      refine rs0 (.own (465, 3) .int ((IntKind.i64.wrap (((y10.2.2.length : Nat) : Int) - a2)).toNat) ((((y10.2.2.length : Nat) : Int) - (IntKind.i64.wrap (((y10.2.2.length : Nat) : Int) - a2))).toNat)) (by kernel_rfl) ?_
      refine rnil (tn_ ?_)
      refine awp_seq_ ?_
      obtain ⟨g15, h⟩ := og_some h
      obtain ⟨y16, h16, h⟩ := ob_some h
      refine awp_region_ 32 (by kernel_rfl) ?_
      refine rs0 (.box (8, 4) 2) (by kernel_rfl) ?_
      refine rsl (.own (465, 3) .int 0 y10.2.2.length) (by kernel_rfl) ?_
      refine rs0 (.box (8, 4) 2) (by kernel_rfl) ?_
      refine rsl (.own (465, 3) .int 0 y10.2.2.length) (by kernel_rfl) ?_
      refine rs0 (.int .i64 ((y10.2.2.length : Nat) : Int)) (by kernel_rfl) ?_
      refine rs0 (.int .i64 a2) (by kernel_rfl) ?_
      refine rs0 (.int .i64 (IntKind.i64.wrap (((y10.2.2.length : Nat) : Int) - a2))) (by kernel_rfl) ?_
      refine rs0 (.own (465, 3) .int 0 ((IntKind.i64.wrap (((y10.2.2.length : Nat) : Int) - a2)).toNat)) (s_sliceO (t := .int) (i := (465, 3)) (off := 0) (len := y10.2.2.length) (l := 0) (h := IntKind.i64.wrap (((y10.2.2.length : Nat) : Int) - a2)) (by kernel_rfl) (by kernel_rfl) (by kernel_rfl) rfl g15 rfl (by omega)) ?_
      refine rcall (.own (816, 29) .int 0 y16.length) [((816, 29), some (.arr 3 .int y16))] [(.own (465, 3) .int 0 ((IntKind.i64.wrap (((y10.2.2.length : Nat) : Int) - a2)).toNat))] _ (caps := []) (args0 := [(.tree .int (y10.2.2.take ((IntKind.i64.wrap (((y10.2.2.length : Nat) : Int) - a2)).toNat)))]) trivial (by kernel_rfl) (by kernel_rfl) (gm_cons (gd_part (e := 3) (by kernel_rfl) (by omega)) gm_nil) (by kernel_rfl) (ok_impl_clone h16) hb_impl_clone (by kernel_rfl) ?_
      refine rs0 (.box (8, 4) 2) (by kernel_rfl) ?_
      refine rsn2 (8, 4) (8, 4) (.cells 31 [(.int .i64 (IntKind.i64.wrap (y10.1 - a2))), (.own (464, 3) (.pair .int (.pair .int (.pair .int .int))) 0 y10.2.1.length), (.own (816, 29) .int 0 y16.length)]) (by kernel_rfl) ?_
      refine rnil (tn_ ?_)
      refine awp_seqB h (fun (l17_m8_1 : List (Int × Int × Int × Int)) S_ => S_ = ⟨mkTm [(0, (.int .i64 a0)), (6, (.box (0, 1) 0)), (8, (.box (1, 1) 0))], mkOb (someL [((0, 1), .cells 31 [(.int .i64 0), .nils, .nils]), ((1, 1), .cells 31 [(.int .i64 (IntKind.i64.wrap (y10.1 - a2))), (.own (2, 1) (.pair .int (.pair .int (.pair .int .int))) 0 l17_m8_1.length), (.own (3, 1) .int 0 y16.length)]), ((2, 1), .arr 51 (.pair .int (.pair .int (.pair .int .int))) l17_m8_1), ((3, 1), .arr 3 .int y16)]), 2⟩) ?_ ?_
      · intro v_ h
        refine awp_seq_ ?_
        refine awp_region_ 36 (by kernel_rfl) ?_
        refine rs0 (.box (8, 4) 1) (by kernel_rfl) ?_
        refine rsl (.own (464, 3) (.pair .int (.pair .int (.pair .int .int))) 0 y10.2.1.length) (by kernel_rfl) ?_
        refine rs0 (.int .i64 ((y10.2.1.length : Nat) : Int)) (by kernel_rfl) ?_
        refine rs0 (.int .i64 0) (by kernel_rfl) ?_
        refine rnil (tn_ ?_)
        refine awp_block_ ?_
        refine awp_loopL h (fun t_ S_ => ∃ (l19_m56 : Nat), ∃ (l19_m54 : List (Int × Int × Int × Int)), t_ = (l19_m56, l19_m54) ∧ S_ = ⟨mkTm [(0, (.int .i64 a0)), (6, (.box (0, 1) 0)), (8, (.box (1, 1) 0)), (9, (.own (2, 1) .int ((IntKind.i64.wrap (((y10.2.2.length : Nat) : Int) - a2)).toNat) ((((y10.2.2.length : Nat) : Int) - (IntKind.i64.wrap (((y10.2.2.length : Nat) : Int) - a2))).toNat))), (54, (.own (3, 1) (.pair .int (.pair .int (.pair .int .int))) 0 l19_m54.length)), (55, (.int .i64 ((y10.2.1.length : Nat) : Int))), (56, (.int .i64 ((l19_m56 : Nat) : Int)))], mkOb (someL [((0, 1), .cells 31 [(.int .i64 0), .nils, .nils]), ((1, 1), .cells 31 [(.int .i64 (IntKind.i64.wrap (y10.1 - a2))), (.own (3, 1) (.pair .int (.pair .int (.pair .int .int))) 0 l19_m54.length), (.own (4, 1) .int 0 y16.length)]), ((2, 1), .arr 3 .int y10.2.2), ((3, 1), .arr 51 (.pair .int (.pair .int (.pair .int .int))) l19_m54), ((4, 1), .arr 3 .int y16)]), 2⟩) ⟨_, (weak_ren (renF [((0, 1), (1, 1)), ((1, 1), (8, 4)), ((3, 1), (464, 3)), ((4, 1), (816, 29)), ((2, 1), (465, 3))]) (by kernel_rfl) (by kernel_rfl) (by kernel_rfl)), ⟨0, y10.2.1, rfl, rfl⟩⟩ ?_
        · rintro n_ _ _ c_ ⟨l19_m56, l19_m54, rfl, rfl⟩ h hn19
          (try dsimp only at h)
          unfold L_impl_FeedbackOf_l1 at h
          unfold m_impl_FeedbackOf_l1
          refine awp_seq_ ?_
          refine awp_region_ 3 (by kernel_rfl) ?_
          refine rs0 (.bool (decide (((l19_m56 : Nat) : Int) < ((y10.2.1.length : Nat) : Int)))) (by kernel_rfl) ?_
          refine rnil (tn_ ?_)
          refine awp_seq_ ?_
          rcases cond_some h with ⟨q22, h⟩ | ⟨q22, h⟩
          · have q22_ := of_decide_eq_true q22
            refine awp_condT_ q22 (by kernel_rfl) ?_
            refine awp_skip_ (tn_ ?_)
            refine awp_seqB h (fun (l23_m54 : List (Int × Int × Int × Int)) S_ => S_ = ⟨mkTm [(0, (.int .i64 a0)), (6, (.box (0, 1) 0)), (8, (.box (1, 1) 0)), (9, (.own (2, 1) .int ((IntKind.i64.wrap (((y10.2.2.length : Nat) : Int) - a2)).toNat) ((((y10.2.2.length : Nat) : Int) - (IntKind.i64.wrap (((y10.2.2.length : Nat) : Int) - a2))).toNat))), (54, (.own (3, 1) (.pair .int (.pair .int (.pair .int .int))) 0 l23_m54.length)), (55, (.int .i64 ((y10.2.1.length : Nat) : Int))), (56, (.int .i64 ((l19_m56 : Nat) : Int)))], mkOb (someL [((0, 1), .cells 31 [(.int .i64 0), .nils, .nils]), ((1, 1), .cells 31 [(.int .i64 (IntKind.i64.wrap (y10.1 - a2))), (.own (3, 1) (.pair .int (.pair .int (.pair .int .int))) 0 l23_m54.length), (.own (4, 1) .int 0 y16.length)]), ((2, 1), .arr 3 .int y10.2.2), ((3, 1), .arr 51 (.pair .int (.pair .int (.pair .int .int))) l23_m54), ((4, 1), .arr 3 .int y16)]), 2⟩) ?_ ?_
            · intro v_ h
              refine awp_block_ ?_
              refine awp_seq_ ?_
              obtain ⟨x25, e25, h⟩ := ob_some h
              refine awp_region_ 9 (by kernel_rfl) ?_
              refine rs0 (.int .i64 ((l19_m56 : Nat) : Int)) (by kernel_rfl) ?_
              refine rs0 (.elt (3, 1) l19_m56 0) (s_idxO (t := (.pair .int (.pair .int (.pair .int .int)))) (o := (3, 1)) (len := l19_m54.length) (k := .i64) (m := ((l19_m56 : Nat) : Int)) (by kernel_rfl) (by kernel_rfl) rfl (nat_nn _) rfl (getN_lt e25)) ?_
              refine rsl (.agg [(.int .i64 x25.1), (.int .i64 x25.2.1), (.int .i64 x25.2.2.1), (.int .i64 x25.2.2.2)]) (s_ldE (i := (3, 1)) (j := l19_m56) (k := 0) (e := 51) (t := (.pair .int (.pair .int (.pair .int .int)))) (xs := l19_m54) (by kernel_rfl) (by kernel_rfl) e25 (by kernel_rfl)) ?_
              refine rs1 (.box (11, 6) 0) (11, 6) (.cells 51 [(.int .i64 0), (.int .i64 0), (.int .i64 0), (.int .i64 0)]) (by kernel_rfl) ?_
              refine rs0 (.int .i64 ((l19_m56 : Nat) : Int)) (by kernel_rfl) ?_
              refine rsn2 (11, 6) (11, 6) (.cells 51 [(.int .i64 x25.1), (.int .i64 x25.2.1), (.int .i64 x25.2.2.1), (.int .i64 x25.2.2.2)]) (by kernel_rfl) ?_
              refine rnil (tn_ ?_)
              refine awp_seqB h (fun (l26_m70 : Bool) S_ => S_ = ⟨mkTm [(0, (.int .i64 a0)), (6, (.box (0, 1) 0)), (8, (.box (1, 1) 0)), (9, (.own (2, 1) .int ((IntKind.i64.wrap (((y10.2.2.length : Nat) : Int) - a2)).toNat) ((((y10.2.2.length : Nat) : Int) - (IntKind.i64.wrap (((y10.2.2.length : Nat) : Int) - a2))).toNat))), (10, (.int .i64 ((l19_m56 : Nat) : Int))), (11, (.box (3, 1) 0)), (54, (.own (4, 1) (.pair .int (.pair .int (.pair .int .int))) 0 l19_m54.length)), (55, (.int .i64 ((y10.2.1.length : Nat) : Int))), (56, (.int .i64 ((l19_m56 : Nat) : Int))), (70, (.bool l26_m70))], mkOb (someL [((0, 1), .cells 31 [(.int .i64 0), .nils, .nils]), ((1, 1), .cells 31 [(.int .i64 (IntKind.i64.wrap (y10.1 - a2))), (.own (4, 1) (.pair .int (.pair .int (.pair .int .int))) 0 l19_m54.length), (.own (5, 1) .int 0 y16.length)]), ((2, 1), .arr 3 .int y10.2.2), ((3, 1), .cells 51 [(.int .i64 x25.1), (.int .i64 x25.2.1), (.int .i64 x25.2.2.1), (.int .i64 x25.2.2.2)]), ((4, 1), .arr 51 (.pair .int (.pair .int (.pair .int .int))) l19_m54), ((5, 1), .arr 3 .int y16)]), 2⟩) ?_ ?_
              · intro v_ h
                rcases cond_some h with ⟨q27, h⟩ | ⟨q27, h⟩
                · refine awp_region_ 19 (by kernel_rfl) ?_
                  refine rs0 (.box (11, 6) 0) (by kernel_rfl) ?_
                  refine rsl (.int .i64 x25.1) (by kernel_rfl) ?_
                  refine rs0 (.bool (x25.1 == 1)) (by kernel_rfl) ?_
                  refine rs0 (.bool (x25.1 == 1)) (by kernel_rfl) ?_
                  refine rs0 (.box (11, 6) 3) (s_gd (by kernel_rfl) q27 (by kernel_rfl)) ?_
                  refine rsl (.int .i64 x25.2.2.2) (s_gd (by kernel_rfl) q27 (by kernel_rfl)) ?_
                  refine rs0 (.box (1, 1) 0) (s_gd (by kernel_rfl) q27 (by kernel_rfl)) ?_
                  refine rsl (.int .i64 (IntKind.i64.wrap (y10.1 - a2))) (s_gd (by kernel_rfl) q27 (by kernel_rfl)) ?_
                  refine rs0 (.bool (decide (IntKind.i64.wrap (y10.1 - a2) ≤ x25.2.2.2))) (s_gd (by kernel_rfl) q27 (by kernel_rfl)) ?_
                  refine rs0 (.bool (decide (IntKind.i64.wrap (y10.1 - a2) ≤ x25.2.2.2))) (s_pickT (by kernel_rfl) q27) ?_
                  refine rnil (tn_ ?_)
                  obtain rfl := Option.some.inj h
                  exact ⟨_, (weak_ren (renF [((4, 1), (3, 1)), ((5, 1), (4, 1)), ((3, 1), (11, 6))]) (by kernel_rfl) (by kernel_rfl) (by kernel_rfl)), rfl⟩
                · refine awp_region_ 19 (by kernel_rfl) ?_
                  refine rs0 (.box (11, 6) 0) (by kernel_rfl) ?_
                  refine rsl (.int .i64 x25.1) (by kernel_rfl) ?_
                  refine rs0 (.bool (x25.1 == 1)) (by kernel_rfl) ?_
                  refine rs0 (.bool (x25.1 == 1)) (by kernel_rfl) ?_
                  refine rs0 (.tup []) (s_skip (by kernel_rfl) q27) ?_
                  refine rs0 (.tup []) (s_skip (by kernel_rfl) q27) ?_
                  refine rs0 (.tup []) (s_skip (by kernel_rfl) q27) ?_
                  refine rs0 (.tup []) (s_skip (by kernel_rfl) q27) ?_
                  refine rs0 (.tup []) (s_skip (by kernel_rfl) q27) ?_
                  refine rs0 (.bool false) (s_pickF (by kernel_rfl) q27) ?_
                  refine rnil (tn_ ?_)
                  obtain rfl := Option.some.inj h
                  exact ⟨_, (weak_ren (renF [((4, 1), (3, 1)), ((5, 1), (4, 1)), ((3, 1), (11, 6))]) (by kernel_rfl) (by kernel_rfl) (by kernel_rfl)), rfl⟩
              · rintro l26_m70 _ rfl h
                (try dsimp only at h)
                rcases cond_some h with ⟨q28, h⟩ | ⟨q28, h⟩
                · refine awp_condT_ q28 (by kernel_rfl) ?_
                  obtain ⟨g29, h⟩ := og_some h
                  obtain ⟨x30, e30, h⟩ := ob_some h
                  refine awp_regionD_ 16 (by kernel_rfl) ?_
                  refine ds0 (.box (1, 1) 1) (by kernel_rfl) ?_
                  refine dsl (.own (4, 1) (.pair .int (.pair .int (.pair .int .int))) 0 l19_m54.length) (by kernel_rfl) ?_
                  refine ds0 (.int .i64 ((l19_m56 : Nat) : Int)) (by kernel_rfl) ?_
                  refine ds0 (.own (2, 1) .int ((IntKind.i64.wrap (((y10.2.2.length : Nat) : Int) - a2)).toNat) ((((y10.2.2.length : Nat) : Int) - (IntKind.i64.wrap (((y10.2.2.length : Nat) : Int) - a2))).toNat)) (by kernel_rfl) ?_
                  refine ds0 (.box (3, 1) 3) (by kernel_rfl) ?_
                  refine dsl (.int .i64 x25.2.2.2) (by kernel_rfl) ?_
                  refine ds0 (.box (1, 1) 0) (by kernel_rfl) ?_
                  refine dsl (.int .i64 (IntKind.i64.wrap (y10.1 - a2))) (by kernel_rfl) ?_
                  refine ds0 (.int .i64 (IntKind.i64.wrap (x25.2.2.2 - (IntKind.i64.wrap (y10.1 - a2))))) (by kernel_rfl) ?_
                  refine ds0 (.elt (2, 1) (((IntKind.i64.wrap (((y10.2.2.length : Nat) : Int) - a2)).toNat) + (IntKind.i64.wrap (x25.2.2.2 - (IntKind.i64.wrap (y10.1 - a2)))).toNat) 0) (s_idxP (t := .int) (o := (2, 1)) (off := (IntKind.i64.wrap (((y10.2.2.length : Nat) : Int) - a2)).toNat) (len := (((y10.2.2.length : Nat) : Int) - (IntKind.i64.wrap (((y10.2.2.length : Nat) : Int) - a2))).toNat) (k := .i64) (m := IntKind.i64.wrap (x25.2.2.2 - (IntKind.i64.wrap (y10.1 - a2)))) (by kernel_rfl) (by kernel_rfl) rfl g29.1 rfl g29.2) ?_
                  refine dsl (.int .i64 x30) (s_ldE (i := (2, 1)) (j := ((IntKind.i64.wrap (((y10.2.2.length : Nat) : Int) - a2)).toNat) + (IntKind.i64.wrap (x25.2.2.2 - (IntKind.i64.wrap (y10.1 - a2)))).toNat) (k := 0) (e := 3) (t := .int) (xs := y10.2.2) (by kernel_rfl) (by kernel_rfl) e30 (by kernel_rfl)) ?_
                  refine ds0 (.agg [(.int .i64 5), (.int .i64 x30), (.int .i64 0), (.int .i64 0)]) (by kernel_rfl) ?_
                  refine ds0 (.elt (4, 1) l19_m56 0) (s_idxO (t := (.pair .int (.pair .int (.pair .int .int)))) (o := (4, 1)) (len := l19_m54.length) (k := .i64) (m := ((l19_m56 : Nat) : Int)) (by kernel_rfl) (by kernel_rfl) rfl (nat_nn _) rfl (getN_lt e25)) ?_
                  refine dsn2 (4, 1) (4, 1) (.arr 51 (.pair .int (.pair .int (.pair .int .int))) (l19_m54.set l19_m56 (5, x30, 0, 0))) (s_stE (i := (4, 1)) (j := l19_m56) (k := 0) (e := 51) (t := (.pair .int (.pair .int (.pair .int .int)))) (xs := l19_m54) (cs := [(.int .i64 5), (.int .i64 x30), (.int .i64 0), (.int .i64 0)]) (x1 := (5, x30, 0, 0)) (by kernel_rfl) (by kernel_rfl) e25 (by kernel_rfl) (by kernel_rfl)) ?_
                  refine dnil (by kernel_rfl) (bn_ (tn_ ?_))
                  obtain rfl := Option.some.inj h
                  exact ⟨_, ((weak_tm_ 54 (.own (4, 1) (.pair .int (.pair .int (.pair .int .int))) 0 l19_m54.length) (.own (4, 1) (.pair .int (.pair .int (.pair .int .int))) 0 ((l19_m54.set l19_m56 (5, x30, 0, 0)).length)) (by kernel_rfl) (congrArg (fun z_ => ((.own (4, 1) (.pair .int (.pair .int (.pair .int .int))) 0 z_) : AV)) (((rfl : l19_m54.length = l19_m54.length).trans List.length_set.symm) : l19_m54.length = (l19_m54.set l19_m56 (5, x30, 0, 0)).length))).trans ((weak_ob_ (1, 1) (.cells 31 [(.int .i64 (IntKind.i64.wrap (y10.1 - a2))), (.own (4, 1) (.pair .int (.pair .int (.pair .int .int))) 0 l19_m54.length), (.own (5, 1) .int 0 y16.length)]) (.cells 31 [(.int .i64 (IntKind.i64.wrap (y10.1 - a2))), (.own (4, 1) (.pair .int (.pair .int (.pair .int .int))) 0 ((l19_m54.set l19_m56 (5, x30, 0, 0)).length)), (.own (5, 1) .int 0 y16.length)]) (by kernel_rfl) (congrArg (fun z_ => (.cells 31 [(.int .i64 (IntKind.i64.wrap (y10.1 - a2))), (.own (4, 1) (.pair .int (.pair .int (.pair .int .int))) 0 z_), (.own (5, 1) .int 0 y16.length)] : Ob)) (((rfl : l19_m54.length = l19_m54.length).trans List.length_set.symm) : l19_m54.length = (l19_m54.set l19_m56 (5, x30, 0, 0)).length))).trans (weak_ren (renF [((3, 1), (4, 1)), ((4, 1), (5, 1))]) (by kernel_rfl) (by kernel_rfl) (by kernel_rfl)))), rfl⟩
                · refine awp_condF_ q28 (by kernel_rfl) ?_
                  refine awp_skip_ (bn_ (tn_ ?_))
                  obtain rfl := Option.some.inj h
                  exact ⟨_, (weak_ren (renF [((3, 1), (4, 1)), ((4, 1), (5, 1))]) (by kernel_rfl) (by kernel_rfl) (by kernel_rfl)), rfl⟩
            · rintro l23_m54 _ rfl h
              (try dsimp only at h)
              obtain ⟨g31, h⟩ := og_some h
              refine awp_region_ 4 (by kernel_rfl) ?_
              refine rs0 (.int .i64 ((l19_m56 + 1 : Nat) : Int)) (s_add1 (j := l19_m56) (by kernel_rfl) (by kernel_rfl) g31) ?_
              refine rs0 (.int .i64 ((l19_m56 + 1 : Nat) : Int)) (by kernel_rfl) ?_
              refine rnil (tn_ ?_)
              obtain rfl := Option.some.inj h
              exact ⟨(l19_m56 + 1, l23_m54), _, (weak_ren (renF []) (by kernel_rfl) (by kernel_rfl) (by kernel_rfl)), ⟨l19_m56 + 1, l23_m54, rfl, rfl⟩, hn19⟩
          · have q22_ := of_decide_eq_false q22
            refine awp_condF_ q22 (by kernel_rfl) ?_
            refine awp_exit_ (te_ (te_ (be_ (tn_ ?_))))
            obtain rfl := Option.some.inj h
            have h := hn19
            (try dsimp only at h)
            obtain rfl := Option.some.inj h
            exact ⟨_, (weak_ren (renF [((2, 1), (3, 1)), ((3, 1), (4, 1))]) (by kernel_rfl) (by kernel_rfl) (by kernel_rfl)), rfl⟩
      · rintro l17_m8_1 _ rfl h
        (try dsimp only at h)
        refine awp_seqB h (fun t_ S_ => ∃ (l32_m7 : Bool), ∃ (l32_m6_0 : Int), ∃ (l32_m6_1 : List (Int × Int × Int × Int)), ∃ (l32_m6_2 : List Int), t_ = (l32_m7, l32_m6_0, l32_m6_1, l32_m6_2) ∧ S_ = ⟨mkTm [(6, (.box (0, 1) 0)), (7, (.bool l32_m7))], mkOb (someL [((0, 1), .cells 31 [(.int .i64 l32_m6_0), (.own (1, 1) (.pair .int (.pair .int (.pair .int .int))) 0 l32_m6_1.length), (.own (2, 1) .int 0 l32_m6_2.length)]), ((1, 1), .arr 51 (.pair .int (.pair .int (.pair .int .int))) l32_m6_1), ((2, 1), .arr 3 .int l32_m6_2)]), 2⟩) ?_ ?_
        · intro v_ h
          obtain ⟨y33, h33, h⟩ := ob_some h
          rcases y33 with z33_0 | z33_1
          · (try simp only [Sum.elim_inl, Sum.elim_inr] at h)
            refine awp_region_ 9 (by kernel_rfl) ?_
            refine rs0 (.int .i64 a0) (by kernel_rfl) ?_
            refine rsl (.agg [(.int .i64 (IntKind.i64.wrap (y10.1 - a2))), (.own (2, 1) (.pair .int (.pair .int (.pair .int .int))) 0 l17_m8_1.length), (.own (3, 1) .int 0 y16.length)]) (by kernel_rfl) ?_
            refine rcall (.tup [(.agg [(.int .i64 z33_0.1), .nils, .nils]), (.bool z33_0.2)]) [] [(.int .i64 a0), (.agg [(.int .i64 (IntKind.i64.wrap (y10.1 - a2))), (.own (2, 1) (.pair .int (.pair .int (.pair .int .int))) 0 l17_m8_1.length), (.own (3, 1) .int 0 y16.length)])] _ (caps := []) (args0 := [(.int .i64 a0), (.agg [(.int .i64 (IntKind.i64.wrap (y10.1 - a2))), (.tree (.pair .int (.pair .int (.pair .int .int))) l17_m8_1), (.tree .int y16)])]) trivial (by kernel_rfl) (by kernel_rfl) (gm_cons (by kernel_rfl) (gm_cons (gd_agg (gm_cons (by kernel_rfl) (gm_cons (gd_own (e := 51) (by kernel_rfl) rfl) (gm_cons (gd_own (e := 3) (by kernel_rfl) rfl) gm_nil)))) gm_nil)) (by kernel_rfl) (ok_impl_validCircuit h33) hb_impl_validCircuit (by kernel_rfl) ?_
            refine rs0 (.agg [(.int .i64 z33_0.1), .nils, .nils]) (by kernel_rfl) ?_
            refine rs0 (.bool z33_0.2) (by kernel_rfl) ?_
            refine rsn2 (0, 1) (0, 1) (.cells 31 [(.int .i64 z33_0.1), .nils, .nils]) (by kernel_rfl) ?_
            refine rs0 (.bool z33_0.2) (by kernel_rfl) ?_
            refine rnil (tn_ ?_)
            obtain rfl := Option.some.inj h
            exact ⟨_, ((weak_nil_cell_ 9000 (0, 1) 1 31 [(.int .i64 z33_0.1), .nils, .nils] [(.int .i64 z33_0.1), (.own (9000, 9) (.pair .int (.pair .int (.pair .int .int))) 0 0), .nils] 51 (.pair .int (.pair .int (.pair .int .int))) rfl (by kernel_rfl) (by kernel_rfl) (by kernel_rfl)).trans ((weak_nil_cell_ 9001 (0, 1) 2 31 [(.int .i64 z33_0.1), (.own (9000, 9) (.pair .int (.pair .int (.pair .int .int))) 0 0), .nils] [(.int .i64 z33_0.1), (.own (9000, 9) (.pair .int (.pair .int (.pair .int .int))) 0 0), (.own (9001, 10) .int 0 0)] 3 .int rfl (by kernel_rfl) (by kernel_rfl) (by kernel_rfl)).trans (weak_ren (renF [((1, 1), (9000, 9)), ((2, 1), (9001, 10))]) (by kernel_rfl) (by kernel_rfl) (by kernel_rfl)))), ⟨z33_0.2, z33_0.1, [], [], rfl, rfl⟩⟩
          · (try simp only [Sum.elim_inl, Sum.elim_inr] at h)
            refine awp_region_ 9 (by kernel_rfl) ?_
            refine rs0 (.int .i64 a0) (by kernel_rfl) ?_
            refine rsl (.agg [(.int .i64 (IntKind.i64.wrap (y10.1 - a2))), (.own (2, 1) (.pair .int (.pair .int (.pair .int .int))) 0 l17_m8_1.length), (.own (3, 1) .int 0 y16.length)]) (by kernel_rfl) ?_
            refine rcall (.tup [(.agg [(.int .i64 z33_1.1), (.own (2, 1) (.pair .int (.pair .int (.pair .int .int))) 0 l17_m8_1.length), (.own (3, 1) .int 0 y16.length)]), (.bool z33_1.2)]) [] [(.int .i64 a0), (.agg [(.int .i64 (IntKind.i64.wrap (y10.1 - a2))), (.own (2, 1) (.pair .int (.pair .int (.pair .int .int))) 0 l17_m8_1.length), (.own (3, 1) .int 0 y16.length)])] _ (caps := []) (args0 := [(.int .i64 a0), (.agg [(.int .i64 (IntKind.i64.wrap (y10.1 - a2))), (.tree (.pair .int (.pair .int (.pair .int .int))) l17_m8_1), (.tree .int y16)])]) trivial (by kernel_rfl) (by kernel_rfl) (gm_cons (by kernel_rfl) (gm_cons (gd_agg (gm_cons (by kernel_rfl) (gm_cons (gd_own (e := 51) (by kernel_rfl) rfl) (gm_cons (gd_own (e := 3) (by kernel_rfl) rfl) gm_nil)))) gm_nil)) (by kernel_rfl) (ok_impl_validCircuit h33) hb_impl_validCircuit (by kernel_rfl) ?_
            refine rs0 (.agg [(.int .i64 z33_1.1), (.own (2, 1) (.pair .int (.pair .int (.pair .int .int))) 0 l17_m8_1.length), (.own (3, 1) .int 0 y16.length)]) (by kernel_rfl) ?_
            refine rs0 (.bool z33_1.2) (by kernel_rfl) ?_
            refine rsn2 (0, 1) (0, 1) (.cells 31 [(.int .i64 z33_1.1), (.own (2, 1) (.pair .int (.pair .int (.pair .int .int))) 0 l17_m8_1.length), (.own (3, 1) .int 0 y16.length)]) (by kernel_rfl) ?_
            refine rs0 (.bool z33_1.2) (by kernel_rfl) ?_
            refine rnil (tn_ ?_)
            obtain rfl := Option.some.inj h
            exact ⟨_, (weak_ren (renF [((1, 1), (2, 1)), ((2, 1), (3, 1))]) (by kernel_rfl) (by kernel_rfl) (by kernel_rfl)), ⟨z33_1.2, z33_1.1, l17_m8_1, y16, rfl, rfl⟩⟩
        · rintro _ _ ⟨l32_m7, l32_m6_0, l32_m6_1, l32_m6_2, rfl, rfl⟩ h
          (try dsimp only at h)
          refine awp_ret_ ?_
          obtain rfl := Option.some.inj h
          exact ret_ [(.agg [(.int .i64 l32_m6_0), (.own (1, 1) (.pair .int (.pair .int (.pair .int .int))) 0 l32_m6_1.length), (.own (2, 1) .int 0 l32_m6_2.length)]), (.bool l32_m7)] (by simp) (by kernel_rfl) (p_agg (l_cons (l_sc (by kernel_rfl)) (l_cons (l_own (by kernel_rfl) rfl) (l_cons (l_own (by kernel_rfl) rfl) l_nil))) (p_one rfl (l_sc (by kernel_rfl)) p_nil)) (by kernel_rfl) (by kernel_rfl)
def m_laws_FnExactFeedbackOf : AC :=
  (.seq (.region [⟨(some 4), none, (.i (.box 25 (.tmp 1)))⟩, ⟨(some 6), none, (.i (.mov (.cst (.bool false))))⟩] false [])
  (.seq (.region [⟨(some 7), none, (.i (.mov (.cst (.int .i64 1048576))))⟩] false [])
  (.seq (.region [⟨(some 18), none, (.i (.ld false 3 (.tmp 4)))⟩, ⟨(some 19), none, (.i (.mov (.tmp 7)))⟩, ⟨(some 20), none, (.call (.cst (.fn 10 [])) [(.tmp 18), (.tmp 19)] [[none, (some (.pair .int (.pair .int (.pair .int .int)))), (some .int)], []])⟩, ⟨(some 7), none, (.i (.mov (.tmp 20)))⟩] false [])
  (.seq (.seq (.region [⟨(some 21), none, (.i (.mov (.tmp 7)))⟩, ⟨(some 22), none, (.i (.bin .lss (.tmp 21) (.cst (.int .i64 0))))⟩] false [])
  (.cond (.tmp 22)
    (.seq (.region [⟨(some 6), none, (.i (.mov (.cst (.bool true))))⟩] false [])
    .ret)
    .skip))
  (.seq (.region [⟨(some 24), none, (.i (.mov (.tmp 0)))⟩, ⟨(some 25), none, (.i (.ld false 3 (.tmp 4)))⟩, ⟨(some 26), none, (.call (.cst (.fn 12 [])) [(.tmp 25)] [[none, (some (.pair .int (.pair .int (.pair .int .int)))), (some .int)]])⟩, ⟨(some 27), none, (.i (.mov (.tmp 2)))⟩, ⟨(some 28), none, (.call (.cst (.fn 19 [])) [(.tmp 24), (.tmp 26), (.tmp 27)] [[], [none, (some (.pair .int (.pair .int (.pair .int .int)))), (some .int)], []])⟩, ⟨(some 23), none, (.i (.mov (.tmp 28)))⟩, ⟨(some 29), none, (.i (.extr 0 (.tmp 23)))⟩, ⟨(some 30), none, (.i (.extr 1 (.tmp 23)))⟩, ⟨(some 8), none, (.i (.alloc 31 [(.int .i64 0), .nils, .nils]))⟩, ⟨none, none, (.st false 3 (.tmp 8) (.tmp 29))⟩, ⟨(some 9), none, (.i (.mov (.tmp 30)))⟩] false [])
  (.seq (.region [⟨(some 31), none, (.i (.ld false 3 (.tmp 4)))⟩, ⟨(some 32), none, (.call (.cst (.fn 12 [])) [(.tmp 31)] [[none, (some (.pair .int (.pair .int (.pair .int .int)))), (some .int)]])⟩, ⟨(some 10), none, (.i (.alloc 31 [(.int .i64 0), .nils, .nils]))⟩, ⟨none, none, (.st false 3 (.tmp 10) (.tmp 32))⟩] false [])
  (.seq (.region [⟨(some 34), none, (.i (.mov (.tmp 0)))⟩, ⟨(some 35), none, (.i (.ld false 3 (.tmp 10)))⟩, ⟨(some 36), none, (.i (.mov (.tmp 2)))⟩, ⟨(some 37), none, (.call (.cst (.fn 20 [])) [(.tmp 34), (.tmp 35), (.tmp 36)] [[], [none, (some (.pair .int (.pair .int (.pair .int .int)))), (some .int)], []])⟩, ⟨(some 33), none, (.i (.mov (.tmp 37)))⟩, ⟨(some 38), none, (.i (.extr 0 (.tmp 33)))⟩, ⟨(some 39), none, (.i (.extr 1 (.tmp 33)))⟩, ⟨(some 11), none, (.i (.alloc 31 [(.int .i64 0), .nils, .nils]))⟩, ⟨none, none, (.st false 3 (.tmp 11) (.tmp 38))⟩, ⟨(some 12), none, (.i (.mov (.tmp 39)))⟩] false [])
  (.seq (.seq (.region [⟨(some 40), none, (.i (.ld false 3 (.tmp 11)))⟩, ⟨(some 41), none, (.i (.ld false 3 (.tmp 8)))⟩, ⟨(some 42), none, (.call (.cst (.fn 15 [])) [(.tmp 40), (.tmp 41)] [[none, (some (.pair .int (.pair .int (.pair .int .int)))), (some .int)], [none, (some (.pair .int (.pair .int (.pair .int .int)))), (some .int)]])⟩, ⟨(some 43), none, (.i (.not (.tmp 42)))⟩, ⟨(some 44), none, (.i (.mov (.tmp 43)))⟩, ⟨(some 45), (some (44, false)), (.i (.mov (.tmp 12)))⟩, ⟨(some 46), (some (44, false)), (.i (.mov (.tmp 9)))⟩, ⟨(some 47), (some (44, false)), (.i (.cmp true 0 (.tmp 45) (.tmp 46)))⟩, ⟨(some 48), none, (.i (.pick (.tmp 44) (.cst (.bool true)) (.tmp 47)))⟩] false [])
  (.cond (.tmp 48)
    (.seq (.region [⟨(some 6), none, (.i (.mov (.cst (.bool false))))⟩] false [])
    .ret)
    .skip))
  (.seq (.seq (.region [⟨(some 49), none, (.i (.ld false 3 (.tmp 10)))⟩, ⟨(some 50), none, (.i (.ld false 3 (.tmp 4)))⟩, ⟨(some 51), none, (.call (.cst (.fn 12 [])) [(.tmp 50)] [[none, (some (.pair .int (.pair .int (.pair .int .int)))), (some .int)]])⟩, ⟨(some 52), none, (.call (.cst (.fn 15 [])) [(.tmp 49), (.tmp 51)] [[none, (some (.pair .int (.pair .int (.pair .int .int)))), (some .int)], [none, (some (.pair .int (.pair .int (.pair .int .int)))), (some .int)]])⟩, ⟨(some 53), none, (.i (.not (.tmp 52)))⟩] true [(0, 2)])
  (.cond (.tmp 53)
    (.seq (.region [⟨(some 6), none, (.i (.mov (.cst (.bool false))))⟩] false [])
    .ret)
    .skip))
  (.seq (.region [⟨(some 13), none, (.i (.mov (.cst (.int .i64 1))))⟩] false [])
  (.seq (.region [⟨(some 54), none, (.i (.ld false 3 (.tmp 10)))⟩, ⟨(some 55), none, (.i (.mov (.tmp 13)))⟩, ⟨(some 56), none, (.call (.cst (.fn 16 [])) [(.tmp 54), (.tmp 55)] [[none, (some (.pair .int (.pair .int (.pair .int .int)))), (some .int)], []])⟩, ⟨(some 13), none, (.i (.mov (.tmp 56)))⟩] false [])
  (.seq (.seq (.region [⟨(some 57), none, (.i (.mov (.tmp 13)))⟩, ⟨(some 58), none, (.i (.bin .lss (.tmp 57) (.cst (.int .i64 0))))⟩, ⟨(some 59), none, (.i (.mov (.tmp 58)))⟩, ⟨(some 60), (some (59, false)), (.i (.ld false 3 (.tmp 11)))⟩, ⟨(some 61), (some (59, false)), (.i (.ld false 3 (.tmp 8)))⟩, ⟨(some 62), (some (59, false)), (.call (.cst (.fn 15 [])) [(.tmp 60), (.tmp 61)] [[none, (some (.pair .int (.pair .int (.pair .int .int)))), (some .int)], [none, (some (.pair .int (.pair .int (.pair .int .int)))), (some .int)]])⟩, ⟨(some 63), (some (59, false)), (.i (.not (.tmp 62)))⟩, ⟨(some 64), none, (.i (.pick (.tmp 59) (.cst (.bool true)) (.tmp 63)))⟩, ⟨(some 65), none, (.i (.mov (.tmp 64)))⟩, ⟨(some 66), (some (65, false)), (.i (.mov (.tmp 12)))⟩, ⟨(some 67), (some (65, false)), (.i (.mov (.tmp 9)))⟩, ⟨(some 68), (some (65, false)), (.i (.cmp true 0 (.tmp 66) (.tmp 67)))⟩, ⟨(some 69), none, (.i (.pick (.tmp 65) (.cst (.bool true)) (.tmp 68)))⟩] false [])
  (.cond (.tmp 69)
    (.seq (.region [⟨(some 6), none, (.i (.mov (.cst (.bool false))))⟩] false [])
    .ret)
    .skip))
  (.seq (.region [⟨(some 14), none, (.i (.mov (.cst (.int .i64 1))))⟩] false [])
  (.seq (.region [⟨(some 70), none, (.i (.ld false 3 (.tmp 11)))⟩, ⟨(some 71), none, (.i (.mov (.tmp 14)))⟩, ⟨(some 72), none, (.call (.cst (.fn 16 [])) [(.tmp 70), (.tmp 71)] [[none, (some (.pair .int (.pair .int (.pair .int .int)))), (some .int)], []])⟩, ⟨(some 14), none, (.i (.mov (.tmp 72)))⟩] false [])
  (.seq (.region [⟨(some 15), none, (.i (.mov (.cst (.int .i64 1))))⟩] false [])
  (.seq (.region [⟨(some 73), none, (.i (.ld false 3 (.tmp 11)))⟩, ⟨(some 74), none, (.i (.mov (.tmp 15)))⟩, ⟨(some 75), none, (.call (.cst (.fn 21 [])) [(.tmp 73), (.tmp 74)] [[none, (some (.pair .int (.pair .int (.pair .int .int)))), (some .int)], []])⟩, ⟨(some 15), none, (.i (.mov (.tmp 75)))⟩] false [])
  (.seq (.seq (.region [⟨(some 76), none, (.i (.mov (.tmp 15)))⟩, ⟨(some 77), none, (.i (.bin .lss (.tmp 76) (.cst (.int .i64 0))))⟩] false [])
  (.cond (.tmp 77)
    (.seq (.region [⟨(some 6), none, (.i (.mov (.cst (.bool false))))⟩] false [])
    .ret)
    .skip))
  (.seq (.seq (.region [⟨(some 78), none, (.i (.mov (.tmp 15)))⟩, ⟨(some 79), none, (.i (.mov (.tmp 14)))⟩, ⟨(some 80), none, (.i (.bin .neq (.tmp 78) (.tmp 79)))⟩] false [])
  (.cond (.tmp 80)
    (.seq (.region [⟨(some 6), none, (.i (.mov (.cst (.bool false))))⟩] false [])
    .ret)
    .skip))
  (.seq (.region [⟨(some 82), none, (.i (.mov (.tmp 0)))⟩, ⟨(some 83), none, (.i (.ld false 3 (.tmp 4)))⟩, ⟨(some 84), none, (.call (.cst (.fn 12 [])) [(.tmp 83)] [[none, (some (.pair .int (.pair .int (.pair .int .int)))), (some .int)]])⟩, ⟨(some 85), none, (.i (.mov (.tmp 2)))⟩, ⟨(some 86), none, (.call (.cst (.fn 20 [])) [(.tmp 82), (.tmp 84), (.tmp 85)] [[], [none, (some (.pair .int (.pair .int (.pair .int .int)))), (some .int)], []])⟩, ⟨(some 81), none, (.i (.mov (.tmp 86)))⟩, ⟨(some 87), none, (.i (.extr 0 (.tmp 81)))⟩, ⟨(some 88), none, (.i (.extr 1 (.tmp 81)))⟩, ⟨(some 16), none, (.i (.alloc 31 [(.int .i64 0), .nils, .nils]))⟩, ⟨none, none, (.st false 3 (.tmp 16) (.tmp 87))⟩, ⟨(some 17), none, (.i (.mov (.tmp 88)))⟩] false [])
  (.seq (.seq (.region [⟨(some 89), none, (.i (.ld false 3 (.tmp 16)))⟩, ⟨(some 90), none, (.i (.ld false 3 (.tmp 8)))⟩, ⟨(some 91), none, (.call (.cst (.fn 15 [])) [(.tmp 89), (.tmp 90)] [[none, (some (.pair .int (.pair .int (.pair .int .int)))), (some .int)], [none, (some (.pair .int (.pair .int (.pair .int .int)))), (some .int)]])⟩, ⟨(some 92), none, (.i (.not (.tmp 91)))⟩, ⟨(some 93), none, (.i (.mov (.tmp 92)))⟩, ⟨(some 94), (some (93, false)), (.i (.mov (.tmp 17)))⟩, ⟨(some 95), (some (93, false)), (.i (.mov (.tmp 9)))⟩, ⟨(some 96), (some (93, false)), (.i (.cmp true 0 (.tmp 94) (.tmp 95)))⟩, ⟨(some 97), none, (.i (.pick (.tmp 93) (.cst (.bool true)) (.tmp 96)))⟩] false [])
  (.cond (.tmp 97)
    (.seq (.region [⟨(some 6), none, (.i (.mov (.cst (.bool false))))⟩] false [])
    .ret)
    .skip))
  (.seq (.region [⟨(some 15), none, (.i (.mov (.cst (.int .i64 1))))⟩] false [])
  (.seq (.region [⟨(some 98), none, (.i (.ld false 3 (.tmp 11)))⟩, ⟨(some 99), none, (.i (.mov (.tmp 15)))⟩, ⟨(some 100), none, (.call (.cst (.fn 21 [])) [(.tmp 98), (.tmp 99)] [[none, (some (.pair .int (.pair .int (.pair .int .int)))), (some .int)], []])⟩, ⟨(some 15), none, (.i (.mov (.tmp 100)))⟩] false [])
  (.seq (.seq (.region [⟨(some 101), none, (.i (.mov (.tmp 15)))⟩, ⟨(some 102), none, (.i (.bin .lss (.tmp 101) (.cst (.int .i64 0))))⟩] false [])
  (.cond (.tmp 102)
    (.seq (.region [⟨(some 6), none, (.i (.mov (.cst (.bool false))))⟩] false [])
    .ret)
    .skip))
  (.seq (.seq (.region [⟨(some 103), none, (.i (.mov (.tmp 15)))⟩, ⟨(some 104), none, (.i (.mov (.tmp 14)))⟩, ⟨(some 105), none, (.i (.bin .neq (.tmp 103) (.tmp 104)))⟩] false [])
  (.cond (.tmp 105)
    (.seq (.region [⟨(some 6), none, (.i (.mov (.cst (.bool false))))⟩] false [])
    .ret)
    .skip))
  (.seq (.region [⟨(some 6), none, (.i (.mov (.cst (.bool true))))⟩] false [])
  .ret)))))))))))))))))))))))))
def r_laws_FnExactFeedbackOf : List Res := [.tmp 6]
theorem c_laws_FnExactFeedbackOf : compiled Tryd.prog Tryd.f4 = some (m_laws_FnExactFeedbackOf, r_laws_FnExactFeedbackOf) := by kernel_rfl
theorem hb_laws_FnExactFeedbackOf : hasBody Tryd.prog 4 = true := by kernel_rfl
def L_laws_FnExactFeedbackOf (a0 : Int) (a1_0 : Int) (a1_1 : List (Int × Int × Int × Int)) (a1_2 : List Int) (a2 : Int) : Option Bool :=
  Option.bind (L_laws_szCircuit a1_0 a1_1 a1_2 1048576) fun y4 =>
cond (decide (y4 < 0))
  (some true)
  (Option.bind (L_laws_toCircuit a1_0 a1_1 a1_2) fun y10 =>
  Option.bind (L_spec_FeedbackOf a0 y10.1 y10.2.1 y10.2.2 a2) fun y11 =>
  Option.bind (L_laws_toCircuit a1_0 a1_1 a1_2) fun y13 =>
  Option.bind (L_impl_FeedbackOf a0 y13.1 y13.2.1 y13.2.2 a2) fun y15 =>
  Option.bind (Option.bind (L_laws_eqCircuit y15.1 y15.2.1 y15.2.2.1 y11.1 y11.2.1 y11.2.2.1) fun y18 =>
    cond (!y18)
      (some true)
      (some (y15.2.2.2 != y11.2.2.2))) fun l17_m48 =>
  cond l17_m48
    (some false)
    (Option.bind (L_laws_toCircuit a1_0 a1_1 a1_2) fun y24 =>
    Option.bind (L_laws_eqCircuit y13.1 y13.2.1 y13.2.2 y24.1 y24.2.1 y24.2.2) fun y25 =>
    cond (!y25)
      (some false)
      (Option.bind (L_laws_markCircuit y13.1 y13.2.1 y13.2.2 1) fun y30 =>
      og (y30.1.length = y13.2.1.length) <|
      og (y30.2.1.length = y13.2.2.length) <|
      Option.bind (cond (decide (y30.2.2 < 0))
          (some true)
          (Option.bind (L_laws_eqCircuit y15.1 y15.2.1 y15.2.2.1 y11.1 y11.2.1 y11.2.2.1) fun y36 =>
          cond (!y36)
            (some true)
            (some (y15.2.2.2 != y11.2.2.2)))) fun l34_m69 =>
      cond l34_m69
        (some false)
        (Option.bind (L_laws_markCircuit y15.1 y15.2.1 y15.2.2.1 1) fun y42 =>
        og (y42.1.length = y15.2.1.length) <|
        og (y42.2.1.length = y15.2.2.1.length) <|
        Option.bind (L_laws_heldCircuit y15.1 y42.1 y42.2.1 1) fun y47 =>
        cond (decide (y47 < 0))
          (some false)
          (cond (y47 != y42.2.2)
            (some false)
            (Option.bind (L_laws_toCircuit a1_0 a1_1 a1_2) fun y57 =>
            Option.bind (L_impl_FeedbackOf a0 y57.1 y57.2.1 y57.2.2 a2) fun y58 =>
            Option.bind (Option.bind (L_laws_eqCircuit y58.1 y58.2.1 y58.2.2.1 y11.1 y11.2.1 y11.2.2.1) fun y61 =>
              cond (!y61)
                (some true)
                (some (y58.2.2.2 != y11.2.2.2))) fun l60_m97 =>
            cond l60_m97
              (some false)
              (Option.bind (L_laws_heldCircuit y15.1 y42.1 y42.2.1 1) fun y67 =>
              cond (decide (y67 < 0))
                (some false)
                (cond (y67 != y42.2.2)
                  (some false)
                  (some true)))))))))
def rv_laws_FnExactFeedbackOf (r : Bool) : RV := ⟨false, [(false, [.sc (.bool r)])]⟩
theorem ok_laws_FnExactFeedbackOf {a0 : Int} {a1_0 : Int} {a1_1 : List (Int × Int × Int × Int)} {a1_2 : List Int} {a2 : Int} {r : Bool} (h : L_laws_FnExactFeedbackOf a0 a1_0 a1_1 a1_2 a2 = some r) : CallOK Tryd.prog Tab 4 [(.int .i64 a0), (.agg [(.int .i64 a1_0), (.tree (.pair .int (.pair .int (.pair .int .int))) a1_1), (.tree .int a1_2)]), (.int .i64 a2)] (rv_laws_FnExactFeedbackOf r) := by
  refine call_of_ (by kernel_rfl) Tryd.func4 c_laws_FnExactFeedbackOf (n := 106) (by kernel_rfl) (by simp) (tl := [(0, (.int .i64 a0)), (1, (.agg [(.int .i64 a1_0), (.tree (.pair .int (.pair .int (.pair .int .int))) a1_1), (.tree .int a1_2)])), (2, (.int .i64 a2))]) rfl ?_
  unfold m_laws_FnExactFeedbackOf
  unfold L_laws_FnExactFeedbackOf at h
  refine awp_seq_ ?_
  refine awp_region_ 3 (by kernel_rfl) ?_
  refine rs1 (.box (4, 1) 0) (4, 1) (.cells 25 [(.int .i64 a1_0), (.tree (.pair .int (.pair .int (.pair .int .int))) a1_1), (.tree .int a1_2)]) (by kernel_rfl) ?_
  refine rs0 (.bool false) (by kernel_rfl) ?_
  refine rnil (tn_ ?_)
  refine awp_seq_ ?_
  refine awp_region_ 4 (by kernel_rfl) ?_
  refine rs0 (.int .i64 1048576) (by kernel_rfl) ?_
  refine rnil (tn_ ?_)
  refine awp_seq_ ?_
  obtain ⟨y4, h4, h⟩ := ob_some h
  refine awp_region_ 8 (by kernel_rfl) ?_
  refine rsl (.agg [(.int .i64 a1_0), (.tree (.pair .int (.pair .int (.pair .int .int))) a1_1), (.tree .int a1_2)]) (by kernel_rfl) ?_
  refine rs0 (.int .i64 1048576) (by kernel_rfl) ?_
  refine rcall (.int .i64 y4) [] [(.agg [(.int .i64 a1_0), (.tree (.pair .int (.pair .int (.pair .int .int))) a1_1), (.tree .int a1_2)]), (.int .i64 1048576)] _ (caps := []) (args0 := [(.agg [(.int .i64 a1_0), (.tree (.pair .int (.pair .int (.pair .int .int))) a1_1), (.tree .int a1_2)]), (.int .i64 1048576)]) trivial (by kernel_rfl) (by kernel_rfl) (by kernel_rfl) (by kernel_rfl) (ok_laws_szCircuit h4) hb_laws_szCircuit (by kernel_rfl) ?_
  refine rs0 (.int .i64 y4) (by kernel_rfl) ?_
  refine rnil (tn_ ?_)
  refine awp_seq_ ?_
  refine awp_seq_ ?_
  refine awp_region_ 10 (by kernel_rfl) ?_
  refine rs0 (.int .i64 y4) (by kernel_rfl) ?_
  refine rs0 (.bool (decide (y4 < 0))) (by kernel_rfl) ?_
  refine rnil (tn_ ?_)
  rcases cond_some h with ⟨q7, h⟩ | ⟨q7, h⟩
  · have q7_ := of_decide_eq_true q7
    refine awp_condT_ q7 (by kernel_rfl) ?_
    refine awp_seq_ ?_
    refine awp_region_ 11 (by kernel_rfl) ?_
    refine rs0 (.bool true) (by kernel_rfl) ?_
    refine rnil (tn_ ?_)
    refine awp_ret_ (tr_ ?_)
    obtain rfl := Option.some.inj h
    exact ret_ [(.bool true)] (by simp) (by kernel_rfl) (p_one rfl (l_sc (by kernel_rfl)) p_nil) (by kernel_rfl) (by kernel_rfl)
  · have q7_ := of_decide_eq_false q7
    refine awp_condF_ q7 (by kernel_rfl) ?_
    refine awp_skip_ (tn_ ?_)
    refine awp_seq_ ?_
    obtain ⟨y10, h10, h⟩ := ob_some h
    obtain ⟨y11, h11, h⟩ := ob_some h
    refine awp_region_ 21 (by kernel_rfl) ?_
    refine rs0 (.int .i64 a0) (by kernel_rfl) ?_
    refine rsl (.agg [(.int .i64 a1_0), (.tree (.pair .int (.pair .int (.pair .int .int))) a1_1), (.tree .int a1_2)]) (by kernel_rfl) ?_
    refine rcall (.agg [(.int .i64 y10.1), (.own (416, 12) (.pair .int (.pair .int (.pair .int .int))) 0 y10.2.1.length), (.own (417, 12) .int 0 y10.2.2.length)]) [((416, 12), some (.arr 51 (.pair .int (.pair .int (.pair .int .int))) y10.2.1)), ((417, 12), some (.arr 3 .int y10.2.2))] [(.agg [(.int .i64 a1_0), (.tree (.pair .int (.pair .int (.pair .int .int))) a1_1), (.tree .int a1_2)])] _ (caps := []) (args0 := [(.agg [(.int .i64 a1_0), (.tree (.pair .int (.pair .int (.pair .int .int))) a1_1), (.tree .int a1_2)])]) trivial (by kernel_rfl) (by kernel_rfl) (by kernel_rfl) (by kernel_rfl) (ok_laws_toCircuit h10) hb_laws_toCircuit (by kernel_rfl) ?_
    refine rs0 (.int .i64 a2) (by kernel_rfl) ?_
    refine rcall (.tup [(.agg [(.int .i64 y11.1), (.own (448, 14) (.pair .int (.pair .int (.pair .int .int))) 0 y11.2.1.length), (.own (449, 14) .int 0 y11.2.2.1.length)]), (.bool y11.2.2.2)]) [((448, 14), some (.arr 51 (.pair .int (.pair .int (.pair .int .int))) y11.2.1)), ((449, 14), some (.arr 3 .int y11.2.2.1))] [(.int .i64 a0), (.agg [(.int .i64 y10.1), (.own (416, 12) (.pair .int (.pair .int (.pair .int .int))) 0 y10.2.1.length), (.own (417, 12) .int 0 y10.2.2.length)]), (.int .i64 a2)] _ (caps := []) (args0 := [(.int .i64 a0), (.agg [(.int .i64 y10.1), (.tree (.pair .int (.pair .int (.pair .int .int))) y10.2.1), (.tree .int y10.2.2)]), (.int .i64 a2)]) trivial (by kernel_rfl) (by kernel_rfl) (gm_cons (by kernel_rfl) (gm_cons (gd_agg (gm_cons (by kernel_rfl) (gm_cons (gd_own (e := 51) (by kernel_rfl) rfl) (gm_cons (gd_own (e := 3) (by kernel_rfl) rfl) gm_nil)))) (gm_cons (by kernel_rfl) gm_nil))) (by kernel_rfl) (ok_spec_FeedbackOf h11) hb_spec_FeedbackOf (by kernel_rfl) ?_
    refine rs0 (.tup [(.agg [(.int .i64 y11.1), (.own (448, 14) (.pair .int (.pair .int (.pair .int .int))) 0 y11.2.1.length), (.own (449, 14) .int 0 y11.2.2.1.length)]), (.bool y11.2.2.2)]) (by kernel_rfl) ?_
    refine rs0 (.agg [(.int .i64 y11.1), (.own (448, 14) (.pair .int (.pair .int (.pair .int .int))) 0 y11.2.1.length), (.own (449, 14) .int 0 y11.2.2.1.length)]) (by kernel_rfl) ?_
    refine rs0 (.bool y11.2.2.2) (by kernel_rfl) ?_
    refine rs1 (.box (8, 18) 0) (8, 18) (.cells 31 [(.int .i64 0), .nils, .nils]) (by kernel_rfl) ?_
    refine rsn2 (8, 18) (8, 18) (.cells 31 [(.int .i64 y11.1), (.own (448, 14) (.pair .int (.pair .int (.pair .int .int))) 0 y11.2.1.length), (.own (449, 14) .int 0 y11.2.2.1.length)]) (by kernel_rfl) ?_
    refine rs0 (.bool y11.2.2.2) (by kernel_rfl) ?_
    refine rnil (tn_ ?_)
    refine awp_seq_ ?_
    obtain ⟨y13, h13, h⟩ := ob_some h
    refine awp_region_ 25 (by kernel_rfl) ?_
    refine rsl (.agg [(.int .i64 a1_0), (.tree (.pair .int (.pair .int (.pair .int .int))) a1_1), (.tree .int a1_2)]) (by kernel_rfl) ?_
    refine rcall (.agg [(.int .i64 y13.1), (.own (512, 22) (.pair .int (.pair .int (.pair .int .int))) 0 y13.2.1.length), (.own (513, 22) .int 0 y13.2.2.length)]) [((512, 22), some (.arr 51 (.pair .int (.pair .int (.pair .int .int))) y13.2.1)), ((513, 22), some (.arr 3 .int y13.2.2))] [(.agg [(.int .i64 a1_0), (.tree (.pair .int (.pair .int (.pair .int .int))) a1_1), (.tree .int a1_2)])] _ (caps := []) (args0 := [(.agg [(.int .i64 a1_0), (.tree (.pair .int (.pair .int (.pair .int .int))) a1_1), (.tree .int a1_2)])]) trivial (by kernel_rfl) (by kernel_rfl) (by kernel_rfl) (by kernel_rfl) (ok_laws_toCircuit h13) hb_laws_toCircuit (by kernel_rfl) ?_
    refine rs1 (.box (10, 23) 0) (10, 23) (.cells 31 [(.int .i64 0), .nils, .nils]) (by kernel_rfl) ?_
    refine rsn2 (10, 23) (10, 23) (.cells 31 [(.int .i64 y13.1), (.own (512, 22) (.pair .int (.pair .int (.pair .int .int))) 0 y13.2.1.length), (.own (513, 22) .int 0 y13.2.2.length)]) (by kernel_rfl) ?_
    refine rnil (tn_ ?_)
    refine awp_seq_ ?_
    obtain ⟨y15, h15, h⟩ := ob_some h
    refine awp_region_ 35 (by kernel_rfl) ?_
    refine rs0 (.int .i64 a0) (by kernel_rfl) ?_
    refine rsl (.agg [(.int .i64 y13.1), (.own (512, 22) (.pair .int (.pair .int (.pair .int .int))) 0 y13.2.1.length), (.own (513, 22) .int 0 y13.2.2.length)]) (by kernel_rfl) ?_
    refine rs0 (.int .i64 a2) (by kernel_rfl) ?_
    refine rcall (.tup [(.agg [(.int .i64 y15.1), (.own (592, 28) (.pair .int (.pair .int (.pair .int .int))) 0 y15.2.1.length), (.own (593, 28) .int 0 y15.2.2.1.length)]), (.bool y15.2.2.2)]) [((592, 28), some (.arr 51 (.pair .int (.pair .int (.pair .int .int))) y15.2.1)), ((593, 28), some (.arr 3 .int y15.2.2.1))] [(.int .i64 a0), (.agg [(.int .i64 y13.1), (.own (512, 22) (.pair .int (.pair .int (.pair .int .int))) 0 y13.2.1.length), (.own (513, 22) .int 0 y13.2.2.length)]), (.int .i64 a2)] _ (caps := []) (args0 := [(.int .i64 a0), (.agg [(.int .i64 y13.1), (.tree (.pair .int (.pair .int (.pair .int .int))) y13.2.1), (.tree .int y13.2.2)]), (.int .i64 a2)]) trivial (by kernel_rfl) (by kernel_rfl) (gm_cons (by kernel_rfl) (gm_cons (gd_agg (gm_cons (by kernel_rfl) (gm_cons (gd_own (e := 51) (by kernel_rfl) rfl) (gm_cons (gd_own (e := 3) (by kernel_rfl) rfl) gm_nil)))) (gm_cons (by kernel_rfl) gm_nil))) (by kernel_rfl) (ok_impl_FeedbackOf h15) hb_impl_FeedbackOf (by kernel_rfl) ?_
    refine rs0 (.tup [(.agg [(.int .i64 y15.1), (.own (592, 28) (.pair .int (.pair .int (.pair .int .int))) 0 y15.2.1.length), (.own (593, 28) .int 0 y15.2.2.1.length)]), (.bool y15.2.2.2)]) (by kernel_rfl) ?_
    refine rs0 (.agg [(.int .i64 y15.1), (.own (592, 28) (.pair .int (.pair .int (.pair .int .int))) 0 y15.2.1.length), (.own (593, 28) .int 0 y15.2.2.1.length)]) (by kernel_rfl) ?_
    refine rs0 (.bool y15.2.2.2) (by kernel_rfl) ?_
    refine rs1 (.box (11, 32) 0) (11, 32) (.cells 31 [(.int .i64 0), .nils, .nils]) (by kernel_rfl) ?_
    refine rsn2 (11, 32) (11, 32) (.cells 31 [(.int .i64 y15.1), (.own (592, 28) (.pair .int (.pair .int (.pair .int .int))) 0 y15.2.1.length), (.own (593, 28) .int 0 y15.2.2.1.length)]) (by kernel_rfl) ?_
    refine rs0 (.bool y15.2.2.2) (by kernel_rfl) ?_
    refine rnil (tn_ ?_)
    refine awp_seq_ ?_
    refine awp_seqB h (fun (l17_m48 : Bool) S_ => S_ = ⟨mkTm [(0, (.int .i64 a0)), (2, (.int .i64 a2)), (4, (.box (0, 1) 0)), (8, (.box (1, 1) 0)), (9, (.bool y11.2.2.2)), (10, (.box (2, 1) 0)), (11, (.box (3, 1) 0)), (12, (.bool y15.2.2.2)), (48, (.bool l17_m48))], mkOb (someL [((0, 1), .cells 25 [(.int .i64 a1_0), (.tree (.pair .int (.pair .int (.pair .int .int))) a1_1), (.tree .int a1_2)]), ((1, 1), .cells 31 [(.int .i64 y11.1), (.own (4, 1) (.pair .int (.pair .int (.pair .int .int))) 0 y11.2.1.length), (.own (5, 1) .int 0 y11.2.2.1.length)]), ((2, 1), .cells 31 [(.int .i64 y13.1), (.own (6, 1) (.pair .int (.pair .int (.pair .int .int))) 0 y13.2.1.length), (.own (7, 1) .int 0 y13.2.2.length)]), ((3, 1), .cells 31 [(.int .i64 y15.1), (.own (8, 1) (.pair .int (.pair .int (.pair .int .int))) 0 y15.2.1.length), (.own (9, 1) .int 0 y15.2.2.1.length)]), ((4, 1), .arr 51 (.pair .int (.pair .int (.pair .int .int))) y11.2.1), ((5, 1), .arr 3 .int y11.2.2.1), ((6, 1), .arr 51 (.pair .int (.pair .int (.pair .int .int))) y13.2.1), ((7, 1), .arr 3 .int y13.2.2), ((8, 1), .arr 51 (.pair .int (.pair .int (.pair .int .int))) y15.2.1), ((9, 1), .arr 3 .int y15.2.2.1)]), 2⟩) ?_ ?_
    · intro v_ h
      obtain ⟨y18, h18, h⟩ := ob_some h
      rcases cond_some h with ⟨q19, h⟩ | ⟨q19, h⟩
      · refine awp_region_ 44 (by kernel_rfl) ?_
        refine rsl (.agg [(.int .i64 y15.1), (.own (592, 28) (.pair .int (.pair .int (.pair .int .int))) 0 y15.2.1.length), (.own (593, 28) .int 0 y15.2.2.1.length)]) (by kernel_rfl) ?_
        refine rsl (.agg [(.int .i64 y11.1), (.own (448, 14) (.pair .int (.pair .int (.pair .int .int))) 0 y11.2.1.length), (.own (449, 14) .int 0 y11.2.2.1.length)]) (by kernel_rfl) ?_
        refine rcall (.bool y18) [] [(.agg [(.int .i64 y15.1), (.own (592, 28) (.pair .int (.pair .int (.pair .int .int))) 0 y15.2.1.length), (.own (593, 28) .int 0 y15.2.2.1.length)]), (.agg [(.int .i64 y11.1), (.own (448, 14) (.pair .int (.pair .int (.pair .int .int))) 0 y11.2.1.length), (.own (449, 14) .int 0 y11.2.2.1.length)])] _ (caps := []) (args0 := [(.agg [(.int .i64 y15.1), (.tree (.pair .int (.pair .int (.pair .int .int))) y15.2.1), (.tree .int y15.2.2.1)]), (.agg [(.int .i64 y11.1), (.tree (.pair .int (.pair .int (.pair .int .int))) y11.2.1), (.tree .int y11.2.2.1)])]) trivial (by kernel_rfl) (by kernel_rfl) (gm_cons (gd_agg (gm_cons (by kernel_rfl) (gm_cons (gd_own (e := 51) (by kernel_rfl) rfl) (gm_cons (gd_own (e := 3) (by kernel_rfl) rfl) gm_nil)))) (gm_cons (gd_agg (gm_cons (by kernel_rfl) (gm_cons (gd_own (e := 51) (by kernel_rfl) rfl) (gm_cons (gd_own (e := 3) (by kernel_rfl) rfl) gm_nil)))) gm_nil)) (by kernel_rfl) (ok_laws_eqCircuit h18) hb_laws_eqCircuit (by kernel_rfl) ?_
        refine rs0 (.bool (!y18)) (by kernel_rfl) ?_
        refine rs0 (.bool (!y18)) (by kernel_rfl) ?_
        refine rs0 (.tup []) (s_skip (by kernel_rfl) q19) ?_
        refine rs0 (.tup []) (s_skip (by kernel_rfl) q19) ?_
        refine rs0 (.tup []) (s_skip (by kernel_rfl) q19) ?_
        refine rs0 (.bool true) (s_pickT (by kernel_rfl) q19) ?_
        refine rnil (tn_ ?_)
        obtain rfl := Option.some.inj h
        exact ⟨_, (weak_ren (renF [((0, 1), (4, 1)), ((1, 1), (8, 18)), ((4, 1), (448, 14)), ((5, 1), (449, 14)), ((2, 1), (10, 23)), ((6, 1), (512, 22)), ((7, 1), (513, 22)), ((3, 1), (11, 32)), ((8, 1), (592, 28)), ((9, 1), (593, 28))]) (by kernel_rfl) (by kernel_rfl) (by kernel_rfl)), rfl⟩
      · refine awp_region_ 44 (by kernel_rfl) ?_
        refine rsl (.agg [(.int .i64 y15.1), (.own (592, 28) (.pair .int (.pair .int (.pair .int .int))) 0 y15.2.1.length), (.own (593, 28) .int 0 y15.2.2.1.length)]) (by kernel_rfl) ?_
        refine rsl (.agg [(.int .i64 y11.1), (.own (448, 14) (.pair .int (.pair .int (.pair .int .int))) 0 y11.2.1.length), (.own (449, 14) .int 0 y11.2.2.1.length)]) (by kernel_rfl) ?_
        refine rcall (.bool y18) [] [(.agg [(.int .i64 y15.1), (.own (592, 28) (.pair .int (.pair .int (.pair .int .int))) 0 y15.2.1.length), (.own (593, 28) .int 0 y15.2.2.1.length)]), (.agg [(.int .i64 y11.1), (.own (448, 14) (.pair .int (.pair .int (.pair .int .int))) 0 y11.2.1.length), (.own (449, 14) .int 0 y11.2.2.1.length)])] _ (caps := []) (args0 := [(.agg [(.int .i64 y15.1), (.tree (.pair .int (.pair .int (.pair .int .int))) y15.2.1), (.tree .int y15.2.2.1)]), (.agg [(.int .i64 y11.1), (.tree (.pair .int (.pair .int (.pair .int .int))) y11.2.1), (.tree .int y11.2.2.1)])]) trivial (by kernel_rfl) (by kernel_rfl) (gm_cons (gd_agg (gm_cons (by kernel_rfl) (gm_cons (gd_own (e := 51) (by kernel_rfl) rfl) (gm_cons (gd_own (e := 3) (by kernel_rfl) rfl) gm_nil)))) (gm_cons (gd_agg (gm_cons (by kernel_rfl) (gm_cons (gd_own (e := 51) (by kernel_rfl) rfl) (gm_cons (gd_own (e := 3) (by kernel_rfl) rfl) gm_nil)))) gm_nil)) (by kernel_rfl) (ok_laws_eqCircuit h18) hb_laws_eqCircuit (by kernel_rfl) ?_
        refine rs0 (.bool (!y18)) (by kernel_rfl) ?_
        refine rs0 (.bool (!y18)) (by kernel_rfl) ?_
        refine rs0 (.bool y15.2.2.2) (s_gd (by kernel_rfl) q19 (by kernel_rfl)) ?_
        refine rs0 (.bool y11.2.2.2) (s_gd (by kernel_rfl) q19 (by kernel_rfl)) ?_
        refine rs0 (.bool (y15.2.2.2 != y11.2.2.2)) (s_gd (by kernel_rfl) q19 (by kernel_rfl)) ?_
        refine rs0 (.bool (y15.2.2.2 != y11.2.2.2)) (s_pickF (by kernel_rfl) q19) ?_
        refine rnil (tn_ ?_)
        obtain rfl := Option.some.inj h
        exact ⟨_, (weak_ren (renF [((0, 1), (4, 1)), ((1, 1), (8, 18)), ((4, 1), (448, 14)), ((5, 1), (449, 14)), ((2, 1), (10, 23)), ((6, 1), (512, 22)), ((7, 1), (513, 22)), ((3, 1), (11, 32)), ((8, 1), (592, 28)), ((9, 1), (593, 28))]) (by kernel_rfl) (by kernel_rfl) (by kernel_rfl)), rfl⟩
    · rintro l17_m48 _ rfl h
      (try dsimp only at h)
      rcases cond_some h with ⟨q20, h⟩ | ⟨q20, h⟩
      · refine awp_condT_ q20 (by kernel_rfl) ?_
        refine awp_seq_ ?_
        refine awp_region_ 3 (by kernel_rfl) ?_
        refine rs0 (.bool false) (by kernel_rfl) ?_
        refine rnil (tn_ ?_)
        refine awp_ret_ (tr_ ?_)
        obtain rfl := Option.some.inj h
        exact ret_ [(.bool false)] (by simp) (by kernel_rfl) (p_one rfl (l_sc (by kernel_rfl)) p_nil) (by kernel_rfl) (by kernel_rfl)
      · refine awp_condF_ q20 (by kernel_rfl) ?_
        refine awp_skip_ (tn_ ?_)
        refine awp_seq_ ?_
        refine awp_seq_ ?_
        obtain ⟨y24, h24, h⟩ := ob_some h
        obtain ⟨y25, h25, h⟩ := ob_some h
        refine awp_regionD_ 7 (by kernel_rfl) ?_
        refine dsl (.agg [(.int .i64 y13.1), (.own (6, 1) (.pair .int (.pair .int (.pair .int .int))) 0 y13.2.1.length), (.own (7, 1) .int 0 y13.2.2.length)]) (by kernel_rfl) ?_
        refine dsl (.agg [(.int .i64 a1_0), (.tree (.pair .int (.pair .int (.pair .int .int))) a1_1), (.tree .int a1_2)]) (by kernel_rfl) ?_
        refine dcall (.agg [(.int .i64 y24.1), (.own (816, 4) (.pair .int (.pair .int (.pair .int .int))) 0 y24.2.1.length), (.own (817, 4) .int 0 y24.2.2.length)]) [((816, 4), some (.arr 51 (.pair .int (.pair .int (.pair .int .int))) y24.2.1)), ((817, 4), some (.arr 3 .int y24.2.2))] [(.agg [(.int .i64 a1_0), (.tree (.pair .int (.pair .int (.pair .int .int))) a1_1), (.tree .int a1_2)])] _ (caps := []) (args0 := [(.agg [(.int .i64 a1_0), (.tree (.pair .int (.pair .int (.pair .int .int))) a1_1), (.tree .int a1_2)])]) trivial (by kernel_rfl) (by kernel_rfl) (by kernel_rfl) (by kernel_rfl) (ok_laws_toCircuit h24) hb_laws_toCircuit (by kernel_rfl) ?_
        refine dcall (.bool y25) [] [(.agg [(.int .i64 y13.1), (.own (6, 1) (.pair .int (.pair .int (.pair .int .int))) 0 y13.2.1.length), (.own (7, 1) .int 0 y13.2.2.length)]), (.agg [(.int .i64 y24.1), (.own (816, 4) (.pair .int (.pair .int (.pair .int .int))) 0 y24.2.1.length), (.own (817, 4) .int 0 y24.2.2.length)])] _ (caps := []) (args0 := [(.agg [(.int .i64 y13.1), (.tree (.pair .int (.pair .int (.pair .int .int))) y13.2.1), (.tree .int y13.2.2)]), (.agg [(.int .i64 y24.1), (.tree (.pair .int (.pair .int (.pair .int .int))) y24.2.1), (.tree .int y24.2.2)])]) trivial (by kernel_rfl) (by kernel_rfl) (gm_cons (gd_agg (gm_cons (by kernel_rfl) (gm_cons (gd_own (e := 51) (by kernel_rfl) rfl) (gm_cons (gd_own (e := 3) (by kernel_rfl) rfl) gm_nil)))) (gm_cons (gd_agg (gm_cons (by kernel_rfl) (gm_cons (gd_own (e := 51) (by kernel_rfl) rfl) (gm_cons (gd_own (e := 3) (by kernel_rfl) rfl) gm_nil)))) gm_nil)) (by kernel_rfl) (ok_laws_eqCircuit h25) hb_laws_eqCircuit (by kernel_rfl) ?_
        refine ds0 (.bool (!y25)) (by kernel_rfl) ?_
        refine dnil (by kernel_rfl) (tn_ ?_)
        rcases cond_some h with ⟨q26, h⟩ | ⟨q26, h⟩
        · refine awp_condT_ q26 (by kernel_rfl) ?_
          refine awp_seq_ ?_
          refine awp_region_ 8 (by kernel_rfl) ?_
          refine rs0 (.bool false) (by kernel_rfl) ?_
          refine rnil (tn_ ?_)
          refine awp_ret_ (tr_ ?_)
          obtain rfl := Option.some.inj h
          exact ret_ [(.bool false)] (by simp) (by kernel_rfl) (p_one rfl (l_sc (by kernel_rfl)) p_nil) (by kernel_rfl) (by kernel_rfl)
        · refine awp_condF_ q26 (by kernel_rfl) ?_
          refine awp_skip_ (tn_ ?_)
          refine awp_seq_ ?_
          refine awp_region_ 8 (by kernel_rfl) ?_
          refine rs0 (.int .i64 1) (by kernel_rfl) ?_
          refine rnil (tn_ ?_)
          refine awp_seq_ ?_
          obtain ⟨y30, h30, h⟩ := ob_some h
          obtain ⟨g31, h⟩ := og_some h
          obtain ⟨g32, h⟩ := og_some h
          refine awp_region_ 12 (by kernel_rfl) ?_
          refine rsl (.agg [(.int .i64 y13.1), (.own (6, 1) (.pair .int (.pair .int (.pair .int .int))) 0 y13.2.1.length), (.own (7, 1) .int 0 y13.2.2.length)]) (by kernel_rfl) ?_
          refine rs0 (.int .i64 1) (by kernel_rfl) ?_
          refine rcallM (.int .i64 y30.2.2) [((0, 0), (6, 1)), ((1, 0), (7, 1))] [(.agg [(.int .i64 y13.1), (.own (6, 1) (.pair .int (.pair .int (.pair .int .int))) 0 y13.2.1.length), (.own (7, 1) .int 0 y13.2.2.length)]), (.int .i64 1)] (caps := []) trivial (by kernel_rfl) (by kernel_rfl) (ok_laws_markCircuit h30 rfl rfl) (by kernel_rfl) (by kernel_rfl) (by kernel_rfl) (by kernel_rfl) (by kernel_rfl) hb_laws_markCircuit ?_
          refine rs0 (.int .i64 y30.2.2) (by kernel_rfl) ?_
          refine rnil (tn_ ?_)
          refine awp_seq_ ?_
          refine awp_seqB h (fun (l34_m69 : Bool) S_ => S_ = ⟨mkTm [(0, (.int .i64 a0)), (2, (.int .i64 a2)), (4, (.box (0, 1) 0)), (8, (.box (1, 1) 0)), (9, (.bool y11.2.2.2)), (11, (.box (2, 1) 0)), (69, (.bool l34_m69))], mkOb (someL [((0, 1), .cells 25 [(.int .i64 a1_0), (.tree (.pair .int (.pair .int (.pair .int .int))) a1_1), (.tree .int a1_2)]), ((1, 1), .cells 31 [(.int .i64 y11.1), (.own (3, 1) (.pair .int (.pair .int (.pair .int .int))) 0 y11.2.1.length), (.own (4, 1) .int 0 y11.2.2.1.length)]), ((2, 1), .cells 31 [(.int .i64 y15.1), (.own (5, 1) (.pair .int (.pair .int (.pair .int .int))) 0 y15.2.1.length), (.own (6, 1) .int 0 y15.2.2.1.length)]), ((3, 1), .arr 51 (.pair .int (.pair .int (.pair .int .int))) y11.2.1), ((4, 1), .arr 3 .int y11.2.2.1), ((5, 1), .arr 51 (.pair .int (.pair .int (.pair .int .int))) y15.2.1), ((6, 1), .arr 3 .int y15.2.2.1)]), 2⟩) ?_ ?_
          · intro v_ h
            rcases cond_some h with ⟨q35, h⟩ | ⟨q35, h⟩
            · have q35_ := of_decide_eq_true q35
              refine awp_region_ 25 (by kernel_rfl) ?_
              refine rs0 (.int .i64 y30.2.2) (by kernel_rfl) ?_
              refine rs0 (.bool (decide (y30.2.2 < 0))) (by kernel_rfl) ?_
              refine rs0 (.bool (decide (y30.2.2 < 0))) (by kernel_rfl) ?_
              refine rs0 (.tup []) (s_skip (by kernel_rfl) q35) ?_
              refine rs0 (.tup []) (s_skip (by kernel_rfl) q35) ?_
              refine rs0 (.tup []) (s_skip (by kernel_rfl) q35) ?_
              refine rs0 (.tup []) (s_skip (by kernel_rfl) q35) ?_
              refine rs0 (.bool true) (s_pickT (by kernel_rfl) q35) ?_
              refine rs0 (.bool true) (by kernel_rfl) ?_
              refine rs0 (.tup []) (by kernel_rfl) ?_
              refine rs0 (.tup []) (by kernel_rfl) ?_
              refine rs0 (.tup []) (by kernel_rfl) ?_
              refine rs0 (.bool true) (by kernel_rfl) ?_
              refine rnil (tn_ ?_)
              obtain rfl := Option.some.inj h
              exact ⟨_, (weak_ren (renF [((3, 1), (4, 1)), ((4, 1), (5, 1)), ((2, 1), (3, 1)), ((5, 1), (8, 1)), ((6, 1), (9, 1))]) (by kernel_rfl) (by kernel_rfl) (by kernel_rfl)), rfl⟩
            · have q35_ := of_decide_eq_false q35
              obtain ⟨y36, h36, h⟩ := ob_some h
              rcases cond_some h with ⟨q37, h⟩ | ⟨q37, h⟩
              · refine awp_region_ 25 (by kernel_rfl) ?_
                refine rs0 (.int .i64 y30.2.2) (by kernel_rfl) ?_
                refine rs0 (.bool (decide (y30.2.2 < 0))) (by kernel_rfl) ?_
                refine rs0 (.bool (decide (y30.2.2 < 0))) (by kernel_rfl) ?_
                refine rsl (.agg [(.int .i64 y15.1), (.own (8, 1) (.pair .int (.pair .int (.pair .int .int))) 0 y15.2.1.length), (.own (9, 1) .int 0 y15.2.2.1.length)]) (s_gd (by kernel_rfl) q35 (by kernel_rfl)) ?_
                refine rsl (.agg [(.int .i64 y11.1), (.own (4, 1) (.pair .int (.pair .int (.pair .int .int))) 0 y11.2.1.length), (.own (5, 1) .int 0 y11.2.2.1.length)]) (s_gd (by kernel_rfl) q35 (by kernel_rfl)) ?_
                refine rcall (.bool y36) [] [(.agg [(.int .i64 y15.1), (.own (8, 1) (.pair .int (.pair .int (.pair .int .int))) 0 y15.2.1.length), (.own (9, 1) .int 0 y15.2.2.1.length)]), (.agg [(.int .i64 y11.1), (.own (4, 1) (.pair .int (.pair .int (.pair .int .int))) 0 y11.2.1.length), (.own (5, 1) .int 0 y11.2.2.1.length)])] _ (caps := []) (args0 := [(.agg [(.int .i64 y15.1), (.tree (.pair .int (.pair .int (.pair .int .int))) y15.2.1), (.tree .int y15.2.2.1)]), (.agg [(.int .i64 y11.1), (.tree (.pair .int (.pair .int (.pair .int .int))) y11.2.1), (.tree .int y11.2.2.1)])]) (gdOK_b (by kernel_rfl) q35) (by kernel_rfl) (by kernel_rfl) (gm_cons (gd_agg (gm_cons (by kernel_rfl) (gm_cons (gd_own (e := 51) (by kernel_rfl) rfl) (gm_cons (gd_own (e := 3) (by kernel_rfl) rfl) gm_nil)))) (gm_cons (gd_agg (gm_cons (by kernel_rfl) (gm_cons (gd_own (e := 51) (by kernel_rfl) rfl) (gm_cons (gd_own (e := 3) (by kernel_rfl) rfl) gm_nil)))) gm_nil)) (by kernel_rfl) (ok_laws_eqCircuit h36) hb_laws_eqCircuit (by kernel_rfl) ?_
                refine rs0 (.bool (!y36)) (s_gd (by kernel_rfl) q35 (by kernel_rfl)) ?_
                refine rs0 (.bool (!y36)) (s_pickF (by kernel_rfl) q35) ?_
                refine rs0 (.bool (!y36)) (by kernel_rfl) ?_
                refine rs0 (.tup []) (s_skip (by kernel_rfl) q37) ?_
                refine rs0 (.tup []) (s_skip (by kernel_rfl) q37) ?_
                refine rs0 (.tup []) (s_skip (by kernel_rfl) q37) ?_
                refine rs0 (.bool true) (s_pickT (by kernel_rfl) q37) ?_
                refine rnil (tn_ ?_)
                obtain rfl := Option.some.inj h
                exact ⟨_, (weak_ren (renF [((3, 1), (4, 1)), ((4, 1), (5, 1)), ((2, 1), (3, 1)), ((5, 1), (8, 1)), ((6, 1), (9, 1))]) (by kernel_rfl) (by kernel_rfl) (by kernel_rfl)), rfl⟩
              · refine awp_region_ 25 (by kernel_rfl) ?_
                refine rs0 (.int .i64 y30.2.2) (by kernel_rfl) ?_
                refine rs0 (.bool (decide (y30.2.2 < 0))) (by kernel_rfl) ?_
                refine rs0 (.bool (decide (y30.2.2 < 0))) (by kernel_rfl) ?_
                refine rsl (.agg [(.int .i64 y15.1), (.own (8, 1) (.pair .int (.pair .int (.pair .int .int))) 0 y15.2.1.length), (.own (9, 1) .int 0 y15.2.2.1.length)]) (s_gd (by kernel_rfl) q35 (by kernel_rfl)) ?_
                refine rsl (.agg [(.int .i64 y11.1), (.own (4, 1) (.pair .int (.pair .int (.pair .int .int))) 0 y11.2.1.length), (.own (5, 1) .int 0 y11.2.2.1.length)]) (s_gd (by kernel_rfl) q35 (by kernel_rfl)) ?_
                refine rcall (.bool y36) [] [(.agg [(.int .i64 y15.1), (.own (8, 1) (.pair .int (.pair .int (.pair .int .int))) 0 y15.2.1.length), (.own (9, 1) .int 0 y15.2.2.1.length)]), (.agg [(.int .i64 y11.1), (.own (4, 1) (.pair .int (.pair .int (.pair .int .int))) 0 y11.2.1.length), (.own (5, 1) .int 0 y11.2.2.1.length)])] _ (caps := []) (args0 := [(.agg [(.int .i64 y15.1), (.tree (.pair .int (.pair .int (.pair .int .int))) y15.2.1), (.tree .int y15.2.2.1)]), (.agg [(.int .i64 y11.1), (.tree (.pair .int (.pair .int (.pair .int .int))) y11.2.1), (.tree .int y11.2.2.1)])]) (gdOK_b (by kernel_rfl) q35) (by kernel_rfl) (by kernel_rfl) (gm_cons (gd_agg (gm_cons (by kernel_rfl) (gm_cons (gd_own (e := 51) (by kernel_rfl) rfl) (gm_cons (gd_own (e := 3) (by kernel_rfl) rfl) gm_nil)))) (gm_cons (gd_agg (gm_cons (by kernel_rfl) (gm_cons (gd_own (e := 51) (by kernel_rfl) rfl) (gm_cons (gd_own (e := 3) (by kernel_rfl) rfl) gm_nil)))) gm_nil)) (by kernel_rfl) (ok_laws_eqCircuit h36) hb_laws_eqCircuit (by kernel_rfl) ?_
                refine rs0 (.bool (!y36)) (s_gd (by kernel_rfl) q35 (by kernel_rfl)) ?_
                refine rs0 (.bool (!y36)) (s_pickF (by kernel_rfl) q35) ?_
                refine rs0 (.bool (!y36)) (by kernel_rfl) ?_
                refine rs0 (.bool y15.2.2.2) (s_gd (by kernel_rfl) q37 (by kernel_rfl)) ?_
                refine rs0 (.bool y11.2.2.2) (s_gd (by kernel_rfl) q37 (by kernel_rfl)) ?_
                refine rs0 (.bool (y15.2.2.2 != y11.2.2.2)) (s_gd (by kernel_rfl) q37 (by kernel_rfl)) ?_
                refine rs0 (.bool (y15.2.2.2 != y11.2.2.2)) (s_pickF (by kernel_rfl) q37) ?_
                refine rnil (tn_ ?_)
                obtain rfl := Option.some.inj h
                exact ⟨_, (weak_ren (renF [((3, 1), (4, 1)), ((4, 1), (5, 1)), ((2, 1), (3, 1)), ((5, 1), (8, 1)), ((6, 1), (9, 1))]) (by kernel_rfl) (by kernel_rfl) (by kernel_rfl)), rfl⟩
          · rintro l34_m69 _ rfl h
            (try dsimp only at h)
            rcases cond_some h with ⟨q38, h⟩ | ⟨q38, h⟩
            · refine awp_condT_ q38 (by kernel_rfl) ?_
              refine awp_seq_ ?_
              refine awp_region_ 3 (by kernel_rfl) ?_
              refine rs0 (.bool false) (by kernel_rfl) ?_
              refine rnil (tn_ ?_)
              refine awp_ret_ (tr_ ?_)
              obtain rfl := Option.some.inj h
              exact ret_ [(.bool false)] (by simp) (by kernel_rfl) (p_one rfl (l_sc (by kernel_rfl)) p_nil) (by kernel_rfl) (by kernel_rfl)
            · refine awp_condF_ q38 (by kernel_rfl) ?_
              refine awp_skip_ (tn_ ?_)
              refine awp_seq_ ?_
              refine awp_region_ 3 (by kernel_rfl) ?_
              refine rs0 (.int .i64 1) (by kernel_rfl) ?_
              refine rnil (tn_ ?_)
              refine awp_seq_ ?_
              obtain ⟨y42, h42, h⟩ := ob_some h
              obtain ⟨g43, h⟩ := og_some h
              obtain ⟨g44, h⟩ := og_some h
              refine awp_region_ 7 (by kernel_rfl) ?_
              refine rsl (.agg [(.int .i64 y15.1), (.own (5, 1) (.pair .int (.pair .int (.pair .int .int))) 0 y15.2.1.length), (.own (6, 1) .int 0 y15.2.2.1.length)]) (by kernel_rfl) ?_
              refine rs0 (.int .i64 1) (by kernel_rfl) ?_
              refine rcallM (.int .i64 y42.2.2) [((0, 0), (5, 1)), ((1, 0), (6, 1))] [(.agg [(.int .i64 y15.1), (.own (5, 1) (.pair .int (.pair .int (.pair .int .int))) 0 y15.2.1.length), (.own (6, 1) .int 0 y15.2.2.1.length)]), (.int .i64 1)] (caps := []) trivial (by kernel_rfl) (by kernel_rfl) (ok_laws_markCircuit h42 rfl rfl) (by kernel_rfl) (by kernel_rfl) (by kernel_rfl) (by kernel_rfl) (by kernel_rfl) hb_laws_markCircuit ?_
              refine rs0 (.int .i64 y42.2.2) (by kernel_rfl) ?_
              refine rnil (tn_ ?_)
              refine awp_seq_ ?_
              refine awp_region_ 8 (by kernel_rfl) ?_
              refine rs0 (.int .i64 1) (by kernel_rfl) ?_
              refine rnil (tn_ ?_)
              refine awp_seq_ ?_
              obtain ⟨y47, h47, h⟩ := ob_some h
              refine awp_region_ 12 (by kernel_rfl) ?_
              refine rsl (.agg [(.int .i64 y15.1), (.own (5, 1) (.pair .int (.pair .int (.pair .int .int))) 0 y15.2.1.length), (.own (6, 1) .int 0 y15.2.2.1.length)]) (by kernel_rfl) ?_
              refine rs0 (.int .i64 1) (by kernel_rfl) ?_
              refine rcall (.int .i64 y47) [] [(.agg [(.int .i64 y15.1), (.own (5, 1) (.pair .int (.pair .int (.pair .int .int))) 0 y15.2.1.length), (.own (6, 1) .int 0 y15.2.2.1.length)]), (.int .i64 1)] _ (caps := []) (args0 := [(.agg [(.int .i64 y15.1), (.tree (.pair .int (.pair .int (.pair .int .int))) y42.1), (.tree .int y42.2.1)]), (.int .i64 1)]) trivial (by kernel_rfl) (by kernel_rfl) (gm_cons (gd_agg (gm_cons (by kernel_rfl) (gm_cons (gd_own (e := 51) (by kernel_rfl) g43.symm) (gm_cons (gd_own (e := 3) (by kernel_rfl) g44.symm) gm_nil)))) (gm_cons (by kernel_rfl) gm_nil)) (by kernel_rfl) (ok_laws_heldCircuit h47) hb_laws_heldCircuit (by kernel_rfl) ?_
              refine rs0 (.int .i64 y47) (by kernel_rfl) ?_
              refine rnil (tn_ ?_)
              refine awp_seq_ ?_
              refine awp_seq_ ?_
              refine awp_region_ 14 (by kernel_rfl) ?_
              refine rs0 (.int .i64 y47) (by kernel_rfl) ?_
              refine rs0 (.bool (decide (y47 < 0))) (by kernel_rfl) ?_
              refine rnil (tn_ ?_)
              rcases cond_some h with ⟨q50, h⟩ | ⟨q50, h⟩
              · have q50_ := of_decide_eq_true q50
                refine awp_condT_ q50 (by kernel_rfl) ?_
                refine awp_seq_ ?_
                refine awp_region_ 15 (by kernel_rfl) ?_
                refine rs0 (.bool false) (by kernel_rfl) ?_
                refine rnil (tn_ ?_)
                refine awp_ret_ (tr_ ?_)
                obtain rfl := Option.some.inj h
                exact ret_ [(.bool false)] (by simp) (by kernel_rfl) (p_one rfl (l_sc (by kernel_rfl)) p_nil) (by kernel_rfl) (by kernel_rfl)
              · have q50_ := of_decide_eq_false q50
                refine awp_condF_ q50 (by kernel_rfl) ?_
                refine awp_skip_ (tn_ ?_)
                refine awp_seq_ ?_
                refine awp_seq_ ?_
                refine awp_region_ 17 (by kernel_rfl) ?_
                refine rs0 (.int .i64 y47) (by kernel_rfl) ?_
                refine rs0 (.int .i64 y42.2.2) (by kernel_rfl) ?_
                refine rs0 (.bool (y47 != y42.2.2)) (by kernel_rfl) ?_
                refine rnil (tn_ ?_)
                rcases cond_some h with ⟨q54, h⟩ | ⟨q54, h⟩
                · refine awp_condT_ q54 (by kernel_rfl) ?_
                  refine awp_seq_ ?_
                  refine awp_region_ 18 (by kernel_rfl) ?_
                  refine rs0 (.bool false) (by kernel_rfl) ?_
                  refine rnil (tn_ ?_)
                  refine awp_ret_ (tr_ ?_)
                  obtain rfl := Option.some.inj h
                  exact ret_ [(.bool false)] (by simp) (by kernel_rfl) (p_one rfl (l_sc (by kernel_rfl)) p_nil) (by kernel_rfl) (by kernel_rfl)
                · refine awp_condF_ q54 (by kernel_rfl) ?_
                  refine awp_skip_ (tn_ ?_)
                  refine awp_seq_ ?_
                  obtain ⟨y57, h57, h⟩ := ob_some h
                  obtain ⟨y58, h58, h⟩ := ob_some h
                  refine awp_region_ 28 (by kernel_rfl) ?_
                  refine rs0 (.int .i64 a0) (by kernel_rfl) ?_
                  refine rsl (.agg [(.int .i64 a1_0), (.tree (.pair .int (.pair .int (.pair .int .int))) a1_1), (.tree .int a1_2)]) (by kernel_rfl) ?_
                  refine rcall (.agg [(.int .i64 y57.1), (.own (1344, 19) (.pair .int (.pair .int (.pair .int .int))) 0 y57.2.1.length), (.own (1345, 19) .int 0 y57.2.2.length)]) [((1344, 19), some (.arr 51 (.pair .int (.pair .int (.pair .int .int))) y57.2.1)), ((1345, 19), some (.arr 3 .int y57.2.2))] [(.agg [(.int .i64 a1_0), (.tree (.pair .int (.pair .int (.pair .int .int))) a1_1), (.tree .int a1_2)])] _ (caps := []) (args0 := [(.agg [(.int .i64 a1_0), (.tree (.pair .int (.pair .int (.pair .int .int))) a1_1), (.tree .int a1_2)])]) trivial (by kernel_rfl) (by kernel_rfl) (by kernel_rfl) (by kernel_rfl) (ok_laws_toCircuit h57) hb_laws_toCircuit (by kernel_rfl) ?_
                  refine rs0 (.int .i64 a2) (by kernel_rfl) ?_
                  refine rcall (.tup [(.agg [(.int .i64 y58.1), (.own (1376, 21) (.pair .int (.pair .int (.pair .int .int))) 0 y58.2.1.length), (.own (1377, 21) .int 0 y58.2.2.1.length)]), (.bool y58.2.2.2)]) [((1376, 21), some (.arr 51 (.pair .int (.pair .int (.pair .int .int))) y58.2.1)), ((1377, 21), some (.arr 3 .int y58.2.2.1))] [(.int .i64 a0), (.agg [(.int .i64 y57.1), (.own (1344, 19) (.pair .int (.pair .int (.pair .int .int))) 0 y57.2.1.length), (.own (1345, 19) .int 0 y57.2.2.length)]), (.int .i64 a2)] _ (caps := []) (args0 := [(.int .i64 a0), (.agg [(.int .i64 y57.1), (.tree (.pair .int (.pair .int (.pair .int .int))) y57.2.1), (.tree .int y57.2.2)]), (.int .i64 a2)]) trivial (by kernel_rfl) (by kernel_rfl) (gm_cons (by kernel_rfl) (gm_cons (gd_agg (gm_cons (by kernel_rfl) (gm_cons (gd_own (e := 51) (by kernel_rfl) rfl) (gm_cons (gd_own (e := 3) (by kernel_rfl) rfl) gm_nil)))) (gm_cons (by kernel_rfl) gm_nil))) (by kernel_rfl) (ok_impl_FeedbackOf h58) hb_impl_FeedbackOf (by kernel_rfl) ?_
                  refine rs0 (.tup [(.agg [(.int .i64 y58.1), (.own (1376, 21) (.pair .int (.pair .int (.pair .int .int))) 0 y58.2.1.length), (.own (1377, 21) .int 0 y58.2.2.1.length)]), (.bool y58.2.2.2)]) (by kernel_rfl) ?_
                  refine rs0 (.agg [(.int .i64 y58.1), (.own (1376, 21) (.pair .int (.pair .int (.pair .int .int))) 0 y58.2.1.length), (.own (1377, 21) .int 0 y58.2.2.1.length)]) (by kernel_rfl) ?_
                  refine rs0 (.bool y58.2.2.2) (by kernel_rfl) ?_
                  refine rs1 (.box (16, 25) 0) (16, 25) (.cells 31 [(.int .i64 0), .nils, .nils]) (by kernel_rfl) ?_
                  refine rsn2 (16, 25) (16, 25) (.cells 31 [(.int .i64 y58.1), (.own (1376, 21) (.pair .int (.pair .int (.pair .int .int))) 0 y58.2.1.length), (.own (1377, 21) .int 0 y58.2.2.1.length)]) (by kernel_rfl) ?_
                  refine rs0 (.bool y58.2.2.2) (by kernel_rfl) ?_
                  refine rnil (tn_ ?_)
                  refine awp_seq_ ?_
                  refine awp_seqB h (fun (l60_m97 : Bool) S_ => S_ = ⟨mkTm [(11, (.box (0, 1) 0)), (14, (.int .i64 y42.2.2)), (97, (.bool l60_m97))], mkOb (someL [((0, 1), .cells 31 [(.int .i64 y15.1), (.own (1, 1) (.pair .int (.pair .int (.pair .int .int))) 0 y42.1.length), (.own (2, 1) .int 0 y42.2.1.length)]), ((1, 1), .arr 51 (.pair .int (.pair .int (.pair .int .int))) y42.1), ((2, 1), .arr 3 .int y42.2.1)]), 2⟩) ?_ ?_
                  · intro v_ h
                    obtain ⟨y61, h61, h⟩ := ob_some h
                    rcases cond_some h with ⟨q62, h⟩ | ⟨q62, h⟩
                    · refine awp_region_ 37 (by kernel_rfl) ?_
                      refine rsl (.agg [(.int .i64 y58.1), (.own (1376, 21) (.pair .int (.pair .int (.pair .int .int))) 0 y58.2.1.length), (.own (1377, 21) .int 0 y58.2.2.1.length)]) (by kernel_rfl) ?_
                      refine rsl (.agg [(.int .i64 y11.1), (.own (3, 1) (.pair .int (.pair .int (.pair .int .int))) 0 y11.2.1.length), (.own (4, 1) .int 0 y11.2.2.1.length)]) (by kernel_rfl) ?_
                      refine rcall (.bool y61) [] [(.agg [(.int .i64 y58.1), (.own (1376, 21) (.pair .int (.pair .int (.pair .int .int))) 0 y58.2.1.length), (.own (1377, 21) .int 0 y58.2.2.1.length)]), (.agg [(.int .i64 y11.1), (.own (3, 1) (.pair .int (.pair .int (.pair .int .int))) 0 y11.2.1.length), (.own (4, 1) .int 0 y11.2.2.1.length)])] _ (caps := []) (args0 := [(.agg [(.int .i64 y58.1), (.tree (.pair .int (.pair .int (.pair .int .int))) y58.2.1), (.tree .int y58.2.2.1)]), (.agg [(.int .i64 y11.1), (.tree (.pair .int (.pair .int (.pair .int .int))) y11.2.1), (.tree .int y11.2.2.1)])]) trivial (by kernel_rfl) (by kernel_rfl) (gm_cons (gd_agg (gm_cons (by kernel_rfl) (gm_cons (gd_own (e := 51) (by kernel_rfl) rfl) (gm_cons (gd_own (e := 3) (by kernel_rfl) rfl) gm_nil)))) (gm_cons (gd_agg (gm_cons (by kernel_rfl) (gm_cons (gd_own (e := 51) (by kernel_rfl) rfl) (gm_cons (gd_own (e := 3) (by kernel_rfl) rfl) gm_nil)))) gm_nil)) (by kernel_rfl) (ok_laws_eqCircuit h61) hb_laws_eqCircuit (by kernel_rfl) ?_
                      refine rs0 (.bool (!y61)) (by kernel_rfl) ?_
                      refine rs0 (.bool (!y61)) (by kernel_rfl) ?_
                      refine rs0 (.tup []) (s_skip (by kernel_rfl) q62) ?_
                      refine rs0 (.tup []) (s_skip (by kernel_rfl) q62) ?_
                      refine rs0 (.tup []) (s_skip (by kernel_rfl) q62) ?_
                      refine rs0 (.bool true) (s_pickT (by kernel_rfl) q62) ?_
                      refine rnil (tn_ ?_)
                      obtain rfl := Option.some.inj h
                      exact ⟨_, ((weak_ob_ (2, 1) (.cells 31 [(.int .i64 y15.1), (.own (5, 1) (.pair .int (.pair .int (.pair .int .int))) 0 y15.2.1.length), (.own (6, 1) .int 0 y15.2.2.1.length)]) (.cells 31 [(.int .i64 y15.1), (.own (5, 1) (.pair .int (.pair .int (.pair .int .int))) 0 y42.1.length), (.own (6, 1) .int 0 y15.2.2.1.length)]) (by kernel_rfl) (congrArg (fun z_ => (.cells 31 [(.int .i64 y15.1), (.own (5, 1) (.pair .int (.pair .int (.pair .int .int))) 0 z_), (.own (6, 1) .int 0 y15.2.2.1.length)] : Ob)) (g43.symm : y15.2.1.length = y42.1.length))).trans ((weak_ob_ (2, 1) (.cells 31 [(.int .i64 y15.1), (.own (5, 1) (.pair .int (.pair .int (.pair .int .int))) 0 y42.1.length), (.own (6, 1) .int 0 y15.2.2.1.length)]) (.cells 31 [(.int .i64 y15.1), (.own (5, 1) (.pair .int (.pair .int (.pair .int .int))) 0 y42.1.length), (.own (6, 1) .int 0 y42.2.1.length)]) (by kernel_rfl) (congrArg (fun z_ => (.cells 31 [(.int .i64 y15.1), (.own (5, 1) (.pair .int (.pair .int (.pair .int .int))) 0 y42.1.length), (.own (6, 1) .int 0 z_)] : Ob)) (g44.symm : y15.2.2.1.length = y42.2.1.length))).trans (weak_ren (renF [((0, 1), (2, 1)), ((1, 1), (5, 1)), ((2, 1), (6, 1))]) (by kernel_rfl) (by kernel_rfl) (by kernel_rfl)))), rfl⟩
                    · refine awp_region_ 37 (by kernel_rfl) ?_
                      refine rsl (.agg [(.int .i64 y58.1), (.own (1376, 21) (.pair .int (.pair .int (.pair .int .int))) 0 y58.2.1.length), (.own (1377, 21) .int 0 y58.2.2.1.length)]) (by kernel_rfl) ?_
                      refine rsl (.agg [(.int .i64 y11.1), (.own (3, 1) (.pair .int (.pair .int (.pair .int .int))) 0 y11.2.1.length), (.own (4, 1) .int 0 y11.2.2.1.length)]) (by kernel_rfl) ?_
                      refine rcall (.bool y61) [] [(.agg [(.int .i64 y58.1), (.own (1376, 21) (.pair .int (.pair .int (.pair .int .int))) 0 y58.2.1.length), (.own (1377, 21) .int 0 y58.2.2.1.length)]), (.agg [(.int .i64 y11.1), (.own (3, 1) (.pair .int (.pair .int (.pair .int .int))) 0 y11.2.1.length), (.own (4, 1) .int 0 y11.2.2.1.length)])] _ (caps := []) (args0 := [(.agg [(.int .i64 y58.1), (.tree (.pair .int (.pair .int (.pair .int .int))) y58.2.1), (.tree .int y58.2.2.1)]), (.agg [(.int .i64 y11.1), (.tree (.pair .int (.pair .int (.pair .int .int))) y11.2.1), (.tree .int y11.2.2.1)])]) trivial (by kernel_rfl) (by kernel_rfl) (gm_cons (gd_agg (gm_cons (by kernel_rfl) (gm_cons (gd_own (e := 51) (by kernel_rfl) rfl) (gm_cons (gd_own (e := 3) (by kernel_rfl) rfl) gm_nil)))) (gm_cons (gd_agg (gm_cons (by kernel_rfl) (gm_cons (gd_own (e := 51) (by kernel_rfl) rfl) (gm_cons (gd_own (e := 3) (by kernel_rfl) rfl) gm_nil)))) gm_nil)) (by kernel_rfl) (ok_laws_eqCircuit h61) hb_laws_eqCircuit (by kernel_rfl) ?_
                      refine rs0 (.bool (!y61)) (by kernel_rfl) ?_
                      refine rs0 (.bool (!y61)) (by kernel_rfl) ?_
                      refine rs0 (.bool y58.2.2.2) (s_gd (by kernel_rfl) q62 (by kernel_rfl)) ?_
                      refine rs0 (.bool y11.2.2.2) (s_gd (by kernel_rfl) q62 (by kernel_rfl)) ?_
                      refine rs0 (.bool (y58.2.2.2 != y11.2.2.2)) (s_gd (by kernel_rfl) q62 (by kernel_rfl)) ?_
                      refine rs0 (.bool (y58.2.2.2 != y11.2.2.2)) (s_pickF (by kernel_rfl) q62) ?_
                      refine rnil (tn_ ?_)
                      obtain rfl := Option.some.inj h
                      exact ⟨_, ((weak_ob_ (2, 1) (.cells 31 [(.int .i64 y15.1), (.own (5, 1) (.pair .int (.pair .int (.pair .int .int))) 0 y15.2.1.length), (.own (6, 1) .int 0 y15.2.2.1.length)]) (.cells 31 [(.int .i64 y15.1), (.own (5, 1) (.pair .int (.pair .int (.pair .int .int))) 0 y42.1.length), (.own (6, 1) .int 0 y15.2.2.1.length)]) (by kernel_rfl) (congrArg (fun z_ => (.cells 31 [(.int .i64 y15.1), (.own (5, 1) (.pair .int (.pair .int (.pair .int .int))) 0 z_), (.own (6, 1) .int 0 y15.2.2.1.length)] : Ob)) (g43.symm : y15.2.1.length = y42.1.length))).trans ((weak_ob_ (2, 1) (.cells 31 [(.int .i64 y15.1), (.own (5, 1) (.pair .int (.pair .int (.pair .int .int))) 0 y42.1.length), (.own (6, 1) .int 0 y15.2.2.1.length)]) (.cells 31 [(.int .i64 y15.1), (.own (5, 1) (.pair .int (.pair .int (.pair .int .int))) 0 y42.1.length), (.own (6, 1) .int 0 y42.2.1.length)]) (by kernel_rfl) (congrArg (fun z_ => (.cells 31 [(.int .i64 y15.1), (.own (5, 1) (.pair .int (.pair .int (.pair .int .int))) 0 y42.1.length), (.own (6, 1) .int 0 z_)] : Ob)) (g44.symm : y15.2.2.1.length = y42.2.1.length))).trans (weak_ren (renF [((0, 1), (2, 1)), ((1, 1), (5, 1)), ((2, 1), (6, 1))]) (by kernel_rfl) (by kernel_rfl) (by kernel_rfl)))), rfl⟩
                  · rintro l60_m97 _ rfl h
                    (try dsimp only at h)
                    rcases cond_some h with ⟨q63, h⟩ | ⟨q63, h⟩
                    · refine awp_condT_ q63 (by kernel_rfl) ?_
                      refine awp_seq_ ?_
                      refine awp_region_ 3 (by kernel_rfl) ?_
                      refine rs0 (.bool false) (by kernel_rfl) ?_
                      refine rnil (tn_ ?_)
                      refine awp_ret_ (tr_ ?_)
                      obtain rfl := Option.some.inj h
                      exact ret_ [(.bool false)] (by simp) (by kernel_rfl) (p_one rfl (l_sc (by kernel_rfl)) p_nil) (by kernel_rfl) (by kernel_rfl)
                    · refine awp_condF_ q63 (by kernel_rfl) ?_
                      refine awp_skip_ (tn_ ?_)
                      refine awp_seq_ ?_
                      refine awp_region_ 3 (by kernel_rfl) ?_
                      refine rs0 (.int .i64 1) (by kernel_rfl) ?_
                      refine rnil (tn_ ?_)
                      refine awp_seq_ ?_
                      obtain ⟨y67, h67, h⟩ := ob_some h
                      refine awp_region_ 7 (by kernel_rfl) ?_
                      refine rsl (.agg [(.int .i64 y15.1), (.own (1, 1) (.pair .int (.pair .int (.pair .int .int))) 0 y42.1.length), (.own (2, 1) .int 0 y42.2.1.length)]) (by kernel_rfl) ?_
                      refine rs0 (.int .i64 1) (by kernel_rfl) ?_
                      refine rcall (.int .i64 y67) [] [(.agg [(.int .i64 y15.1), (.own (1, 1) (.pair .int (.pair .int (.pair .int .int))) 0 y42.1.length), (.own (2, 1) .int 0 y42.2.1.length)]), (.int .i64 1)] _ (caps := []) (args0 := [(.agg [(.int .i64 y15.1), (.tree (.pair .int (.pair .int (.pair .int .int))) y42.1), (.tree .int y42.2.1)]), (.int .i64 1)]) trivial (by kernel_rfl) (by kernel_rfl) (gm_cons (gd_agg (gm_cons (by kernel_rfl) (gm_cons (gd_own (e := 51) (by kernel_rfl) rfl) (gm_cons (gd_own (e := 3) (by kernel_rfl) rfl) gm_nil)))) (gm_cons (by kernel_rfl) gm_nil)) (by kernel_rfl) (ok_laws_heldCircuit h67) hb_laws_heldCircuit (by kernel_rfl) ?_
                      refine rs0 (.int .i64 y67) (by kernel_rfl) ?_
                      refine rnil (tn_ ?_)
                      refine awp_seq_ ?_
                      refine awp_seq_ ?_
                      refine awp_region_ 9 (by kernel_rfl) ?_
                      refine rs0 (.int .i64 y67) (by kernel_rfl) ?_
                      refine rs0 (.bool (decide (y67 < 0))) (by kernel_rfl) ?_
                      refine rnil (tn_ ?_)
                      rcases cond_some h with ⟨q70, h⟩ | ⟨q70, h⟩
                      · have q70_ := of_decide_eq_true q70
                        refine awp_condT_ q70 (by kernel_rfl) ?_
                        refine awp_seq_ ?_
                        refine awp_region_ 10 (by kernel_rfl) ?_
                        refine rs0 (.bool false) (by kernel_rfl) ?_
                        refine rnil (tn_ ?_)
                        refine awp_ret_ (tr_ ?_)
                        obtain rfl := Option.some.inj h
                        exact ret_ [(.bool false)] (by simp) (by kernel_rfl) (p_one rfl (l_sc (by kernel_rfl)) p_nil) (by kernel_rfl) (by kernel_rfl)
                      · have q70_ := of_decide_eq_false q70
                        refine awp_condF_ q70 (by kernel_rfl) ?_
                        refine awp_skip_ (tn_ ?_)
                        refine awp_seq_ ?_
                        refine awp_seq_ ?_
                        refine awp_region_ 12 (by kernel_rfl) ?_
                        refine rs0 (.int .i64 y67) (by kernel_rfl) ?_
                        refine rs0 (.int .i64 y42.2.2) (by kernel_rfl) ?_
                        refine rs0 (.bool (y67 != y42.2.2)) (by kernel_rfl) ?_
                        refine rnil (tn_ ?_)
                        rcases cond_some h with ⟨q74, h⟩ | ⟨q74, h⟩
                        · refine awp_condT_ q74 (by kernel_rfl) ?_
                          refine awp_seq_ ?_
                          refine awp_region_ 13 (by kernel_rfl) ?_
                          refine rs0 (.bool false) (by kernel_rfl) ?_
                          refine rnil (tn_ ?_)
                          refine awp_ret_ (tr_ ?_)
                          obtain rfl := Option.some.inj h
                          exact ret_ [(.bool false)] (by simp) (by kernel_rfl) (p_one rfl (l_sc (by kernel_rfl)) p_nil) (by kernel_rfl) (by kernel_rfl)
                        · refine awp_condF_ q74 (by kernel_rfl) ?_
                          refine awp_skip_ (tn_ ?_)
                          refine awp_seq_ ?_
                          refine awp_region_ 13 (by kernel_rfl) ?_
                          refine rs0 (.bool true) (by kernel_rfl) ?_
                          refine rnil (tn_ ?_)
                          refine awp_ret_ ?_
                          obtain rfl := Option.some.inj h
                          exact ret_ [(.bool true)] (by simp) (by kernel_rfl) (p_one rfl (l_sc (by kernel_rfl)) p_nil) (by kernel_rfl) (by kernel_rfl)
end Go.Proofs.YthjdknddcceigaaDoor
