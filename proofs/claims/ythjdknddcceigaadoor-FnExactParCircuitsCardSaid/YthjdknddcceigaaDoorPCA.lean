/- Partial functions in place of code, and that the code does what they say: PCA. No condition. -/
import Derived.Test.YthjdknddcceigaaDoorB3
namespace Go.Proofs.YthjdknddcceigaaDoor
open Go.RowKit Go.Deep
set_option maxRecDepth 4000
def m_spec_crMoved : AC :=
  (.seq (.region [⟨(some 2), none, (.i (.box 51 (.tmp 0)))⟩, ⟨(some 4), none, (.i (.alloc 51 [(.int .i64 0), (.int .i64 0), (.int .i64 0), (.int .i64 0)]))⟩] false [])
  (.seq (.seq (.region [⟨(some 5), none, (.i (.fld 0 (.tmp 2)))⟩, ⟨(some 6), none, (.i (.ld true 1 (.tmp 5)))⟩] false [])
  (.block 0 (.seq (.region [⟨(some 8), none, (.i (.bin .eql (.tmp 6) (.cst (.int .i64 3))))⟩, ⟨(some 7), none, (.i (.mov (.tmp 8)))⟩] false [])
  (.cond (.tmp 7)
    (.seq (.region [⟨(some 9), none, (.i (.mov (.tmp 1)))⟩, ⟨(some 10), none, (.i (.fld 1 (.tmp 2)))⟩, ⟨(some 11), none, (.i (.ld true 1 (.tmp 10)))⟩, ⟨(some 12), none, (.i (.idx 1 (.tmp 9) (.tmp 11)))⟩, ⟨(some 13), none, (.i (.ld true 1 (.tmp 12)))⟩, ⟨(some 14), none, (.i (.fld 1 (.tmp 2)))⟩, ⟨none, none, (.st true 1 (.tmp 14) (.tmp 13))⟩] false [])
    (.region [⟨(some 15), none, (.i (.mov (.tmp 1)))⟩, ⟨(some 16), none, (.i (.fld 2 (.tmp 2)))⟩, ⟨(some 17), none, (.i (.ld true 1 (.tmp 16)))⟩, ⟨(some 18), none, (.i (.idx 1 (.tmp 15) (.tmp 17)))⟩, ⟨(some 19), none, (.i (.ld true 1 (.tmp 18)))⟩, ⟨(some 20), none, (.i (.fld 2 (.tmp 2)))⟩, ⟨none, none, (.st true 1 (.tmp 20) (.tmp 19))⟩] false []))
    (.seq (.seq (.region [⟨(some 22), none, (.i (.bin .eql (.tmp 6) (.cst (.int .i64 4))))⟩, ⟨(some 21), none, (.i (.mov (.tmp 22)))⟩] false [])
    (.cond (.tmp 21)
      .skip
      (.region [⟨(some 23), none, (.i (.bin .eql (.tmp 6) (.cst (.int .i64 5))))⟩, ⟨(some 21), none, (.i (.mov (.tmp 23)))⟩] false [])))
    (.cond (.tmp 21)
      (.region [⟨(some 24), none, (.i (.mov (.tmp 1)))⟩, ⟨(some 25), none, (.i (.fld 1 (.tmp 2)))⟩, ⟨(some 26), none, (.i (.ld true 1 (.tmp 25)))⟩, ⟨(some 27), none, (.i (.idx 1 (.tmp 24) (.tmp 26)))⟩, ⟨(some 28), none, (.i (.ld true 1 (.tmp 27)))⟩, ⟨(some 29), none, (.i (.fld 1 (.tmp 2)))⟩, ⟨none, none, (.st true 1 (.tmp 29) (.tmp 28))⟩] false [])
      .skip))))))
  (.seq (.region [⟨(some 30), none, (.i (.ld false 4 (.tmp 2)))⟩, ⟨none, none, (.st false 4 (.tmp 4) (.tmp 30))⟩] false [])
  .ret)))
def r_spec_crMoved : List Res := [.cell 4 false 4]
theorem c_spec_crMoved : compiled Tryd.prog Tryd.f87 = some (m_spec_crMoved, r_spec_crMoved) := by kernel_rfl
theorem hb_spec_crMoved : hasBody Tryd.prog 87 = true := by kernel_rfl
def L_spec_crMoved (a0_0 : Int) (a0_1 : Int) (a0_2 : Int) (a0_3 : Int) (a1 : List Int) : Option (Int × Int × Int × Int) :=
  Option.bind (cond (a0_0 == 3)
    (Option.bind (getI a1 a0_1) fun x7 =>
    Option.bind (getI a1 a0_2) fun x8 =>
    some (x7, x8))
    (Option.bind (cond (a0_0 == 4)
        (some (a0_0 == 4))
        (some (a0_0 == 5))) fun l9_m21 =>
    cond l9_m21
      (Option.bind (getI a1 a0_1) fun x13 =>
      some (x13, a0_2))
      (some (a0_1, a0_2)))) fun (l2_m2_1, l2_m2_2) =>
some (a0_0, l2_m2_1, l2_m2_2, a0_3)
def rv_spec_crMoved (r : Int × Int × Int × Int) : RV := ⟨false, [(true, [.sc (.int .i64 r.1), .sc (.int .i64 r.2.1), .sc (.int .i64 r.2.2.1), .sc (.int .i64 r.2.2.2)])]⟩
theorem ok_spec_crMoved {a0_0 : Int} {a0_1 : Int} {a0_2 : Int} {a0_3 : Int} {a1 : List Int} {r : Int × Int × Int × Int} (h : L_spec_crMoved a0_0 a0_1 a0_2 a0_3 a1 = some r) : CallOK Tryd.prog Tab 87 [(.agg [(.int .i64 a0_0), (.int .i64 a0_1), (.int .i64 a0_2), (.int .i64 a0_3)]), (.tree .int a1)] (rv_spec_crMoved r) := by
  refine call_of_ (by kernel_rfl) Tryd.func87 c_spec_crMoved (n := 31) (by kernel_rfl) (by simp) (tl := [(0, (.agg [(.int .i64 a0_0), (.int .i64 a0_1), (.int .i64 a0_2), (.int .i64 a0_3)])), (1, (.tree .int a1))]) rfl ?_
  unfold m_spec_crMoved
  unfold L_spec_crMoved at h
  refine awp_seq_ ?_
  refine awp_region_ 3 (by kernel_rfl) ?_
  refine rs1 (.box (2, 1) 0) (2, 1) (.cells 51 [(.int .i64 a0_0), (.int .i64 a0_1), (.int .i64 a0_2), (.int .i64 a0_3)]) (by kernel_rfl) ?_
  refine rs1 (.box (4, 2) 0) (4, 2) (.cells 51 [(.int .i64 0), (.int .i64 0), (.int .i64 0), (.int .i64 0)]) (by kernel_rfl) ?_
  refine rnil (tn_ ?_)
  refine awp_seqB h (fun t_ S_ => ∃ (l2_m2_1 : Int), ∃ (l2_m2_2 : Int), t_ = (l2_m2_1, l2_m2_2) ∧ S_ = ⟨mkTm [(2, (.box (0, 1) 0)), (4, (.box (1, 1) 0))], mkOb (someL [((0, 1), .cells 51 [(.int .i64 a0_0), (.int .i64 l2_m2_1), (.int .i64 l2_m2_2), (.int .i64 a0_3)]), ((1, 1), .cells 51 [(.int .i64 0), (.int .i64 0), (.int .i64 0), (.int .i64 0)])]), 2⟩) ?_ ?_
  · intro v_ h
    refine awp_seq_ ?_
    refine awp_region_ 5 (by kernel_rfl) ?_
    refine rs0 (.box (2, 1) 0) (by kernel_rfl) ?_
    refine rsl (.int .i64 a0_0) (by kernel_rfl) ?_
    refine rnil (tn_ ?_)
    refine awp_block_ ?_
    refine awp_seq_ ?_
    refine awp_region_ 7 (by kernel_rfl) ?_
    refine rs0 (.bool (a0_0 == 3)) (by kernel_rfl) ?_
    refine rs0 (.bool (a0_0 == 3)) (by kernel_rfl) ?_
    refine rnil (tn_ ?_)
    rcases cond_some h with ⟨q5, h⟩ | ⟨q5, h⟩
    · refine awp_condT_ q5 (by kernel_rfl) ?_
      refine awp_seq_ ?_
      obtain ⟨x7, f7, h⟩ := ob_some h
      obtain ⟨p7, b7, e7⟩ := getI_some f7
      refine awp_region_ 14 (by kernel_rfl) ?_
      refine rs0 (.tree .int a1) (by kernel_rfl) ?_
      refine rs0 (.box (2, 1) 1) (by kernel_rfl) ?_
      refine rsl (.int .i64 a0_1) (by kernel_rfl) ?_
      refine rs0 (.telt .int x7 0) (s_idxT (t := .int) (xs := a1) (k := .i64) (m := a0_1) (by kernel_rfl) (by kernel_rfl) rfl p7 rfl e7) ?_
      refine rs0 (.int .i64 x7) (by kernel_rfl) ?_
      refine rs0 (.box (2, 1) 1) (by kernel_rfl) ?_
      refine rsn2 (2, 1) (2, 1) (.cells 51 [(.int .i64 a0_0), (.int .i64 x7), (.int .i64 a0_2), (.int .i64 a0_3)]) (by kernel_rfl) ?_
      refine rnil (tn_ ?_)
      obtain ⟨x8, f8, h⟩ := ob_some h
      obtain ⟨p8, b8, e8⟩ := getI_some f8
      refine awp_region_ 21 (by kernel_rfl) ?_
      refine rs0 (.tree .int a1) (by kernel_rfl) ?_
      refine rs0 (.box (2, 1) 2) (by kernel_rfl) ?_
      refine rsl (.int .i64 a0_2) (by kernel_rfl) ?_
      refine rs0 (.telt .int x8 0) (s_idxT (t := .int) (xs := a1) (k := .i64) (m := a0_2) (by kernel_rfl) (by kernel_rfl) rfl p8 rfl e8) ?_
      refine rs0 (.int .i64 x8) (by kernel_rfl) ?_
      refine rs0 (.box (2, 1) 2) (by kernel_rfl) ?_
      refine rsn2 (2, 1) (2, 1) (.cells 51 [(.int .i64 a0_0), (.int .i64 x7), (.int .i64 x8), (.int .i64 a0_3)]) (by kernel_rfl) ?_
      refine rnil (bn_ (tn_ ?_))
      obtain rfl := Option.some.inj h
      exact ⟨_, (weak_ren (renF [((0, 1), (2, 1)), ((1, 1), (4, 2))]) (by kernel_rfl) (by kernel_rfl) (by kernel_rfl)), ⟨x7, x8, rfl, rfl⟩⟩
    · refine awp_condF_ q5 (by kernel_rfl) ?_
      refine awp_seqB h (fun (l9_m21 : Bool) S_ => S_ = ⟨mkTm [(1, (.tree .int a1)), (2, (.box (0, 1) 0)), (4, (.box (1, 1) 0)), (21, (.bool l9_m21))], mkOb (someL [((0, 1), .cells 51 [(.int .i64 a0_0), (.int .i64 a0_1), (.int .i64 a0_2), (.int .i64 a0_3)]), ((1, 1), .cells 51 [(.int .i64 0), (.int .i64 0), (.int .i64 0), (.int .i64 0)])]), 2⟩) ?_ ?_
      · intro v_ h
        refine awp_seq_ ?_
        refine awp_region_ 9 (by kernel_rfl) ?_
        refine rs0 (.bool (a0_0 == 4)) (by kernel_rfl) ?_
        refine rs0 (.bool (a0_0 == 4)) (by kernel_rfl) ?_
        refine rnil (tn_ ?_)
        rcases cond_some h with ⟨q11, h⟩ | ⟨q11, h⟩
        · refine awp_condT_ q11 (by kernel_rfl) ?_
          refine awp_skip_ (tn_ ?_)
          obtain rfl := Option.some.inj h
          exact ⟨_, (weak_ren (renF [((0, 1), (2, 1)), ((1, 1), (4, 2))]) (by kernel_rfl) (by kernel_rfl) (by kernel_rfl)), rfl⟩
        · refine awp_condF_ q11 (by kernel_rfl) ?_
          refine awp_region_ 11 (by kernel_rfl) ?_
          refine rs0 (.bool (a0_0 == 5)) (by kernel_rfl) ?_
          refine rs0 (.bool (a0_0 == 5)) (by kernel_rfl) ?_
          refine rnil (tn_ ?_)
          obtain rfl := Option.some.inj h
          exact ⟨_, (weak_ren (renF [((0, 1), (2, 1)), ((1, 1), (4, 2))]) (by kernel_rfl) (by kernel_rfl) (by kernel_rfl)), rfl⟩
      · rintro l9_m21 _ rfl h
        (try dsimp only at h)
        rcases cond_some h with ⟨q12, h⟩ | ⟨q12, h⟩
        · refine awp_condT_ q12 (by kernel_rfl) ?_
          obtain ⟨x13, f13, h⟩ := ob_some h
          obtain ⟨p13, b13, e13⟩ := getI_some f13
          refine awp_region_ 9 (by kernel_rfl) ?_
          refine rs0 (.tree .int a1) (by kernel_rfl) ?_
          refine rs0 (.box (0, 1) 1) (by kernel_rfl) ?_
          refine rsl (.int .i64 a0_1) (by kernel_rfl) ?_
          refine rs0 (.telt .int x13 0) (s_idxT (t := .int) (xs := a1) (k := .i64) (m := a0_1) (by kernel_rfl) (by kernel_rfl) rfl p13 rfl e13) ?_
          refine rs0 (.int .i64 x13) (by kernel_rfl) ?_
          refine rs0 (.box (0, 1) 1) (by kernel_rfl) ?_
          refine rsn2 (0, 1) (0, 1) (.cells 51 [(.int .i64 a0_0), (.int .i64 x13), (.int .i64 a0_2), (.int .i64 a0_3)]) (by kernel_rfl) ?_
          refine rnil (bn_ (tn_ ?_))
          obtain rfl := Option.some.inj h
          exact ⟨_, (weak_ren (renF []) (by kernel_rfl) (by kernel_rfl) (by kernel_rfl)), ⟨x13, a0_2, rfl, rfl⟩⟩
        · refine awp_condF_ q12 (by kernel_rfl) ?_
          refine awp_skip_ (bn_ (tn_ ?_))
          obtain rfl := Option.some.inj h
          exact ⟨_, (weak_ren (renF []) (by kernel_rfl) (by kernel_rfl) (by kernel_rfl)), ⟨a0_1, a0_2, rfl, rfl⟩⟩
  · rintro _ _ ⟨l2_m2_1, l2_m2_2, rfl, rfl⟩ h
    (try dsimp only at h)
    refine awp_seq_ ?_
    refine awp_region_ 4 (by kernel_rfl) ?_
    refine rsl (.agg [(.int .i64 a0_0), (.int .i64 l2_m2_1), (.int .i64 l2_m2_2), (.int .i64 a0_3)]) (by kernel_rfl) ?_
    refine rsn2 (1, 1) (1, 1) (.cells 51 [(.int .i64 a0_0), (.int .i64 l2_m2_1), (.int .i64 l2_m2_2), (.int .i64 a0_3)]) (by kernel_rfl) ?_
    refine rnil (tn_ ?_)
    refine awp_ret_ ?_
    obtain rfl := Option.some.inj h
    exact ret_ [(.agg [(.int .i64 a0_0), (.int .i64 l2_m2_1), (.int .i64 l2_m2_2), (.int .i64 a0_3)])] (by simp) (by kernel_rfl) (p_agg (l_cons (l_sc (by kernel_rfl)) (l_cons (l_sc (by kernel_rfl)) (l_cons (l_sc (by kernel_rfl)) (l_cons (l_sc (by kernel_rfl)) l_nil)))) p_nil) (by kernel_rfl) (by kernel_rfl)
def m_spec_crPar_l2 : AC :=
  (.seq (.region [⟨(some 45), none, (.i (.bin .lss (.tmp 44) (.tmp 43)))⟩] false [])
  (.seq (.cond (.tmp 45)
    .skip
    (.exit 2))
  (.seq (.block 3 (.seq (.region [⟨(some 46), none, (.i (.idx 4 (.tmp 42) (.tmp 44)))⟩, ⟨(some 47), none, (.i (.ld false 4 (.tmp 46)))⟩, ⟨(some 9), none, (.i (.alloc 51 [(.int .i64 0), (.int .i64 0), (.int .i64 0), (.int .i64 0)]))⟩, ⟨none, none, (.st false 4 (.tmp 9) (.tmp 47))⟩] false [])
  (.seq (.region [⟨(some 48), none, (.i (.ld false 4 (.tmp 9)))⟩, ⟨(some 49), none, (.i (.mov (.tmp 6)))⟩, ⟨(some 50), none, (.call (.cst (.fn 87 [])) [(.tmp 48), (.tmp 49)] [[none, none, none, none], [(some .int)]])⟩, ⟨none, none, (.st false 4 (.tmp 9) (.tmp 50))⟩] false [])
  (.seq (.seq (.region [⟨(some 51), none, (.i (.fld 0 (.tmp 9)))⟩, ⟨(some 52), none, (.i (.ld true 1 (.tmp 51)))⟩, ⟨(some 53), none, (.i (.bin .eql (.tmp 52) (.cst (.int .i64 1))))⟩] false [])
  (.cond (.tmp 53)
    (.region [⟨(some 54), none, (.i (.fld 3 (.tmp 9)))⟩, ⟨(some 55), none, (.i (.ld true 1 (.tmp 54)))⟩, ⟨(some 56), none, (.i (.fld 0 (.tmp 2)))⟩, ⟨(some 57), none, (.i (.ld true 1 (.tmp 56)))⟩, ⟨(some 58), none, (.i (.bin .add (.tmp 55) (.tmp 57)))⟩, ⟨(some 59), none, (.i (.fld 3 (.tmp 9)))⟩, ⟨none, none, (.st true 1 (.tmp 59) (.tmp 58))⟩] false [])
    .skip))
  (.region [⟨(some 60), none, (.i (.fld 1 (.tmp 5)))⟩, ⟨(some 61), none, (.i (.ld true 1 (.tmp 60)))⟩, ⟨(some 62), none, (.i (.ld false 4 (.tmp 9)))⟩, ⟨(some 63), none, (.mkS 51 (.pair .int (.pair .int (.pair .int .int))) [(.tmp 62)])⟩, ⟨(some 64), none, (.append 51 (.pair .int (.pair .int (.pair .int .int))) 32 (.tmp 61) (.tmp 63))⟩, ⟨(some 65), none, (.i (.fld 1 (.tmp 5)))⟩, ⟨none, none, (.st true 1 (.tmp 65) (.tmp 64))⟩] false [])))))
  (.region [⟨(some 66), none, (.i (.bin .add (.tmp 44) (.cst (.int .i64 1))))⟩, ⟨(some 44), none, (.i (.mov (.tmp 66)))⟩] false []))))
def m_spec_crPar_l1 : AC :=
  (.seq (.region [⟨(some 30), none, (.i (.bin .lss (.tmp 29) (.tmp 28)))⟩] false [])
  (.seq (.cond (.tmp 30)
    .skip
    (.exit 0))
  (.seq (.block 1 (.seq (.region [⟨(some 31), none, (.i (.mov (.tmp 29)))⟩, ⟨(some 7), none, (.i (.mov (.tmp 31)))⟩] false [])
  (.region [⟨(some 32), none, (.i (.mov (.tmp 6)))⟩, ⟨(some 33), none, (.i (.mov (.tmp 7)))⟩, ⟨(some 34), none, (.i (.fld 1 (.tmp 2)))⟩, ⟨(some 35), none, (.i (.ld true 1 (.tmp 34)))⟩, ⟨(some 36), none, (.i (.len (.tmp 35)))⟩, ⟨(some 37), none, (.i (.mov (.tmp 7)))⟩, ⟨(some 38), none, (.i (.bin .add (.tmp 36) (.tmp 37)))⟩, ⟨(some 39), none, (.i (.idx 1 (.tmp 32) (.tmp 33)))⟩, ⟨none, none, (.st true 1 (.tmp 39) (.tmp 38))⟩] false [])))
  (.region [⟨(some 40), none, (.i (.bin .add (.tmp 29) (.cst (.int .i64 1))))⟩, ⟨(some 29), none, (.i (.mov (.tmp 40)))⟩] false []))))
def m_spec_crPar : AC :=
  (.seq (.region [⟨(some 2), none, (.i (.box 31 (.tmp 0)))⟩, ⟨(some 3), none, (.i (.box 31 (.tmp 1)))⟩, ⟨(some 4), none, (.i (.alloc 31 [(.int .i64 0), .nils, .nils]))⟩] false [])
  (.seq (.region [⟨(some 10), none, (.i (.fld 0 (.tmp 2)))⟩, ⟨(some 11), none, (.i (.ld true 1 (.tmp 10)))⟩, ⟨(some 12), none, (.i (.fld 0 (.tmp 3)))⟩, ⟨(some 13), none, (.i (.ld true 1 (.tmp 12)))⟩, ⟨(some 14), none, (.i (.bin .add (.tmp 11) (.tmp 13)))⟩, ⟨(some 15), none, (.mkS 51 (.pair .int (.pair .int (.pair .int .int))) [])⟩, ⟨(some 16), none, (.i (.fld 1 (.tmp 2)))⟩, ⟨(some 17), none, (.i (.ld true 1 (.tmp 16)))⟩, ⟨(some 18), none, (.append 51 (.pair .int (.pair .int (.pair .int .int))) 32 (.tmp 15) (.tmp 17))⟩, ⟨(some 19), none, (.i (.fld 2 (.tmp 2)))⟩, ⟨(some 20), none, (.i (.ld true 1 (.tmp 19)))⟩, ⟨(some 21), none, (.call (.cst (.fn 79 [])) [(.tmp 20)] [[(some .int)]])⟩, ⟨(some 22), none, (.build [(.int .i64 0), .nils, .nils] [(0, 1, (.tmp 14)), (1, 1, (.tmp 18)), (2, 1, (.tmp 21))])⟩, ⟨(some 5), none, (.i (.alloc 31 [(.int .i64 0), .nils, .nils]))⟩, ⟨none, none, (.st false 3 (.tmp 5) (.tmp 22))⟩] true [(1, 8), (3, 8), (8, 10), (1, 11), (3, 11), (8, 13), (11, 13)])
  (.seq (.region [⟨(some 23), none, (.i (.fld 1 (.tmp 3)))⟩, ⟨(some 24), none, (.i (.ld true 1 (.tmp 23)))⟩, ⟨(some 25), none, (.i (.len (.tmp 24)))⟩, ⟨(some 26), none, (.make 3 .int 8 (.tmp 25) (.tmp 25))⟩, ⟨(some 6), none, (.i (.mov (.tmp 26)))⟩] false [])
  (.seq (.seq (.region [⟨(some 27), none, (.i (.mov (.tmp 6)))⟩, ⟨(some 28), none, (.i (.len (.tmp 27)))⟩, ⟨(some 29), none, (.i (.mov (.cst (.int .i64 0))))⟩] false [])
  (.block 0 (.loop m_spec_crPar_l1)))
  (.seq (.seq (.region [⟨(some 41), none, (.i (.fld 1 (.tmp 3)))⟩, ⟨(some 42), none, (.i (.ld true 1 (.tmp 41)))⟩, ⟨(some 43), none, (.i (.len (.tmp 42)))⟩, ⟨(some 44), none, (.i (.mov (.cst (.int .i64 0))))⟩] false [])
  (.block 2 (.loop m_spec_crPar_l2)))
  (.seq (.region [⟨(some 67), none, (.i (.fld 2 (.tmp 5)))⟩, ⟨(some 68), none, (.i (.ld true 1 (.tmp 67)))⟩, ⟨(some 69), none, (.i (.fld 2 (.tmp 3)))⟩, ⟨(some 70), none, (.i (.ld true 1 (.tmp 69)))⟩, ⟨(some 71), none, (.i (.mov (.tmp 6)))⟩, ⟨(some 72), none, (.call (.cst (.fn 83 [])) [(.tmp 70), (.tmp 71)] [[(some .int)], [(some .int)]])⟩, ⟨(some 73), none, (.append 3 .int 8 (.tmp 68) (.tmp 72))⟩, ⟨(some 74), none, (.i (.fld 2 (.tmp 5)))⟩, ⟨none, none, (.st true 1 (.tmp 74) (.tmp 73))⟩] true [(1, 5)])
  (.seq (.region [⟨(some 75), none, (.i (.ld false 3 (.tmp 5)))⟩, ⟨none, none, (.st false 3 (.tmp 4) (.tmp 75))⟩] false [])
  .ret)))))))
def r_spec_crPar : List Res := [.cell 4 false 3]
theorem c_spec_crPar : compiled Tryd.prog Tryd.f64 = some (m_spec_crPar, r_spec_crPar) := by kernel_rfl
theorem hb_spec_crPar : hasBody Tryd.prog 64 = true := by kernel_rfl
def L_spec_crPar_l1 (a1_1 : List (Int × Int × Int × Int)) (a0_1 : List (Int × Int × Int × Int)) (l9_m29 : Nat) (l9_m6 : List Int) : Option (Ctl (Nat × List Int) (List Int)) :=
  cond (decide (((l9_m29 : Nat) : Int) < ((a1_1.length : Nat) : Int)))
  (Option.bind (l9_m6[l9_m29]?) fun x15 =>
  og (l9_m29 + 1 < 4611686018427387904) <|
  some (Ctl.next (l9_m29 + 1, l9_m6.set l9_m29 (IntKind.i64.wrap (((a0_1.length : Nat) : Int) + ((l9_m29 : Nat) : Int))))))
  (some (Ctl.out l9_m6))
def L_spec_crPar_l2 (a1_1 : List (Int × Int × Int × Int)) (l7_m6 : List Int) (a0_0 : Int) (l19_m44 : Nat) (l19_m5_1 : List (Int × Int × Int × Int)) : Option (Ctl (Nat × (List (Int × Int × Int × Int))) (List (Int × Int × Int × Int))) :=
  cond (decide (((l19_m44 : Nat) : Int) < ((a1_1.length : Nat) : Int)))
  (Option.bind (a1_1[l19_m44]?) fun x25 =>
  Option.bind (L_spec_crMoved x25.1 x25.2.1 x25.2.2.1 x25.2.2.2 l7_m6) fun y27 =>
  Option.bind (cond (y27.1 == 1)
      (some (IntKind.i64.wrap (y27.2.2.2 + a0_0)))
      (some y27.2.2.2)) fun l28_m9_3 =>
  og (l19_m5_1.length + 1 ≤ 1073741824 ∧ (l19_m5_1.length + 1) * 32 ≤ 140737488355328) <|
  og (l19_m44 + 1 < 4611686018427387904) <|
  some (Ctl.next (l19_m44 + 1, l19_m5_1 ++ ([(y27.1, y27.2.1, y27.2.2.1, l28_m9_3)]))))
  (some (Ctl.out l19_m5_1))
def L_spec_crPar (a0_0 : Int) (a0_1 : List (Int × Int × Int × Int)) (a0_2 : List Int) (a1_0 : Int) (a1_1 : List (Int × Int × Int × Int)) (a1_2 : List Int) : Option (Int × (List (Int × Int × Int × Int)) × List Int) :=
  og (0 + a0_1.length ≤ 1073741824 ∧ (0 + a0_1.length) * 32 ≤ 140737488355328) <|
Option.bind (L_spec_l1Own a0_2) fun y4 =>
og (0 ≤ ((a1_1.length : Nat) : Int) ∧ ((a1_1.length : Nat) : Int) ≤ ((a1_1.length : Nat) : Int) ∧ ((a1_1.length : Nat) : Int) ≤ 1073741824 ∧ (8 : Int) * ((a1_1.length : Nat) : Int) ≤ 140737488355328) <|
Option.bind (loopM (fun s_ : Nat × List Int => L_spec_crPar_l1 a1_1 a0_1 s_.1 s_.2) 4611686018427387904 (0, List.replicate a1_1.length (0 : Int))) fun l7_m6 =>
Option.bind (loopM (fun s_ : Nat × (List (Int × Int × Int × Int)) => L_spec_crPar_l2 a1_1 l7_m6 a0_0 s_.1 s_.2) 4611686018427387904 (0, a0_1)) fun l17_m5_1 =>
Option.bind (L_spec_hgList a1_2 l7_m6) fun y34 =>
og (y4.length + y34.length ≤ 1073741824 ∧ (y4.length + y34.length) * 8 ≤ 140737488355328) <|
some (IntKind.i64.wrap (a0_0 + a1_0), l17_m5_1, y4 ++ y34)
def rv_spec_crPar (r : Int × (List (Int × Int × Int × Int)) × List Int) : RV := ⟨false, [(true, [.sc (.int .i64 r.1), .new 51 (.pair .int (.pair .int (.pair .int .int))) r.2.1, .new 3 .int r.2.2])]⟩
theorem ok_spec_crPar {a0_0 : Int} {a0_1 : List (Int × Int × Int × Int)} {a0_2 : List Int} {a1_0 : Int} {a1_1 : List (Int × Int × Int × Int)} {a1_2 : List Int} {r : Int × (List (Int × Int × Int × Int)) × List Int} (h : L_spec_crPar a0_0 a0_1 a0_2 a1_0 a1_1 a1_2 = some r) : CallOK Tryd.prog Tab 64 [(.agg [(.int .i64 a0_0), (.tree (.pair .int (.pair .int (.pair .int .int))) a0_1), (.tree .int a0_2)]), (.agg [(.int .i64 a1_0), (.tree (.pair .int (.pair .int (.pair .int .int))) a1_1), (.tree .int a1_2)])] (rv_spec_crPar r) := by
  refine call_of_ (by kernel_rfl) Tryd.func64 c_spec_crPar (n := 76) (by kernel_rfl) (by simp) (tl := [(0, (.agg [(.int .i64 a0_0), (.tree (.pair .int (.pair .int (.pair .int .int))) a0_1), (.tree .int a0_2)])), (1, (.agg [(.int .i64 a1_0), (.tree (.pair .int (.pair .int (.pair .int .int))) a1_1), (.tree .int a1_2)]))]) rfl ?_
  unfold m_spec_crPar
  unfold L_spec_crPar at h
  refine awp_seq_ ?_
  refine awp_region_ 4 (by kernel_rfl) ?_
  refine rs1 (.box (2, 1) 0) (2, 1) (.cells 31 [(.int .i64 a0_0), (.tree (.pair .int (.pair .int (.pair .int .int))) a0_1), (.tree .int a0_2)]) (by kernel_rfl) ?_
  refine rs1 (.box (3, 2) 0) (3, 2) (.cells 31 [(.int .i64 a1_0), (.tree (.pair .int (.pair .int (.pair .int .int))) a1_1), (.tree .int a1_2)]) (by kernel_rfl) ?_
  refine rs1 (.box (4, 3) 0) (4, 3) (.cells 31 [(.int .i64 0), .nils, .nils]) (by kernel_rfl) ?_
  refine rnil (tn_ ?_)
  refine awp_seq_ ?_
  obtain ⟨g3, h⟩ := og_some h
  obtain ⟨y4, h4, h⟩ := ob_some h
  refine awp_regionD_ 19 (by kernel_rfl) ?_
  refine ds0 (.box (2, 1) 0) (by kernel_rfl) ?_
  refine dsl (.int .i64 a0_0) (by kernel_rfl) ?_
  refine ds0 (.box (3, 2) 0) (by kernel_rfl) ?_
  refine dsl (.int .i64 a1_0) (by kernel_rfl) ?_
  refine ds0 (.int .i64 (IntKind.i64.wrap (a0_0 + a1_0))) (by kernel_rfl) ?_
  refine ds1 (.own (15, 9) (.pair .int (.pair .int (.pair .int .int))) 0 0) (15, 9) (.arr 51 (.pair .int (.pair .int (.pair .int .int))) []) (by kernel_rfl) ?_
  refine ds0 (.box (2, 1) 1) (by kernel_rfl) ?_
  refine dsl (.tree (.pair .int (.pair .int (.pair .int .int))) a0_1) (by kernel_rfl) ?_
  refine ds2 (.own (15, 12) (.pair .int (.pair .int (.pair .int .int))) 0 a0_1.length) (15, 9) (15, 12) (.arr 51 (.pair .int (.pair .int (.pair .int .int))) a0_1) (s_appO (t := (.pair .int (.pair .int (.pair .int .int)))) (t' := (.pair .int (.pair .int (.pair .int .int)))) (xs := []) (ys := a0_1) (zs := a0_1) (j := (15, 9)) (len := 0) (c := (.tree (.pair .int (.pair .int (.pair .int .int))) a0_1)) (by kernel_rfl) (by kernel_rfl) rfl (by kernel_rfl) sr_tree rfl g3) ?_
  refine ds0 (.box (2, 1) 2) (by kernel_rfl) ?_
  refine dsl (.tree .int a0_2) (by kernel_rfl) ?_
  refine dcall (.own (336, 15) .int 0 y4.length) [((336, 15), some (.arr 3 .int y4))] [(.tree .int a0_2)] _ (caps := []) (args0 := [(.tree .int a0_2)]) trivial (by kernel_rfl) (by kernel_rfl) (by kernel_rfl) (by kernel_rfl) (ok_spec_l1Own h4) hb_spec_l1Own (by kernel_rfl) ?_
  refine ds0 (.agg [(.int .i64 (IntKind.i64.wrap (a0_0 + a1_0))), (.own (15, 12) (.pair .int (.pair .int (.pair .int .int))) 0 a0_1.length), (.own (336, 15) .int 0 y4.length)]) (by kernel_rfl) ?_
  refine ds1 (.box (5, 17) 0) (5, 17) (.cells 31 [(.int .i64 0), .nils, .nils]) (by kernel_rfl) ?_
  refine dsn2 (5, 17) (5, 17) (.cells 31 [(.int .i64 (IntKind.i64.wrap (a0_0 + a1_0))), (.own (15, 12) (.pair .int (.pair .int (.pair .int .int))) 0 a0_1.length), (.own (336, 15) .int 0 y4.length)]) (by kernel_rfl) ?_
  refine dnil (by kernel_rfl) (tn_ ?_)
  refine awp_seq_ ?_
  obtain ⟨g6, h⟩ := og_some h
  refine awp_region_ 24 (by kernel_rfl) ?_
  refine rs0 (.box (3, 2) 1) (by kernel_rfl) ?_
  refine rsl (.tree (.pair .int (.pair .int (.pair .int .int))) a1_1) (by kernel_rfl) ?_
  refine rs0 (.int .i64 ((a1_1.length : Nat) : Int)) (by kernel_rfl) ?_
  refine rs1 (.own (26, 22) .int 0 a1_1.length) (26, 22) (.arr 3 .int (List.replicate a1_1.length (0 : Int))) (s_make (t := .int) (k := .i64) (k' := .i64) (m := ((a1_1.length : Nat) : Int)) (m' := ((a1_1.length : Nat) : Int)) (by kernel_rfl) (by kernel_rfl) g6 rfl) ?_
  refine rs0 (.own (26, 22) .int 0 a1_1.length) (by kernel_rfl) ?_
  refine rnil (tn_ ?_)
  refine awp_seqB h (fun (l7_m6 : List Int) S_ => S_ = ⟨mkTm [(2, (.box (0, 1) 0)), (3, (.box (1, 1) 0)), (4, (.box (2, 1) 0)), (5, (.box (3, 1) 0)), (6, (.own (4, 1) .int 0 l7_m6.length))], mkOb (someL [((0, 1), .cells 31 [(.int .i64 a0_0), (.tree (.pair .int (.pair .int (.pair .int .int))) a0_1), (.tree .int a0_2)]), ((1, 1), .cells 31 [(.int .i64 a1_0), (.tree (.pair .int (.pair .int (.pair .int .int))) a1_1), (.tree .int a1_2)]), ((2, 1), .cells 31 [(.int .i64 0), .nils, .nils]), ((3, 1), .cells 31 [(.int .i64 (IntKind.i64.wrap (a0_0 + a1_0))), (.own (5, 1) (.pair .int (.pair .int (.pair .int .int))) 0 a0_1.length), (.own (6, 1) .int 0 y4.length)]), ((4, 1), .arr 3 .int l7_m6), ((5, 1), .arr 51 (.pair .int (.pair .int (.pair .int .int))) a0_1), ((6, 1), .arr 3 .int y4)]), 2⟩) ?_ ?_
  · intro v_ h
    refine awp_seq_ ?_
    refine awp_region_ 27 (by kernel_rfl) ?_
    refine rs0 (.own (26, 22) .int 0 a1_1.length) (by kernel_rfl) ?_
    refine rs0 (.int .i64 ((a1_1.length : Nat) : Int)) (by kernel_rfl) ?_
    refine rs0 (.int .i64 0) (by kernel_rfl) ?_
    refine rnil (tn_ ?_)
    refine awp_block_ ?_
    refine awp_loopL h (fun t_ S_ => ∃ (l9_m29 : Nat), ∃ (l9_m6 : List Int), t_ = (l9_m29, l9_m6) ∧ S_ = ⟨mkTm [(2, (.box (0, 1) 0)), (3, (.box (1, 1) 0)), (4, (.box (2, 1) 0)), (5, (.box (3, 1) 0)), (6, (.own (4, 1) .int 0 l9_m6.length)), (28, (.int .i64 ((a1_1.length : Nat) : Int))), (29, (.int .i64 ((l9_m29 : Nat) : Int)))], mkOb (someL [((0, 1), .cells 31 [(.int .i64 a0_0), (.tree (.pair .int (.pair .int (.pair .int .int))) a0_1), (.tree .int a0_2)]), ((1, 1), .cells 31 [(.int .i64 a1_0), (.tree (.pair .int (.pair .int (.pair .int .int))) a1_1), (.tree .int a1_2)]), ((2, 1), .cells 31 [(.int .i64 0), .nils, .nils]), ((3, 1), .cells 31 [(.int .i64 (IntKind.i64.wrap (a0_0 + a1_0))), (.own (5, 1) (.pair .int (.pair .int (.pair .int .int))) 0 a0_1.length), (.own (6, 1) .int 0 y4.length)]), ((4, 1), .arr 3 .int l9_m6), ((5, 1), .arr 51 (.pair .int (.pair .int (.pair .int .int))) a0_1), ((6, 1), .arr 3 .int y4)]), 2⟩) ⟨_, ((weak_tm_ 6 (.own (26, 22) .int 0 a1_1.length) (.own (26, 22) .int 0 ((List.replicate a1_1.length (0 : Int)).length)) (by kernel_rfl) (congrArg (fun z_ => ((.own (26, 22) .int 0 z_) : AV)) (List.length_replicate.symm : a1_1.length = (List.replicate a1_1.length (0 : Int)).length))).trans (weak_ren (renF [((0, 1), (2, 1)), ((1, 1), (3, 2)), ((2, 1), (4, 3)), ((3, 1), (5, 17)), ((5, 1), (15, 12)), ((6, 1), (336, 15)), ((4, 1), (26, 22))]) (by kernel_rfl) (by kernel_rfl) (by kernel_rfl))), ⟨0, List.replicate a1_1.length (0 : Int), rfl, rfl⟩⟩ ?_
    · rintro n_ _ _ c_ ⟨l9_m29, l9_m6, rfl, rfl⟩ h hn9
      (try dsimp only at h)
      unfold L_spec_crPar_l1 at h
      unfold m_spec_crPar_l1
      refine awp_seq_ ?_
      refine awp_region_ 3 (by kernel_rfl) ?_
      refine rs0 (.bool (decide (((l9_m29 : Nat) : Int) < ((a1_1.length : Nat) : Int)))) (by kernel_rfl) ?_
      refine rnil (tn_ ?_)
      refine awp_seq_ ?_
      rcases cond_some h with ⟨q12, h⟩ | ⟨q12, h⟩
      · have q12_ := of_decide_eq_true q12
        refine awp_condT_ q12 (by kernel_rfl) ?_
        refine awp_skip_ (tn_ ?_)
        refine awp_seq_ ?_
        refine awp_block_ ?_
        refine awp_seq_ ?_
        refine awp_region_ 5 (by kernel_rfl) ?_
        refine rs0 (.int .i64 ((l9_m29 : Nat) : Int)) (by kernel_rfl) ?_
        refine rs0 (.int .i64 ((l9_m29 : Nat) : Int)) (by kernel_rfl) ?_
        refine rnil (tn_ ?_)
        obtain ⟨x15, e15, h⟩ := ob_some h
        refine awp_region_ 14 (by kernel_rfl) ?_
        refine rs0 (.own (4, 1) .int 0 l9_m6.length) (by kernel_rfl) ?_
        refine rs0 (.int .i64 ((l9_m29 : Nat) : Int)) (by kernel_rfl) ?_
        refine rs0 (.box (0, 1) 1) (by kernel_rfl) ?_
        refine rsl (.tree (.pair .int (.pair .int (.pair .int .int))) a0_1) (by kernel_rfl) ?_
        refine rs0 (.int .i64 ((a0_1.length : Nat) : Int)) (by kernel_rfl) ?_
        refine rs0 (.int .i64 ((l9_m29 : Nat) : Int)) (by kernel_rfl) ?_
        refine rs0 (.int .i64 (IntKind.i64.wrap (((a0_1.length : Nat) : Int) + ((l9_m29 : Nat) : Int)))) (by kernel_rfl) ?_
        refine rs0 (.elt (4, 1) l9_m29 0) (s_idxO (t := .int) (o := (4, 1)) (len := l9_m6.length) (k := .i64) (m := ((l9_m29 : Nat) : Int)) (by kernel_rfl) (by kernel_rfl) rfl (nat_nn _) rfl (getN_lt e15)) ?_
        refine rsn2 (4, 1) (4, 1) (.arr 3 .int (l9_m6.set l9_m29 (IntKind.i64.wrap (((a0_1.length : Nat) : Int) + ((l9_m29 : Nat) : Int))))) (s_stE (i := (4, 1)) (j := l9_m29) (k := 0) (e := 3) (t := .int) (xs := l9_m6) (cs := [(.int .i64 (IntKind.i64.wrap (((a0_1.length : Nat) : Int) + ((l9_m29 : Nat) : Int))))]) (x1 := IntKind.i64.wrap (((a0_1.length : Nat) : Int) + ((l9_m29 : Nat) : Int))) (by kernel_rfl) (by kernel_rfl) e15 (by kernel_rfl) (by kernel_rfl)) ?_
        refine rnil (bn_ (tn_ ?_))
        obtain ⟨g16, h⟩ := og_some h
        refine awp_region_ 16 (by kernel_rfl) ?_
        refine rs0 (.int .i64 ((l9_m29 + 1 : Nat) : Int)) (s_add1 (j := l9_m29) (by kernel_rfl) (by kernel_rfl) g16) ?_
        refine rs0 (.int .i64 ((l9_m29 + 1 : Nat) : Int)) (by kernel_rfl) ?_
        refine rnil (tn_ ?_)
        obtain rfl := Option.some.inj h
        exact ⟨(l9_m29 + 1, l9_m6.set l9_m29 (IntKind.i64.wrap (((a0_1.length : Nat) : Int) + ((l9_m29 : Nat) : Int)))), _, ((weak_tm_ 6 (.own (4, 1) .int 0 l9_m6.length) (.own (4, 1) .int 0 ((l9_m6.set l9_m29 (IntKind.i64.wrap (((a0_1.length : Nat) : Int) + ((l9_m29 : Nat) : Int)))).length)) (by kernel_rfl) (congrArg (fun z_ => ((.own (4, 1) .int 0 z_) : AV)) (((rfl : l9_m6.length = l9_m6.length).trans List.length_set.symm) : l9_m6.length = (l9_m6.set l9_m29 (IntKind.i64.wrap (((a0_1.length : Nat) : Int) + ((l9_m29 : Nat) : Int)))).length))).trans (weak_ren (renF []) (by kernel_rfl) (by kernel_rfl) (by kernel_rfl))), ⟨l9_m29 + 1, l9_m6.set l9_m29 (IntKind.i64.wrap (((a0_1.length : Nat) : Int) + ((l9_m29 : Nat) : Int))), rfl, rfl⟩, hn9⟩
      · have q12_ := of_decide_eq_false q12
        refine awp_condF_ q12 (by kernel_rfl) ?_
        refine awp_exit_ (te_ (te_ (be_ (tn_ ?_))))
        obtain rfl := Option.some.inj h
        have h := hn9
        (try dsimp only at h)
        obtain rfl := Option.some.inj h
        exact ⟨_, (weak_ren (renF []) (by kernel_rfl) (by kernel_rfl) (by kernel_rfl)), rfl⟩
  · rintro l7_m6 _ rfl h
    (try dsimp only at h)
    refine awp_seqB h (fun (l17_m5_1 : List (Int × Int × Int × Int)) S_ => S_ = ⟨mkTm [(3, (.box (0, 1) 0)), (4, (.box (1, 1) 0)), (5, (.box (2, 1) 0)), (6, (.own (3, 1) .int 0 l7_m6.length))], mkOb (someL [((0, 1), .cells 31 [(.int .i64 a1_0), (.tree (.pair .int (.pair .int (.pair .int .int))) a1_1), (.tree .int a1_2)]), ((1, 1), .cells 31 [(.int .i64 0), .nils, .nils]), ((2, 1), .cells 31 [(.int .i64 (IntKind.i64.wrap (a0_0 + a1_0))), (.own (4, 1) (.pair .int (.pair .int (.pair .int .int))) 0 l17_m5_1.length), (.own (5, 1) .int 0 y4.length)]), ((3, 1), .arr 3 .int l7_m6), ((4, 1), .arr 51 (.pair .int (.pair .int (.pair .int .int))) l17_m5_1), ((5, 1), .arr 3 .int y4)]), 2⟩) ?_ ?_
    · intro v_ h
      refine awp_seq_ ?_
      refine awp_region_ 6 (by kernel_rfl) ?_
      refine rs0 (.box (1, 1) 1) (by kernel_rfl) ?_
      refine rsl (.tree (.pair .int (.pair .int (.pair .int .int))) a1_1) (by kernel_rfl) ?_
      refine rs0 (.int .i64 ((a1_1.length : Nat) : Int)) (by kernel_rfl) ?_
      refine rs0 (.int .i64 0) (by kernel_rfl) ?_
      refine rnil (tn_ ?_)
      refine awp_block_ ?_
      refine awp_loopL h (fun t_ S_ => ∃ (l19_m44 : Nat), ∃ (l19_m5_1 : List (Int × Int × Int × Int)), t_ = (l19_m44, l19_m5_1) ∧ S_ = ⟨mkTm [(2, (.box (0, 1) 0)), (3, (.box (1, 1) 0)), (4, (.box (2, 1) 0)), (5, (.box (3, 1) 0)), (6, (.own (4, 1) .int 0 l7_m6.length)), (42, (.tree (.pair .int (.pair .int (.pair .int .int))) a1_1)), (43, (.int .i64 ((a1_1.length : Nat) : Int))), (44, (.int .i64 ((l19_m44 : Nat) : Int)))], mkOb (someL [((0, 1), .cells 31 [(.int .i64 a0_0), (.tree (.pair .int (.pair .int (.pair .int .int))) a0_1), (.tree .int a0_2)]), ((1, 1), .cells 31 [(.int .i64 a1_0), (.tree (.pair .int (.pair .int (.pair .int .int))) a1_1), (.tree .int a1_2)]), ((2, 1), .cells 31 [(.int .i64 0), .nils, .nils]), ((3, 1), .cells 31 [(.int .i64 (IntKind.i64.wrap (a0_0 + a1_0))), (.own (5, 1) (.pair .int (.pair .int (.pair .int .int))) 0 l19_m5_1.length), (.own (6, 1) .int 0 y4.length)]), ((4, 1), .arr 3 .int l7_m6), ((5, 1), .arr 51 (.pair .int (.pair .int (.pair .int .int))) l19_m5_1), ((6, 1), .arr 3 .int y4)]), 2⟩) ⟨_, (weak_ren (renF []) (by kernel_rfl) (by kernel_rfl) (by kernel_rfl)), ⟨0, a0_1, rfl, rfl⟩⟩ ?_
      · rintro n_ _ _ c_ ⟨l19_m44, l19_m5_1, rfl, rfl⟩ h hn19
        (try dsimp only at h)
        unfold L_spec_crPar_l2 at h
        unfold m_spec_crPar_l2
        refine awp_seq_ ?_
        refine awp_region_ 3 (by kernel_rfl) ?_
        refine rs0 (.bool (decide (((l19_m44 : Nat) : Int) < ((a1_1.length : Nat) : Int)))) (by kernel_rfl) ?_
        refine rnil (tn_ ?_)
        refine awp_seq_ ?_
        rcases cond_some h with ⟨q22, h⟩ | ⟨q22, h⟩
        · have q22_ := of_decide_eq_true q22
          refine awp_condT_ q22 (by kernel_rfl) ?_
          refine awp_skip_ (tn_ ?_)
          refine awp_seq_ ?_
          refine awp_block_ ?_
          refine awp_seq_ ?_
          obtain ⟨x25, e25, h⟩ := ob_some h
          refine awp_region_ 7 (by kernel_rfl) ?_
          refine rs0 (.telt (.pair .int (.pair .int (.pair .int .int))) x25 0) (s_idxT (t := (.pair .int (.pair .int (.pair .int .int)))) (xs := a1_1) (k := .i64) (m := ((l19_m44 : Nat) : Int)) (by kernel_rfl) (by kernel_rfl) rfl (nat_nn _) rfl e25) ?_
          refine rs0 (.agg [(.int .i64 x25.1), (.int .i64 x25.2.1), (.int .i64 x25.2.2.1), (.int .i64 x25.2.2.2)]) (by kernel_rfl) ?_
          refine rs1 (.box (9, 5) 0) (9, 5) (.cells 51 [(.int .i64 0), (.int .i64 0), (.int .i64 0), (.int .i64 0)]) (by kernel_rfl) ?_
          refine rsn2 (9, 5) (9, 5) (.cells 51 [(.int .i64 x25.1), (.int .i64 x25.2.1), (.int .i64 x25.2.2.1), (.int .i64 x25.2.2.2)]) (by kernel_rfl) ?_
          refine rnil (tn_ ?_)
          refine awp_seq_ ?_
          obtain ⟨y27, h27, h⟩ := ob_some h
          refine awp_region_ 11 (by kernel_rfl) ?_
          refine rsl (.agg [(.int .i64 x25.1), (.int .i64 x25.2.1), (.int .i64 x25.2.2.1), (.int .i64 x25.2.2.2)]) (by kernel_rfl) ?_
          refine rs0 (.own (4, 1) .int 0 l7_m6.length) (by kernel_rfl) ?_
          refine rcall (.agg [(.int .i64 y27.1), (.int .i64 y27.2.1), (.int .i64 y27.2.2.1), (.int .i64 y27.2.2.2)]) [] [(.agg [(.int .i64 x25.1), (.int .i64 x25.2.1), (.int .i64 x25.2.2.1), (.int .i64 x25.2.2.2)]), (.own (4, 1) .int 0 l7_m6.length)] _ (caps := []) (args0 := [(.agg [(.int .i64 x25.1), (.int .i64 x25.2.1), (.int .i64 x25.2.2.1), (.int .i64 x25.2.2.2)]), (.tree .int l7_m6)]) trivial (by kernel_rfl) (by kernel_rfl) (gm_cons (by kernel_rfl) (gm_cons (gd_own (e := 3) (by kernel_rfl) rfl) gm_nil)) (by kernel_rfl) (ok_spec_crMoved h27) hb_spec_crMoved (by kernel_rfl) ?_
          refine rsn2 (9, 5) (9, 5) (.cells 51 [(.int .i64 y27.1), (.int .i64 y27.2.1), (.int .i64 y27.2.2.1), (.int .i64 y27.2.2.2)]) (by kernel_rfl) ?_
          refine rnil (tn_ ?_)
          refine awp_seqB h (fun (l28_m9_3 : Int) S_ => S_ = ⟨mkTm [(2, (.box (0, 1) 0)), (3, (.box (1, 1) 0)), (4, (.box (2, 1) 0)), (5, (.box (3, 1) 0)), (6, (.own (4, 1) .int 0 l7_m6.length)), (9, (.box (5, 1) 0)), (42, (.tree (.pair .int (.pair .int (.pair .int .int))) a1_1)), (43, (.int .i64 ((a1_1.length : Nat) : Int))), (44, (.int .i64 ((l19_m44 : Nat) : Int)))], mkOb (someL [((0, 1), .cells 31 [(.int .i64 a0_0), (.tree (.pair .int (.pair .int (.pair .int .int))) a0_1), (.tree .int a0_2)]), ((1, 1), .cells 31 [(.int .i64 a1_0), (.tree (.pair .int (.pair .int (.pair .int .int))) a1_1), (.tree .int a1_2)]), ((2, 1), .cells 31 [(.int .i64 0), .nils, .nils]), ((3, 1), .cells 31 [(.int .i64 (IntKind.i64.wrap (a0_0 + a1_0))), (.own (6, 1) (.pair .int (.pair .int (.pair .int .int))) 0 l19_m5_1.length), (.own (7, 1) .int 0 y4.length)]), ((4, 1), .arr 3 .int l7_m6), ((5, 1), .cells 51 [(.int .i64 y27.1), (.int .i64 y27.2.1), (.int .i64 y27.2.2.1), (.int .i64 l28_m9_3)]), ((6, 1), .arr 51 (.pair .int (.pair .int (.pair .int .int))) l19_m5_1), ((7, 1), .arr 3 .int y4)]), 2⟩) ?_ ?_
          · intro v_ h
            refine awp_seq_ ?_
            refine awp_region_ 14 (by kernel_rfl) ?_
            refine rs0 (.box (9, 5) 0) (by kernel_rfl) ?_
            refine rsl (.int .i64 y27.1) (by kernel_rfl) ?_
            refine rs0 (.bool (y27.1 == 1)) (by kernel_rfl) ?_
            refine rnil (tn_ ?_)
            rcases cond_some h with ⟨q30, h⟩ | ⟨q30, h⟩
            · refine awp_condT_ q30 (by kernel_rfl) ?_
              refine awp_region_ 21 (by kernel_rfl) ?_
              refine rs0 (.box (9, 5) 3) (by kernel_rfl) ?_
              refine rsl (.int .i64 y27.2.2.2) (by kernel_rfl) ?_
              refine rs0 (.box (0, 1) 0) (by kernel_rfl) ?_
              refine rsl (.int .i64 a0_0) (by kernel_rfl) ?_
              refine rs0 (.int .i64 (IntKind.i64.wrap (y27.2.2.2 + a0_0))) (by kernel_rfl) ?_
              refine rs0 (.box (9, 5) 3) (by kernel_rfl) ?_
              refine rsn2 (9, 5) (9, 5) (.cells 51 [(.int .i64 y27.1), (.int .i64 y27.2.1), (.int .i64 y27.2.2.1), (.int .i64 (IntKind.i64.wrap (y27.2.2.2 + a0_0)))]) (by kernel_rfl) ?_
              refine rnil (tn_ ?_)
              obtain rfl := Option.some.inj h
              exact ⟨_, (weak_ren (renF [((6, 1), (5, 1)), ((7, 1), (6, 1)), ((5, 1), (9, 5))]) (by kernel_rfl) (by kernel_rfl) (by kernel_rfl)), rfl⟩
            · refine awp_condF_ q30 (by kernel_rfl) ?_
              refine awp_skip_ (tn_ ?_)
              obtain rfl := Option.some.inj h
              exact ⟨_, (weak_ren (renF [((6, 1), (5, 1)), ((7, 1), (6, 1)), ((5, 1), (9, 5))]) (by kernel_rfl) (by kernel_rfl) (by kernel_rfl)), rfl⟩
          · rintro l28_m9_3 _ rfl h
            (try dsimp only at h)
            obtain ⟨g31, h⟩ := og_some h
            refine awp_region_ 9 (by kernel_rfl) ?_
            refine rs0 (.box (3, 1) 1) (by kernel_rfl) ?_
            refine rsl (.own (6, 1) (.pair .int (.pair .int (.pair .int .int))) 0 l19_m5_1.length) (by kernel_rfl) ?_
            refine rsl (.agg [(.int .i64 y27.1), (.int .i64 y27.2.1), (.int .i64 y27.2.2.1), (.int .i64 l28_m9_3)]) (by kernel_rfl) ?_
            refine rs1 (.own (63, 5) (.pair .int (.pair .int (.pair .int .int))) 0 1) (63, 5) (.arr 51 (.pair .int (.pair .int (.pair .int .int))) ([(y27.1, y27.2.1, y27.2.2.1, l28_m9_3)])) (by kernel_rfl) ?_
            refine rs2 (.own (6, 6) (.pair .int (.pair .int (.pair .int .int))) 0 ((l19_m5_1 ++ ([(y27.1, y27.2.1, y27.2.2.1, l28_m9_3)])).length)) (6, 1) (6, 6) (.arr 51 (.pair .int (.pair .int (.pair .int .int))) (l19_m5_1 ++ ([(y27.1, y27.2.1, y27.2.2.1, l28_m9_3)]))) (s_appO (t := (.pair .int (.pair .int (.pair .int .int)))) (t' := (.pair .int (.pair .int (.pair .int .int)))) (xs := l19_m5_1) (ys := [(y27.1, y27.2.1, y27.2.2.1, l28_m9_3)]) (zs := l19_m5_1 ++ ([(y27.1, y27.2.1, y27.2.2.1, l28_m9_3)])) (j := (6, 1)) (len := l19_m5_1.length) (c := (.own (63, 5) (.pair .int (.pair .int (.pair .int .int))) 0 1)) (by kernel_rfl) (by kernel_rfl) rfl (by kernel_rfl) (sr_own (e := 51) (by kernel_rfl) rfl) rfl g31) ?_
            refine rs0 (.box (3, 1) 1) (by kernel_rfl) ?_
            refine rsn2 (3, 1) (3, 1) (.cells 31 [(.int .i64 (IntKind.i64.wrap (a0_0 + a1_0))), (.own (6, 6) (.pair .int (.pair .int (.pair .int .int))) 0 ((l19_m5_1 ++ ([(y27.1, y27.2.1, y27.2.2.1, l28_m9_3)])).length)), (.own (7, 1) .int 0 y4.length)]) (by kernel_rfl) ?_
            refine rnil (bn_ (tn_ ?_))
            obtain ⟨g32, h⟩ := og_some h
            refine awp_region_ 11 (by kernel_rfl) ?_
            refine rs0 (.int .i64 ((l19_m44 + 1 : Nat) : Int)) (s_add1 (j := l19_m44) (by kernel_rfl) (by kernel_rfl) g32) ?_
            refine rs0 (.int .i64 ((l19_m44 + 1 : Nat) : Int)) (by kernel_rfl) ?_
            refine rnil (tn_ ?_)
            obtain rfl := Option.some.inj h
            exact ⟨(l19_m44 + 1, l19_m5_1 ++ ([(y27.1, y27.2.1, y27.2.2.1, l28_m9_3)])), _, (weak_ren (renF [((5, 1), (6, 6)), ((6, 1), (7, 1))]) (by kernel_rfl) (by kernel_rfl) (by kernel_rfl)), ⟨l19_m44 + 1, l19_m5_1 ++ ([(y27.1, y27.2.1, y27.2.2.1, l28_m9_3)]), rfl, rfl⟩, hn19⟩
        · have q22_ := of_decide_eq_false q22
          refine awp_condF_ q22 (by kernel_rfl) ?_
          refine awp_exit_ (te_ (te_ (be_ (tn_ ?_))))
          obtain rfl := Option.some.inj h
          have h := hn19
          (try dsimp only at h)
          obtain rfl := Option.some.inj h
          exact ⟨_, (weak_ren (renF [((0, 1), (1, 1)), ((1, 1), (2, 1)), ((2, 1), (3, 1)), ((4, 1), (5, 1)), ((5, 1), (6, 1)), ((3, 1), (4, 1))]) (by kernel_rfl) (by kernel_rfl) (by kernel_rfl)), rfl⟩
    · rintro l17_m5_1 _ rfl h
      (try dsimp only at h)
      refine awp_seq_ ?_
      obtain ⟨y34, h34, h⟩ := ob_some h
      obtain ⟨g35, h⟩ := og_some h
      refine awp_regionD_ 11 (by kernel_rfl) ?_
      refine ds0 (.box (2, 1) 2) (by kernel_rfl) ?_
      refine dsl (.own (5, 1) .int 0 y4.length) (by kernel_rfl) ?_
      refine ds0 (.box (0, 1) 2) (by kernel_rfl) ?_
      refine dsl (.tree .int a1_2) (by kernel_rfl) ?_
      refine ds0 (.own (3, 1) .int 0 l7_m6.length) (by kernel_rfl) ?_
      refine dcall (.own (1152, 7) .int 0 y34.length) [((1152, 7), some (.arr 3 .int y34))] [(.tree .int a1_2), (.own (3, 1) .int 0 l7_m6.length)] _ (caps := []) (args0 := [(.tree .int a1_2), (.tree .int l7_m6)]) trivial (by kernel_rfl) (by kernel_rfl) (gm_cons (by kernel_rfl) (gm_cons (gd_own (e := 3) (by kernel_rfl) rfl) gm_nil)) (by kernel_rfl) (ok_spec_hgList h34) hb_spec_hgList (by kernel_rfl) ?_
      refine ds2 (.own (5, 8) .int 0 ((y4 ++ y34).length)) (5, 1) (5, 8) (.arr 3 .int (y4 ++ y34)) (s_appO (t := .int) (t' := .int) (xs := y4) (ys := y34) (zs := y4 ++ y34) (j := (5, 1)) (len := y4.length) (c := (.own (1152, 7) .int 0 y34.length)) (by kernel_rfl) (by kernel_rfl) rfl (by kernel_rfl) (sr_own (e := 3) (by kernel_rfl) rfl) rfl g35) ?_
      refine ds0 (.box (2, 1) 2) (by kernel_rfl) ?_
      refine dsn2 (2, 1) (2, 1) (.cells 31 [(.int .i64 (IntKind.i64.wrap (a0_0 + a1_0))), (.own (4, 1) (.pair .int (.pair .int (.pair .int .int))) 0 l17_m5_1.length), (.own (5, 8) .int 0 ((y4 ++ y34).length))]) (by kernel_rfl) ?_
      refine dnil (by kernel_rfl) (tn_ ?_)
      refine awp_seq_ ?_
      refine awp_region_ 13 (by kernel_rfl) ?_
      refine rsl (.agg [(.int .i64 (IntKind.i64.wrap (a0_0 + a1_0))), (.own (4, 1) (.pair .int (.pair .int (.pair .int .int))) 0 l17_m5_1.length), (.own (5, 8) .int 0 ((y4 ++ y34).length))]) (by kernel_rfl) ?_
      refine rsn2 (1, 1) (1, 1) (.cells 31 [(.int .i64 (IntKind.i64.wrap (a0_0 + a1_0))), (.own (4, 1) (.pair .int (.pair .int (.pair .int .int))) 0 l17_m5_1.length), (.own (5, 8) .int 0 ((y4 ++ y34).length))]) (by kernel_rfl) ?_
      refine rnil (tn_ ?_)
      refine awp_ret_ ?_
      obtain rfl := Option.some.inj h
      exact ret_ [(.agg [(.int .i64 (IntKind.i64.wrap (a0_0 + a1_0))), (.own (4, 1) (.pair .int (.pair .int (.pair .int .int))) 0 l17_m5_1.length), (.own (5, 8) .int 0 ((y4 ++ y34).length))])] (by simp) (by kernel_rfl) (p_agg (l_cons (l_sc (by kernel_rfl)) (l_cons (l_own (by kernel_rfl) rfl) (l_cons (l_own (by kernel_rfl) rfl) l_nil))) p_nil) (by kernel_rfl) (by kernel_rfl)
def m_spec_ParCircuits : AC :=
  (.seq (.region [⟨(some 4), none, (.i (.box 31 (.tmp 1)))⟩, ⟨(some 5), none, (.i (.box 31 (.tmp 2)))⟩, ⟨(some 6), none, (.i (.alloc 31 [(.int .i64 0), .nils, .nils]))⟩, ⟨(some 7), none, (.i (.mov (.cst (.bool false))))⟩] false [])
  (.seq (.seq (.region [⟨(some 8), none, (.i (.mov (.tmp 0)))⟩, ⟨(some 9), none, (.i (.ld false 3 (.tmp 4)))⟩, ⟨(some 10), none, (.call (.cst (.fn 35 [])) [(.tmp 8), (.tmp 9)] [[], [none, (some (.pair .int (.pair .int (.pair .int .int)))), (some .int)]])⟩, ⟨(some 11), none, (.i (.not (.tmp 10)))⟩, ⟨(some 12), none, (.i (.mov (.tmp 11)))⟩, ⟨(some 13), (some (12, false)), (.i (.mov (.tmp 0)))⟩, ⟨(some 14), (some (12, false)), (.i (.ld false 3 (.tmp 5)))⟩, ⟨(some 15), (some (12, false)), (.call (.cst (.fn 35 [])) [(.tmp 13), (.tmp 14)] [[], [none, (some (.pair .int (.pair .int (.pair .int .int)))), (some .int)]])⟩, ⟨(some 16), (some (12, false)), (.i (.not (.tmp 15)))⟩, ⟨(some 17), none, (.i (.pick (.tmp 12) (.cst (.bool true)) (.tmp 16)))⟩] false [])
  (.cond (.tmp 17)
    (.seq (.region [⟨(some 18), none, (.build [(.int .i64 0), .nils, .nils] [])⟩, ⟨none, none, (.st false 3 (.tmp 6) (.tmp 18))⟩, ⟨(some 7), none, (.i (.mov (.cst (.bool false))))⟩] false [])
    .ret)
    .skip))
  (.seq (.region [⟨(some 19), none, (.i (.mov (.tmp 0)))⟩, ⟨(some 20), none, (.i (.ld false 3 (.tmp 4)))⟩, ⟨(some 21), none, (.i (.ld false 3 (.tmp 5)))⟩, ⟨(some 22), none, (.call (.cst (.fn 64 [])) [(.tmp 20), (.tmp 21)] [[none, (some (.pair .int (.pair .int (.pair .int .int)))), (some .int)], [none, (some (.pair .int (.pair .int (.pair .int .int)))), (some .int)]])⟩, ⟨(some 23), none, (.call (.cst (.fn 43 [])) [(.tmp 19), (.tmp 22)] [[], [none, (some (.pair .int (.pair .int (.pair .int .int)))), (some .int)]])⟩, ⟨(some 24), none, (.i (.extr 0 (.tmp 23)))⟩, ⟨(some 25), none, (.i (.extr 1 (.tmp 23)))⟩, ⟨none, none, (.st false 3 (.tmp 6) (.tmp 24))⟩, ⟨(some 7), none, (.i (.mov (.tmp 25)))⟩] false [])
  .ret)))
def r_spec_ParCircuits : List Res := [.cell 6 false 3, .tmp 7]
theorem c_spec_ParCircuits : compiled Tryd.prog Tryd.f29 = some (m_spec_ParCircuits, r_spec_ParCircuits) := by kernel_rfl
theorem hb_spec_ParCircuits : hasBody Tryd.prog 29 = true := by kernel_rfl
def L_spec_ParCircuits (a0 : Int) (a1_0 : Int) (a1_1 : List (Int × Int × Int × Int)) (a1_2 : List Int) (a2_0 : Int) (a2_1 : List (Int × Int × Int × Int)) (a2_2 : List Int) : Option (Int × (List (Int × Int × Int × Int)) × List Int × Bool) :=
  Option.bind (Option.bind (L_spec_crGood a0 a1_0 a1_1 a1_2) fun y4 =>
  cond (!y4)
    (some true)
    (Option.bind (L_spec_crGood a0 a2_0 a2_1 a2_2) fun y6 =>
    some (!y6))) fun l3_m17 =>
cond l3_m17
  (some (0, [], [], false))
  (Option.bind (Option.bind (L_spec_crPar a1_0 a1_1 a1_2 a2_0 a2_1 a2_2) fun y10 =>
    Option.bind (L_spec_crIf a0 y10.1 y10.2.1 y10.2.2) fun y11 =>
    (Sum.elim (fun z11_0 =>
    some (z11_0.2, z11_0.1, [], [])) (fun z11_1 =>
    some (z11_1.2, z11_1.1, y10.2.1, y10.2.2))) y11) fun (l9_m7, l9_m6_0, l9_m6_1, l9_m6_2) =>
  some (l9_m6_0, l9_m6_1, l9_m6_2, l9_m7))
def rv_spec_ParCircuits (r : Int × (List (Int × Int × Int × Int)) × List Int × Bool) : RV := ⟨true, [(true, [.sc (.int .i64 r.1), .new 51 (.pair .int (.pair .int (.pair .int .int))) r.2.1, .new 3 .int r.2.2.1]), (false, [.sc (.bool r.2.2.2)])]⟩
theorem ok_spec_ParCircuits {a0 : Int} {a1_0 : Int} {a1_1 : List (Int × Int × Int × Int)} {a1_2 : List Int} {a2_0 : Int} {a2_1 : List (Int × Int × Int × Int)} {a2_2 : List Int} {r : Int × (List (Int × Int × Int × Int)) × List Int × Bool} (h : L_spec_ParCircuits a0 a1_0 a1_1 a1_2 a2_0 a2_1 a2_2 = some r) : CallOK Tryd.prog Tab 29 [(.int .i64 a0), (.agg [(.int .i64 a1_0), (.tree (.pair .int (.pair .int (.pair .int .int))) a1_1), (.tree .int a1_2)]), (.agg [(.int .i64 a2_0), (.tree (.pair .int (.pair .int (.pair .int .int))) a2_1), (.tree .int a2_2)])] (rv_spec_ParCircuits r) := by
  refine call_of_ (by kernel_rfl) Tryd.func29 c_spec_ParCircuits (n := 26) (by kernel_rfl) (by simp) (tl := [(0, (.int .i64 a0)), (1, (.agg [(.int .i64 a1_0), (.tree (.pair .int (.pair .int (.pair .int .int))) a1_1), (.tree .int a1_2)])), (2, (.agg [(.int .i64 a2_0), (.tree (.pair .int (.pair .int (.pair .int .int))) a2_1), (.tree .int a2_2)]))]) rfl ?_
  unfold m_spec_ParCircuits
  unfold L_spec_ParCircuits at h
  refine awp_seq_ ?_
  refine awp_region_ 5 (by kernel_rfl) ?_
  refine rs1 (.box (4, 1) 0) (4, 1) (.cells 31 [(.int .i64 a1_0), (.tree (.pair .int (.pair .int (.pair .int .int))) a1_1), (.tree .int a1_2)]) (by kernel_rfl) ?_
  refine rs1 (.box (5, 2) 0) (5, 2) (.cells 31 [(.int .i64 a2_0), (.tree (.pair .int (.pair .int (.pair .int .int))) a2_1), (.tree .int a2_2)]) (by kernel_rfl) ?_
  refine rs1 (.box (6, 3) 0) (6, 3) (.cells 31 [(.int .i64 0), .nils, .nils]) (by kernel_rfl) ?_
  refine rs0 (.bool false) (by kernel_rfl) ?_
  refine rnil (tn_ ?_)
  refine awp_seq_ ?_
  refine awp_seqB h (fun (l3_m17 : Bool) S_ => S_ = ⟨mkTm [(0, (.int .i64 a0)), (4, (.box (0, 1) 0)), (5, (.box (1, 1) 0)), (6, (.box (2, 1) 0)), (17, (.bool l3_m17))], mkOb (someL [((0, 1), .cells 31 [(.int .i64 a1_0), (.tree (.pair .int (.pair .int (.pair .int .int))) a1_1), (.tree .int a1_2)]), ((1, 1), .cells 31 [(.int .i64 a2_0), (.tree (.pair .int (.pair .int (.pair .int .int))) a2_1), (.tree .int a2_2)]), ((2, 1), .cells 31 [(.int .i64 0), .nils, .nils])]), 2⟩) ?_ ?_
  · intro v_ h
    obtain ⟨y4, h4, h⟩ := ob_some h
    rcases cond_some h with ⟨q5, h⟩ | ⟨q5, h⟩
    · refine awp_region_ 15 (by kernel_rfl) ?_
      refine rs0 (.int .i64 a0) (by kernel_rfl) ?_
      refine rsl (.agg [(.int .i64 a1_0), (.tree (.pair .int (.pair .int (.pair .int .int))) a1_1), (.tree .int a1_2)]) (by kernel_rfl) ?_
      refine rcall (.bool y4) [] [(.int .i64 a0), (.agg [(.int .i64 a1_0), (.tree (.pair .int (.pair .int (.pair .int .int))) a1_1), (.tree .int a1_2)])] _ (caps := []) (args0 := [(.int .i64 a0), (.agg [(.int .i64 a1_0), (.tree (.pair .int (.pair .int (.pair .int .int))) a1_1), (.tree .int a1_2)])]) trivial (by kernel_rfl) (by kernel_rfl) (by kernel_rfl) (by kernel_rfl) (ok_spec_crGood h4) hb_spec_crGood (by kernel_rfl) ?_
      refine rs0 (.bool (!y4)) (by kernel_rfl) ?_
      refine rs0 (.bool (!y4)) (by kernel_rfl) ?_
      refine rs0 (.tup []) (s_skip (by kernel_rfl) q5) ?_
      refine rs0 (.tup []) (s_skip (by kernel_rfl) q5) ?_
      refine rs0 (.tup []) (s_skip (by kernel_rfl) q5) ?_
      refine rs0 (.tup []) (s_skip (by kernel_rfl) q5) ?_
      refine rs0 (.bool true) (s_pickT (by kernel_rfl) q5) ?_
      refine rnil (tn_ ?_)
      obtain rfl := Option.some.inj h
      exact ⟨_, (weak_ren (renF [((0, 1), (4, 1)), ((1, 1), (5, 2)), ((2, 1), (6, 3))]) (by kernel_rfl) (by kernel_rfl) (by kernel_rfl)), rfl⟩
    · obtain ⟨y6, h6, h⟩ := ob_some h
      refine awp_region_ 15 (by kernel_rfl) ?_
      refine rs0 (.int .i64 a0) (by kernel_rfl) ?_
      refine rsl (.agg [(.int .i64 a1_0), (.tree (.pair .int (.pair .int (.pair .int .int))) a1_1), (.tree .int a1_2)]) (by kernel_rfl) ?_
      refine rcall (.bool y4) [] [(.int .i64 a0), (.agg [(.int .i64 a1_0), (.tree (.pair .int (.pair .int (.pair .int .int))) a1_1), (.tree .int a1_2)])] _ (caps := []) (args0 := [(.int .i64 a0), (.agg [(.int .i64 a1_0), (.tree (.pair .int (.pair .int (.pair .int .int))) a1_1), (.tree .int a1_2)])]) trivial (by kernel_rfl) (by kernel_rfl) (by kernel_rfl) (by kernel_rfl) (ok_spec_crGood h4) hb_spec_crGood (by kernel_rfl) ?_
      refine rs0 (.bool (!y4)) (by kernel_rfl) ?_
      refine rs0 (.bool (!y4)) (by kernel_rfl) ?_
      refine rs0 (.int .i64 a0) (s_gd (by kernel_rfl) q5 (by kernel_rfl)) ?_
      refine rsl (.agg [(.int .i64 a2_0), (.tree (.pair .int (.pair .int (.pair .int .int))) a2_1), (.tree .int a2_2)]) (s_gd (by kernel_rfl) q5 (by kernel_rfl)) ?_
      refine rcall (.bool y6) [] [(.int .i64 a0), (.agg [(.int .i64 a2_0), (.tree (.pair .int (.pair .int (.pair .int .int))) a2_1), (.tree .int a2_2)])] _ (caps := []) (args0 := [(.int .i64 a0), (.agg [(.int .i64 a2_0), (.tree (.pair .int (.pair .int (.pair .int .int))) a2_1), (.tree .int a2_2)])]) (gdOK_b (by kernel_rfl) q5) (by kernel_rfl) (by kernel_rfl) (by kernel_rfl) (by kernel_rfl) (ok_spec_crGood h6) hb_spec_crGood (by kernel_rfl) ?_
      refine rs0 (.bool (!y6)) (s_gd (by kernel_rfl) q5 (by kernel_rfl)) ?_
      refine rs0 (.bool (!y6)) (s_pickF (by kernel_rfl) q5) ?_
      refine rnil (tn_ ?_)
      obtain rfl := Option.some.inj h
      exact ⟨_, (weak_ren (renF [((0, 1), (4, 1)), ((1, 1), (5, 2)), ((2, 1), (6, 3))]) (by kernel_rfl) (by kernel_rfl) (by kernel_rfl)), rfl⟩
  · rintro l3_m17 _ rfl h
    (try dsimp only at h)
    rcases cond_some h with ⟨q7, h⟩ | ⟨q7, h⟩
    · refine awp_condT_ q7 (by kernel_rfl) ?_
      refine awp_seq_ ?_
      refine awp_region_ 5 (by kernel_rfl) ?_
      refine rs0 (.agg [(.int .i64 0), .nils, .nils]) (by kernel_rfl) ?_
      refine rsn2 (2, 1) (2, 1) (.cells 31 [(.int .i64 0), .nils, .nils]) (by kernel_rfl) ?_
      refine rs0 (.bool false) (by kernel_rfl) ?_
      refine rnil (tn_ ?_)
      refine awp_ret_ (tr_ ?_)
      obtain rfl := Option.some.inj h
      exact ret_ [(.agg [(.int .i64 0), .nils, .nils]), (.bool false)] (by simp) (by kernel_rfl) (p_agg (l_cons (l_sc (by kernel_rfl)) (l_cons (l_nils rfl) (l_cons (l_nils rfl) l_nil))) (p_one rfl (l_sc (by kernel_rfl)) p_nil)) (by kernel_rfl) (by kernel_rfl)
    · refine awp_condF_ q7 (by kernel_rfl) ?_
      refine awp_skip_ (tn_ ?_)
      refine awp_seqB h (fun t_ S_ => ∃ (l9_m7 : Bool), ∃ (l9_m6_0 : Int), ∃ (l9_m6_1 : List (Int × Int × Int × Int)), ∃ (l9_m6_2 : List Int), t_ = (l9_m7, l9_m6_0, l9_m6_1, l9_m6_2) ∧ S_ = ⟨mkTm [(6, (.box (0, 1) 0)), (7, (.bool l9_m7))], mkOb (someL [((0, 1), .cells 31 [(.int .i64 l9_m6_0), (.own (1, 1) (.pair .int (.pair .int (.pair .int .int))) 0 l9_m6_1.length), (.own (2, 1) .int 0 l9_m6_2.length)]), ((1, 1), .arr 51 (.pair .int (.pair .int (.pair .int .int))) l9_m6_1), ((2, 1), .arr 3 .int l9_m6_2)]), 2⟩) ?_ ?_
      · intro v_ h
        obtain ⟨y10, h10, h⟩ := ob_some h
        obtain ⟨y11, h11, h⟩ := ob_some h
        rcases y11 with z11_0 | z11_1
        · (try simp only [Sum.elim_inl, Sum.elim_inr] at h)
          refine awp_region_ 11 (by kernel_rfl) ?_
          refine rs0 (.int .i64 a0) (by kernel_rfl) ?_
          refine rsl (.agg [(.int .i64 a1_0), (.tree (.pair .int (.pair .int (.pair .int .int))) a1_1), (.tree .int a1_2)]) (by kernel_rfl) ?_
          refine rsl (.agg [(.int .i64 a2_0), (.tree (.pair .int (.pair .int (.pair .int .int))) a2_1), (.tree .int a2_2)]) (by kernel_rfl) ?_
          refine rcall (.agg [(.int .i64 y10.1), (.own (352, 5) (.pair .int (.pair .int (.pair .int .int))) 0 y10.2.1.length), (.own (353, 5) .int 0 y10.2.2.length)]) [((352, 5), some (.arr 51 (.pair .int (.pair .int (.pair .int .int))) y10.2.1)), ((353, 5), some (.arr 3 .int y10.2.2))] [(.agg [(.int .i64 a1_0), (.tree (.pair .int (.pair .int (.pair .int .int))) a1_1), (.tree .int a1_2)]), (.agg [(.int .i64 a2_0), (.tree (.pair .int (.pair .int (.pair .int .int))) a2_1), (.tree .int a2_2)])] _ (caps := []) (args0 := [(.agg [(.int .i64 a1_0), (.tree (.pair .int (.pair .int (.pair .int .int))) a1_1), (.tree .int a1_2)]), (.agg [(.int .i64 a2_0), (.tree (.pair .int (.pair .int (.pair .int .int))) a2_1), (.tree .int a2_2)])]) trivial (by kernel_rfl) (by kernel_rfl) (by kernel_rfl) (by kernel_rfl) (ok_spec_crPar h10) hb_spec_crPar (by kernel_rfl) ?_
          refine rcall (.tup [(.agg [(.int .i64 z11_0.1), .nils, .nils]), (.bool z11_0.2)]) [] [(.int .i64 a0), (.agg [(.int .i64 y10.1), (.own (352, 5) (.pair .int (.pair .int (.pair .int .int))) 0 y10.2.1.length), (.own (353, 5) .int 0 y10.2.2.length)])] _ (caps := []) (args0 := [(.int .i64 a0), (.agg [(.int .i64 y10.1), (.tree (.pair .int (.pair .int (.pair .int .int))) y10.2.1), (.tree .int y10.2.2)])]) trivial (by kernel_rfl) (by kernel_rfl) (gm_cons (by kernel_rfl) (gm_cons (gd_agg (gm_cons (by kernel_rfl) (gm_cons (gd_own (e := 51) (by kernel_rfl) rfl) (gm_cons (gd_own (e := 3) (by kernel_rfl) rfl) gm_nil)))) gm_nil)) (by kernel_rfl) (ok_spec_crIf h11) hb_spec_crIf (by kernel_rfl) ?_
          refine rs0 (.agg [(.int .i64 z11_0.1), .nils, .nils]) (by kernel_rfl) ?_
          refine rs0 (.bool z11_0.2) (by kernel_rfl) ?_
          refine rsn2 (2, 1) (2, 1) (.cells 31 [(.int .i64 z11_0.1), .nils, .nils]) (by kernel_rfl) ?_
          refine rs0 (.bool z11_0.2) (by kernel_rfl) ?_
          refine rnil (tn_ ?_)
          obtain rfl := Option.some.inj h
          exact ⟨_, ((weak_nil_cell_ 9000 (2, 1) 1 31 [(.int .i64 z11_0.1), .nils, .nils] [(.int .i64 z11_0.1), (.own (9000, 11) (.pair .int (.pair .int (.pair .int .int))) 0 0), .nils] 51 (.pair .int (.pair .int (.pair .int .int))) rfl (by kernel_rfl) (by kernel_rfl) (by kernel_rfl)).trans ((weak_nil_cell_ 9001 (2, 1) 2 31 [(.int .i64 z11_0.1), (.own (9000, 11) (.pair .int (.pair .int (.pair .int .int))) 0 0), .nils] [(.int .i64 z11_0.1), (.own (9000, 11) (.pair .int (.pair .int (.pair .int .int))) 0 0), (.own (9001, 12) .int 0 0)] 3 .int rfl (by kernel_rfl) (by kernel_rfl) (by kernel_rfl)).trans (weak_ren (renF [((0, 1), (2, 1)), ((1, 1), (9000, 11)), ((2, 1), (9001, 12))]) (by kernel_rfl) (by kernel_rfl) (by kernel_rfl)))), ⟨z11_0.2, z11_0.1, [], [], rfl, rfl⟩⟩
        · (try simp only [Sum.elim_inl, Sum.elim_inr] at h)
          refine awp_region_ 11 (by kernel_rfl) ?_
          refine rs0 (.int .i64 a0) (by kernel_rfl) ?_
          refine rsl (.agg [(.int .i64 a1_0), (.tree (.pair .int (.pair .int (.pair .int .int))) a1_1), (.tree .int a1_2)]) (by kernel_rfl) ?_
          refine rsl (.agg [(.int .i64 a2_0), (.tree (.pair .int (.pair .int (.pair .int .int))) a2_1), (.tree .int a2_2)]) (by kernel_rfl) ?_
          refine rcall (.agg [(.int .i64 y10.1), (.own (352, 5) (.pair .int (.pair .int (.pair .int .int))) 0 y10.2.1.length), (.own (353, 5) .int 0 y10.2.2.length)]) [((352, 5), some (.arr 51 (.pair .int (.pair .int (.pair .int .int))) y10.2.1)), ((353, 5), some (.arr 3 .int y10.2.2))] [(.agg [(.int .i64 a1_0), (.tree (.pair .int (.pair .int (.pair .int .int))) a1_1), (.tree .int a1_2)]), (.agg [(.int .i64 a2_0), (.tree (.pair .int (.pair .int (.pair .int .int))) a2_1), (.tree .int a2_2)])] _ (caps := []) (args0 := [(.agg [(.int .i64 a1_0), (.tree (.pair .int (.pair .int (.pair .int .int))) a1_1), (.tree .int a1_2)]), (.agg [(.int .i64 a2_0), (.tree (.pair .int (.pair .int (.pair .int .int))) a2_1), (.tree .int a2_2)])]) trivial (by kernel_rfl) (by kernel_rfl) (by kernel_rfl) (by kernel_rfl) (ok_spec_crPar h10) hb_spec_crPar (by kernel_rfl) ?_
          refine rcall (.tup [(.agg [(.int .i64 z11_1.1), (.own (352, 5) (.pair .int (.pair .int (.pair .int .int))) 0 y10.2.1.length), (.own (353, 5) .int 0 y10.2.2.length)]), (.bool z11_1.2)]) [] [(.int .i64 a0), (.agg [(.int .i64 y10.1), (.own (352, 5) (.pair .int (.pair .int (.pair .int .int))) 0 y10.2.1.length), (.own (353, 5) .int 0 y10.2.2.length)])] _ (caps := []) (args0 := [(.int .i64 a0), (.agg [(.int .i64 y10.1), (.tree (.pair .int (.pair .int (.pair .int .int))) y10.2.1), (.tree .int y10.2.2)])]) trivial (by kernel_rfl) (by kernel_rfl) (gm_cons (by kernel_rfl) (gm_cons (gd_agg (gm_cons (by kernel_rfl) (gm_cons (gd_own (e := 51) (by kernel_rfl) rfl) (gm_cons (gd_own (e := 3) (by kernel_rfl) rfl) gm_nil)))) gm_nil)) (by kernel_rfl) (ok_spec_crIf h11) hb_spec_crIf (by kernel_rfl) ?_
          refine rs0 (.agg [(.int .i64 z11_1.1), (.own (352, 5) (.pair .int (.pair .int (.pair .int .int))) 0 y10.2.1.length), (.own (353, 5) .int 0 y10.2.2.length)]) (by kernel_rfl) ?_
          refine rs0 (.bool z11_1.2) (by kernel_rfl) ?_
          refine rsn2 (2, 1) (2, 1) (.cells 31 [(.int .i64 z11_1.1), (.own (352, 5) (.pair .int (.pair .int (.pair .int .int))) 0 y10.2.1.length), (.own (353, 5) .int 0 y10.2.2.length)]) (by kernel_rfl) ?_
          refine rs0 (.bool z11_1.2) (by kernel_rfl) ?_
          refine rnil (tn_ ?_)
          obtain rfl := Option.some.inj h
          exact ⟨_, (weak_ren (renF [((0, 1), (2, 1)), ((1, 1), (352, 5)), ((2, 1), (353, 5))]) (by kernel_rfl) (by kernel_rfl) (by kernel_rfl)), ⟨z11_1.2, z11_1.1, y10.2.1, y10.2.2, rfl, rfl⟩⟩
      · rintro _ _ ⟨l9_m7, l9_m6_0, l9_m6_1, l9_m6_2, rfl, rfl⟩ h
        (try dsimp only at h)
        refine awp_ret_ ?_
        obtain rfl := Option.some.inj h
        exact ret_ [(.agg [(.int .i64 l9_m6_0), (.own (1, 1) (.pair .int (.pair .int (.pair .int .int))) 0 l9_m6_1.length), (.own (2, 1) .int 0 l9_m6_2.length)]), (.bool l9_m7)] (by simp) (by kernel_rfl) (p_agg (l_cons (l_sc (by kernel_rfl)) (l_cons (l_own (by kernel_rfl) rfl) (l_cons (l_own (by kernel_rfl) rfl) l_nil))) (p_one rfl (l_sc (by kernel_rfl)) p_nil)) (by kernel_rfl) (by kernel_rfl)
def m_impl_ParCircuits_1 : AC :=
  (.seq (.region [⟨(some 3), none, (.i (.mov (.cst (.int .i64 0))))⟩] false [])
  (.seq (.region [⟨(some 4), none, (.i (.mov (.tmp 0)))⟩, ⟨(some 5), none, (.i (.fld 1 (.tmp 1)))⟩, ⟨(some 6), none, (.i (.ld true 1 (.tmp 5)))⟩, ⟨(some 7), none, (.i (.len (.tmp 6)))⟩, ⟨(some 8), none, (.i (.bin .add (.tmp 4) (.tmp 7)))⟩, ⟨(some 3), none, (.i (.mov (.tmp 8)))⟩] false [])
  .ret))
def r_impl_ParCircuits_1 : List Res := [.tmp 3]
theorem c_impl_ParCircuits_1 : compiled Tryd.prog Tryd.f65 = some (m_impl_ParCircuits_1, r_impl_ParCircuits_1) := by kernel_rfl
theorem hb_impl_ParCircuits_1 : hasBody Tryd.prog 65 = true := by kernel_rfl
def L_impl_ParCircuits_1 (a0 : Int) (c0_0 : Int) (c0_1 : List (Int × Int × Int × Int)) (c0_2 : List Int) : Option Int :=
  some (IntKind.i64.wrap (a0 + ((c0_1.length : Nat) : Int)))
def rv_impl_ParCircuits_1 (r : Int) : RV := ⟨false, [(false, [.sc (.int .i64 r)])]⟩
theorem ok_impl_ParCircuits_1 {a0 : Int} {c0_0 : Int} {c0_1 : List (Int × Int × Int × Int)} {c0_2 : List Int} {r : Int} (h : L_impl_ParCircuits_1 a0 c0_0 c0_1 c0_2 = some r) : CallOK Tryd.prog Tab 65 [(.int .i64 a0), (.ref [(.int .i64 c0_0), (.tree (.pair .int (.pair .int (.pair .int .int))) c0_1), (.tree .int c0_2)])] (rv_impl_ParCircuits_1 r) := by
  refine call_of_ (by kernel_rfl) Tryd.func65 c_impl_ParCircuits_1 (n := 9) (by kernel_rfl) (by simp) (tl := [(0, (.int .i64 a0)), (1, (.ref [(.int .i64 c0_0), (.tree (.pair .int (.pair .int (.pair .int .int))) c0_1), (.tree .int c0_2)]))]) rfl ?_
  unfold m_impl_ParCircuits_1
  unfold L_impl_ParCircuits_1 at h
  refine awp_seq_ ?_
  refine awp_region_ 2 (by kernel_rfl) ?_
  refine rs0 (.int .i64 0) (by kernel_rfl) ?_
  refine rnil (tn_ ?_)
  refine awp_seq_ ?_
  refine awp_region_ 8 (by kernel_rfl) ?_
  refine rs0 (.int .i64 a0) (by kernel_rfl) ?_
  refine rs0 (.ref [(.tree (.pair .int (.pair .int (.pair .int .int))) c0_1), (.tree .int c0_2)]) (by kernel_rfl) ?_
  refine rs0 (.tree (.pair .int (.pair .int (.pair .int .int))) c0_1) (by kernel_rfl) ?_
  refine rs0 (.int .i64 ((c0_1.length : Nat) : Int)) (by kernel_rfl) ?_
  refine rs0 (.int .i64 (IntKind.i64.wrap (a0 + ((c0_1.length : Nat) : Int)))) (by kernel_rfl) ?_
  refine rs0 (.int .i64 (IntKind.i64.wrap (a0 + ((c0_1.length : Nat) : Int)))) (by kernel_rfl) ?_
  refine rnil (tn_ ?_)
  refine awp_ret_ ?_
  obtain rfl := Option.some.inj h
  exact ret_ [(.int .i64 (IntKind.i64.wrap (a0 + ((c0_1.length : Nat) : Int))))] (by simp) (by kernel_rfl) (p_one rfl (l_sc (by kernel_rfl)) p_nil) (by kernel_rfl) (by kernel_rfl)
def m_impl_Gate_withOperands : AC :=
  (.seq (.region [⟨(some 2), none, (.i (.box 51 (.tmp 0)))⟩, ⟨(some 4), none, (.i (.alloc 51 [(.int .i64 0), (.int .i64 0), (.int .i64 0), (.int .i64 0)]))⟩] false [])
  (.seq (.seq (.region [⟨(some 5), none, (.i (.fld 0 (.tmp 2)))⟩, ⟨(some 6), none, (.i (.ld true 1 (.tmp 5)))⟩] false [])
  (.block 0 (.seq (.region [⟨(some 8), none, (.i (.bin .eql (.tmp 6) (.cst (.int .i64 3))))⟩, ⟨(some 7), none, (.i (.mov (.tmp 8)))⟩] false [])
  (.cond (.tmp 7)
    (.region [⟨(some 9), none, (.i (.mov (.tmp 1)))⟩, ⟨(some 10), none, (.i (.fld 1 (.tmp 2)))⟩, ⟨(some 11), none, (.i (.ld true 1 (.tmp 10)))⟩, ⟨(some 12), none, (.call (.tmp 9) [(.tmp 11)] [[]])⟩, ⟨(some 13), none, (.i (.mov (.tmp 1)))⟩, ⟨(some 14), none, (.i (.fld 2 (.tmp 2)))⟩, ⟨(some 15), none, (.i (.ld true 1 (.tmp 14)))⟩, ⟨(some 16), none, (.call (.tmp 13) [(.tmp 15)] [[]])⟩, ⟨(some 17), none, (.i (.fld 1 (.tmp 2)))⟩, ⟨none, none, (.st true 1 (.tmp 17) (.tmp 12))⟩, ⟨(some 18), none, (.i (.fld 2 (.tmp 2)))⟩, ⟨none, none, (.st true 1 (.tmp 18) (.tmp 16))⟩] true [(3, 6)])
    (.seq (.seq (.region [⟨(some 20), none, (.i (.bin .eql (.tmp 6) (.cst (.int .i64 4))))⟩, ⟨(some 19), none, (.i (.mov (.tmp 20)))⟩] false [])
    (.cond (.tmp 19)
      .skip
      (.region [⟨(some 21), none, (.i (.bin .eql (.tmp 6) (.cst (.int .i64 5))))⟩, ⟨(some 19), none, (.i (.mov (.tmp 21)))⟩] false [])))
    (.cond (.tmp 19)
      (.region [⟨(some 22), none, (.i (.mov (.tmp 1)))⟩, ⟨(some 23), none, (.i (.fld 1 (.tmp 2)))⟩, ⟨(some 24), none, (.i (.ld true 1 (.tmp 23)))⟩, ⟨(some 25), none, (.call (.tmp 22) [(.tmp 24)] [[]])⟩, ⟨(some 26), none, (.i (.fld 1 (.tmp 2)))⟩, ⟨none, none, (.st true 1 (.tmp 26) (.tmp 25))⟩] false [])
      .skip))))))
  (.seq (.region [⟨(some 27), none, (.i (.ld false 4 (.tmp 2)))⟩, ⟨none, none, (.st false 4 (.tmp 4) (.tmp 27))⟩] false [])
  .ret)))
def r_impl_Gate_withOperands : List Res := [.cell 4 false 4]
theorem c_impl_Gate_withOperands : compiled Tryd.prog Tryd.f54 = some (m_impl_Gate_withOperands, r_impl_Gate_withOperands) := by kernel_rfl
theorem hb_impl_Gate_withOperands : hasBody Tryd.prog 54 = true := by kernel_rfl
def L_impl_Gate_withOperands_for_impl_ParCircuits_1 (a0_0 : Int) (a0_1 : Int) (a0_2 : Int) (a0_3 : Int) (a1_0_0 : Int) (a1_0_1 : List (Int × Int × Int × Int)) (a1_0_2 : List Int) : Option (Int × Int × Int × Int) :=
  Option.bind (cond (a0_0 == 3)
    (Option.bind (L_impl_ParCircuits_1 a0_1 a1_0_0 a1_0_1 a1_0_2) fun y6 =>
    Option.bind (L_impl_ParCircuits_1 a0_2 a1_0_0 a1_0_1 a1_0_2) fun y7 =>
    some (y6, y7))
    (Option.bind (cond (a0_0 == 4)
        (some (a0_0 == 4))
        (some (a0_0 == 5))) fun l8_m19 =>
    cond l8_m19
      (Option.bind (L_impl_ParCircuits_1 a0_1 a1_0_0 a1_0_1 a1_0_2) fun y12 =>
      some (y12, a0_2))
      (some (a0_1, a0_2)))) fun (l2_m2_1, l2_m2_2) =>
some (a0_0, l2_m2_1, l2_m2_2, a0_3)
def rv_impl_Gate_withOperands_for_impl_ParCircuits_1 (r : Int × Int × Int × Int) : RV := ⟨false, [(true, [.sc (.int .i64 r.1), .sc (.int .i64 r.2.1), .sc (.int .i64 r.2.2.1), .sc (.int .i64 r.2.2.2)])]⟩
theorem ok_impl_Gate_withOperands_for_impl_ParCircuits_1 {a0_0 : Int} {a0_1 : Int} {a0_2 : Int} {a0_3 : Int} {a1_0_0 : Int} {a1_0_1 : List (Int × Int × Int × Int)} {a1_0_2 : List Int} {r : Int × Int × Int × Int} (h : L_impl_Gate_withOperands_for_impl_ParCircuits_1 a0_0 a0_1 a0_2 a0_3 a1_0_0 a1_0_1 a1_0_2 = some r) : CallOK Tryd.prog Tab 54 [(.agg [(.int .i64 a0_0), (.int .i64 a0_1), (.int .i64 a0_2), (.int .i64 a0_3)]), (.fn 65 [(.ref [(.int .i64 a1_0_0), (.tree (.pair .int (.pair .int (.pair .int .int))) a1_0_1), (.tree .int a1_0_2)])])] (rv_impl_Gate_withOperands_for_impl_ParCircuits_1 r) := by
  refine call_of_ (by kernel_rfl) Tryd.func54 c_impl_Gate_withOperands (n := 28) (by kernel_rfl) (by simp) (tl := [(0, (.agg [(.int .i64 a0_0), (.int .i64 a0_1), (.int .i64 a0_2), (.int .i64 a0_3)])), (1, (.fn 65 [(.ref [(.int .i64 a1_0_0), (.tree (.pair .int (.pair .int (.pair .int .int))) a1_0_1), (.tree .int a1_0_2)])]))]) rfl ?_
  unfold m_impl_Gate_withOperands
  unfold L_impl_Gate_withOperands_for_impl_ParCircuits_1 at h
  refine awp_seq_ ?_
  refine awp_region_ 3 (by kernel_rfl) ?_
  refine rs1 (.box (2, 1) 0) (2, 1) (.cells 51 [(.int .i64 a0_0), (.int .i64 a0_1), (.int .i64 a0_2), (.int .i64 a0_3)]) (by kernel_rfl) ?_
  refine rs1 (.box (4, 2) 0) (4, 2) (.cells 51 [(.int .i64 0), (.int .i64 0), (.int .i64 0), (.int .i64 0)]) (by kernel_rfl) ?_
  refine rnil (tn_ ?_)
  refine awp_seqB h (fun t_ S_ => ∃ (l2_m2_1 : Int), ∃ (l2_m2_2 : Int), t_ = (l2_m2_1, l2_m2_2) ∧ S_ = ⟨mkTm [(2, (.box (0, 1) 0)), (4, (.box (1, 1) 0))], mkOb (someL [((0, 1), .cells 51 [(.int .i64 a0_0), (.int .i64 l2_m2_1), (.int .i64 l2_m2_2), (.int .i64 a0_3)]), ((1, 1), .cells 51 [(.int .i64 0), (.int .i64 0), (.int .i64 0), (.int .i64 0)])]), 2⟩) ?_ ?_
  · intro v_ h
    refine awp_seq_ ?_
    refine awp_region_ 5 (by kernel_rfl) ?_
    refine rs0 (.box (2, 1) 0) (by kernel_rfl) ?_
    refine rsl (.int .i64 a0_0) (by kernel_rfl) ?_
    refine rnil (tn_ ?_)
    refine awp_block_ ?_
    refine awp_seq_ ?_
    refine awp_region_ 7 (by kernel_rfl) ?_
    refine rs0 (.bool (a0_0 == 3)) (by kernel_rfl) ?_
    refine rs0 (.bool (a0_0 == 3)) (by kernel_rfl) ?_
    refine rnil (tn_ ?_)
    rcases cond_some h with ⟨q5, h⟩ | ⟨q5, h⟩
    · refine awp_condT_ q5 (by kernel_rfl) ?_
      obtain ⟨y6, h6, h⟩ := ob_some h
      obtain ⟨y7, h7, h⟩ := ob_some h
      refine awp_regionD_ 19 (by kernel_rfl) ?_
      refine ds0 (.fn 65 [(.ref [(.int .i64 a1_0_0), (.tree (.pair .int (.pair .int (.pair .int .int))) a1_0_1), (.tree .int a1_0_2)])]) (by kernel_rfl) ?_
      refine ds0 (.box (2, 1) 1) (by kernel_rfl) ?_
      refine dsl (.int .i64 a0_1) (by kernel_rfl) ?_
      refine dcall (.int .i64 y6) [] [(.int .i64 a0_1), (.ref [(.int .i64 a1_0_0), (.tree (.pair .int (.pair .int (.pair .int .int))) a1_0_1), (.tree .int a1_0_2)])] _ (caps := [(.ref [(.int .i64 a1_0_0), (.tree (.pair .int (.pair .int (.pair .int .int))) a1_0_1), (.tree .int a1_0_2)])]) (args0 := [(.int .i64 a0_1), (.ref [(.int .i64 a1_0_0), (.tree (.pair .int (.pair .int (.pair .int .int))) a1_0_1), (.tree .int a1_0_2)])]) trivial (by kernel_rfl) (by kernel_rfl) (by kernel_rfl) (by kernel_rfl) (ok_impl_ParCircuits_1 h6) hb_impl_ParCircuits_1 (by kernel_rfl) ?_
      refine ds0 (.fn 65 [(.ref [(.int .i64 a1_0_0), (.tree (.pair .int (.pair .int (.pair .int .int))) a1_0_1), (.tree .int a1_0_2)])]) (by kernel_rfl) ?_
      refine ds0 (.box (2, 1) 2) (by kernel_rfl) ?_
      refine dsl (.int .i64 a0_2) (by kernel_rfl) ?_
      refine dcall (.int .i64 y7) [] [(.int .i64 a0_2), (.ref [(.int .i64 a1_0_0), (.tree (.pair .int (.pair .int (.pair .int .int))) a1_0_1), (.tree .int a1_0_2)])] _ (caps := [(.ref [(.int .i64 a1_0_0), (.tree (.pair .int (.pair .int (.pair .int .int))) a1_0_1), (.tree .int a1_0_2)])]) (args0 := [(.int .i64 a0_2), (.ref [(.int .i64 a1_0_0), (.tree (.pair .int (.pair .int (.pair .int .int))) a1_0_1), (.tree .int a1_0_2)])]) trivial (by kernel_rfl) (by kernel_rfl) (by kernel_rfl) (by kernel_rfl) (ok_impl_ParCircuits_1 h7) hb_impl_ParCircuits_1 (by kernel_rfl) ?_
      refine ds0 (.box (2, 1) 1) (by kernel_rfl) ?_
      refine dsn2 (2, 1) (2, 1) (.cells 51 [(.int .i64 a0_0), (.int .i64 y6), (.int .i64 a0_2), (.int .i64 a0_3)]) (by kernel_rfl) ?_
      refine ds0 (.box (2, 1) 2) (by kernel_rfl) ?_
      refine dsn2 (2, 1) (2, 1) (.cells 51 [(.int .i64 a0_0), (.int .i64 y6), (.int .i64 y7), (.int .i64 a0_3)]) (by kernel_rfl) ?_
      refine dnil (by kernel_rfl) (bn_ (tn_ ?_))
      obtain rfl := Option.some.inj h
      exact ⟨_, (weak_ren (renF [((0, 1), (2, 1)), ((1, 1), (4, 2))]) (by kernel_rfl) (by kernel_rfl) (by kernel_rfl)), ⟨y6, y7, rfl, rfl⟩⟩
    · refine awp_condF_ q5 (by kernel_rfl) ?_
      refine awp_seqB h (fun (l8_m19 : Bool) S_ => S_ = ⟨mkTm [(1, (.fn 65 [(.ref [(.int .i64 a1_0_0), (.tree (.pair .int (.pair .int (.pair .int .int))) a1_0_1), (.tree .int a1_0_2)])])), (2, (.box (0, 1) 0)), (4, (.box (1, 1) 0)), (19, (.bool l8_m19))], mkOb (someL [((0, 1), .cells 51 [(.int .i64 a0_0), (.int .i64 a0_1), (.int .i64 a0_2), (.int .i64 a0_3)]), ((1, 1), .cells 51 [(.int .i64 0), (.int .i64 0), (.int .i64 0), (.int .i64 0)])]), 2⟩) ?_ ?_
      · intro v_ h
        refine awp_seq_ ?_
        refine awp_region_ 9 (by kernel_rfl) ?_
        refine rs0 (.bool (a0_0 == 4)) (by kernel_rfl) ?_
        refine rs0 (.bool (a0_0 == 4)) (by kernel_rfl) ?_
        refine rnil (tn_ ?_)
        rcases cond_some h with ⟨q10, h⟩ | ⟨q10, h⟩
        · refine awp_condT_ q10 (by kernel_rfl) ?_
          refine awp_skip_ (tn_ ?_)
          obtain rfl := Option.some.inj h
          exact ⟨_, (weak_ren (renF [((0, 1), (2, 1)), ((1, 1), (4, 2))]) (by kernel_rfl) (by kernel_rfl) (by kernel_rfl)), rfl⟩
        · refine awp_condF_ q10 (by kernel_rfl) ?_
          refine awp_region_ 11 (by kernel_rfl) ?_
          refine rs0 (.bool (a0_0 == 5)) (by kernel_rfl) ?_
          refine rs0 (.bool (a0_0 == 5)) (by kernel_rfl) ?_
          refine rnil (tn_ ?_)
          obtain rfl := Option.some.inj h
          exact ⟨_, (weak_ren (renF [((0, 1), (2, 1)), ((1, 1), (4, 2))]) (by kernel_rfl) (by kernel_rfl) (by kernel_rfl)), rfl⟩
      · rintro l8_m19 _ rfl h
        (try dsimp only at h)
        rcases cond_some h with ⟨q11, h⟩ | ⟨q11, h⟩
        · refine awp_condT_ q11 (by kernel_rfl) ?_
          obtain ⟨y12, h12, h⟩ := ob_some h
          refine awp_region_ 8 (by kernel_rfl) ?_
          refine rs0 (.fn 65 [(.ref [(.int .i64 a1_0_0), (.tree (.pair .int (.pair .int (.pair .int .int))) a1_0_1), (.tree .int a1_0_2)])]) (by kernel_rfl) ?_
          refine rs0 (.box (0, 1) 1) (by kernel_rfl) ?_
          refine rsl (.int .i64 a0_1) (by kernel_rfl) ?_
          refine rcall (.int .i64 y12) [] [(.int .i64 a0_1), (.ref [(.int .i64 a1_0_0), (.tree (.pair .int (.pair .int (.pair .int .int))) a1_0_1), (.tree .int a1_0_2)])] _ (caps := [(.ref [(.int .i64 a1_0_0), (.tree (.pair .int (.pair .int (.pair .int .int))) a1_0_1), (.tree .int a1_0_2)])]) (args0 := [(.int .i64 a0_1), (.ref [(.int .i64 a1_0_0), (.tree (.pair .int (.pair .int (.pair .int .int))) a1_0_1), (.tree .int a1_0_2)])]) trivial (by kernel_rfl) (by kernel_rfl) (by kernel_rfl) (by kernel_rfl) (ok_impl_ParCircuits_1 h12) hb_impl_ParCircuits_1 (by kernel_rfl) ?_
          refine rs0 (.box (0, 1) 1) (by kernel_rfl) ?_
          refine rsn2 (0, 1) (0, 1) (.cells 51 [(.int .i64 a0_0), (.int .i64 y12), (.int .i64 a0_2), (.int .i64 a0_3)]) (by kernel_rfl) ?_
          refine rnil (bn_ (tn_ ?_))
          obtain rfl := Option.some.inj h
          exact ⟨_, (weak_ren (renF []) (by kernel_rfl) (by kernel_rfl) (by kernel_rfl)), ⟨y12, a0_2, rfl, rfl⟩⟩
        · refine awp_condF_ q11 (by kernel_rfl) ?_
          refine awp_skip_ (bn_ (tn_ ?_))
          obtain rfl := Option.some.inj h
          exact ⟨_, (weak_ren (renF []) (by kernel_rfl) (by kernel_rfl) (by kernel_rfl)), ⟨a0_1, a0_2, rfl, rfl⟩⟩
  · rintro _ _ ⟨l2_m2_1, l2_m2_2, rfl, rfl⟩ h
    (try dsimp only at h)
    refine awp_seq_ ?_
    refine awp_region_ 4 (by kernel_rfl) ?_
    refine rsl (.agg [(.int .i64 a0_0), (.int .i64 l2_m2_1), (.int .i64 l2_m2_2), (.int .i64 a0_3)]) (by kernel_rfl) ?_
    refine rsn2 (1, 1) (1, 1) (.cells 51 [(.int .i64 a0_0), (.int .i64 l2_m2_1), (.int .i64 l2_m2_2), (.int .i64 a0_3)]) (by kernel_rfl) ?_
    refine rnil (tn_ ?_)
    refine awp_ret_ ?_
    obtain rfl := Option.some.inj h
    exact ret_ [(.agg [(.int .i64 a0_0), (.int .i64 l2_m2_1), (.int .i64 l2_m2_2), (.int .i64 a0_3)])] (by simp) (by kernel_rfl) (p_agg (l_cons (l_sc (by kernel_rfl)) (l_cons (l_sc (by kernel_rfl)) (l_cons (l_sc (by kernel_rfl)) (l_cons (l_sc (by kernel_rfl)) l_nil)))) p_nil) (by kernel_rfl) (by kernel_rfl)
def m_impl_ParCircuits_l2 : AC :=
  (.seq (.region [⟨(some 63), none, (.i (.bin .lss (.tmp 62) (.tmp 61)))⟩] false [])
  (.seq (.cond (.tmp 63)
    .skip
    (.exit 2))
  (.seq (.block 3 (.seq (.region [⟨(some 64), none, (.i (.idx 1 (.tmp 60) (.tmp 62)))⟩, ⟨(some 65), none, (.i (.ld true 1 (.tmp 64)))⟩, ⟨(some 13), none, (.i (.mov (.tmp 65)))⟩] false [])
  (.region [⟨(some 66), none, (.i (.fld 2 (.tmp 8)))⟩, ⟨(some 67), none, (.i (.ld true 1 (.tmp 66)))⟩, ⟨(some 68), none, (.i (.mov (.tmp 9)))⟩, ⟨(some 69), none, (.i (.mov (.tmp 13)))⟩, ⟨(some 70), none, (.call (.tmp 68) [(.tmp 69)] [[]])⟩, ⟨(some 71), none, (.mkS 3 .int [(.tmp 70)])⟩, ⟨(some 72), none, (.append 3 .int 8 (.tmp 67) (.tmp 71))⟩, ⟨(some 73), none, (.i (.fld 2 (.tmp 8)))⟩, ⟨none, none, (.st true 1 (.tmp 73) (.tmp 72))⟩] true [(1, 4)])))
  (.region [⟨(some 74), none, (.i (.bin .add (.tmp 62) (.cst (.int .i64 1))))⟩, ⟨(some 62), none, (.i (.mov (.tmp 74)))⟩] false []))))
def m_impl_ParCircuits_l1 : AC :=
  (.seq (.region [⟨(some 38), none, (.i (.bin .lss (.tmp 37) (.tmp 36)))⟩] false [])
  (.seq (.cond (.tmp 38)
    .skip
    (.exit 0))
  (.seq (.block 1 (.seq (.region [⟨(some 39), none, (.i (.idx 4 (.tmp 35) (.tmp 37)))⟩, ⟨(some 40), none, (.i (.ld false 4 (.tmp 39)))⟩, ⟨(some 11), none, (.i (.alloc 51 [(.int .i64 0), (.int .i64 0), (.int .i64 0), (.int .i64 0)]))⟩, ⟨none, none, (.st false 4 (.tmp 11) (.tmp 40))⟩] false [])
  (.seq (.seq (.region [⟨(some 41), none, (.i (.fld 0 (.tmp 11)))⟩, ⟨(some 42), none, (.i (.ld true 1 (.tmp 41)))⟩, ⟨(some 43), none, (.i (.bin .eql (.tmp 42) (.cst (.int .i64 1))))⟩] false [])
  (.cond (.tmp 43)
    (.region [⟨(some 44), none, (.i (.fld 3 (.tmp 11)))⟩, ⟨(some 45), none, (.i (.ld true 1 (.tmp 44)))⟩, ⟨(some 46), none, (.i (.fld 0 (.tmp 4)))⟩, ⟨(some 47), none, (.i (.ld true 1 (.tmp 46)))⟩, ⟨(some 48), none, (.i (.bin .add (.tmp 45) (.tmp 47)))⟩, ⟨(some 49), none, (.i (.fld 3 (.tmp 11)))⟩, ⟨none, none, (.st true 1 (.tmp 49) (.tmp 48))⟩] false [])
    .skip))
  (.region [⟨(some 50), none, (.i (.fld 1 (.tmp 8)))⟩, ⟨(some 51), none, (.i (.ld true 1 (.tmp 50)))⟩, ⟨(some 52), none, (.i (.ld false 4 (.tmp 11)))⟩, ⟨(some 53), none, (.i (.mov (.tmp 9)))⟩, ⟨(some 54), none, (.call (.cst (.fn 54 [])) [(.tmp 52), (.tmp 53)] [[none, none, none, none], []])⟩, ⟨(some 55), none, (.mkS 51 (.pair .int (.pair .int (.pair .int .int))) [(.tmp 54)])⟩, ⟨(some 56), none, (.append 51 (.pair .int (.pair .int (.pair .int .int))) 32 (.tmp 51) (.tmp 55))⟩, ⟨(some 57), none, (.i (.fld 1 (.tmp 8)))⟩, ⟨none, none, (.st true 1 (.tmp 57) (.tmp 56))⟩] true [(1, 4)]))))
  (.region [⟨(some 58), none, (.i (.bin .add (.tmp 37) (.cst (.int .i64 1))))⟩, ⟨(some 37), none, (.i (.mov (.tmp 58)))⟩] false []))))
def m_impl_ParCircuits : AC :=
  (.seq (.region [⟨(some 4), none, (.i (.box 31 (.tmp 1)))⟩, ⟨(some 5), none, (.i (.box 31 (.tmp 2)))⟩, ⟨(some 6), none, (.i (.alloc 31 [(.int .i64 0), .nils, .nils]))⟩, ⟨(some 7), none, (.i (.mov (.cst (.bool false))))⟩] false [])
  (.seq (.seq (.region [⟨(some 14), none, (.i (.mov (.tmp 0)))⟩, ⟨(some 15), none, (.i (.ld false 3 (.tmp 4)))⟩, ⟨(some 16), none, (.call (.cst (.fn 37 [])) [(.tmp 14), (.tmp 15)] [[], [none, (some (.pair .int (.pair .int (.pair .int .int)))), (some .int)]])⟩, ⟨(some 17), none, (.i (.not (.tmp 16)))⟩, ⟨(some 18), none, (.i (.mov (.tmp 17)))⟩, ⟨(some 19), (some (18, false)), (.i (.mov (.tmp 0)))⟩, ⟨(some 20), (some (18, false)), (.i (.ld false 3 (.tmp 5)))⟩, ⟨(some 21), (some (18, false)), (.call (.cst (.fn 37 [])) [(.tmp 19), (.tmp 20)] [[], [none, (some (.pair .int (.pair .int (.pair .int .int)))), (some .int)]])⟩, ⟨(some 22), (some (18, false)), (.i (.not (.tmp 21)))⟩, ⟨(some 23), none, (.i (.pick (.tmp 18) (.cst (.bool true)) (.tmp 22)))⟩] false [])
  (.cond (.tmp 23)
    (.seq (.region [⟨(some 24), none, (.build [(.int .i64 0), .nils, .nils] [])⟩, ⟨none, none, (.st false 3 (.tmp 6) (.tmp 24))⟩, ⟨(some 7), none, (.i (.mov (.cst (.bool false))))⟩] false [])
    .ret)
    .skip))
  (.seq (.region [⟨(some 25), none, (.i (.ld false 3 (.tmp 4)))⟩, ⟨(some 26), none, (.call (.cst (.fn 46 [])) [(.tmp 25)] [[none, (some (.pair .int (.pair .int (.pair .int .int)))), (some .int)]])⟩, ⟨(some 8), none, (.i (.alloc 31 [(.int .i64 0), .nils, .nils]))⟩, ⟨none, none, (.st false 3 (.tmp 8) (.tmp 26))⟩] false [])
  (.seq (.region [⟨(some 27), none, (.i (.fld 0 (.tmp 8)))⟩, ⟨(some 28), none, (.i (.ld true 1 (.tmp 27)))⟩, ⟨(some 29), none, (.i (.fld 0 (.tmp 5)))⟩, ⟨(some 30), none, (.i (.ld true 1 (.tmp 29)))⟩, ⟨(some 31), none, (.i (.bin .add (.tmp 28) (.tmp 30)))⟩, ⟨(some 32), none, (.i (.fld 0 (.tmp 8)))⟩, ⟨none, none, (.st true 1 (.tmp 32) (.tmp 31))⟩] false [])
  (.seq (.region [⟨(some 33), none, (.i (.mkfn 65 [(.tmp 4)]))⟩, ⟨(some 9), none, (.i (.mov (.tmp 33)))⟩] false [])
  (.seq (.seq (.region [⟨(some 34), none, (.i (.fld 1 (.tmp 5)))⟩, ⟨(some 35), none, (.i (.ld true 1 (.tmp 34)))⟩, ⟨(some 36), none, (.i (.len (.tmp 35)))⟩, ⟨(some 37), none, (.i (.mov (.cst (.int .i64 0))))⟩] false [])
  (.block 0 (.loop m_impl_ParCircuits_l1)))
  (.seq (.seq (.region [⟨(some 59), none, (.i (.fld 2 (.tmp 5)))⟩, ⟨(some 60), none, (.i (.ld true 1 (.tmp 59)))⟩, ⟨(some 61), none, (.i (.len (.tmp 60)))⟩, ⟨(some 62), none, (.i (.mov (.cst (.int .i64 0))))⟩] false [])
  (.block 2 (.loop m_impl_ParCircuits_l2)))
  (.seq (.region [⟨(some 75), none, (.i (.mov (.tmp 0)))⟩, ⟨(some 76), none, (.i (.ld false 3 (.tmp 8)))⟩, ⟨(some 77), none, (.call (.cst (.fn 48 [])) [(.tmp 75), (.tmp 76)] [[], [none, (some (.pair .int (.pair .int (.pair .int .int)))), (some .int)]])⟩, ⟨(some 78), none, (.i (.extr 0 (.tmp 77)))⟩, ⟨(some 79), none, (.i (.extr 1 (.tmp 77)))⟩, ⟨none, none, (.st false 3 (.tmp 6) (.tmp 78))⟩, ⟨(some 7), none, (.i (.mov (.tmp 79)))⟩] false [])
  .ret))))))))
def r_impl_ParCircuits : List Res := [.cell 6 false 3, .tmp 7]
theorem c_impl_ParCircuits : compiled Tryd.prog Tryd.f30 = some (m_impl_ParCircuits, r_impl_ParCircuits) := by kernel_rfl
theorem hb_impl_ParCircuits : hasBody Tryd.prog 30 = true := by kernel_rfl
def L_impl_ParCircuits_l1 (a2_1 : List (Int × Int × Int × Int)) (a1_0 : Int) (a1_1 : List (Int × Int × Int × Int)) (a1_2 : List Int) (l15_m37 : Nat) (l15_m8_1 : List (Int × Int × Int × Int)) : Option (Ctl (Nat × (List (Int × Int × Int × Int))) (List (Int × Int × Int × Int))) :=
  cond (decide (((l15_m37 : Nat) : Int) < ((a2_1.length : Nat) : Int)))
  (Option.bind (a2_1[l15_m37]?) fun x21 =>
  Option.bind (cond (x21.1 == 1)
      (some (IntKind.i64.wrap (x21.2.2.2 + a1_0)))
      (some x21.2.2.2)) fun l22_m11_3 =>
  Option.bind (L_impl_Gate_withOperands_for_impl_ParCircuits_1 x21.1 x21.2.1 x21.2.2.1 l22_m11_3 a1_0 a1_1 a1_2) fun y25 =>
  og (l15_m8_1.length + 1 ≤ 1073741824 ∧ (l15_m8_1.length + 1) * 32 ≤ 140737488355328) <|
  og (l15_m37 + 1 < 4611686018427387904) <|
  some (Ctl.next (l15_m37 + 1, l15_m8_1 ++ ([y25]))))
  (some (Ctl.out l15_m8_1))
def L_impl_ParCircuits_l2 (a2_2 : List Int) (a1_0 : Int) (a1_1 : List (Int × Int × Int × Int)) (a1_2 : List Int) (l30_m62 : Nat) (l30_m8_2 : List Int) : Option (Ctl (Nat × List Int) (List Int)) :=
  cond (decide (((l30_m62 : Nat) : Int) < ((a2_2.length : Nat) : Int)))
  (Option.bind (a2_2[l30_m62]?) fun x36 =>
  Option.bind (L_impl_ParCircuits_1 x36 a1_0 a1_1 a1_2) fun y37 =>
  og (l30_m8_2.length + 1 ≤ 1073741824 ∧ (l30_m8_2.length + 1) * 8 ≤ 140737488355328) <|
  og (l30_m62 + 1 < 4611686018427387904) <|
  some (Ctl.next (l30_m62 + 1, l30_m8_2 ++ ([y37]))))
  (some (Ctl.out l30_m8_2))
def L_impl_ParCircuits (a0 : Int) (a1_0 : Int) (a1_1 : List (Int × Int × Int × Int)) (a1_2 : List Int) (a2_0 : Int) (a2_1 : List (Int × Int × Int × Int)) (a2_2 : List Int) : Option (Int × (List (Int × Int × Int × Int)) × List Int × Bool) :=
  Option.bind (Option.bind (L_impl_isCircuit a0 a1_0 a1_1 a1_2) fun y4 =>
  cond (!y4)
    (some true)
    (Option.bind (L_impl_isCircuit a0 a2_0 a2_1 a2_2) fun y6 =>
    some (!y6))) fun l3_m23 =>
cond l3_m23
  (some (0, [], [], false))
  (Option.bind (L_impl_Circuit_copy a1_0 a1_1 a1_2) fun y10 =>
  Option.bind (loopM (fun s_ : Nat × (List (Int × Int × Int × Int)) => L_impl_ParCircuits_l1 a2_1 a1_0 a1_1 a1_2 s_.1 s_.2) 4611686018427387904 (0, y10.2.1)) fun l13_m8_1 =>
  Option.bind (loopM (fun s_ : Nat × List Int => L_impl_ParCircuits_l2 a2_2 a1_0 a1_1 a1_2 s_.1 s_.2) 4611686018427387904 (0, y10.2.2)) fun l28_m8_2 =>
  Option.bind (Option.bind (L_impl_validCircuit a0 (IntKind.i64.wrap (y10.1 + a2_0)) l13_m8_1 l28_m8_2) fun y41 =>
    (Sum.elim (fun z41_0 =>
    some (z41_0.2, z41_0.1, [], [])) (fun z41_1 =>
    some (z41_1.2, z41_1.1, l13_m8_1, l28_m8_2))) y41) fun (l40_m7, l40_m6_0, l40_m6_1, l40_m6_2) =>
  some (l40_m6_0, l40_m6_1, l40_m6_2, l40_m7))
def rv_impl_ParCircuits (r : Int × (List (Int × Int × Int × Int)) × List Int × Bool) : RV := ⟨true, [(true, [.sc (.int .i64 r.1), .new 51 (.pair .int (.pair .int (.pair .int .int))) r.2.1, .new 3 .int r.2.2.1]), (false, [.sc (.bool r.2.2.2)])]⟩
theorem ok_impl_ParCircuits {a0 : Int} {a1_0 : Int} {a1_1 : List (Int × Int × Int × Int)} {a1_2 : List Int} {a2_0 : Int} {a2_1 : List (Int × Int × Int × Int)} {a2_2 : List Int} {r : Int × (List (Int × Int × Int × Int)) × List Int × Bool} (h : L_impl_ParCircuits a0 a1_0 a1_1 a1_2 a2_0 a2_1 a2_2 = some r) : CallOK Tryd.prog Tab 30 [(.int .i64 a0), (.agg [(.int .i64 a1_0), (.tree (.pair .int (.pair .int (.pair .int .int))) a1_1), (.tree .int a1_2)]), (.agg [(.int .i64 a2_0), (.tree (.pair .int (.pair .int (.pair .int .int))) a2_1), (.tree .int a2_2)])] (rv_impl_ParCircuits r) := by
  refine call_of_ (by kernel_rfl) Tryd.func30 c_impl_ParCircuits (n := 80) (by kernel_rfl) (by simp) (tl := [(0, (.int .i64 a0)), (1, (.agg [(.int .i64 a1_0), (.tree (.pair .int (.pair .int (.pair .int .int))) a1_1), (.tree .int a1_2)])), (2, (.agg [(.int .i64 a2_0), (.tree (.pair .int (.pair .int (.pair .int .int))) a2_1), (.tree .int a2_2)]))]) rfl ?_
  unfold m_impl_ParCircuits
  unfold L_impl_ParCircuits at h
  refine awp_seq_ ?_
  refine awp_region_ 5 (by kernel_rfl) ?_
  refine rs1 (.box (4, 1) 0) (4, 1) (.cells 31 [(.int .i64 a1_0), (.tree (.pair .int (.pair .int (.pair .int .int))) a1_1), (.tree .int a1_2)]) (by kernel_rfl) ?_
  refine rs1 (.box (5, 2) 0) (5, 2) (.cells 31 [(.int .i64 a2_0), (.tree (.pair .int (.pair .int (.pair .int .int))) a2_1), (.tree .int a2_2)]) (by kernel_rfl) ?_
  refine rs1 (.box (6, 3) 0) (6, 3) (.cells 31 [(.int .i64 0), .nils, .nils]) (by kernel_rfl) ?_
  refine rs0 (.bool false) (by kernel_rfl) ?_
  refine rnil (tn_ ?_)
  refine awp_seq_ ?_
  refine awp_seqB h (fun (l3_m23 : Bool) S_ => S_ = ⟨mkTm [(0, (.int .i64 a0)), (4, (.box (0, 1) 0)), (5, (.box (1, 1) 0)), (6, (.box (2, 1) 0)), (23, (.bool l3_m23))], mkOb (someL [((0, 1), .cells 31 [(.int .i64 a1_0), (.tree (.pair .int (.pair .int (.pair .int .int))) a1_1), (.tree .int a1_2)]), ((1, 1), .cells 31 [(.int .i64 a2_0), (.tree (.pair .int (.pair .int (.pair .int .int))) a2_1), (.tree .int a2_2)]), ((2, 1), .cells 31 [(.int .i64 0), .nils, .nils])]), 2⟩) ?_ ?_
  · intro v_ h
    obtain ⟨y4, h4, h⟩ := ob_some h
    rcases cond_some h with ⟨q5, h⟩ | ⟨q5, h⟩
    · refine awp_region_ 15 (by kernel_rfl) ?_
      refine rs0 (.int .i64 a0) (by kernel_rfl) ?_
      refine rsl (.agg [(.int .i64 a1_0), (.tree (.pair .int (.pair .int (.pair .int .int))) a1_1), (.tree .int a1_2)]) (by kernel_rfl) ?_
      refine rcall (.bool y4) [] [(.int .i64 a0), (.agg [(.int .i64 a1_0), (.tree (.pair .int (.pair .int (.pair .int .int))) a1_1), (.tree .int a1_2)])] _ (caps := []) (args0 := [(.int .i64 a0), (.agg [(.int .i64 a1_0), (.tree (.pair .int (.pair .int (.pair .int .int))) a1_1), (.tree .int a1_2)])]) trivial (by kernel_rfl) (by kernel_rfl) (by kernel_rfl) (by kernel_rfl) (ok_impl_isCircuit h4) hb_impl_isCircuit (by kernel_rfl) ?_
      refine rs0 (.bool (!y4)) (by kernel_rfl) ?_
      refine rs0 (.bool (!y4)) (by kernel_rfl) ?_
      refine rs0 (.tup []) (s_skip (by kernel_rfl) q5) ?_
      refine rs0 (.tup []) (s_skip (by kernel_rfl) q5) ?_
      refine rs0 (.tup []) (s_skip (by kernel_rfl) q5) ?_
      refine rs0 (.tup []) (s_skip (by kernel_rfl) q5) ?_
      refine rs0 (.bool true) (s_pickT (by kernel_rfl) q5) ?_
      refine rnil (tn_ ?_)
      obtain rfl := Option.some.inj h
      exact ⟨_, (weak_ren (renF [((0, 1), (4, 1)), ((1, 1), (5, 2)), ((2, 1), (6, 3))]) (by kernel_rfl) (by kernel_rfl) (by kernel_rfl)), rfl⟩
    · obtain ⟨y6, h6, h⟩ := ob_some h
      refine awp_region_ 15 (by kernel_rfl) ?_
      refine rs0 (.int .i64 a0) (by kernel_rfl) ?_
      refine rsl (.agg [(.int .i64 a1_0), (.tree (.pair .int (.pair .int (.pair .int .int))) a1_1), (.tree .int a1_2)]) (by kernel_rfl) ?_
      refine rcall (.bool y4) [] [(.int .i64 a0), (.agg [(.int .i64 a1_0), (.tree (.pair .int (.pair .int (.pair .int .int))) a1_1), (.tree .int a1_2)])] _ (caps := []) (args0 := [(.int .i64 a0), (.agg [(.int .i64 a1_0), (.tree (.pair .int (.pair .int (.pair .int .int))) a1_1), (.tree .int a1_2)])]) trivial (by kernel_rfl) (by kernel_rfl) (by kernel_rfl) (by kernel_rfl) (ok_impl_isCircuit h4) hb_impl_isCircuit (by kernel_rfl) ?_
      refine rs0 (.bool (!y4)) (by kernel_rfl) ?_
      refine rs0 (.bool (!y4)) (by kernel_rfl) ?_
      refine rs0 (.int .i64 a0) (s_gd (by kernel_rfl) q5 (by kernel_rfl)) ?_
      refine rsl (.agg [(.int .i64 a2_0), (.tree (.pair .int (.pair .int (.pair .int .int))) a2_1), (.tree .int a2_2)]) (s_gd (by kernel_rfl) q5 (by kernel_rfl)) ?_
      refine rcall (.bool y6) [] [(.int .i64 a0), (.agg [(.int .i64 a2_0), (.tree (.pair .int (.pair .int (.pair .int .int))) a2_1), (.tree .int a2_2)])] _ (caps := []) (args0 := [(.int .i64 a0), (.agg [(.int .i64 a2_0), (.tree (.pair .int (.pair .int (.pair .int .int))) a2_1), (.tree .int a2_2)])]) (gdOK_b (by kernel_rfl) q5) (by kernel_rfl) (by kernel_rfl) (by kernel_rfl) (by kernel_rfl) (ok_impl_isCircuit h6) hb_impl_isCircuit (by kernel_rfl) ?_
      refine rs0 (.bool (!y6)) (s_gd (by kernel_rfl) q5 (by kernel_rfl)) ?_
      refine rs0 (.bool (!y6)) (s_pickF (by kernel_rfl) q5) ?_
      refine rnil (tn_ ?_)
      obtain rfl := Option.some.inj h
      exact ⟨_, (weak_ren (renF [((0, 1), (4, 1)), ((1, 1), (5, 2)), ((2, 1), (6, 3))]) (by kernel_rfl) (by kernel_rfl) (by kernel_rfl)), rfl⟩
  · rintro l3_m23 _ rfl h
    (try dsimp only at h)
    rcases cond_some h with ⟨q7, h⟩ | ⟨q7, h⟩
    · refine awp_condT_ q7 (by kernel_rfl) ?_
      refine awp_seq_ ?_
      refine awp_region_ 5 (by kernel_rfl) ?_
      refine rs0 (.agg [(.int .i64 0), .nils, .nils]) (by kernel_rfl) ?_
      refine rsn2 (2, 1) (2, 1) (.cells 31 [(.int .i64 0), .nils, .nils]) (by kernel_rfl) ?_
      refine rs0 (.bool false) (by kernel_rfl) ?_
      refine rnil (tn_ ?_)
      refine awp_ret_ (tr_ ?_)
      obtain rfl := Option.some.inj h
      exact ret_ [(.agg [(.int .i64 0), .nils, .nils]), (.bool false)] (by simp) (by kernel_rfl) (p_agg (l_cons (l_sc (by kernel_rfl)) (l_cons (l_nils rfl) (l_cons (l_nils rfl) l_nil))) (p_one rfl (l_sc (by kernel_rfl)) p_nil)) (by kernel_rfl) (by kernel_rfl)
    · refine awp_condF_ q7 (by kernel_rfl) ?_
      refine awp_skip_ (tn_ ?_)
      refine awp_seq_ ?_
      obtain ⟨y10, h10, h⟩ := ob_some h
      refine awp_region_ 6 (by kernel_rfl) ?_
      refine rsl (.agg [(.int .i64 a1_0), (.tree (.pair .int (.pair .int (.pair .int .int))) a1_1), (.tree .int a1_2)]) (by kernel_rfl) ?_
      refine rcall (.agg [(.int .i64 y10.1), (.own (416, 3) (.pair .int (.pair .int (.pair .int .int))) 0 y10.2.1.length), (.own (417, 3) .int 0 y10.2.2.length)]) [((416, 3), some (.arr 51 (.pair .int (.pair .int (.pair .int .int))) y10.2.1)), ((417, 3), some (.arr 3 .int y10.2.2))] [(.agg [(.int .i64 a1_0), (.tree (.pair .int (.pair .int (.pair .int .int))) a1_1), (.tree .int a1_2)])] _ (caps := []) (args0 := [(.agg [(.int .i64 a1_0), (.tree (.pair .int (.pair .int (.pair .int .int))) a1_1), (.tree .int a1_2)])]) trivial (by kernel_rfl) (by kernel_rfl) (by kernel_rfl) (by kernel_rfl) (ok_impl_Circuit_copy h10) hb_impl_Circuit_copy (by kernel_rfl) ?_
      refine rs1 (.box (8, 4) 0) (8, 4) (.cells 31 [(.int .i64 0), .nils, .nils]) (by kernel_rfl) ?_
      refine rsn2 (8, 4) (8, 4) (.cells 31 [(.int .i64 y10.1), (.own (416, 3) (.pair .int (.pair .int (.pair .int .int))) 0 y10.2.1.length), (.own (417, 3) .int 0 y10.2.2.length)]) (by kernel_rfl) ?_
      refine rnil (tn_ ?_)
      refine awp_seq_ ?_
      refine awp_region_ 13 (by kernel_rfl) ?_
      refine rs0 (.box (8, 4) 0) (by kernel_rfl) ?_
      refine rsl (.int .i64 y10.1) (by kernel_rfl) ?_
      refine rs0 (.box (1, 1) 0) (by kernel_rfl) ?_
      refine rsl (.int .i64 a2_0) (by kernel_rfl) ?_
      refine rs0 (.int .i64 (IntKind.i64.wrap (y10.1 + a2_0))) (by kernel_rfl) ?_
      refine rs0 (.box (8, 4) 0) (by kernel_rfl) ?_
      refine rsn2 (8, 4) (8, 4) (.cells 31 [(.int .i64 (IntKind.i64.wrap (y10.1 + a2_0))), (.own (416, 3) (.pair .int (.pair .int (.pair .int .int))) 0 y10.2.1.length), (.own (417, 3) .int 0 y10.2.2.length)]) (by kernel_rfl) ?_
      refine rnil (tn_ ?_)
      refine awp_seq_ ?_
      refine awp_region_ 15 (by kernel_rfl) ?_
      refine rs0 (.fn 65 [(.box (0, 1) 0)]) (by kernel_rfl) ?_
      refine rs0 (.fn 65 [(.box (0, 1) 0)]) (by kernel_rfl) ?_
      refine rnil (tn_ ?_)
      refine awp_seqB h (fun (l13_m8_1 : List (Int × Int × Int × Int)) S_ => S_ = ⟨mkTm [(0, (.int .i64 a0)), (5, (.box (0, 1) 0)), (6, (.box (1, 1) 0)), (8, (.box (2, 1) 0)), (9, (.fn 65 [(.box (3, 1) 0)]))], mkOb (someL [((0, 1), .cells 31 [(.int .i64 a2_0), (.tree (.pair .int (.pair .int (.pair .int .int))) a2_1), (.tree .int a2_2)]), ((1, 1), .cells 31 [(.int .i64 0), .nils, .nils]), ((2, 1), .cells 31 [(.int .i64 (IntKind.i64.wrap (y10.1 + a2_0))), (.own (4, 1) (.pair .int (.pair .int (.pair .int .int))) 0 l13_m8_1.length), (.own (5, 1) .int 0 y10.2.2.length)]), ((3, 1), .cells 31 [(.int .i64 a1_0), (.tree (.pair .int (.pair .int (.pair .int .int))) a1_1), (.tree .int a1_2)]), ((4, 1), .arr 51 (.pair .int (.pair .int (.pair .int .int))) l13_m8_1), ((5, 1), .arr 3 .int y10.2.2)]), 2⟩) ?_ ?_
      · intro v_ h
        refine awp_seq_ ?_
        refine awp_region_ 19 (by kernel_rfl) ?_
        refine rs0 (.box (1, 1) 1) (by kernel_rfl) ?_
        refine rsl (.tree (.pair .int (.pair .int (.pair .int .int))) a2_1) (by kernel_rfl) ?_
        refine rs0 (.int .i64 ((a2_1.length : Nat) : Int)) (by kernel_rfl) ?_
        refine rs0 (.int .i64 0) (by kernel_rfl) ?_
        refine rnil (tn_ ?_)
        refine awp_block_ ?_
        refine awp_loopL h (fun t_ S_ => ∃ (l15_m37 : Nat), ∃ (l15_m8_1 : List (Int × Int × Int × Int)), t_ = (l15_m37, l15_m8_1) ∧ S_ = ⟨mkTm [(0, (.int .i64 a0)), (4, (.box (0, 1) 0)), (5, (.box (1, 1) 0)), (6, (.box (2, 1) 0)), (8, (.box (3, 1) 0)), (9, (.fn 65 [(.box (0, 1) 0)])), (35, (.tree (.pair .int (.pair .int (.pair .int .int))) a2_1)), (36, (.int .i64 ((a2_1.length : Nat) : Int))), (37, (.int .i64 ((l15_m37 : Nat) : Int)))], mkOb (someL [((0, 1), .cells 31 [(.int .i64 a1_0), (.tree (.pair .int (.pair .int (.pair .int .int))) a1_1), (.tree .int a1_2)]), ((1, 1), .cells 31 [(.int .i64 a2_0), (.tree (.pair .int (.pair .int (.pair .int .int))) a2_1), (.tree .int a2_2)]), ((2, 1), .cells 31 [(.int .i64 0), .nils, .nils]), ((3, 1), .cells 31 [(.int .i64 (IntKind.i64.wrap (y10.1 + a2_0))), (.own (4, 1) (.pair .int (.pair .int (.pair .int .int))) 0 l15_m8_1.length), (.own (5, 1) .int 0 y10.2.2.length)]), ((4, 1), .arr 51 (.pair .int (.pair .int (.pair .int .int))) l15_m8_1), ((5, 1), .arr 3 .int y10.2.2)]), 2⟩) ⟨_, (weak_ren (renF [((3, 1), (8, 4)), ((4, 1), (416, 3)), ((5, 1), (417, 3))]) (by kernel_rfl) (by kernel_rfl) (by kernel_rfl)), ⟨0, y10.2.1, rfl, rfl⟩⟩ ?_
        · rintro n_ _ _ c_ ⟨l15_m37, l15_m8_1, rfl, rfl⟩ h hn15
          (try dsimp only at h)
          unfold L_impl_ParCircuits_l1 at h
          unfold m_impl_ParCircuits_l1
          refine awp_seq_ ?_
          refine awp_region_ 3 (by kernel_rfl) ?_
          refine rs0 (.bool (decide (((l15_m37 : Nat) : Int) < ((a2_1.length : Nat) : Int)))) (by kernel_rfl) ?_
          refine rnil (tn_ ?_)
          refine awp_seq_ ?_
          rcases cond_some h with ⟨q18, h⟩ | ⟨q18, h⟩
          · have q18_ := of_decide_eq_true q18
            refine awp_condT_ q18 (by kernel_rfl) ?_
            refine awp_skip_ (tn_ ?_)
            refine awp_seq_ ?_
            refine awp_block_ ?_
            refine awp_seq_ ?_
            obtain ⟨x21, e21, h⟩ := ob_some h
            refine awp_region_ 7 (by kernel_rfl) ?_
            refine rs0 (.telt (.pair .int (.pair .int (.pair .int .int))) x21 0) (s_idxT (t := (.pair .int (.pair .int (.pair .int .int)))) (xs := a2_1) (k := .i64) (m := ((l15_m37 : Nat) : Int)) (by kernel_rfl) (by kernel_rfl) rfl (nat_nn _) rfl e21) ?_
            refine rs0 (.agg [(.int .i64 x21.1), (.int .i64 x21.2.1), (.int .i64 x21.2.2.1), (.int .i64 x21.2.2.2)]) (by kernel_rfl) ?_
            refine rs1 (.box (11, 5) 0) (11, 5) (.cells 51 [(.int .i64 0), (.int .i64 0), (.int .i64 0), (.int .i64 0)]) (by kernel_rfl) ?_
            refine rsn2 (11, 5) (11, 5) (.cells 51 [(.int .i64 x21.1), (.int .i64 x21.2.1), (.int .i64 x21.2.2.1), (.int .i64 x21.2.2.2)]) (by kernel_rfl) ?_
            refine rnil (tn_ ?_)
            refine awp_seqB h (fun (l22_m11_3 : Int) S_ => S_ = ⟨mkTm [(0, (.int .i64 a0)), (4, (.box (0, 1) 0)), (5, (.box (1, 1) 0)), (6, (.box (2, 1) 0)), (8, (.box (3, 1) 0)), (9, (.fn 65 [(.box (0, 1) 0)])), (11, (.box (4, 1) 0)), (35, (.tree (.pair .int (.pair .int (.pair .int .int))) a2_1)), (36, (.int .i64 ((a2_1.length : Nat) : Int))), (37, (.int .i64 ((l15_m37 : Nat) : Int)))], mkOb (someL [((0, 1), .cells 31 [(.int .i64 a1_0), (.tree (.pair .int (.pair .int (.pair .int .int))) a1_1), (.tree .int a1_2)]), ((1, 1), .cells 31 [(.int .i64 a2_0), (.tree (.pair .int (.pair .int (.pair .int .int))) a2_1), (.tree .int a2_2)]), ((2, 1), .cells 31 [(.int .i64 0), .nils, .nils]), ((3, 1), .cells 31 [(.int .i64 (IntKind.i64.wrap (y10.1 + a2_0))), (.own (5, 1) (.pair .int (.pair .int (.pair .int .int))) 0 l15_m8_1.length), (.own (6, 1) .int 0 y10.2.2.length)]), ((4, 1), .cells 51 [(.int .i64 x21.1), (.int .i64 x21.2.1), (.int .i64 x21.2.2.1), (.int .i64 l22_m11_3)]), ((5, 1), .arr 51 (.pair .int (.pair .int (.pair .int .int))) l15_m8_1), ((6, 1), .arr 3 .int y10.2.2)]), 2⟩) ?_ ?_
            · intro v_ h
              refine awp_seq_ ?_
              refine awp_region_ 10 (by kernel_rfl) ?_
              refine rs0 (.box (11, 5) 0) (by kernel_rfl) ?_
              refine rsl (.int .i64 x21.1) (by kernel_rfl) ?_
              refine rs0 (.bool (x21.1 == 1)) (by kernel_rfl) ?_
              refine rnil (tn_ ?_)
              rcases cond_some h with ⟨q24, h⟩ | ⟨q24, h⟩
              · refine awp_condT_ q24 (by kernel_rfl) ?_
                refine awp_region_ 17 (by kernel_rfl) ?_
                refine rs0 (.box (11, 5) 3) (by kernel_rfl) ?_
                refine rsl (.int .i64 x21.2.2.2) (by kernel_rfl) ?_
                refine rs0 (.box (0, 1) 0) (by kernel_rfl) ?_
                refine rsl (.int .i64 a1_0) (by kernel_rfl) ?_
                refine rs0 (.int .i64 (IntKind.i64.wrap (x21.2.2.2 + a1_0))) (by kernel_rfl) ?_
                refine rs0 (.box (11, 5) 3) (by kernel_rfl) ?_
                refine rsn2 (11, 5) (11, 5) (.cells 51 [(.int .i64 x21.1), (.int .i64 x21.2.1), (.int .i64 x21.2.2.1), (.int .i64 (IntKind.i64.wrap (x21.2.2.2 + a1_0)))]) (by kernel_rfl) ?_
                refine rnil (tn_ ?_)
                obtain rfl := Option.some.inj h
                exact ⟨_, (weak_ren (renF [((5, 1), (4, 1)), ((6, 1), (5, 1)), ((4, 1), (11, 5))]) (by kernel_rfl) (by kernel_rfl) (by kernel_rfl)), rfl⟩
              · refine awp_condF_ q24 (by kernel_rfl) ?_
                refine awp_skip_ (tn_ ?_)
                obtain rfl := Option.some.inj h
                exact ⟨_, (weak_ren (renF [((5, 1), (4, 1)), ((6, 1), (5, 1)), ((4, 1), (11, 5))]) (by kernel_rfl) (by kernel_rfl) (by kernel_rfl)), rfl⟩
            · rintro l22_m11_3 _ rfl h
              (try dsimp only at h)
              obtain ⟨y25, h25, h⟩ := ob_some h
              obtain ⟨g26, h⟩ := og_some h
              refine awp_regionD_ 11 (by kernel_rfl) ?_
              refine ds0 (.box (3, 1) 1) (by kernel_rfl) ?_
              refine dsl (.own (5, 1) (.pair .int (.pair .int (.pair .int .int))) 0 l15_m8_1.length) (by kernel_rfl) ?_
              refine dsl (.agg [(.int .i64 x21.1), (.int .i64 x21.2.1), (.int .i64 x21.2.2.1), (.int .i64 l22_m11_3)]) (by kernel_rfl) ?_
              refine ds0 (.fn 65 [(.box (0, 1) 0)]) (by kernel_rfl) ?_
              refine dcall (.agg [(.int .i64 y25.1), (.int .i64 y25.2.1), (.int .i64 y25.2.2.1), (.int .i64 y25.2.2.2)]) [] [(.agg [(.int .i64 x21.1), (.int .i64 x21.2.1), (.int .i64 x21.2.2.1), (.int .i64 l22_m11_3)]), (.fn 65 [(.box (0, 1) 0)])] _ (caps := []) (args0 := [(.agg [(.int .i64 x21.1), (.int .i64 x21.2.1), (.int .i64 x21.2.2.1), (.int .i64 l22_m11_3)]), (.fn 65 [(.ref [(.int .i64 a1_0), (.tree (.pair .int (.pair .int (.pair .int .int))) a1_1), (.tree .int a1_2)])])]) trivial (by kernel_rfl) (by kernel_rfl) (by kernel_rfl) (by kernel_rfl) (ok_impl_Gate_withOperands_for_impl_ParCircuits_1 h25) hb_impl_Gate_withOperands (by kernel_rfl) ?_
              refine ds1 (.own (55, 7) (.pair .int (.pair .int (.pair .int .int))) 0 1) (55, 7) (.arr 51 (.pair .int (.pair .int (.pair .int .int))) ([y25])) (by kernel_rfl) ?_
              refine ds2 (.own (5, 8) (.pair .int (.pair .int (.pair .int .int))) 0 ((l15_m8_1 ++ ([y25])).length)) (5, 1) (5, 8) (.arr 51 (.pair .int (.pair .int (.pair .int .int))) (l15_m8_1 ++ ([y25]))) (s_appO (t := (.pair .int (.pair .int (.pair .int .int)))) (t' := (.pair .int (.pair .int (.pair .int .int)))) (xs := l15_m8_1) (ys := [y25]) (zs := l15_m8_1 ++ ([y25])) (j := (5, 1)) (len := l15_m8_1.length) (c := (.own (55, 7) (.pair .int (.pair .int (.pair .int .int))) 0 1)) (by kernel_rfl) (by kernel_rfl) rfl (by kernel_rfl) (sr_own (e := 51) (by kernel_rfl) rfl) rfl g26) ?_
              refine ds0 (.box (3, 1) 1) (by kernel_rfl) ?_
              refine dsn2 (3, 1) (3, 1) (.cells 31 [(.int .i64 (IntKind.i64.wrap (y10.1 + a2_0))), (.own (5, 8) (.pair .int (.pair .int (.pair .int .int))) 0 ((l15_m8_1 ++ ([y25])).length)), (.own (6, 1) .int 0 y10.2.2.length)]) (by kernel_rfl) ?_
              refine dnil (by kernel_rfl) (bn_ (tn_ ?_))
              obtain ⟨g27, h⟩ := og_some h
              refine awp_region_ 13 (by kernel_rfl) ?_
              refine rs0 (.int .i64 ((l15_m37 + 1 : Nat) : Int)) (s_add1 (j := l15_m37) (by kernel_rfl) (by kernel_rfl) g27) ?_
              refine rs0 (.int .i64 ((l15_m37 + 1 : Nat) : Int)) (by kernel_rfl) ?_
              refine rnil (tn_ ?_)
              obtain rfl := Option.some.inj h
              exact ⟨(l15_m37 + 1, l15_m8_1 ++ ([y25])), _, (weak_ren (renF [((4, 1), (5, 8)), ((5, 1), (6, 1))]) (by kernel_rfl) (by kernel_rfl) (by kernel_rfl)), ⟨l15_m37 + 1, l15_m8_1 ++ ([y25]), rfl, rfl⟩, hn15⟩
          · have q18_ := of_decide_eq_false q18
            refine awp_condF_ q18 (by kernel_rfl) ?_
            refine awp_exit_ (te_ (te_ (be_ (tn_ ?_))))
            obtain rfl := Option.some.inj h
            have h := hn15
            (try dsimp only at h)
            obtain rfl := Option.some.inj h
            exact ⟨_, (weak_ren (renF [((0, 1), (1, 1)), ((1, 1), (2, 1)), ((2, 1), (3, 1)), ((3, 1), (0, 1))]) (by kernel_rfl) (by kernel_rfl) (by kernel_rfl)), rfl⟩
      · rintro l13_m8_1 _ rfl h
        (try dsimp only at h)
        refine awp_seqB h (fun (l28_m8_2 : List Int) S_ => S_ = ⟨mkTm [(0, (.int .i64 a0)), (6, (.box (0, 1) 0)), (8, (.box (1, 1) 0))], mkOb (someL [((0, 1), .cells 31 [(.int .i64 0), .nils, .nils]), ((1, 1), .cells 31 [(.int .i64 (IntKind.i64.wrap (y10.1 + a2_0))), (.own (2, 1) (.pair .int (.pair .int (.pair .int .int))) 0 l13_m8_1.length), (.own (3, 1) .int 0 l28_m8_2.length)]), ((2, 1), .arr 51 (.pair .int (.pair .int (.pair .int .int))) l13_m8_1), ((3, 1), .arr 3 .int l28_m8_2)]), 2⟩) ?_ ?_
        · intro v_ h
          refine awp_seq_ ?_
          refine awp_region_ 6 (by kernel_rfl) ?_
          refine rs0 (.box (0, 1) 2) (by kernel_rfl) ?_
          refine rsl (.tree .int a2_2) (by kernel_rfl) ?_
          refine rs0 (.int .i64 ((a2_2.length : Nat) : Int)) (by kernel_rfl) ?_
          refine rs0 (.int .i64 0) (by kernel_rfl) ?_
          refine rnil (tn_ ?_)
          refine awp_block_ ?_
          refine awp_loopL h (fun t_ S_ => ∃ (l30_m62 : Nat), ∃ (l30_m8_2 : List Int), t_ = (l30_m62, l30_m8_2) ∧ S_ = ⟨mkTm [(0, (.int .i64 a0)), (6, (.box (0, 1) 0)), (8, (.box (1, 1) 0)), (9, (.fn 65 [(.box (2, 1) 0)])), (60, (.tree .int a2_2)), (61, (.int .i64 ((a2_2.length : Nat) : Int))), (62, (.int .i64 ((l30_m62 : Nat) : Int)))], mkOb (someL [((0, 1), .cells 31 [(.int .i64 0), .nils, .nils]), ((1, 1), .cells 31 [(.int .i64 (IntKind.i64.wrap (y10.1 + a2_0))), (.own (3, 1) (.pair .int (.pair .int (.pair .int .int))) 0 l13_m8_1.length), (.own (4, 1) .int 0 l30_m8_2.length)]), ((2, 1), .cells 31 [(.int .i64 a1_0), (.tree (.pair .int (.pair .int (.pair .int .int))) a1_1), (.tree .int a1_2)]), ((3, 1), .arr 51 (.pair .int (.pair .int (.pair .int .int))) l13_m8_1), ((4, 1), .arr 3 .int l30_m8_2)]), 2⟩) ⟨_, (weak_ren (renF [((0, 1), (1, 1)), ((1, 1), (2, 1)), ((3, 1), (4, 1)), ((4, 1), (5, 1)), ((2, 1), (3, 1))]) (by kernel_rfl) (by kernel_rfl) (by kernel_rfl)), ⟨0, y10.2.2, rfl, rfl⟩⟩ ?_
          · rintro n_ _ _ c_ ⟨l30_m62, l30_m8_2, rfl, rfl⟩ h hn30
            (try dsimp only at h)
            unfold L_impl_ParCircuits_l2 at h
            unfold m_impl_ParCircuits_l2
            refine awp_seq_ ?_
            refine awp_region_ 3 (by kernel_rfl) ?_
            refine rs0 (.bool (decide (((l30_m62 : Nat) : Int) < ((a2_2.length : Nat) : Int)))) (by kernel_rfl) ?_
            refine rnil (tn_ ?_)
            refine awp_seq_ ?_
            rcases cond_some h with ⟨q33, h⟩ | ⟨q33, h⟩
            · have q33_ := of_decide_eq_true q33
              refine awp_condT_ q33 (by kernel_rfl) ?_
              refine awp_skip_ (tn_ ?_)
              refine awp_seq_ ?_
              refine awp_block_ ?_
              refine awp_seq_ ?_
              obtain ⟨x36, e36, h⟩ := ob_some h
              refine awp_region_ 6 (by kernel_rfl) ?_
              refine rs0 (.telt .int x36 0) (s_idxT (t := .int) (xs := a2_2) (k := .i64) (m := ((l30_m62 : Nat) : Int)) (by kernel_rfl) (by kernel_rfl) rfl (nat_nn _) rfl e36) ?_
              refine rs0 (.int .i64 x36) (by kernel_rfl) ?_
              refine rs0 (.int .i64 x36) (by kernel_rfl) ?_
              refine rnil (tn_ ?_)
              obtain ⟨y37, h37, h⟩ := ob_some h
              obtain ⟨g38, h⟩ := og_some h
              refine awp_regionD_ 15 (by kernel_rfl) ?_
              refine ds0 (.box (1, 1) 2) (by kernel_rfl) ?_
              refine dsl (.own (4, 1) .int 0 l30_m8_2.length) (by kernel_rfl) ?_
              refine ds0 (.fn 65 [(.box (2, 1) 0)]) (by kernel_rfl) ?_
              refine ds0 (.int .i64 x36) (by kernel_rfl) ?_
              refine dcall (.int .i64 y37) [] [(.int .i64 x36), (.box (2, 1) 0)] _ (caps := [(.box (2, 1) 0)]) (args0 := [(.int .i64 x36), (.ref [(.int .i64 a1_0), (.tree (.pair .int (.pair .int (.pair .int .int))) a1_1), (.tree .int a1_2)])]) trivial (by kernel_rfl) (by kernel_rfl) (by kernel_rfl) (by kernel_rfl) (ok_impl_ParCircuits_1 h37) hb_impl_ParCircuits_1 (by kernel_rfl) ?_
              refine ds1 (.own (71, 11) .int 0 1) (71, 11) (.arr 3 .int ([y37])) (by kernel_rfl) ?_
              refine ds2 (.own (4, 12) .int 0 ((l30_m8_2 ++ ([y37])).length)) (4, 1) (4, 12) (.arr 3 .int (l30_m8_2 ++ ([y37]))) (s_appO (t := .int) (t' := .int) (xs := l30_m8_2) (ys := [y37]) (zs := l30_m8_2 ++ ([y37])) (j := (4, 1)) (len := l30_m8_2.length) (c := (.own (71, 11) .int 0 1)) (by kernel_rfl) (by kernel_rfl) rfl (by kernel_rfl) (sr_own (e := 3) (by kernel_rfl) rfl) rfl g38) ?_
              refine ds0 (.box (1, 1) 2) (by kernel_rfl) ?_
              refine dsn2 (1, 1) (1, 1) (.cells 31 [(.int .i64 (IntKind.i64.wrap (y10.1 + a2_0))), (.own (3, 1) (.pair .int (.pair .int (.pair .int .int))) 0 l13_m8_1.length), (.own (4, 12) .int 0 ((l30_m8_2 ++ ([y37])).length))]) (by kernel_rfl) ?_
              refine dnil (by kernel_rfl) (bn_ (tn_ ?_))
              obtain ⟨g39, h⟩ := og_some h
              refine awp_region_ 17 (by kernel_rfl) ?_
              refine rs0 (.int .i64 ((l30_m62 + 1 : Nat) : Int)) (s_add1 (j := l30_m62) (by kernel_rfl) (by kernel_rfl) g39) ?_
              refine rs0 (.int .i64 ((l30_m62 + 1 : Nat) : Int)) (by kernel_rfl) ?_
              refine rnil (tn_ ?_)
              obtain rfl := Option.some.inj h
              exact ⟨(l30_m62 + 1, l30_m8_2 ++ ([y37])), _, (weak_ren (renF [((4, 1), (4, 12))]) (by kernel_rfl) (by kernel_rfl) (by kernel_rfl)), ⟨l30_m62 + 1, l30_m8_2 ++ ([y37]), rfl, rfl⟩, hn30⟩
            · have q33_ := of_decide_eq_false q33
              refine awp_condF_ q33 (by kernel_rfl) ?_
              refine awp_exit_ (te_ (te_ (be_ (tn_ ?_))))
              obtain rfl := Option.some.inj h
              have h := hn30
              (try dsimp only at h)
              obtain rfl := Option.some.inj h
              exact ⟨_, (weak_ren (renF [((2, 1), (3, 1)), ((3, 1), (4, 1))]) (by kernel_rfl) (by kernel_rfl) (by kernel_rfl)), rfl⟩
        · rintro l28_m8_2 _ rfl h
          (try dsimp only at h)
          refine awp_seqB h (fun t_ S_ => ∃ (l40_m7 : Bool), ∃ (l40_m6_0 : Int), ∃ (l40_m6_1 : List (Int × Int × Int × Int)), ∃ (l40_m6_2 : List Int), t_ = (l40_m7, l40_m6_0, l40_m6_1, l40_m6_2) ∧ S_ = ⟨mkTm [(6, (.box (0, 1) 0)), (7, (.bool l40_m7))], mkOb (someL [((0, 1), .cells 31 [(.int .i64 l40_m6_0), (.own (1, 1) (.pair .int (.pair .int (.pair .int .int))) 0 l40_m6_1.length), (.own (2, 1) .int 0 l40_m6_2.length)]), ((1, 1), .arr 51 (.pair .int (.pair .int (.pair .int .int))) l40_m6_1), ((2, 1), .arr 3 .int l40_m6_2)]), 2⟩) ?_ ?_
          · intro v_ h
            obtain ⟨y41, h41, h⟩ := ob_some h
            rcases y41 with z41_0 | z41_1
            · (try simp only [Sum.elim_inl, Sum.elim_inr] at h)
              refine awp_region_ 9 (by kernel_rfl) ?_
              refine rs0 (.int .i64 a0) (by kernel_rfl) ?_
              refine rsl (.agg [(.int .i64 (IntKind.i64.wrap (y10.1 + a2_0))), (.own (2, 1) (.pair .int (.pair .int (.pair .int .int))) 0 l13_m8_1.length), (.own (3, 1) .int 0 l28_m8_2.length)]) (by kernel_rfl) ?_
              refine rcall (.tup [(.agg [(.int .i64 z41_0.1), .nils, .nils]), (.bool z41_0.2)]) [] [(.int .i64 a0), (.agg [(.int .i64 (IntKind.i64.wrap (y10.1 + a2_0))), (.own (2, 1) (.pair .int (.pair .int (.pair .int .int))) 0 l13_m8_1.length), (.own (3, 1) .int 0 l28_m8_2.length)])] _ (caps := []) (args0 := [(.int .i64 a0), (.agg [(.int .i64 (IntKind.i64.wrap (y10.1 + a2_0))), (.tree (.pair .int (.pair .int (.pair .int .int))) l13_m8_1), (.tree .int l28_m8_2)])]) trivial (by kernel_rfl) (by kernel_rfl) (gm_cons (by kernel_rfl) (gm_cons (gd_agg (gm_cons (by kernel_rfl) (gm_cons (gd_own (e := 51) (by kernel_rfl) rfl) (gm_cons (gd_own (e := 3) (by kernel_rfl) rfl) gm_nil)))) gm_nil)) (by kernel_rfl) (ok_impl_validCircuit h41) hb_impl_validCircuit (by kernel_rfl) ?_
              refine rs0 (.agg [(.int .i64 z41_0.1), .nils, .nils]) (by kernel_rfl) ?_
              refine rs0 (.bool z41_0.2) (by kernel_rfl) ?_
              refine rsn2 (0, 1) (0, 1) (.cells 31 [(.int .i64 z41_0.1), .nils, .nils]) (by kernel_rfl) ?_
              refine rs0 (.bool z41_0.2) (by kernel_rfl) ?_
              refine rnil (tn_ ?_)
              obtain rfl := Option.some.inj h
              exact ⟨_, ((weak_nil_cell_ 9000 (0, 1) 1 31 [(.int .i64 z41_0.1), .nils, .nils] [(.int .i64 z41_0.1), (.own (9000, 9) (.pair .int (.pair .int (.pair .int .int))) 0 0), .nils] 51 (.pair .int (.pair .int (.pair .int .int))) rfl (by kernel_rfl) (by kernel_rfl) (by kernel_rfl)).trans ((weak_nil_cell_ 9001 (0, 1) 2 31 [(.int .i64 z41_0.1), (.own (9000, 9) (.pair .int (.pair .int (.pair .int .int))) 0 0), .nils] [(.int .i64 z41_0.1), (.own (9000, 9) (.pair .int (.pair .int (.pair .int .int))) 0 0), (.own (9001, 10) .int 0 0)] 3 .int rfl (by kernel_rfl) (by kernel_rfl) (by kernel_rfl)).trans (weak_ren (renF [((1, 1), (9000, 9)), ((2, 1), (9001, 10))]) (by kernel_rfl) (by kernel_rfl) (by kernel_rfl)))), ⟨z41_0.2, z41_0.1, [], [], rfl, rfl⟩⟩
            · (try simp only [Sum.elim_inl, Sum.elim_inr] at h)
              refine awp_region_ 9 (by kernel_rfl) ?_
              refine rs0 (.int .i64 a0) (by kernel_rfl) ?_
              refine rsl (.agg [(.int .i64 (IntKind.i64.wrap (y10.1 + a2_0))), (.own (2, 1) (.pair .int (.pair .int (.pair .int .int))) 0 l13_m8_1.length), (.own (3, 1) .int 0 l28_m8_2.length)]) (by kernel_rfl) ?_
              refine rcall (.tup [(.agg [(.int .i64 z41_1.1), (.own (2, 1) (.pair .int (.pair .int (.pair .int .int))) 0 l13_m8_1.length), (.own (3, 1) .int 0 l28_m8_2.length)]), (.bool z41_1.2)]) [] [(.int .i64 a0), (.agg [(.int .i64 (IntKind.i64.wrap (y10.1 + a2_0))), (.own (2, 1) (.pair .int (.pair .int (.pair .int .int))) 0 l13_m8_1.length), (.own (3, 1) .int 0 l28_m8_2.length)])] _ (caps := []) (args0 := [(.int .i64 a0), (.agg [(.int .i64 (IntKind.i64.wrap (y10.1 + a2_0))), (.tree (.pair .int (.pair .int (.pair .int .int))) l13_m8_1), (.tree .int l28_m8_2)])]) trivial (by kernel_rfl) (by kernel_rfl) (gm_cons (by kernel_rfl) (gm_cons (gd_agg (gm_cons (by kernel_rfl) (gm_cons (gd_own (e := 51) (by kernel_rfl) rfl) (gm_cons (gd_own (e := 3) (by kernel_rfl) rfl) gm_nil)))) gm_nil)) (by kernel_rfl) (ok_impl_validCircuit h41) hb_impl_validCircuit (by kernel_rfl) ?_
              refine rs0 (.agg [(.int .i64 z41_1.1), (.own (2, 1) (.pair .int (.pair .int (.pair .int .int))) 0 l13_m8_1.length), (.own (3, 1) .int 0 l28_m8_2.length)]) (by kernel_rfl) ?_
              refine rs0 (.bool z41_1.2) (by kernel_rfl) ?_
              refine rsn2 (0, 1) (0, 1) (.cells 31 [(.int .i64 z41_1.1), (.own (2, 1) (.pair .int (.pair .int (.pair .int .int))) 0 l13_m8_1.length), (.own (3, 1) .int 0 l28_m8_2.length)]) (by kernel_rfl) ?_
              refine rs0 (.bool z41_1.2) (by kernel_rfl) ?_
              refine rnil (tn_ ?_)
              obtain rfl := Option.some.inj h
              exact ⟨_, (weak_ren (renF [((1, 1), (2, 1)), ((2, 1), (3, 1))]) (by kernel_rfl) (by kernel_rfl) (by kernel_rfl)), ⟨z41_1.2, z41_1.1, l13_m8_1, l28_m8_2, rfl, rfl⟩⟩
          · rintro _ _ ⟨l40_m7, l40_m6_0, l40_m6_1, l40_m6_2, rfl, rfl⟩ h
            (try dsimp only at h)
            refine awp_ret_ ?_
            obtain rfl := Option.some.inj h
            exact ret_ [(.agg [(.int .i64 l40_m6_0), (.own (1, 1) (.pair .int (.pair .int (.pair .int .int))) 0 l40_m6_1.length), (.own (2, 1) .int 0 l40_m6_2.length)]), (.bool l40_m7)] (by simp) (by kernel_rfl) (p_agg (l_cons (l_sc (by kernel_rfl)) (l_cons (l_own (by kernel_rfl) rfl) (l_cons (l_own (by kernel_rfl) rfl) l_nil))) (p_one rfl (l_sc (by kernel_rfl)) p_nil)) (by kernel_rfl) (by kernel_rfl)
def m_laws_FnExactParCircuits : AC :=
  (.seq (.region [⟨(some 4), none, (.i (.box 25 (.tmp 1)))⟩, ⟨(some 5), none, (.i (.box 25 (.tmp 2)))⟩, ⟨(some 6), none, (.i (.mov (.cst (.bool false))))⟩] false [])
  (.seq (.region [⟨(some 7), none, (.i (.mov (.cst (.int .i64 1048576))))⟩] false [])
  (.seq (.region [⟨(some 19), none, (.i (.ld false 3 (.tmp 4)))⟩, ⟨(some 20), none, (.i (.mov (.tmp 7)))⟩, ⟨(some 21), none, (.call (.cst (.fn 10 [])) [(.tmp 19), (.tmp 20)] [[none, (some (.pair .int (.pair .int (.pair .int .int)))), (some .int)], []])⟩, ⟨(some 7), none, (.i (.mov (.tmp 21)))⟩] false [])
  (.seq (.seq (.region [⟨(some 22), none, (.i (.mov (.tmp 7)))⟩, ⟨(some 23), none, (.i (.bin .lss (.tmp 22) (.cst (.int .i64 0))))⟩] false [])
  (.cond (.tmp 23)
    (.seq (.region [⟨(some 6), none, (.i (.mov (.cst (.bool true))))⟩] false [])
    .ret)
    .skip))
  (.seq (.region [⟨(some 24), none, (.i (.ld false 3 (.tmp 5)))⟩, ⟨(some 25), none, (.i (.mov (.tmp 7)))⟩, ⟨(some 26), none, (.call (.cst (.fn 10 [])) [(.tmp 24), (.tmp 25)] [[none, (some (.pair .int (.pair .int (.pair .int .int)))), (some .int)], []])⟩, ⟨(some 7), none, (.i (.mov (.tmp 26)))⟩] false [])
  (.seq (.seq (.region [⟨(some 27), none, (.i (.mov (.tmp 7)))⟩, ⟨(some 28), none, (.i (.bin .lss (.tmp 27) (.cst (.int .i64 0))))⟩] false [])
  (.cond (.tmp 28)
    (.seq (.region [⟨(some 6), none, (.i (.mov (.cst (.bool true))))⟩] false [])
    .ret)
    .skip))
  (.seq (.region [⟨(some 30), none, (.i (.mov (.tmp 0)))⟩, ⟨(some 31), none, (.i (.ld false 3 (.tmp 4)))⟩, ⟨(some 32), none, (.call (.cst (.fn 12 [])) [(.tmp 31)] [[none, (some (.pair .int (.pair .int (.pair .int .int)))), (some .int)]])⟩, ⟨(some 33), none, (.i (.ld false 3 (.tmp 5)))⟩, ⟨(some 34), none, (.call (.cst (.fn 12 [])) [(.tmp 33)] [[none, (some (.pair .int (.pair .int (.pair .int .int)))), (some .int)]])⟩, ⟨(some 35), none, (.call (.cst (.fn 29 [])) [(.tmp 30), (.tmp 32), (.tmp 34)] [[], [none, (some (.pair .int (.pair .int (.pair .int .int)))), (some .int)], [none, (some (.pair .int (.pair .int (.pair .int .int)))), (some .int)]])⟩, ⟨(some 29), none, (.i (.mov (.tmp 35)))⟩, ⟨(some 36), none, (.i (.extr 0 (.tmp 29)))⟩, ⟨(some 37), none, (.i (.extr 1 (.tmp 29)))⟩, ⟨(some 8), none, (.i (.alloc 31 [(.int .i64 0), .nils, .nils]))⟩, ⟨none, none, (.st false 3 (.tmp 8) (.tmp 36))⟩, ⟨(some 9), none, (.i (.mov (.tmp 37)))⟩] true [(2, 3), (2, 9), (4, 9), (5, 9)])
  (.seq (.region [⟨(some 38), none, (.i (.ld false 3 (.tmp 4)))⟩, ⟨(some 39), none, (.call (.cst (.fn 12 [])) [(.tmp 38)] [[none, (some (.pair .int (.pair .int (.pair .int .int)))), (some .int)]])⟩, ⟨(some 10), none, (.i (.alloc 31 [(.int .i64 0), .nils, .nils]))⟩, ⟨none, none, (.st false 3 (.tmp 10) (.tmp 39))⟩] false [])
  (.seq (.region [⟨(some 40), none, (.i (.ld false 3 (.tmp 5)))⟩, ⟨(some 41), none, (.call (.cst (.fn 12 [])) [(.tmp 40)] [[none, (some (.pair .int (.pair .int (.pair .int .int)))), (some .int)]])⟩, ⟨(some 11), none, (.i (.alloc 31 [(.int .i64 0), .nils, .nils]))⟩, ⟨none, none, (.st false 3 (.tmp 11) (.tmp 41))⟩] false [])
  (.seq (.region [⟨(some 43), none, (.i (.mov (.tmp 0)))⟩, ⟨(some 44), none, (.i (.ld false 3 (.tmp 10)))⟩, ⟨(some 45), none, (.i (.ld false 3 (.tmp 11)))⟩, ⟨(some 46), none, (.call (.cst (.fn 30 [])) [(.tmp 43), (.tmp 44), (.tmp 45)] [[], [none, (some (.pair .int (.pair .int (.pair .int .int)))), (some .int)], [none, (some (.pair .int (.pair .int (.pair .int .int)))), (some .int)]])⟩, ⟨(some 42), none, (.i (.mov (.tmp 46)))⟩, ⟨(some 47), none, (.i (.extr 0 (.tmp 42)))⟩, ⟨(some 48), none, (.i (.extr 1 (.tmp 42)))⟩, ⟨(some 12), none, (.i (.alloc 31 [(.int .i64 0), .nils, .nils]))⟩, ⟨none, none, (.st false 3 (.tmp 12) (.tmp 47))⟩, ⟨(some 13), none, (.i (.mov (.tmp 48)))⟩] false [])
  (.seq (.seq (.region [⟨(some 49), none, (.i (.ld false 3 (.tmp 12)))⟩, ⟨(some 50), none, (.i (.ld false 3 (.tmp 8)))⟩, ⟨(some 51), none, (.call (.cst (.fn 15 [])) [(.tmp 49), (.tmp 50)] [[none, (some (.pair .int (.pair .int (.pair .int .int)))), (some .int)], [none, (some (.pair .int (.pair .int (.pair .int .int)))), (some .int)]])⟩, ⟨(some 52), none, (.i (.not (.tmp 51)))⟩, ⟨(some 53), none, (.i (.mov (.tmp 52)))⟩, ⟨(some 54), (some (53, false)), (.i (.mov (.tmp 13)))⟩, ⟨(some 55), (some (53, false)), (.i (.mov (.tmp 9)))⟩, ⟨(some 56), (some (53, false)), (.i (.cmp true 0 (.tmp 54) (.tmp 55)))⟩, ⟨(some 57), none, (.i (.pick (.tmp 53) (.cst (.bool true)) (.tmp 56)))⟩] false [])
  (.cond (.tmp 57)
    (.seq (.region [⟨(some 6), none, (.i (.mov (.cst (.bool false))))⟩] false [])
    .ret)
    .skip))
  (.seq (.seq (.region [⟨(some 58), none, (.i (.ld false 3 (.tmp 10)))⟩, ⟨(some 59), none, (.i (.ld false 3 (.tmp 4)))⟩, ⟨(some 60), none, (.call (.cst (.fn 12 [])) [(.tmp 59)] [[none, (some (.pair .int (.pair .int (.pair .int .int)))), (some .int)]])⟩, ⟨(some 61), none, (.call (.cst (.fn 15 [])) [(.tmp 58), (.tmp 60)] [[none, (some (.pair .int (.pair .int (.pair .int .int)))), (some .int)], [none, (some (.pair .int (.pair .int (.pair .int .int)))), (some .int)]])⟩, ⟨(some 62), none, (.i (.not (.tmp 61)))⟩] true [(0, 2)])
  (.cond (.tmp 62)
    (.seq (.region [⟨(some 6), none, (.i (.mov (.cst (.bool false))))⟩] false [])
    .ret)
    .skip))
  (.seq (.seq (.region [⟨(some 63), none, (.i (.ld false 3 (.tmp 11)))⟩, ⟨(some 64), none, (.i (.ld false 3 (.tmp 5)))⟩, ⟨(some 65), none, (.call (.cst (.fn 12 [])) [(.tmp 64)] [[none, (some (.pair .int (.pair .int (.pair .int .int)))), (some .int)]])⟩, ⟨(some 66), none, (.call (.cst (.fn 15 [])) [(.tmp 63), (.tmp 65)] [[none, (some (.pair .int (.pair .int (.pair .int .int)))), (some .int)], [none, (some (.pair .int (.pair .int (.pair .int .int)))), (some .int)]])⟩, ⟨(some 67), none, (.i (.not (.tmp 66)))⟩] true [(0, 2)])
  (.cond (.tmp 67)
    (.seq (.region [⟨(some 6), none, (.i (.mov (.cst (.bool false))))⟩] false [])
    .ret)
    .skip))
  (.seq (.region [⟨(some 14), none, (.i (.mov (.cst (.int .i64 1))))⟩] false [])
  (.seq (.region [⟨(some 68), none, (.i (.ld false 3 (.tmp 10)))⟩, ⟨(some 69), none, (.i (.mov (.tmp 14)))⟩, ⟨(some 70), none, (.call (.cst (.fn 16 [])) [(.tmp 68), (.tmp 69)] [[none, (some (.pair .int (.pair .int (.pair .int .int)))), (some .int)], []])⟩, ⟨(some 14), none, (.i (.mov (.tmp 70)))⟩] false [])
  (.seq (.region [⟨(some 71), none, (.i (.ld false 3 (.tmp 11)))⟩, ⟨(some 72), none, (.i (.mov (.tmp 14)))⟩, ⟨(some 73), none, (.call (.cst (.fn 16 [])) [(.tmp 71), (.tmp 72)] [[none, (some (.pair .int (.pair .int (.pair .int .int)))), (some .int)], []])⟩, ⟨(some 14), none, (.i (.mov (.tmp 73)))⟩] false [])
  (.seq (.seq (.region [⟨(some 74), none, (.i (.mov (.tmp 14)))⟩, ⟨(some 75), none, (.i (.bin .lss (.tmp 74) (.cst (.int .i64 0))))⟩, ⟨(some 76), none, (.i (.mov (.tmp 75)))⟩, ⟨(some 77), (some (76, false)), (.i (.ld false 3 (.tmp 12)))⟩, ⟨(some 78), (some (76, false)), (.i (.ld false 3 (.tmp 8)))⟩, ⟨(some 79), (some (76, false)), (.call (.cst (.fn 15 [])) [(.tmp 77), (.tmp 78)] [[none, (some (.pair .int (.pair .int (.pair .int .int)))), (some .int)], [none, (some (.pair .int (.pair .int (.pair .int .int)))), (some .int)]])⟩, ⟨(some 80), (some (76, false)), (.i (.not (.tmp 79)))⟩, ⟨(some 81), none, (.i (.pick (.tmp 76) (.cst (.bool true)) (.tmp 80)))⟩, ⟨(some 82), none, (.i (.mov (.tmp 81)))⟩, ⟨(some 83), (some (82, false)), (.i (.mov (.tmp 13)))⟩, ⟨(some 84), (some (82, false)), (.i (.mov (.tmp 9)))⟩, ⟨(some 85), (some (82, false)), (.i (.cmp true 0 (.tmp 83) (.tmp 84)))⟩, ⟨(some 86), none, (.i (.pick (.tmp 82) (.cst (.bool true)) (.tmp 85)))⟩] false [])
  (.cond (.tmp 86)
    (.seq (.region [⟨(some 6), none, (.i (.mov (.cst (.bool false))))⟩] false [])
    .ret)
    .skip))
  (.seq (.region [⟨(some 15), none, (.i (.mov (.cst (.int .i64 1))))⟩] false [])
  (.seq (.region [⟨(some 87), none, (.i (.ld false 3 (.tmp 12)))⟩, ⟨(some 88), none, (.i (.mov (.tmp 15)))⟩, ⟨(some 89), none, (.call (.cst (.fn 16 [])) [(.tmp 87), (.tmp 88)] [[none, (some (.pair .int (.pair .int (.pair .int .int)))), (some .int)], []])⟩, ⟨(some 15), none, (.i (.mov (.tmp 89)))⟩] false [])
  (.seq (.region [⟨(some 16), none, (.i (.mov (.cst (.int .i64 1))))⟩] false [])
  (.seq (.region [⟨(some 90), none, (.i (.ld false 3 (.tmp 12)))⟩, ⟨(some 91), none, (.i (.mov (.tmp 16)))⟩, ⟨(some 92), none, (.call (.cst (.fn 21 [])) [(.tmp 90), (.tmp 91)] [[none, (some (.pair .int (.pair .int (.pair .int .int)))), (some .int)], []])⟩, ⟨(some 16), none, (.i (.mov (.tmp 92)))⟩] false [])
  (.seq (.seq (.region [⟨(some 93), none, (.i (.mov (.tmp 16)))⟩, ⟨(some 94), none, (.i (.bin .lss (.tmp 93) (.cst (.int .i64 0))))⟩] false [])
  (.cond (.tmp 94)
    (.seq (.region [⟨(some 6), none, (.i (.mov (.cst (.bool false))))⟩] false [])
    .ret)
    .skip))
  (.seq (.seq (.region [⟨(some 95), none, (.i (.mov (.tmp 16)))⟩, ⟨(some 96), none, (.i (.mov (.tmp 15)))⟩, ⟨(some 97), none, (.i (.bin .neq (.tmp 95) (.tmp 96)))⟩] false [])
  (.cond (.tmp 97)
    (.seq (.region [⟨(some 6), none, (.i (.mov (.cst (.bool false))))⟩] false [])
    .ret)
    .skip))
  (.seq (.region [⟨(some 99), none, (.i (.mov (.tmp 0)))⟩, ⟨(some 100), none, (.i (.ld false 3 (.tmp 4)))⟩, ⟨(some 101), none, (.call (.cst (.fn 12 [])) [(.tmp 100)] [[none, (some (.pair .int (.pair .int (.pair .int .int)))), (some .int)]])⟩, ⟨(some 102), none, (.i (.ld false 3 (.tmp 5)))⟩, ⟨(some 103), none, (.call (.cst (.fn 12 [])) [(.tmp 102)] [[none, (some (.pair .int (.pair .int (.pair .int .int)))), (some .int)]])⟩, ⟨(some 104), none, (.call (.cst (.fn 30 [])) [(.tmp 99), (.tmp 101), (.tmp 103)] [[], [none, (some (.pair .int (.pair .int (.pair .int .int)))), (some .int)], [none, (some (.pair .int (.pair .int (.pair .int .int)))), (some .int)]])⟩, ⟨(some 98), none, (.i (.mov (.tmp 104)))⟩, ⟨(some 105), none, (.i (.extr 0 (.tmp 98)))⟩, ⟨(some 106), none, (.i (.extr 1 (.tmp 98)))⟩, ⟨(some 17), none, (.i (.alloc 31 [(.int .i64 0), .nils, .nils]))⟩, ⟨none, none, (.st false 3 (.tmp 17) (.tmp 105))⟩, ⟨(some 18), none, (.i (.mov (.tmp 106)))⟩] true [(2, 3), (2, 9), (4, 9), (5, 9)])
  (.seq (.seq (.region [⟨(some 107), none, (.i (.ld false 3 (.tmp 17)))⟩, ⟨(some 108), none, (.i (.ld false 3 (.tmp 8)))⟩, ⟨(some 109), none, (.call (.cst (.fn 15 [])) [(.tmp 107), (.tmp 108)] [[none, (some (.pair .int (.pair .int (.pair .int .int)))), (some .int)], [none, (some (.pair .int (.pair .int (.pair .int .int)))), (some .int)]])⟩, ⟨(some 110), none, (.i (.not (.tmp 109)))⟩, ⟨(some 111), none, (.i (.mov (.tmp 110)))⟩, ⟨(some 112), (some (111, false)), (.i (.mov (.tmp 18)))⟩, ⟨(some 113), (some (111, false)), (.i (.mov (.tmp 9)))⟩, ⟨(some 114), (some (111, false)), (.i (.cmp true 0 (.tmp 112) (.tmp 113)))⟩, ⟨(some 115), none, (.i (.pick (.tmp 111) (.cst (.bool true)) (.tmp 114)))⟩] false [])
  (.cond (.tmp 115)
    (.seq (.region [⟨(some 6), none, (.i (.mov (.cst (.bool false))))⟩] false [])
    .ret)
    .skip))
  (.seq (.region [⟨(some 16), none, (.i (.mov (.cst (.int .i64 1))))⟩] false [])
  (.seq (.region [⟨(some 116), none, (.i (.ld false 3 (.tmp 12)))⟩, ⟨(some 117), none, (.i (.mov (.tmp 16)))⟩, ⟨(some 118), none, (.call (.cst (.fn 21 [])) [(.tmp 116), (.tmp 117)] [[none, (some (.pair .int (.pair .int (.pair .int .int)))), (some .int)], []])⟩, ⟨(some 16), none, (.i (.mov (.tmp 118)))⟩] false [])
  (.seq (.seq (.region [⟨(some 119), none, (.i (.mov (.tmp 16)))⟩, ⟨(some 120), none, (.i (.bin .lss (.tmp 119) (.cst (.int .i64 0))))⟩] false [])
  (.cond (.tmp 120)
    (.seq (.region [⟨(some 6), none, (.i (.mov (.cst (.bool false))))⟩] false [])
    .ret)
    .skip))
  (.seq (.seq (.region [⟨(some 121), none, (.i (.mov (.tmp 16)))⟩, ⟨(some 122), none, (.i (.mov (.tmp 15)))⟩, ⟨(some 123), none, (.i (.bin .neq (.tmp 121) (.tmp 122)))⟩] false [])
  (.cond (.tmp 123)
    (.seq (.region [⟨(some 6), none, (.i (.mov (.cst (.bool false))))⟩] false [])
    .ret)
    .skip))
  (.seq (.region [⟨(some 6), none, (.i (.mov (.cst (.bool true))))⟩] false [])
  .ret))))))))))))))))))))))))))))))
def r_laws_FnExactParCircuits : List Res := [.tmp 6]
theorem c_laws_FnExactParCircuits : compiled Tryd.prog Tryd.f8 = some (m_laws_FnExactParCircuits, r_laws_FnExactParCircuits) := by kernel_rfl
theorem hb_laws_FnExactParCircuits : hasBody Tryd.prog 8 = true := by kernel_rfl
def L_laws_FnExactParCircuits (a0 : Int) (a1_0 : Int) (a1_1 : List (Int × Int × Int × Int)) (a1_2 : List Int) (a2_0 : Int) (a2_1 : List (Int × Int × Int × Int)) (a2_2 : List Int) : Option Bool :=
  Option.bind (L_laws_szCircuit a1_0 a1_1 a1_2 1048576) fun y4 =>
cond (decide (y4 < 0))
  (some true)
  (Option.bind (L_laws_szCircuit a2_0 a2_1 a2_2 y4) fun y10 =>
  cond (decide (y10 < 0))
    (some true)
    (Option.bind (L_laws_toCircuit a1_0 a1_1 a1_2) fun y16 =>
    Option.bind (L_laws_toCircuit a2_0 a2_1 a2_2) fun y17 =>
    Option.bind (L_spec_ParCircuits a0 y16.1 y16.2.1 y16.2.2 y17.1 y17.2.1 y17.2.2) fun y18 =>
    Option.bind (L_laws_toCircuit a1_0 a1_1 a1_2) fun y20 =>
    Option.bind (L_laws_toCircuit a2_0 a2_1 a2_2) fun y22 =>
    Option.bind (L_impl_ParCircuits a0 y20.1 y20.2.1 y20.2.2 y22.1 y22.2.1 y22.2.2) fun y24 =>
    Option.bind (Option.bind (L_laws_eqCircuit y24.1 y24.2.1 y24.2.2.1 y18.1 y18.2.1 y18.2.2.1) fun y27 =>
      cond (!y27)
        (some true)
        (some (y24.2.2.2 != y18.2.2.2))) fun l26_m57 =>
    cond l26_m57
      (some false)
      (Option.bind (L_laws_toCircuit a1_0 a1_1 a1_2) fun y33 =>
      Option.bind (L_laws_eqCircuit y20.1 y20.2.1 y20.2.2 y33.1 y33.2.1 y33.2.2) fun y34 =>
      cond (!y34)
        (some false)
        (Option.bind (L_laws_toCircuit a2_0 a2_1 a2_2) fun y39 =>
        Option.bind (L_laws_eqCircuit y22.1 y22.2.1 y22.2.2 y39.1 y39.2.1 y39.2.2) fun y40 =>
        cond (!y40)
          (some false)
          (Option.bind (L_laws_markCircuit y20.1 y20.2.1 y20.2.2 1) fun y45 =>
          og (y45.1.length = y20.2.1.length) <|
          og (y45.2.1.length = y20.2.2.length) <|
          Option.bind (L_laws_markCircuit y22.1 y22.2.1 y22.2.2 y45.2.2) fun y49 =>
          og (y49.1.length = y22.2.1.length) <|
          og (y49.2.1.length = y22.2.2.length) <|
          Option.bind (cond (decide (y49.2.2 < 0))
              (some true)
              (Option.bind (L_laws_eqCircuit y24.1 y24.2.1 y24.2.2.1 y18.1 y18.2.1 y18.2.2.1) fun y55 =>
              cond (!y55)
                (some true)
                (some (y24.2.2.2 != y18.2.2.2)))) fun l53_m86 =>
          cond l53_m86
            (some false)
            (Option.bind (L_laws_markCircuit y24.1 y24.2.1 y24.2.2.1 1) fun y61 =>
            og (y61.1.length = y24.2.1.length) <|
            og (y61.2.1.length = y24.2.2.1.length) <|
            Option.bind (L_laws_heldCircuit y24.1 y61.1 y61.2.1 1) fun y66 =>
            cond (decide (y66 < 0))
              (some false)
              (cond (y66 != y61.2.2)
                (some false)
                (Option.bind (L_laws_toCircuit a1_0 a1_1 a1_2) fun y76 =>
                Option.bind (L_laws_toCircuit a2_0 a2_1 a2_2) fun y77 =>
                Option.bind (L_impl_ParCircuits a0 y76.1 y76.2.1 y76.2.2 y77.1 y77.2.1 y77.2.2) fun y78 =>
                Option.bind (Option.bind (L_laws_eqCircuit y78.1 y78.2.1 y78.2.2.1 y18.1 y18.2.1 y18.2.2.1) fun y81 =>
                  cond (!y81)
                    (some true)
                    (some (y78.2.2.2 != y18.2.2.2))) fun l80_m115 =>
                cond l80_m115
                  (some false)
                  (Option.bind (L_laws_heldCircuit y24.1 y61.1 y61.2.1 1) fun y87 =>
                  cond (decide (y87 < 0))
                    (some false)
                    (cond (y87 != y61.2.2)
                      (some false)
                      (some true)))))))))))
def rv_laws_FnExactParCircuits (r : Bool) : RV := ⟨false, [(false, [.sc (.bool r)])]⟩
theorem ok_laws_FnExactParCircuits {a0 : Int} {a1_0 : Int} {a1_1 : List (Int × Int × Int × Int)} {a1_2 : List Int} {a2_0 : Int} {a2_1 : List (Int × Int × Int × Int)} {a2_2 : List Int} {r : Bool} (h : L_laws_FnExactParCircuits a0 a1_0 a1_1 a1_2 a2_0 a2_1 a2_2 = some r) : CallOK Tryd.prog Tab 8 [(.int .i64 a0), (.agg [(.int .i64 a1_0), (.tree (.pair .int (.pair .int (.pair .int .int))) a1_1), (.tree .int a1_2)]), (.agg [(.int .i64 a2_0), (.tree (.pair .int (.pair .int (.pair .int .int))) a2_1), (.tree .int a2_2)])] (rv_laws_FnExactParCircuits r) := by
  refine call_of_ (by kernel_rfl) Tryd.func8 c_laws_FnExactParCircuits (n := 124) (by kernel_rfl) (by simp) (tl := [(0, (.int .i64 a0)), (1, (.agg [(.int .i64 a1_0), (.tree (.pair .int (.pair .int (.pair .int .int))) a1_1), (.tree .int a1_2)])), (2, (.agg [(.int .i64 a2_0), (.tree (.pair .int (.pair .int (.pair .int .int))) a2_1), (.tree .int a2_2)]))]) rfl ?_
  unfold m_laws_FnExactParCircuits
  unfold L_laws_FnExactParCircuits at h
  refine awp_seq_ ?_
  refine awp_region_ 4 (by kernel_rfl) ?_
  refine rs1 (.box (4, 1) 0) (4, 1) (.cells 25 [(.int .i64 a1_0), (.tree (.pair .int (.pair .int (.pair .int .int))) a1_1), (.tree .int a1_2)]) (by kernel_rfl) ?_
  refine rs1 (.box (5, 2) 0) (5, 2) (.cells 25 [(.int .i64 a2_0), (.tree (.pair .int (.pair .int (.pair .int .int))) a2_1), (.tree .int a2_2)]) (by kernel_rfl) ?_
  refine rs0 (.bool false) (by kernel_rfl) ?_
  refine rnil (tn_ ?_)
  refine awp_seq_ ?_
  refine awp_region_ 5 (by kernel_rfl) ?_
  refine rs0 (.int .i64 1048576) (by kernel_rfl) ?_
  refine rnil (tn_ ?_)
  refine awp_seq_ ?_
  obtain ⟨y4, h4, h⟩ := ob_some h
  refine awp_region_ 9 (by kernel_rfl) ?_
  refine rsl (.agg [(.int .i64 a1_0), (.tree (.pair .int (.pair .int (.pair .int .int))) a1_1), (.tree .int a1_2)]) (by kernel_rfl) ?_
  refine rs0 (.int .i64 1048576) (by kernel_rfl) ?_
  refine rcall (.int .i64 y4) [] [(.agg [(.int .i64 a1_0), (.tree (.pair .int (.pair .int (.pair .int .int))) a1_1), (.tree .int a1_2)]), (.int .i64 1048576)] _ (caps := []) (args0 := [(.agg [(.int .i64 a1_0), (.tree (.pair .int (.pair .int (.pair .int .int))) a1_1), (.tree .int a1_2)]), (.int .i64 1048576)]) trivial (by kernel_rfl) (by kernel_rfl) (by kernel_rfl) (by kernel_rfl) (ok_laws_szCircuit h4) hb_laws_szCircuit (by kernel_rfl) ?_
  refine rs0 (.int .i64 y4) (by kernel_rfl) ?_
  refine rnil (tn_ ?_)
  refine awp_seq_ ?_
  refine awp_seq_ ?_
  refine awp_region_ 11 (by kernel_rfl) ?_
  refine rs0 (.int .i64 y4) (by kernel_rfl) ?_
  refine rs0 (.bool (decide (y4 < 0))) (by kernel_rfl) ?_
  refine rnil (tn_ ?_)
  rcases cond_some h with ⟨q7, h⟩ | ⟨q7, h⟩
  · have q7_ := of_decide_eq_true q7
    refine awp_condT_ q7 (by kernel_rfl) ?_
    refine awp_seq_ ?_
    refine awp_region_ 12 (by kernel_rfl) ?_
    refine rs0 (.bool true) (by kernel_rfl) ?_
    refine rnil (tn_ ?_)
    refine awp_ret_ (tr_ ?_)
    obtain rfl := Option.some.inj h
    exact ret_ [(.bool true)] (by simp) (by kernel_rfl) (p_one rfl (l_sc (by kernel_rfl)) p_nil) (by kernel_rfl) (by kernel_rfl)
  · have q7_ := of_decide_eq_false q7
    refine awp_condF_ q7 (by kernel_rfl) ?_
    refine awp_skip_ (tn_ ?_)
    refine awp_seq_ ?_
    obtain ⟨y10, h10, h⟩ := ob_some h
    refine awp_region_ 15 (by kernel_rfl) ?_
    refine rsl (.agg [(.int .i64 a2_0), (.tree (.pair .int (.pair .int (.pair .int .int))) a2_1), (.tree .int a2_2)]) (by kernel_rfl) ?_
    refine rs0 (.int .i64 y4) (by kernel_rfl) ?_
    refine rcall (.int .i64 y10) [] [(.agg [(.int .i64 a2_0), (.tree (.pair .int (.pair .int (.pair .int .int))) a2_1), (.tree .int a2_2)]), (.int .i64 y4)] _ (caps := []) (args0 := [(.agg [(.int .i64 a2_0), (.tree (.pair .int (.pair .int (.pair .int .int))) a2_1), (.tree .int a2_2)]), (.int .i64 y4)]) trivial (by kernel_rfl) (by kernel_rfl) (by kernel_rfl) (by kernel_rfl) (ok_laws_szCircuit h10) hb_laws_szCircuit (by kernel_rfl) ?_
    refine rs0 (.int .i64 y10) (by kernel_rfl) ?_
    refine rnil (tn_ ?_)
    refine awp_seq_ ?_
    refine awp_seq_ ?_
    refine awp_region_ 17 (by kernel_rfl) ?_
    refine rs0 (.int .i64 y10) (by kernel_rfl) ?_
    refine rs0 (.bool (decide (y10 < 0))) (by kernel_rfl) ?_
    refine rnil (tn_ ?_)
    rcases cond_some h with ⟨q13, h⟩ | ⟨q13, h⟩
    · have q13_ := of_decide_eq_true q13
      refine awp_condT_ q13 (by kernel_rfl) ?_
      refine awp_seq_ ?_
      refine awp_region_ 18 (by kernel_rfl) ?_
      refine rs0 (.bool true) (by kernel_rfl) ?_
      refine rnil (tn_ ?_)
      refine awp_ret_ (tr_ ?_)
      obtain rfl := Option.some.inj h
      exact ret_ [(.bool true)] (by simp) (by kernel_rfl) (p_one rfl (l_sc (by kernel_rfl)) p_nil) (by kernel_rfl) (by kernel_rfl)
    · have q13_ := of_decide_eq_false q13
      refine awp_condF_ q13 (by kernel_rfl) ?_
      refine awp_skip_ (tn_ ?_)
      refine awp_seq_ ?_
      obtain ⟨y16, h16, h⟩ := ob_some h
      obtain ⟨y17, h17, h⟩ := ob_some h
      obtain ⟨y18, h18, h⟩ := ob_some h
      refine awp_regionD_ 29 (by kernel_rfl) ?_
      refine ds0 (.int .i64 a0) (by kernel_rfl) ?_
      refine dsl (.agg [(.int .i64 a1_0), (.tree (.pair .int (.pair .int (.pair .int .int))) a1_1), (.tree .int a1_2)]) (by kernel_rfl) ?_
      refine dcall (.agg [(.int .i64 y16.1), (.own (512, 19) (.pair .int (.pair .int (.pair .int .int))) 0 y16.2.1.length), (.own (513, 19) .int 0 y16.2.2.length)]) [((512, 19), some (.arr 51 (.pair .int (.pair .int (.pair .int .int))) y16.2.1)), ((513, 19), some (.arr 3 .int y16.2.2))] [(.agg [(.int .i64 a1_0), (.tree (.pair .int (.pair .int (.pair .int .int))) a1_1), (.tree .int a1_2)])] _ (caps := []) (args0 := [(.agg [(.int .i64 a1_0), (.tree (.pair .int (.pair .int (.pair .int .int))) a1_1), (.tree .int a1_2)])]) trivial (by kernel_rfl) (by kernel_rfl) (by kernel_rfl) (by kernel_rfl) (ok_laws_toCircuit h16) hb_laws_toCircuit (by kernel_rfl) ?_
      refine dsl (.agg [(.int .i64 a2_0), (.tree (.pair .int (.pair .int (.pair .int .int))) a2_1), (.tree .int a2_2)]) (by kernel_rfl) ?_
      refine dcall (.agg [(.int .i64 y17.1), (.own (544, 21) (.pair .int (.pair .int (.pair .int .int))) 0 y17.2.1.length), (.own (545, 21) .int 0 y17.2.2.length)]) [((544, 21), some (.arr 51 (.pair .int (.pair .int (.pair .int .int))) y17.2.1)), ((545, 21), some (.arr 3 .int y17.2.2))] [(.agg [(.int .i64 a2_0), (.tree (.pair .int (.pair .int (.pair .int .int))) a2_1), (.tree .int a2_2)])] _ (caps := []) (args0 := [(.agg [(.int .i64 a2_0), (.tree (.pair .int (.pair .int (.pair .int .int))) a2_1), (.tree .int a2_2)])]) trivial (by kernel_rfl) (by kernel_rfl) (by kernel_rfl) (by kernel_rfl) (ok_laws_toCircuit h17) hb_laws_toCircuit (by kernel_rfl) ?_
      refine dcall (.tup [(.agg [(.int .i64 y18.1), (.own (560, 22) (.pair .int (.pair .int (.pair .int .int))) 0 y18.2.1.length), (.own (561, 22) .int 0 y18.2.2.1.length)]), (.bool y18.2.2.2)]) [((560, 22), some (.arr 51 (.pair .int (.pair .int (.pair .int .int))) y18.2.1)), ((561, 22), some (.arr 3 .int y18.2.2.1))] [(.int .i64 a0), (.agg [(.int .i64 y16.1), (.own (512, 19) (.pair .int (.pair .int (.pair .int .int))) 0 y16.2.1.length), (.own (513, 19) .int 0 y16.2.2.length)]), (.agg [(.int .i64 y17.1), (.own (544, 21) (.pair .int (.pair .int (.pair .int .int))) 0 y17.2.1.length), (.own (545, 21) .int 0 y17.2.2.length)])] _ (caps := []) (args0 := [(.int .i64 a0), (.agg [(.int .i64 y16.1), (.tree (.pair .int (.pair .int (.pair .int .int))) y16.2.1), (.tree .int y16.2.2)]), (.agg [(.int .i64 y17.1), (.tree (.pair .int (.pair .int (.pair .int .int))) y17.2.1), (.tree .int y17.2.2)])]) trivial (by kernel_rfl) (by kernel_rfl) (gm_cons (by kernel_rfl) (gm_cons (gd_agg (gm_cons (by kernel_rfl) (gm_cons (gd_own (e := 51) (by kernel_rfl) rfl) (gm_cons (gd_own (e := 3) (by kernel_rfl) rfl) gm_nil)))) (gm_cons (gd_agg (gm_cons (by kernel_rfl) (gm_cons (gd_own (e := 51) (by kernel_rfl) rfl) (gm_cons (gd_own (e := 3) (by kernel_rfl) rfl) gm_nil)))) gm_nil))) (by kernel_rfl) (ok_spec_ParCircuits h18) hb_spec_ParCircuits (by kernel_rfl) ?_
      refine ds0 (.tup [(.agg [(.int .i64 y18.1), (.own (560, 22) (.pair .int (.pair .int (.pair .int .int))) 0 y18.2.1.length), (.own (561, 22) .int 0 y18.2.2.1.length)]), (.bool y18.2.2.2)]) (by kernel_rfl) ?_
      refine ds0 (.agg [(.int .i64 y18.1), (.own (560, 22) (.pair .int (.pair .int (.pair .int .int))) 0 y18.2.1.length), (.own (561, 22) .int 0 y18.2.2.1.length)]) (by kernel_rfl) ?_
      refine ds0 (.bool y18.2.2.2) (by kernel_rfl) ?_
      refine ds1 (.box (8, 26) 0) (8, 26) (.cells 31 [(.int .i64 0), .nils, .nils]) (by kernel_rfl) ?_
      refine dsn2 (8, 26) (8, 26) (.cells 31 [(.int .i64 y18.1), (.own (560, 22) (.pair .int (.pair .int (.pair .int .int))) 0 y18.2.1.length), (.own (561, 22) .int 0 y18.2.2.1.length)]) (by kernel_rfl) ?_
      refine ds0 (.bool y18.2.2.2) (by kernel_rfl) ?_
      refine dnil (by kernel_rfl) (tn_ ?_)
      refine awp_seq_ ?_
      obtain ⟨y20, h20, h⟩ := ob_some h
      refine awp_region_ 33 (by kernel_rfl) ?_
      refine rsl (.agg [(.int .i64 a1_0), (.tree (.pair .int (.pair .int (.pair .int .int))) a1_1), (.tree .int a1_2)]) (by kernel_rfl) ?_
      refine rcall (.agg [(.int .i64 y20.1), (.own (624, 30) (.pair .int (.pair .int (.pair .int .int))) 0 y20.2.1.length), (.own (625, 30) .int 0 y20.2.2.length)]) [((624, 30), some (.arr 51 (.pair .int (.pair .int (.pair .int .int))) y20.2.1)), ((625, 30), some (.arr 3 .int y20.2.2))] [(.agg [(.int .i64 a1_0), (.tree (.pair .int (.pair .int (.pair .int .int))) a1_1), (.tree .int a1_2)])] _ (caps := []) (args0 := [(.agg [(.int .i64 a1_0), (.tree (.pair .int (.pair .int (.pair .int .int))) a1_1), (.tree .int a1_2)])]) trivial (by kernel_rfl) (by kernel_rfl) (by kernel_rfl) (by kernel_rfl) (ok_laws_toCircuit h20) hb_laws_toCircuit (by kernel_rfl) ?_
      refine rs1 (.box (10, 31) 0) (10, 31) (.cells 31 [(.int .i64 0), .nils, .nils]) (by kernel_rfl) ?_
      refine rsn2 (10, 31) (10, 31) (.cells 31 [(.int .i64 y20.1), (.own (624, 30) (.pair .int (.pair .int (.pair .int .int))) 0 y20.2.1.length), (.own (625, 30) .int 0 y20.2.2.length)]) (by kernel_rfl) ?_
      refine rnil (tn_ ?_)
      refine awp_seq_ ?_
      obtain ⟨y22, h22, h⟩ := ob_some h
      refine awp_region_ 37 (by kernel_rfl) ?_
      refine rsl (.agg [(.int .i64 a2_0), (.tree (.pair .int (.pair .int (.pair .int .int))) a2_1), (.tree .int a2_2)]) (by kernel_rfl) ?_
      refine rcall (.agg [(.int .i64 y22.1), (.own (656, 34) (.pair .int (.pair .int (.pair .int .int))) 0 y22.2.1.length), (.own (657, 34) .int 0 y22.2.2.length)]) [((656, 34), some (.arr 51 (.pair .int (.pair .int (.pair .int .int))) y22.2.1)), ((657, 34), some (.arr 3 .int y22.2.2))] [(.agg [(.int .i64 a2_0), (.tree (.pair .int (.pair .int (.pair .int .int))) a2_1), (.tree .int a2_2)])] _ (caps := []) (args0 := [(.agg [(.int .i64 a2_0), (.tree (.pair .int (.pair .int (.pair .int .int))) a2_1), (.tree .int a2_2)])]) trivial (by kernel_rfl) (by kernel_rfl) (by kernel_rfl) (by kernel_rfl) (ok_laws_toCircuit h22) hb_laws_toCircuit (by kernel_rfl) ?_
      refine rs1 (.box (11, 35) 0) (11, 35) (.cells 31 [(.int .i64 0), .nils, .nils]) (by kernel_rfl) ?_
      refine rsn2 (11, 35) (11, 35) (.cells 31 [(.int .i64 y22.1), (.own (656, 34) (.pair .int (.pair .int (.pair .int .int))) 0 y22.2.1.length), (.own (657, 34) .int 0 y22.2.2.length)]) (by kernel_rfl) ?_
      refine rnil (tn_ ?_)
      refine awp_seq_ ?_
      obtain ⟨y24, h24, h⟩ := ob_some h
      refine awp_region_ 47 (by kernel_rfl) ?_
      refine rs0 (.int .i64 a0) (by kernel_rfl) ?_
      refine rsl (.agg [(.int .i64 y20.1), (.own (624, 30) (.pair .int (.pair .int (.pair .int .int))) 0 y20.2.1.length), (.own (625, 30) .int 0 y20.2.2.length)]) (by kernel_rfl) ?_
      refine rsl (.agg [(.int .i64 y22.1), (.own (656, 34) (.pair .int (.pair .int (.pair .int .int))) 0 y22.2.1.length), (.own (657, 34) .int 0 y22.2.2.length)]) (by kernel_rfl) ?_
      refine rcall (.tup [(.agg [(.int .i64 y24.1), (.own (736, 40) (.pair .int (.pair .int (.pair .int .int))) 0 y24.2.1.length), (.own (737, 40) .int 0 y24.2.2.1.length)]), (.bool y24.2.2.2)]) [((736, 40), some (.arr 51 (.pair .int (.pair .int (.pair .int .int))) y24.2.1)), ((737, 40), some (.arr 3 .int y24.2.2.1))] [(.int .i64 a0), (.agg [(.int .i64 y20.1), (.own (624, 30) (.pair .int (.pair .int (.pair .int .int))) 0 y20.2.1.length), (.own (625, 30) .int 0 y20.2.2.length)]), (.agg [(.int .i64 y22.1), (.own (656, 34) (.pair .int (.pair .int (.pair .int .int))) 0 y22.2.1.length), (.own (657, 34) .int 0 y22.2.2.length)])] _ (caps := []) (args0 := [(.int .i64 a0), (.agg [(.int .i64 y20.1), (.tree (.pair .int (.pair .int (.pair .int .int))) y20.2.1), (.tree .int y20.2.2)]), (.agg [(.int .i64 y22.1), (.tree (.pair .int (.pair .int (.pair .int .int))) y22.2.1), (.tree .int y22.2.2)])]) trivial (by kernel_rfl) (by kernel_rfl) (gm_cons (by kernel_rfl) (gm_cons (gd_agg (gm_cons (by kernel_rfl) (gm_cons (gd_own (e := 51) (by kernel_rfl) rfl) (gm_cons (gd_own (e := 3) (by kernel_rfl) rfl) gm_nil)))) (gm_cons (gd_agg (gm_cons (by kernel_rfl) (gm_cons (gd_own (e := 51) (by kernel_rfl) rfl) (gm_cons (gd_own (e := 3) (by kernel_rfl) rfl) gm_nil)))) gm_nil))) (by kernel_rfl) (ok_impl_ParCircuits h24) hb_impl_ParCircuits (by kernel_rfl) ?_
      refine rs0 (.tup [(.agg [(.int .i64 y24.1), (.own (736, 40) (.pair .int (.pair .int (.pair .int .int))) 0 y24.2.1.length), (.own (737, 40) .int 0 y24.2.2.1.length)]), (.bool y24.2.2.2)]) (by kernel_rfl) ?_
      refine rs0 (.agg [(.int .i64 y24.1), (.own (736, 40) (.pair .int (.pair .int (.pair .int .int))) 0 y24.2.1.length), (.own (737, 40) .int 0 y24.2.2.1.length)]) (by kernel_rfl) ?_
      refine rs0 (.bool y24.2.2.2) (by kernel_rfl) ?_
      refine rs1 (.box (12, 44) 0) (12, 44) (.cells 31 [(.int .i64 0), .nils, .nils]) (by kernel_rfl) ?_
      refine rsn2 (12, 44) (12, 44) (.cells 31 [(.int .i64 y24.1), (.own (736, 40) (.pair .int (.pair .int (.pair .int .int))) 0 y24.2.1.length), (.own (737, 40) .int 0 y24.2.2.1.length)]) (by kernel_rfl) ?_
      refine rs0 (.bool y24.2.2.2) (by kernel_rfl) ?_
      refine rnil (tn_ ?_)
      refine awp_seq_ ?_
      refine awp_seqB h (fun (l26_m57 : Bool) S_ => S_ = ⟨mkTm [(0, (.int .i64 a0)), (4, (.box (0, 1) 0)), (5, (.box (1, 1) 0)), (8, (.box (2, 1) 0)), (9, (.bool y18.2.2.2)), (10, (.box (3, 1) 0)), (11, (.box (4, 1) 0)), (12, (.box (5, 1) 0)), (13, (.bool y24.2.2.2)), (57, (.bool l26_m57))], mkOb (someL [((0, 1), .cells 25 [(.int .i64 a1_0), (.tree (.pair .int (.pair .int (.pair .int .int))) a1_1), (.tree .int a1_2)]), ((1, 1), .cells 25 [(.int .i64 a2_0), (.tree (.pair .int (.pair .int (.pair .int .int))) a2_1), (.tree .int a2_2)]), ((2, 1), .cells 31 [(.int .i64 y18.1), (.own (6, 1) (.pair .int (.pair .int (.pair .int .int))) 0 y18.2.1.length), (.own (7, 1) .int 0 y18.2.2.1.length)]), ((3, 1), .cells 31 [(.int .i64 y20.1), (.own (8, 1) (.pair .int (.pair .int (.pair .int .int))) 0 y20.2.1.length), (.own (9, 1) .int 0 y20.2.2.length)]), ((4, 1), .cells 31 [(.int .i64 y22.1), (.own (10, 1) (.pair .int (.pair .int (.pair .int .int))) 0 y22.2.1.length), (.own (11, 1) .int 0 y22.2.2.length)]), ((5, 1), .cells 31 [(.int .i64 y24.1), (.own (12, 1) (.pair .int (.pair .int (.pair .int .int))) 0 y24.2.1.length), (.own (13, 1) .int 0 y24.2.2.1.length)]), ((6, 1), .arr 51 (.pair .int (.pair .int (.pair .int .int))) y18.2.1), ((7, 1), .arr 3 .int y18.2.2.1), ((8, 1), .arr 51 (.pair .int (.pair .int (.pair .int .int))) y20.2.1), ((9, 1), .arr 3 .int y20.2.2), ((10, 1), .arr 51 (.pair .int (.pair .int (.pair .int .int))) y22.2.1), ((11, 1), .arr 3 .int y22.2.2), ((12, 1), .arr 51 (.pair .int (.pair .int (.pair .int .int))) y24.2.1), ((13, 1), .arr 3 .int y24.2.2.1)]), 2⟩) ?_ ?_
      · intro v_ h
        obtain ⟨y27, h27, h⟩ := ob_some h
        rcases cond_some h with ⟨q28, h⟩ | ⟨q28, h⟩
        · refine awp_region_ 56 (by kernel_rfl) ?_
          refine rsl (.agg [(.int .i64 y24.1), (.own (736, 40) (.pair .int (.pair .int (.pair .int .int))) 0 y24.2.1.length), (.own (737, 40) .int 0 y24.2.2.1.length)]) (by kernel_rfl) ?_
          refine rsl (.agg [(.int .i64 y18.1), (.own (560, 22) (.pair .int (.pair .int (.pair .int .int))) 0 y18.2.1.length), (.own (561, 22) .int 0 y18.2.2.1.length)]) (by kernel_rfl) ?_
          refine rcall (.bool y27) [] [(.agg [(.int .i64 y24.1), (.own (736, 40) (.pair .int (.pair .int (.pair .int .int))) 0 y24.2.1.length), (.own (737, 40) .int 0 y24.2.2.1.length)]), (.agg [(.int .i64 y18.1), (.own (560, 22) (.pair .int (.pair .int (.pair .int .int))) 0 y18.2.1.length), (.own (561, 22) .int 0 y18.2.2.1.length)])] _ (caps := []) (args0 := [(.agg [(.int .i64 y24.1), (.tree (.pair .int (.pair .int (.pair .int .int))) y24.2.1), (.tree .int y24.2.2.1)]), (.agg [(.int .i64 y18.1), (.tree (.pair .int (.pair .int (.pair .int .int))) y18.2.1), (.tree .int y18.2.2.1)])]) trivial (by kernel_rfl) (by kernel_rfl) (gm_cons (gd_agg (gm_cons (by kernel_rfl) (gm_cons (gd_own (e := 51) (by kernel_rfl) rfl) (gm_cons (gd_own (e := 3) (by kernel_rfl) rfl) gm_nil)))) (gm_cons (gd_agg (gm_cons (by kernel_rfl) (gm_cons (gd_own (e := 51) (by kernel_rfl) rfl) (gm_cons (gd_own (e := 3) (by kernel_rfl) rfl) gm_nil)))) gm_nil)) (by kernel_rfl) (ok_laws_eqCircuit h27) hb_laws_eqCircuit (by kernel_rfl) ?_
          refine rs0 (.bool (!y27)) (by kernel_rfl) ?_
          refine rs0 (.bool (!y27)) (by kernel_rfl) ?_
          refine rs0 (.tup []) (s_skip (by kernel_rfl) q28) ?_
          refine rs0 (.tup []) (s_skip (by kernel_rfl) q28) ?_
          refine rs0 (.tup []) (s_skip (by kernel_rfl) q28) ?_
          refine rs0 (.bool true) (s_pickT (by kernel_rfl) q28) ?_
          refine rnil (tn_ ?_)
          obtain rfl := Option.some.inj h
          exact ⟨_, (weak_ren (renF [((0, 1), (4, 1)), ((1, 1), (5, 2)), ((2, 1), (8, 26)), ((6, 1), (560, 22)), ((7, 1), (561, 22)), ((3, 1), (10, 31)), ((8, 1), (624, 30)), ((9, 1), (625, 30)), ((4, 1), (11, 35)), ((10, 1), (656, 34)), ((11, 1), (657, 34)), ((5, 1), (12, 44)), ((12, 1), (736, 40)), ((13, 1), (737, 40))]) (by kernel_rfl) (by kernel_rfl) (by kernel_rfl)), rfl⟩
        · refine awp_region_ 56 (by kernel_rfl) ?_
          refine rsl (.agg [(.int .i64 y24.1), (.own (736, 40) (.pair .int (.pair .int (.pair .int .int))) 0 y24.2.1.length), (.own (737, 40) .int 0 y24.2.2.1.length)]) (by kernel_rfl) ?_
          refine rsl (.agg [(.int .i64 y18.1), (.own (560, 22) (.pair .int (.pair .int (.pair .int .int))) 0 y18.2.1.length), (.own (561, 22) .int 0 y18.2.2.1.length)]) (by kernel_rfl) ?_
          refine rcall (.bool y27) [] [(.agg [(.int .i64 y24.1), (.own (736, 40) (.pair .int (.pair .int (.pair .int .int))) 0 y24.2.1.length), (.own (737, 40) .int 0 y24.2.2.1.length)]), (.agg [(.int .i64 y18.1), (.own (560, 22) (.pair .int (.pair .int (.pair .int .int))) 0 y18.2.1.length), (.own (561, 22) .int 0 y18.2.2.1.length)])] _ (caps := []) (args0 := [(.agg [(.int .i64 y24.1), (.tree (.pair .int (.pair .int (.pair .int .int))) y24.2.1), (.tree .int y24.2.2.1)]), (.agg [(.int .i64 y18.1), (.tree (.pair .int (.pair .int (.pair .int .int))) y18.2.1), (.tree .int y18.2.2.1)])]) trivial (by kernel_rfl) (by kernel_rfl) (gm_cons (gd_agg (gm_cons (by kernel_rfl) (gm_cons (gd_own (e := 51) (by kernel_rfl) rfl) (gm_cons (gd_own (e := 3) (by kernel_rfl) rfl) gm_nil)))) (gm_cons (gd_agg (gm_cons (by kernel_rfl) (gm_cons (gd_own (e := 51) (by kernel_rfl) rfl) (gm_cons (gd_own (e := 3) (by kernel_rfl) rfl) gm_nil)))) gm_nil)) (by kernel_rfl) (ok_laws_eqCircuit h27) hb_laws_eqCircuit (by kernel_rfl) ?_
          refine rs0 (.bool (!y27)) (by kernel_rfl) ?_
          refine rs0 (.bool (!y27)) (by kernel_rfl) ?_
          refine rs0 (.bool y24.2.2.2) (s_gd (by kernel_rfl) q28 (by kernel_rfl)) ?_
          refine rs0 (.bool y18.2.2.2) (s_gd (by kernel_rfl) q28 (by kernel_rfl)) ?_
          refine rs0 (.bool (y24.2.2.2 != y18.2.2.2)) (s_gd (by kernel_rfl) q28 (by kernel_rfl)) ?_
          refine rs0 (.bool (y24.2.2.2 != y18.2.2.2)) (s_pickF (by kernel_rfl) q28) ?_
          refine rnil (tn_ ?_)
          obtain rfl := Option.some.inj h
          exact ⟨_, (weak_ren (renF [((0, 1), (4, 1)), ((1, 1), (5, 2)), ((2, 1), (8, 26)), ((6, 1), (560, 22)), ((7, 1), (561, 22)), ((3, 1), (10, 31)), ((8, 1), (624, 30)), ((9, 1), (625, 30)), ((4, 1), (11, 35)), ((10, 1), (656, 34)), ((11, 1), (657, 34)), ((5, 1), (12, 44)), ((12, 1), (736, 40)), ((13, 1), (737, 40))]) (by kernel_rfl) (by kernel_rfl) (by kernel_rfl)), rfl⟩
      · rintro l26_m57 _ rfl h
        (try dsimp only at h)
        rcases cond_some h with ⟨q29, h⟩ | ⟨q29, h⟩
        · refine awp_condT_ q29 (by kernel_rfl) ?_
          refine awp_seq_ ?_
          refine awp_region_ 3 (by kernel_rfl) ?_
          refine rs0 (.bool false) (by kernel_rfl) ?_
          refine rnil (tn_ ?_)
          refine awp_ret_ (tr_ ?_)
          obtain rfl := Option.some.inj h
          exact ret_ [(.bool false)] (by simp) (by kernel_rfl) (p_one rfl (l_sc (by kernel_rfl)) p_nil) (by kernel_rfl) (by kernel_rfl)
        · refine awp_condF_ q29 (by kernel_rfl) ?_
          refine awp_skip_ (tn_ ?_)
          refine awp_seq_ ?_
          refine awp_seq_ ?_
          obtain ⟨y33, h33, h⟩ := ob_some h
          obtain ⟨y34, h34, h⟩ := ob_some h
          refine awp_regionD_ 7 (by kernel_rfl) ?_
          refine dsl (.agg [(.int .i64 y20.1), (.own (8, 1) (.pair .int (.pair .int (.pair .int .int))) 0 y20.2.1.length), (.own (9, 1) .int 0 y20.2.2.length)]) (by kernel_rfl) ?_
          refine dsl (.agg [(.int .i64 a1_0), (.tree (.pair .int (.pair .int (.pair .int .int))) a1_1), (.tree .int a1_2)]) (by kernel_rfl) ?_
          refine dcall (.agg [(.int .i64 y33.1), (.own (960, 4) (.pair .int (.pair .int (.pair .int .int))) 0 y33.2.1.length), (.own (961, 4) .int 0 y33.2.2.length)]) [((960, 4), some (.arr 51 (.pair .int (.pair .int (.pair .int .int))) y33.2.1)), ((961, 4), some (.arr 3 .int y33.2.2))] [(.agg [(.int .i64 a1_0), (.tree (.pair .int (.pair .int (.pair .int .int))) a1_1), (.tree .int a1_2)])] _ (caps := []) (args0 := [(.agg [(.int .i64 a1_0), (.tree (.pair .int (.pair .int (.pair .int .int))) a1_1), (.tree .int a1_2)])]) trivial (by kernel_rfl) (by kernel_rfl) (by kernel_rfl) (by kernel_rfl) (ok_laws_toCircuit h33) hb_laws_toCircuit (by kernel_rfl) ?_
          refine dcall (.bool y34) [] [(.agg [(.int .i64 y20.1), (.own (8, 1) (.pair .int (.pair .int (.pair .int .int))) 0 y20.2.1.length), (.own (9, 1) .int 0 y20.2.2.length)]), (.agg [(.int .i64 y33.1), (.own (960, 4) (.pair .int (.pair .int (.pair .int .int))) 0 y33.2.1.length), (.own (961, 4) .int 0 y33.2.2.length)])] _ (caps := []) (args0 := [(.agg [(.int .i64 y20.1), (.tree (.pair .int (.pair .int (.pair .int .int))) y20.2.1), (.tree .int y20.2.2)]), (.agg [(.int .i64 y33.1), (.tree (.pair .int (.pair .int (.pair .int .int))) y33.2.1), (.tree .int y33.2.2)])]) trivial (by kernel_rfl) (by kernel_rfl) (gm_cons (gd_agg (gm_cons (by kernel_rfl) (gm_cons (gd_own (e := 51) (by kernel_rfl) rfl) (gm_cons (gd_own (e := 3) (by kernel_rfl) rfl) gm_nil)))) (gm_cons (gd_agg (gm_cons (by kernel_rfl) (gm_cons (gd_own (e := 51) (by kernel_rfl) rfl) (gm_cons (gd_own (e := 3) (by kernel_rfl) rfl) gm_nil)))) gm_nil)) (by kernel_rfl) (ok_laws_eqCircuit h34) hb_laws_eqCircuit (by kernel_rfl) ?_
          refine ds0 (.bool (!y34)) (by kernel_rfl) ?_
          refine dnil (by kernel_rfl) (tn_ ?_)
          rcases cond_some h with ⟨q35, h⟩ | ⟨q35, h⟩
          · refine awp_condT_ q35 (by kernel_rfl) ?_
            refine awp_seq_ ?_
            refine awp_region_ 8 (by kernel_rfl) ?_
            refine rs0 (.bool false) (by kernel_rfl) ?_
            refine rnil (tn_ ?_)
            refine awp_ret_ (tr_ ?_)
            obtain rfl := Option.some.inj h
            exact ret_ [(.bool false)] (by simp) (by kernel_rfl) (p_one rfl (l_sc (by kernel_rfl)) p_nil) (by kernel_rfl) (by kernel_rfl)
          · refine awp_condF_ q35 (by kernel_rfl) ?_
            refine awp_skip_ (tn_ ?_)
            refine awp_seq_ ?_
            refine awp_seq_ ?_
            obtain ⟨y39, h39, h⟩ := ob_some h
            obtain ⟨y40, h40, h⟩ := ob_some h
            refine awp_regionD_ 12 (by kernel_rfl) ?_
            refine dsl (.agg [(.int .i64 y22.1), (.own (10, 1) (.pair .int (.pair .int (.pair .int .int))) 0 y22.2.1.length), (.own (11, 1) .int 0 y22.2.2.length)]) (by kernel_rfl) ?_
            refine dsl (.agg [(.int .i64 a2_0), (.tree (.pair .int (.pair .int (.pair .int .int))) a2_1), (.tree .int a2_2)]) (by kernel_rfl) ?_
            refine dcall (.agg [(.int .i64 y39.1), (.own (1040, 9) (.pair .int (.pair .int (.pair .int .int))) 0 y39.2.1.length), (.own (1041, 9) .int 0 y39.2.2.length)]) [((1040, 9), some (.arr 51 (.pair .int (.pair .int (.pair .int .int))) y39.2.1)), ((1041, 9), some (.arr 3 .int y39.2.2))] [(.agg [(.int .i64 a2_0), (.tree (.pair .int (.pair .int (.pair .int .int))) a2_1), (.tree .int a2_2)])] _ (caps := []) (args0 := [(.agg [(.int .i64 a2_0), (.tree (.pair .int (.pair .int (.pair .int .int))) a2_1), (.tree .int a2_2)])]) trivial (by kernel_rfl) (by kernel_rfl) (by kernel_rfl) (by kernel_rfl) (ok_laws_toCircuit h39) hb_laws_toCircuit (by kernel_rfl) ?_
            refine dcall (.bool y40) [] [(.agg [(.int .i64 y22.1), (.own (10, 1) (.pair .int (.pair .int (.pair .int .int))) 0 y22.2.1.length), (.own (11, 1) .int 0 y22.2.2.length)]), (.agg [(.int .i64 y39.1), (.own (1040, 9) (.pair .int (.pair .int (.pair .int .int))) 0 y39.2.1.length), (.own (1041, 9) .int 0 y39.2.2.length)])] _ (caps := []) (args0 := [(.agg [(.int .i64 y22.1), (.tree (.pair .int (.pair .int (.pair .int .int))) y22.2.1), (.tree .int y22.2.2)]), (.agg [(.int .i64 y39.1), (.tree (.pair .int (.pair .int (.pair .int .int))) y39.2.1), (.tree .int y39.2.2)])]) trivial (by kernel_rfl) (by kernel_rfl) (gm_cons (gd_agg (gm_cons (by kernel_rfl) (gm_cons (gd_own (e := 51) (by kernel_rfl) rfl) (gm_cons (gd_own (e := 3) (by kernel_rfl) rfl) gm_nil)))) (gm_cons (gd_agg (gm_cons (by kernel_rfl) (gm_cons (gd_own (e := 51) (by kernel_rfl) rfl) (gm_cons (gd_own (e := 3) (by kernel_rfl) rfl) gm_nil)))) gm_nil)) (by kernel_rfl) (ok_laws_eqCircuit h40) hb_laws_eqCircuit (by kernel_rfl) ?_
            refine ds0 (.bool (!y40)) (by kernel_rfl) ?_
            refine dnil (by kernel_rfl) (tn_ ?_)
            rcases cond_some h with ⟨q41, h⟩ | ⟨q41, h⟩
            · refine awp_condT_ q41 (by kernel_rfl) ?_
              refine awp_seq_ ?_
              refine awp_region_ 13 (by kernel_rfl) ?_
              refine rs0 (.bool false) (by kernel_rfl) ?_
              refine rnil (tn_ ?_)
              refine awp_ret_ (tr_ ?_)
              obtain rfl := Option.some.inj h
              exact ret_ [(.bool false)] (by simp) (by kernel_rfl) (p_one rfl (l_sc (by kernel_rfl)) p_nil) (by kernel_rfl) (by kernel_rfl)
            · refine awp_condF_ q41 (by kernel_rfl) ?_
              refine awp_skip_ (tn_ ?_)
              refine awp_seq_ ?_
              refine awp_region_ 13 (by kernel_rfl) ?_
              refine rs0 (.int .i64 1) (by kernel_rfl) ?_
              refine rnil (tn_ ?_)
              refine awp_seq_ ?_
              obtain ⟨y45, h45, h⟩ := ob_some h
              obtain ⟨g46, h⟩ := og_some h
              obtain ⟨g47, h⟩ := og_some h
              refine awp_region_ 17 (by kernel_rfl) ?_
              refine rsl (.agg [(.int .i64 y20.1), (.own (8, 1) (.pair .int (.pair .int (.pair .int .int))) 0 y20.2.1.length), (.own (9, 1) .int 0 y20.2.2.length)]) (by kernel_rfl) ?_
              refine rs0 (.int .i64 1) (by kernel_rfl) ?_
              refine rcallM (.int .i64 y45.2.2) [((0, 0), (8, 1)), ((1, 0), (9, 1))] [(.agg [(.int .i64 y20.1), (.own (8, 1) (.pair .int (.pair .int (.pair .int .int))) 0 y20.2.1.length), (.own (9, 1) .int 0 y20.2.2.length)]), (.int .i64 1)] (caps := []) trivial (by kernel_rfl) (by kernel_rfl) (ok_laws_markCircuit h45 rfl rfl) (by kernel_rfl) (by kernel_rfl) (by kernel_rfl) (by kernel_rfl) (by kernel_rfl) hb_laws_markCircuit ?_
              refine rs0 (.int .i64 y45.2.2) (by kernel_rfl) ?_
              refine rnil (tn_ ?_)
              refine awp_seq_ ?_
              obtain ⟨y49, h49, h⟩ := ob_some h
              obtain ⟨g50, h⟩ := og_some h
              obtain ⟨g51, h⟩ := og_some h
              refine awp_region_ 21 (by kernel_rfl) ?_
              refine rsl (.agg [(.int .i64 y22.1), (.own (10, 1) (.pair .int (.pair .int (.pair .int .int))) 0 y22.2.1.length), (.own (11, 1) .int 0 y22.2.2.length)]) (by kernel_rfl) ?_
              refine rs0 (.int .i64 y45.2.2) (by kernel_rfl) ?_
              refine rcallM (.int .i64 y49.2.2) [((0, 0), (10, 1)), ((1, 0), (11, 1))] [(.agg [(.int .i64 y22.1), (.own (10, 1) (.pair .int (.pair .int (.pair .int .int))) 0 y22.2.1.length), (.own (11, 1) .int 0 y22.2.2.length)]), (.int .i64 y45.2.2)] (caps := []) trivial (by kernel_rfl) (by kernel_rfl) (ok_laws_markCircuit h49 rfl rfl) (by kernel_rfl) (by kernel_rfl) (by kernel_rfl) (by kernel_rfl) (by kernel_rfl) hb_laws_markCircuit ?_
              refine rs0 (.int .i64 y49.2.2) (by kernel_rfl) ?_
              refine rnil (tn_ ?_)
              refine awp_seq_ ?_
              refine awp_seqB h (fun (l53_m86 : Bool) S_ => S_ = ⟨mkTm [(0, (.int .i64 a0)), (4, (.box (0, 1) 0)), (5, (.box (1, 1) 0)), (8, (.box (2, 1) 0)), (9, (.bool y18.2.2.2)), (12, (.box (3, 1) 0)), (86, (.bool l53_m86))], mkOb (someL [((0, 1), .cells 25 [(.int .i64 a1_0), (.tree (.pair .int (.pair .int (.pair .int .int))) a1_1), (.tree .int a1_2)]), ((1, 1), .cells 25 [(.int .i64 a2_0), (.tree (.pair .int (.pair .int (.pair .int .int))) a2_1), (.tree .int a2_2)]), ((2, 1), .cells 31 [(.int .i64 y18.1), (.own (4, 1) (.pair .int (.pair .int (.pair .int .int))) 0 y18.2.1.length), (.own (5, 1) .int 0 y18.2.2.1.length)]), ((3, 1), .cells 31 [(.int .i64 y24.1), (.own (6, 1) (.pair .int (.pair .int (.pair .int .int))) 0 y24.2.1.length), (.own (7, 1) .int 0 y24.2.2.1.length)]), ((4, 1), .arr 51 (.pair .int (.pair .int (.pair .int .int))) y18.2.1), ((5, 1), .arr 3 .int y18.2.2.1), ((6, 1), .arr 51 (.pair .int (.pair .int (.pair .int .int))) y24.2.1), ((7, 1), .arr 3 .int y24.2.2.1)]), 2⟩) ?_ ?_
              · intro v_ h
                rcases cond_some h with ⟨q54, h⟩ | ⟨q54, h⟩
                · have q54_ := of_decide_eq_true q54
                  refine awp_region_ 34 (by kernel_rfl) ?_
                  refine rs0 (.int .i64 y49.2.2) (by kernel_rfl) ?_
                  refine rs0 (.bool (decide (y49.2.2 < 0))) (by kernel_rfl) ?_
                  refine rs0 (.bool (decide (y49.2.2 < 0))) (by kernel_rfl) ?_
                  refine rs0 (.tup []) (s_skip (by kernel_rfl) q54) ?_
                  refine rs0 (.tup []) (s_skip (by kernel_rfl) q54) ?_
                  refine rs0 (.tup []) (s_skip (by kernel_rfl) q54) ?_
                  refine rs0 (.tup []) (s_skip (by kernel_rfl) q54) ?_
                  refine rs0 (.bool true) (s_pickT (by kernel_rfl) q54) ?_
                  refine rs0 (.bool true) (by kernel_rfl) ?_
                  refine rs0 (.tup []) (by kernel_rfl) ?_
                  refine rs0 (.tup []) (by kernel_rfl) ?_
                  refine rs0 (.tup []) (by kernel_rfl) ?_
                  refine rs0 (.bool true) (by kernel_rfl) ?_
                  refine rnil (tn_ ?_)
                  obtain rfl := Option.some.inj h
                  exact ⟨_, (weak_ren (renF [((4, 1), (6, 1)), ((5, 1), (7, 1)), ((3, 1), (5, 1)), ((6, 1), (12, 1)), ((7, 1), (13, 1))]) (by kernel_rfl) (by kernel_rfl) (by kernel_rfl)), rfl⟩
                · have q54_ := of_decide_eq_false q54
                  obtain ⟨y55, h55, h⟩ := ob_some h
                  rcases cond_some h with ⟨q56, h⟩ | ⟨q56, h⟩
                  · refine awp_region_ 34 (by kernel_rfl) ?_
                    refine rs0 (.int .i64 y49.2.2) (by kernel_rfl) ?_
                    refine rs0 (.bool (decide (y49.2.2 < 0))) (by kernel_rfl) ?_
                    refine rs0 (.bool (decide (y49.2.2 < 0))) (by kernel_rfl) ?_
                    refine rsl (.agg [(.int .i64 y24.1), (.own (12, 1) (.pair .int (.pair .int (.pair .int .int))) 0 y24.2.1.length), (.own (13, 1) .int 0 y24.2.2.1.length)]) (s_gd (by kernel_rfl) q54 (by kernel_rfl)) ?_
                    refine rsl (.agg [(.int .i64 y18.1), (.own (6, 1) (.pair .int (.pair .int (.pair .int .int))) 0 y18.2.1.length), (.own (7, 1) .int 0 y18.2.2.1.length)]) (s_gd (by kernel_rfl) q54 (by kernel_rfl)) ?_
                    refine rcall (.bool y55) [] [(.agg [(.int .i64 y24.1), (.own (12, 1) (.pair .int (.pair .int (.pair .int .int))) 0 y24.2.1.length), (.own (13, 1) .int 0 y24.2.2.1.length)]), (.agg [(.int .i64 y18.1), (.own (6, 1) (.pair .int (.pair .int (.pair .int .int))) 0 y18.2.1.length), (.own (7, 1) .int 0 y18.2.2.1.length)])] _ (caps := []) (args0 := [(.agg [(.int .i64 y24.1), (.tree (.pair .int (.pair .int (.pair .int .int))) y24.2.1), (.tree .int y24.2.2.1)]), (.agg [(.int .i64 y18.1), (.tree (.pair .int (.pair .int (.pair .int .int))) y18.2.1), (.tree .int y18.2.2.1)])]) (gdOK_b (by kernel_rfl) q54) (by kernel_rfl) (by kernel_rfl) (gm_cons (gd_agg (gm_cons (by kernel_rfl) (gm_cons (gd_own (e := 51) (by kernel_rfl) rfl) (gm_cons (gd_own (e := 3) (by kernel_rfl) rfl) gm_nil)))) (gm_cons (gd_agg (gm_cons (by kernel_rfl) (gm_cons (gd_own (e := 51) (by kernel_rfl) rfl) (gm_cons (gd_own (e := 3) (by kernel_rfl) rfl) gm_nil)))) gm_nil)) (by kernel_rfl) (ok_laws_eqCircuit h55) hb_laws_eqCircuit (by kernel_rfl) ?_
                    refine rs0 (.bool (!y55)) (s_gd (by kernel_rfl) q54 (by kernel_rfl)) ?_
                    refine rs0 (.bool (!y55)) (s_pickF (by kernel_rfl) q54) ?_
                    refine rs0 (.bool (!y55)) (by kernel_rfl) ?_
                    refine rs0 (.tup []) (s_skip (by kernel_rfl) q56) ?_
                    refine rs0 (.tup []) (s_skip (by kernel_rfl) q56) ?_
                    refine rs0 (.tup []) (s_skip (by kernel_rfl) q56) ?_
                    refine rs0 (.bool true) (s_pickT (by kernel_rfl) q56) ?_
                    refine rnil (tn_ ?_)
                    obtain rfl := Option.some.inj h
                    exact ⟨_, (weak_ren (renF [((4, 1), (6, 1)), ((5, 1), (7, 1)), ((3, 1), (5, 1)), ((6, 1), (12, 1)), ((7, 1), (13, 1))]) (by kernel_rfl) (by kernel_rfl) (by kernel_rfl)), rfl⟩
                  · refine awp_region_ 34 (by kernel_rfl) ?_
                    refine rs0 (.int .i64 y49.2.2) (by kernel_rfl) ?_
                    refine rs0 (.bool (decide (y49.2.2 < 0))) (by kernel_rfl) ?_
                    refine rs0 (.bool (decide (y49.2.2 < 0))) (by kernel_rfl) ?_
                    refine rsl (.agg [(.int .i64 y24.1), (.own (12, 1) (.pair .int (.pair .int (.pair .int .int))) 0 y24.2.1.length), (.own (13, 1) .int 0 y24.2.2.1.length)]) (s_gd (by kernel_rfl) q54 (by kernel_rfl)) ?_
                    refine rsl (.agg [(.int .i64 y18.1), (.own (6, 1) (.pair .int (.pair .int (.pair .int .int))) 0 y18.2.1.length), (.own (7, 1) .int 0 y18.2.2.1.length)]) (s_gd (by kernel_rfl) q54 (by kernel_rfl)) ?_
                    refine rcall (.bool y55) [] [(.agg [(.int .i64 y24.1), (.own (12, 1) (.pair .int (.pair .int (.pair .int .int))) 0 y24.2.1.length), (.own (13, 1) .int 0 y24.2.2.1.length)]), (.agg [(.int .i64 y18.1), (.own (6, 1) (.pair .int (.pair .int (.pair .int .int))) 0 y18.2.1.length), (.own (7, 1) .int 0 y18.2.2.1.length)])] _ (caps := []) (args0 := [(.agg [(.int .i64 y24.1), (.tree (.pair .int (.pair .int (.pair .int .int))) y24.2.1), (.tree .int y24.2.2.1)]), (.agg [(.int .i64 y18.1), (.tree (.pair .int (.pair .int (.pair .int .int))) y18.2.1), (.tree .int y18.2.2.1)])]) (gdOK_b (by kernel_rfl) q54) (by kernel_rfl) (by kernel_rfl) (gm_cons (gd_agg (gm_cons (by kernel_rfl) (gm_cons (gd_own (e := 51) (by kernel_rfl) rfl) (gm_cons (gd_own (e := 3) (by kernel_rfl) rfl) gm_nil)))) (gm_cons (gd_agg (gm_cons (by kernel_rfl) (gm_cons (gd_own (e := 51) (by kernel_rfl) rfl) (gm_cons (gd_own (e := 3) (by kernel_rfl) rfl) gm_nil)))) gm_nil)) (by kernel_rfl) (ok_laws_eqCircuit h55) hb_laws_eqCircuit (by kernel_rfl) ?_
                    refine rs0 (.bool (!y55)) (s_gd (by kernel_rfl) q54 (by kernel_rfl)) ?_
                    refine rs0 (.bool (!y55)) (s_pickF (by kernel_rfl) q54) ?_
                    refine rs0 (.bool (!y55)) (by kernel_rfl) ?_
                    refine rs0 (.bool y24.2.2.2) (s_gd (by kernel_rfl) q56 (by kernel_rfl)) ?_
                    refine rs0 (.bool y18.2.2.2) (s_gd (by kernel_rfl) q56 (by kernel_rfl)) ?_
                    refine rs0 (.bool (y24.2.2.2 != y18.2.2.2)) (s_gd (by kernel_rfl) q56 (by kernel_rfl)) ?_
                    refine rs0 (.bool (y24.2.2.2 != y18.2.2.2)) (s_pickF (by kernel_rfl) q56) ?_
                    refine rnil (tn_ ?_)
                    obtain rfl := Option.some.inj h
                    exact ⟨_, (weak_ren (renF [((4, 1), (6, 1)), ((5, 1), (7, 1)), ((3, 1), (5, 1)), ((6, 1), (12, 1)), ((7, 1), (13, 1))]) (by kernel_rfl) (by kernel_rfl) (by kernel_rfl)), rfl⟩
              · rintro l53_m86 _ rfl h
                (try dsimp only at h)
                rcases cond_some h with ⟨q57, h⟩ | ⟨q57, h⟩
                · refine awp_condT_ q57 (by kernel_rfl) ?_
                  refine awp_seq_ ?_
                  refine awp_region_ 3 (by kernel_rfl) ?_
                  refine rs0 (.bool false) (by kernel_rfl) ?_
                  refine rnil (tn_ ?_)
                  refine awp_ret_ (tr_ ?_)
                  obtain rfl := Option.some.inj h
                  exact ret_ [(.bool false)] (by simp) (by kernel_rfl) (p_one rfl (l_sc (by kernel_rfl)) p_nil) (by kernel_rfl) (by kernel_rfl)
                · refine awp_condF_ q57 (by kernel_rfl) ?_
                  refine awp_skip_ (tn_ ?_)
                  refine awp_seq_ ?_
                  refine awp_region_ 3 (by kernel_rfl) ?_
                  refine rs0 (.int .i64 1) (by kernel_rfl) ?_
                  refine rnil (tn_ ?_)
                  refine awp_seq_ ?_
                  obtain ⟨y61, h61, h⟩ := ob_some h
                  obtain ⟨g62, h⟩ := og_some h
                  obtain ⟨g63, h⟩ := og_some h
                  refine awp_region_ 7 (by kernel_rfl) ?_
                  refine rsl (.agg [(.int .i64 y24.1), (.own (6, 1) (.pair .int (.pair .int (.pair .int .int))) 0 y24.2.1.length), (.own (7, 1) .int 0 y24.2.2.1.length)]) (by kernel_rfl) ?_
                  refine rs0 (.int .i64 1) (by kernel_rfl) ?_
                  refine rcallM (.int .i64 y61.2.2) [((0, 0), (6, 1)), ((1, 0), (7, 1))] [(.agg [(.int .i64 y24.1), (.own (6, 1) (.pair .int (.pair .int (.pair .int .int))) 0 y24.2.1.length), (.own (7, 1) .int 0 y24.2.2.1.length)]), (.int .i64 1)] (caps := []) trivial (by kernel_rfl) (by kernel_rfl) (ok_laws_markCircuit h61 rfl rfl) (by kernel_rfl) (by kernel_rfl) (by kernel_rfl) (by kernel_rfl) (by kernel_rfl) hb_laws_markCircuit ?_
                  refine rs0 (.int .i64 y61.2.2) (by kernel_rfl) ?_
                  refine rnil (tn_ ?_)
                  refine awp_seq_ ?_
                  refine awp_region_ 8 (by kernel_rfl) ?_
                  refine rs0 (.int .i64 1) (by kernel_rfl) ?_
                  refine rnil (tn_ ?_)
                  refine awp_seq_ ?_
                  obtain ⟨y66, h66, h⟩ := ob_some h
                  refine awp_region_ 12 (by kernel_rfl) ?_
                  refine rsl (.agg [(.int .i64 y24.1), (.own (6, 1) (.pair .int (.pair .int (.pair .int .int))) 0 y24.2.1.length), (.own (7, 1) .int 0 y24.2.2.1.length)]) (by kernel_rfl) ?_
                  refine rs0 (.int .i64 1) (by kernel_rfl) ?_
                  refine rcall (.int .i64 y66) [] [(.agg [(.int .i64 y24.1), (.own (6, 1) (.pair .int (.pair .int (.pair .int .int))) 0 y24.2.1.length), (.own (7, 1) .int 0 y24.2.2.1.length)]), (.int .i64 1)] _ (caps := []) (args0 := [(.agg [(.int .i64 y24.1), (.tree (.pair .int (.pair .int (.pair .int .int))) y61.1), (.tree .int y61.2.1)]), (.int .i64 1)]) trivial (by kernel_rfl) (by kernel_rfl) (gm_cons (gd_agg (gm_cons (by kernel_rfl) (gm_cons (gd_own (e := 51) (by kernel_rfl) g62.symm) (gm_cons (gd_own (e := 3) (by kernel_rfl) g63.symm) gm_nil)))) (gm_cons (by kernel_rfl) gm_nil)) (by kernel_rfl) (ok_laws_heldCircuit h66) hb_laws_heldCircuit (by kernel_rfl) ?_
                  refine rs0 (.int .i64 y66) (by kernel_rfl) ?_
                  refine rnil (tn_ ?_)
                  refine awp_seq_ ?_
                  refine awp_seq_ ?_
                  refine awp_region_ 14 (by kernel_rfl) ?_
                  refine rs0 (.int .i64 y66) (by kernel_rfl) ?_
                  refine rs0 (.bool (decide (y66 < 0))) (by kernel_rfl) ?_
                  refine rnil (tn_ ?_)
                  rcases cond_some h with ⟨q69, h⟩ | ⟨q69, h⟩
                  · have q69_ := of_decide_eq_true q69
                    refine awp_condT_ q69 (by kernel_rfl) ?_
                    refine awp_seq_ ?_
                    refine awp_region_ 15 (by kernel_rfl) ?_
                    refine rs0 (.bool false) (by kernel_rfl) ?_
                    refine rnil (tn_ ?_)
                    refine awp_ret_ (tr_ ?_)
                    obtain rfl := Option.some.inj h
                    exact ret_ [(.bool false)] (by simp) (by kernel_rfl) (p_one rfl (l_sc (by kernel_rfl)) p_nil) (by kernel_rfl) (by kernel_rfl)
                  · have q69_ := of_decide_eq_false q69
                    refine awp_condF_ q69 (by kernel_rfl) ?_
                    refine awp_skip_ (tn_ ?_)
                    refine awp_seq_ ?_
                    refine awp_seq_ ?_
                    refine awp_region_ 17 (by kernel_rfl) ?_
                    refine rs0 (.int .i64 y66) (by kernel_rfl) ?_
                    refine rs0 (.int .i64 y61.2.2) (by kernel_rfl) ?_
                    refine rs0 (.bool (y66 != y61.2.2)) (by kernel_rfl) ?_
                    refine rnil (tn_ ?_)
                    rcases cond_some h with ⟨q73, h⟩ | ⟨q73, h⟩
                    · refine awp_condT_ q73 (by kernel_rfl) ?_
                      refine awp_seq_ ?_
                      refine awp_region_ 18 (by kernel_rfl) ?_
                      refine rs0 (.bool false) (by kernel_rfl) ?_
                      refine rnil (tn_ ?_)
                      refine awp_ret_ (tr_ ?_)
                      obtain rfl := Option.some.inj h
                      exact ret_ [(.bool false)] (by simp) (by kernel_rfl) (p_one rfl (l_sc (by kernel_rfl)) p_nil) (by kernel_rfl) (by kernel_rfl)
                    · refine awp_condF_ q73 (by kernel_rfl) ?_
                      refine awp_skip_ (tn_ ?_)
                      refine awp_seq_ ?_
                      obtain ⟨y76, h76, h⟩ := ob_some h
                      obtain ⟨y77, h77, h⟩ := ob_some h
                      obtain ⟨y78, h78, h⟩ := ob_some h
                      refine awp_regionD_ 29 (by kernel_rfl) ?_
                      refine ds0 (.int .i64 a0) (by kernel_rfl) ?_
                      refine dsl (.agg [(.int .i64 a1_0), (.tree (.pair .int (.pair .int (.pair .int .int))) a1_1), (.tree .int a1_2)]) (by kernel_rfl) ?_
                      refine dcall (.agg [(.int .i64 y76.1), (.own (1616, 19) (.pair .int (.pair .int (.pair .int .int))) 0 y76.2.1.length), (.own (1617, 19) .int 0 y76.2.2.length)]) [((1616, 19), some (.arr 51 (.pair .int (.pair .int (.pair .int .int))) y76.2.1)), ((1617, 19), some (.arr 3 .int y76.2.2))] [(.agg [(.int .i64 a1_0), (.tree (.pair .int (.pair .int (.pair .int .int))) a1_1), (.tree .int a1_2)])] _ (caps := []) (args0 := [(.agg [(.int .i64 a1_0), (.tree (.pair .int (.pair .int (.pair .int .int))) a1_1), (.tree .int a1_2)])]) trivial (by kernel_rfl) (by kernel_rfl) (by kernel_rfl) (by kernel_rfl) (ok_laws_toCircuit h76) hb_laws_toCircuit (by kernel_rfl) ?_
                      refine dsl (.agg [(.int .i64 a2_0), (.tree (.pair .int (.pair .int (.pair .int .int))) a2_1), (.tree .int a2_2)]) (by kernel_rfl) ?_
                      refine dcall (.agg [(.int .i64 y77.1), (.own (1648, 21) (.pair .int (.pair .int (.pair .int .int))) 0 y77.2.1.length), (.own (1649, 21) .int 0 y77.2.2.length)]) [((1648, 21), some (.arr 51 (.pair .int (.pair .int (.pair .int .int))) y77.2.1)), ((1649, 21), some (.arr 3 .int y77.2.2))] [(.agg [(.int .i64 a2_0), (.tree (.pair .int (.pair .int (.pair .int .int))) a2_1), (.tree .int a2_2)])] _ (caps := []) (args0 := [(.agg [(.int .i64 a2_0), (.tree (.pair .int (.pair .int (.pair .int .int))) a2_1), (.tree .int a2_2)])]) trivial (by kernel_rfl) (by kernel_rfl) (by kernel_rfl) (by kernel_rfl) (ok_laws_toCircuit h77) hb_laws_toCircuit (by kernel_rfl) ?_
                      refine dcall (.tup [(.agg [(.int .i64 y78.1), (.own (1664, 22) (.pair .int (.pair .int (.pair .int .int))) 0 y78.2.1.length), (.own (1665, 22) .int 0 y78.2.2.1.length)]), (.bool y78.2.2.2)]) [((1664, 22), some (.arr 51 (.pair .int (.pair .int (.pair .int .int))) y78.2.1)), ((1665, 22), some (.arr 3 .int y78.2.2.1))] [(.int .i64 a0), (.agg [(.int .i64 y76.1), (.own (1616, 19) (.pair .int (.pair .int (.pair .int .int))) 0 y76.2.1.length), (.own (1617, 19) .int 0 y76.2.2.length)]), (.agg [(.int .i64 y77.1), (.own (1648, 21) (.pair .int (.pair .int (.pair .int .int))) 0 y77.2.1.length), (.own (1649, 21) .int 0 y77.2.2.length)])] _ (caps := []) (args0 := [(.int .i64 a0), (.agg [(.int .i64 y76.1), (.tree (.pair .int (.pair .int (.pair .int .int))) y76.2.1), (.tree .int y76.2.2)]), (.agg [(.int .i64 y77.1), (.tree (.pair .int (.pair .int (.pair .int .int))) y77.2.1), (.tree .int y77.2.2)])]) trivial (by kernel_rfl) (by kernel_rfl) (gm_cons (by kernel_rfl) (gm_cons (gd_agg (gm_cons (by kernel_rfl) (gm_cons (gd_own (e := 51) (by kernel_rfl) rfl) (gm_cons (gd_own (e := 3) (by kernel_rfl) rfl) gm_nil)))) (gm_cons (gd_agg (gm_cons (by kernel_rfl) (gm_cons (gd_own (e := 51) (by kernel_rfl) rfl) (gm_cons (gd_own (e := 3) (by kernel_rfl) rfl) gm_nil)))) gm_nil))) (by kernel_rfl) (ok_impl_ParCircuits h78) hb_impl_ParCircuits (by kernel_rfl) ?_
                      refine ds0 (.tup [(.agg [(.int .i64 y78.1), (.own (1664, 22) (.pair .int (.pair .int (.pair .int .int))) 0 y78.2.1.length), (.own (1665, 22) .int 0 y78.2.2.1.length)]), (.bool y78.2.2.2)]) (by kernel_rfl) ?_
                      refine ds0 (.agg [(.int .i64 y78.1), (.own (1664, 22) (.pair .int (.pair .int (.pair .int .int))) 0 y78.2.1.length), (.own (1665, 22) .int 0 y78.2.2.1.length)]) (by kernel_rfl) ?_
                      refine ds0 (.bool y78.2.2.2) (by kernel_rfl) ?_
                      refine ds1 (.box (17, 26) 0) (17, 26) (.cells 31 [(.int .i64 0), .nils, .nils]) (by kernel_rfl) ?_
                      refine dsn2 (17, 26) (17, 26) (.cells 31 [(.int .i64 y78.1), (.own (1664, 22) (.pair .int (.pair .int (.pair .int .int))) 0 y78.2.1.length), (.own (1665, 22) .int 0 y78.2.2.1.length)]) (by kernel_rfl) ?_
                      refine ds0 (.bool y78.2.2.2) (by kernel_rfl) ?_
                      refine dnil (by kernel_rfl) (tn_ ?_)
                      refine awp_seq_ ?_
                      refine awp_seqB h (fun (l80_m115 : Bool) S_ => S_ = ⟨mkTm [(12, (.box (0, 1) 0)), (15, (.int .i64 y61.2.2)), (115, (.bool l80_m115))], mkOb (someL [((0, 1), .cells 31 [(.int .i64 y24.1), (.own (1, 1) (.pair .int (.pair .int (.pair .int .int))) 0 y61.1.length), (.own (2, 1) .int 0 y61.2.1.length)]), ((1, 1), .arr 51 (.pair .int (.pair .int (.pair .int .int))) y61.1), ((2, 1), .arr 3 .int y61.2.1)]), 2⟩) ?_ ?_
                      · intro v_ h
                        obtain ⟨y81, h81, h⟩ := ob_some h
                        rcases cond_some h with ⟨q82, h⟩ | ⟨q82, h⟩
                        · refine awp_region_ 38 (by kernel_rfl) ?_
                          refine rsl (.agg [(.int .i64 y78.1), (.own (1664, 22) (.pair .int (.pair .int (.pair .int .int))) 0 y78.2.1.length), (.own (1665, 22) .int 0 y78.2.2.1.length)]) (by kernel_rfl) ?_
                          refine rsl (.agg [(.int .i64 y18.1), (.own (4, 1) (.pair .int (.pair .int (.pair .int .int))) 0 y18.2.1.length), (.own (5, 1) .int 0 y18.2.2.1.length)]) (by kernel_rfl) ?_
                          refine rcall (.bool y81) [] [(.agg [(.int .i64 y78.1), (.own (1664, 22) (.pair .int (.pair .int (.pair .int .int))) 0 y78.2.1.length), (.own (1665, 22) .int 0 y78.2.2.1.length)]), (.agg [(.int .i64 y18.1), (.own (4, 1) (.pair .int (.pair .int (.pair .int .int))) 0 y18.2.1.length), (.own (5, 1) .int 0 y18.2.2.1.length)])] _ (caps := []) (args0 := [(.agg [(.int .i64 y78.1), (.tree (.pair .int (.pair .int (.pair .int .int))) y78.2.1), (.tree .int y78.2.2.1)]), (.agg [(.int .i64 y18.1), (.tree (.pair .int (.pair .int (.pair .int .int))) y18.2.1), (.tree .int y18.2.2.1)])]) trivial (by kernel_rfl) (by kernel_rfl) (gm_cons (gd_agg (gm_cons (by kernel_rfl) (gm_cons (gd_own (e := 51) (by kernel_rfl) rfl) (gm_cons (gd_own (e := 3) (by kernel_rfl) rfl) gm_nil)))) (gm_cons (gd_agg (gm_cons (by kernel_rfl) (gm_cons (gd_own (e := 51) (by kernel_rfl) rfl) (gm_cons (gd_own (e := 3) (by kernel_rfl) rfl) gm_nil)))) gm_nil)) (by kernel_rfl) (ok_laws_eqCircuit h81) hb_laws_eqCircuit (by kernel_rfl) ?_
                          refine rs0 (.bool (!y81)) (by kernel_rfl) ?_
                          refine rs0 (.bool (!y81)) (by kernel_rfl) ?_
                          refine rs0 (.tup []) (s_skip (by kernel_rfl) q82) ?_
                          refine rs0 (.tup []) (s_skip (by kernel_rfl) q82) ?_
                          refine rs0 (.tup []) (s_skip (by kernel_rfl) q82) ?_
                          refine rs0 (.bool true) (s_pickT (by kernel_rfl) q82) ?_
                          refine rnil (tn_ ?_)
                          obtain rfl := Option.some.inj h
                          exact ⟨_, ((weak_ob_ (3, 1) (.cells 31 [(.int .i64 y24.1), (.own (6, 1) (.pair .int (.pair .int (.pair .int .int))) 0 y24.2.1.length), (.own (7, 1) .int 0 y24.2.2.1.length)]) (.cells 31 [(.int .i64 y24.1), (.own (6, 1) (.pair .int (.pair .int (.pair .int .int))) 0 y61.1.length), (.own (7, 1) .int 0 y24.2.2.1.length)]) (by kernel_rfl) (congrArg (fun z_ => (.cells 31 [(.int .i64 y24.1), (.own (6, 1) (.pair .int (.pair .int (.pair .int .int))) 0 z_), (.own (7, 1) .int 0 y24.2.2.1.length)] : Ob)) (g62.symm : y24.2.1.length = y61.1.length))).trans ((weak_ob_ (3, 1) (.cells 31 [(.int .i64 y24.1), (.own (6, 1) (.pair .int (.pair .int (.pair .int .int))) 0 y61.1.length), (.own (7, 1) .int 0 y24.2.2.1.length)]) (.cells 31 [(.int .i64 y24.1), (.own (6, 1) (.pair .int (.pair .int (.pair .int .int))) 0 y61.1.length), (.own (7, 1) .int 0 y61.2.1.length)]) (by kernel_rfl) (congrArg (fun z_ => (.cells 31 [(.int .i64 y24.1), (.own (6, 1) (.pair .int (.pair .int (.pair .int .int))) 0 y61.1.length), (.own (7, 1) .int 0 z_)] : Ob)) (g63.symm : y24.2.2.1.length = y61.2.1.length))).trans (weak_ren (renF [((0, 1), (3, 1)), ((1, 1), (6, 1)), ((2, 1), (7, 1))]) (by kernel_rfl) (by kernel_rfl) (by kernel_rfl)))), rfl⟩
                        · refine awp_region_ 38 (by kernel_rfl) ?_
                          refine rsl (.agg [(.int .i64 y78.1), (.own (1664, 22) (.pair .int (.pair .int (.pair .int .int))) 0 y78.2.1.length), (.own (1665, 22) .int 0 y78.2.2.1.length)]) (by kernel_rfl) ?_
                          refine rsl (.agg [(.int .i64 y18.1), (.own (4, 1) (.pair .int (.pair .int (.pair .int .int))) 0 y18.2.1.length), (.own (5, 1) .int 0 y18.2.2.1.length)]) (by kernel_rfl) ?_
                          refine rcall (.bool y81) [] [(.agg [(.int .i64 y78.1), (.own (1664, 22) (.pair .int (.pair .int (.pair .int .int))) 0 y78.2.1.length), (.own (1665, 22) .int 0 y78.2.2.1.length)]), (.agg [(.int .i64 y18.1), (.own (4, 1) (.pair .int (.pair .int (.pair .int .int))) 0 y18.2.1.length), (.own (5, 1) .int 0 y18.2.2.1.length)])] _ (caps := []) (args0 := [(.agg [(.int .i64 y78.1), (.tree (.pair .int (.pair .int (.pair .int .int))) y78.2.1), (.tree .int y78.2.2.1)]), (.agg [(.int .i64 y18.1), (.tree (.pair .int (.pair .int (.pair .int .int))) y18.2.1), (.tree .int y18.2.2.1)])]) trivial (by kernel_rfl) (by kernel_rfl) (gm_cons (gd_agg (gm_cons (by kernel_rfl) (gm_cons (gd_own (e := 51) (by kernel_rfl) rfl) (gm_cons (gd_own (e := 3) (by kernel_rfl) rfl) gm_nil)))) (gm_cons (gd_agg (gm_cons (by kernel_rfl) (gm_cons (gd_own (e := 51) (by kernel_rfl) rfl) (gm_cons (gd_own (e := 3) (by kernel_rfl) rfl) gm_nil)))) gm_nil)) (by kernel_rfl) (ok_laws_eqCircuit h81) hb_laws_eqCircuit (by kernel_rfl) ?_
                          refine rs0 (.bool (!y81)) (by kernel_rfl) ?_
                          refine rs0 (.bool (!y81)) (by kernel_rfl) ?_
                          refine rs0 (.bool y78.2.2.2) (s_gd (by kernel_rfl) q82 (by kernel_rfl)) ?_
                          refine rs0 (.bool y18.2.2.2) (s_gd (by kernel_rfl) q82 (by kernel_rfl)) ?_
                          refine rs0 (.bool (y78.2.2.2 != y18.2.2.2)) (s_gd (by kernel_rfl) q82 (by kernel_rfl)) ?_
                          refine rs0 (.bool (y78.2.2.2 != y18.2.2.2)) (s_pickF (by kernel_rfl) q82) ?_
                          refine rnil (tn_ ?_)
                          obtain rfl := Option.some.inj h
                          exact ⟨_, ((weak_ob_ (3, 1) (.cells 31 [(.int .i64 y24.1), (.own (6, 1) (.pair .int (.pair .int (.pair .int .int))) 0 y24.2.1.length), (.own (7, 1) .int 0 y24.2.2.1.length)]) (.cells 31 [(.int .i64 y24.1), (.own (6, 1) (.pair .int (.pair .int (.pair .int .int))) 0 y61.1.length), (.own (7, 1) .int 0 y24.2.2.1.length)]) (by kernel_rfl) (congrArg (fun z_ => (.cells 31 [(.int .i64 y24.1), (.own (6, 1) (.pair .int (.pair .int (.pair .int .int))) 0 z_), (.own (7, 1) .int 0 y24.2.2.1.length)] : Ob)) (g62.symm : y24.2.1.length = y61.1.length))).trans ((weak_ob_ (3, 1) (.cells 31 [(.int .i64 y24.1), (.own (6, 1) (.pair .int (.pair .int (.pair .int .int))) 0 y61.1.length), (.own (7, 1) .int 0 y24.2.2.1.length)]) (.cells 31 [(.int .i64 y24.1), (.own (6, 1) (.pair .int (.pair .int (.pair .int .int))) 0 y61.1.length), (.own (7, 1) .int 0 y61.2.1.length)]) (by kernel_rfl) (congrArg (fun z_ => (.cells 31 [(.int .i64 y24.1), (.own (6, 1) (.pair .int (.pair .int (.pair .int .int))) 0 y61.1.length), (.own (7, 1) .int 0 z_)] : Ob)) (g63.symm : y24.2.2.1.length = y61.2.1.length))).trans (weak_ren (renF [((0, 1), (3, 1)), ((1, 1), (6, 1)), ((2, 1), (7, 1))]) (by kernel_rfl) (by kernel_rfl) (by kernel_rfl)))), rfl⟩
                      · rintro l80_m115 _ rfl h
                        (try dsimp only at h)
                        rcases cond_some h with ⟨q83, h⟩ | ⟨q83, h⟩
                        · refine awp_condT_ q83 (by kernel_rfl) ?_
                          refine awp_seq_ ?_
                          refine awp_region_ 3 (by kernel_rfl) ?_
                          refine rs0 (.bool false) (by kernel_rfl) ?_
                          refine rnil (tn_ ?_)
                          refine awp_ret_ (tr_ ?_)
                          obtain rfl := Option.some.inj h
                          exact ret_ [(.bool false)] (by simp) (by kernel_rfl) (p_one rfl (l_sc (by kernel_rfl)) p_nil) (by kernel_rfl) (by kernel_rfl)
                        · refine awp_condF_ q83 (by kernel_rfl) ?_
                          refine awp_skip_ (tn_ ?_)
                          refine awp_seq_ ?_
                          refine awp_region_ 3 (by kernel_rfl) ?_
                          refine rs0 (.int .i64 1) (by kernel_rfl) ?_
                          refine rnil (tn_ ?_)
                          refine awp_seq_ ?_
                          obtain ⟨y87, h87, h⟩ := ob_some h
                          refine awp_region_ 7 (by kernel_rfl) ?_
                          refine rsl (.agg [(.int .i64 y24.1), (.own (1, 1) (.pair .int (.pair .int (.pair .int .int))) 0 y61.1.length), (.own (2, 1) .int 0 y61.2.1.length)]) (by kernel_rfl) ?_
                          refine rs0 (.int .i64 1) (by kernel_rfl) ?_
                          refine rcall (.int .i64 y87) [] [(.agg [(.int .i64 y24.1), (.own (1, 1) (.pair .int (.pair .int (.pair .int .int))) 0 y61.1.length), (.own (2, 1) .int 0 y61.2.1.length)]), (.int .i64 1)] _ (caps := []) (args0 := [(.agg [(.int .i64 y24.1), (.tree (.pair .int (.pair .int (.pair .int .int))) y61.1), (.tree .int y61.2.1)]), (.int .i64 1)]) trivial (by kernel_rfl) (by kernel_rfl) (gm_cons (gd_agg (gm_cons (by kernel_rfl) (gm_cons (gd_own (e := 51) (by kernel_rfl) rfl) (gm_cons (gd_own (e := 3) (by kernel_rfl) rfl) gm_nil)))) (gm_cons (by kernel_rfl) gm_nil)) (by kernel_rfl) (ok_laws_heldCircuit h87) hb_laws_heldCircuit (by kernel_rfl) ?_
                          refine rs0 (.int .i64 y87) (by kernel_rfl) ?_
                          refine rnil (tn_ ?_)
                          refine awp_seq_ ?_
                          refine awp_seq_ ?_
                          refine awp_region_ 9 (by kernel_rfl) ?_
                          refine rs0 (.int .i64 y87) (by kernel_rfl) ?_
                          refine rs0 (.bool (decide (y87 < 0))) (by kernel_rfl) ?_
                          refine rnil (tn_ ?_)
                          rcases cond_some h with ⟨q90, h⟩ | ⟨q90, h⟩
                          · have q90_ := of_decide_eq_true q90
                            refine awp_condT_ q90 (by kernel_rfl) ?_
                            refine awp_seq_ ?_
                            refine awp_region_ 10 (by kernel_rfl) ?_
                            refine rs0 (.bool false) (by kernel_rfl) ?_
                            refine rnil (tn_ ?_)
                            refine awp_ret_ (tr_ ?_)
                            obtain rfl := Option.some.inj h
                            exact ret_ [(.bool false)] (by simp) (by kernel_rfl) (p_one rfl (l_sc (by kernel_rfl)) p_nil) (by kernel_rfl) (by kernel_rfl)
                          · have q90_ := of_decide_eq_false q90
                            refine awp_condF_ q90 (by kernel_rfl) ?_
                            refine awp_skip_ (tn_ ?_)
                            refine awp_seq_ ?_
                            refine awp_seq_ ?_
                            refine awp_region_ 12 (by kernel_rfl) ?_
                            refine rs0 (.int .i64 y87) (by kernel_rfl) ?_
                            refine rs0 (.int .i64 y61.2.2) (by kernel_rfl) ?_
                            refine rs0 (.bool (y87 != y61.2.2)) (by kernel_rfl) ?_
                            refine rnil (tn_ ?_)
                            rcases cond_some h with ⟨q94, h⟩ | ⟨q94, h⟩
                            · refine awp_condT_ q94 (by kernel_rfl) ?_
                              refine awp_seq_ ?_
                              refine awp_region_ 13 (by kernel_rfl) ?_
                              refine rs0 (.bool false) (by kernel_rfl) ?_
                              refine rnil (tn_ ?_)
                              refine awp_ret_ (tr_ ?_)
                              obtain rfl := Option.some.inj h
                              exact ret_ [(.bool false)] (by simp) (by kernel_rfl) (p_one rfl (l_sc (by kernel_rfl)) p_nil) (by kernel_rfl) (by kernel_rfl)
                            · refine awp_condF_ q94 (by kernel_rfl) ?_
                              refine awp_skip_ (tn_ ?_)
                              refine awp_seq_ ?_
                              refine awp_region_ 13 (by kernel_rfl) ?_
                              refine rs0 (.bool true) (by kernel_rfl) ?_
                              refine rnil (tn_ ?_)
                              refine awp_ret_ ?_
                              obtain rfl := Option.some.inj h
                              exact ret_ [(.bool true)] (by simp) (by kernel_rfl) (p_one rfl (l_sc (by kernel_rfl)) p_nil) (by kernel_rfl) (by kernel_rfl)
end Go.Proofs.YthjdknddcceigaaDoor
