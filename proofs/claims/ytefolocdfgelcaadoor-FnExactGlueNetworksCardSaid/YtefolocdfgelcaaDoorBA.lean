/- Partial functions in place of code, and that the code does what they say: BA. No condition. -/
import Derived.Test.YtefolocdfgelcaaDoorNB
namespace Go.Proofs.YtefolocdfgelcaaDoor
open Go.RowKit Go.Deep
set_option maxRecDepth 4000
def m_spec_l1Own : AC :=
  (.seq (.region [⟨(some 2), none, (.i (.mov (.cst .nils)))⟩] false [])
  (.seq (.region [⟨(some 3), none, (.mkS 3 .int [])⟩, ⟨(some 4), none, (.i (.mov (.tmp 0)))⟩, ⟨(some 5), none, (.append 3 .int 8 (.tmp 3) (.tmp 4))⟩, ⟨(some 2), none, (.i (.mov (.tmp 5)))⟩] false [])
  .ret))
def r_spec_l1Own : List Res := [.tmp 2]
theorem c_spec_l1Own : compiled Tryd.prog Tryd.f52 = some (m_spec_l1Own, r_spec_l1Own) := by kernel_rfl
theorem hb_spec_l1Own : hasBody Tryd.prog 52 = true := by kernel_rfl
def L_spec_l1Own (a0 : List Int) : Option (List Int) :=
  og (0 + a0.length ≤ 1073741824 ∧ (0 + a0.length) * 8 ≤ 140737488355328) <|
some a0
def rv_spec_l1Own (r : List Int) : RV := ⟨false, [(false, [.new 3 .int r])]⟩
theorem ok_spec_l1Own {a0 : List Int} {r : List Int} (h : L_spec_l1Own a0 = some r) : CallOK Tryd.prog Tab 52 [(.tree .int a0)] (rv_spec_l1Own r) := by
  refine call_of_ (by kernel_rfl) Tryd.func52 c_spec_l1Own (n := 6) (by kernel_rfl) (by simp) (tl := [(0, (.tree .int a0))]) rfl ?_
  unfold m_spec_l1Own
  unfold L_spec_l1Own at h
  refine awp_seq_ ?_
  refine awp_region_ 2 (by kernel_rfl) ?_
  refine rs0 .nils (by kernel_rfl) ?_
  refine rnil (tn_ ?_)
  refine awp_seq_ ?_
  obtain ⟨g3, h⟩ := og_some h
  refine awp_region_ 6 (by kernel_rfl) ?_
  refine rs1 (.own (3, 2) .int 0 0) (3, 2) (.arr 3 .int []) (by kernel_rfl) ?_
  refine rs0 (.tree .int a0) (by kernel_rfl) ?_
  refine rs2 (.own (3, 4) .int 0 a0.length) (3, 2) (3, 4) (.arr 3 .int a0) (s_appO (t := .int) (t' := .int) (xs := []) (ys := a0) (zs := a0) (j := (3, 2)) (len := 0) (c := (.tree .int a0)) (by kernel_rfl) (by kernel_rfl) rfl (by kernel_rfl) sr_tree rfl g3) ?_
  refine rs0 (.own (3, 4) .int 0 a0.length) (by kernel_rfl) ?_
  refine rnil (tn_ ?_)
  refine awp_ret_ ?_
  obtain rfl := Option.some.inj h
  exact ret_ [(.own (3, 4) .int 0 a0.length)] (by simp) (by kernel_rfl) (p_one rfl (l_own (by kernel_rfl) rfl) p_nil) (by kernel_rfl) (by kernel_rfl)
def m_spec_hgList_l1 : AC :=
  (.seq (.region [⟨(some 11), none, (.i (.bin .lss (.tmp 10) (.tmp 9)))⟩] false [])
  (.seq (.cond (.tmp 11)
    .skip
    (.exit 0))
  (.seq (.block 1 (.seq (.region [⟨(some 12), none, (.i (.idx 1 (.tmp 8) (.tmp 10)))⟩, ⟨(some 13), none, (.i (.ld true 1 (.tmp 12)))⟩, ⟨(some 7), none, (.i (.mov (.tmp 13)))⟩] false [])
  (.region [⟨(some 14), none, (.i (.mov (.tmp 5)))⟩, ⟨(some 15), none, (.i (.mov (.tmp 1)))⟩, ⟨(some 16), none, (.i (.mov (.tmp 7)))⟩, ⟨(some 17), none, (.i (.idx 1 (.tmp 15) (.tmp 16)))⟩, ⟨(some 18), none, (.i (.ld true 1 (.tmp 17)))⟩, ⟨(some 19), none, (.mkS 3 .int [(.tmp 18)])⟩, ⟨(some 20), none, (.append 3 .int 8 (.tmp 14) (.tmp 19))⟩, ⟨(some 5), none, (.i (.mov (.tmp 20)))⟩] false [])))
  (.region [⟨(some 21), none, (.i (.bin .add (.tmp 10) (.cst (.int .i64 1))))⟩, ⟨(some 10), none, (.i (.mov (.tmp 21)))⟩] false []))))
def m_spec_hgList : AC :=
  (.seq (.region [⟨(some 4), none, (.i (.mov (.cst .nils)))⟩] false [])
  (.seq (.region [⟨(some 5), none, (.i (.mov (.cst .nils)))⟩] false [])
  (.seq (.seq (.region [⟨(some 8), none, (.i (.mov (.tmp 0)))⟩, ⟨(some 9), none, (.i (.len (.tmp 8)))⟩, ⟨(some 10), none, (.i (.mov (.cst (.int .i64 0))))⟩] false [])
  (.block 0 (.loop m_spec_hgList_l1)))
  (.seq (.region [⟨(some 22), none, (.i (.mov (.tmp 5)))⟩, ⟨(some 4), none, (.i (.mov (.tmp 22)))⟩] false [])
  .ret))))
def r_spec_hgList : List Res := [.tmp 4]
theorem c_spec_hgList : compiled Tryd.prog Tryd.f100 = some (m_spec_hgList, r_spec_hgList) := by kernel_rfl
theorem hb_spec_hgList : hasBody Tryd.prog 100 = true := by kernel_rfl
def L_spec_hgList_l1 (a0 : List Int) (a1 : List Int) (l5_m10 : Nat) (l5_m5 : List Int) : Option (Ctl (Nat × List Int) (List Int)) :=
  cond (decide (((l5_m10 : Nat) : Int) < ((a0.length : Nat) : Int)))
  (Option.bind (a0[l5_m10]?) fun x11 =>
  Option.bind (getI a1 x11) fun x12 =>
  og (l5_m5.length + 1 ≤ 1073741824 ∧ (l5_m5.length + 1) * 8 ≤ 140737488355328) <|
  og (l5_m10 + 1 < 4611686018427387904) <|
  some (Ctl.next (l5_m10 + 1, l5_m5 ++ ([x12]))))
  (some (Ctl.out l5_m5))
def L_spec_hgList (a0 : List Int) (a1 : List Int) : Option (List Int) :=
  Option.bind (loopM (fun s_ : Nat × List Int => L_spec_hgList_l1 a0 a1 s_.1 s_.2) 4611686018427387904 (0, [])) fun l3_m5 =>
some l3_m5
def rv_spec_hgList (r : List Int) : RV := ⟨false, [(false, [.new 3 .int r])]⟩
theorem ok_spec_hgList {a0 : List Int} {a1 : List Int} {r : List Int} (h : L_spec_hgList a0 a1 = some r) : CallOK Tryd.prog Tab 100 [(.tree .int a0), (.tree .int a1)] (rv_spec_hgList r) := by
  refine call_of_ (by kernel_rfl) Tryd.func100 c_spec_hgList (n := 23) (by kernel_rfl) (by simp) (tl := [(0, (.tree .int a0)), (1, (.tree .int a1))]) rfl ?_
  unfold m_spec_hgList
  unfold L_spec_hgList at h
  refine awp_seq_ ?_
  refine awp_region_ 2 (by kernel_rfl) ?_
  refine rs0 .nils (by kernel_rfl) ?_
  refine rnil (tn_ ?_)
  refine awp_seq_ ?_
  refine awp_region_ 3 (by kernel_rfl) ?_
  refine rs0 .nils (by kernel_rfl) ?_
  refine rnil (tn_ ?_)
  refine awp_seqB h (fun (l3_m5 : List Int) S_ => S_ = ⟨mkTm [(5, (.own (0, 1) .int 0 l3_m5.length))], mkOb (someL [((0, 1), .arr 3 .int l3_m5)]), 2⟩) ?_ ?_
  · intro v_ h
    refine awp_seq_ ?_
    refine awp_region_ 6 (by kernel_rfl) ?_
    refine rs0 (.tree .int a0) (by kernel_rfl) ?_
    refine rs0 (.int .i64 ((a0.length : Nat) : Int)) (by kernel_rfl) ?_
    refine rs0 (.int .i64 0) (by kernel_rfl) ?_
    refine rnil (tn_ ?_)
    refine awp_block_ ?_
    refine awp_loopL h (fun t_ S_ => ∃ (l5_m10 : Nat), ∃ (l5_m5 : List Int), t_ = (l5_m10, l5_m5) ∧ S_ = ⟨mkTm [(1, (.tree .int a1)), (5, (.own (0, 1) .int 0 l5_m5.length)), (8, (.tree .int a0)), (9, (.int .i64 ((a0.length : Nat) : Int))), (10, (.int .i64 ((l5_m10 : Nat) : Int)))], mkOb (someL [((0, 1), .arr 3 .int l5_m5)]), 2⟩) ⟨_, ((weak_nil_ 5 3 .int rfl (by kernel_rfl)).trans (weak_ren (renF [((0, 1), (5, 6))]) (by kernel_rfl) (by kernel_rfl) (by kernel_rfl))), ⟨0, [], rfl, rfl⟩⟩ ?_
    · rintro n_ _ _ c_ ⟨l5_m10, l5_m5, rfl, rfl⟩ h hn5
      (try dsimp only at h)
      unfold L_spec_hgList_l1 at h
      unfold m_spec_hgList_l1
      refine awp_seq_ ?_
      refine awp_region_ 3 (by kernel_rfl) ?_
      refine rs0 (.bool (decide (((l5_m10 : Nat) : Int) < ((a0.length : Nat) : Int)))) (by kernel_rfl) ?_
      refine rnil (tn_ ?_)
      refine awp_seq_ ?_
      rcases cond_some h with ⟨q8, h⟩ | ⟨q8, h⟩
      · have q8_ := of_decide_eq_true q8
        refine awp_condT_ q8 (by kernel_rfl) ?_
        refine awp_skip_ (tn_ ?_)
        refine awp_seq_ ?_
        refine awp_block_ ?_
        refine awp_seq_ ?_
        obtain ⟨x11, e11, h⟩ := ob_some h
        refine awp_region_ 6 (by kernel_rfl) ?_
        refine rs0 (.telt .int x11 0) (s_idxT (t := .int) (xs := a0) (k := .i64) (m := ((l5_m10 : Nat) : Int)) (by kernel_rfl) (by kernel_rfl) rfl (nat_nn _) rfl e11) ?_
        refine rs0 (.int .i64 x11) (by kernel_rfl) ?_
        refine rs0 (.int .i64 x11) (by kernel_rfl) ?_
        refine rnil (tn_ ?_)
        obtain ⟨x12, f12, h⟩ := ob_some h
        obtain ⟨p12, b12, e12⟩ := getI_some f12
        obtain ⟨g13, h⟩ := og_some h
        refine awp_region_ 14 (by kernel_rfl) ?_
        refine rs0 (.own (0, 1) .int 0 l5_m5.length) (by kernel_rfl) ?_
        refine rs0 (.tree .int a1) (by kernel_rfl) ?_
        refine rs0 (.int .i64 x11) (by kernel_rfl) ?_
        refine rs0 (.telt .int x12 0) (s_idxT (t := .int) (xs := a1) (k := .i64) (m := x11) (by kernel_rfl) (by kernel_rfl) rfl p12 rfl e12) ?_
        refine rs0 (.int .i64 x12) (by kernel_rfl) ?_
        refine rs1 (.own (19, 11) .int 0 1) (19, 11) (.arr 3 .int ([x12])) (by kernel_rfl) ?_
        refine rs2 (.own (0, 12) .int 0 ((l5_m5 ++ ([x12])).length)) (0, 1) (0, 12) (.arr 3 .int (l5_m5 ++ ([x12]))) (s_appO (t := .int) (t' := .int) (xs := l5_m5) (ys := [x12]) (zs := l5_m5 ++ ([x12])) (j := (0, 1)) (len := l5_m5.length) (c := (.own (19, 11) .int 0 1)) (by kernel_rfl) (by kernel_rfl) rfl (by kernel_rfl) (sr_own (e := 3) (by kernel_rfl) rfl) rfl g13) ?_
        refine rs0 (.own (0, 12) .int 0 ((l5_m5 ++ ([x12])).length)) (by kernel_rfl) ?_
        refine rnil (bn_ (tn_ ?_))
        obtain ⟨g14, h⟩ := og_some h
        refine awp_region_ 16 (by kernel_rfl) ?_
        refine rs0 (.int .i64 ((l5_m10 + 1 : Nat) : Int)) (s_add1 (j := l5_m10) (by kernel_rfl) (by kernel_rfl) g14) ?_
        refine rs0 (.int .i64 ((l5_m10 + 1 : Nat) : Int)) (by kernel_rfl) ?_
        refine rnil (tn_ ?_)
        obtain rfl := Option.some.inj h
        exact ⟨(l5_m10 + 1, l5_m5 ++ ([x12])), _, (weak_ren (renF [((0, 1), (0, 12))]) (by kernel_rfl) (by kernel_rfl) (by kernel_rfl)), ⟨l5_m10 + 1, l5_m5 ++ ([x12]), rfl, rfl⟩, hn5⟩
      · have q8_ := of_decide_eq_false q8
        refine awp_condF_ q8 (by kernel_rfl) ?_
        refine awp_exit_ (te_ (te_ (be_ (tn_ ?_))))
        obtain rfl := Option.some.inj h
        have h := hn5
        (try dsimp only at h)
        obtain rfl := Option.some.inj h
        exact ⟨_, (weak_ren (renF []) (by kernel_rfl) (by kernel_rfl) (by kernel_rfl)), rfl⟩
  · rintro l3_m5 _ rfl h
    (try dsimp only at h)
    refine awp_seq_ ?_
    refine awp_region_ 4 (by kernel_rfl) ?_
    refine rs0 (.own (0, 1) .int 0 l3_m5.length) (by kernel_rfl) ?_
    refine rs0 (.own (0, 1) .int 0 l3_m5.length) (by kernel_rfl) ?_
    refine rnil (tn_ ?_)
    refine awp_ret_ ?_
    obtain rfl := Option.some.inj h
    exact ret_ [(.own (0, 1) .int 0 l3_m5.length)] (by simp) (by kernel_rfl) (p_one rfl (l_own (by kernel_rfl) rfl) p_nil) (by kernel_rfl) (by kernel_rfl)
def m_spec_nwBeside_l2 : AC :=
  (.seq (.region [⟨(some 40), none, (.i (.bin .lss (.tmp 39) (.tmp 38)))⟩] false [])
  (.seq (.cond (.tmp 40)
    .skip
    (.exit 2))
  (.seq (.block 3 (.seq (.region [⟨(some 41), none, (.i (.idx 3 (.tmp 37) (.tmp 39)))⟩, ⟨(some 42), none, (.i (.ld false 3 (.tmp 41)))⟩, ⟨(some 9), none, (.i (.alloc 59 [(.int .i64 0), (.int .i64 0), (.int .i64 0)]))⟩, ⟨none, none, (.st false 3 (.tmp 9) (.tmp 42))⟩] false [])
  (.region [⟨(some 43), none, (.i (.fld 1 (.tmp 7)))⟩, ⟨(some 44), none, (.i (.ld true 1 (.tmp 43)))⟩, ⟨(some 45), none, (.i (.mov (.tmp 5)))⟩, ⟨(some 46), none, (.i (.fld 0 (.tmp 9)))⟩, ⟨(some 47), none, (.i (.ld true 1 (.tmp 46)))⟩, ⟨(some 48), none, (.i (.idx 1 (.tmp 45) (.tmp 47)))⟩, ⟨(some 49), none, (.i (.ld true 1 (.tmp 48)))⟩, ⟨(some 50), none, (.i (.mov (.tmp 5)))⟩, ⟨(some 51), none, (.i (.fld 1 (.tmp 9)))⟩, ⟨(some 52), none, (.i (.ld true 1 (.tmp 51)))⟩, ⟨(some 53), none, (.i (.idx 1 (.tmp 50) (.tmp 52)))⟩, ⟨(some 54), none, (.i (.ld true 1 (.tmp 53)))⟩, ⟨(some 55), none, (.i (.fld 2 (.tmp 9)))⟩, ⟨(some 56), none, (.i (.ld true 1 (.tmp 55)))⟩, ⟨(some 57), none, (.build [(.int .i64 0), (.int .i64 0), (.int .i64 0)] [(0, 1, (.tmp 49)), (1, 1, (.tmp 54)), (2, 1, (.tmp 56))])⟩, ⟨(some 58), none, (.mkS 59 (.pair .int (.pair .int .int)) [(.tmp 57)])⟩, ⟨(some 59), none, (.append 59 (.pair .int (.pair .int .int)) 24 (.tmp 44) (.tmp 58))⟩, ⟨(some 60), none, (.i (.fld 1 (.tmp 7)))⟩, ⟨none, none, (.st true 1 (.tmp 60) (.tmp 59))⟩] true [])))
  (.region [⟨(some 61), none, (.i (.bin .add (.tmp 39) (.cst (.int .i64 1))))⟩, ⟨(some 39), none, (.i (.mov (.tmp 61)))⟩] false []))))
def m_spec_nwBeside_l1 : AC :=
  (.seq (.region [⟨(some 16), none, (.i (.bin .lss (.tmp 15) (.tmp 14)))⟩] false [])
  (.seq (.cond (.tmp 16)
    .skip
    (.exit 0))
  (.seq (.block 1 (.seq (.region [⟨(some 17), none, (.i (.mov (.tmp 15)))⟩, ⟨(some 6), none, (.i (.mov (.tmp 17)))⟩] false [])
  (.region [⟨(some 18), none, (.i (.mov (.tmp 5)))⟩, ⟨(some 19), none, (.i (.mov (.tmp 6)))⟩, ⟨(some 20), none, (.i (.fld 0 (.tmp 2)))⟩, ⟨(some 21), none, (.i (.ld true 1 (.tmp 20)))⟩, ⟨(some 22), none, (.i (.mov (.tmp 6)))⟩, ⟨(some 23), none, (.i (.bin .add (.tmp 21) (.tmp 22)))⟩, ⟨(some 24), none, (.i (.idx 1 (.tmp 18) (.tmp 19)))⟩, ⟨none, none, (.st true 1 (.tmp 24) (.tmp 23))⟩] false [])))
  (.region [⟨(some 25), none, (.i (.bin .add (.tmp 15) (.cst (.int .i64 1))))⟩, ⟨(some 15), none, (.i (.mov (.tmp 25)))⟩] false []))))
def m_spec_nwBeside : AC :=
  (.seq (.region [⟨(some 2), none, (.i (.box 30 (.tmp 0)))⟩, ⟨(some 3), none, (.i (.box 30 (.tmp 1)))⟩, ⟨(some 4), none, (.i (.alloc 30 [(.int .i64 0), .nils, .nils, .nils]))⟩] false [])
  (.seq (.region [⟨(some 10), none, (.i (.fld 0 (.tmp 3)))⟩, ⟨(some 11), none, (.i (.ld true 1 (.tmp 10)))⟩, ⟨(some 12), none, (.make 3 .int 8 (.tmp 11) (.tmp 11))⟩, ⟨(some 5), none, (.i (.mov (.tmp 12)))⟩] false [])
  (.seq (.seq (.region [⟨(some 13), none, (.i (.mov (.tmp 5)))⟩, ⟨(some 14), none, (.i (.len (.tmp 13)))⟩, ⟨(some 15), none, (.i (.mov (.cst (.int .i64 0))))⟩] false [])
  (.block 0 (.loop m_spec_nwBeside_l1)))
  (.seq (.region [⟨(some 26), none, (.i (.fld 0 (.tmp 2)))⟩, ⟨(some 27), none, (.i (.ld true 1 (.tmp 26)))⟩, ⟨(some 28), none, (.i (.fld 0 (.tmp 3)))⟩, ⟨(some 29), none, (.i (.ld true 1 (.tmp 28)))⟩, ⟨(some 30), none, (.i (.bin .add (.tmp 27) (.tmp 29)))⟩, ⟨(some 31), none, (.mkS 59 (.pair .int (.pair .int .int)) [])⟩, ⟨(some 32), none, (.i (.fld 1 (.tmp 2)))⟩, ⟨(some 33), none, (.i (.ld true 1 (.tmp 32)))⟩, ⟨(some 34), none, (.append 59 (.pair .int (.pair .int .int)) 24 (.tmp 31) (.tmp 33))⟩, ⟨(some 35), none, (.build [(.int .i64 0), .nils, .nils, .nils] [(0, 1, (.tmp 30)), (1, 1, (.tmp 34))])⟩, ⟨(some 7), none, (.i (.alloc 30 [(.int .i64 0), .nils, .nils, .nils]))⟩, ⟨none, none, (.st false 4 (.tmp 7) (.tmp 35))⟩] true [(1, 8), (3, 8), (8, 10)])
  (.seq (.seq (.region [⟨(some 36), none, (.i (.fld 1 (.tmp 3)))⟩, ⟨(some 37), none, (.i (.ld true 1 (.tmp 36)))⟩, ⟨(some 38), none, (.i (.len (.tmp 37)))⟩, ⟨(some 39), none, (.i (.mov (.cst (.int .i64 0))))⟩] false [])
  (.block 2 (.loop m_spec_nwBeside_l2)))
  (.seq (.region [⟨(some 62), none, (.i (.fld 2 (.tmp 2)))⟩, ⟨(some 63), none, (.i (.ld true 1 (.tmp 62)))⟩, ⟨(some 64), none, (.call (.cst (.fn 52 [])) [(.tmp 63)] [[(some .int)]])⟩, ⟨(some 65), none, (.i (.fld 2 (.tmp 3)))⟩, ⟨(some 66), none, (.i (.ld true 1 (.tmp 65)))⟩, ⟨(some 67), none, (.i (.mov (.tmp 5)))⟩, ⟨(some 68), none, (.call (.cst (.fn 100 [])) [(.tmp 66), (.tmp 67)] [[(some .int)], [(some .int)]])⟩, ⟨(some 69), none, (.append 3 .int 8 (.tmp 64) (.tmp 68))⟩, ⟨(some 70), none, (.i (.fld 2 (.tmp 7)))⟩, ⟨none, none, (.st true 1 (.tmp 70) (.tmp 69))⟩] true [(2, 4)])
  (.seq (.region [⟨(some 71), none, (.i (.fld 3 (.tmp 2)))⟩, ⟨(some 72), none, (.i (.ld true 1 (.tmp 71)))⟩, ⟨(some 73), none, (.call (.cst (.fn 52 [])) [(.tmp 72)] [[(some .int)]])⟩, ⟨(some 74), none, (.i (.fld 3 (.tmp 3)))⟩, ⟨(some 75), none, (.i (.ld true 1 (.tmp 74)))⟩, ⟨(some 76), none, (.i (.mov (.tmp 5)))⟩, ⟨(some 77), none, (.call (.cst (.fn 100 [])) [(.tmp 75), (.tmp 76)] [[(some .int)], [(some .int)]])⟩, ⟨(some 78), none, (.append 3 .int 8 (.tmp 73) (.tmp 77))⟩, ⟨(some 79), none, (.i (.fld 3 (.tmp 7)))⟩, ⟨none, none, (.st true 1 (.tmp 79) (.tmp 78))⟩] true [(2, 4)])
  (.seq (.region [⟨(some 80), none, (.i (.ld false 4 (.tmp 7)))⟩, ⟨none, none, (.st false 4 (.tmp 4) (.tmp 80))⟩] false [])
  .ret))))))))
def r_spec_nwBeside : List Res := [.cell 4 false 4]
theorem c_spec_nwBeside : compiled Tryd.prog Tryd.f67 = some (m_spec_nwBeside, r_spec_nwBeside) := by kernel_rfl
theorem hb_spec_nwBeside : hasBody Tryd.prog 67 = true := by kernel_rfl
def L_spec_nwBeside_l1 (a1_0 : Int) (a0_0 : Int) (l6_m15 : Nat) (l6_m5 : List Int) : Option (Ctl (Nat × List Int) (List Int)) :=
  cond (decide (((l6_m15 : Nat) : Int) < ((a1_0.toNat : Nat) : Int)))
  (Option.bind (l6_m5[l6_m15]?) fun x12 =>
  og (l6_m15 + 1 < 4611686018427387904) <|
  some (Ctl.next (l6_m15 + 1, l6_m5.set l6_m15 (IntKind.i64.wrap (a0_0 + ((l6_m15 : Nat) : Int))))))
  (some (Ctl.out l6_m5))
def L_spec_nwBeside_l2 (a1_1 : List (Int × Int × Int)) (l4_m5 : List Int) (l18_m39 : Nat) (l18_m7_1 : List (Int × Int × Int)) : Option (Ctl (Nat × (List (Int × Int × Int))) (List (Int × Int × Int))) :=
  cond (decide (((l18_m39 : Nat) : Int) < ((a1_1.length : Nat) : Int)))
  (Option.bind (a1_1[l18_m39]?) fun x24 =>
  Option.bind (getI l4_m5 x24.1) fun x25 =>
  Option.bind (getI l4_m5 x24.2.1) fun x26 =>
  og (l18_m7_1.length + 1 ≤ 1073741824 ∧ (l18_m7_1.length + 1) * 24 ≤ 140737488355328) <|
  og (l18_m39 + 1 < 4611686018427387904) <|
  some (Ctl.next (l18_m39 + 1, l18_m7_1 ++ ([(x25, x26, x24.2.2)]))))
  (some (Ctl.out l18_m7_1))
def L_spec_nwBeside (a0_0 : Int) (a0_1 : List (Int × Int × Int)) (a0_2 : List Int) (a0_3 : List Int) (a1_0 : Int) (a1_1 : List (Int × Int × Int)) (a1_2 : List Int) (a1_3 : List Int) : Option (Int × (List (Int × Int × Int)) × List Int × List Int) :=
  og (0 ≤ a1_0 ∧ a1_0 ≤ a1_0 ∧ a1_0 ≤ 1073741824 ∧ (8 : Int) * a1_0 ≤ 140737488355328) <|
Option.bind (loopM (fun s_ : Nat × List Int => L_spec_nwBeside_l1 a1_0 a0_0 s_.1 s_.2) 4611686018427387904 (0, List.replicate a1_0.toNat (0 : Int))) fun l4_m5 =>
og (0 + a0_1.length ≤ 1073741824 ∧ (0 + a0_1.length) * 24 ≤ 140737488355328) <|
Option.bind (loopM (fun s_ : Nat × (List (Int × Int × Int)) => L_spec_nwBeside_l2 a1_1 l4_m5 s_.1 s_.2) 4611686018427387904 (0, a0_1)) fun l16_m7_1 =>
Option.bind (L_spec_l1Own a0_2) fun y30 =>
Option.bind (L_spec_hgList a1_2 l4_m5) fun y31 =>
og (y30.length + y31.length ≤ 1073741824 ∧ (y30.length + y31.length) * 8 ≤ 140737488355328) <|
Option.bind (L_spec_l1Own a0_3) fun y34 =>
Option.bind (L_spec_hgList a1_3 l4_m5) fun y35 =>
og (y34.length + y35.length ≤ 1073741824 ∧ (y34.length + y35.length) * 8 ≤ 140737488355328) <|
some (IntKind.i64.wrap (a0_0 + a1_0), l16_m7_1, y30 ++ y31, y34 ++ y35)
def rv_spec_nwBeside (r : Int × (List (Int × Int × Int)) × List Int × List Int) : RV := ⟨false, [(true, [.sc (.int .i64 r.1), .new 59 (.pair .int (.pair .int .int)) r.2.1, .new 3 .int r.2.2.1, .new 3 .int r.2.2.2])]⟩
theorem ok_spec_nwBeside {a0_0 : Int} {a0_1 : List (Int × Int × Int)} {a0_2 : List Int} {a0_3 : List Int} {a1_0 : Int} {a1_1 : List (Int × Int × Int)} {a1_2 : List Int} {a1_3 : List Int} {r : Int × (List (Int × Int × Int)) × List Int × List Int} (h : L_spec_nwBeside a0_0 a0_1 a0_2 a0_3 a1_0 a1_1 a1_2 a1_3 = some r) : CallOK Tryd.prog Tab 67 [(.agg [(.int .i64 a0_0), (.tree (.pair .int (.pair .int .int)) a0_1), (.tree .int a0_2), (.tree .int a0_3)]), (.agg [(.int .i64 a1_0), (.tree (.pair .int (.pair .int .int)) a1_1), (.tree .int a1_2), (.tree .int a1_3)])] (rv_spec_nwBeside r) := by
  refine call_of_ (by kernel_rfl) Tryd.func67 c_spec_nwBeside (n := 81) (by kernel_rfl) (by simp) (tl := [(0, (.agg [(.int .i64 a0_0), (.tree (.pair .int (.pair .int .int)) a0_1), (.tree .int a0_2), (.tree .int a0_3)])), (1, (.agg [(.int .i64 a1_0), (.tree (.pair .int (.pair .int .int)) a1_1), (.tree .int a1_2), (.tree .int a1_3)]))]) rfl ?_
  unfold m_spec_nwBeside
  unfold L_spec_nwBeside at h
  refine awp_seq_ ?_
  refine awp_region_ 4 (by kernel_rfl) ?_
  refine rs1 (.box (2, 1) 0) (2, 1) (.cells 30 [(.int .i64 a0_0), (.tree (.pair .int (.pair .int .int)) a0_1), (.tree .int a0_2), (.tree .int a0_3)]) (by kernel_rfl) ?_
  refine rs1 (.box (3, 2) 0) (3, 2) (.cells 30 [(.int .i64 a1_0), (.tree (.pair .int (.pair .int .int)) a1_1), (.tree .int a1_2), (.tree .int a1_3)]) (by kernel_rfl) ?_
  refine rs1 (.box (4, 3) 0) (4, 3) (.cells 30 [(.int .i64 0), .nils, .nils, .nils]) (by kernel_rfl) ?_
  refine rnil (tn_ ?_)
  refine awp_seq_ ?_
  obtain ⟨g3, h⟩ := og_some h
  refine awp_region_ 8 (by kernel_rfl) ?_
  refine rs0 (.box (3, 2) 0) (by kernel_rfl) ?_
  refine rsl (.int .i64 a1_0) (by kernel_rfl) ?_
  refine rs1 (.own (12, 6) .int 0 a1_0.toNat) (12, 6) (.arr 3 .int (List.replicate a1_0.toNat (0 : Int))) (s_make (t := .int) (k := .i64) (k' := .i64) (m := a1_0) (m' := a1_0) (by kernel_rfl) (by kernel_rfl) g3 rfl) ?_
  refine rs0 (.own (12, 6) .int 0 a1_0.toNat) (by kernel_rfl) ?_
  refine rnil (tn_ ?_)
  refine awp_seqB h (fun (l4_m5 : List Int) S_ => S_ = ⟨mkTm [(2, (.box (0, 1) 0)), (3, (.box (1, 1) 0)), (4, (.box (2, 1) 0)), (5, (.own (3, 1) .int 0 l4_m5.length))], mkOb (someL [((0, 1), .cells 30 [(.int .i64 a0_0), (.tree (.pair .int (.pair .int .int)) a0_1), (.tree .int a0_2), (.tree .int a0_3)]), ((1, 1), .cells 30 [(.int .i64 a1_0), (.tree (.pair .int (.pair .int .int)) a1_1), (.tree .int a1_2), (.tree .int a1_3)]), ((2, 1), .cells 30 [(.int .i64 0), .nils, .nils, .nils]), ((3, 1), .arr 3 .int l4_m5)]), 2⟩) ?_ ?_
  · intro v_ h
    refine awp_seq_ ?_
    refine awp_region_ 11 (by kernel_rfl) ?_
    refine rs0 (.own (12, 6) .int 0 a1_0.toNat) (by kernel_rfl) ?_
    refine rs0 (.int .i64 ((a1_0.toNat : Nat) : Int)) (by kernel_rfl) ?_
    refine rs0 (.int .i64 0) (by kernel_rfl) ?_
    refine rnil (tn_ ?_)
    refine awp_block_ ?_
    refine awp_loopL h (fun t_ S_ => ∃ (l6_m15 : Nat), ∃ (l6_m5 : List Int), t_ = (l6_m15, l6_m5) ∧ S_ = ⟨mkTm [(2, (.box (0, 1) 0)), (3, (.box (1, 1) 0)), (4, (.box (2, 1) 0)), (5, (.own (3, 1) .int 0 l6_m5.length)), (14, (.int .i64 ((a1_0.toNat : Nat) : Int))), (15, (.int .i64 ((l6_m15 : Nat) : Int)))], mkOb (someL [((0, 1), .cells 30 [(.int .i64 a0_0), (.tree (.pair .int (.pair .int .int)) a0_1), (.tree .int a0_2), (.tree .int a0_3)]), ((1, 1), .cells 30 [(.int .i64 a1_0), (.tree (.pair .int (.pair .int .int)) a1_1), (.tree .int a1_2), (.tree .int a1_3)]), ((2, 1), .cells 30 [(.int .i64 0), .nils, .nils, .nils]), ((3, 1), .arr 3 .int l6_m5)]), 2⟩) ⟨_, ((weak_tm_ 5 (.own (12, 6) .int 0 a1_0.toNat) (.own (12, 6) .int 0 ((List.replicate a1_0.toNat (0 : Int)).length)) (by kernel_rfl) (congrArg (fun z_ => ((.own (12, 6) .int 0 z_) : AV)) (List.length_replicate.symm : a1_0.toNat = (List.replicate a1_0.toNat (0 : Int)).length))).trans (weak_ren (renF [((0, 1), (2, 1)), ((1, 1), (3, 2)), ((2, 1), (4, 3)), ((3, 1), (12, 6))]) (by kernel_rfl) (by kernel_rfl) (by kernel_rfl))), ⟨0, List.replicate a1_0.toNat (0 : Int), rfl, rfl⟩⟩ ?_
    · rintro n_ _ _ c_ ⟨l6_m15, l6_m5, rfl, rfl⟩ h hn6
      (try dsimp only at h)
      unfold L_spec_nwBeside_l1 at h
      unfold m_spec_nwBeside_l1
      refine awp_seq_ ?_
      refine awp_region_ 3 (by kernel_rfl) ?_
      refine rs0 (.bool (decide (((l6_m15 : Nat) : Int) < ((a1_0.toNat : Nat) : Int)))) (by kernel_rfl) ?_
      refine rnil (tn_ ?_)
      refine awp_seq_ ?_
      rcases cond_some h with ⟨q9, h⟩ | ⟨q9, h⟩
      · have q9_ := of_decide_eq_true q9
        refine awp_condT_ q9 (by kernel_rfl) ?_
        refine awp_skip_ (tn_ ?_)
        refine awp_seq_ ?_
        refine awp_block_ ?_
        refine awp_seq_ ?_
        refine awp_region_ 5 (by kernel_rfl) ?_
        refine rs0 (.int .i64 ((l6_m15 : Nat) : Int)) (by kernel_rfl) ?_
        refine rs0 (.int .i64 ((l6_m15 : Nat) : Int)) (by kernel_rfl) ?_
        refine rnil (tn_ ?_)
        obtain ⟨x12, e12, h⟩ := ob_some h
        refine awp_region_ 13 (by kernel_rfl) ?_
        refine rs0 (.own (3, 1) .int 0 l6_m5.length) (by kernel_rfl) ?_
        refine rs0 (.int .i64 ((l6_m15 : Nat) : Int)) (by kernel_rfl) ?_
        refine rs0 (.box (0, 1) 0) (by kernel_rfl) ?_
        refine rsl (.int .i64 a0_0) (by kernel_rfl) ?_
        refine rs0 (.int .i64 ((l6_m15 : Nat) : Int)) (by kernel_rfl) ?_
        refine rs0 (.int .i64 (IntKind.i64.wrap (a0_0 + ((l6_m15 : Nat) : Int)))) (by kernel_rfl) ?_
        refine rs0 (.elt (3, 1) l6_m15 0) (s_idxO (t := .int) (o := (3, 1)) (len := l6_m5.length) (k := .i64) (m := ((l6_m15 : Nat) : Int)) (by kernel_rfl) (by kernel_rfl) rfl (nat_nn _) rfl (getN_lt e12)) ?_
        refine rsn2 (3, 1) (3, 1) (.arr 3 .int (l6_m5.set l6_m15 (IntKind.i64.wrap (a0_0 + ((l6_m15 : Nat) : Int))))) (s_stE (i := (3, 1)) (j := l6_m15) (k := 0) (e := 3) (t := .int) (xs := l6_m5) (cs := [(.int .i64 (IntKind.i64.wrap (a0_0 + ((l6_m15 : Nat) : Int))))]) (x1 := IntKind.i64.wrap (a0_0 + ((l6_m15 : Nat) : Int))) (by kernel_rfl) (by kernel_rfl) e12 (by kernel_rfl) (by kernel_rfl)) ?_
        refine rnil (bn_ (tn_ ?_))
        obtain ⟨g13, h⟩ := og_some h
        refine awp_region_ 15 (by kernel_rfl) ?_
        refine rs0 (.int .i64 ((l6_m15 + 1 : Nat) : Int)) (s_add1 (j := l6_m15) (by kernel_rfl) (by kernel_rfl) g13) ?_
        refine rs0 (.int .i64 ((l6_m15 + 1 : Nat) : Int)) (by kernel_rfl) ?_
        refine rnil (tn_ ?_)
        obtain rfl := Option.some.inj h
        exact ⟨(l6_m15 + 1, l6_m5.set l6_m15 (IntKind.i64.wrap (a0_0 + ((l6_m15 : Nat) : Int)))), _, ((weak_tm_ 5 (.own (3, 1) .int 0 l6_m5.length) (.own (3, 1) .int 0 ((l6_m5.set l6_m15 (IntKind.i64.wrap (a0_0 + ((l6_m15 : Nat) : Int)))).length)) (by kernel_rfl) (congrArg (fun z_ => ((.own (3, 1) .int 0 z_) : AV)) (((rfl : l6_m5.length = l6_m5.length).trans List.length_set.symm) : l6_m5.length = (l6_m5.set l6_m15 (IntKind.i64.wrap (a0_0 + ((l6_m15 : Nat) : Int)))).length))).trans (weak_ren (renF []) (by kernel_rfl) (by kernel_rfl) (by kernel_rfl))), ⟨l6_m15 + 1, l6_m5.set l6_m15 (IntKind.i64.wrap (a0_0 + ((l6_m15 : Nat) : Int))), rfl, rfl⟩, hn6⟩
      · have q9_ := of_decide_eq_false q9
        refine awp_condF_ q9 (by kernel_rfl) ?_
        refine awp_exit_ (te_ (te_ (be_ (tn_ ?_))))
        obtain rfl := Option.some.inj h
        have h := hn6
        (try dsimp only at h)
        obtain rfl := Option.some.inj h
        exact ⟨_, (weak_ren (renF []) (by kernel_rfl) (by kernel_rfl) (by kernel_rfl)), rfl⟩
  · rintro l4_m5 _ rfl h
    (try dsimp only at h)
    refine awp_seq_ ?_
    obtain ⟨g15, h⟩ := og_some h
    refine awp_regionD_ 14 (by kernel_rfl) ?_
    refine ds0 (.box (0, 1) 0) (by kernel_rfl) ?_
    refine dsl (.int .i64 a0_0) (by kernel_rfl) ?_
    refine ds0 (.box (1, 1) 0) (by kernel_rfl) ?_
    refine dsl (.int .i64 a1_0) (by kernel_rfl) ?_
    refine ds0 (.int .i64 (IntKind.i64.wrap (a0_0 + a1_0))) (by kernel_rfl) ?_
    refine ds1 (.own (31, 7) (.pair .int (.pair .int .int)) 0 0) (31, 7) (.arr 59 (.pair .int (.pair .int .int)) []) (by kernel_rfl) ?_
    refine ds0 (.box (0, 1) 1) (by kernel_rfl) ?_
    refine dsl (.tree (.pair .int (.pair .int .int)) a0_1) (by kernel_rfl) ?_
    refine ds2 (.own (31, 10) (.pair .int (.pair .int .int)) 0 a0_1.length) (31, 7) (31, 10) (.arr 59 (.pair .int (.pair .int .int)) a0_1) (s_appO (t := (.pair .int (.pair .int .int))) (t' := (.pair .int (.pair .int .int))) (xs := []) (ys := a0_1) (zs := a0_1) (j := (31, 7)) (len := 0) (c := (.tree (.pair .int (.pair .int .int)) a0_1)) (by kernel_rfl) (by kernel_rfl) rfl (by kernel_rfl) sr_tree rfl g15) ?_
    refine ds0 (.agg [(.int .i64 (IntKind.i64.wrap (a0_0 + a1_0))), (.own (31, 10) (.pair .int (.pair .int .int)) 0 a0_1.length), .nils, .nils]) (by kernel_rfl) ?_
    refine ds1 (.box (7, 12) 0) (7, 12) (.cells 30 [(.int .i64 0), .nils, .nils, .nils]) (by kernel_rfl) ?_
    refine dsn2 (7, 12) (7, 12) (.cells 30 [(.int .i64 (IntKind.i64.wrap (a0_0 + a1_0))), (.own (31, 10) (.pair .int (.pair .int .int)) 0 a0_1.length), .nils, .nils]) (by kernel_rfl) ?_
    refine dnil (by kernel_rfl) (tn_ ?_)
    refine awp_seqB h (fun (l16_m7_1 : List (Int × Int × Int)) S_ => S_ = ⟨mkTm [(2, (.box (0, 1) 0)), (3, (.box (1, 1) 0)), (4, (.box (2, 1) 0)), (5, (.own (3, 1) .int 0 l4_m5.length)), (7, (.box (4, 1) 0))], mkOb (someL [((0, 1), .cells 30 [(.int .i64 a0_0), (.tree (.pair .int (.pair .int .int)) a0_1), (.tree .int a0_2), (.tree .int a0_3)]), ((1, 1), .cells 30 [(.int .i64 a1_0), (.tree (.pair .int (.pair .int .int)) a1_1), (.tree .int a1_2), (.tree .int a1_3)]), ((2, 1), .cells 30 [(.int .i64 0), .nils, .nils, .nils]), ((3, 1), .arr 3 .int l4_m5), ((4, 1), .cells 30 [(.int .i64 (IntKind.i64.wrap (a0_0 + a1_0))), (.own (5, 1) (.pair .int (.pair .int .int)) 0 l16_m7_1.length), .nils, .nils]), ((5, 1), .arr 59 (.pair .int (.pair .int .int)) l16_m7_1)]), 2⟩) ?_ ?_
    · intro v_ h
      refine awp_seq_ ?_
      refine awp_region_ 18 (by kernel_rfl) ?_
      refine rs0 (.box (1, 1) 1) (by kernel_rfl) ?_
      refine rsl (.tree (.pair .int (.pair .int .int)) a1_1) (by kernel_rfl) ?_
      refine rs0 (.int .i64 ((a1_1.length : Nat) : Int)) (by kernel_rfl) ?_
      refine rs0 (.int .i64 0) (by kernel_rfl) ?_
      refine rnil (tn_ ?_)
      refine awp_block_ ?_
      refine awp_loopL h (fun t_ S_ => ∃ (l18_m39 : Nat), ∃ (l18_m7_1 : List (Int × Int × Int)), t_ = (l18_m39, l18_m7_1) ∧ S_ = ⟨mkTm [(2, (.box (0, 1) 0)), (3, (.box (1, 1) 0)), (4, (.box (2, 1) 0)), (5, (.own (3, 1) .int 0 l4_m5.length)), (7, (.box (4, 1) 0)), (37, (.tree (.pair .int (.pair .int .int)) a1_1)), (38, (.int .i64 ((a1_1.length : Nat) : Int))), (39, (.int .i64 ((l18_m39 : Nat) : Int)))], mkOb (someL [((0, 1), .cells 30 [(.int .i64 a0_0), (.tree (.pair .int (.pair .int .int)) a0_1), (.tree .int a0_2), (.tree .int a0_3)]), ((1, 1), .cells 30 [(.int .i64 a1_0), (.tree (.pair .int (.pair .int .int)) a1_1), (.tree .int a1_2), (.tree .int a1_3)]), ((2, 1), .cells 30 [(.int .i64 0), .nils, .nils, .nils]), ((3, 1), .arr 3 .int l4_m5), ((4, 1), .cells 30 [(.int .i64 (IntKind.i64.wrap (a0_0 + a1_0))), (.own (5, 1) (.pair .int (.pair .int .int)) 0 l18_m7_1.length), .nils, .nils]), ((5, 1), .arr 59 (.pair .int (.pair .int .int)) l18_m7_1)]), 2⟩) ⟨_, (weak_ren (renF [((4, 1), (7, 12)), ((5, 1), (31, 10))]) (by kernel_rfl) (by kernel_rfl) (by kernel_rfl)), ⟨0, a0_1, rfl, rfl⟩⟩ ?_
      · rintro n_ _ _ c_ ⟨l18_m39, l18_m7_1, rfl, rfl⟩ h hn18
        (try dsimp only at h)
        unfold L_spec_nwBeside_l2 at h
        unfold m_spec_nwBeside_l2
        refine awp_seq_ ?_
        refine awp_region_ 3 (by kernel_rfl) ?_
        refine rs0 (.bool (decide (((l18_m39 : Nat) : Int) < ((a1_1.length : Nat) : Int)))) (by kernel_rfl) ?_
        refine rnil (tn_ ?_)
        refine awp_seq_ ?_
        rcases cond_some h with ⟨q21, h⟩ | ⟨q21, h⟩
        · have q21_ := of_decide_eq_true q21
          refine awp_condT_ q21 (by kernel_rfl) ?_
          refine awp_skip_ (tn_ ?_)
          refine awp_seq_ ?_
          refine awp_block_ ?_
          refine awp_seq_ ?_
          obtain ⟨x24, e24, h⟩ := ob_some h
          refine awp_region_ 7 (by kernel_rfl) ?_
          refine rs0 (.telt (.pair .int (.pair .int .int)) x24 0) (s_idxT (t := (.pair .int (.pair .int .int))) (xs := a1_1) (k := .i64) (m := ((l18_m39 : Nat) : Int)) (by kernel_rfl) (by kernel_rfl) rfl (nat_nn _) rfl e24) ?_
          refine rs0 (.agg [(.int .i64 x24.1), (.int .i64 x24.2.1), (.int .i64 x24.2.2)]) (by kernel_rfl) ?_
          refine rs1 (.box (9, 5) 0) (9, 5) (.cells 59 [(.int .i64 0), (.int .i64 0), (.int .i64 0)]) (by kernel_rfl) ?_
          refine rsn2 (9, 5) (9, 5) (.cells 59 [(.int .i64 x24.1), (.int .i64 x24.2.1), (.int .i64 x24.2.2)]) (by kernel_rfl) ?_
          refine rnil (tn_ ?_)
          obtain ⟨x25, f25, h⟩ := ob_some h
          obtain ⟨p25, b25, e25⟩ := getI_some f25
          obtain ⟨x26, f26, h⟩ := ob_some h
          obtain ⟨p26, b26, e26⟩ := getI_some f26
          obtain ⟨g27, h⟩ := og_some h
          refine awp_regionD_ 26 (by kernel_rfl) ?_
          refine ds0 (.box (4, 1) 1) (by kernel_rfl) ?_
          refine dsl (.own (5, 1) (.pair .int (.pair .int .int)) 0 l18_m7_1.length) (by kernel_rfl) ?_
          refine ds0 (.own (3, 1) .int 0 l4_m5.length) (by kernel_rfl) ?_
          refine ds0 (.box (9, 5) 0) (by kernel_rfl) ?_
          refine dsl (.int .i64 x24.1) (by kernel_rfl) ?_
          refine ds0 (.elt (3, 1) x24.1.toNat 0) (s_idxO (t := .int) (o := (3, 1)) (len := l4_m5.length) (k := .i64) (m := x24.1) (by kernel_rfl) (by kernel_rfl) rfl p25 rfl (getN_lt e25)) ?_
          refine dsl (.int .i64 x25) (s_ldE (i := (3, 1)) (j := x24.1.toNat) (k := 0) (e := 3) (t := .int) (xs := l4_m5) (by kernel_rfl) (by kernel_rfl) e25 (by kernel_rfl)) ?_
          refine ds0 (.own (3, 1) .int 0 l4_m5.length) (by kernel_rfl) ?_
          refine ds0 (.box (9, 5) 1) (by kernel_rfl) ?_
          refine dsl (.int .i64 x24.2.1) (by kernel_rfl) ?_
          refine ds0 (.elt (3, 1) x24.2.1.toNat 0) (s_idxO (t := .int) (o := (3, 1)) (len := l4_m5.length) (k := .i64) (m := x24.2.1) (by kernel_rfl) (by kernel_rfl) rfl p26 rfl (getN_lt e26)) ?_
          refine dsl (.int .i64 x26) (s_ldE (i := (3, 1)) (j := x24.2.1.toNat) (k := 0) (e := 3) (t := .int) (xs := l4_m5) (by kernel_rfl) (by kernel_rfl) e26 (by kernel_rfl)) ?_
          refine ds0 (.box (9, 5) 2) (by kernel_rfl) ?_
          refine dsl (.int .i64 x24.2.2) (by kernel_rfl) ?_
          refine ds0 (.agg [(.int .i64 x25), (.int .i64 x26), (.int .i64 x24.2.2)]) (by kernel_rfl) ?_
          refine ds1 (.own (58, 22) (.pair .int (.pair .int .int)) 0 1) (58, 22) (.arr 59 (.pair .int (.pair .int .int)) ([(x25, x26, x24.2.2)])) (by kernel_rfl) ?_
          refine ds2 (.own (5, 23) (.pair .int (.pair .int .int)) 0 ((l18_m7_1 ++ ([(x25, x26, x24.2.2)])).length)) (5, 1) (5, 23) (.arr 59 (.pair .int (.pair .int .int)) (l18_m7_1 ++ ([(x25, x26, x24.2.2)]))) (s_appO (t := (.pair .int (.pair .int .int))) (t' := (.pair .int (.pair .int .int))) (xs := l18_m7_1) (ys := [(x25, x26, x24.2.2)]) (zs := l18_m7_1 ++ ([(x25, x26, x24.2.2)])) (j := (5, 1)) (len := l18_m7_1.length) (c := (.own (58, 22) (.pair .int (.pair .int .int)) 0 1)) (by kernel_rfl) (by kernel_rfl) rfl (by kernel_rfl) (sr_own (e := 59) (by kernel_rfl) rfl) rfl g27) ?_
          refine ds0 (.box (4, 1) 1) (by kernel_rfl) ?_
          refine dsn2 (4, 1) (4, 1) (.cells 30 [(.int .i64 (IntKind.i64.wrap (a0_0 + a1_0))), (.own (5, 23) (.pair .int (.pair .int .int)) 0 ((l18_m7_1 ++ ([(x25, x26, x24.2.2)])).length)), .nils, .nils]) (by kernel_rfl) ?_
          refine dnil (by kernel_rfl) (bn_ (tn_ ?_))
          obtain ⟨g28, h⟩ := og_some h
          refine awp_region_ 28 (by kernel_rfl) ?_
          refine rs0 (.int .i64 ((l18_m39 + 1 : Nat) : Int)) (s_add1 (j := l18_m39) (by kernel_rfl) (by kernel_rfl) g28) ?_
          refine rs0 (.int .i64 ((l18_m39 + 1 : Nat) : Int)) (by kernel_rfl) ?_
          refine rnil (tn_ ?_)
          obtain rfl := Option.some.inj h
          exact ⟨(l18_m39 + 1, l18_m7_1 ++ ([(x25, x26, x24.2.2)])), _, (weak_ren (renF [((5, 1), (5, 23))]) (by kernel_rfl) (by kernel_rfl) (by kernel_rfl)), ⟨l18_m39 + 1, l18_m7_1 ++ ([(x25, x26, x24.2.2)]), rfl, rfl⟩, hn18⟩
        · have q21_ := of_decide_eq_false q21
          refine awp_condF_ q21 (by kernel_rfl) ?_
          refine awp_exit_ (te_ (te_ (be_ (tn_ ?_))))
          obtain rfl := Option.some.inj h
          have h := hn18
          (try dsimp only at h)
          obtain rfl := Option.some.inj h
          exact ⟨_, (weak_ren (renF []) (by kernel_rfl) (by kernel_rfl) (by kernel_rfl)), rfl⟩
    · rintro l16_m7_1 _ rfl h
      (try dsimp only at h)
      refine awp_seq_ ?_
      obtain ⟨y30, h30, h⟩ := ob_some h
      obtain ⟨y31, h31, h⟩ := ob_some h
      obtain ⟨g32, h⟩ := og_some h
      refine awp_regionD_ 12 (by kernel_rfl) ?_
      refine ds0 (.box (0, 1) 2) (by kernel_rfl) ?_
      refine dsl (.tree .int a0_2) (by kernel_rfl) ?_
      refine dcall (.own (1024, 4) .int 0 y30.length) [((1024, 4), some (.arr 3 .int y30))] [(.tree .int a0_2)] _ (caps := []) (args0 := [(.tree .int a0_2)]) trivial (by kernel_rfl) (by kernel_rfl) (by kernel_rfl) (by kernel_rfl) (ok_spec_l1Own h30) hb_spec_l1Own (by kernel_rfl) ?_
      refine ds0 (.box (1, 1) 2) (by kernel_rfl) ?_
      refine dsl (.tree .int a1_2) (by kernel_rfl) ?_
      refine ds0 (.own (3, 1) .int 0 l4_m5.length) (by kernel_rfl) ?_
      refine dcall (.own (1088, 8) .int 0 y31.length) [((1088, 8), some (.arr 3 .int y31))] [(.tree .int a1_2), (.own (3, 1) .int 0 l4_m5.length)] _ (caps := []) (args0 := [(.tree .int a1_2), (.tree .int l4_m5)]) trivial (by kernel_rfl) (by kernel_rfl) (gm_cons (by kernel_rfl) (gm_cons (gd_own (e := 3) (by kernel_rfl) rfl) gm_nil)) (by kernel_rfl) (ok_spec_hgList h31) hb_spec_hgList (by kernel_rfl) ?_
      refine ds2 (.own (1024, 9) .int 0 ((y30 ++ y31).length)) (1024, 4) (1024, 9) (.arr 3 .int (y30 ++ y31)) (s_appO (t := .int) (t' := .int) (xs := y30) (ys := y31) (zs := y30 ++ y31) (j := (1024, 4)) (len := y30.length) (c := (.own (1088, 8) .int 0 y31.length)) (by kernel_rfl) (by kernel_rfl) rfl (by kernel_rfl) (sr_own (e := 3) (by kernel_rfl) rfl) rfl g32) ?_
      refine ds0 (.box (4, 1) 2) (by kernel_rfl) ?_
      refine dsn2 (4, 1) (4, 1) (.cells 30 [(.int .i64 (IntKind.i64.wrap (a0_0 + a1_0))), (.own (5, 1) (.pair .int (.pair .int .int)) 0 l16_m7_1.length), (.own (1024, 9) .int 0 ((y30 ++ y31).length)), .nils]) (by kernel_rfl) ?_
      refine dnil (by kernel_rfl) (tn_ ?_)
      refine awp_seq_ ?_
      obtain ⟨y34, h34, h⟩ := ob_some h
      obtain ⟨y35, h35, h⟩ := ob_some h
      obtain ⟨g36, h⟩ := og_some h
      refine awp_regionD_ 22 (by kernel_rfl) ?_
      refine ds0 (.box (0, 1) 3) (by kernel_rfl) ?_
      refine dsl (.tree .int a0_3) (by kernel_rfl) ?_
      refine dcall (.own (1168, 14) .int 0 y34.length) [((1168, 14), some (.arr 3 .int y34))] [(.tree .int a0_3)] _ (caps := []) (args0 := [(.tree .int a0_3)]) trivial (by kernel_rfl) (by kernel_rfl) (by kernel_rfl) (by kernel_rfl) (ok_spec_l1Own h34) hb_spec_l1Own (by kernel_rfl) ?_
      refine ds0 (.box (1, 1) 3) (by kernel_rfl) ?_
      refine dsl (.tree .int a1_3) (by kernel_rfl) ?_
      refine ds0 (.own (3, 1) .int 0 l4_m5.length) (by kernel_rfl) ?_
      refine dcall (.own (1232, 18) .int 0 y35.length) [((1232, 18), some (.arr 3 .int y35))] [(.tree .int a1_3), (.own (3, 1) .int 0 l4_m5.length)] _ (caps := []) (args0 := [(.tree .int a1_3), (.tree .int l4_m5)]) trivial (by kernel_rfl) (by kernel_rfl) (gm_cons (by kernel_rfl) (gm_cons (gd_own (e := 3) (by kernel_rfl) rfl) gm_nil)) (by kernel_rfl) (ok_spec_hgList h35) hb_spec_hgList (by kernel_rfl) ?_
      refine ds2 (.own (1168, 19) .int 0 ((y34 ++ y35).length)) (1168, 14) (1168, 19) (.arr 3 .int (y34 ++ y35)) (s_appO (t := .int) (t' := .int) (xs := y34) (ys := y35) (zs := y34 ++ y35) (j := (1168, 14)) (len := y34.length) (c := (.own (1232, 18) .int 0 y35.length)) (by kernel_rfl) (by kernel_rfl) rfl (by kernel_rfl) (sr_own (e := 3) (by kernel_rfl) rfl) rfl g36) ?_
      refine ds0 (.box (4, 1) 3) (by kernel_rfl) ?_
      refine dsn2 (4, 1) (4, 1) (.cells 30 [(.int .i64 (IntKind.i64.wrap (a0_0 + a1_0))), (.own (5, 1) (.pair .int (.pair .int .int)) 0 l16_m7_1.length), (.own (1024, 9) .int 0 ((y30 ++ y31).length)), (.own (1168, 19) .int 0 ((y34 ++ y35).length))]) (by kernel_rfl) ?_
      refine dnil (by kernel_rfl) (tn_ ?_)
      refine awp_seq_ ?_
      refine awp_region_ 24 (by kernel_rfl) ?_
      refine rsl (.agg [(.int .i64 (IntKind.i64.wrap (a0_0 + a1_0))), (.own (5, 1) (.pair .int (.pair .int .int)) 0 l16_m7_1.length), (.own (1024, 9) .int 0 ((y30 ++ y31).length)), (.own (1168, 19) .int 0 ((y34 ++ y35).length))]) (by kernel_rfl) ?_
      refine rsn2 (2, 1) (2, 1) (.cells 30 [(.int .i64 (IntKind.i64.wrap (a0_0 + a1_0))), (.own (5, 1) (.pair .int (.pair .int .int)) 0 l16_m7_1.length), (.own (1024, 9) .int 0 ((y30 ++ y31).length)), (.own (1168, 19) .int 0 ((y34 ++ y35).length))]) (by kernel_rfl) ?_
      refine rnil (tn_ ?_)
      refine awp_ret_ ?_
      obtain rfl := Option.some.inj h
      exact ret_ [(.agg [(.int .i64 (IntKind.i64.wrap (a0_0 + a1_0))), (.own (5, 1) (.pair .int (.pair .int .int)) 0 l16_m7_1.length), (.own (1024, 9) .int 0 ((y30 ++ y31).length)), (.own (1168, 19) .int 0 ((y34 ++ y35).length))])] (by simp) (by kernel_rfl) (p_agg (l_cons (l_sc (by kernel_rfl)) (l_cons (l_own (by kernel_rfl) rfl) (l_cons (l_own (by kernel_rfl) rfl) (l_cons (l_own (by kernel_rfl) rfl) l_nil)))) p_nil) (by kernel_rfl) (by kernel_rfl)
def m_spec_nwIf : AC :=
  (.seq (.region [⟨(some 3), none, (.i (.box 30 (.tmp 1)))⟩, ⟨(some 4), none, (.i (.alloc 30 [(.int .i64 0), .nils, .nils, .nils]))⟩, ⟨(some 5), none, (.i (.mov (.cst (.bool false))))⟩] false [])
  (.seq (.seq (.region [⟨(some 6), none, (.i (.mov (.tmp 0)))⟩, ⟨(some 7), none, (.i (.ld false 4 (.tmp 3)))⟩, ⟨(some 8), none, (.call (.cst (.fn 42 [])) [(.tmp 6), (.tmp 7)] [[], [none, (some (.pair .int (.pair .int .int))), (some .int), (some .int)]])⟩, ⟨(some 9), none, (.i (.not (.tmp 8)))⟩] false [])
  (.cond (.tmp 9)
    (.seq (.region [⟨(some 10), none, (.build [(.int .i64 0), .nils, .nils, .nils] [])⟩, ⟨none, none, (.st false 4 (.tmp 4) (.tmp 10))⟩, ⟨(some 5), none, (.i (.mov (.cst (.bool false))))⟩] false [])
    .ret)
    .skip))
  (.seq (.region [⟨(some 11), none, (.i (.ld false 4 (.tmp 3)))⟩, ⟨none, none, (.st false 4 (.tmp 4) (.tmp 11))⟩, ⟨(some 5), none, (.i (.mov (.cst (.bool true))))⟩] false [])
  .ret)))
def r_spec_nwIf : List Res := [.cell 4 false 4, .tmp 5]
theorem c_spec_nwIf : compiled Tryd.prog Tryd.f64 = some (m_spec_nwIf, r_spec_nwIf) := by kernel_rfl
theorem hb_spec_nwIf : hasBody Tryd.prog 64 = true := by kernel_rfl
def L_spec_nwIf (a0 : Int) (a1_0 : Int) (a1_1 : List (Int × Int × Int)) (a1_2 : List Int) (a1_3 : List Int) : Option (Sum (Int × Bool) (Int × Bool)) :=
  Option.bind (L_spec_nwGood a0 a1_0 a1_1 a1_2 a1_3) fun y4 =>
cond (!y4)
  (some (.inl (0, false)))
  (some (.inr (a1_0, true)))
def rv_spec_nwIf : Sum (Int × Bool) (Int × Bool) → RV
  | .inl r => ⟨true, [(true, [.sc (.int .i64 r.1), .sc .nils, .sc .nils, .sc .nils]), (false, [.sc (.bool r.2)])]⟩
  | .inr r => ⟨true, [(true, [.sc (.int .i64 r.1), .arg 1 (some 1), .arg 1 (some 2), .arg 1 (some 3)]), (false, [.sc (.bool r.2)])]⟩
theorem ok_spec_nwIf {a0 : Int} {a1_0 : Int} {a1_1 : List (Int × Int × Int)} {a1_2 : List Int} {a1_3 : List Int} {r : Sum (Int × Bool) (Int × Bool)} (h : L_spec_nwIf a0 a1_0 a1_1 a1_2 a1_3 = some r) : CallOK Tryd.prog Tab 64 [(.int .i64 a0), (.agg [(.int .i64 a1_0), (.tree (.pair .int (.pair .int .int)) a1_1), (.tree .int a1_2), (.tree .int a1_3)])] (rv_spec_nwIf r) := by
  refine call_of_g_ (by kernel_rfl) Tryd.func64 c_spec_nwIf (n := 12) (by kernel_rfl) (by simp) ?_
  intro im_ w_ vs_ hvs_
  obtain ⟨u0, _, rfl, _, ⟨_, _, rfl, ⟨_, rfl, ⟨u1_0, _, rfl, _, ⟨u1_1, _, rfl, _, ⟨u1_2, _, rfl, _, ⟨u1_3, _, rfl, _, rfl⟩⟩⟩⟩⟩, rfl⟩⟩ := hvs_
  change awp _ _ _ _ ⟨mkTm [(0, (.int .i64 a0)), (1, (.agg [(.int .i64 a1_0), (.giv u1_1 (.pair .int (.pair .int .int)) a1_1), (.giv u1_2 .int a1_2), (.giv u1_3 .int a1_3)]))], mkOb [], 1⟩
  unfold m_spec_nwIf
  unfold L_spec_nwIf at h
  refine awp_seq_ ?_
  refine awp_region_ 4 (by kernel_rfl) ?_
  refine rs1 (.box (3, 1) 0) (3, 1) (.cells 30 [(.int .i64 a1_0), (.giv u1_1 (.pair .int (.pair .int .int)) a1_1), (.giv u1_2 .int a1_2), (.giv u1_3 .int a1_3)]) (by kernel_rfl) ?_
  refine rs1 (.box (4, 2) 0) (4, 2) (.cells 30 [(.int .i64 0), .nils, .nils, .nils]) (by kernel_rfl) ?_
  refine rs0 (.bool false) (by kernel_rfl) ?_
  refine rnil (tn_ ?_)
  refine awp_seq_ ?_
  refine awp_seq_ ?_
  obtain ⟨y4, h4, h⟩ := ob_some h
  refine awp_region_ 8 (by kernel_rfl) ?_
  refine rs0 (.int .i64 a0) (by kernel_rfl) ?_
  refine rsl (.agg [(.int .i64 a1_0), (.giv u1_1 (.pair .int (.pair .int .int)) a1_1), (.giv u1_2 .int a1_2), (.giv u1_3 .int a1_3)]) (by kernel_rfl) ?_
  refine rcall (.bool y4) [] [(.int .i64 a0), (.agg [(.int .i64 a1_0), (.giv u1_1 (.pair .int (.pair .int .int)) a1_1), (.giv u1_2 .int a1_2), (.giv u1_3 .int a1_3)])] _ (caps := []) (args0 := [(.int .i64 a0), (.agg [(.int .i64 a1_0), (.tree (.pair .int (.pair .int .int)) a1_1), (.tree .int a1_2), (.tree .int a1_3)])]) trivial (by kernel_rfl) (by kernel_rfl) (by kernel_rfl) (by kernel_rfl) (ok_spec_nwGood h4) hb_spec_nwGood (by kernel_rfl) ?_
  refine rs0 (.bool (!y4)) (by kernel_rfl) ?_
  refine rnil (tn_ ?_)
  rcases cond_some h with ⟨q5, h⟩ | ⟨q5, h⟩
  · refine awp_condT_ q5 (by kernel_rfl) ?_
    refine awp_seq_ ?_
    refine awp_region_ 11 (by kernel_rfl) ?_
    refine rs0 (.agg [(.int .i64 0), .nils, .nils, .nils]) (by kernel_rfl) ?_
    refine rsn2 (4, 2) (4, 2) (.cells 30 [(.int .i64 0), .nils, .nils, .nils]) (by kernel_rfl) ?_
    refine rs0 (.bool false) (by kernel_rfl) ?_
    refine rnil (tn_ ?_)
    refine awp_ret_ (tr_ ?_)
    obtain rfl := Option.some.inj h
    exact ret_ [(.agg [(.int .i64 0), .nils, .nils, .nils]), (.bool false)] (by simp) (by kernel_rfl) (p_agg (l_cons (l_sc (by kernel_rfl)) (l_cons (l_sc (by kernel_rfl)) (l_cons (l_sc (by kernel_rfl)) (l_cons (l_sc (by kernel_rfl)) l_nil)))) (p_one rfl (l_sc (by kernel_rfl)) p_nil)) (by kernel_rfl) (by kernel_rfl)
  · refine awp_condF_ q5 (by kernel_rfl) ?_
    refine awp_skip_ (tn_ ?_)
    refine awp_seq_ ?_
    refine awp_region_ 11 (by kernel_rfl) ?_
    refine rsl (.agg [(.int .i64 a1_0), (.giv u1_1 (.pair .int (.pair .int .int)) a1_1), (.giv u1_2 .int a1_2), (.giv u1_3 .int a1_3)]) (by kernel_rfl) ?_
    refine rsn2 (4, 2) (4, 2) (.cells 30 [(.int .i64 a1_0), (.giv u1_1 (.pair .int (.pair .int .int)) a1_1), (.giv u1_2 .int a1_2), (.giv u1_3 .int a1_3)]) (by kernel_rfl) ?_
    refine rs0 (.bool true) (by kernel_rfl) ?_
    refine rnil (tn_ ?_)
    refine awp_ret_ ?_
    obtain rfl := Option.some.inj h
    exact ret_ [(.agg [(.int .i64 a1_0), (.giv u1_1 (.pair .int (.pair .int .int)) a1_1), (.giv u1_2 .int a1_2), (.giv u1_3 .int a1_3)]), (.bool true)] (by simp) (by kernel_rfl) (p_agg (l_cons (l_sc (by kernel_rfl)) (l_cons (l_arg rfl) (l_cons (l_arg rfl) (l_cons (l_arg rfl) l_nil)))) (p_one rfl (l_sc (by kernel_rfl)) p_nil)) (by kernel_rfl) (by kernel_rfl)
def m_spec_BesideNetworks : AC :=
  (.seq (.region [⟨(some 4), none, (.i (.box 30 (.tmp 1)))⟩, ⟨(some 5), none, (.i (.box 30 (.tmp 2)))⟩, ⟨(some 6), none, (.i (.alloc 30 [(.int .i64 0), .nils, .nils, .nils]))⟩, ⟨(some 7), none, (.i (.mov (.cst (.bool false))))⟩] false [])
  (.seq (.seq (.region [⟨(some 8), none, (.i (.mov (.tmp 0)))⟩, ⟨(some 9), none, (.i (.ld false 4 (.tmp 4)))⟩, ⟨(some 10), none, (.call (.cst (.fn 42 [])) [(.tmp 8), (.tmp 9)] [[], [none, (some (.pair .int (.pair .int .int))), (some .int), (some .int)]])⟩, ⟨(some 11), none, (.i (.not (.tmp 10)))⟩, ⟨(some 12), none, (.i (.mov (.tmp 11)))⟩, ⟨(some 13), (some (12, false)), (.i (.mov (.tmp 0)))⟩, ⟨(some 14), (some (12, false)), (.i (.ld false 4 (.tmp 5)))⟩, ⟨(some 15), (some (12, false)), (.call (.cst (.fn 42 [])) [(.tmp 13), (.tmp 14)] [[], [none, (some (.pair .int (.pair .int .int))), (some .int), (some .int)]])⟩, ⟨(some 16), (some (12, false)), (.i (.not (.tmp 15)))⟩, ⟨(some 17), none, (.i (.pick (.tmp 12) (.cst (.bool true)) (.tmp 16)))⟩] false [])
  (.cond (.tmp 17)
    (.seq (.region [⟨(some 18), none, (.build [(.int .i64 0), .nils, .nils, .nils] [])⟩, ⟨none, none, (.st false 4 (.tmp 6) (.tmp 18))⟩, ⟨(some 7), none, (.i (.mov (.cst (.bool false))))⟩] false [])
    .ret)
    .skip))
  (.seq (.region [⟨(some 19), none, (.i (.mov (.tmp 0)))⟩, ⟨(some 20), none, (.i (.ld false 4 (.tmp 4)))⟩, ⟨(some 21), none, (.i (.ld false 4 (.tmp 5)))⟩, ⟨(some 22), none, (.call (.cst (.fn 67 [])) [(.tmp 20), (.tmp 21)] [[none, (some (.pair .int (.pair .int .int))), (some .int), (some .int)], [none, (some (.pair .int (.pair .int .int))), (some .int), (some .int)]])⟩, ⟨(some 23), none, (.call (.cst (.fn 64 [])) [(.tmp 19), (.tmp 22)] [[], [none, (some (.pair .int (.pair .int .int))), (some .int), (some .int)]])⟩, ⟨(some 24), none, (.i (.extr 0 (.tmp 23)))⟩, ⟨(some 25), none, (.i (.extr 1 (.tmp 23)))⟩, ⟨none, none, (.st false 4 (.tmp 6) (.tmp 24))⟩, ⟨(some 7), none, (.i (.mov (.tmp 25)))⟩] false [])
  .ret)))
def r_spec_BesideNetworks : List Res := [.cell 6 false 4, .tmp 7]
theorem c_spec_BesideNetworks : compiled Tryd.prog Tryd.f32 = some (m_spec_BesideNetworks, r_spec_BesideNetworks) := by kernel_rfl
theorem hb_spec_BesideNetworks : hasBody Tryd.prog 32 = true := by kernel_rfl
def L_spec_BesideNetworks (a0 : Int) (a1_0 : Int) (a1_1 : List (Int × Int × Int)) (a1_2 : List Int) (a1_3 : List Int) (a2_0 : Int) (a2_1 : List (Int × Int × Int)) (a2_2 : List Int) (a2_3 : List Int) : Option (Int × (List (Int × Int × Int)) × List Int × List Int × Bool) :=
  Option.bind (Option.bind (L_spec_nwGood a0 a1_0 a1_1 a1_2 a1_3) fun y4 =>
  cond (!y4)
    (some true)
    (Option.bind (L_spec_nwGood a0 a2_0 a2_1 a2_2 a2_3) fun y6 =>
    some (!y6))) fun l3_m17 =>
cond l3_m17
  (some (0, [], [], [], false))
  (Option.bind (Option.bind (L_spec_nwBeside a1_0 a1_1 a1_2 a1_3 a2_0 a2_1 a2_2 a2_3) fun y10 =>
    Option.bind (L_spec_nwIf a0 y10.1 y10.2.1 y10.2.2.1 y10.2.2.2) fun y11 =>
    (Sum.elim (fun z11_0 =>
    some (z11_0.2, z11_0.1, [], [], [])) (fun z11_1 =>
    some (z11_1.2, z11_1.1, y10.2.1, y10.2.2.1, y10.2.2.2))) y11) fun (l9_m7, l9_m6_0, l9_m6_1, l9_m6_2, l9_m6_3) =>
  some (l9_m6_0, l9_m6_1, l9_m6_2, l9_m6_3, l9_m7))
def rv_spec_BesideNetworks (r : Int × (List (Int × Int × Int)) × List Int × List Int × Bool) : RV := ⟨true, [(true, [.sc (.int .i64 r.1), .new 59 (.pair .int (.pair .int .int)) r.2.1, .new 3 .int r.2.2.1, .new 3 .int r.2.2.2.1]), (false, [.sc (.bool r.2.2.2.2)])]⟩
theorem ok_spec_BesideNetworks {a0 : Int} {a1_0 : Int} {a1_1 : List (Int × Int × Int)} {a1_2 : List Int} {a1_3 : List Int} {a2_0 : Int} {a2_1 : List (Int × Int × Int)} {a2_2 : List Int} {a2_3 : List Int} {r : Int × (List (Int × Int × Int)) × List Int × List Int × Bool} (h : L_spec_BesideNetworks a0 a1_0 a1_1 a1_2 a1_3 a2_0 a2_1 a2_2 a2_3 = some r) : CallOK Tryd.prog Tab 32 [(.int .i64 a0), (.agg [(.int .i64 a1_0), (.tree (.pair .int (.pair .int .int)) a1_1), (.tree .int a1_2), (.tree .int a1_3)]), (.agg [(.int .i64 a2_0), (.tree (.pair .int (.pair .int .int)) a2_1), (.tree .int a2_2), (.tree .int a2_3)])] (rv_spec_BesideNetworks r) := by
  refine call_of_ (by kernel_rfl) Tryd.func32 c_spec_BesideNetworks (n := 26) (by kernel_rfl) (by simp) (tl := [(0, (.int .i64 a0)), (1, (.agg [(.int .i64 a1_0), (.tree (.pair .int (.pair .int .int)) a1_1), (.tree .int a1_2), (.tree .int a1_3)])), (2, (.agg [(.int .i64 a2_0), (.tree (.pair .int (.pair .int .int)) a2_1), (.tree .int a2_2), (.tree .int a2_3)]))]) rfl ?_
  unfold m_spec_BesideNetworks
  unfold L_spec_BesideNetworks at h
  refine awp_seq_ ?_
  refine awp_region_ 5 (by kernel_rfl) ?_
  refine rs1 (.box (4, 1) 0) (4, 1) (.cells 30 [(.int .i64 a1_0), (.tree (.pair .int (.pair .int .int)) a1_1), (.tree .int a1_2), (.tree .int a1_3)]) (by kernel_rfl) ?_
  refine rs1 (.box (5, 2) 0) (5, 2) (.cells 30 [(.int .i64 a2_0), (.tree (.pair .int (.pair .int .int)) a2_1), (.tree .int a2_2), (.tree .int a2_3)]) (by kernel_rfl) ?_
  refine rs1 (.box (6, 3) 0) (6, 3) (.cells 30 [(.int .i64 0), .nils, .nils, .nils]) (by kernel_rfl) ?_
  refine rs0 (.bool false) (by kernel_rfl) ?_
  refine rnil (tn_ ?_)
  refine awp_seq_ ?_
  refine awp_seqB h (fun (l3_m17 : Bool) S_ => S_ = ⟨mkTm [(0, (.int .i64 a0)), (4, (.box (0, 1) 0)), (5, (.box (1, 1) 0)), (6, (.box (2, 1) 0)), (17, (.bool l3_m17))], mkOb (someL [((0, 1), .cells 30 [(.int .i64 a1_0), (.tree (.pair .int (.pair .int .int)) a1_1), (.tree .int a1_2), (.tree .int a1_3)]), ((1, 1), .cells 30 [(.int .i64 a2_0), (.tree (.pair .int (.pair .int .int)) a2_1), (.tree .int a2_2), (.tree .int a2_3)]), ((2, 1), .cells 30 [(.int .i64 0), .nils, .nils, .nils])]), 2⟩) ?_ ?_
  · intro v_ h
    obtain ⟨y4, h4, h⟩ := ob_some h
    rcases cond_some h with ⟨q5, h⟩ | ⟨q5, h⟩
    · refine awp_region_ 15 (by kernel_rfl) ?_
      refine rs0 (.int .i64 a0) (by kernel_rfl) ?_
      refine rsl (.agg [(.int .i64 a1_0), (.tree (.pair .int (.pair .int .int)) a1_1), (.tree .int a1_2), (.tree .int a1_3)]) (by kernel_rfl) ?_
      refine rcall (.bool y4) [] [(.int .i64 a0), (.agg [(.int .i64 a1_0), (.tree (.pair .int (.pair .int .int)) a1_1), (.tree .int a1_2), (.tree .int a1_3)])] _ (caps := []) (args0 := [(.int .i64 a0), (.agg [(.int .i64 a1_0), (.tree (.pair .int (.pair .int .int)) a1_1), (.tree .int a1_2), (.tree .int a1_3)])]) trivial (by kernel_rfl) (by kernel_rfl) (by kernel_rfl) (by kernel_rfl) (ok_spec_nwGood h4) hb_spec_nwGood (by kernel_rfl) ?_
      refine rs0 (.bool (!y4)) (by kernel_rfl) ?_
      refine rs0 (.bool (!y4)) (by kernel_rfl) ?_
      refine rs0 .any (s_skip (by kernel_rfl) q5) ?_
      refine rs0 .any (s_skip (by kernel_rfl) q5) ?_
      refine rs0 .any (s_skip (by kernel_rfl) q5) ?_
      refine rs0 .any (s_skip (by kernel_rfl) q5) ?_
      refine rs0 (.bool true) (s_pickT (by kernel_rfl) q5) ?_
      refine rnil (tn_ ?_)
      obtain rfl := Option.some.inj h
      exact ⟨_, (weak_ren (renF [((0, 1), (4, 1)), ((1, 1), (5, 2)), ((2, 1), (6, 3))]) (by kernel_rfl) (by kernel_rfl) (by kernel_rfl)), rfl⟩
    · obtain ⟨y6, h6, h⟩ := ob_some h
      refine awp_region_ 15 (by kernel_rfl) ?_
      refine rs0 (.int .i64 a0) (by kernel_rfl) ?_
      refine rsl (.agg [(.int .i64 a1_0), (.tree (.pair .int (.pair .int .int)) a1_1), (.tree .int a1_2), (.tree .int a1_3)]) (by kernel_rfl) ?_
      refine rcall (.bool y4) [] [(.int .i64 a0), (.agg [(.int .i64 a1_0), (.tree (.pair .int (.pair .int .int)) a1_1), (.tree .int a1_2), (.tree .int a1_3)])] _ (caps := []) (args0 := [(.int .i64 a0), (.agg [(.int .i64 a1_0), (.tree (.pair .int (.pair .int .int)) a1_1), (.tree .int a1_2), (.tree .int a1_3)])]) trivial (by kernel_rfl) (by kernel_rfl) (by kernel_rfl) (by kernel_rfl) (ok_spec_nwGood h4) hb_spec_nwGood (by kernel_rfl) ?_
      refine rs0 (.bool (!y4)) (by kernel_rfl) ?_
      refine rs0 (.bool (!y4)) (by kernel_rfl) ?_
      refine rs0 (.int .i64 a0) (s_gd (by kernel_rfl) q5 (by kernel_rfl)) ?_
      refine rsl (.agg [(.int .i64 a2_0), (.tree (.pair .int (.pair .int .int)) a2_1), (.tree .int a2_2), (.tree .int a2_3)]) (s_gd (by kernel_rfl) q5 (by kernel_rfl)) ?_
      refine rcall (.bool y6) [] [(.int .i64 a0), (.agg [(.int .i64 a2_0), (.tree (.pair .int (.pair .int .int)) a2_1), (.tree .int a2_2), (.tree .int a2_3)])] _ (caps := []) (args0 := [(.int .i64 a0), (.agg [(.int .i64 a2_0), (.tree (.pair .int (.pair .int .int)) a2_1), (.tree .int a2_2), (.tree .int a2_3)])]) (gdOK_b (by kernel_rfl) q5) (by kernel_rfl) (by kernel_rfl) (by kernel_rfl) (by kernel_rfl) (ok_spec_nwGood h6) hb_spec_nwGood (by kernel_rfl) ?_
      refine rs0 (.bool (!y6)) (s_gd (by kernel_rfl) q5 (by kernel_rfl)) ?_
      refine rs0 (.bool (!y6)) (s_pickF (by kernel_rfl) q5) ?_
      refine rnil (tn_ ?_)
      obtain rfl := Option.some.inj h
      exact ⟨_, (weak_ren (renF [((0, 1), (4, 1)), ((1, 1), (5, 2)), ((2, 1), (6, 3))]) (by kernel_rfl) (by kernel_rfl) (by kernel_rfl)), rfl⟩
  · rintro l3_m17 _ rfl h
    (try dsimp only at h)
    rcases cond_some h with ⟨q7, h⟩ | ⟨q7, h⟩
    · refine awp_condT_ q7 (by kernel_rfl) ?_
      refine awp_seq_ ?_
      refine awp_region_ 5 (by kernel_rfl) ?_
      refine rs0 (.agg [(.int .i64 0), .nils, .nils, .nils]) (by kernel_rfl) ?_
      refine rsn2 (2, 1) (2, 1) (.cells 30 [(.int .i64 0), .nils, .nils, .nils]) (by kernel_rfl) ?_
      refine rs0 (.bool false) (by kernel_rfl) ?_
      refine rnil (tn_ ?_)
      refine awp_ret_ (tr_ ?_)
      obtain rfl := Option.some.inj h
      exact ret_ [(.agg [(.int .i64 0), .nils, .nils, .nils]), (.bool false)] (by simp) (by kernel_rfl) (p_agg (l_cons (l_sc (by kernel_rfl)) (l_cons (l_nils rfl) (l_cons (l_nils rfl) (l_cons (l_nils rfl) l_nil)))) (p_one rfl (l_sc (by kernel_rfl)) p_nil)) (by kernel_rfl) (by kernel_rfl)
    · refine awp_condF_ q7 (by kernel_rfl) ?_
      refine awp_skip_ (tn_ ?_)
      refine awp_seqB h (fun t_ S_ => ∃ (l9_m7 : Bool), ∃ (l9_m6_0 : Int), ∃ (l9_m6_1 : List (Int × Int × Int)), ∃ (l9_m6_2 : List Int), ∃ (l9_m6_3 : List Int), t_ = (l9_m7, l9_m6_0, l9_m6_1, l9_m6_2, l9_m6_3) ∧ S_ = ⟨mkTm [(6, (.box (0, 1) 0)), (7, (.bool l9_m7))], mkOb (someL [((0, 1), .cells 30 [(.int .i64 l9_m6_0), (.own (1, 1) (.pair .int (.pair .int .int)) 0 l9_m6_1.length), (.own (2, 1) .int 0 l9_m6_2.length), (.own (3, 1) .int 0 l9_m6_3.length)]), ((1, 1), .arr 59 (.pair .int (.pair .int .int)) l9_m6_1), ((2, 1), .arr 3 .int l9_m6_2), ((3, 1), .arr 3 .int l9_m6_3)]), 2⟩) ?_ ?_
      · intro v_ h
        obtain ⟨y10, h10, h⟩ := ob_some h
        obtain ⟨y11, h11, h⟩ := ob_some h
        rcases y11 with z11_0 | z11_1
        · (try simp only [Sum.elim_inl, Sum.elim_inr] at h)
          refine awp_region_ 11 (by kernel_rfl) ?_
          refine rs0 (.int .i64 a0) (by kernel_rfl) ?_
          refine rsl (.agg [(.int .i64 a1_0), (.tree (.pair .int (.pair .int .int)) a1_1), (.tree .int a1_2), (.tree .int a1_3)]) (by kernel_rfl) ?_
          refine rsl (.agg [(.int .i64 a2_0), (.tree (.pair .int (.pair .int .int)) a2_1), (.tree .int a2_2), (.tree .int a2_3)]) (by kernel_rfl) ?_
          refine rcall (.agg [(.int .i64 y10.1), (.own (352, 5) (.pair .int (.pair .int .int)) 0 y10.2.1.length), (.own (353, 5) .int 0 y10.2.2.1.length), (.own (354, 5) .int 0 y10.2.2.2.length)]) [((352, 5), some (.arr 59 (.pair .int (.pair .int .int)) y10.2.1)), ((353, 5), some (.arr 3 .int y10.2.2.1)), ((354, 5), some (.arr 3 .int y10.2.2.2))] [(.agg [(.int .i64 a1_0), (.tree (.pair .int (.pair .int .int)) a1_1), (.tree .int a1_2), (.tree .int a1_3)]), (.agg [(.int .i64 a2_0), (.tree (.pair .int (.pair .int .int)) a2_1), (.tree .int a2_2), (.tree .int a2_3)])] _ (caps := []) (args0 := [(.agg [(.int .i64 a1_0), (.tree (.pair .int (.pair .int .int)) a1_1), (.tree .int a1_2), (.tree .int a1_3)]), (.agg [(.int .i64 a2_0), (.tree (.pair .int (.pair .int .int)) a2_1), (.tree .int a2_2), (.tree .int a2_3)])]) trivial (by kernel_rfl) (by kernel_rfl) (by kernel_rfl) (by kernel_rfl) (ok_spec_nwBeside h10) hb_spec_nwBeside (by kernel_rfl) ?_
          refine rcall (.tup [(.agg [(.int .i64 z11_0.1), .nils, .nils, .nils]), (.bool z11_0.2)]) [] [(.int .i64 a0), (.agg [(.int .i64 y10.1), (.own (352, 5) (.pair .int (.pair .int .int)) 0 y10.2.1.length), (.own (353, 5) .int 0 y10.2.2.1.length), (.own (354, 5) .int 0 y10.2.2.2.length)])] _ (caps := []) (args0 := [(.int .i64 a0), (.agg [(.int .i64 y10.1), (.tree (.pair .int (.pair .int .int)) y10.2.1), (.tree .int y10.2.2.1), (.tree .int y10.2.2.2)])]) trivial (by kernel_rfl) (by kernel_rfl) (gm_cons (by kernel_rfl) (gm_cons (gd_agg (gm_cons (by kernel_rfl) (gm_cons (gd_own (e := 59) (by kernel_rfl) rfl) (gm_cons (gd_own (e := 3) (by kernel_rfl) rfl) (gm_cons (gd_own (e := 3) (by kernel_rfl) rfl) gm_nil))))) gm_nil)) (by kernel_rfl) (ok_spec_nwIf h11) hb_spec_nwIf (by kernel_rfl) ?_
          refine rs0 (.agg [(.int .i64 z11_0.1), .nils, .nils, .nils]) (by kernel_rfl) ?_
          refine rs0 (.bool z11_0.2) (by kernel_rfl) ?_
          refine rsn2 (2, 1) (2, 1) (.cells 30 [(.int .i64 z11_0.1), .nils, .nils, .nils]) (by kernel_rfl) ?_
          refine rs0 (.bool z11_0.2) (by kernel_rfl) ?_
          refine rnil (tn_ ?_)
          obtain rfl := Option.some.inj h
          exact ⟨_, ((weak_nil_cell_ 9000 (2, 1) 1 30 [(.int .i64 z11_0.1), .nils, .nils, .nils] [(.int .i64 z11_0.1), (.own (9000, 11) (.pair .int (.pair .int .int)) 0 0), .nils, .nils] 59 (.pair .int (.pair .int .int)) rfl (by kernel_rfl) (by kernel_rfl) (by kernel_rfl)).trans ((weak_nil_cell_ 9001 (2, 1) 2 30 [(.int .i64 z11_0.1), (.own (9000, 11) (.pair .int (.pair .int .int)) 0 0), .nils, .nils] [(.int .i64 z11_0.1), (.own (9000, 11) (.pair .int (.pair .int .int)) 0 0), (.own (9001, 12) .int 0 0), .nils] 3 .int rfl (by kernel_rfl) (by kernel_rfl) (by kernel_rfl)).trans ((weak_nil_cell_ 9002 (2, 1) 3 30 [(.int .i64 z11_0.1), (.own (9000, 11) (.pair .int (.pair .int .int)) 0 0), (.own (9001, 12) .int 0 0), .nils] [(.int .i64 z11_0.1), (.own (9000, 11) (.pair .int (.pair .int .int)) 0 0), (.own (9001, 12) .int 0 0), (.own (9002, 13) .int 0 0)] 3 .int rfl (by kernel_rfl) (by kernel_rfl) (by kernel_rfl)).trans (weak_ren (renF [((0, 1), (2, 1)), ((1, 1), (9000, 11)), ((2, 1), (9001, 12)), ((3, 1), (9002, 13))]) (by kernel_rfl) (by kernel_rfl) (by kernel_rfl))))), ⟨z11_0.2, z11_0.1, [], [], [], rfl, rfl⟩⟩
        · (try simp only [Sum.elim_inl, Sum.elim_inr] at h)
          refine awp_region_ 11 (by kernel_rfl) ?_
          refine rs0 (.int .i64 a0) (by kernel_rfl) ?_
          refine rsl (.agg [(.int .i64 a1_0), (.tree (.pair .int (.pair .int .int)) a1_1), (.tree .int a1_2), (.tree .int a1_3)]) (by kernel_rfl) ?_
          refine rsl (.agg [(.int .i64 a2_0), (.tree (.pair .int (.pair .int .int)) a2_1), (.tree .int a2_2), (.tree .int a2_3)]) (by kernel_rfl) ?_
          refine rcall (.agg [(.int .i64 y10.1), (.own (352, 5) (.pair .int (.pair .int .int)) 0 y10.2.1.length), (.own (353, 5) .int 0 y10.2.2.1.length), (.own (354, 5) .int 0 y10.2.2.2.length)]) [((352, 5), some (.arr 59 (.pair .int (.pair .int .int)) y10.2.1)), ((353, 5), some (.arr 3 .int y10.2.2.1)), ((354, 5), some (.arr 3 .int y10.2.2.2))] [(.agg [(.int .i64 a1_0), (.tree (.pair .int (.pair .int .int)) a1_1), (.tree .int a1_2), (.tree .int a1_3)]), (.agg [(.int .i64 a2_0), (.tree (.pair .int (.pair .int .int)) a2_1), (.tree .int a2_2), (.tree .int a2_3)])] _ (caps := []) (args0 := [(.agg [(.int .i64 a1_0), (.tree (.pair .int (.pair .int .int)) a1_1), (.tree .int a1_2), (.tree .int a1_3)]), (.agg [(.int .i64 a2_0), (.tree (.pair .int (.pair .int .int)) a2_1), (.tree .int a2_2), (.tree .int a2_3)])]) trivial (by kernel_rfl) (by kernel_rfl) (by kernel_rfl) (by kernel_rfl) (ok_spec_nwBeside h10) hb_spec_nwBeside (by kernel_rfl) ?_
          refine rcall (.tup [(.agg [(.int .i64 z11_1.1), (.own (352, 5) (.pair .int (.pair .int .int)) 0 y10.2.1.length), (.own (353, 5) .int 0 y10.2.2.1.length), (.own (354, 5) .int 0 y10.2.2.2.length)]), (.bool z11_1.2)]) [] [(.int .i64 a0), (.agg [(.int .i64 y10.1), (.own (352, 5) (.pair .int (.pair .int .int)) 0 y10.2.1.length), (.own (353, 5) .int 0 y10.2.2.1.length), (.own (354, 5) .int 0 y10.2.2.2.length)])] _ (caps := []) (args0 := [(.int .i64 a0), (.agg [(.int .i64 y10.1), (.tree (.pair .int (.pair .int .int)) y10.2.1), (.tree .int y10.2.2.1), (.tree .int y10.2.2.2)])]) trivial (by kernel_rfl) (by kernel_rfl) (gm_cons (by kernel_rfl) (gm_cons (gd_agg (gm_cons (by kernel_rfl) (gm_cons (gd_own (e := 59) (by kernel_rfl) rfl) (gm_cons (gd_own (e := 3) (by kernel_rfl) rfl) (gm_cons (gd_own (e := 3) (by kernel_rfl) rfl) gm_nil))))) gm_nil)) (by kernel_rfl) (ok_spec_nwIf h11) hb_spec_nwIf (by kernel_rfl) ?_
          refine rs0 (.agg [(.int .i64 z11_1.1), (.own (352, 5) (.pair .int (.pair .int .int)) 0 y10.2.1.length), (.own (353, 5) .int 0 y10.2.2.1.length), (.own (354, 5) .int 0 y10.2.2.2.length)]) (by kernel_rfl) ?_
          refine rs0 (.bool z11_1.2) (by kernel_rfl) ?_
          refine rsn2 (2, 1) (2, 1) (.cells 30 [(.int .i64 z11_1.1), (.own (352, 5) (.pair .int (.pair .int .int)) 0 y10.2.1.length), (.own (353, 5) .int 0 y10.2.2.1.length), (.own (354, 5) .int 0 y10.2.2.2.length)]) (by kernel_rfl) ?_
          refine rs0 (.bool z11_1.2) (by kernel_rfl) ?_
          refine rnil (tn_ ?_)
          obtain rfl := Option.some.inj h
          exact ⟨_, (weak_ren (renF [((0, 1), (2, 1)), ((1, 1), (352, 5)), ((2, 1), (353, 5)), ((3, 1), (354, 5))]) (by kernel_rfl) (by kernel_rfl) (by kernel_rfl)), ⟨z11_1.2, z11_1.1, y10.2.1, y10.2.2.1, y10.2.2.2, rfl, rfl⟩⟩
      · rintro _ _ ⟨l9_m7, l9_m6_0, l9_m6_1, l9_m6_2, l9_m6_3, rfl, rfl⟩ h
        (try dsimp only at h)
        refine awp_ret_ ?_
        obtain rfl := Option.some.inj h
        exact ret_ [(.agg [(.int .i64 l9_m6_0), (.own (1, 1) (.pair .int (.pair .int .int)) 0 l9_m6_1.length), (.own (2, 1) .int 0 l9_m6_2.length), (.own (3, 1) .int 0 l9_m6_3.length)]), (.bool l9_m7)] (by simp) (by kernel_rfl) (p_agg (l_cons (l_sc (by kernel_rfl)) (l_cons (l_own (by kernel_rfl) rfl) (l_cons (l_own (by kernel_rfl) rfl) (l_cons (l_own (by kernel_rfl) rfl) l_nil)))) (p_one rfl (l_sc (by kernel_rfl)) p_nil)) (by kernel_rfl) (by kernel_rfl)
def m_slices_Clone_impl_Branch_impl_Branch : AC :=
  (.seq (.region [⟨(some 2), none, (.i (.mov (.cst .nils)))⟩] false [])
  (.seq (.seq (.region [⟨(some 3), none, (.i (.mov (.tmp 0)))⟩, ⟨(some 4), none, (.i (.cmp false 1 (.tmp 3) (.cst .nils)))⟩] false [])
  (.cond (.tmp 4)
    (.seq (.region [⟨(some 2), none, (.i (.mov (.cst .nils)))⟩] false [])
    .ret)
    .skip))
  (.seq (.region [⟨(some 5), none, (.mkS 59 (.pair .int (.pair .int .int)) [])⟩, ⟨(some 6), none, (.i (.mov (.tmp 0)))⟩, ⟨(some 7), none, (.append 59 (.pair .int (.pair .int .int)) 24 (.tmp 5) (.tmp 6))⟩, ⟨(some 2), none, (.i (.mov (.tmp 7)))⟩] false [])
  .ret)))
def r_slices_Clone_impl_Branch_impl_Branch : List Res := [.tmp 2]
theorem c_slices_Clone_impl_Branch_impl_Branch : compiled Tryd.prog Tryd.f53 = some (m_slices_Clone_impl_Branch_impl_Branch, r_slices_Clone_impl_Branch_impl_Branch) := by kernel_rfl
theorem hb_slices_Clone_impl_Branch_impl_Branch : hasBody Tryd.prog 53 = true := by kernel_rfl
def L_slices_Clone_impl_Branch_impl_Branch (a0 : List (Int × Int × Int)) : Option (List (Int × Int × Int)) :=
  og (0 + a0.length ≤ 1073741824 ∧ (0 + a0.length) * 24 ≤ 140737488355328) <|
some a0
def rv_slices_Clone_impl_Branch_impl_Branch (r : List (Int × Int × Int)) : RV := ⟨false, [(false, [.new 59 (.pair .int (.pair .int .int)) r])]⟩
theorem ok_slices_Clone_impl_Branch_impl_Branch {a0 : List (Int × Int × Int)} {r : List (Int × Int × Int)} (h : L_slices_Clone_impl_Branch_impl_Branch a0 = some r) : CallOK Tryd.prog Tab 53 [(.tree (.pair .int (.pair .int .int)) a0)] (rv_slices_Clone_impl_Branch_impl_Branch r) := by
  refine call_of_ (by kernel_rfl) Tryd.func53 c_slices_Clone_impl_Branch_impl_Branch (n := 8) (by kernel_rfl) (by simp) (tl := [(0, (.tree (.pair .int (.pair .int .int)) a0))]) rfl ?_
  unfold m_slices_Clone_impl_Branch_impl_Branch
  unfold L_slices_Clone_impl_Branch_impl_Branch at h
  refine awp_seq_ ?_
  refine awp_region_ 2 (by kernel_rfl) ?_
  refine rs0 .nils (by kernel_rfl) ?_
  refine rnil (tn_ ?_)
  refine awp_seq_ ?_
  refine awp_seq_ ?_
  refine awp_region_ 4 (by kernel_rfl) ?_
  refine rs0 (.tree (.pair .int (.pair .int .int)) a0) (by kernel_rfl) ?_
  refine rs0 (.abool true a0.length) (by kernel_rfl) ?_
  refine rnil (tn_ ?_)
  refine awp_condA_ (p := true) (n := a0.length) (by kernel_rfl) ?_ ?_
  · intro hz_
    obtain rfl : a0 = [] := List.length_eq_zero_iff.1 (hz_ rfl)
    replace h := swapL (some [] : Option (List (Int × Int × Int))) h (by simp [og])
    refine awp_seq_ ?_
    refine awp_region_ 5 (by kernel_rfl) ?_
    refine rs0 .nils (by kernel_rfl) ?_
    refine rnil (tn_ ?_)
    refine awp_ret_ (tr_ ?_)
    obtain rfl := Option.some.inj h
    exact ret_ [.nils] (by simp) (by kernel_rfl) (p_one rfl (l_nils rfl) p_nil) (by kernel_rfl) (by kernel_rfl)
  · intro _
    refine awp_skip_ (tn_ ?_)
    refine awp_seq_ ?_
    obtain ⟨g6, h⟩ := og_some h
    refine awp_region_ 8 (by kernel_rfl) ?_
    refine rs1 (.own (5, 4) (.pair .int (.pair .int .int)) 0 0) (5, 4) (.arr 59 (.pair .int (.pair .int .int)) []) (by kernel_rfl) ?_
    refine rs0 (.tree (.pair .int (.pair .int .int)) a0) (by kernel_rfl) ?_
    refine rs2 (.own (5, 6) (.pair .int (.pair .int .int)) 0 a0.length) (5, 4) (5, 6) (.arr 59 (.pair .int (.pair .int .int)) a0) (s_appO (t := (.pair .int (.pair .int .int))) (t' := (.pair .int (.pair .int .int))) (xs := []) (ys := a0) (zs := a0) (j := (5, 4)) (len := 0) (c := (.tree (.pair .int (.pair .int .int)) a0)) (by kernel_rfl) (by kernel_rfl) rfl (by kernel_rfl) sr_tree rfl g6) ?_
    refine rs0 (.own (5, 6) (.pair .int (.pair .int .int)) 0 a0.length) (by kernel_rfl) ?_
    refine rnil (tn_ ?_)
    refine awp_ret_ ?_
    obtain rfl := Option.some.inj h
    exact ret_ [(.own (5, 6) (.pair .int (.pair .int .int)) 0 a0.length)] (by simp) (by kernel_rfl) (p_one rfl (l_own (by kernel_rfl) rfl) p_nil) (by kernel_rfl) (by kernel_rfl)
def m_impl_shiftedBy_1 : AC :=
  (.seq (.region [⟨(some 3), none, (.i (.mov (.cst (.int .i64 0))))⟩] false [])
  (.seq (.region [⟨(some 4), none, (.i (.mov (.tmp 0)))⟩, ⟨(some 5), none, (.i (.ld true 1 (.tmp 1)))⟩, ⟨(some 6), none, (.i (.bin .add (.tmp 4) (.tmp 5)))⟩, ⟨(some 3), none, (.i (.mov (.tmp 6)))⟩] false [])
  .ret))
def r_impl_shiftedBy_1 : List Res := [.tmp 3]
theorem c_impl_shiftedBy_1 : compiled Tryd.prog Tryd.f101 = some (m_impl_shiftedBy_1, r_impl_shiftedBy_1) := by kernel_rfl
theorem hb_impl_shiftedBy_1 : hasBody Tryd.prog 101 = true := by kernel_rfl
def L_impl_shiftedBy_1 (a0 : Int) (c0_0 : Int) : Option Int :=
  some (IntKind.i64.wrap (a0 + c0_0))
def rv_impl_shiftedBy_1 (r : Int) : RV := ⟨false, [(false, [.sc (.int .i64 r)])]⟩
theorem ok_impl_shiftedBy_1 {a0 : Int} {c0_0 : Int} {r : Int} (h : L_impl_shiftedBy_1 a0 c0_0 = some r) : CallOK Tryd.prog Tab 101 [(.int .i64 a0), (.ref [(.int .i64 c0_0)])] (rv_impl_shiftedBy_1 r) := by
  refine call_of_ (by kernel_rfl) Tryd.func101 c_impl_shiftedBy_1 (n := 7) (by kernel_rfl) (by simp) (tl := [(0, (.int .i64 a0)), (1, (.ref [(.int .i64 c0_0)]))]) rfl ?_
  unfold m_impl_shiftedBy_1
  unfold L_impl_shiftedBy_1 at h
  refine awp_seq_ ?_
  refine awp_region_ 2 (by kernel_rfl) ?_
  refine rs0 (.int .i64 0) (by kernel_rfl) ?_
  refine rnil (tn_ ?_)
  refine awp_seq_ ?_
  refine awp_region_ 6 (by kernel_rfl) ?_
  refine rs0 (.int .i64 a0) (by kernel_rfl) ?_
  refine rs0 (.int .i64 c0_0) (by kernel_rfl) ?_
  refine rs0 (.int .i64 (IntKind.i64.wrap (a0 + c0_0))) (by kernel_rfl) ?_
  refine rs0 (.int .i64 (IntKind.i64.wrap (a0 + c0_0))) (by kernel_rfl) ?_
  refine rnil (tn_ ?_)
  refine awp_ret_ ?_
  obtain rfl := Option.some.inj h
  exact ret_ [(.int .i64 (IntKind.i64.wrap (a0 + c0_0)))] (by simp) (by kernel_rfl) (p_one rfl (l_sc (by kernel_rfl)) p_nil) (by kernel_rfl) (by kernel_rfl)
def m_impl_movedBranches_l1 : AC :=
  (.seq (.region [⟨(some 12), none, (.i (.bin .lss (.tmp 11) (.tmp 10)))⟩] false [])
  (.seq (.cond (.tmp 12)
    .skip
    (.exit 0))
  (.seq (.block 1 (.seq (.region [⟨(some 13), none, (.i (.idx 3 (.tmp 9) (.tmp 11)))⟩, ⟨(some 14), none, (.i (.ld false 3 (.tmp 13)))⟩, ⟨(some 7), none, (.i (.alloc 59 [(.int .i64 0), (.int .i64 0), (.int .i64 0)]))⟩, ⟨none, none, (.st false 3 (.tmp 7) (.tmp 14))⟩] false [])
  (.region [⟨(some 15), none, (.i (.mov (.tmp 5)))⟩, ⟨(some 16), none, (.i (.mov (.tmp 1)))⟩, ⟨(some 17), none, (.i (.fld 0 (.tmp 7)))⟩, ⟨(some 18), none, (.i (.ld true 1 (.tmp 17)))⟩, ⟨(some 19), none, (.call (.tmp 16) [(.tmp 18)] [[]])⟩, ⟨(some 20), none, (.i (.mov (.tmp 1)))⟩, ⟨(some 21), none, (.i (.fld 1 (.tmp 7)))⟩, ⟨(some 22), none, (.i (.ld true 1 (.tmp 21)))⟩, ⟨(some 23), none, (.call (.tmp 20) [(.tmp 22)] [[]])⟩, ⟨(some 24), none, (.i (.fld 2 (.tmp 7)))⟩, ⟨(some 25), none, (.i (.ld true 1 (.tmp 24)))⟩, ⟨(some 26), none, (.build [(.int .i64 0), (.int .i64 0), (.int .i64 0)] [(0, 1, (.tmp 19)), (1, 1, (.tmp 23)), (2, 1, (.tmp 25))])⟩, ⟨(some 27), none, (.mkS 59 (.pair .int (.pair .int .int)) [(.tmp 26)])⟩, ⟨(some 28), none, (.append 59 (.pair .int (.pair .int .int)) 24 (.tmp 15) (.tmp 27))⟩, ⟨(some 5), none, (.i (.mov (.tmp 28)))⟩] true [(4, 7), (4, 10), (8, 10)])))
  (.region [⟨(some 29), none, (.i (.bin .add (.tmp 11) (.cst (.int .i64 1))))⟩, ⟨(some 11), none, (.i (.mov (.tmp 29)))⟩] false []))))
def m_impl_movedBranches : AC :=
  (.seq (.region [⟨(some 4), none, (.i (.mov (.cst .nils)))⟩] false [])
  (.seq (.region [⟨(some 8), none, (.mkS 59 (.pair .int (.pair .int .int)) [])⟩, ⟨(some 5), none, (.i (.mov (.tmp 8)))⟩] false [])
  (.seq (.seq (.region [⟨(some 9), none, (.i (.mov (.tmp 0)))⟩, ⟨(some 10), none, (.i (.len (.tmp 9)))⟩, ⟨(some 11), none, (.i (.mov (.cst (.int .i64 0))))⟩] false [])
  (.block 0 (.loop m_impl_movedBranches_l1)))
  (.seq (.region [⟨(some 30), none, (.i (.mov (.tmp 5)))⟩, ⟨(some 4), none, (.i (.mov (.tmp 30)))⟩] false [])
  .ret))))
def r_impl_movedBranches : List Res := [.tmp 4]
theorem c_impl_movedBranches : compiled Tryd.prog Tryd.f70 = some (m_impl_movedBranches, r_impl_movedBranches) := by kernel_rfl
theorem hb_impl_movedBranches : hasBody Tryd.prog 70 = true := by kernel_rfl
def L_impl_movedBranches_for_impl_shiftedBy_1_l1 (a0 : List (Int × Int × Int)) (a1_0_0 : Int) (l5_m11 : Nat) (l5_m5 : List (Int × Int × Int)) : Option (Ctl (Nat × (List (Int × Int × Int))) (List (Int × Int × Int))) :=
  cond (decide (((l5_m11 : Nat) : Int) < ((a0.length : Nat) : Int)))
  (Option.bind (a0[l5_m11]?) fun x11 =>
  Option.bind (L_impl_shiftedBy_1 x11.1 a1_0_0) fun y12 =>
  Option.bind (L_impl_shiftedBy_1 x11.2.1 a1_0_0) fun y13 =>
  og (l5_m5.length + 1 ≤ 1073741824 ∧ (l5_m5.length + 1) * 24 ≤ 140737488355328) <|
  og (l5_m11 + 1 < 4611686018427387904) <|
  some (Ctl.next (l5_m11 + 1, l5_m5 ++ ([(y12, y13, x11.2.2)]))))
  (some (Ctl.out l5_m5))
def L_impl_movedBranches_for_impl_shiftedBy_1 (a0 : List (Int × Int × Int)) (a1_0_0 : Int) : Option (List (Int × Int × Int)) :=
  Option.bind (loopM (fun s_ : Nat × (List (Int × Int × Int)) => L_impl_movedBranches_for_impl_shiftedBy_1_l1 a0 a1_0_0 s_.1 s_.2) 4611686018427387904 (0, [])) fun l3_m5 =>
some l3_m5
def rv_impl_movedBranches_for_impl_shiftedBy_1 (r : List (Int × Int × Int)) : RV := ⟨false, [(false, [.new 59 (.pair .int (.pair .int .int)) r])]⟩
theorem ok_impl_movedBranches_for_impl_shiftedBy_1 {a0 : List (Int × Int × Int)} {a1_0_0 : Int} {r : List (Int × Int × Int)} (h : L_impl_movedBranches_for_impl_shiftedBy_1 a0 a1_0_0 = some r) : CallOK Tryd.prog Tab 70 [(.tree (.pair .int (.pair .int .int)) a0), (.fn 101 [(.ref [(.int .i64 a1_0_0)])])] (rv_impl_movedBranches_for_impl_shiftedBy_1 r) := by
  refine call_of_ (by kernel_rfl) Tryd.func70 c_impl_movedBranches (n := 31) (by kernel_rfl) (by simp) (tl := [(0, (.tree (.pair .int (.pair .int .int)) a0)), (1, (.fn 101 [(.ref [(.int .i64 a1_0_0)])]))]) rfl ?_
  unfold m_impl_movedBranches
  unfold L_impl_movedBranches_for_impl_shiftedBy_1 at h
  refine awp_seq_ ?_
  refine awp_region_ 2 (by kernel_rfl) ?_
  refine rs0 .nils (by kernel_rfl) ?_
  refine rnil (tn_ ?_)
  refine awp_seq_ ?_
  refine awp_region_ 4 (by kernel_rfl) ?_
  refine rs1 (.own (8, 2) (.pair .int (.pair .int .int)) 0 0) (8, 2) (.arr 59 (.pair .int (.pair .int .int)) []) (by kernel_rfl) ?_
  refine rs0 (.own (8, 2) (.pair .int (.pair .int .int)) 0 0) (by kernel_rfl) ?_
  refine rnil (tn_ ?_)
  refine awp_seqB h (fun (l3_m5 : List (Int × Int × Int)) S_ => S_ = ⟨mkTm [(5, (.own (0, 1) (.pair .int (.pair .int .int)) 0 l3_m5.length))], mkOb (someL [((0, 1), .arr 59 (.pair .int (.pair .int .int)) l3_m5)]), 2⟩) ?_ ?_
  · intro v_ h
    refine awp_seq_ ?_
    refine awp_region_ 7 (by kernel_rfl) ?_
    refine rs0 (.tree (.pair .int (.pair .int .int)) a0) (by kernel_rfl) ?_
    refine rs0 (.int .i64 ((a0.length : Nat) : Int)) (by kernel_rfl) ?_
    refine rs0 (.int .i64 0) (by kernel_rfl) ?_
    refine rnil (tn_ ?_)
    refine awp_block_ ?_
    refine awp_loopL h (fun t_ S_ => ∃ (l5_m11 : Nat), ∃ (l5_m5 : List (Int × Int × Int)), t_ = (l5_m11, l5_m5) ∧ S_ = ⟨mkTm [(1, (.fn 101 [(.ref [(.int .i64 a1_0_0)])])), (5, (.own (0, 1) (.pair .int (.pair .int .int)) 0 l5_m5.length)), (9, (.tree (.pair .int (.pair .int .int)) a0)), (10, (.int .i64 ((a0.length : Nat) : Int))), (11, (.int .i64 ((l5_m11 : Nat) : Int)))], mkOb (someL [((0, 1), .arr 59 (.pair .int (.pair .int .int)) l5_m5)]), 2⟩) ⟨_, (weak_ren (renF [((0, 1), (8, 2))]) (by kernel_rfl) (by kernel_rfl) (by kernel_rfl)), ⟨0, [], rfl, rfl⟩⟩ ?_
    · rintro n_ _ _ c_ ⟨l5_m11, l5_m5, rfl, rfl⟩ h hn5
      (try dsimp only at h)
      unfold L_impl_movedBranches_for_impl_shiftedBy_1_l1 at h
      unfold m_impl_movedBranches_l1
      refine awp_seq_ ?_
      refine awp_region_ 3 (by kernel_rfl) ?_
      refine rs0 (.bool (decide (((l5_m11 : Nat) : Int) < ((a0.length : Nat) : Int)))) (by kernel_rfl) ?_
      refine rnil (tn_ ?_)
      refine awp_seq_ ?_
      rcases cond_some h with ⟨q8, h⟩ | ⟨q8, h⟩
      · have q8_ := of_decide_eq_true q8
        refine awp_condT_ q8 (by kernel_rfl) ?_
        refine awp_skip_ (tn_ ?_)
        refine awp_seq_ ?_
        refine awp_block_ ?_
        refine awp_seq_ ?_
        obtain ⟨x11, e11, h⟩ := ob_some h
        refine awp_region_ 7 (by kernel_rfl) ?_
        refine rs0 (.telt (.pair .int (.pair .int .int)) x11 0) (s_idxT (t := (.pair .int (.pair .int .int))) (xs := a0) (k := .i64) (m := ((l5_m11 : Nat) : Int)) (by kernel_rfl) (by kernel_rfl) rfl (nat_nn _) rfl e11) ?_
        refine rs0 (.agg [(.int .i64 x11.1), (.int .i64 x11.2.1), (.int .i64 x11.2.2)]) (by kernel_rfl) ?_
        refine rs1 (.box (7, 5) 0) (7, 5) (.cells 59 [(.int .i64 0), (.int .i64 0), (.int .i64 0)]) (by kernel_rfl) ?_
        refine rsn2 (7, 5) (7, 5) (.cells 59 [(.int .i64 x11.1), (.int .i64 x11.2.1), (.int .i64 x11.2.2)]) (by kernel_rfl) ?_
        refine rnil (tn_ ?_)
        obtain ⟨y12, h12, h⟩ := ob_some h
        obtain ⟨y13, h13, h⟩ := ob_some h
        obtain ⟨g14, h⟩ := og_some h
        refine awp_regionD_ 22 (by kernel_rfl) ?_
        refine ds0 (.own (0, 1) (.pair .int (.pair .int .int)) 0 l5_m5.length) (by kernel_rfl) ?_
        refine ds0 (.fn 101 [(.ref [(.int .i64 a1_0_0)])]) (by kernel_rfl) ?_
        refine ds0 (.box (7, 5) 0) (by kernel_rfl) ?_
        refine dsl (.int .i64 x11.1) (by kernel_rfl) ?_
        refine dcall (.int .i64 y12) [] [(.int .i64 x11.1), (.ref [(.int .i64 a1_0_0)])] _ (caps := [(.ref [(.int .i64 a1_0_0)])]) (args0 := [(.int .i64 x11.1), (.ref [(.int .i64 a1_0_0)])]) trivial (by kernel_rfl) (by kernel_rfl) (by kernel_rfl) (by kernel_rfl) (ok_impl_shiftedBy_1 h12) hb_impl_shiftedBy_1 (by kernel_rfl) ?_
        refine ds0 (.fn 101 [(.ref [(.int .i64 a1_0_0)])]) (by kernel_rfl) ?_
        refine ds0 (.box (7, 5) 1) (by kernel_rfl) ?_
        refine dsl (.int .i64 x11.2.1) (by kernel_rfl) ?_
        refine dcall (.int .i64 y13) [] [(.int .i64 x11.2.1), (.ref [(.int .i64 a1_0_0)])] _ (caps := [(.ref [(.int .i64 a1_0_0)])]) (args0 := [(.int .i64 x11.2.1), (.ref [(.int .i64 a1_0_0)])]) trivial (by kernel_rfl) (by kernel_rfl) (by kernel_rfl) (by kernel_rfl) (ok_impl_shiftedBy_1 h13) hb_impl_shiftedBy_1 (by kernel_rfl) ?_
        refine ds0 (.box (7, 5) 2) (by kernel_rfl) ?_
        refine dsl (.int .i64 x11.2.2) (by kernel_rfl) ?_
        refine ds0 (.agg [(.int .i64 y12), (.int .i64 y13), (.int .i64 x11.2.2)]) (by kernel_rfl) ?_
        refine ds1 (.own (27, 19) (.pair .int (.pair .int .int)) 0 1) (27, 19) (.arr 59 (.pair .int (.pair .int .int)) ([(y12, y13, x11.2.2)])) (by kernel_rfl) ?_
        refine ds2 (.own (0, 20) (.pair .int (.pair .int .int)) 0 ((l5_m5 ++ ([(y12, y13, x11.2.2)])).length)) (0, 1) (0, 20) (.arr 59 (.pair .int (.pair .int .int)) (l5_m5 ++ ([(y12, y13, x11.2.2)]))) (s_appO (t := (.pair .int (.pair .int .int))) (t' := (.pair .int (.pair .int .int))) (xs := l5_m5) (ys := [(y12, y13, x11.2.2)]) (zs := l5_m5 ++ ([(y12, y13, x11.2.2)])) (j := (0, 1)) (len := l5_m5.length) (c := (.own (27, 19) (.pair .int (.pair .int .int)) 0 1)) (by kernel_rfl) (by kernel_rfl) rfl (by kernel_rfl) (sr_own (e := 59) (by kernel_rfl) rfl) rfl g14) ?_
        refine ds0 (.own (0, 20) (.pair .int (.pair .int .int)) 0 ((l5_m5 ++ ([(y12, y13, x11.2.2)])).length)) (by kernel_rfl) ?_
        refine dnil (by kernel_rfl) (bn_ (tn_ ?_))
        obtain ⟨g15, h⟩ := og_some h
        refine awp_region_ 24 (by kernel_rfl) ?_
        refine rs0 (.int .i64 ((l5_m11 + 1 : Nat) : Int)) (s_add1 (j := l5_m11) (by kernel_rfl) (by kernel_rfl) g15) ?_
        refine rs0 (.int .i64 ((l5_m11 + 1 : Nat) : Int)) (by kernel_rfl) ?_
        refine rnil (tn_ ?_)
        obtain rfl := Option.some.inj h
        exact ⟨(l5_m11 + 1, l5_m5 ++ ([(y12, y13, x11.2.2)])), _, (weak_ren (renF [((0, 1), (0, 20))]) (by kernel_rfl) (by kernel_rfl) (by kernel_rfl)), ⟨l5_m11 + 1, l5_m5 ++ ([(y12, y13, x11.2.2)]), rfl, rfl⟩, hn5⟩
      · have q8_ := of_decide_eq_false q8
        refine awp_condF_ q8 (by kernel_rfl) ?_
        refine awp_exit_ (te_ (te_ (be_ (tn_ ?_))))
        obtain rfl := Option.some.inj h
        have h := hn5
        (try dsimp only at h)
        obtain rfl := Option.some.inj h
        exact ⟨_, (weak_ren (renF []) (by kernel_rfl) (by kernel_rfl) (by kernel_rfl)), rfl⟩
  · rintro l3_m5 _ rfl h
    (try dsimp only at h)
    refine awp_seq_ ?_
    refine awp_region_ 4 (by kernel_rfl) ?_
    refine rs0 (.own (0, 1) (.pair .int (.pair .int .int)) 0 l3_m5.length) (by kernel_rfl) ?_
    refine rs0 (.own (0, 1) (.pair .int (.pair .int .int)) 0 l3_m5.length) (by kernel_rfl) ?_
    refine rnil (tn_ ?_)
    refine awp_ret_ ?_
    obtain rfl := Option.some.inj h
    exact ret_ [(.own (0, 1) (.pair .int (.pair .int .int)) 0 l3_m5.length)] (by simp) (by kernel_rfl) (p_one rfl (l_own (by kernel_rfl) rfl) p_nil) (by kernel_rfl) (by kernel_rfl)
def m_impl_mapList_l1 : AC :=
  (.seq (.region [⟨(some 12), none, (.i (.bin .lss (.tmp 11) (.tmp 10)))⟩] false [])
  (.seq (.cond (.tmp 12)
    .skip
    (.exit 0))
  (.seq (.block 1 (.seq (.region [⟨(some 13), none, (.i (.idx 1 (.tmp 9) (.tmp 11)))⟩, ⟨(some 14), none, (.i (.ld true 1 (.tmp 13)))⟩, ⟨(some 7), none, (.i (.mov (.tmp 14)))⟩] false [])
  (.region [⟨(some 15), none, (.i (.mov (.tmp 5)))⟩, ⟨(some 16), none, (.i (.mov (.tmp 1)))⟩, ⟨(some 17), none, (.i (.mov (.tmp 7)))⟩, ⟨(some 18), none, (.call (.tmp 16) [(.tmp 17)] [[]])⟩, ⟨(some 19), none, (.mkS 3 .int [(.tmp 18)])⟩, ⟨(some 20), none, (.append 3 .int 8 (.tmp 15) (.tmp 19))⟩, ⟨(some 5), none, (.i (.mov (.tmp 20)))⟩] false [])))
  (.region [⟨(some 21), none, (.i (.bin .add (.tmp 11) (.cst (.int .i64 1))))⟩, ⟨(some 11), none, (.i (.mov (.tmp 21)))⟩] false []))))
def m_impl_mapList : AC :=
  (.seq (.region [⟨(some 4), none, (.i (.mov (.cst .nils)))⟩] false [])
  (.seq (.region [⟨(some 8), none, (.mkS 3 .int [])⟩, ⟨(some 5), none, (.i (.mov (.tmp 8)))⟩] false [])
  (.seq (.seq (.region [⟨(some 9), none, (.i (.mov (.tmp 0)))⟩, ⟨(some 10), none, (.i (.len (.tmp 9)))⟩, ⟨(some 11), none, (.i (.mov (.cst (.int .i64 0))))⟩] false [])
  (.block 0 (.loop m_impl_mapList_l1)))
  (.seq (.region [⟨(some 22), none, (.i (.mov (.tmp 5)))⟩, ⟨(some 4), none, (.i (.mov (.tmp 22)))⟩] false [])
  .ret))))
def r_impl_mapList : List Res := [.tmp 4]
theorem c_impl_mapList : compiled Tryd.prog Tryd.f72 = some (m_impl_mapList, r_impl_mapList) := by kernel_rfl
theorem hb_impl_mapList : hasBody Tryd.prog 72 = true := by kernel_rfl
def L_impl_mapList_for_impl_shiftedBy_1_l1 (a0 : List Int) (a1_0_0 : Int) (l5_m11 : Nat) (l5_m5 : List Int) : Option (Ctl (Nat × List Int) (List Int)) :=
  cond (decide (((l5_m11 : Nat) : Int) < ((a0.length : Nat) : Int)))
  (Option.bind (a0[l5_m11]?) fun x11 =>
  Option.bind (L_impl_shiftedBy_1 x11 a1_0_0) fun y12 =>
  og (l5_m5.length + 1 ≤ 1073741824 ∧ (l5_m5.length + 1) * 8 ≤ 140737488355328) <|
  og (l5_m11 + 1 < 4611686018427387904) <|
  some (Ctl.next (l5_m11 + 1, l5_m5 ++ ([y12]))))
  (some (Ctl.out l5_m5))
def L_impl_mapList_for_impl_shiftedBy_1 (a0 : List Int) (a1_0_0 : Int) : Option (List Int) :=
  Option.bind (loopM (fun s_ : Nat × List Int => L_impl_mapList_for_impl_shiftedBy_1_l1 a0 a1_0_0 s_.1 s_.2) 4611686018427387904 (0, [])) fun l3_m5 =>
some l3_m5
def rv_impl_mapList_for_impl_shiftedBy_1 (r : List Int) : RV := ⟨false, [(false, [.new 3 .int r])]⟩
theorem ok_impl_mapList_for_impl_shiftedBy_1 {a0 : List Int} {a1_0_0 : Int} {r : List Int} (h : L_impl_mapList_for_impl_shiftedBy_1 a0 a1_0_0 = some r) : CallOK Tryd.prog Tab 72 [(.tree .int a0), (.fn 101 [(.ref [(.int .i64 a1_0_0)])])] (rv_impl_mapList_for_impl_shiftedBy_1 r) := by
  refine call_of_ (by kernel_rfl) Tryd.func72 c_impl_mapList (n := 23) (by kernel_rfl) (by simp) (tl := [(0, (.tree .int a0)), (1, (.fn 101 [(.ref [(.int .i64 a1_0_0)])]))]) rfl ?_
  unfold m_impl_mapList
  unfold L_impl_mapList_for_impl_shiftedBy_1 at h
  refine awp_seq_ ?_
  refine awp_region_ 2 (by kernel_rfl) ?_
  refine rs0 .nils (by kernel_rfl) ?_
  refine rnil (tn_ ?_)
  refine awp_seq_ ?_
  refine awp_region_ 4 (by kernel_rfl) ?_
  refine rs1 (.own (8, 2) .int 0 0) (8, 2) (.arr 3 .int []) (by kernel_rfl) ?_
  refine rs0 (.own (8, 2) .int 0 0) (by kernel_rfl) ?_
  refine rnil (tn_ ?_)
  refine awp_seqB h (fun (l3_m5 : List Int) S_ => S_ = ⟨mkTm [(5, (.own (0, 1) .int 0 l3_m5.length))], mkOb (someL [((0, 1), .arr 3 .int l3_m5)]), 2⟩) ?_ ?_
  · intro v_ h
    refine awp_seq_ ?_
    refine awp_region_ 7 (by kernel_rfl) ?_
    refine rs0 (.tree .int a0) (by kernel_rfl) ?_
    refine rs0 (.int .i64 ((a0.length : Nat) : Int)) (by kernel_rfl) ?_
    refine rs0 (.int .i64 0) (by kernel_rfl) ?_
    refine rnil (tn_ ?_)
    refine awp_block_ ?_
    refine awp_loopL h (fun t_ S_ => ∃ (l5_m11 : Nat), ∃ (l5_m5 : List Int), t_ = (l5_m11, l5_m5) ∧ S_ = ⟨mkTm [(1, (.fn 101 [(.ref [(.int .i64 a1_0_0)])])), (5, (.own (0, 1) .int 0 l5_m5.length)), (9, (.tree .int a0)), (10, (.int .i64 ((a0.length : Nat) : Int))), (11, (.int .i64 ((l5_m11 : Nat) : Int)))], mkOb (someL [((0, 1), .arr 3 .int l5_m5)]), 2⟩) ⟨_, (weak_ren (renF [((0, 1), (8, 2))]) (by kernel_rfl) (by kernel_rfl) (by kernel_rfl)), ⟨0, [], rfl, rfl⟩⟩ ?_
    · rintro n_ _ _ c_ ⟨l5_m11, l5_m5, rfl, rfl⟩ h hn5
      (try dsimp only at h)
      unfold L_impl_mapList_for_impl_shiftedBy_1_l1 at h
      unfold m_impl_mapList_l1
      refine awp_seq_ ?_
      refine awp_region_ 3 (by kernel_rfl) ?_
      refine rs0 (.bool (decide (((l5_m11 : Nat) : Int) < ((a0.length : Nat) : Int)))) (by kernel_rfl) ?_
      refine rnil (tn_ ?_)
      refine awp_seq_ ?_
      rcases cond_some h with ⟨q8, h⟩ | ⟨q8, h⟩
      · have q8_ := of_decide_eq_true q8
        refine awp_condT_ q8 (by kernel_rfl) ?_
        refine awp_skip_ (tn_ ?_)
        refine awp_seq_ ?_
        refine awp_block_ ?_
        refine awp_seq_ ?_
        obtain ⟨x11, e11, h⟩ := ob_some h
        refine awp_region_ 6 (by kernel_rfl) ?_
        refine rs0 (.telt .int x11 0) (s_idxT (t := .int) (xs := a0) (k := .i64) (m := ((l5_m11 : Nat) : Int)) (by kernel_rfl) (by kernel_rfl) rfl (nat_nn _) rfl e11) ?_
        refine rs0 (.int .i64 x11) (by kernel_rfl) ?_
        refine rs0 (.int .i64 x11) (by kernel_rfl) ?_
        refine rnil (tn_ ?_)
        obtain ⟨y12, h12, h⟩ := ob_some h
        obtain ⟨g13, h⟩ := og_some h
        refine awp_region_ 13 (by kernel_rfl) ?_
        refine rs0 (.own (0, 1) .int 0 l5_m5.length) (by kernel_rfl) ?_
        refine rs0 (.fn 101 [(.ref [(.int .i64 a1_0_0)])]) (by kernel_rfl) ?_
        refine rs0 (.int .i64 x11) (by kernel_rfl) ?_
        refine rcall (.int .i64 y12) [] [(.int .i64 x11), (.ref [(.int .i64 a1_0_0)])] _ (caps := [(.ref [(.int .i64 a1_0_0)])]) (args0 := [(.int .i64 x11), (.ref [(.int .i64 a1_0_0)])]) trivial (by kernel_rfl) (by kernel_rfl) (by kernel_rfl) (by kernel_rfl) (ok_impl_shiftedBy_1 h12) hb_impl_shiftedBy_1 (by kernel_rfl) ?_
        refine rs1 (.own (19, 10) .int 0 1) (19, 10) (.arr 3 .int ([y12])) (by kernel_rfl) ?_
        refine rs2 (.own (0, 11) .int 0 ((l5_m5 ++ ([y12])).length)) (0, 1) (0, 11) (.arr 3 .int (l5_m5 ++ ([y12]))) (s_appO (t := .int) (t' := .int) (xs := l5_m5) (ys := [y12]) (zs := l5_m5 ++ ([y12])) (j := (0, 1)) (len := l5_m5.length) (c := (.own (19, 10) .int 0 1)) (by kernel_rfl) (by kernel_rfl) rfl (by kernel_rfl) (sr_own (e := 3) (by kernel_rfl) rfl) rfl g13) ?_
        refine rs0 (.own (0, 11) .int 0 ((l5_m5 ++ ([y12])).length)) (by kernel_rfl) ?_
        refine rnil (bn_ (tn_ ?_))
        obtain ⟨g14, h⟩ := og_some h
        refine awp_region_ 15 (by kernel_rfl) ?_
        refine rs0 (.int .i64 ((l5_m11 + 1 : Nat) : Int)) (s_add1 (j := l5_m11) (by kernel_rfl) (by kernel_rfl) g14) ?_
        refine rs0 (.int .i64 ((l5_m11 + 1 : Nat) : Int)) (by kernel_rfl) ?_
        refine rnil (tn_ ?_)
        obtain rfl := Option.some.inj h
        exact ⟨(l5_m11 + 1, l5_m5 ++ ([y12])), _, (weak_ren (renF [((0, 1), (0, 11))]) (by kernel_rfl) (by kernel_rfl) (by kernel_rfl)), ⟨l5_m11 + 1, l5_m5 ++ ([y12]), rfl, rfl⟩, hn5⟩
      · have q8_ := of_decide_eq_false q8
        refine awp_condF_ q8 (by kernel_rfl) ?_
        refine awp_exit_ (te_ (te_ (be_ (tn_ ?_))))
        obtain rfl := Option.some.inj h
        have h := hn5
        (try dsimp only at h)
        obtain rfl := Option.some.inj h
        exact ⟨_, (weak_ren (renF []) (by kernel_rfl) (by kernel_rfl) (by kernel_rfl)), rfl⟩
  · rintro l3_m5 _ rfl h
    (try dsimp only at h)
    refine awp_seq_ ?_
    refine awp_region_ 4 (by kernel_rfl) ?_
    refine rs0 (.own (0, 1) .int 0 l3_m5.length) (by kernel_rfl) ?_
    refine rs0 (.own (0, 1) .int 0 l3_m5.length) (by kernel_rfl) ?_
    refine rnil (tn_ ?_)
    refine awp_ret_ ?_
    obtain rfl := Option.some.inj h
    exact ret_ [(.own (0, 1) .int 0 l3_m5.length)] (by simp) (by kernel_rfl) (p_one rfl (l_own (by kernel_rfl) rfl) p_nil) (by kernel_rfl) (by kernel_rfl)
def m_impl_joined_l1 : AC :=
  (.seq (.region [⟨(some 10), none, (.i (.bin .lss (.tmp 9) (.tmp 8)))⟩] false [])
  (.seq (.cond (.tmp 10)
    .skip
    (.exit 0))
  (.seq (.block 1 (.seq (.region [⟨(some 11), none, (.i (.idx 1 (.tmp 7) (.tmp 9)))⟩, ⟨(some 12), none, (.i (.ld true 1 (.tmp 11)))⟩, ⟨(some 5), none, (.i (.mov (.tmp 12)))⟩] false [])
  (.region [⟨(some 13), none, (.i (.mov (.tmp 3)))⟩, ⟨(some 14), none, (.i (.mov (.tmp 5)))⟩, ⟨(some 15), none, (.append 3 .int 8 (.tmp 13) (.tmp 14))⟩, ⟨(some 3), none, (.i (.mov (.tmp 15)))⟩] false [])))
  (.region [⟨(some 16), none, (.i (.bin .add (.tmp 9) (.cst (.int .i64 1))))⟩, ⟨(some 9), none, (.i (.mov (.tmp 16)))⟩] false []))))
def m_impl_joined : AC :=
  (.seq (.region [⟨(some 2), none, (.i (.mov (.cst .nils)))⟩] false [])
  (.seq (.region [⟨(some 6), none, (.mkS 3 .int [])⟩, ⟨(some 3), none, (.i (.mov (.tmp 6)))⟩] false [])
  (.seq (.seq (.region [⟨(some 7), none, (.i (.mov (.tmp 0)))⟩, ⟨(some 8), none, (.i (.len (.tmp 7)))⟩, ⟨(some 9), none, (.i (.mov (.cst (.int .i64 0))))⟩] false [])
  (.block 0 (.loop m_impl_joined_l1)))
  (.seq (.region [⟨(some 17), none, (.i (.mov (.tmp 3)))⟩, ⟨(some 2), none, (.i (.mov (.tmp 17)))⟩] false [])
  .ret))))
def r_impl_joined : List Res := [.tmp 2]
theorem c_impl_joined : compiled Tryd.prog Tryd.f71 = some (m_impl_joined, r_impl_joined) := by kernel_rfl
theorem hb_impl_joined : hasBody Tryd.prog 71 = true := by kernel_rfl
def L_impl_joined_l1 (a0 : List (List Int)) (l5_m9 : Nat) (l5_m3 : List Int) : Option (Ctl (Nat × List Int) (List Int)) :=
  cond (decide (((l5_m9 : Nat) : Int) < ((a0.length : Nat) : Int)))
  (Option.bind (a0[l5_m9]?) fun x11 =>
  og (l5_m3.length + x11.length ≤ 1073741824 ∧ (l5_m3.length + x11.length) * 8 ≤ 140737488355328) <|
  og (l5_m9 + 1 < 4611686018427387904) <|
  some (Ctl.next (l5_m9 + 1, l5_m3 ++ x11)))
  (some (Ctl.out l5_m3))
def L_impl_joined (a0 : List (List Int)) : Option (List Int) :=
  Option.bind (loopM (fun s_ : Nat × List Int => L_impl_joined_l1 a0 s_.1 s_.2) 4611686018427387904 (0, [])) fun l3_m3 =>
some l3_m3
def rv_impl_joined (r : List Int) : RV := ⟨false, [(false, [.new 3 .int r])]⟩
theorem ok_impl_joined {a0 : List (List Int)} {r : List Int} (h : L_impl_joined a0 = some r) : CallOK Tryd.prog Tab 71 [(.tree (.slice .int) a0)] (rv_impl_joined r) := by
  refine call_of_ (by kernel_rfl) Tryd.func71 c_impl_joined (n := 18) (by kernel_rfl) (by simp) (tl := [(0, (.tree (.slice .int) a0))]) rfl ?_
  unfold m_impl_joined
  unfold L_impl_joined at h
  refine awp_seq_ ?_
  refine awp_region_ 2 (by kernel_rfl) ?_
  refine rs0 .nils (by kernel_rfl) ?_
  refine rnil (tn_ ?_)
  refine awp_seq_ ?_
  refine awp_region_ 4 (by kernel_rfl) ?_
  refine rs1 (.own (6, 2) .int 0 0) (6, 2) (.arr 3 .int []) (by kernel_rfl) ?_
  refine rs0 (.own (6, 2) .int 0 0) (by kernel_rfl) ?_
  refine rnil (tn_ ?_)
  refine awp_seqB h (fun (l3_m3 : List Int) S_ => S_ = ⟨mkTm [(3, (.own (0, 1) .int 0 l3_m3.length))], mkOb (someL [((0, 1), .arr 3 .int l3_m3)]), 2⟩) ?_ ?_
  · intro v_ h
    refine awp_seq_ ?_
    refine awp_region_ 7 (by kernel_rfl) ?_
    refine rs0 (.tree (.slice .int) a0) (by kernel_rfl) ?_
    refine rs0 (.int .i64 ((a0.length : Nat) : Int)) (by kernel_rfl) ?_
    refine rs0 (.int .i64 0) (by kernel_rfl) ?_
    refine rnil (tn_ ?_)
    refine awp_block_ ?_
    refine awp_loopL h (fun t_ S_ => ∃ (l5_m9 : Nat), ∃ (l5_m3 : List Int), t_ = (l5_m9, l5_m3) ∧ S_ = ⟨mkTm [(3, (.own (0, 1) .int 0 l5_m3.length)), (7, (.tree (.slice .int) a0)), (8, (.int .i64 ((a0.length : Nat) : Int))), (9, (.int .i64 ((l5_m9 : Nat) : Int)))], mkOb (someL [((0, 1), .arr 3 .int l5_m3)]), 2⟩) ⟨_, (weak_ren (renF [((0, 1), (6, 2))]) (by kernel_rfl) (by kernel_rfl) (by kernel_rfl)), ⟨0, [], rfl, rfl⟩⟩ ?_
    · rintro n_ _ _ c_ ⟨l5_m9, l5_m3, rfl, rfl⟩ h hn5
      (try dsimp only at h)
      unfold L_impl_joined_l1 at h
      unfold m_impl_joined_l1
      refine awp_seq_ ?_
      refine awp_region_ 3 (by kernel_rfl) ?_
      refine rs0 (.bool (decide (((l5_m9 : Nat) : Int) < ((a0.length : Nat) : Int)))) (by kernel_rfl) ?_
      refine rnil (tn_ ?_)
      refine awp_seq_ ?_
      rcases cond_some h with ⟨q8, h⟩ | ⟨q8, h⟩
      · have q8_ := of_decide_eq_true q8
        refine awp_condT_ q8 (by kernel_rfl) ?_
        refine awp_skip_ (tn_ ?_)
        refine awp_seq_ ?_
        refine awp_block_ ?_
        refine awp_seq_ ?_
        obtain ⟨x11, e11, h⟩ := ob_some h
        refine awp_region_ 6 (by kernel_rfl) ?_
        refine rs0 (.telt (.slice .int) x11 0) (s_idxT (t := (.slice .int)) (xs := a0) (k := .i64) (m := ((l5_m9 : Nat) : Int)) (by kernel_rfl) (by kernel_rfl) rfl (nat_nn _) rfl e11) ?_
        refine rs0 (.tree .int x11) (by kernel_rfl) ?_
        refine rs0 (.tree .int x11) (by kernel_rfl) ?_
        refine rnil (tn_ ?_)
        obtain ⟨g12, h⟩ := og_some h
        refine awp_region_ 10 (by kernel_rfl) ?_
        refine rs0 (.own (0, 1) .int 0 l5_m3.length) (by kernel_rfl) ?_
        refine rs0 (.tree .int x11) (by kernel_rfl) ?_
        refine rs2 (.own (0, 8) .int 0 ((l5_m3 ++ x11).length)) (0, 1) (0, 8) (.arr 3 .int (l5_m3 ++ x11)) (s_appO (t := .int) (t' := .int) (xs := l5_m3) (ys := x11) (zs := l5_m3 ++ x11) (j := (0, 1)) (len := l5_m3.length) (c := (.tree .int x11)) (by kernel_rfl) (by kernel_rfl) rfl (by kernel_rfl) sr_tree rfl g12) ?_
        refine rs0 (.own (0, 8) .int 0 ((l5_m3 ++ x11).length)) (by kernel_rfl) ?_
        refine rnil (bn_ (tn_ ?_))
        obtain ⟨g13, h⟩ := og_some h
        refine awp_region_ 12 (by kernel_rfl) ?_
        refine rs0 (.int .i64 ((l5_m9 + 1 : Nat) : Int)) (s_add1 (j := l5_m9) (by kernel_rfl) (by kernel_rfl) g13) ?_
        refine rs0 (.int .i64 ((l5_m9 + 1 : Nat) : Int)) (by kernel_rfl) ?_
        refine rnil (tn_ ?_)
        obtain rfl := Option.some.inj h
        exact ⟨(l5_m9 + 1, l5_m3 ++ x11), _, (weak_ren (renF [((0, 1), (0, 8))]) (by kernel_rfl) (by kernel_rfl) (by kernel_rfl)), ⟨l5_m9 + 1, l5_m3 ++ x11, rfl, rfl⟩, hn5⟩
      · have q8_ := of_decide_eq_false q8
        refine awp_condF_ q8 (by kernel_rfl) ?_
        refine awp_exit_ (te_ (te_ (be_ (tn_ ?_))))
        obtain rfl := Option.some.inj h
        have h := hn5
        (try dsimp only at h)
        obtain rfl := Option.some.inj h
        exact ⟨_, (weak_ren (renF []) (by kernel_rfl) (by kernel_rfl) (by kernel_rfl)), rfl⟩
  · rintro l3_m3 _ rfl h
    (try dsimp only at h)
    refine awp_seq_ ?_
    refine awp_region_ 4 (by kernel_rfl) ?_
    refine rs0 (.own (0, 1) .int 0 l3_m3.length) (by kernel_rfl) ?_
    refine rs0 (.own (0, 1) .int 0 l3_m3.length) (by kernel_rfl) ?_
    refine rnil (tn_ ?_)
    refine awp_ret_ ?_
    obtain rfl := Option.some.inj h
    exact ret_ [(.own (0, 1) .int 0 l3_m3.length)] (by simp) (by kernel_rfl) (p_one rfl (l_own (by kernel_rfl) rfl) p_nil) (by kernel_rfl) (by kernel_rfl)
def m_impl_validNetwork : AC :=
  (.seq (.region [⟨(some 3), none, (.i (.box 30 (.tmp 1)))⟩, ⟨(some 4), none, (.i (.alloc 30 [(.int .i64 0), .nils, .nils, .nils]))⟩, ⟨(some 5), none, (.i (.mov (.cst (.bool false))))⟩] false [])
  (.seq (.seq (.region [⟨(some 6), none, (.i (.mov (.tmp 0)))⟩, ⟨(some 7), none, (.i (.ld false 4 (.tmp 3)))⟩, ⟨(some 8), none, (.call (.cst (.fn 44 [])) [(.tmp 6), (.tmp 7)] [[], [none, (some (.pair .int (.pair .int .int))), (some .int), (some .int)]])⟩, ⟨(some 9), none, (.i (.not (.tmp 8)))⟩] false [])
  (.cond (.tmp 9)
    (.seq (.region [⟨(some 10), none, (.build [(.int .i64 0), .nils, .nils, .nils] [])⟩, ⟨none, none, (.st false 4 (.tmp 4) (.tmp 10))⟩, ⟨(some 5), none, (.i (.mov (.cst (.bool false))))⟩] false [])
    .ret)
    .skip))
  (.seq (.region [⟨(some 11), none, (.i (.ld false 4 (.tmp 3)))⟩, ⟨none, none, (.st false 4 (.tmp 4) (.tmp 11))⟩, ⟨(some 5), none, (.i (.mov (.cst (.bool true))))⟩] false [])
  .ret)))
def r_impl_validNetwork : List Res := [.cell 4 false 4, .tmp 5]
theorem c_impl_validNetwork : compiled Tryd.prog Tryd.f69 = some (m_impl_validNetwork, r_impl_validNetwork) := by kernel_rfl
theorem hb_impl_validNetwork : hasBody Tryd.prog 69 = true := by kernel_rfl
def L_impl_validNetwork (a0 : Int) (a1_0 : Int) (a1_1 : List (Int × Int × Int)) (a1_2 : List Int) (a1_3 : List Int) : Option (Sum (Int × Bool) (Int × Bool)) :=
  Option.bind (L_impl_isNetwork a0 a1_0 a1_1 a1_2 a1_3) fun y4 =>
cond (!y4)
  (some (.inl (0, false)))
  (some (.inr (a1_0, true)))
def rv_impl_validNetwork : Sum (Int × Bool) (Int × Bool) → RV
  | .inl r => ⟨true, [(true, [.sc (.int .i64 r.1), .sc .nils, .sc .nils, .sc .nils]), (false, [.sc (.bool r.2)])]⟩
  | .inr r => ⟨true, [(true, [.sc (.int .i64 r.1), .arg 1 (some 1), .arg 1 (some 2), .arg 1 (some 3)]), (false, [.sc (.bool r.2)])]⟩
theorem ok_impl_validNetwork {a0 : Int} {a1_0 : Int} {a1_1 : List (Int × Int × Int)} {a1_2 : List Int} {a1_3 : List Int} {r : Sum (Int × Bool) (Int × Bool)} (h : L_impl_validNetwork a0 a1_0 a1_1 a1_2 a1_3 = some r) : CallOK Tryd.prog Tab 69 [(.int .i64 a0), (.agg [(.int .i64 a1_0), (.tree (.pair .int (.pair .int .int)) a1_1), (.tree .int a1_2), (.tree .int a1_3)])] (rv_impl_validNetwork r) := by
  refine call_of_g_ (by kernel_rfl) Tryd.func69 c_impl_validNetwork (n := 12) (by kernel_rfl) (by simp) ?_
  intro im_ w_ vs_ hvs_
  obtain ⟨u0, _, rfl, _, ⟨_, _, rfl, ⟨_, rfl, ⟨u1_0, _, rfl, _, ⟨u1_1, _, rfl, _, ⟨u1_2, _, rfl, _, ⟨u1_3, _, rfl, _, rfl⟩⟩⟩⟩⟩, rfl⟩⟩ := hvs_
  change awp _ _ _ _ ⟨mkTm [(0, (.int .i64 a0)), (1, (.agg [(.int .i64 a1_0), (.giv u1_1 (.pair .int (.pair .int .int)) a1_1), (.giv u1_2 .int a1_2), (.giv u1_3 .int a1_3)]))], mkOb [], 1⟩
  unfold m_impl_validNetwork
  unfold L_impl_validNetwork at h
  refine awp_seq_ ?_
  refine awp_region_ 4 (by kernel_rfl) ?_
  refine rs1 (.box (3, 1) 0) (3, 1) (.cells 30 [(.int .i64 a1_0), (.giv u1_1 (.pair .int (.pair .int .int)) a1_1), (.giv u1_2 .int a1_2), (.giv u1_3 .int a1_3)]) (by kernel_rfl) ?_
  refine rs1 (.box (4, 2) 0) (4, 2) (.cells 30 [(.int .i64 0), .nils, .nils, .nils]) (by kernel_rfl) ?_
  refine rs0 (.bool false) (by kernel_rfl) ?_
  refine rnil (tn_ ?_)
  refine awp_seq_ ?_
  refine awp_seq_ ?_
  obtain ⟨y4, h4, h⟩ := ob_some h
  refine awp_region_ 8 (by kernel_rfl) ?_
  refine rs0 (.int .i64 a0) (by kernel_rfl) ?_
  refine rsl (.agg [(.int .i64 a1_0), (.giv u1_1 (.pair .int (.pair .int .int)) a1_1), (.giv u1_2 .int a1_2), (.giv u1_3 .int a1_3)]) (by kernel_rfl) ?_
  refine rcall (.bool y4) [] [(.int .i64 a0), (.agg [(.int .i64 a1_0), (.giv u1_1 (.pair .int (.pair .int .int)) a1_1), (.giv u1_2 .int a1_2), (.giv u1_3 .int a1_3)])] _ (caps := []) (args0 := [(.int .i64 a0), (.agg [(.int .i64 a1_0), (.tree (.pair .int (.pair .int .int)) a1_1), (.tree .int a1_2), (.tree .int a1_3)])]) trivial (by kernel_rfl) (by kernel_rfl) (by kernel_rfl) (by kernel_rfl) (ok_impl_isNetwork h4) hb_impl_isNetwork (by kernel_rfl) ?_
  refine rs0 (.bool (!y4)) (by kernel_rfl) ?_
  refine rnil (tn_ ?_)
  rcases cond_some h with ⟨q5, h⟩ | ⟨q5, h⟩
  · refine awp_condT_ q5 (by kernel_rfl) ?_
    refine awp_seq_ ?_
    refine awp_region_ 11 (by kernel_rfl) ?_
    refine rs0 (.agg [(.int .i64 0), .nils, .nils, .nils]) (by kernel_rfl) ?_
    refine rsn2 (4, 2) (4, 2) (.cells 30 [(.int .i64 0), .nils, .nils, .nils]) (by kernel_rfl) ?_
    refine rs0 (.bool false) (by kernel_rfl) ?_
    refine rnil (tn_ ?_)
    refine awp_ret_ (tr_ ?_)
    obtain rfl := Option.some.inj h
    exact ret_ [(.agg [(.int .i64 0), .nils, .nils, .nils]), (.bool false)] (by simp) (by kernel_rfl) (p_agg (l_cons (l_sc (by kernel_rfl)) (l_cons (l_sc (by kernel_rfl)) (l_cons (l_sc (by kernel_rfl)) (l_cons (l_sc (by kernel_rfl)) l_nil)))) (p_one rfl (l_sc (by kernel_rfl)) p_nil)) (by kernel_rfl) (by kernel_rfl)
  · refine awp_condF_ q5 (by kernel_rfl) ?_
    refine awp_skip_ (tn_ ?_)
    refine awp_seq_ ?_
    refine awp_region_ 11 (by kernel_rfl) ?_
    refine rsl (.agg [(.int .i64 a1_0), (.giv u1_1 (.pair .int (.pair .int .int)) a1_1), (.giv u1_2 .int a1_2), (.giv u1_3 .int a1_3)]) (by kernel_rfl) ?_
    refine rsn2 (4, 2) (4, 2) (.cells 30 [(.int .i64 a1_0), (.giv u1_1 (.pair .int (.pair .int .int)) a1_1), (.giv u1_2 .int a1_2), (.giv u1_3 .int a1_3)]) (by kernel_rfl) ?_
    refine rs0 (.bool true) (by kernel_rfl) ?_
    refine rnil (tn_ ?_)
    refine awp_ret_ ?_
    obtain rfl := Option.some.inj h
    exact ret_ [(.agg [(.int .i64 a1_0), (.giv u1_1 (.pair .int (.pair .int .int)) a1_1), (.giv u1_2 .int a1_2), (.giv u1_3 .int a1_3)]), (.bool true)] (by simp) (by kernel_rfl) (p_agg (l_cons (l_sc (by kernel_rfl)) (l_cons (l_arg rfl) (l_cons (l_arg rfl) (l_cons (l_arg rfl) l_nil)))) (p_one rfl (l_sc (by kernel_rfl)) p_nil)) (by kernel_rfl) (by kernel_rfl)
def m_impl_BesideNetworks : AC :=
  (.seq (.region [⟨(some 4), none, (.i (.box 30 (.tmp 1)))⟩, ⟨(some 5), none, (.i (.box 30 (.tmp 2)))⟩, ⟨(some 6), none, (.i (.alloc 30 [(.int .i64 0), .nils, .nils, .nils]))⟩, ⟨(some 7), none, (.i (.mov (.cst (.bool false))))⟩] false [])
  (.seq (.seq (.region [⟨(some 9), none, (.i (.mov (.tmp 0)))⟩, ⟨(some 10), none, (.i (.ld false 4 (.tmp 4)))⟩, ⟨(some 11), none, (.call (.cst (.fn 44 [])) [(.tmp 9), (.tmp 10)] [[], [none, (some (.pair .int (.pair .int .int))), (some .int), (some .int)]])⟩, ⟨(some 12), none, (.i (.not (.tmp 11)))⟩, ⟨(some 13), none, (.i (.mov (.tmp 12)))⟩, ⟨(some 14), (some (13, false)), (.i (.mov (.tmp 0)))⟩, ⟨(some 15), (some (13, false)), (.i (.ld false 4 (.tmp 5)))⟩, ⟨(some 16), (some (13, false)), (.call (.cst (.fn 44 [])) [(.tmp 14), (.tmp 15)] [[], [none, (some (.pair .int (.pair .int .int))), (some .int), (some .int)]])⟩, ⟨(some 17), (some (13, false)), (.i (.not (.tmp 16)))⟩, ⟨(some 18), none, (.i (.pick (.tmp 13) (.cst (.bool true)) (.tmp 17)))⟩] false [])
  (.cond (.tmp 18)
    (.seq (.region [⟨(some 19), none, (.build [(.int .i64 0), .nils, .nils, .nils] [])⟩, ⟨none, none, (.st false 4 (.tmp 6) (.tmp 19))⟩, ⟨(some 7), none, (.i (.mov (.cst (.bool false))))⟩] false [])
    .ret)
    .skip))
  (.seq (.region [⟨(some 20), none, (.i (.fld 0 (.tmp 4)))⟩, ⟨(some 21), none, (.i (.ld true 1 (.tmp 20)))⟩, ⟨(some 22), none, (.call (.cst (.fn 68 [])) [(.tmp 21)] [[]])⟩, ⟨(some 8), none, (.i (.mov (.tmp 22)))⟩] false [])
  (.seq (.region [⟨(some 23), none, (.i (.mov (.tmp 0)))⟩, ⟨(some 24), none, (.i (.fld 0 (.tmp 4)))⟩, ⟨(some 25), none, (.i (.ld true 1 (.tmp 24)))⟩, ⟨(some 26), none, (.i (.fld 0 (.tmp 5)))⟩, ⟨(some 27), none, (.i (.ld true 1 (.tmp 26)))⟩, ⟨(some 28), none, (.i (.bin .add (.tmp 25) (.tmp 27)))⟩, ⟨(some 29), none, (.i (.fld 1 (.tmp 4)))⟩, ⟨(some 30), none, (.i (.ld true 1 (.tmp 29)))⟩, ⟨(some 31), none, (.call (.cst (.fn 53 [])) [(.tmp 30)] [[(some (.pair .int (.pair .int .int)))]])⟩, ⟨(some 32), none, (.i (.fld 1 (.tmp 5)))⟩, ⟨(some 33), none, (.i (.ld true 1 (.tmp 32)))⟩, ⟨(some 34), none, (.i (.mov (.tmp 8)))⟩, ⟨(some 35), none, (.call (.cst (.fn 70 [])) [(.tmp 33), (.tmp 34)] [[(some (.pair .int (.pair .int .int)))], []])⟩, ⟨(some 36), none, (.append 59 (.pair .int (.pair .int .int)) 24 (.tmp 31) (.tmp 35))⟩, ⟨(some 37), none, (.i (.fld 2 (.tmp 4)))⟩, ⟨(some 38), none, (.i (.ld true 1 (.tmp 37)))⟩, ⟨(some 39), none, (.i (.fld 2 (.tmp 5)))⟩, ⟨(some 40), none, (.i (.ld true 1 (.tmp 39)))⟩, ⟨(some 41), none, (.i (.mov (.tmp 8)))⟩, ⟨(some 42), none, (.call (.cst (.fn 72 [])) [(.tmp 40), (.tmp 41)] [[(some .int)], []])⟩, ⟨(some 43), none, (.mkT .int [(.tmp 38), (.tmp 42)])⟩, ⟨(some 44), none, (.call (.cst (.fn 71 [])) [(.tmp 43)] [[(some (.slice .int))]])⟩, ⟨(some 45), none, (.i (.fld 3 (.tmp 4)))⟩, ⟨(some 46), none, (.i (.ld true 1 (.tmp 45)))⟩, ⟨(some 47), none, (.i (.fld 3 (.tmp 5)))⟩, ⟨(some 48), none, (.i (.ld true 1 (.tmp 47)))⟩, ⟨(some 49), none, (.i (.mov (.tmp 8)))⟩, ⟨(some 50), none, (.call (.cst (.fn 72 [])) [(.tmp 48), (.tmp 49)] [[(some .int)], []])⟩, ⟨(some 51), none, (.mkT .int [(.tmp 46), (.tmp 50)])⟩, ⟨(some 52), none, (.call (.cst (.fn 71 [])) [(.tmp 51)] [[(some (.slice .int))]])⟩, ⟨(some 53), none, (.build [(.int .i64 0), .nils, .nils, .nils] [(0, 1, (.tmp 28)), (1, 1, (.tmp 36)), (2, 1, (.tmp 44)), (3, 1, (.tmp 52))])⟩, ⟨(some 54), none, (.call (.cst (.fn 69 [])) [(.tmp 23), (.tmp 53)] [[], [none, (some (.pair .int (.pair .int .int))), (some .int), (some .int)]])⟩, ⟨(some 55), none, (.i (.extr 0 (.tmp 54)))⟩, ⟨(some 56), none, (.i (.extr 1 (.tmp 54)))⟩, ⟨none, none, (.st false 4 (.tmp 6) (.tmp 55))⟩, ⟨(some 7), none, (.i (.mov (.tmp 56)))⟩] true [(2, 8), (4, 8), (8, 10), (2, 12), (4, 12), (2, 13), (4, 13), (8, 15), (12, 15), (13, 15), (8, 17), (12, 17), (13, 17), (2, 19), (4, 19), (15, 19), (2, 20), (4, 20), (2, 21), (4, 21), (8, 23), (12, 23), (13, 23), (19, 23), (20, 23), (21, 23), (8, 25), (12, 25), (13, 25), (19, 25), (20, 25), (21, 25), (2, 27), (4, 27), (23, 27), (2, 28), (4, 28), (2, 29), (4, 29)])
  .ret))))
def r_impl_BesideNetworks : List Res := [.cell 6 false 4, .tmp 7]
theorem c_impl_BesideNetworks : compiled Tryd.prog Tryd.f33 = some (m_impl_BesideNetworks, r_impl_BesideNetworks) := by kernel_rfl
theorem hb_impl_BesideNetworks : hasBody Tryd.prog 33 = true := by kernel_rfl
def L_impl_BesideNetworks (a0 : Int) (a1_0 : Int) (a1_1 : List (Int × Int × Int)) (a1_2 : List Int) (a1_3 : List Int) (a2_0 : Int) (a2_1 : List (Int × Int × Int)) (a2_2 : List Int) (a2_3 : List Int) : Option (Int × (List (Int × Int × Int)) × List Int × List Int × Bool) :=
  Option.bind (Option.bind (L_impl_isNetwork a0 a1_0 a1_1 a1_2 a1_3) fun y4 =>
  cond (!y4)
    (some true)
    (Option.bind (L_impl_isNetwork a0 a2_0 a2_1 a2_2 a2_3) fun y6 =>
    some (!y6))) fun l3_m18 =>
cond l3_m18
  (some (0, [], [], [], false))
  (Option.bind (L_impl_shiftedBy a1_0) fun y10 =>
  Option.bind (Option.bind (L_slices_Clone_impl_Branch_impl_Branch a1_1) fun y12 =>
    Option.bind (L_impl_movedBranches_for_impl_shiftedBy_1 a2_1 y10) fun y13 =>
    og (y12.length + y13.length ≤ 1073741824 ∧ (y12.length + y13.length) * 24 ≤ 140737488355328) <|
    Option.bind (L_impl_mapList_for_impl_shiftedBy_1 a2_2 y10) fun y15 =>
    Option.bind (L_impl_joined ([a1_2, y15])) fun y16 =>
    Option.bind (L_impl_mapList_for_impl_shiftedBy_1 a2_3 y10) fun y17 =>
    Option.bind (L_impl_joined ([a1_3, y17])) fun y18 =>
    Option.bind (L_impl_validNetwork a0 (IntKind.i64.wrap (a1_0 + a2_0)) (y12 ++ y13) y16 y18) fun y19 =>
    (Sum.elim (fun z19_0 =>
    some (z19_0.2, z19_0.1, [], [], [])) (fun z19_1 =>
    some (z19_1.2, z19_1.1, y12 ++ y13, y16, y18))) y19) fun (l11_m7, l11_m6_0, l11_m6_1, l11_m6_2, l11_m6_3) =>
  some (l11_m6_0, l11_m6_1, l11_m6_2, l11_m6_3, l11_m7))
def rv_impl_BesideNetworks (r : Int × (List (Int × Int × Int)) × List Int × List Int × Bool) : RV := ⟨true, [(true, [.sc (.int .i64 r.1), .new 59 (.pair .int (.pair .int .int)) r.2.1, .new 3 .int r.2.2.1, .new 3 .int r.2.2.2.1]), (false, [.sc (.bool r.2.2.2.2)])]⟩
theorem ok_impl_BesideNetworks {a0 : Int} {a1_0 : Int} {a1_1 : List (Int × Int × Int)} {a1_2 : List Int} {a1_3 : List Int} {a2_0 : Int} {a2_1 : List (Int × Int × Int)} {a2_2 : List Int} {a2_3 : List Int} {r : Int × (List (Int × Int × Int)) × List Int × List Int × Bool} (h : L_impl_BesideNetworks a0 a1_0 a1_1 a1_2 a1_3 a2_0 a2_1 a2_2 a2_3 = some r) : CallOK Tryd.prog Tab 33 [(.int .i64 a0), (.agg [(.int .i64 a1_0), (.tree (.pair .int (.pair .int .int)) a1_1), (.tree .int a1_2), (.tree .int a1_3)]), (.agg [(.int .i64 a2_0), (.tree (.pair .int (.pair .int .int)) a2_1), (.tree .int a2_2), (.tree .int a2_3)])] (rv_impl_BesideNetworks r) := by
  refine call_of_ (by kernel_rfl) Tryd.func33 c_impl_BesideNetworks (n := 57) (by kernel_rfl) (by simp) (tl := [(0, (.int .i64 a0)), (1, (.agg [(.int .i64 a1_0), (.tree (.pair .int (.pair .int .int)) a1_1), (.tree .int a1_2), (.tree .int a1_3)])), (2, (.agg [(.int .i64 a2_0), (.tree (.pair .int (.pair .int .int)) a2_1), (.tree .int a2_2), (.tree .int a2_3)]))]) rfl ?_
  unfold m_impl_BesideNetworks
  unfold L_impl_BesideNetworks at h
  refine awp_seq_ ?_
  refine awp_region_ 5 (by kernel_rfl) ?_
  refine rs1 (.box (4, 1) 0) (4, 1) (.cells 30 [(.int .i64 a1_0), (.tree (.pair .int (.pair .int .int)) a1_1), (.tree .int a1_2), (.tree .int a1_3)]) (by kernel_rfl) ?_
  refine rs1 (.box (5, 2) 0) (5, 2) (.cells 30 [(.int .i64 a2_0), (.tree (.pair .int (.pair .int .int)) a2_1), (.tree .int a2_2), (.tree .int a2_3)]) (by kernel_rfl) ?_
  refine rs1 (.box (6, 3) 0) (6, 3) (.cells 30 [(.int .i64 0), .nils, .nils, .nils]) (by kernel_rfl) ?_
  refine rs0 (.bool false) (by kernel_rfl) ?_
  refine rnil (tn_ ?_)
  refine awp_seq_ ?_
  refine awp_seqB h (fun (l3_m18 : Bool) S_ => S_ = ⟨mkTm [(0, (.int .i64 a0)), (4, (.box (0, 1) 0)), (5, (.box (1, 1) 0)), (6, (.box (2, 1) 0)), (18, (.bool l3_m18))], mkOb (someL [((0, 1), .cells 30 [(.int .i64 a1_0), (.tree (.pair .int (.pair .int .int)) a1_1), (.tree .int a1_2), (.tree .int a1_3)]), ((1, 1), .cells 30 [(.int .i64 a2_0), (.tree (.pair .int (.pair .int .int)) a2_1), (.tree .int a2_2), (.tree .int a2_3)]), ((2, 1), .cells 30 [(.int .i64 0), .nils, .nils, .nils])]), 2⟩) ?_ ?_
  · intro v_ h
    obtain ⟨y4, h4, h⟩ := ob_some h
    rcases cond_some h with ⟨q5, h⟩ | ⟨q5, h⟩
    · refine awp_region_ 15 (by kernel_rfl) ?_
      refine rs0 (.int .i64 a0) (by kernel_rfl) ?_
      refine rsl (.agg [(.int .i64 a1_0), (.tree (.pair .int (.pair .int .int)) a1_1), (.tree .int a1_2), (.tree .int a1_3)]) (by kernel_rfl) ?_
      refine rcall (.bool y4) [] [(.int .i64 a0), (.agg [(.int .i64 a1_0), (.tree (.pair .int (.pair .int .int)) a1_1), (.tree .int a1_2), (.tree .int a1_3)])] _ (caps := []) (args0 := [(.int .i64 a0), (.agg [(.int .i64 a1_0), (.tree (.pair .int (.pair .int .int)) a1_1), (.tree .int a1_2), (.tree .int a1_3)])]) trivial (by kernel_rfl) (by kernel_rfl) (by kernel_rfl) (by kernel_rfl) (ok_impl_isNetwork h4) hb_impl_isNetwork (by kernel_rfl) ?_
      refine rs0 (.bool (!y4)) (by kernel_rfl) ?_
      refine rs0 (.bool (!y4)) (by kernel_rfl) ?_
      refine rs0 .any (s_skip (by kernel_rfl) q5) ?_
      refine rs0 .any (s_skip (by kernel_rfl) q5) ?_
      refine rs0 .any (s_skip (by kernel_rfl) q5) ?_
      refine rs0 .any (s_skip (by kernel_rfl) q5) ?_
      refine rs0 (.bool true) (s_pickT (by kernel_rfl) q5) ?_
      refine rnil (tn_ ?_)
      obtain rfl := Option.some.inj h
      exact ⟨_, (weak_ren (renF [((0, 1), (4, 1)), ((1, 1), (5, 2)), ((2, 1), (6, 3))]) (by kernel_rfl) (by kernel_rfl) (by kernel_rfl)), rfl⟩
    · obtain ⟨y6, h6, h⟩ := ob_some h
      refine awp_region_ 15 (by kernel_rfl) ?_
      refine rs0 (.int .i64 a0) (by kernel_rfl) ?_
      refine rsl (.agg [(.int .i64 a1_0), (.tree (.pair .int (.pair .int .int)) a1_1), (.tree .int a1_2), (.tree .int a1_3)]) (by kernel_rfl) ?_
      refine rcall (.bool y4) [] [(.int .i64 a0), (.agg [(.int .i64 a1_0), (.tree (.pair .int (.pair .int .int)) a1_1), (.tree .int a1_2), (.tree .int a1_3)])] _ (caps := []) (args0 := [(.int .i64 a0), (.agg [(.int .i64 a1_0), (.tree (.pair .int (.pair .int .int)) a1_1), (.tree .int a1_2), (.tree .int a1_3)])]) trivial (by kernel_rfl) (by kernel_rfl) (by kernel_rfl) (by kernel_rfl) (ok_impl_isNetwork h4) hb_impl_isNetwork (by kernel_rfl) ?_
      refine rs0 (.bool (!y4)) (by kernel_rfl) ?_
      refine rs0 (.bool (!y4)) (by kernel_rfl) ?_
      refine rs0 (.int .i64 a0) (s_gd (by kernel_rfl) q5 (by kernel_rfl)) ?_
      refine rsl (.agg [(.int .i64 a2_0), (.tree (.pair .int (.pair .int .int)) a2_1), (.tree .int a2_2), (.tree .int a2_3)]) (s_gd (by kernel_rfl) q5 (by kernel_rfl)) ?_
      refine rcall (.bool y6) [] [(.int .i64 a0), (.agg [(.int .i64 a2_0), (.tree (.pair .int (.pair .int .int)) a2_1), (.tree .int a2_2), (.tree .int a2_3)])] _ (caps := []) (args0 := [(.int .i64 a0), (.agg [(.int .i64 a2_0), (.tree (.pair .int (.pair .int .int)) a2_1), (.tree .int a2_2), (.tree .int a2_3)])]) (gdOK_b (by kernel_rfl) q5) (by kernel_rfl) (by kernel_rfl) (by kernel_rfl) (by kernel_rfl) (ok_impl_isNetwork h6) hb_impl_isNetwork (by kernel_rfl) ?_
      refine rs0 (.bool (!y6)) (s_gd (by kernel_rfl) q5 (by kernel_rfl)) ?_
      refine rs0 (.bool (!y6)) (s_pickF (by kernel_rfl) q5) ?_
      refine rnil (tn_ ?_)
      obtain rfl := Option.some.inj h
      exact ⟨_, (weak_ren (renF [((0, 1), (4, 1)), ((1, 1), (5, 2)), ((2, 1), (6, 3))]) (by kernel_rfl) (by kernel_rfl) (by kernel_rfl)), rfl⟩
  · rintro l3_m18 _ rfl h
    (try dsimp only at h)
    rcases cond_some h with ⟨q7, h⟩ | ⟨q7, h⟩
    · refine awp_condT_ q7 (by kernel_rfl) ?_
      refine awp_seq_ ?_
      refine awp_region_ 5 (by kernel_rfl) ?_
      refine rs0 (.agg [(.int .i64 0), .nils, .nils, .nils]) (by kernel_rfl) ?_
      refine rsn2 (2, 1) (2, 1) (.cells 30 [(.int .i64 0), .nils, .nils, .nils]) (by kernel_rfl) ?_
      refine rs0 (.bool false) (by kernel_rfl) ?_
      refine rnil (tn_ ?_)
      refine awp_ret_ (tr_ ?_)
      obtain rfl := Option.some.inj h
      exact ret_ [(.agg [(.int .i64 0), .nils, .nils, .nils]), (.bool false)] (by simp) (by kernel_rfl) (p_agg (l_cons (l_sc (by kernel_rfl)) (l_cons (l_nils rfl) (l_cons (l_nils rfl) (l_cons (l_nils rfl) l_nil)))) (p_one rfl (l_sc (by kernel_rfl)) p_nil)) (by kernel_rfl) (by kernel_rfl)
    · refine awp_condF_ q7 (by kernel_rfl) ?_
      refine awp_skip_ (tn_ ?_)
      refine awp_seq_ ?_
      obtain ⟨y10, h10, h⟩ := ob_some h
      refine awp_region_ 6 (by kernel_rfl) ?_
      refine rs0 (.box (0, 1) 0) (by kernel_rfl) ?_
      refine rsl (.int .i64 a1_0) (by kernel_rfl) ?_
      refine rcall (.fn 101 [(.ref [(.int .i64 y10)])]) [] [(.int .i64 a1_0)] _ (caps := []) (args0 := [(.int .i64 a1_0)]) trivial (by kernel_rfl) (by kernel_rfl) (by kernel_rfl) (by kernel_rfl) (ok_impl_shiftedBy h10) hb_impl_shiftedBy (by kernel_rfl) ?_
      refine rs0 (.fn 101 [(.ref [(.int .i64 y10)])]) (by kernel_rfl) ?_
      refine rnil (tn_ ?_)
      refine awp_seqB h (fun t_ S_ => ∃ (l11_m7 : Bool), ∃ (l11_m6_0 : Int), ∃ (l11_m6_1 : List (Int × Int × Int)), ∃ (l11_m6_2 : List Int), ∃ (l11_m6_3 : List Int), t_ = (l11_m7, l11_m6_0, l11_m6_1, l11_m6_2, l11_m6_3) ∧ S_ = ⟨mkTm [(6, (.box (0, 1) 0)), (7, (.bool l11_m7))], mkOb (someL [((0, 1), .cells 30 [(.int .i64 l11_m6_0), (.own (1, 1) (.pair .int (.pair .int .int)) 0 l11_m6_1.length), (.own (2, 1) .int 0 l11_m6_2.length), (.own (3, 1) .int 0 l11_m6_3.length)]), ((1, 1), .arr 59 (.pair .int (.pair .int .int)) l11_m6_1), ((2, 1), .arr 3 .int l11_m6_2), ((3, 1), .arr 3 .int l11_m6_3)]), 2⟩) ?_ ?_
      · intro v_ h
        obtain ⟨y12, h12, h⟩ := ob_some h
        obtain ⟨y13, h13, h⟩ := ob_some h
        obtain ⟨g14, h⟩ := og_some h
        obtain ⟨y15, h15, h⟩ := ob_some h
        obtain ⟨y16, h16, h⟩ := ob_some h
        obtain ⟨y17, h17, h⟩ := ob_some h
        obtain ⟨y18, h18, h⟩ := ob_some h
        obtain ⟨y19, h19, h⟩ := ob_some h
        rcases y19 with z19_0 | z19_1
        · (try simp only [Sum.elim_inl, Sum.elim_inr] at h)
          refine awp_regionD_ 42 (by kernel_rfl) ?_
          refine ds0 (.int .i64 a0) (by kernel_rfl) ?_
          refine ds0 (.box (0, 1) 0) (by kernel_rfl) ?_
          refine dsl (.int .i64 a1_0) (by kernel_rfl) ?_
          refine ds0 (.box (1, 1) 0) (by kernel_rfl) ?_
          refine dsl (.int .i64 a2_0) (by kernel_rfl) ?_
          refine ds0 (.int .i64 (IntKind.i64.wrap (a1_0 + a2_0))) (by kernel_rfl) ?_
          refine ds0 (.box (0, 1) 1) (by kernel_rfl) ?_
          refine dsl (.tree (.pair .int (.pair .int .int)) a1_1) (by kernel_rfl) ?_
          refine dcall (.own (496, 14) (.pair .int (.pair .int .int)) 0 y12.length) [((496, 14), some (.arr 59 (.pair .int (.pair .int .int)) y12))] [(.tree (.pair .int (.pair .int .int)) a1_1)] _ (caps := []) (args0 := [(.tree (.pair .int (.pair .int .int)) a1_1)]) trivial (by kernel_rfl) (by kernel_rfl) (by kernel_rfl) (by kernel_rfl) (ok_slices_Clone_impl_Branch_impl_Branch h12) hb_slices_Clone_impl_Branch_impl_Branch (by kernel_rfl) ?_
          refine ds0 (.box (1, 1) 1) (by kernel_rfl) ?_
          refine dsl (.tree (.pair .int (.pair .int .int)) a2_1) (by kernel_rfl) ?_
          refine ds0 (.fn 101 [(.ref [(.int .i64 y10)])]) (by kernel_rfl) ?_
          refine dcall (.own (560, 18) (.pair .int (.pair .int .int)) 0 y13.length) [((560, 18), some (.arr 59 (.pair .int (.pair .int .int)) y13))] [(.tree (.pair .int (.pair .int .int)) a2_1), (.fn 101 [(.ref [(.int .i64 y10)])])] _ (caps := []) (args0 := [(.tree (.pair .int (.pair .int .int)) a2_1), (.fn 101 [(.ref [(.int .i64 y10)])])]) trivial (by kernel_rfl) (by kernel_rfl) (by kernel_rfl) (by kernel_rfl) (ok_impl_movedBranches_for_impl_shiftedBy_1 h13) hb_impl_movedBranches (by kernel_rfl) ?_
          refine ds2 (.own (496, 19) (.pair .int (.pair .int .int)) 0 ((y12 ++ y13).length)) (496, 14) (496, 19) (.arr 59 (.pair .int (.pair .int .int)) (y12 ++ y13)) (s_appO (t := (.pair .int (.pair .int .int))) (t' := (.pair .int (.pair .int .int))) (xs := y12) (ys := y13) (zs := y12 ++ y13) (j := (496, 14)) (len := y12.length) (c := (.own (560, 18) (.pair .int (.pair .int .int)) 0 y13.length)) (by kernel_rfl) (by kernel_rfl) rfl (by kernel_rfl) (sr_own (e := 59) (by kernel_rfl) rfl) rfl g14) ?_
          refine ds0 (.box (0, 1) 2) (by kernel_rfl) ?_
          refine dsl (.tree .int a1_2) (by kernel_rfl) ?_
          refine ds0 (.box (1, 1) 2) (by kernel_rfl) ?_
          refine dsl (.tree .int a2_2) (by kernel_rfl) ?_
          refine ds0 (.fn 101 [(.ref [(.int .i64 y10)])]) (by kernel_rfl) ?_
          refine dcall (.own (672, 25) .int 0 y15.length) [((672, 25), some (.arr 3 .int y15))] [(.tree .int a2_2), (.fn 101 [(.ref [(.int .i64 y10)])])] _ (caps := []) (args0 := [(.tree .int a2_2), (.fn 101 [(.ref [(.int .i64 y10)])])]) trivial (by kernel_rfl) (by kernel_rfl) (by kernel_rfl) (by kernel_rfl) (ok_impl_mapList_for_impl_shiftedBy_1 h15) hb_impl_mapList (by kernel_rfl) ?_
          refine dsU (.tree (.slice .int) ([a1_2, y15])) [((672, 25), none)] (s_mkT (t := .int) (yss := [a1_2, y15]) (srl_cons (t := .int) (c := (.tree .int a1_2)) (ys := a1_2) (by kernel_rfl) sr_tree (srl_cons (t := .int) (c := (.own (672, 25) .int 0 y15.length)) (ys := y15) (by kernel_rfl) (sr_own (e := 3) (by kernel_rfl) rfl) srl_nil)) (by kernel_rfl)) ?_
          refine dcall (.own (704, 27) .int 0 y16.length) [((704, 27), some (.arr 3 .int y16))] [(.tree (.slice .int) ([a1_2, y15]))] _ (caps := []) (args0 := [(.tree (.slice .int) ([a1_2, y15]))]) trivial (by kernel_rfl) (by kernel_rfl) (by kernel_rfl) (by kernel_rfl) (ok_impl_joined h16) hb_impl_joined (by kernel_rfl) ?_
          refine ds0 (.box (0, 1) 3) (by kernel_rfl) ?_
          refine dsl (.tree .int a1_3) (by kernel_rfl) ?_
          refine ds0 (.box (1, 1) 3) (by kernel_rfl) ?_
          refine dsl (.tree .int a2_3) (by kernel_rfl) ?_
          refine ds0 (.fn 101 [(.ref [(.int .i64 y10)])]) (by kernel_rfl) ?_
          refine dcall (.own (800, 33) .int 0 y17.length) [((800, 33), some (.arr 3 .int y17))] [(.tree .int a2_3), (.fn 101 [(.ref [(.int .i64 y10)])])] _ (caps := []) (args0 := [(.tree .int a2_3), (.fn 101 [(.ref [(.int .i64 y10)])])]) trivial (by kernel_rfl) (by kernel_rfl) (by kernel_rfl) (by kernel_rfl) (ok_impl_mapList_for_impl_shiftedBy_1 h17) hb_impl_mapList (by kernel_rfl) ?_
          refine dsU (.tree (.slice .int) ([a1_3, y17])) [((800, 33), none)] (s_mkT (t := .int) (yss := [a1_3, y17]) (srl_cons (t := .int) (c := (.tree .int a1_3)) (ys := a1_3) (by kernel_rfl) sr_tree (srl_cons (t := .int) (c := (.own (800, 33) .int 0 y17.length)) (ys := y17) (by kernel_rfl) (sr_own (e := 3) (by kernel_rfl) rfl) srl_nil)) (by kernel_rfl)) ?_
          refine dcall (.own (832, 35) .int 0 y18.length) [((832, 35), some (.arr 3 .int y18))] [(.tree (.slice .int) ([a1_3, y17]))] _ (caps := []) (args0 := [(.tree (.slice .int) ([a1_3, y17]))]) trivial (by kernel_rfl) (by kernel_rfl) (by kernel_rfl) (by kernel_rfl) (ok_impl_joined h18) hb_impl_joined (by kernel_rfl) ?_
          refine ds0 (.agg [(.int .i64 (IntKind.i64.wrap (a1_0 + a2_0))), (.own (496, 19) (.pair .int (.pair .int .int)) 0 ((y12 ++ y13).length)), (.own (704, 27) .int 0 y16.length), (.own (832, 35) .int 0 y18.length)]) (by kernel_rfl) ?_
          refine dcall (.tup [(.agg [(.int .i64 z19_0.1), .nils, .nils, .nils]), (.bool z19_0.2)]) [] [(.int .i64 a0), (.agg [(.int .i64 (IntKind.i64.wrap (a1_0 + a2_0))), (.own (496, 19) (.pair .int (.pair .int .int)) 0 ((y12 ++ y13).length)), (.own (704, 27) .int 0 y16.length), (.own (832, 35) .int 0 y18.length)])] _ (caps := []) (args0 := [(.int .i64 a0), (.agg [(.int .i64 (IntKind.i64.wrap (a1_0 + a2_0))), (.tree (.pair .int (.pair .int .int)) (y12 ++ y13)), (.tree .int y16), (.tree .int y18)])]) trivial (by kernel_rfl) (by kernel_rfl) (gm_cons (by kernel_rfl) (gm_cons (gd_agg (gm_cons (by kernel_rfl) (gm_cons (gd_own (e := 59) (by kernel_rfl) rfl) (gm_cons (gd_own (e := 3) (by kernel_rfl) rfl) (gm_cons (gd_own (e := 3) (by kernel_rfl) rfl) gm_nil))))) gm_nil)) (by kernel_rfl) (ok_impl_validNetwork h19) hb_impl_validNetwork (by kernel_rfl) ?_
          refine ds0 (.agg [(.int .i64 z19_0.1), .nils, .nils, .nils]) (by kernel_rfl) ?_
          refine ds0 (.bool z19_0.2) (by kernel_rfl) ?_
          refine dsn2 (2, 1) (2, 1) (.cells 30 [(.int .i64 z19_0.1), .nils, .nils, .nils]) (by kernel_rfl) ?_
          refine ds0 (.bool z19_0.2) (by kernel_rfl) ?_
          refine dnil (by kernel_rfl) (tn_ ?_)
          obtain rfl := Option.some.inj h
          exact ⟨_, ((weak_nil_cell_ 9000 (2, 1) 1 30 [(.int .i64 z19_0.1), .nils, .nils, .nils] [(.int .i64 z19_0.1), (.own (9000, 42) (.pair .int (.pair .int .int)) 0 0), .nils, .nils] 59 (.pair .int (.pair .int .int)) rfl (by kernel_rfl) (by kernel_rfl) (by kernel_rfl)).trans ((weak_nil_cell_ 9001 (2, 1) 2 30 [(.int .i64 z19_0.1), (.own (9000, 42) (.pair .int (.pair .int .int)) 0 0), .nils, .nils] [(.int .i64 z19_0.1), (.own (9000, 42) (.pair .int (.pair .int .int)) 0 0), (.own (9001, 43) .int 0 0), .nils] 3 .int rfl (by kernel_rfl) (by kernel_rfl) (by kernel_rfl)).trans ((weak_nil_cell_ 9002 (2, 1) 3 30 [(.int .i64 z19_0.1), (.own (9000, 42) (.pair .int (.pair .int .int)) 0 0), (.own (9001, 43) .int 0 0), .nils] [(.int .i64 z19_0.1), (.own (9000, 42) (.pair .int (.pair .int .int)) 0 0), (.own (9001, 43) .int 0 0), (.own (9002, 44) .int 0 0)] 3 .int rfl (by kernel_rfl) (by kernel_rfl) (by kernel_rfl)).trans (weak_ren (renF [((0, 1), (2, 1)), ((1, 1), (9000, 42)), ((2, 1), (9001, 43)), ((3, 1), (9002, 44))]) (by kernel_rfl) (by kernel_rfl) (by kernel_rfl))))), ⟨z19_0.2, z19_0.1, [], [], [], rfl, rfl⟩⟩
        · (try simp only [Sum.elim_inl, Sum.elim_inr] at h)
          refine awp_regionD_ 42 (by kernel_rfl) ?_
          refine ds0 (.int .i64 a0) (by kernel_rfl) ?_
          refine ds0 (.box (0, 1) 0) (by kernel_rfl) ?_
          refine dsl (.int .i64 a1_0) (by kernel_rfl) ?_
          refine ds0 (.box (1, 1) 0) (by kernel_rfl) ?_
          refine dsl (.int .i64 a2_0) (by kernel_rfl) ?_
          refine ds0 (.int .i64 (IntKind.i64.wrap (a1_0 + a2_0))) (by kernel_rfl) ?_
          refine ds0 (.box (0, 1) 1) (by kernel_rfl) ?_
          refine dsl (.tree (.pair .int (.pair .int .int)) a1_1) (by kernel_rfl) ?_
          refine dcall (.own (496, 14) (.pair .int (.pair .int .int)) 0 y12.length) [((496, 14), some (.arr 59 (.pair .int (.pair .int .int)) y12))] [(.tree (.pair .int (.pair .int .int)) a1_1)] _ (caps := []) (args0 := [(.tree (.pair .int (.pair .int .int)) a1_1)]) trivial (by kernel_rfl) (by kernel_rfl) (by kernel_rfl) (by kernel_rfl) (ok_slices_Clone_impl_Branch_impl_Branch h12) hb_slices_Clone_impl_Branch_impl_Branch (by kernel_rfl) ?_
          refine ds0 (.box (1, 1) 1) (by kernel_rfl) ?_
          refine dsl (.tree (.pair .int (.pair .int .int)) a2_1) (by kernel_rfl) ?_
          refine ds0 (.fn 101 [(.ref [(.int .i64 y10)])]) (by kernel_rfl) ?_
          refine dcall (.own (560, 18) (.pair .int (.pair .int .int)) 0 y13.length) [((560, 18), some (.arr 59 (.pair .int (.pair .int .int)) y13))] [(.tree (.pair .int (.pair .int .int)) a2_1), (.fn 101 [(.ref [(.int .i64 y10)])])] _ (caps := []) (args0 := [(.tree (.pair .int (.pair .int .int)) a2_1), (.fn 101 [(.ref [(.int .i64 y10)])])]) trivial (by kernel_rfl) (by kernel_rfl) (by kernel_rfl) (by kernel_rfl) (ok_impl_movedBranches_for_impl_shiftedBy_1 h13) hb_impl_movedBranches (by kernel_rfl) ?_
          refine ds2 (.own (496, 19) (.pair .int (.pair .int .int)) 0 ((y12 ++ y13).length)) (496, 14) (496, 19) (.arr 59 (.pair .int (.pair .int .int)) (y12 ++ y13)) (s_appO (t := (.pair .int (.pair .int .int))) (t' := (.pair .int (.pair .int .int))) (xs := y12) (ys := y13) (zs := y12 ++ y13) (j := (496, 14)) (len := y12.length) (c := (.own (560, 18) (.pair .int (.pair .int .int)) 0 y13.length)) (by kernel_rfl) (by kernel_rfl) rfl (by kernel_rfl) (sr_own (e := 59) (by kernel_rfl) rfl) rfl g14) ?_
          refine ds0 (.box (0, 1) 2) (by kernel_rfl) ?_
          refine dsl (.tree .int a1_2) (by kernel_rfl) ?_
          refine ds0 (.box (1, 1) 2) (by kernel_rfl) ?_
          refine dsl (.tree .int a2_2) (by kernel_rfl) ?_
          refine ds0 (.fn 101 [(.ref [(.int .i64 y10)])]) (by kernel_rfl) ?_
          refine dcall (.own (672, 25) .int 0 y15.length) [((672, 25), some (.arr 3 .int y15))] [(.tree .int a2_2), (.fn 101 [(.ref [(.int .i64 y10)])])] _ (caps := []) (args0 := [(.tree .int a2_2), (.fn 101 [(.ref [(.int .i64 y10)])])]) trivial (by kernel_rfl) (by kernel_rfl) (by kernel_rfl) (by kernel_rfl) (ok_impl_mapList_for_impl_shiftedBy_1 h15) hb_impl_mapList (by kernel_rfl) ?_
          refine dsU (.tree (.slice .int) ([a1_2, y15])) [((672, 25), none)] (s_mkT (t := .int) (yss := [a1_2, y15]) (srl_cons (t := .int) (c := (.tree .int a1_2)) (ys := a1_2) (by kernel_rfl) sr_tree (srl_cons (t := .int) (c := (.own (672, 25) .int 0 y15.length)) (ys := y15) (by kernel_rfl) (sr_own (e := 3) (by kernel_rfl) rfl) srl_nil)) (by kernel_rfl)) ?_
          refine dcall (.own (704, 27) .int 0 y16.length) [((704, 27), some (.arr 3 .int y16))] [(.tree (.slice .int) ([a1_2, y15]))] _ (caps := []) (args0 := [(.tree (.slice .int) ([a1_2, y15]))]) trivial (by kernel_rfl) (by kernel_rfl) (by kernel_rfl) (by kernel_rfl) (ok_impl_joined h16) hb_impl_joined (by kernel_rfl) ?_
          refine ds0 (.box (0, 1) 3) (by kernel_rfl) ?_
          refine dsl (.tree .int a1_3) (by kernel_rfl) ?_
          refine ds0 (.box (1, 1) 3) (by kernel_rfl) ?_
          refine dsl (.tree .int a2_3) (by kernel_rfl) ?_
          refine ds0 (.fn 101 [(.ref [(.int .i64 y10)])]) (by kernel_rfl) ?_
          refine dcall (.own (800, 33) .int 0 y17.length) [((800, 33), some (.arr 3 .int y17))] [(.tree .int a2_3), (.fn 101 [(.ref [(.int .i64 y10)])])] _ (caps := []) (args0 := [(.tree .int a2_3), (.fn 101 [(.ref [(.int .i64 y10)])])]) trivial (by kernel_rfl) (by kernel_rfl) (by kernel_rfl) (by kernel_rfl) (ok_impl_mapList_for_impl_shiftedBy_1 h17) hb_impl_mapList (by kernel_rfl) ?_
          refine dsU (.tree (.slice .int) ([a1_3, y17])) [((800, 33), none)] (s_mkT (t := .int) (yss := [a1_3, y17]) (srl_cons (t := .int) (c := (.tree .int a1_3)) (ys := a1_3) (by kernel_rfl) sr_tree (srl_cons (t := .int) (c := (.own (800, 33) .int 0 y17.length)) (ys := y17) (by kernel_rfl) (sr_own (e := 3) (by kernel_rfl) rfl) srl_nil)) (by kernel_rfl)) ?_
          refine dcall (.own (832, 35) .int 0 y18.length) [((832, 35), some (.arr 3 .int y18))] [(.tree (.slice .int) ([a1_3, y17]))] _ (caps := []) (args0 := [(.tree (.slice .int) ([a1_3, y17]))]) trivial (by kernel_rfl) (by kernel_rfl) (by kernel_rfl) (by kernel_rfl) (ok_impl_joined h18) hb_impl_joined (by kernel_rfl) ?_
          refine ds0 (.agg [(.int .i64 (IntKind.i64.wrap (a1_0 + a2_0))), (.own (496, 19) (.pair .int (.pair .int .int)) 0 ((y12 ++ y13).length)), (.own (704, 27) .int 0 y16.length), (.own (832, 35) .int 0 y18.length)]) (by kernel_rfl) ?_
          refine dcall (.tup [(.agg [(.int .i64 z19_1.1), (.own (496, 19) (.pair .int (.pair .int .int)) 0 ((y12 ++ y13).length)), (.own (704, 27) .int 0 y16.length), (.own (832, 35) .int 0 y18.length)]), (.bool z19_1.2)]) [] [(.int .i64 a0), (.agg [(.int .i64 (IntKind.i64.wrap (a1_0 + a2_0))), (.own (496, 19) (.pair .int (.pair .int .int)) 0 ((y12 ++ y13).length)), (.own (704, 27) .int 0 y16.length), (.own (832, 35) .int 0 y18.length)])] _ (caps := []) (args0 := [(.int .i64 a0), (.agg [(.int .i64 (IntKind.i64.wrap (a1_0 + a2_0))), (.tree (.pair .int (.pair .int .int)) (y12 ++ y13)), (.tree .int y16), (.tree .int y18)])]) trivial (by kernel_rfl) (by kernel_rfl) (gm_cons (by kernel_rfl) (gm_cons (gd_agg (gm_cons (by kernel_rfl) (gm_cons (gd_own (e := 59) (by kernel_rfl) rfl) (gm_cons (gd_own (e := 3) (by kernel_rfl) rfl) (gm_cons (gd_own (e := 3) (by kernel_rfl) rfl) gm_nil))))) gm_nil)) (by kernel_rfl) (ok_impl_validNetwork h19) hb_impl_validNetwork (by kernel_rfl) ?_
          refine ds0 (.agg [(.int .i64 z19_1.1), (.own (496, 19) (.pair .int (.pair .int .int)) 0 ((y12 ++ y13).length)), (.own (704, 27) .int 0 y16.length), (.own (832, 35) .int 0 y18.length)]) (by kernel_rfl) ?_
          refine ds0 (.bool z19_1.2) (by kernel_rfl) ?_
          refine dsn2 (2, 1) (2, 1) (.cells 30 [(.int .i64 z19_1.1), (.own (496, 19) (.pair .int (.pair .int .int)) 0 ((y12 ++ y13).length)), (.own (704, 27) .int 0 y16.length), (.own (832, 35) .int 0 y18.length)]) (by kernel_rfl) ?_
          refine ds0 (.bool z19_1.2) (by kernel_rfl) ?_
          refine dnil (by kernel_rfl) (tn_ ?_)
          obtain rfl := Option.some.inj h
          exact ⟨_, (weak_ren (renF [((0, 1), (2, 1)), ((1, 1), (496, 19)), ((2, 1), (704, 27)), ((3, 1), (832, 35))]) (by kernel_rfl) (by kernel_rfl) (by kernel_rfl)), ⟨z19_1.2, z19_1.1, y12 ++ y13, y16, y18, rfl, rfl⟩⟩
      · rintro _ _ ⟨l11_m7, l11_m6_0, l11_m6_1, l11_m6_2, l11_m6_3, rfl, rfl⟩ h
        (try dsimp only at h)
        refine awp_ret_ ?_
        obtain rfl := Option.some.inj h
        exact ret_ [(.agg [(.int .i64 l11_m6_0), (.own (1, 1) (.pair .int (.pair .int .int)) 0 l11_m6_1.length), (.own (2, 1) .int 0 l11_m6_2.length), (.own (3, 1) .int 0 l11_m6_3.length)]), (.bool l11_m7)] (by simp) (by kernel_rfl) (p_agg (l_cons (l_sc (by kernel_rfl)) (l_cons (l_own (by kernel_rfl) rfl) (l_cons (l_own (by kernel_rfl) rfl) (l_cons (l_own (by kernel_rfl) rfl) l_nil)))) (p_one rfl (l_sc (by kernel_rfl)) p_nil)) (by kernel_rfl) (by kernel_rfl)
def m_laws_FnExactBesideNetworks : AC :=
  (.seq (.region [⟨(some 4), none, (.i (.box 25 (.tmp 1)))⟩, ⟨(some 5), none, (.i (.box 25 (.tmp 2)))⟩, ⟨(some 6), none, (.i (.mov (.cst (.bool false))))⟩] false [])
  (.seq (.region [⟨(some 7), none, (.i (.mov (.cst (.int .i64 1048576))))⟩] false [])
  (.seq (.region [⟨(some 19), none, (.i (.ld false 4 (.tmp 4)))⟩, ⟨(some 20), none, (.i (.mov (.tmp 7)))⟩, ⟨(some 21), none, (.call (.cst (.fn 12 [])) [(.tmp 19), (.tmp 20)] [[none, (some (.pair .int (.pair .int .int))), (some .int), (some .int)], []])⟩, ⟨(some 7), none, (.i (.mov (.tmp 21)))⟩] false [])
  (.seq (.seq (.region [⟨(some 22), none, (.i (.mov (.tmp 7)))⟩, ⟨(some 23), none, (.i (.bin .lss (.tmp 22) (.cst (.int .i64 0))))⟩] false [])
  (.cond (.tmp 23)
    (.seq (.region [⟨(some 6), none, (.i (.mov (.cst (.bool true))))⟩] false [])
    .ret)
    .skip))
  (.seq (.region [⟨(some 24), none, (.i (.ld false 4 (.tmp 5)))⟩, ⟨(some 25), none, (.i (.mov (.tmp 7)))⟩, ⟨(some 26), none, (.call (.cst (.fn 12 [])) [(.tmp 24), (.tmp 25)] [[none, (some (.pair .int (.pair .int .int))), (some .int), (some .int)], []])⟩, ⟨(some 7), none, (.i (.mov (.tmp 26)))⟩] false [])
  (.seq (.seq (.region [⟨(some 27), none, (.i (.mov (.tmp 7)))⟩, ⟨(some 28), none, (.i (.bin .lss (.tmp 27) (.cst (.int .i64 0))))⟩] false [])
  (.cond (.tmp 28)
    (.seq (.region [⟨(some 6), none, (.i (.mov (.cst (.bool true))))⟩] false [])
    .ret)
    .skip))
  (.seq (.region [⟨(some 30), none, (.i (.mov (.tmp 0)))⟩, ⟨(some 31), none, (.i (.ld false 4 (.tmp 4)))⟩, ⟨(some 32), none, (.call (.cst (.fn 14 [])) [(.tmp 31)] [[none, (some (.pair .int (.pair .int .int))), (some .int), (some .int)]])⟩, ⟨(some 33), none, (.i (.ld false 4 (.tmp 5)))⟩, ⟨(some 34), none, (.call (.cst (.fn 14 [])) [(.tmp 33)] [[none, (some (.pair .int (.pair .int .int))), (some .int), (some .int)]])⟩, ⟨(some 35), none, (.call (.cst (.fn 32 [])) [(.tmp 30), (.tmp 32), (.tmp 34)] [[], [none, (some (.pair .int (.pair .int .int))), (some .int), (some .int)], [none, (some (.pair .int (.pair .int .int))), (some .int), (some .int)]])⟩, ⟨(some 29), none, (.i (.mov (.tmp 35)))⟩, ⟨(some 36), none, (.i (.extr 0 (.tmp 29)))⟩, ⟨(some 37), none, (.i (.extr 1 (.tmp 29)))⟩, ⟨(some 8), none, (.i (.alloc 30 [(.int .i64 0), .nils, .nils, .nils]))⟩, ⟨none, none, (.st false 4 (.tmp 8) (.tmp 36))⟩, ⟨(some 9), none, (.i (.mov (.tmp 37)))⟩] true [(2, 3), (2, 9), (4, 9), (5, 9)])
  (.seq (.region [⟨(some 38), none, (.i (.ld false 4 (.tmp 4)))⟩, ⟨(some 39), none, (.call (.cst (.fn 14 [])) [(.tmp 38)] [[none, (some (.pair .int (.pair .int .int))), (some .int), (some .int)]])⟩, ⟨(some 10), none, (.i (.alloc 30 [(.int .i64 0), .nils, .nils, .nils]))⟩, ⟨none, none, (.st false 4 (.tmp 10) (.tmp 39))⟩] false [])
  (.seq (.region [⟨(some 40), none, (.i (.ld false 4 (.tmp 5)))⟩, ⟨(some 41), none, (.call (.cst (.fn 14 [])) [(.tmp 40)] [[none, (some (.pair .int (.pair .int .int))), (some .int), (some .int)]])⟩, ⟨(some 11), none, (.i (.alloc 30 [(.int .i64 0), .nils, .nils, .nils]))⟩, ⟨none, none, (.st false 4 (.tmp 11) (.tmp 41))⟩] false [])
  (.seq (.region [⟨(some 43), none, (.i (.mov (.tmp 0)))⟩, ⟨(some 44), none, (.i (.ld false 4 (.tmp 10)))⟩, ⟨(some 45), none, (.i (.ld false 4 (.tmp 11)))⟩, ⟨(some 46), none, (.call (.cst (.fn 33 [])) [(.tmp 43), (.tmp 44), (.tmp 45)] [[], [none, (some (.pair .int (.pair .int .int))), (some .int), (some .int)], [none, (some (.pair .int (.pair .int .int))), (some .int), (some .int)]])⟩, ⟨(some 42), none, (.i (.mov (.tmp 46)))⟩, ⟨(some 47), none, (.i (.extr 0 (.tmp 42)))⟩, ⟨(some 48), none, (.i (.extr 1 (.tmp 42)))⟩, ⟨(some 12), none, (.i (.alloc 30 [(.int .i64 0), .nils, .nils, .nils]))⟩, ⟨none, none, (.st false 4 (.tmp 12) (.tmp 47))⟩, ⟨(some 13), none, (.i (.mov (.tmp 48)))⟩] false [])
  (.seq (.seq (.region [⟨(some 49), none, (.i (.ld false 4 (.tmp 12)))⟩, ⟨(some 50), none, (.i (.ld false 4 (.tmp 8)))⟩, ⟨(some 51), none, (.call (.cst (.fn 16 [])) [(.tmp 49), (.tmp 50)] [[none, (some (.pair .int (.pair .int .int))), (some .int), (some .int)], [none, (some (.pair .int (.pair .int .int))), (some .int), (some .int)]])⟩, ⟨(some 52), none, (.i (.not (.tmp 51)))⟩, ⟨(some 53), none, (.i (.mov (.tmp 52)))⟩, ⟨(some 54), (some (53, false)), (.i (.mov (.tmp 13)))⟩, ⟨(some 55), (some (53, false)), (.i (.mov (.tmp 9)))⟩, ⟨(some 56), (some (53, false)), (.i (.cmp true 0 (.tmp 54) (.tmp 55)))⟩, ⟨(some 57), none, (.i (.pick (.tmp 53) (.cst (.bool true)) (.tmp 56)))⟩] false [])
  (.cond (.tmp 57)
    (.seq (.region [⟨(some 6), none, (.i (.mov (.cst (.bool false))))⟩] false [])
    .ret)
    .skip))
  (.seq (.seq (.region [⟨(some 58), none, (.i (.ld false 4 (.tmp 10)))⟩, ⟨(some 59), none, (.i (.ld false 4 (.tmp 4)))⟩, ⟨(some 60), none, (.call (.cst (.fn 14 [])) [(.tmp 59)] [[none, (some (.pair .int (.pair .int .int))), (some .int), (some .int)]])⟩, ⟨(some 61), none, (.call (.cst (.fn 16 [])) [(.tmp 58), (.tmp 60)] [[none, (some (.pair .int (.pair .int .int))), (some .int), (some .int)], [none, (some (.pair .int (.pair .int .int))), (some .int), (some .int)]])⟩, ⟨(some 62), none, (.i (.not (.tmp 61)))⟩] true [(0, 2)])
  (.cond (.tmp 62)
    (.seq (.region [⟨(some 6), none, (.i (.mov (.cst (.bool false))))⟩] false [])
    .ret)
    .skip))
  (.seq (.seq (.region [⟨(some 63), none, (.i (.ld false 4 (.tmp 11)))⟩, ⟨(some 64), none, (.i (.ld false 4 (.tmp 5)))⟩, ⟨(some 65), none, (.call (.cst (.fn 14 [])) [(.tmp 64)] [[none, (some (.pair .int (.pair .int .int))), (some .int), (some .int)]])⟩, ⟨(some 66), none, (.call (.cst (.fn 16 [])) [(.tmp 63), (.tmp 65)] [[none, (some (.pair .int (.pair .int .int))), (some .int), (some .int)], [none, (some (.pair .int (.pair .int .int))), (some .int), (some .int)]])⟩, ⟨(some 67), none, (.i (.not (.tmp 66)))⟩] true [(0, 2)])
  (.cond (.tmp 67)
    (.seq (.region [⟨(some 6), none, (.i (.mov (.cst (.bool false))))⟩] false [])
    .ret)
    .skip))
  (.seq (.region [⟨(some 14), none, (.i (.mov (.cst (.int .i64 1))))⟩] false [])
  (.seq (.region [⟨(some 68), none, (.i (.ld false 4 (.tmp 10)))⟩, ⟨(some 69), none, (.i (.mov (.tmp 14)))⟩, ⟨(some 70), none, (.call (.cst (.fn 23 [])) [(.tmp 68), (.tmp 69)] [[none, (some (.pair .int (.pair .int .int))), (some .int), (some .int)], []])⟩, ⟨(some 14), none, (.i (.mov (.tmp 70)))⟩] false [])
  (.seq (.region [⟨(some 71), none, (.i (.ld false 4 (.tmp 11)))⟩, ⟨(some 72), none, (.i (.mov (.tmp 14)))⟩, ⟨(some 73), none, (.call (.cst (.fn 23 [])) [(.tmp 71), (.tmp 72)] [[none, (some (.pair .int (.pair .int .int))), (some .int), (some .int)], []])⟩, ⟨(some 14), none, (.i (.mov (.tmp 73)))⟩] false [])
  (.seq (.seq (.region [⟨(some 74), none, (.i (.mov (.tmp 14)))⟩, ⟨(some 75), none, (.i (.bin .lss (.tmp 74) (.cst (.int .i64 0))))⟩, ⟨(some 76), none, (.i (.mov (.tmp 75)))⟩, ⟨(some 77), (some (76, false)), (.i (.ld false 4 (.tmp 12)))⟩, ⟨(some 78), (some (76, false)), (.i (.ld false 4 (.tmp 8)))⟩, ⟨(some 79), (some (76, false)), (.call (.cst (.fn 16 [])) [(.tmp 77), (.tmp 78)] [[none, (some (.pair .int (.pair .int .int))), (some .int), (some .int)], [none, (some (.pair .int (.pair .int .int))), (some .int), (some .int)]])⟩, ⟨(some 80), (some (76, false)), (.i (.not (.tmp 79)))⟩, ⟨(some 81), none, (.i (.pick (.tmp 76) (.cst (.bool true)) (.tmp 80)))⟩, ⟨(some 82), none, (.i (.mov (.tmp 81)))⟩, ⟨(some 83), (some (82, false)), (.i (.mov (.tmp 13)))⟩, ⟨(some 84), (some (82, false)), (.i (.mov (.tmp 9)))⟩, ⟨(some 85), (some (82, false)), (.i (.cmp true 0 (.tmp 83) (.tmp 84)))⟩, ⟨(some 86), none, (.i (.pick (.tmp 82) (.cst (.bool true)) (.tmp 85)))⟩] false [])
  (.cond (.tmp 86)
    (.seq (.region [⟨(some 6), none, (.i (.mov (.cst (.bool false))))⟩] false [])
    .ret)
    .skip))
  (.seq (.region [⟨(some 15), none, (.i (.mov (.cst (.int .i64 1))))⟩] false [])
  (.seq (.region [⟨(some 87), none, (.i (.ld false 4 (.tmp 12)))⟩, ⟨(some 88), none, (.i (.mov (.tmp 15)))⟩, ⟨(some 89), none, (.call (.cst (.fn 23 [])) [(.tmp 87), (.tmp 88)] [[none, (some (.pair .int (.pair .int .int))), (some .int), (some .int)], []])⟩, ⟨(some 15), none, (.i (.mov (.tmp 89)))⟩] false [])
  (.seq (.region [⟨(some 16), none, (.i (.mov (.cst (.int .i64 1))))⟩] false [])
  (.seq (.region [⟨(some 90), none, (.i (.ld false 4 (.tmp 12)))⟩, ⟨(some 91), none, (.i (.mov (.tmp 16)))⟩, ⟨(some 92), none, (.call (.cst (.fn 24 [])) [(.tmp 90), (.tmp 91)] [[none, (some (.pair .int (.pair .int .int))), (some .int), (some .int)], []])⟩, ⟨(some 16), none, (.i (.mov (.tmp 92)))⟩] false [])
  (.seq (.seq (.region [⟨(some 93), none, (.i (.mov (.tmp 16)))⟩, ⟨(some 94), none, (.i (.bin .lss (.tmp 93) (.cst (.int .i64 0))))⟩] false [])
  (.cond (.tmp 94)
    (.seq (.region [⟨(some 6), none, (.i (.mov (.cst (.bool false))))⟩] false [])
    .ret)
    .skip))
  (.seq (.seq (.region [⟨(some 95), none, (.i (.mov (.tmp 16)))⟩, ⟨(some 96), none, (.i (.mov (.tmp 15)))⟩, ⟨(some 97), none, (.i (.bin .neq (.tmp 95) (.tmp 96)))⟩] false [])
  (.cond (.tmp 97)
    (.seq (.region [⟨(some 6), none, (.i (.mov (.cst (.bool false))))⟩] false [])
    .ret)
    .skip))
  (.seq (.region [⟨(some 99), none, (.i (.mov (.tmp 0)))⟩, ⟨(some 100), none, (.i (.ld false 4 (.tmp 4)))⟩, ⟨(some 101), none, (.call (.cst (.fn 14 [])) [(.tmp 100)] [[none, (some (.pair .int (.pair .int .int))), (some .int), (some .int)]])⟩, ⟨(some 102), none, (.i (.ld false 4 (.tmp 5)))⟩, ⟨(some 103), none, (.call (.cst (.fn 14 [])) [(.tmp 102)] [[none, (some (.pair .int (.pair .int .int))), (some .int), (some .int)]])⟩, ⟨(some 104), none, (.call (.cst (.fn 33 [])) [(.tmp 99), (.tmp 101), (.tmp 103)] [[], [none, (some (.pair .int (.pair .int .int))), (some .int), (some .int)], [none, (some (.pair .int (.pair .int .int))), (some .int), (some .int)]])⟩, ⟨(some 98), none, (.i (.mov (.tmp 104)))⟩, ⟨(some 105), none, (.i (.extr 0 (.tmp 98)))⟩, ⟨(some 106), none, (.i (.extr 1 (.tmp 98)))⟩, ⟨(some 17), none, (.i (.alloc 30 [(.int .i64 0), .nils, .nils, .nils]))⟩, ⟨none, none, (.st false 4 (.tmp 17) (.tmp 105))⟩, ⟨(some 18), none, (.i (.mov (.tmp 106)))⟩] true [(2, 3), (2, 9), (4, 9), (5, 9)])
  (.seq (.seq (.region [⟨(some 107), none, (.i (.ld false 4 (.tmp 17)))⟩, ⟨(some 108), none, (.i (.ld false 4 (.tmp 8)))⟩, ⟨(some 109), none, (.call (.cst (.fn 16 [])) [(.tmp 107), (.tmp 108)] [[none, (some (.pair .int (.pair .int .int))), (some .int), (some .int)], [none, (some (.pair .int (.pair .int .int))), (some .int), (some .int)]])⟩, ⟨(some 110), none, (.i (.not (.tmp 109)))⟩, ⟨(some 111), none, (.i (.mov (.tmp 110)))⟩, ⟨(some 112), (some (111, false)), (.i (.mov (.tmp 18)))⟩, ⟨(some 113), (some (111, false)), (.i (.mov (.tmp 9)))⟩, ⟨(some 114), (some (111, false)), (.i (.cmp true 0 (.tmp 112) (.tmp 113)))⟩, ⟨(some 115), none, (.i (.pick (.tmp 111) (.cst (.bool true)) (.tmp 114)))⟩] false [])
  (.cond (.tmp 115)
    (.seq (.region [⟨(some 6), none, (.i (.mov (.cst (.bool false))))⟩] false [])
    .ret)
    .skip))
  (.seq (.region [⟨(some 16), none, (.i (.mov (.cst (.int .i64 1))))⟩] false [])
  (.seq (.region [⟨(some 116), none, (.i (.ld false 4 (.tmp 12)))⟩, ⟨(some 117), none, (.i (.mov (.tmp 16)))⟩, ⟨(some 118), none, (.call (.cst (.fn 24 [])) [(.tmp 116), (.tmp 117)] [[none, (some (.pair .int (.pair .int .int))), (some .int), (some .int)], []])⟩, ⟨(some 16), none, (.i (.mov (.tmp 118)))⟩] false [])
  (.seq (.seq (.region [⟨(some 119), none, (.i (.mov (.tmp 16)))⟩, ⟨(some 120), none, (.i (.bin .lss (.tmp 119) (.cst (.int .i64 0))))⟩] false [])
  (.cond (.tmp 120)
    (.seq (.region [⟨(some 6), none, (.i (.mov (.cst (.bool false))))⟩] false [])
    .ret)
    .skip))
  (.seq (.seq (.region [⟨(some 121), none, (.i (.mov (.tmp 16)))⟩, ⟨(some 122), none, (.i (.mov (.tmp 15)))⟩, ⟨(some 123), none, (.i (.bin .neq (.tmp 121) (.tmp 122)))⟩] false [])
  (.cond (.tmp 123)
    (.seq (.region [⟨(some 6), none, (.i (.mov (.cst (.bool false))))⟩] false [])
    .ret)
    .skip))
  (.seq (.region [⟨(some 6), none, (.i (.mov (.cst (.bool true))))⟩] false [])
  .ret))))))))))))))))))))))))))))))
def r_laws_FnExactBesideNetworks : List Res := [.tmp 6]
theorem c_laws_FnExactBesideNetworks : compiled Tryd.prog Tryd.f8 = some (m_laws_FnExactBesideNetworks, r_laws_FnExactBesideNetworks) := by kernel_rfl
theorem hb_laws_FnExactBesideNetworks : hasBody Tryd.prog 8 = true := by kernel_rfl
def L_laws_FnExactBesideNetworks (a0 : Int) (a1_0 : Int) (a1_1 : List (Int × Int × Int)) (a1_2 : List Int) (a1_3 : List Int) (a2_0 : Int) (a2_1 : List (Int × Int × Int)) (a2_2 : List Int) (a2_3 : List Int) : Option Bool :=
  Option.bind (L_laws_szNetwork a1_0 a1_1 a1_2 a1_3 1048576) fun y4 =>
cond (decide (y4 < 0))
  (some true)
  (Option.bind (L_laws_szNetwork a2_0 a2_1 a2_2 a2_3 y4) fun y10 =>
  cond (decide (y10 < 0))
    (some true)
    (Option.bind (L_laws_toNetwork a1_0 a1_1 a1_2 a1_3) fun y16 =>
    Option.bind (L_laws_toNetwork a2_0 a2_1 a2_2 a2_3) fun y17 =>
    Option.bind (L_spec_BesideNetworks a0 y16.1 y16.2.1 y16.2.2.1 y16.2.2.2 y17.1 y17.2.1 y17.2.2.1 y17.2.2.2) fun y18 =>
    Option.bind (L_laws_toNetwork a1_0 a1_1 a1_2 a1_3) fun y20 =>
    Option.bind (L_laws_toNetwork a2_0 a2_1 a2_2 a2_3) fun y22 =>
    Option.bind (L_impl_BesideNetworks a0 y20.1 y20.2.1 y20.2.2.1 y20.2.2.2 y22.1 y22.2.1 y22.2.2.1 y22.2.2.2) fun y24 =>
    Option.bind (Option.bind (L_laws_eqNetwork y24.1 y24.2.1 y24.2.2.1 y24.2.2.2.1 y18.1 y18.2.1 y18.2.2.1 y18.2.2.2.1) fun y27 =>
      cond (!y27)
        (some true)
        (some (y24.2.2.2.2 != y18.2.2.2.2))) fun l26_m57 =>
    cond l26_m57
      (some false)
      (Option.bind (L_laws_toNetwork a1_0 a1_1 a1_2 a1_3) fun y33 =>
      Option.bind (L_laws_eqNetwork y20.1 y20.2.1 y20.2.2.1 y20.2.2.2 y33.1 y33.2.1 y33.2.2.1 y33.2.2.2) fun y34 =>
      cond (!y34)
        (some false)
        (Option.bind (L_laws_toNetwork a2_0 a2_1 a2_2 a2_3) fun y39 =>
        Option.bind (L_laws_eqNetwork y22.1 y22.2.1 y22.2.2.1 y22.2.2.2 y39.1 y39.2.1 y39.2.2.1 y39.2.2.2) fun y40 =>
        cond (!y40)
          (some false)
          (Option.bind (L_laws_markNetwork y20.1 y20.2.1 y20.2.2.1 y20.2.2.2 1) fun y45 =>
          og (y45.1.length = y20.2.1.length) <|
          og (y45.2.1.length = y20.2.2.1.length) <|
          og (y45.2.2.1.length = y20.2.2.2.length) <|
          Option.bind (L_laws_markNetwork y22.1 y22.2.1 y22.2.2.1 y22.2.2.2 y45.2.2.2) fun y50 =>
          og (y50.1.length = y22.2.1.length) <|
          og (y50.2.1.length = y22.2.2.1.length) <|
          og (y50.2.2.1.length = y22.2.2.2.length) <|
          Option.bind (cond (decide (y50.2.2.2 < 0))
              (some true)
              (Option.bind (L_laws_eqNetwork y24.1 y24.2.1 y24.2.2.1 y24.2.2.2.1 y18.1 y18.2.1 y18.2.2.1 y18.2.2.2.1) fun y57 =>
              cond (!y57)
                (some true)
                (some (y24.2.2.2.2 != y18.2.2.2.2)))) fun l55_m86 =>
          cond l55_m86
            (some false)
            (Option.bind (L_laws_markNetwork y24.1 y24.2.1 y24.2.2.1 y24.2.2.2.1 1) fun y63 =>
            og (y63.1.length = y24.2.1.length) <|
            og (y63.2.1.length = y24.2.2.1.length) <|
            og (y63.2.2.1.length = y24.2.2.2.1.length) <|
            Option.bind (L_laws_heldNetwork y24.1 y63.1 y63.2.1 y63.2.2.1 1) fun y69 =>
            cond (decide (y69 < 0))
              (some false)
              (cond (y69 != y63.2.2.2)
                (some false)
                (Option.bind (L_laws_toNetwork a1_0 a1_1 a1_2 a1_3) fun y79 =>
                Option.bind (L_laws_toNetwork a2_0 a2_1 a2_2 a2_3) fun y80 =>
                Option.bind (L_impl_BesideNetworks a0 y79.1 y79.2.1 y79.2.2.1 y79.2.2.2 y80.1 y80.2.1 y80.2.2.1 y80.2.2.2) fun y81 =>
                Option.bind (Option.bind (L_laws_eqNetwork y81.1 y81.2.1 y81.2.2.1 y81.2.2.2.1 y18.1 y18.2.1 y18.2.2.1 y18.2.2.2.1) fun y84 =>
                  cond (!y84)
                    (some true)
                    (some (y81.2.2.2.2 != y18.2.2.2.2))) fun l83_m115 =>
                cond l83_m115
                  (some false)
                  (Option.bind (L_laws_heldNetwork y24.1 y63.1 y63.2.1 y63.2.2.1 1) fun y90 =>
                  cond (decide (y90 < 0))
                    (some false)
                    (cond (y90 != y63.2.2.2)
                      (some false)
                      (some true)))))))))))
def rv_laws_FnExactBesideNetworks (r : Bool) : RV := ⟨false, [(false, [.sc (.bool r)])]⟩
theorem ok_laws_FnExactBesideNetworks {a0 : Int} {a1_0 : Int} {a1_1 : List (Int × Int × Int)} {a1_2 : List Int} {a1_3 : List Int} {a2_0 : Int} {a2_1 : List (Int × Int × Int)} {a2_2 : List Int} {a2_3 : List Int} {r : Bool} (h : L_laws_FnExactBesideNetworks a0 a1_0 a1_1 a1_2 a1_3 a2_0 a2_1 a2_2 a2_3 = some r) : CallOK Tryd.prog Tab 8 [(.int .i64 a0), (.agg [(.int .i64 a1_0), (.tree (.pair .int (.pair .int .int)) a1_1), (.tree .int a1_2), (.tree .int a1_3)]), (.agg [(.int .i64 a2_0), (.tree (.pair .int (.pair .int .int)) a2_1), (.tree .int a2_2), (.tree .int a2_3)])] (rv_laws_FnExactBesideNetworks r) := by
  refine call_of_ (by kernel_rfl) Tryd.func8 c_laws_FnExactBesideNetworks (n := 124) (by kernel_rfl) (by simp) (tl := [(0, (.int .i64 a0)), (1, (.agg [(.int .i64 a1_0), (.tree (.pair .int (.pair .int .int)) a1_1), (.tree .int a1_2), (.tree .int a1_3)])), (2, (.agg [(.int .i64 a2_0), (.tree (.pair .int (.pair .int .int)) a2_1), (.tree .int a2_2), (.tree .int a2_3)]))]) rfl ?_
  unfold m_laws_FnExactBesideNetworks
  unfold L_laws_FnExactBesideNetworks at h
  refine awp_seq_ ?_
  refine awp_region_ 4 (by kernel_rfl) ?_
  refine rs1 (.box (4, 1) 0) (4, 1) (.cells 25 [(.int .i64 a1_0), (.tree (.pair .int (.pair .int .int)) a1_1), (.tree .int a1_2), (.tree .int a1_3)]) (by kernel_rfl) ?_
  refine rs1 (.box (5, 2) 0) (5, 2) (.cells 25 [(.int .i64 a2_0), (.tree (.pair .int (.pair .int .int)) a2_1), (.tree .int a2_2), (.tree .int a2_3)]) (by kernel_rfl) ?_
  refine rs0 (.bool false) (by kernel_rfl) ?_
  refine rnil (tn_ ?_)
  refine awp_seq_ ?_
  refine awp_region_ 5 (by kernel_rfl) ?_
  refine rs0 (.int .i64 1048576) (by kernel_rfl) ?_
  refine rnil (tn_ ?_)
  refine awp_seq_ ?_
  obtain ⟨y4, h4, h⟩ := ob_some h
  refine awp_region_ 9 (by kernel_rfl) ?_
  refine rsl (.agg [(.int .i64 a1_0), (.tree (.pair .int (.pair .int .int)) a1_1), (.tree .int a1_2), (.tree .int a1_3)]) (by kernel_rfl) ?_
  refine rs0 (.int .i64 1048576) (by kernel_rfl) ?_
  refine rcall (.int .i64 y4) [] [(.agg [(.int .i64 a1_0), (.tree (.pair .int (.pair .int .int)) a1_1), (.tree .int a1_2), (.tree .int a1_3)]), (.int .i64 1048576)] _ (caps := []) (args0 := [(.agg [(.int .i64 a1_0), (.tree (.pair .int (.pair .int .int)) a1_1), (.tree .int a1_2), (.tree .int a1_3)]), (.int .i64 1048576)]) trivial (by kernel_rfl) (by kernel_rfl) (by kernel_rfl) (by kernel_rfl) (ok_laws_szNetwork h4) hb_laws_szNetwork (by kernel_rfl) ?_
  refine rs0 (.int .i64 y4) (by kernel_rfl) ?_
  refine rnil (tn_ ?_)
  refine awp_seq_ ?_
  refine awp_seq_ ?_
  refine awp_region_ 11 (by kernel_rfl) ?_
  refine rs0 (.int .i64 y4) (by kernel_rfl) ?_
  refine rs0 (.bool (decide (y4 < 0))) (by kernel_rfl) ?_
  refine rnil (tn_ ?_)
  rcases cond_some h with ⟨q7, h⟩ | ⟨q7, h⟩
  · have q7_ := of_decide_eq_true q7
    refine awp_condT_ q7 (by kernel_rfl) ?_
    refine awp_seq_ ?_
    refine awp_region_ 12 (by kernel_rfl) ?_
    refine rs0 (.bool true) (by kernel_rfl) ?_
    refine rnil (tn_ ?_)
    refine awp_ret_ (tr_ ?_)
    obtain rfl := Option.some.inj h
    exact ret_ [(.bool true)] (by simp) (by kernel_rfl) (p_one rfl (l_sc (by kernel_rfl)) p_nil) (by kernel_rfl) (by kernel_rfl)
  · have q7_ := of_decide_eq_false q7
    refine awp_condF_ q7 (by kernel_rfl) ?_
    refine awp_skip_ (tn_ ?_)
    refine awp_seq_ ?_
    obtain ⟨y10, h10, h⟩ := ob_some h
    refine awp_region_ 15 (by kernel_rfl) ?_
    refine rsl (.agg [(.int .i64 a2_0), (.tree (.pair .int (.pair .int .int)) a2_1), (.tree .int a2_2), (.tree .int a2_3)]) (by kernel_rfl) ?_
    refine rs0 (.int .i64 y4) (by kernel_rfl) ?_
    refine rcall (.int .i64 y10) [] [(.agg [(.int .i64 a2_0), (.tree (.pair .int (.pair .int .int)) a2_1), (.tree .int a2_2), (.tree .int a2_3)]), (.int .i64 y4)] _ (caps := []) (args0 := [(.agg [(.int .i64 a2_0), (.tree (.pair .int (.pair .int .int)) a2_1), (.tree .int a2_2), (.tree .int a2_3)]), (.int .i64 y4)]) trivial (by kernel_rfl) (by kernel_rfl) (by kernel_rfl) (by kernel_rfl) (ok_laws_szNetwork h10) hb_laws_szNetwork (by kernel_rfl) ?_
    refine rs0 (.int .i64 y10) (by kernel_rfl) ?_
    refine rnil (tn_ ?_)
    refine awp_seq_ ?_
    refine awp_seq_ ?_
    refine awp_region_ 17 (by kernel_rfl) ?_
    refine rs0 (.int .i64 y10) (by kernel_rfl) ?_
    refine rs0 (.bool (decide (y10 < 0))) (by kernel_rfl) ?_
    refine rnil (tn_ ?_)
    rcases cond_some h with ⟨q13, h⟩ | ⟨q13, h⟩
    · have q13_ := of_decide_eq_true q13
      refine awp_condT_ q13 (by kernel_rfl) ?_
      refine awp_seq_ ?_
      refine awp_region_ 18 (by kernel_rfl) ?_
      refine rs0 (.bool true) (by kernel_rfl) ?_
      refine rnil (tn_ ?_)
      refine awp_ret_ (tr_ ?_)
      obtain rfl := Option.some.inj h
      exact ret_ [(.bool true)] (by simp) (by kernel_rfl) (p_one rfl (l_sc (by kernel_rfl)) p_nil) (by kernel_rfl) (by kernel_rfl)
    · have q13_ := of_decide_eq_false q13
      refine awp_condF_ q13 (by kernel_rfl) ?_
      refine awp_skip_ (tn_ ?_)
      refine awp_seq_ ?_
      obtain ⟨y16, h16, h⟩ := ob_some h
      obtain ⟨y17, h17, h⟩ := ob_some h
      obtain ⟨y18, h18, h⟩ := ob_some h
      refine awp_regionD_ 29 (by kernel_rfl) ?_
      refine ds0 (.int .i64 a0) (by kernel_rfl) ?_
      refine dsl (.agg [(.int .i64 a1_0), (.tree (.pair .int (.pair .int .int)) a1_1), (.tree .int a1_2), (.tree .int a1_3)]) (by kernel_rfl) ?_
      refine dcall (.agg [(.int .i64 y16.1), (.own (512, 19) (.pair .int (.pair .int .int)) 0 y16.2.1.length), (.own (513, 19) .int 0 y16.2.2.1.length), (.own (514, 19) .int 0 y16.2.2.2.length)]) [((512, 19), some (.arr 59 (.pair .int (.pair .int .int)) y16.2.1)), ((513, 19), some (.arr 3 .int y16.2.2.1)), ((514, 19), some (.arr 3 .int y16.2.2.2))] [(.agg [(.int .i64 a1_0), (.tree (.pair .int (.pair .int .int)) a1_1), (.tree .int a1_2), (.tree .int a1_3)])] _ (caps := []) (args0 := [(.agg [(.int .i64 a1_0), (.tree (.pair .int (.pair .int .int)) a1_1), (.tree .int a1_2), (.tree .int a1_3)])]) trivial (by kernel_rfl) (by kernel_rfl) (by kernel_rfl) (by kernel_rfl) (ok_laws_toNetwork h16) hb_laws_toNetwork (by kernel_rfl) ?_
      refine dsl (.agg [(.int .i64 a2_0), (.tree (.pair .int (.pair .int .int)) a2_1), (.tree .int a2_2), (.tree .int a2_3)]) (by kernel_rfl) ?_
      refine dcall (.agg [(.int .i64 y17.1), (.own (544, 21) (.pair .int (.pair .int .int)) 0 y17.2.1.length), (.own (545, 21) .int 0 y17.2.2.1.length), (.own (546, 21) .int 0 y17.2.2.2.length)]) [((544, 21), some (.arr 59 (.pair .int (.pair .int .int)) y17.2.1)), ((545, 21), some (.arr 3 .int y17.2.2.1)), ((546, 21), some (.arr 3 .int y17.2.2.2))] [(.agg [(.int .i64 a2_0), (.tree (.pair .int (.pair .int .int)) a2_1), (.tree .int a2_2), (.tree .int a2_3)])] _ (caps := []) (args0 := [(.agg [(.int .i64 a2_0), (.tree (.pair .int (.pair .int .int)) a2_1), (.tree .int a2_2), (.tree .int a2_3)])]) trivial (by kernel_rfl) (by kernel_rfl) (by kernel_rfl) (by kernel_rfl) (ok_laws_toNetwork h17) hb_laws_toNetwork (by kernel_rfl) ?_
      refine dcall (.tup [(.agg [(.int .i64 y18.1), (.own (560, 22) (.pair .int (.pair .int .int)) 0 y18.2.1.length), (.own (561, 22) .int 0 y18.2.2.1.length), (.own (562, 22) .int 0 y18.2.2.2.1.length)]), (.bool y18.2.2.2.2)]) [((560, 22), some (.arr 59 (.pair .int (.pair .int .int)) y18.2.1)), ((561, 22), some (.arr 3 .int y18.2.2.1)), ((562, 22), some (.arr 3 .int y18.2.2.2.1))] [(.int .i64 a0), (.agg [(.int .i64 y16.1), (.own (512, 19) (.pair .int (.pair .int .int)) 0 y16.2.1.length), (.own (513, 19) .int 0 y16.2.2.1.length), (.own (514, 19) .int 0 y16.2.2.2.length)]), (.agg [(.int .i64 y17.1), (.own (544, 21) (.pair .int (.pair .int .int)) 0 y17.2.1.length), (.own (545, 21) .int 0 y17.2.2.1.length), (.own (546, 21) .int 0 y17.2.2.2.length)])] _ (caps := []) (args0 := [(.int .i64 a0), (.agg [(.int .i64 y16.1), (.tree (.pair .int (.pair .int .int)) y16.2.1), (.tree .int y16.2.2.1), (.tree .int y16.2.2.2)]), (.agg [(.int .i64 y17.1), (.tree (.pair .int (.pair .int .int)) y17.2.1), (.tree .int y17.2.2.1), (.tree .int y17.2.2.2)])]) trivial (by kernel_rfl) (by kernel_rfl) (gm_cons (by kernel_rfl) (gm_cons (gd_agg (gm_cons (by kernel_rfl) (gm_cons (gd_own (e := 59) (by kernel_rfl) rfl) (gm_cons (gd_own (e := 3) (by kernel_rfl) rfl) (gm_cons (gd_own (e := 3) (by kernel_rfl) rfl) gm_nil))))) (gm_cons (gd_agg (gm_cons (by kernel_rfl) (gm_cons (gd_own (e := 59) (by kernel_rfl) rfl) (gm_cons (gd_own (e := 3) (by kernel_rfl) rfl) (gm_cons (gd_own (e := 3) (by kernel_rfl) rfl) gm_nil))))) gm_nil))) (by kernel_rfl) (ok_spec_BesideNetworks h18) hb_spec_BesideNetworks (by kernel_rfl) ?_
      refine ds0 (.tup [(.agg [(.int .i64 y18.1), (.own (560, 22) (.pair .int (.pair .int .int)) 0 y18.2.1.length), (.own (561, 22) .int 0 y18.2.2.1.length), (.own (562, 22) .int 0 y18.2.2.2.1.length)]), (.bool y18.2.2.2.2)]) (by kernel_rfl) ?_
      refine ds0 (.agg [(.int .i64 y18.1), (.own (560, 22) (.pair .int (.pair .int .int)) 0 y18.2.1.length), (.own (561, 22) .int 0 y18.2.2.1.length), (.own (562, 22) .int 0 y18.2.2.2.1.length)]) (by kernel_rfl) ?_
      refine ds0 (.bool y18.2.2.2.2) (by kernel_rfl) ?_
      refine ds1 (.box (8, 26) 0) (8, 26) (.cells 30 [(.int .i64 0), .nils, .nils, .nils]) (by kernel_rfl) ?_
      refine dsn2 (8, 26) (8, 26) (.cells 30 [(.int .i64 y18.1), (.own (560, 22) (.pair .int (.pair .int .int)) 0 y18.2.1.length), (.own (561, 22) .int 0 y18.2.2.1.length), (.own (562, 22) .int 0 y18.2.2.2.1.length)]) (by kernel_rfl) ?_
      refine ds0 (.bool y18.2.2.2.2) (by kernel_rfl) ?_
      refine dnil (by kernel_rfl) (tn_ ?_)
      refine awp_seq_ ?_
      obtain ⟨y20, h20, h⟩ := ob_some h
      refine awp_region_ 33 (by kernel_rfl) ?_
      refine rsl (.agg [(.int .i64 a1_0), (.tree (.pair .int (.pair .int .int)) a1_1), (.tree .int a1_2), (.tree .int a1_3)]) (by kernel_rfl) ?_
      refine rcall (.agg [(.int .i64 y20.1), (.own (624, 30) (.pair .int (.pair .int .int)) 0 y20.2.1.length), (.own (625, 30) .int 0 y20.2.2.1.length), (.own (626, 30) .int 0 y20.2.2.2.length)]) [((624, 30), some (.arr 59 (.pair .int (.pair .int .int)) y20.2.1)), ((625, 30), some (.arr 3 .int y20.2.2.1)), ((626, 30), some (.arr 3 .int y20.2.2.2))] [(.agg [(.int .i64 a1_0), (.tree (.pair .int (.pair .int .int)) a1_1), (.tree .int a1_2), (.tree .int a1_3)])] _ (caps := []) (args0 := [(.agg [(.int .i64 a1_0), (.tree (.pair .int (.pair .int .int)) a1_1), (.tree .int a1_2), (.tree .int a1_3)])]) trivial (by kernel_rfl) (by kernel_rfl) (by kernel_rfl) (by kernel_rfl) (ok_laws_toNetwork h20) hb_laws_toNetwork (by kernel_rfl) ?_
      refine rs1 (.box (10, 31) 0) (10, 31) (.cells 30 [(.int .i64 0), .nils, .nils, .nils]) (by kernel_rfl) ?_
      refine rsn2 (10, 31) (10, 31) (.cells 30 [(.int .i64 y20.1), (.own (624, 30) (.pair .int (.pair .int .int)) 0 y20.2.1.length), (.own (625, 30) .int 0 y20.2.2.1.length), (.own (626, 30) .int 0 y20.2.2.2.length)]) (by kernel_rfl) ?_
      refine rnil (tn_ ?_)
      refine awp_seq_ ?_
      obtain ⟨y22, h22, h⟩ := ob_some h
      refine awp_region_ 37 (by kernel_rfl) ?_
      refine rsl (.agg [(.int .i64 a2_0), (.tree (.pair .int (.pair .int .int)) a2_1), (.tree .int a2_2), (.tree .int a2_3)]) (by kernel_rfl) ?_
      refine rcall (.agg [(.int .i64 y22.1), (.own (656, 34) (.pair .int (.pair .int .int)) 0 y22.2.1.length), (.own (657, 34) .int 0 y22.2.2.1.length), (.own (658, 34) .int 0 y22.2.2.2.length)]) [((656, 34), some (.arr 59 (.pair .int (.pair .int .int)) y22.2.1)), ((657, 34), some (.arr 3 .int y22.2.2.1)), ((658, 34), some (.arr 3 .int y22.2.2.2))] [(.agg [(.int .i64 a2_0), (.tree (.pair .int (.pair .int .int)) a2_1), (.tree .int a2_2), (.tree .int a2_3)])] _ (caps := []) (args0 := [(.agg [(.int .i64 a2_0), (.tree (.pair .int (.pair .int .int)) a2_1), (.tree .int a2_2), (.tree .int a2_3)])]) trivial (by kernel_rfl) (by kernel_rfl) (by kernel_rfl) (by kernel_rfl) (ok_laws_toNetwork h22) hb_laws_toNetwork (by kernel_rfl) ?_
      refine rs1 (.box (11, 35) 0) (11, 35) (.cells 30 [(.int .i64 0), .nils, .nils, .nils]) (by kernel_rfl) ?_
      refine rsn2 (11, 35) (11, 35) (.cells 30 [(.int .i64 y22.1), (.own (656, 34) (.pair .int (.pair .int .int)) 0 y22.2.1.length), (.own (657, 34) .int 0 y22.2.2.1.length), (.own (658, 34) .int 0 y22.2.2.2.length)]) (by kernel_rfl) ?_
      refine rnil (tn_ ?_)
      refine awp_seq_ ?_
      obtain ⟨y24, h24, h⟩ := ob_some h
      refine awp_region_ 47 (by kernel_rfl) ?_
      refine rs0 (.int .i64 a0) (by kernel_rfl) ?_
      refine rsl (.agg [(.int .i64 y20.1), (.own (624, 30) (.pair .int (.pair .int .int)) 0 y20.2.1.length), (.own (625, 30) .int 0 y20.2.2.1.length), (.own (626, 30) .int 0 y20.2.2.2.length)]) (by kernel_rfl) ?_
      refine rsl (.agg [(.int .i64 y22.1), (.own (656, 34) (.pair .int (.pair .int .int)) 0 y22.2.1.length), (.own (657, 34) .int 0 y22.2.2.1.length), (.own (658, 34) .int 0 y22.2.2.2.length)]) (by kernel_rfl) ?_
      refine rcall (.tup [(.agg [(.int .i64 y24.1), (.own (736, 40) (.pair .int (.pair .int .int)) 0 y24.2.1.length), (.own (737, 40) .int 0 y24.2.2.1.length), (.own (738, 40) .int 0 y24.2.2.2.1.length)]), (.bool y24.2.2.2.2)]) [((736, 40), some (.arr 59 (.pair .int (.pair .int .int)) y24.2.1)), ((737, 40), some (.arr 3 .int y24.2.2.1)), ((738, 40), some (.arr 3 .int y24.2.2.2.1))] [(.int .i64 a0), (.agg [(.int .i64 y20.1), (.own (624, 30) (.pair .int (.pair .int .int)) 0 y20.2.1.length), (.own (625, 30) .int 0 y20.2.2.1.length), (.own (626, 30) .int 0 y20.2.2.2.length)]), (.agg [(.int .i64 y22.1), (.own (656, 34) (.pair .int (.pair .int .int)) 0 y22.2.1.length), (.own (657, 34) .int 0 y22.2.2.1.length), (.own (658, 34) .int 0 y22.2.2.2.length)])] _ (caps := []) (args0 := [(.int .i64 a0), (.agg [(.int .i64 y20.1), (.tree (.pair .int (.pair .int .int)) y20.2.1), (.tree .int y20.2.2.1), (.tree .int y20.2.2.2)]), (.agg [(.int .i64 y22.1), (.tree (.pair .int (.pair .int .int)) y22.2.1), (.tree .int y22.2.2.1), (.tree .int y22.2.2.2)])]) trivial (by kernel_rfl) (by kernel_rfl) (gm_cons (by kernel_rfl) (gm_cons (gd_agg (gm_cons (by kernel_rfl) (gm_cons (gd_own (e := 59) (by kernel_rfl) rfl) (gm_cons (gd_own (e := 3) (by kernel_rfl) rfl) (gm_cons (gd_own (e := 3) (by kernel_rfl) rfl) gm_nil))))) (gm_cons (gd_agg (gm_cons (by kernel_rfl) (gm_cons (gd_own (e := 59) (by kernel_rfl) rfl) (gm_cons (gd_own (e := 3) (by kernel_rfl) rfl) (gm_cons (gd_own (e := 3) (by kernel_rfl) rfl) gm_nil))))) gm_nil))) (by kernel_rfl) (ok_impl_BesideNetworks h24) hb_impl_BesideNetworks (by kernel_rfl) ?_
      refine rs0 (.tup [(.agg [(.int .i64 y24.1), (.own (736, 40) (.pair .int (.pair .int .int)) 0 y24.2.1.length), (.own (737, 40) .int 0 y24.2.2.1.length), (.own (738, 40) .int 0 y24.2.2.2.1.length)]), (.bool y24.2.2.2.2)]) (by kernel_rfl) ?_
      refine rs0 (.agg [(.int .i64 y24.1), (.own (736, 40) (.pair .int (.pair .int .int)) 0 y24.2.1.length), (.own (737, 40) .int 0 y24.2.2.1.length), (.own (738, 40) .int 0 y24.2.2.2.1.length)]) (by kernel_rfl) ?_
      refine rs0 (.bool y24.2.2.2.2) (by kernel_rfl) ?_
      refine rs1 (.box (12, 44) 0) (12, 44) (.cells 30 [(.int .i64 0), .nils, .nils, .nils]) (by kernel_rfl) ?_
      refine rsn2 (12, 44) (12, 44) (.cells 30 [(.int .i64 y24.1), (.own (736, 40) (.pair .int (.pair .int .int)) 0 y24.2.1.length), (.own (737, 40) .int 0 y24.2.2.1.length), (.own (738, 40) .int 0 y24.2.2.2.1.length)]) (by kernel_rfl) ?_
      refine rs0 (.bool y24.2.2.2.2) (by kernel_rfl) ?_
      refine rnil (tn_ ?_)
      refine awp_seq_ ?_
      refine awp_seqB h (fun (l26_m57 : Bool) S_ => S_ = ⟨mkTm [(0, (.int .i64 a0)), (4, (.box (0, 1) 0)), (5, (.box (1, 1) 0)), (8, (.box (2, 1) 0)), (9, (.bool y18.2.2.2.2)), (10, (.box (3, 1) 0)), (11, (.box (4, 1) 0)), (12, (.box (5, 1) 0)), (13, (.bool y24.2.2.2.2)), (57, (.bool l26_m57))], mkOb (someL [((0, 1), .cells 25 [(.int .i64 a1_0), (.tree (.pair .int (.pair .int .int)) a1_1), (.tree .int a1_2), (.tree .int a1_3)]), ((1, 1), .cells 25 [(.int .i64 a2_0), (.tree (.pair .int (.pair .int .int)) a2_1), (.tree .int a2_2), (.tree .int a2_3)]), ((2, 1), .cells 30 [(.int .i64 y18.1), (.own (6, 1) (.pair .int (.pair .int .int)) 0 y18.2.1.length), (.own (7, 1) .int 0 y18.2.2.1.length), (.own (8, 1) .int 0 y18.2.2.2.1.length)]), ((3, 1), .cells 30 [(.int .i64 y20.1), (.own (9, 1) (.pair .int (.pair .int .int)) 0 y20.2.1.length), (.own (10, 1) .int 0 y20.2.2.1.length), (.own (11, 1) .int 0 y20.2.2.2.length)]), ((4, 1), .cells 30 [(.int .i64 y22.1), (.own (12, 1) (.pair .int (.pair .int .int)) 0 y22.2.1.length), (.own (13, 1) .int 0 y22.2.2.1.length), (.own (14, 1) .int 0 y22.2.2.2.length)]), ((5, 1), .cells 30 [(.int .i64 y24.1), (.own (15, 1) (.pair .int (.pair .int .int)) 0 y24.2.1.length), (.own (16, 1) .int 0 y24.2.2.1.length), (.own (17, 1) .int 0 y24.2.2.2.1.length)]), ((6, 1), .arr 59 (.pair .int (.pair .int .int)) y18.2.1), ((7, 1), .arr 3 .int y18.2.2.1), ((8, 1), .arr 3 .int y18.2.2.2.1), ((9, 1), .arr 59 (.pair .int (.pair .int .int)) y20.2.1), ((10, 1), .arr 3 .int y20.2.2.1), ((11, 1), .arr 3 .int y20.2.2.2), ((12, 1), .arr 59 (.pair .int (.pair .int .int)) y22.2.1), ((13, 1), .arr 3 .int y22.2.2.1), ((14, 1), .arr 3 .int y22.2.2.2), ((15, 1), .arr 59 (.pair .int (.pair .int .int)) y24.2.1), ((16, 1), .arr 3 .int y24.2.2.1), ((17, 1), .arr 3 .int y24.2.2.2.1)]), 2⟩) ?_ ?_
      · intro v_ h
        obtain ⟨y27, h27, h⟩ := ob_some h
        rcases cond_some h with ⟨q28, h⟩ | ⟨q28, h⟩
        · refine awp_region_ 56 (by kernel_rfl) ?_
          refine rsl (.agg [(.int .i64 y24.1), (.own (736, 40) (.pair .int (.pair .int .int)) 0 y24.2.1.length), (.own (737, 40) .int 0 y24.2.2.1.length), (.own (738, 40) .int 0 y24.2.2.2.1.length)]) (by kernel_rfl) ?_
          refine rsl (.agg [(.int .i64 y18.1), (.own (560, 22) (.pair .int (.pair .int .int)) 0 y18.2.1.length), (.own (561, 22) .int 0 y18.2.2.1.length), (.own (562, 22) .int 0 y18.2.2.2.1.length)]) (by kernel_rfl) ?_
          refine rcall (.bool y27) [] [(.agg [(.int .i64 y24.1), (.own (736, 40) (.pair .int (.pair .int .int)) 0 y24.2.1.length), (.own (737, 40) .int 0 y24.2.2.1.length), (.own (738, 40) .int 0 y24.2.2.2.1.length)]), (.agg [(.int .i64 y18.1), (.own (560, 22) (.pair .int (.pair .int .int)) 0 y18.2.1.length), (.own (561, 22) .int 0 y18.2.2.1.length), (.own (562, 22) .int 0 y18.2.2.2.1.length)])] _ (caps := []) (args0 := [(.agg [(.int .i64 y24.1), (.tree (.pair .int (.pair .int .int)) y24.2.1), (.tree .int y24.2.2.1), (.tree .int y24.2.2.2.1)]), (.agg [(.int .i64 y18.1), (.tree (.pair .int (.pair .int .int)) y18.2.1), (.tree .int y18.2.2.1), (.tree .int y18.2.2.2.1)])]) trivial (by kernel_rfl) (by kernel_rfl) (gm_cons (gd_agg (gm_cons (by kernel_rfl) (gm_cons (gd_own (e := 59) (by kernel_rfl) rfl) (gm_cons (gd_own (e := 3) (by kernel_rfl) rfl) (gm_cons (gd_own (e := 3) (by kernel_rfl) rfl) gm_nil))))) (gm_cons (gd_agg (gm_cons (by kernel_rfl) (gm_cons (gd_own (e := 59) (by kernel_rfl) rfl) (gm_cons (gd_own (e := 3) (by kernel_rfl) rfl) (gm_cons (gd_own (e := 3) (by kernel_rfl) rfl) gm_nil))))) gm_nil)) (by kernel_rfl) (ok_laws_eqNetwork h27) hb_laws_eqNetwork (by kernel_rfl) ?_
          refine rs0 (.bool (!y27)) (by kernel_rfl) ?_
          refine rs0 (.bool (!y27)) (by kernel_rfl) ?_
          refine rs0 .any (s_skip (by kernel_rfl) q28) ?_
          refine rs0 .any (s_skip (by kernel_rfl) q28) ?_
          refine rs0 .any (s_skip (by kernel_rfl) q28) ?_
          refine rs0 (.bool true) (s_pickT (by kernel_rfl) q28) ?_
          refine rnil (tn_ ?_)
          obtain rfl := Option.some.inj h
          exact ⟨_, (weak_ren (renF [((0, 1), (4, 1)), ((1, 1), (5, 2)), ((2, 1), (8, 26)), ((6, 1), (560, 22)), ((7, 1), (561, 22)), ((8, 1), (562, 22)), ((3, 1), (10, 31)), ((9, 1), (624, 30)), ((10, 1), (625, 30)), ((11, 1), (626, 30)), ((4, 1), (11, 35)), ((12, 1), (656, 34)), ((13, 1), (657, 34)), ((14, 1), (658, 34)), ((5, 1), (12, 44)), ((15, 1), (736, 40)), ((16, 1), (737, 40)), ((17, 1), (738, 40))]) (by kernel_rfl) (by kernel_rfl) (by kernel_rfl)), rfl⟩
        · refine awp_region_ 56 (by kernel_rfl) ?_
          refine rsl (.agg [(.int .i64 y24.1), (.own (736, 40) (.pair .int (.pair .int .int)) 0 y24.2.1.length), (.own (737, 40) .int 0 y24.2.2.1.length), (.own (738, 40) .int 0 y24.2.2.2.1.length)]) (by kernel_rfl) ?_
          refine rsl (.agg [(.int .i64 y18.1), (.own (560, 22) (.pair .int (.pair .int .int)) 0 y18.2.1.length), (.own (561, 22) .int 0 y18.2.2.1.length), (.own (562, 22) .int 0 y18.2.2.2.1.length)]) (by kernel_rfl) ?_
          refine rcall (.bool y27) [] [(.agg [(.int .i64 y24.1), (.own (736, 40) (.pair .int (.pair .int .int)) 0 y24.2.1.length), (.own (737, 40) .int 0 y24.2.2.1.length), (.own (738, 40) .int 0 y24.2.2.2.1.length)]), (.agg [(.int .i64 y18.1), (.own (560, 22) (.pair .int (.pair .int .int)) 0 y18.2.1.length), (.own (561, 22) .int 0 y18.2.2.1.length), (.own (562, 22) .int 0 y18.2.2.2.1.length)])] _ (caps := []) (args0 := [(.agg [(.int .i64 y24.1), (.tree (.pair .int (.pair .int .int)) y24.2.1), (.tree .int y24.2.2.1), (.tree .int y24.2.2.2.1)]), (.agg [(.int .i64 y18.1), (.tree (.pair .int (.pair .int .int)) y18.2.1), (.tree .int y18.2.2.1), (.tree .int y18.2.2.2.1)])]) trivial (by kernel_rfl) (by kernel_rfl) (gm_cons (gd_agg (gm_cons (by kernel_rfl) (gm_cons (gd_own (e := 59) (by kernel_rfl) rfl) (gm_cons (gd_own (e := 3) (by kernel_rfl) rfl) (gm_cons (gd_own (e := 3) (by kernel_rfl) rfl) gm_nil))))) (gm_cons (gd_agg (gm_cons (by kernel_rfl) (gm_cons (gd_own (e := 59) (by kernel_rfl) rfl) (gm_cons (gd_own (e := 3) (by kernel_rfl) rfl) (gm_cons (gd_own (e := 3) (by kernel_rfl) rfl) gm_nil))))) gm_nil)) (by kernel_rfl) (ok_laws_eqNetwork h27) hb_laws_eqNetwork (by kernel_rfl) ?_
          refine rs0 (.bool (!y27)) (by kernel_rfl) ?_
          refine rs0 (.bool (!y27)) (by kernel_rfl) ?_
          refine rs0 (.bool y24.2.2.2.2) (s_gd (by kernel_rfl) q28 (by kernel_rfl)) ?_
          refine rs0 (.bool y18.2.2.2.2) (s_gd (by kernel_rfl) q28 (by kernel_rfl)) ?_
          refine rs0 (.bool (y24.2.2.2.2 != y18.2.2.2.2)) (s_gd (by kernel_rfl) q28 (by kernel_rfl)) ?_
          refine rs0 (.bool (y24.2.2.2.2 != y18.2.2.2.2)) (s_pickF (by kernel_rfl) q28) ?_
          refine rnil (tn_ ?_)
          obtain rfl := Option.some.inj h
          exact ⟨_, (weak_ren (renF [((0, 1), (4, 1)), ((1, 1), (5, 2)), ((2, 1), (8, 26)), ((6, 1), (560, 22)), ((7, 1), (561, 22)), ((8, 1), (562, 22)), ((3, 1), (10, 31)), ((9, 1), (624, 30)), ((10, 1), (625, 30)), ((11, 1), (626, 30)), ((4, 1), (11, 35)), ((12, 1), (656, 34)), ((13, 1), (657, 34)), ((14, 1), (658, 34)), ((5, 1), (12, 44)), ((15, 1), (736, 40)), ((16, 1), (737, 40)), ((17, 1), (738, 40))]) (by kernel_rfl) (by kernel_rfl) (by kernel_rfl)), rfl⟩
      · rintro l26_m57 _ rfl h
        (try dsimp only at h)
        rcases cond_some h with ⟨q29, h⟩ | ⟨q29, h⟩
        · refine awp_condT_ q29 (by kernel_rfl) ?_
          refine awp_seq_ ?_
          refine awp_region_ 3 (by kernel_rfl) ?_
          refine rs0 (.bool false) (by kernel_rfl) ?_
          refine rnil (tn_ ?_)
          refine awp_ret_ (tr_ ?_)
          obtain rfl := Option.some.inj h
          exact ret_ [(.bool false)] (by simp) (by kernel_rfl) (p_one rfl (l_sc (by kernel_rfl)) p_nil) (by kernel_rfl) (by kernel_rfl)
        · refine awp_condF_ q29 (by kernel_rfl) ?_
          refine awp_skip_ (tn_ ?_)
          refine awp_seq_ ?_
          refine awp_seq_ ?_
          obtain ⟨y33, h33, h⟩ := ob_some h
          obtain ⟨y34, h34, h⟩ := ob_some h
          refine awp_regionD_ 7 (by kernel_rfl) ?_
          refine dsl (.agg [(.int .i64 y20.1), (.own (9, 1) (.pair .int (.pair .int .int)) 0 y20.2.1.length), (.own (10, 1) .int 0 y20.2.2.1.length), (.own (11, 1) .int 0 y20.2.2.2.length)]) (by kernel_rfl) ?_
          refine dsl (.agg [(.int .i64 a1_0), (.tree (.pair .int (.pair .int .int)) a1_1), (.tree .int a1_2), (.tree .int a1_3)]) (by kernel_rfl) ?_
          refine dcall (.agg [(.int .i64 y33.1), (.own (960, 4) (.pair .int (.pair .int .int)) 0 y33.2.1.length), (.own (961, 4) .int 0 y33.2.2.1.length), (.own (962, 4) .int 0 y33.2.2.2.length)]) [((960, 4), some (.arr 59 (.pair .int (.pair .int .int)) y33.2.1)), ((961, 4), some (.arr 3 .int y33.2.2.1)), ((962, 4), some (.arr 3 .int y33.2.2.2))] [(.agg [(.int .i64 a1_0), (.tree (.pair .int (.pair .int .int)) a1_1), (.tree .int a1_2), (.tree .int a1_3)])] _ (caps := []) (args0 := [(.agg [(.int .i64 a1_0), (.tree (.pair .int (.pair .int .int)) a1_1), (.tree .int a1_2), (.tree .int a1_3)])]) trivial (by kernel_rfl) (by kernel_rfl) (by kernel_rfl) (by kernel_rfl) (ok_laws_toNetwork h33) hb_laws_toNetwork (by kernel_rfl) ?_
          refine dcall (.bool y34) [] [(.agg [(.int .i64 y20.1), (.own (9, 1) (.pair .int (.pair .int .int)) 0 y20.2.1.length), (.own (10, 1) .int 0 y20.2.2.1.length), (.own (11, 1) .int 0 y20.2.2.2.length)]), (.agg [(.int .i64 y33.1), (.own (960, 4) (.pair .int (.pair .int .int)) 0 y33.2.1.length), (.own (961, 4) .int 0 y33.2.2.1.length), (.own (962, 4) .int 0 y33.2.2.2.length)])] _ (caps := []) (args0 := [(.agg [(.int .i64 y20.1), (.tree (.pair .int (.pair .int .int)) y20.2.1), (.tree .int y20.2.2.1), (.tree .int y20.2.2.2)]), (.agg [(.int .i64 y33.1), (.tree (.pair .int (.pair .int .int)) y33.2.1), (.tree .int y33.2.2.1), (.tree .int y33.2.2.2)])]) trivial (by kernel_rfl) (by kernel_rfl) (gm_cons (gd_agg (gm_cons (by kernel_rfl) (gm_cons (gd_own (e := 59) (by kernel_rfl) rfl) (gm_cons (gd_own (e := 3) (by kernel_rfl) rfl) (gm_cons (gd_own (e := 3) (by kernel_rfl) rfl) gm_nil))))) (gm_cons (gd_agg (gm_cons (by kernel_rfl) (gm_cons (gd_own (e := 59) (by kernel_rfl) rfl) (gm_cons (gd_own (e := 3) (by kernel_rfl) rfl) (gm_cons (gd_own (e := 3) (by kernel_rfl) rfl) gm_nil))))) gm_nil)) (by kernel_rfl) (ok_laws_eqNetwork h34) hb_laws_eqNetwork (by kernel_rfl) ?_
          refine ds0 (.bool (!y34)) (by kernel_rfl) ?_
          refine dnil (by kernel_rfl) (tn_ ?_)
          rcases cond_some h with ⟨q35, h⟩ | ⟨q35, h⟩
          · refine awp_condT_ q35 (by kernel_rfl) ?_
            refine awp_seq_ ?_
            refine awp_region_ 8 (by kernel_rfl) ?_
            refine rs0 (.bool false) (by kernel_rfl) ?_
            refine rnil (tn_ ?_)
            refine awp_ret_ (tr_ ?_)
            obtain rfl := Option.some.inj h
            exact ret_ [(.bool false)] (by simp) (by kernel_rfl) (p_one rfl (l_sc (by kernel_rfl)) p_nil) (by kernel_rfl) (by kernel_rfl)
          · refine awp_condF_ q35 (by kernel_rfl) ?_
            refine awp_skip_ (tn_ ?_)
            refine awp_seq_ ?_
            refine awp_seq_ ?_
            obtain ⟨y39, h39, h⟩ := ob_some h
            obtain ⟨y40, h40, h⟩ := ob_some h
            refine awp_regionD_ 12 (by kernel_rfl) ?_
            refine dsl (.agg [(.int .i64 y22.1), (.own (12, 1) (.pair .int (.pair .int .int)) 0 y22.2.1.length), (.own (13, 1) .int 0 y22.2.2.1.length), (.own (14, 1) .int 0 y22.2.2.2.length)]) (by kernel_rfl) ?_
            refine dsl (.agg [(.int .i64 a2_0), (.tree (.pair .int (.pair .int .int)) a2_1), (.tree .int a2_2), (.tree .int a2_3)]) (by kernel_rfl) ?_
            refine dcall (.agg [(.int .i64 y39.1), (.own (1040, 9) (.pair .int (.pair .int .int)) 0 y39.2.1.length), (.own (1041, 9) .int 0 y39.2.2.1.length), (.own (1042, 9) .int 0 y39.2.2.2.length)]) [((1040, 9), some (.arr 59 (.pair .int (.pair .int .int)) y39.2.1)), ((1041, 9), some (.arr 3 .int y39.2.2.1)), ((1042, 9), some (.arr 3 .int y39.2.2.2))] [(.agg [(.int .i64 a2_0), (.tree (.pair .int (.pair .int .int)) a2_1), (.tree .int a2_2), (.tree .int a2_3)])] _ (caps := []) (args0 := [(.agg [(.int .i64 a2_0), (.tree (.pair .int (.pair .int .int)) a2_1), (.tree .int a2_2), (.tree .int a2_3)])]) trivial (by kernel_rfl) (by kernel_rfl) (by kernel_rfl) (by kernel_rfl) (ok_laws_toNetwork h39) hb_laws_toNetwork (by kernel_rfl) ?_
            refine dcall (.bool y40) [] [(.agg [(.int .i64 y22.1), (.own (12, 1) (.pair .int (.pair .int .int)) 0 y22.2.1.length), (.own (13, 1) .int 0 y22.2.2.1.length), (.own (14, 1) .int 0 y22.2.2.2.length)]), (.agg [(.int .i64 y39.1), (.own (1040, 9) (.pair .int (.pair .int .int)) 0 y39.2.1.length), (.own (1041, 9) .int 0 y39.2.2.1.length), (.own (1042, 9) .int 0 y39.2.2.2.length)])] _ (caps := []) (args0 := [(.agg [(.int .i64 y22.1), (.tree (.pair .int (.pair .int .int)) y22.2.1), (.tree .int y22.2.2.1), (.tree .int y22.2.2.2)]), (.agg [(.int .i64 y39.1), (.tree (.pair .int (.pair .int .int)) y39.2.1), (.tree .int y39.2.2.1), (.tree .int y39.2.2.2)])]) trivial (by kernel_rfl) (by kernel_rfl) (gm_cons (gd_agg (gm_cons (by kernel_rfl) (gm_cons (gd_own (e := 59) (by kernel_rfl) rfl) (gm_cons (gd_own (e := 3) (by kernel_rfl) rfl) (gm_cons (gd_own (e := 3) (by kernel_rfl) rfl) gm_nil))))) (gm_cons (gd_agg (gm_cons (by kernel_rfl) (gm_cons (gd_own (e := 59) (by kernel_rfl) rfl) (gm_cons (gd_own (e := 3) (by kernel_rfl) rfl) (gm_cons (gd_own (e := 3) (by kernel_rfl) rfl) gm_nil))))) gm_nil)) (by kernel_rfl) (ok_laws_eqNetwork h40) hb_laws_eqNetwork (by kernel_rfl) ?_
            refine ds0 (.bool (!y40)) (by kernel_rfl) ?_
            refine dnil (by kernel_rfl) (tn_ ?_)
            rcases cond_some h with ⟨q41, h⟩ | ⟨q41, h⟩
            · refine awp_condT_ q41 (by kernel_rfl) ?_
              refine awp_seq_ ?_
              refine awp_region_ 13 (by kernel_rfl) ?_
              refine rs0 (.bool false) (by kernel_rfl) ?_
              refine rnil (tn_ ?_)
              refine awp_ret_ (tr_ ?_)
              obtain rfl := Option.some.inj h
              exact ret_ [(.bool false)] (by simp) (by kernel_rfl) (p_one rfl (l_sc (by kernel_rfl)) p_nil) (by kernel_rfl) (by kernel_rfl)
            · refine awp_condF_ q41 (by kernel_rfl) ?_
              refine awp_skip_ (tn_ ?_)
              refine awp_seq_ ?_
              refine awp_region_ 13 (by kernel_rfl) ?_
              refine rs0 (.int .i64 1) (by kernel_rfl) ?_
              refine rnil (tn_ ?_)
              refine awp_seq_ ?_
              obtain ⟨y45, h45, h⟩ := ob_some h
              obtain ⟨g46, h⟩ := og_some h
              obtain ⟨g47, h⟩ := og_some h
              obtain ⟨g48, h⟩ := og_some h
              refine awp_region_ 17 (by kernel_rfl) ?_
              refine rsl (.agg [(.int .i64 y20.1), (.own (9, 1) (.pair .int (.pair .int .int)) 0 y20.2.1.length), (.own (10, 1) .int 0 y20.2.2.1.length), (.own (11, 1) .int 0 y20.2.2.2.length)]) (by kernel_rfl) ?_
              refine rs0 (.int .i64 1) (by kernel_rfl) ?_
              refine rcallM (.int .i64 y45.2.2.2) [((0, 0), (9, 1)), ((1, 0), (10, 1)), ((2, 0), (11, 1))] [(.agg [(.int .i64 y20.1), (.own (9, 1) (.pair .int (.pair .int .int)) 0 y20.2.1.length), (.own (10, 1) .int 0 y20.2.2.1.length), (.own (11, 1) .int 0 y20.2.2.2.length)]), (.int .i64 1)] (caps := []) trivial (by kernel_rfl) (by kernel_rfl) (ok_laws_markNetwork h45 rfl rfl rfl) (by kernel_rfl) (by kernel_rfl) (by kernel_rfl) (by kernel_rfl) (by kernel_rfl) hb_laws_markNetwork ?_
              refine rs0 (.int .i64 y45.2.2.2) (by kernel_rfl) ?_
              refine rnil (tn_ ?_)
              refine awp_seq_ ?_
              obtain ⟨y50, h50, h⟩ := ob_some h
              obtain ⟨g51, h⟩ := og_some h
              obtain ⟨g52, h⟩ := og_some h
              obtain ⟨g53, h⟩ := og_some h
              refine awp_region_ 21 (by kernel_rfl) ?_
              refine rsl (.agg [(.int .i64 y22.1), (.own (12, 1) (.pair .int (.pair .int .int)) 0 y22.2.1.length), (.own (13, 1) .int 0 y22.2.2.1.length), (.own (14, 1) .int 0 y22.2.2.2.length)]) (by kernel_rfl) ?_
              refine rs0 (.int .i64 y45.2.2.2) (by kernel_rfl) ?_
              refine rcallM (.int .i64 y50.2.2.2) [((0, 0), (12, 1)), ((1, 0), (13, 1)), ((2, 0), (14, 1))] [(.agg [(.int .i64 y22.1), (.own (12, 1) (.pair .int (.pair .int .int)) 0 y22.2.1.length), (.own (13, 1) .int 0 y22.2.2.1.length), (.own (14, 1) .int 0 y22.2.2.2.length)]), (.int .i64 y45.2.2.2)] (caps := []) trivial (by kernel_rfl) (by kernel_rfl) (ok_laws_markNetwork h50 rfl rfl rfl) (by kernel_rfl) (by kernel_rfl) (by kernel_rfl) (by kernel_rfl) (by kernel_rfl) hb_laws_markNetwork ?_
              refine rs0 (.int .i64 y50.2.2.2) (by kernel_rfl) ?_
              refine rnil (tn_ ?_)
              refine awp_seq_ ?_
              refine awp_seqB h (fun (l55_m86 : Bool) S_ => S_ = ⟨mkTm [(0, (.int .i64 a0)), (4, (.box (0, 1) 0)), (5, (.box (1, 1) 0)), (8, (.box (2, 1) 0)), (9, (.bool y18.2.2.2.2)), (12, (.box (3, 1) 0)), (86, (.bool l55_m86))], mkOb (someL [((0, 1), .cells 25 [(.int .i64 a1_0), (.tree (.pair .int (.pair .int .int)) a1_1), (.tree .int a1_2), (.tree .int a1_3)]), ((1, 1), .cells 25 [(.int .i64 a2_0), (.tree (.pair .int (.pair .int .int)) a2_1), (.tree .int a2_2), (.tree .int a2_3)]), ((2, 1), .cells 30 [(.int .i64 y18.1), (.own (4, 1) (.pair .int (.pair .int .int)) 0 y18.2.1.length), (.own (5, 1) .int 0 y18.2.2.1.length), (.own (6, 1) .int 0 y18.2.2.2.1.length)]), ((3, 1), .cells 30 [(.int .i64 y24.1), (.own (7, 1) (.pair .int (.pair .int .int)) 0 y24.2.1.length), (.own (8, 1) .int 0 y24.2.2.1.length), (.own (9, 1) .int 0 y24.2.2.2.1.length)]), ((4, 1), .arr 59 (.pair .int (.pair .int .int)) y18.2.1), ((5, 1), .arr 3 .int y18.2.2.1), ((6, 1), .arr 3 .int y18.2.2.2.1), ((7, 1), .arr 59 (.pair .int (.pair .int .int)) y24.2.1), ((8, 1), .arr 3 .int y24.2.2.1), ((9, 1), .arr 3 .int y24.2.2.2.1)]), 2⟩) ?_ ?_
              · intro v_ h
                rcases cond_some h with ⟨q56, h⟩ | ⟨q56, h⟩
                · have q56_ := of_decide_eq_true q56
                  refine awp_region_ 34 (by kernel_rfl) ?_
                  refine rs0 (.int .i64 y50.2.2.2) (by kernel_rfl) ?_
                  refine rs0 (.bool (decide (y50.2.2.2 < 0))) (by kernel_rfl) ?_
                  refine rs0 (.bool (decide (y50.2.2.2 < 0))) (by kernel_rfl) ?_
                  refine rs0 .any (s_skip (by kernel_rfl) q56) ?_
                  refine rs0 .any (s_skip (by kernel_rfl) q56) ?_
                  refine rs0 .any (s_skip (by kernel_rfl) q56) ?_
                  refine rs0 .any (s_skip (by kernel_rfl) q56) ?_
                  refine rs0 (.bool true) (s_pickT (by kernel_rfl) q56) ?_
                  refine rs0 (.bool true) (by kernel_rfl) ?_
                  refine rs0 .any (by kernel_rfl) ?_
                  refine rs0 .any (by kernel_rfl) ?_
                  refine rs0 .any (by kernel_rfl) ?_
                  refine rs0 (.bool true) (by kernel_rfl) ?_
                  refine rnil (tn_ ?_)
                  obtain rfl := Option.some.inj h
                  exact ⟨_, (weak_ren (renF [((4, 1), (6, 1)), ((5, 1), (7, 1)), ((6, 1), (8, 1)), ((3, 1), (5, 1)), ((7, 1), (15, 1)), ((8, 1), (16, 1)), ((9, 1), (17, 1))]) (by kernel_rfl) (by kernel_rfl) (by kernel_rfl)), rfl⟩
                · have q56_ := of_decide_eq_false q56
                  obtain ⟨y57, h57, h⟩ := ob_some h
                  rcases cond_some h with ⟨q58, h⟩ | ⟨q58, h⟩
                  · refine awp_region_ 34 (by kernel_rfl) ?_
                    refine rs0 (.int .i64 y50.2.2.2) (by kernel_rfl) ?_
                    refine rs0 (.bool (decide (y50.2.2.2 < 0))) (by kernel_rfl) ?_
                    refine rs0 (.bool (decide (y50.2.2.2 < 0))) (by kernel_rfl) ?_
                    refine rsl (.agg [(.int .i64 y24.1), (.own (15, 1) (.pair .int (.pair .int .int)) 0 y24.2.1.length), (.own (16, 1) .int 0 y24.2.2.1.length), (.own (17, 1) .int 0 y24.2.2.2.1.length)]) (s_gd (by kernel_rfl) q56 (by kernel_rfl)) ?_
                    refine rsl (.agg [(.int .i64 y18.1), (.own (6, 1) (.pair .int (.pair .int .int)) 0 y18.2.1.length), (.own (7, 1) .int 0 y18.2.2.1.length), (.own (8, 1) .int 0 y18.2.2.2.1.length)]) (s_gd (by kernel_rfl) q56 (by kernel_rfl)) ?_
                    refine rcall (.bool y57) [] [(.agg [(.int .i64 y24.1), (.own (15, 1) (.pair .int (.pair .int .int)) 0 y24.2.1.length), (.own (16, 1) .int 0 y24.2.2.1.length), (.own (17, 1) .int 0 y24.2.2.2.1.length)]), (.agg [(.int .i64 y18.1), (.own (6, 1) (.pair .int (.pair .int .int)) 0 y18.2.1.length), (.own (7, 1) .int 0 y18.2.2.1.length), (.own (8, 1) .int 0 y18.2.2.2.1.length)])] _ (caps := []) (args0 := [(.agg [(.int .i64 y24.1), (.tree (.pair .int (.pair .int .int)) y24.2.1), (.tree .int y24.2.2.1), (.tree .int y24.2.2.2.1)]), (.agg [(.int .i64 y18.1), (.tree (.pair .int (.pair .int .int)) y18.2.1), (.tree .int y18.2.2.1), (.tree .int y18.2.2.2.1)])]) (gdOK_b (by kernel_rfl) q56) (by kernel_rfl) (by kernel_rfl) (gm_cons (gd_agg (gm_cons (by kernel_rfl) (gm_cons (gd_own (e := 59) (by kernel_rfl) rfl) (gm_cons (gd_own (e := 3) (by kernel_rfl) rfl) (gm_cons (gd_own (e := 3) (by kernel_rfl) rfl) gm_nil))))) (gm_cons (gd_agg (gm_cons (by kernel_rfl) (gm_cons (gd_own (e := 59) (by kernel_rfl) rfl) (gm_cons (gd_own (e := 3) (by kernel_rfl) rfl) (gm_cons (gd_own (e := 3) (by kernel_rfl) rfl) gm_nil))))) gm_nil)) (by kernel_rfl) (ok_laws_eqNetwork h57) hb_laws_eqNetwork (by kernel_rfl) ?_
                    refine rs0 (.bool (!y57)) (s_gd (by kernel_rfl) q56 (by kernel_rfl)) ?_
                    refine rs0 (.bool (!y57)) (s_pickF (by kernel_rfl) q56) ?_
                    refine rs0 (.bool (!y57)) (by kernel_rfl) ?_
                    refine rs0 .any (s_skip (by kernel_rfl) q58) ?_
                    refine rs0 .any (s_skip (by kernel_rfl) q58) ?_
                    refine rs0 .any (s_skip (by kernel_rfl) q58) ?_
                    refine rs0 (.bool true) (s_pickT (by kernel_rfl) q58) ?_
                    refine rnil (tn_ ?_)
                    obtain rfl := Option.some.inj h
                    exact ⟨_, (weak_ren (renF [((4, 1), (6, 1)), ((5, 1), (7, 1)), ((6, 1), (8, 1)), ((3, 1), (5, 1)), ((7, 1), (15, 1)), ((8, 1), (16, 1)), ((9, 1), (17, 1))]) (by kernel_rfl) (by kernel_rfl) (by kernel_rfl)), rfl⟩
                  · refine awp_region_ 34 (by kernel_rfl) ?_
                    refine rs0 (.int .i64 y50.2.2.2) (by kernel_rfl) ?_
                    refine rs0 (.bool (decide (y50.2.2.2 < 0))) (by kernel_rfl) ?_
                    refine rs0 (.bool (decide (y50.2.2.2 < 0))) (by kernel_rfl) ?_
                    refine rsl (.agg [(.int .i64 y24.1), (.own (15, 1) (.pair .int (.pair .int .int)) 0 y24.2.1.length), (.own (16, 1) .int 0 y24.2.2.1.length), (.own (17, 1) .int 0 y24.2.2.2.1.length)]) (s_gd (by kernel_rfl) q56 (by kernel_rfl)) ?_
                    refine rsl (.agg [(.int .i64 y18.1), (.own (6, 1) (.pair .int (.pair .int .int)) 0 y18.2.1.length), (.own (7, 1) .int 0 y18.2.2.1.length), (.own (8, 1) .int 0 y18.2.2.2.1.length)]) (s_gd (by kernel_rfl) q56 (by kernel_rfl)) ?_
                    refine rcall (.bool y57) [] [(.agg [(.int .i64 y24.1), (.own (15, 1) (.pair .int (.pair .int .int)) 0 y24.2.1.length), (.own (16, 1) .int 0 y24.2.2.1.length), (.own (17, 1) .int 0 y24.2.2.2.1.length)]), (.agg [(.int .i64 y18.1), (.own (6, 1) (.pair .int (.pair .int .int)) 0 y18.2.1.length), (.own (7, 1) .int 0 y18.2.2.1.length), (.own (8, 1) .int 0 y18.2.2.2.1.length)])] _ (caps := []) (args0 := [(.agg [(.int .i64 y24.1), (.tree (.pair .int (.pair .int .int)) y24.2.1), (.tree .int y24.2.2.1), (.tree .int y24.2.2.2.1)]), (.agg [(.int .i64 y18.1), (.tree (.pair .int (.pair .int .int)) y18.2.1), (.tree .int y18.2.2.1), (.tree .int y18.2.2.2.1)])]) (gdOK_b (by kernel_rfl) q56) (by kernel_rfl) (by kernel_rfl) (gm_cons (gd_agg (gm_cons (by kernel_rfl) (gm_cons (gd_own (e := 59) (by kernel_rfl) rfl) (gm_cons (gd_own (e := 3) (by kernel_rfl) rfl) (gm_cons (gd_own (e := 3) (by kernel_rfl) rfl) gm_nil))))) (gm_cons (gd_agg (gm_cons (by kernel_rfl) (gm_cons (gd_own (e := 59) (by kernel_rfl) rfl) (gm_cons (gd_own (e := 3) (by kernel_rfl) rfl) (gm_cons (gd_own (e := 3) (by kernel_rfl) rfl) gm_nil))))) gm_nil)) (by kernel_rfl) (ok_laws_eqNetwork h57) hb_laws_eqNetwork (by kernel_rfl) ?_
                    refine rs0 (.bool (!y57)) (s_gd (by kernel_rfl) q56 (by kernel_rfl)) ?_
                    refine rs0 (.bool (!y57)) (s_pickF (by kernel_rfl) q56) ?_
                    refine rs0 (.bool (!y57)) (by kernel_rfl) ?_
                    refine rs0 (.bool y24.2.2.2.2) (s_gd (by kernel_rfl) q58 (by kernel_rfl)) ?_
                    refine rs0 (.bool y18.2.2.2.2) (s_gd (by kernel_rfl) q58 (by kernel_rfl)) ?_
                    refine rs0 (.bool (y24.2.2.2.2 != y18.2.2.2.2)) (s_gd (by kernel_rfl) q58 (by kernel_rfl)) ?_
                    refine rs0 (.bool (y24.2.2.2.2 != y18.2.2.2.2)) (s_pickF (by kernel_rfl) q58) ?_
                    refine rnil (tn_ ?_)
                    obtain rfl := Option.some.inj h
                    exact ⟨_, (weak_ren (renF [((4, 1), (6, 1)), ((5, 1), (7, 1)), ((6, 1), (8, 1)), ((3, 1), (5, 1)), ((7, 1), (15, 1)), ((8, 1), (16, 1)), ((9, 1), (17, 1))]) (by kernel_rfl) (by kernel_rfl) (by kernel_rfl)), rfl⟩
              · rintro l55_m86 _ rfl h
                (try dsimp only at h)
                rcases cond_some h with ⟨q59, h⟩ | ⟨q59, h⟩
                · refine awp_condT_ q59 (by kernel_rfl) ?_
                  refine awp_seq_ ?_
                  refine awp_region_ 3 (by kernel_rfl) ?_
                  refine rs0 (.bool false) (by kernel_rfl) ?_
                  refine rnil (tn_ ?_)
                  refine awp_ret_ (tr_ ?_)
                  obtain rfl := Option.some.inj h
                  exact ret_ [(.bool false)] (by simp) (by kernel_rfl) (p_one rfl (l_sc (by kernel_rfl)) p_nil) (by kernel_rfl) (by kernel_rfl)
                · refine awp_condF_ q59 (by kernel_rfl) ?_
                  refine awp_skip_ (tn_ ?_)
                  refine awp_seq_ ?_
                  refine awp_region_ 3 (by kernel_rfl) ?_
                  refine rs0 (.int .i64 1) (by kernel_rfl) ?_
                  refine rnil (tn_ ?_)
                  refine awp_seq_ ?_
                  obtain ⟨y63, h63, h⟩ := ob_some h
                  obtain ⟨g64, h⟩ := og_some h
                  obtain ⟨g65, h⟩ := og_some h
                  obtain ⟨g66, h⟩ := og_some h
                  refine awp_region_ 7 (by kernel_rfl) ?_
                  refine rsl (.agg [(.int .i64 y24.1), (.own (7, 1) (.pair .int (.pair .int .int)) 0 y24.2.1.length), (.own (8, 1) .int 0 y24.2.2.1.length), (.own (9, 1) .int 0 y24.2.2.2.1.length)]) (by kernel_rfl) ?_
                  refine rs0 (.int .i64 1) (by kernel_rfl) ?_
                  refine rcallM (.int .i64 y63.2.2.2) [((0, 0), (7, 1)), ((1, 0), (8, 1)), ((2, 0), (9, 1))] [(.agg [(.int .i64 y24.1), (.own (7, 1) (.pair .int (.pair .int .int)) 0 y24.2.1.length), (.own (8, 1) .int 0 y24.2.2.1.length), (.own (9, 1) .int 0 y24.2.2.2.1.length)]), (.int .i64 1)] (caps := []) trivial (by kernel_rfl) (by kernel_rfl) (ok_laws_markNetwork h63 rfl rfl rfl) (by kernel_rfl) (by kernel_rfl) (by kernel_rfl) (by kernel_rfl) (by kernel_rfl) hb_laws_markNetwork ?_
                  refine rs0 (.int .i64 y63.2.2.2) (by kernel_rfl) ?_
                  refine rnil (tn_ ?_)
                  refine awp_seq_ ?_
                  refine awp_region_ 8 (by kernel_rfl) ?_
                  refine rs0 (.int .i64 1) (by kernel_rfl) ?_
                  refine rnil (tn_ ?_)
                  refine awp_seq_ ?_
                  obtain ⟨y69, h69, h⟩ := ob_some h
                  refine awp_region_ 12 (by kernel_rfl) ?_
                  refine rsl (.agg [(.int .i64 y24.1), (.own (7, 1) (.pair .int (.pair .int .int)) 0 y24.2.1.length), (.own (8, 1) .int 0 y24.2.2.1.length), (.own (9, 1) .int 0 y24.2.2.2.1.length)]) (by kernel_rfl) ?_
                  refine rs0 (.int .i64 1) (by kernel_rfl) ?_
                  refine rcall (.int .i64 y69) [] [(.agg [(.int .i64 y24.1), (.own (7, 1) (.pair .int (.pair .int .int)) 0 y24.2.1.length), (.own (8, 1) .int 0 y24.2.2.1.length), (.own (9, 1) .int 0 y24.2.2.2.1.length)]), (.int .i64 1)] _ (caps := []) (args0 := [(.agg [(.int .i64 y24.1), (.tree (.pair .int (.pair .int .int)) y63.1), (.tree .int y63.2.1), (.tree .int y63.2.2.1)]), (.int .i64 1)]) trivial (by kernel_rfl) (by kernel_rfl) (gm_cons (gd_agg (gm_cons (by kernel_rfl) (gm_cons (gd_own (e := 59) (by kernel_rfl) g64.symm) (gm_cons (gd_own (e := 3) (by kernel_rfl) g65.symm) (gm_cons (gd_own (e := 3) (by kernel_rfl) g66.symm) gm_nil))))) (gm_cons (by kernel_rfl) gm_nil)) (by kernel_rfl) (ok_laws_heldNetwork h69) hb_laws_heldNetwork (by kernel_rfl) ?_
                  refine rs0 (.int .i64 y69) (by kernel_rfl) ?_
                  refine rnil (tn_ ?_)
                  refine awp_seq_ ?_
                  refine awp_seq_ ?_
                  refine awp_region_ 14 (by kernel_rfl) ?_
                  refine rs0 (.int .i64 y69) (by kernel_rfl) ?_
                  refine rs0 (.bool (decide (y69 < 0))) (by kernel_rfl) ?_
                  refine rnil (tn_ ?_)
                  rcases cond_some h with ⟨q72, h⟩ | ⟨q72, h⟩
                  · have q72_ := of_decide_eq_true q72
                    refine awp_condT_ q72 (by kernel_rfl) ?_
                    refine awp_seq_ ?_
                    refine awp_region_ 15 (by kernel_rfl) ?_
                    refine rs0 (.bool false) (by kernel_rfl) ?_
                    refine rnil (tn_ ?_)
                    refine awp_ret_ (tr_ ?_)
                    obtain rfl := Option.some.inj h
                    exact ret_ [(.bool false)] (by simp) (by kernel_rfl) (p_one rfl (l_sc (by kernel_rfl)) p_nil) (by kernel_rfl) (by kernel_rfl)
                  · have q72_ := of_decide_eq_false q72
                    refine awp_condF_ q72 (by kernel_rfl) ?_
                    refine awp_skip_ (tn_ ?_)
                    refine awp_seq_ ?_
                    refine awp_seq_ ?_
                    refine awp_region_ 17 (by kernel_rfl) ?_
                    refine rs0 (.int .i64 y69) (by kernel_rfl) ?_
                    refine rs0 (.int .i64 y63.2.2.2) (by kernel_rfl) ?_
                    refine rs0 (.bool (y69 != y63.2.2.2)) (by kernel_rfl) ?_
                    refine rnil (tn_ ?_)
                    rcases cond_some h with ⟨q76, h⟩ | ⟨q76, h⟩
                    · refine awp_condT_ q76 (by kernel_rfl) ?_
                      refine awp_seq_ ?_
                      refine awp_region_ 18 (by kernel_rfl) ?_
                      refine rs0 (.bool false) (by kernel_rfl) ?_
                      refine rnil (tn_ ?_)
                      refine awp_ret_ (tr_ ?_)
                      obtain rfl := Option.some.inj h
                      exact ret_ [(.bool false)] (by simp) (by kernel_rfl) (p_one rfl (l_sc (by kernel_rfl)) p_nil) (by kernel_rfl) (by kernel_rfl)
                    · refine awp_condF_ q76 (by kernel_rfl) ?_
                      refine awp_skip_ (tn_ ?_)
                      refine awp_seq_ ?_
                      obtain ⟨y79, h79, h⟩ := ob_some h
                      obtain ⟨y80, h80, h⟩ := ob_some h
                      obtain ⟨y81, h81, h⟩ := ob_some h
                      refine awp_regionD_ 29 (by kernel_rfl) ?_
                      refine ds0 (.int .i64 a0) (by kernel_rfl) ?_
                      refine dsl (.agg [(.int .i64 a1_0), (.tree (.pair .int (.pair .int .int)) a1_1), (.tree .int a1_2), (.tree .int a1_3)]) (by kernel_rfl) ?_
                      refine dcall (.agg [(.int .i64 y79.1), (.own (1616, 19) (.pair .int (.pair .int .int)) 0 y79.2.1.length), (.own (1617, 19) .int 0 y79.2.2.1.length), (.own (1618, 19) .int 0 y79.2.2.2.length)]) [((1616, 19), some (.arr 59 (.pair .int (.pair .int .int)) y79.2.1)), ((1617, 19), some (.arr 3 .int y79.2.2.1)), ((1618, 19), some (.arr 3 .int y79.2.2.2))] [(.agg [(.int .i64 a1_0), (.tree (.pair .int (.pair .int .int)) a1_1), (.tree .int a1_2), (.tree .int a1_3)])] _ (caps := []) (args0 := [(.agg [(.int .i64 a1_0), (.tree (.pair .int (.pair .int .int)) a1_1), (.tree .int a1_2), (.tree .int a1_3)])]) trivial (by kernel_rfl) (by kernel_rfl) (by kernel_rfl) (by kernel_rfl) (ok_laws_toNetwork h79) hb_laws_toNetwork (by kernel_rfl) ?_
                      refine dsl (.agg [(.int .i64 a2_0), (.tree (.pair .int (.pair .int .int)) a2_1), (.tree .int a2_2), (.tree .int a2_3)]) (by kernel_rfl) ?_
                      refine dcall (.agg [(.int .i64 y80.1), (.own (1648, 21) (.pair .int (.pair .int .int)) 0 y80.2.1.length), (.own (1649, 21) .int 0 y80.2.2.1.length), (.own (1650, 21) .int 0 y80.2.2.2.length)]) [((1648, 21), some (.arr 59 (.pair .int (.pair .int .int)) y80.2.1)), ((1649, 21), some (.arr 3 .int y80.2.2.1)), ((1650, 21), some (.arr 3 .int y80.2.2.2))] [(.agg [(.int .i64 a2_0), (.tree (.pair .int (.pair .int .int)) a2_1), (.tree .int a2_2), (.tree .int a2_3)])] _ (caps := []) (args0 := [(.agg [(.int .i64 a2_0), (.tree (.pair .int (.pair .int .int)) a2_1), (.tree .int a2_2), (.tree .int a2_3)])]) trivial (by kernel_rfl) (by kernel_rfl) (by kernel_rfl) (by kernel_rfl) (ok_laws_toNetwork h80) hb_laws_toNetwork (by kernel_rfl) ?_
                      refine dcall (.tup [(.agg [(.int .i64 y81.1), (.own (1664, 22) (.pair .int (.pair .int .int)) 0 y81.2.1.length), (.own (1665, 22) .int 0 y81.2.2.1.length), (.own (1666, 22) .int 0 y81.2.2.2.1.length)]), (.bool y81.2.2.2.2)]) [((1664, 22), some (.arr 59 (.pair .int (.pair .int .int)) y81.2.1)), ((1665, 22), some (.arr 3 .int y81.2.2.1)), ((1666, 22), some (.arr 3 .int y81.2.2.2.1))] [(.int .i64 a0), (.agg [(.int .i64 y79.1), (.own (1616, 19) (.pair .int (.pair .int .int)) 0 y79.2.1.length), (.own (1617, 19) .int 0 y79.2.2.1.length), (.own (1618, 19) .int 0 y79.2.2.2.length)]), (.agg [(.int .i64 y80.1), (.own (1648, 21) (.pair .int (.pair .int .int)) 0 y80.2.1.length), (.own (1649, 21) .int 0 y80.2.2.1.length), (.own (1650, 21) .int 0 y80.2.2.2.length)])] _ (caps := []) (args0 := [(.int .i64 a0), (.agg [(.int .i64 y79.1), (.tree (.pair .int (.pair .int .int)) y79.2.1), (.tree .int y79.2.2.1), (.tree .int y79.2.2.2)]), (.agg [(.int .i64 y80.1), (.tree (.pair .int (.pair .int .int)) y80.2.1), (.tree .int y80.2.2.1), (.tree .int y80.2.2.2)])]) trivial (by kernel_rfl) (by kernel_rfl) (gm_cons (by kernel_rfl) (gm_cons (gd_agg (gm_cons (by kernel_rfl) (gm_cons (gd_own (e := 59) (by kernel_rfl) rfl) (gm_cons (gd_own (e := 3) (by kernel_rfl) rfl) (gm_cons (gd_own (e := 3) (by kernel_rfl) rfl) gm_nil))))) (gm_cons (gd_agg (gm_cons (by kernel_rfl) (gm_cons (gd_own (e := 59) (by kernel_rfl) rfl) (gm_cons (gd_own (e := 3) (by kernel_rfl) rfl) (gm_cons (gd_own (e := 3) (by kernel_rfl) rfl) gm_nil))))) gm_nil))) (by kernel_rfl) (ok_impl_BesideNetworks h81) hb_impl_BesideNetworks (by kernel_rfl) ?_
                      refine ds0 (.tup [(.agg [(.int .i64 y81.1), (.own (1664, 22) (.pair .int (.pair .int .int)) 0 y81.2.1.length), (.own (1665, 22) .int 0 y81.2.2.1.length), (.own (1666, 22) .int 0 y81.2.2.2.1.length)]), (.bool y81.2.2.2.2)]) (by kernel_rfl) ?_
                      refine ds0 (.agg [(.int .i64 y81.1), (.own (1664, 22) (.pair .int (.pair .int .int)) 0 y81.2.1.length), (.own (1665, 22) .int 0 y81.2.2.1.length), (.own (1666, 22) .int 0 y81.2.2.2.1.length)]) (by kernel_rfl) ?_
                      refine ds0 (.bool y81.2.2.2.2) (by kernel_rfl) ?_
                      refine ds1 (.box (17, 26) 0) (17, 26) (.cells 30 [(.int .i64 0), .nils, .nils, .nils]) (by kernel_rfl) ?_
                      refine dsn2 (17, 26) (17, 26) (.cells 30 [(.int .i64 y81.1), (.own (1664, 22) (.pair .int (.pair .int .int)) 0 y81.2.1.length), (.own (1665, 22) .int 0 y81.2.2.1.length), (.own (1666, 22) .int 0 y81.2.2.2.1.length)]) (by kernel_rfl) ?_
                      refine ds0 (.bool y81.2.2.2.2) (by kernel_rfl) ?_
                      refine dnil (by kernel_rfl) (tn_ ?_)
                      refine awp_seq_ ?_
                      refine awp_seqB h (fun (l83_m115 : Bool) S_ => S_ = ⟨mkTm [(12, (.box (0, 1) 0)), (15, (.int .i64 y63.2.2.2)), (115, (.bool l83_m115))], mkOb (someL [((0, 1), .cells 30 [(.int .i64 y24.1), (.own (1, 1) (.pair .int (.pair .int .int)) 0 y63.1.length), (.own (2, 1) .int 0 y63.2.1.length), (.own (3, 1) .int 0 y63.2.2.1.length)]), ((1, 1), .arr 59 (.pair .int (.pair .int .int)) y63.1), ((2, 1), .arr 3 .int y63.2.1), ((3, 1), .arr 3 .int y63.2.2.1)]), 2⟩) ?_ ?_
                      · intro v_ h
                        obtain ⟨y84, h84, h⟩ := ob_some h
                        rcases cond_some h with ⟨q85, h⟩ | ⟨q85, h⟩
                        · refine awp_region_ 38 (by kernel_rfl) ?_
                          refine rsl (.agg [(.int .i64 y81.1), (.own (1664, 22) (.pair .int (.pair .int .int)) 0 y81.2.1.length), (.own (1665, 22) .int 0 y81.2.2.1.length), (.own (1666, 22) .int 0 y81.2.2.2.1.length)]) (by kernel_rfl) ?_
                          refine rsl (.agg [(.int .i64 y18.1), (.own (4, 1) (.pair .int (.pair .int .int)) 0 y18.2.1.length), (.own (5, 1) .int 0 y18.2.2.1.length), (.own (6, 1) .int 0 y18.2.2.2.1.length)]) (by kernel_rfl) ?_
                          refine rcall (.bool y84) [] [(.agg [(.int .i64 y81.1), (.own (1664, 22) (.pair .int (.pair .int .int)) 0 y81.2.1.length), (.own (1665, 22) .int 0 y81.2.2.1.length), (.own (1666, 22) .int 0 y81.2.2.2.1.length)]), (.agg [(.int .i64 y18.1), (.own (4, 1) (.pair .int (.pair .int .int)) 0 y18.2.1.length), (.own (5, 1) .int 0 y18.2.2.1.length), (.own (6, 1) .int 0 y18.2.2.2.1.length)])] _ (caps := []) (args0 := [(.agg [(.int .i64 y81.1), (.tree (.pair .int (.pair .int .int)) y81.2.1), (.tree .int y81.2.2.1), (.tree .int y81.2.2.2.1)]), (.agg [(.int .i64 y18.1), (.tree (.pair .int (.pair .int .int)) y18.2.1), (.tree .int y18.2.2.1), (.tree .int y18.2.2.2.1)])]) trivial (by kernel_rfl) (by kernel_rfl) (gm_cons (gd_agg (gm_cons (by kernel_rfl) (gm_cons (gd_own (e := 59) (by kernel_rfl) rfl) (gm_cons (gd_own (e := 3) (by kernel_rfl) rfl) (gm_cons (gd_own (e := 3) (by kernel_rfl) rfl) gm_nil))))) (gm_cons (gd_agg (gm_cons (by kernel_rfl) (gm_cons (gd_own (e := 59) (by kernel_rfl) rfl) (gm_cons (gd_own (e := 3) (by kernel_rfl) rfl) (gm_cons (gd_own (e := 3) (by kernel_rfl) rfl) gm_nil))))) gm_nil)) (by kernel_rfl) (ok_laws_eqNetwork h84) hb_laws_eqNetwork (by kernel_rfl) ?_
                          refine rs0 (.bool (!y84)) (by kernel_rfl) ?_
                          refine rs0 (.bool (!y84)) (by kernel_rfl) ?_
                          refine rs0 .any (s_skip (by kernel_rfl) q85) ?_
                          refine rs0 .any (s_skip (by kernel_rfl) q85) ?_
                          refine rs0 .any (s_skip (by kernel_rfl) q85) ?_
                          refine rs0 (.bool true) (s_pickT (by kernel_rfl) q85) ?_
                          refine rnil (tn_ ?_)
                          obtain rfl := Option.some.inj h
                          exact ⟨_, ((weak_ob_ (3, 1) (.cells 30 [(.int .i64 y24.1), (.own (7, 1) (.pair .int (.pair .int .int)) 0 y24.2.1.length), (.own (8, 1) .int 0 y24.2.2.1.length), (.own (9, 1) .int 0 y24.2.2.2.1.length)]) (.cells 30 [(.int .i64 y24.1), (.own (7, 1) (.pair .int (.pair .int .int)) 0 y63.1.length), (.own (8, 1) .int 0 y24.2.2.1.length), (.own (9, 1) .int 0 y24.2.2.2.1.length)]) (by kernel_rfl) (congrArg (fun z_ => (.cells 30 [(.int .i64 y24.1), (.own (7, 1) (.pair .int (.pair .int .int)) 0 z_), (.own (8, 1) .int 0 y24.2.2.1.length), (.own (9, 1) .int 0 y24.2.2.2.1.length)] : Ob)) (g64.symm : y24.2.1.length = y63.1.length))).trans ((weak_ob_ (3, 1) (.cells 30 [(.int .i64 y24.1), (.own (7, 1) (.pair .int (.pair .int .int)) 0 y63.1.length), (.own (8, 1) .int 0 y24.2.2.1.length), (.own (9, 1) .int 0 y24.2.2.2.1.length)]) (.cells 30 [(.int .i64 y24.1), (.own (7, 1) (.pair .int (.pair .int .int)) 0 y63.1.length), (.own (8, 1) .int 0 y63.2.1.length), (.own (9, 1) .int 0 y24.2.2.2.1.length)]) (by kernel_rfl) (congrArg (fun z_ => (.cells 30 [(.int .i64 y24.1), (.own (7, 1) (.pair .int (.pair .int .int)) 0 y63.1.length), (.own (8, 1) .int 0 z_), (.own (9, 1) .int 0 y24.2.2.2.1.length)] : Ob)) (g65.symm : y24.2.2.1.length = y63.2.1.length))).trans ((weak_ob_ (3, 1) (.cells 30 [(.int .i64 y24.1), (.own (7, 1) (.pair .int (.pair .int .int)) 0 y63.1.length), (.own (8, 1) .int 0 y63.2.1.length), (.own (9, 1) .int 0 y24.2.2.2.1.length)]) (.cells 30 [(.int .i64 y24.1), (.own (7, 1) (.pair .int (.pair .int .int)) 0 y63.1.length), (.own (8, 1) .int 0 y63.2.1.length), (.own (9, 1) .int 0 y63.2.2.1.length)]) (by kernel_rfl) (congrArg (fun z_ => (.cells 30 [(.int .i64 y24.1), (.own (7, 1) (.pair .int (.pair .int .int)) 0 y63.1.length), (.own (8, 1) .int 0 y63.2.1.length), (.own (9, 1) .int 0 z_)] : Ob)) (g66.symm : y24.2.2.2.1.length = y63.2.2.1.length))).trans (weak_ren (renF [((0, 1), (3, 1)), ((1, 1), (7, 1)), ((2, 1), (8, 1)), ((3, 1), (9, 1))]) (by kernel_rfl) (by kernel_rfl) (by kernel_rfl))))), rfl⟩
                        · refine awp_region_ 38 (by kernel_rfl) ?_
                          refine rsl (.agg [(.int .i64 y81.1), (.own (1664, 22) (.pair .int (.pair .int .int)) 0 y81.2.1.length), (.own (1665, 22) .int 0 y81.2.2.1.length), (.own (1666, 22) .int 0 y81.2.2.2.1.length)]) (by kernel_rfl) ?_
                          refine rsl (.agg [(.int .i64 y18.1), (.own (4, 1) (.pair .int (.pair .int .int)) 0 y18.2.1.length), (.own (5, 1) .int 0 y18.2.2.1.length), (.own (6, 1) .int 0 y18.2.2.2.1.length)]) (by kernel_rfl) ?_
                          refine rcall (.bool y84) [] [(.agg [(.int .i64 y81.1), (.own (1664, 22) (.pair .int (.pair .int .int)) 0 y81.2.1.length), (.own (1665, 22) .int 0 y81.2.2.1.length), (.own (1666, 22) .int 0 y81.2.2.2.1.length)]), (.agg [(.int .i64 y18.1), (.own (4, 1) (.pair .int (.pair .int .int)) 0 y18.2.1.length), (.own (5, 1) .int 0 y18.2.2.1.length), (.own (6, 1) .int 0 y18.2.2.2.1.length)])] _ (caps := []) (args0 := [(.agg [(.int .i64 y81.1), (.tree (.pair .int (.pair .int .int)) y81.2.1), (.tree .int y81.2.2.1), (.tree .int y81.2.2.2.1)]), (.agg [(.int .i64 y18.1), (.tree (.pair .int (.pair .int .int)) y18.2.1), (.tree .int y18.2.2.1), (.tree .int y18.2.2.2.1)])]) trivial (by kernel_rfl) (by kernel_rfl) (gm_cons (gd_agg (gm_cons (by kernel_rfl) (gm_cons (gd_own (e := 59) (by kernel_rfl) rfl) (gm_cons (gd_own (e := 3) (by kernel_rfl) rfl) (gm_cons (gd_own (e := 3) (by kernel_rfl) rfl) gm_nil))))) (gm_cons (gd_agg (gm_cons (by kernel_rfl) (gm_cons (gd_own (e := 59) (by kernel_rfl) rfl) (gm_cons (gd_own (e := 3) (by kernel_rfl) rfl) (gm_cons (gd_own (e := 3) (by kernel_rfl) rfl) gm_nil))))) gm_nil)) (by kernel_rfl) (ok_laws_eqNetwork h84) hb_laws_eqNetwork (by kernel_rfl) ?_
                          refine rs0 (.bool (!y84)) (by kernel_rfl) ?_
                          refine rs0 (.bool (!y84)) (by kernel_rfl) ?_
                          refine rs0 (.bool y81.2.2.2.2) (s_gd (by kernel_rfl) q85 (by kernel_rfl)) ?_
                          refine rs0 (.bool y18.2.2.2.2) (s_gd (by kernel_rfl) q85 (by kernel_rfl)) ?_
                          refine rs0 (.bool (y81.2.2.2.2 != y18.2.2.2.2)) (s_gd (by kernel_rfl) q85 (by kernel_rfl)) ?_
                          refine rs0 (.bool (y81.2.2.2.2 != y18.2.2.2.2)) (s_pickF (by kernel_rfl) q85) ?_
                          refine rnil (tn_ ?_)
                          obtain rfl := Option.some.inj h
                          exact ⟨_, ((weak_ob_ (3, 1) (.cells 30 [(.int .i64 y24.1), (.own (7, 1) (.pair .int (.pair .int .int)) 0 y24.2.1.length), (.own (8, 1) .int 0 y24.2.2.1.length), (.own (9, 1) .int 0 y24.2.2.2.1.length)]) (.cells 30 [(.int .i64 y24.1), (.own (7, 1) (.pair .int (.pair .int .int)) 0 y63.1.length), (.own (8, 1) .int 0 y24.2.2.1.length), (.own (9, 1) .int 0 y24.2.2.2.1.length)]) (by kernel_rfl) (congrArg (fun z_ => (.cells 30 [(.int .i64 y24.1), (.own (7, 1) (.pair .int (.pair .int .int)) 0 z_), (.own (8, 1) .int 0 y24.2.2.1.length), (.own (9, 1) .int 0 y24.2.2.2.1.length)] : Ob)) (g64.symm : y24.2.1.length = y63.1.length))).trans ((weak_ob_ (3, 1) (.cells 30 [(.int .i64 y24.1), (.own (7, 1) (.pair .int (.pair .int .int)) 0 y63.1.length), (.own (8, 1) .int 0 y24.2.2.1.length), (.own (9, 1) .int 0 y24.2.2.2.1.length)]) (.cells 30 [(.int .i64 y24.1), (.own (7, 1) (.pair .int (.pair .int .int)) 0 y63.1.length), (.own (8, 1) .int 0 y63.2.1.length), (.own (9, 1) .int 0 y24.2.2.2.1.length)]) (by kernel_rfl) (congrArg (fun z_ => (.cells 30 [(.int .i64 y24.1), (.own (7, 1) (.pair .int (.pair .int .int)) 0 y63.1.length), (.own (8, 1) .int 0 z_), (.own (9, 1) .int 0 y24.2.2.2.1.length)] : Ob)) (g65.symm : y24.2.2.1.length = y63.2.1.length))).trans ((weak_ob_ (3, 1) (.cells 30 [(.int .i64 y24.1), (.own (7, 1) (.pair .int (.pair .int .int)) 0 y63.1.length), (.own (8, 1) .int 0 y63.2.1.length), (.own (9, 1) .int 0 y24.2.2.2.1.length)]) (.cells 30 [(.int .i64 y24.1), (.own (7, 1) (.pair .int (.pair .int .int)) 0 y63.1.length), (.own (8, 1) .int 0 y63.2.1.length), (.own (9, 1) .int 0 y63.2.2.1.length)]) (by kernel_rfl) (congrArg (fun z_ => (.cells 30 [(.int .i64 y24.1), (.own (7, 1) (.pair .int (.pair .int .int)) 0 y63.1.length), (.own (8, 1) .int 0 y63.2.1.length), (.own (9, 1) .int 0 z_)] : Ob)) (g66.symm : y24.2.2.2.1.length = y63.2.2.1.length))).trans (weak_ren (renF [((0, 1), (3, 1)), ((1, 1), (7, 1)), ((2, 1), (8, 1)), ((3, 1), (9, 1))]) (by kernel_rfl) (by kernel_rfl) (by kernel_rfl))))), rfl⟩
                      · rintro l83_m115 _ rfl h
                        (try dsimp only at h)
                        rcases cond_some h with ⟨q86, h⟩ | ⟨q86, h⟩
                        · refine awp_condT_ q86 (by kernel_rfl) ?_
                          refine awp_seq_ ?_
                          refine awp_region_ 3 (by kernel_rfl) ?_
                          refine rs0 (.bool false) (by kernel_rfl) ?_
                          refine rnil (tn_ ?_)
                          refine awp_ret_ (tr_ ?_)
                          obtain rfl := Option.some.inj h
                          exact ret_ [(.bool false)] (by simp) (by kernel_rfl) (p_one rfl (l_sc (by kernel_rfl)) p_nil) (by kernel_rfl) (by kernel_rfl)
                        · refine awp_condF_ q86 (by kernel_rfl) ?_
                          refine awp_skip_ (tn_ ?_)
                          refine awp_seq_ ?_
                          refine awp_region_ 3 (by kernel_rfl) ?_
                          refine rs0 (.int .i64 1) (by kernel_rfl) ?_
                          refine rnil (tn_ ?_)
                          refine awp_seq_ ?_
                          obtain ⟨y90, h90, h⟩ := ob_some h
                          refine awp_region_ 7 (by kernel_rfl) ?_
                          refine rsl (.agg [(.int .i64 y24.1), (.own (1, 1) (.pair .int (.pair .int .int)) 0 y63.1.length), (.own (2, 1) .int 0 y63.2.1.length), (.own (3, 1) .int 0 y63.2.2.1.length)]) (by kernel_rfl) ?_
                          refine rs0 (.int .i64 1) (by kernel_rfl) ?_
                          refine rcall (.int .i64 y90) [] [(.agg [(.int .i64 y24.1), (.own (1, 1) (.pair .int (.pair .int .int)) 0 y63.1.length), (.own (2, 1) .int 0 y63.2.1.length), (.own (3, 1) .int 0 y63.2.2.1.length)]), (.int .i64 1)] _ (caps := []) (args0 := [(.agg [(.int .i64 y24.1), (.tree (.pair .int (.pair .int .int)) y63.1), (.tree .int y63.2.1), (.tree .int y63.2.2.1)]), (.int .i64 1)]) trivial (by kernel_rfl) (by kernel_rfl) (gm_cons (gd_agg (gm_cons (by kernel_rfl) (gm_cons (gd_own (e := 59) (by kernel_rfl) rfl) (gm_cons (gd_own (e := 3) (by kernel_rfl) rfl) (gm_cons (gd_own (e := 3) (by kernel_rfl) rfl) gm_nil))))) (gm_cons (by kernel_rfl) gm_nil)) (by kernel_rfl) (ok_laws_heldNetwork h90) hb_laws_heldNetwork (by kernel_rfl) ?_
                          refine rs0 (.int .i64 y90) (by kernel_rfl) ?_
                          refine rnil (tn_ ?_)
                          refine awp_seq_ ?_
                          refine awp_seq_ ?_
                          refine awp_region_ 9 (by kernel_rfl) ?_
                          refine rs0 (.int .i64 y90) (by kernel_rfl) ?_
                          refine rs0 (.bool (decide (y90 < 0))) (by kernel_rfl) ?_
                          refine rnil (tn_ ?_)
                          rcases cond_some h with ⟨q93, h⟩ | ⟨q93, h⟩
                          · have q93_ := of_decide_eq_true q93
                            refine awp_condT_ q93 (by kernel_rfl) ?_
                            refine awp_seq_ ?_
                            refine awp_region_ 10 (by kernel_rfl) ?_
                            refine rs0 (.bool false) (by kernel_rfl) ?_
                            refine rnil (tn_ ?_)
                            refine awp_ret_ (tr_ ?_)
                            obtain rfl := Option.some.inj h
                            exact ret_ [(.bool false)] (by simp) (by kernel_rfl) (p_one rfl (l_sc (by kernel_rfl)) p_nil) (by kernel_rfl) (by kernel_rfl)
                          · have q93_ := of_decide_eq_false q93
                            refine awp_condF_ q93 (by kernel_rfl) ?_
                            refine awp_skip_ (tn_ ?_)
                            refine awp_seq_ ?_
                            refine awp_seq_ ?_
                            refine awp_region_ 12 (by kernel_rfl) ?_
                            refine rs0 (.int .i64 y90) (by kernel_rfl) ?_
                            refine rs0 (.int .i64 y63.2.2.2) (by kernel_rfl) ?_
                            refine rs0 (.bool (y90 != y63.2.2.2)) (by kernel_rfl) ?_
                            refine rnil (tn_ ?_)
                            rcases cond_some h with ⟨q97, h⟩ | ⟨q97, h⟩
                            · refine awp_condT_ q97 (by kernel_rfl) ?_
                              refine awp_seq_ ?_
                              refine awp_region_ 13 (by kernel_rfl) ?_
                              refine rs0 (.bool false) (by kernel_rfl) ?_
                              refine rnil (tn_ ?_)
                              refine awp_ret_ (tr_ ?_)
                              obtain rfl := Option.some.inj h
                              exact ret_ [(.bool false)] (by simp) (by kernel_rfl) (p_one rfl (l_sc (by kernel_rfl)) p_nil) (by kernel_rfl) (by kernel_rfl)
                            · refine awp_condF_ q97 (by kernel_rfl) ?_
                              refine awp_skip_ (tn_ ?_)
                              refine awp_seq_ ?_
                              refine awp_region_ 13 (by kernel_rfl) ?_
                              refine rs0 (.bool true) (by kernel_rfl) ?_
                              refine rnil (tn_ ?_)
                              refine awp_ret_ ?_
                              obtain rfl := Option.some.inj h
                              exact ret_ [(.bool true)] (by simp) (by kernel_rfl) (p_one rfl (l_sc (by kernel_rfl)) p_nil) (by kernel_rfl) (by kernel_rfl)
end Go.Proofs.YtefolocdfgelcaaDoor
