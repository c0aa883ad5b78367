/- Lemmas on the program and on partial functions that stand in place of its code (part 7); no condition beyond those that each one states. -/
import Derived.Test.YtbdkmfmhlmnlmaaDoorZ6
namespace Go.Proofs.YtbdkmfmhlmnlmaaDoor
open Go.RowKit Go.Deep
set_option maxRecDepth 4000
def m_spec_cmListed_l4 : AC :=
 (.seq (rg [xo 80 (qb .lss (tm 79) (tm 78))])
 (.seq (.cond (tm 80)
  .skip
  (.exit 6))
 (.seq (.block 7 (.seq (rg [xo 81 (qx 1 (tm 77) (tm 79)), xo 82 (ql (tm 81)), xo 12 (qm (tm 82))])
 (.seq (rg [xo 83 (qm (tm 3)), xo 84 (qm (tm 12)), xo 85 (qc 57 [(tm 83), (tm 84)] [[(some .int)], []]), xo 86 (.i (.not (tm 85)))])
 (.cond (tm 86)
  (rg [xo 87 (qm (tm 3)), xo 88 (qm (tm 12)), xo 89 (.mkS 3 .int [(tm 88)]), xo 90 (.append 3 .int 8 (tm 87) (tm 89)), xo 3 (qm (tm 90))])
  .skip))))
 (rg [xo 91 (qb .add (tm 79) (ci 1)), xo 79 (qm (tm 91))]))))
def m_spec_cmListed_l3 : AC :=
 (.seq (rg [xo 58 (qb .lss (tm 57) (tm 56))])
 (.seq (.cond (tm 58)
  .skip
  (.exit 4))
 (.seq (.block 5 (.seq (rg [xo 59 (qx 1 (tm 55) (tm 57)), xo 60 (ql (tm 59)), xo 9 (qm (tm 60))])
 (.seq (rg [xo 61 (qf 1 (tm 1)), xo 62 (ql (tm 61)), xo 63 (qm (tm 9)), xo 64 (qx 4 (tm 62) (tm 63)), xo 65 (qf 1 (tm 64)), xo 66 (ql (tm 65)), xo 10 (qm (tm 66))])
 (.seq (rg [xo 67 (qm (tm 3)), xo 68 (qm (tm 10)), xo 69 (qc 57 [(tm 67), (tm 68)] [[(some .int)], []]), xo 70 (.i (.not (tm 69)))])
 (.cond (tm 70)
  (rg [xo 71 (qm (tm 3)), xo 72 (qm (tm 10)), xo 73 (.mkS 3 .int [(tm 72)]), xo 74 (.append 3 .int 8 (tm 71) (tm 73)), xo 3 (qm (tm 74))])
  .skip)))))
 (rg [xo 75 (qb .add (tm 57) (ci 1)), xo 57 (qm (tm 75))]))))
def m_spec_cmListed_l2 : AC :=
 (.seq (rg [xo 28 (qb .lss (tm 27) (tm 26))])
 (.seq (.cond (tm 28)
  .skip
  (.exit 2))
 (.seq (.block 3 (.seq (rg [xo 29 (qx 1 (tm 25) (tm 27)), xo 30 (ql (tm 29)), xo 7 (qm (tm 30))])
 (.seq (rg [xo 31 (qf 1 (tm 1)), xo 32 (ql (tm 31)), xo 33 (qm (tm 7)), xo 34 (qx 4 (tm 32) (tm 33)), xo 35 (.i (.ld false 4 (tm 34))), xo 36 (qc 33 [(tm 35)] [[none, none, none, none]]), xo 37 (.i (.not (tm 36))), xo 38 (qm (tm 37)), ⟨(some 39), (some (38, true)), (qm (tm 3))⟩, ⟨(some 40), (some (38, true)), (qm (tm 7))⟩, ⟨(some 41), (some (38, true)), (qc 57 [(tm 39), (tm 40)] [[(some .int)], []])⟩, ⟨(some 42), (some (38, true)), (.i (.not (tm 41)))⟩, xo 43 (.i (.pick (tm 38) (tm 42) (cb false)))])
 (.cond (tm 43)
  (rg [xo 44 (qm (tm 3)), xo 45 (qm (tm 7)), xo 46 (.mkS 3 .int [(tm 45)]), xo 47 (.append 3 .int 8 (tm 44) (tm 46)), xo 3 (qm (tm 47))])
  .skip))))
 (rg [xo 48 (qb .add (tm 27) (ci 1)), xo 27 (qm (tm 48))]))))
def m_spec_cmListed_l1 : AC :=
 (.seq (rg [xo 17 (qb .lss (tm 16) (tm 15))])
 (.seq (.cond (tm 17)
  .skip
  (.exit 0))
 (.seq (.block 1 (.seq (rg [xo 18 (qx 1 (tm 14) (tm 16)), xo 19 (ql (tm 18)), xo 5 (qm (tm 19))])
 (.seq (.seq (rg [xo 20 (qf 1 (tm 1)), xo 21 (ql (tm 20)), xo 22 (qm (tm 5)), xo 23 (qx 4 (tm 21) (tm 22)), xo 24 (.i (.ld false 4 (tm 23))), xo 25 (qc 56 [(tm 24)] [[none, none, none, none]]), xo 26 (.i (.len (tm 25))), xo 27 (qm (ci 0))])
 (.block 2 (.loop m_spec_cmListed_l2)))
 (rg [xo 49 (qm (tm 3)), xo 50 (qm (tm 5)), xo 51 (.mkS 3 .int [(tm 50)]), xo 52 (.append 3 .int 8 (tm 49) (tm 51)), xo 3 (qm (tm 52))]))))
 (rg [xo 53 (qb .add (tm 16) (ci 1)), xo 16 (qm (tm 53))]))))
def m_spec_cmListed : AC :=
 (.seq (rg [xo 1 (.i (.box 34 (tm 0))), xo 2 (qm (.cst .nils))])
 (.seq (rg [xo 3 (qm (.cst .nils))])
 (.seq (.seq (rg [xo 13 (.i (.ld false 3 (tm 1))), ⟨(some 14), none, (qc 34 [(tm 13)] [[none, (some T4), (some .int)]])⟩, xo 15 (.i (.len (tm 14))), xo 16 (qm (ci 0))])
 (.block 0 (.loop m_spec_cmListed_l1)))
 (.seq (.seq (rg [xo 54 (.i (.ld false 3 (tm 1))), ⟨(some 55), none, (qc 37 [(tm 54)] [[none, (some T4), (some .int)]])⟩, xo 56 (.i (.len (tm 55))), xo 57 (qm (ci 0))])
 (.block 4 (.loop m_spec_cmListed_l3)))
 (.seq (.seq (rg [xo 76 (qf 2 (tm 1)), xo 77 (ql (tm 76)), xo 78 (.i (.len (tm 77))), xo 79 (qm (ci 0))])
 (.block 6 (.loop m_spec_cmListed_l4)))
 (.seq (rg [xo 92 (qm (tm 3)), xo 2 (qm (tm 92))])
 .ret))))))
def r_spec_cmListed : List Res := [.tmp 2]
theorem c_spec_cmListed : compiled Tryd.prog Tryd.f35 = some (m_spec_cmListed, r_spec_cmListed) := by kernel_rfl
def L_spec_cmListed_l2 (y16 : List Int) (a0_1 : List (Int × Int × Int × Int)) (l17_m27 : Nat) (l17_m3 : List Int) : Option (Ctl (Nat × List Int) (List Int)) :=
 cond (decide (((l17_m27 : Nat) : Int) < ((y16.length : Nat) : Int)))
 (Option.bind (Option.bind (y16[l17_m27]?) fun x23 =>
  Option.bind (Option.bind (getI a0_1 x23) fun x25 =>
   Option.bind (L_spec_crCombines x25.1 x25.2.1 x25.2.2.1 x25.2.2.2) fun y26 =>
   cond (!y26)
    (Option.bind (L_spec_l1Has l17_m3 x23) fun y28 =>
    some (!y28))
    (some false)) fun l24_m43 =>
  cond l24_m43
   (og (l17_m3.length + 1 <= 1073741824 ∧ (l17_m3.length + 1) * 8 <= 140737488355328) <|
   some (l17_m3 ++ ([x23])))
   (some l17_m3)) fun l21_m3 =>
 og (l17_m27 + 1 < 4611686018427387904) <|
 some (Ctl.next (l17_m27 + 1, l21_m3)))
 (some (Ctl.out l17_m3))
def L_spec_cmListed_l1 (y5 : List Int) (a0_1 : List (Int × Int × Int × Int)) (l6_m16 : Nat) (l6_m3 : List Int) : Option (Ctl (Nat × List Int) (List Int)) :=
 cond (decide (((l6_m16 : Nat) : Int) < ((y5.length : Nat) : Int)))
 (Option.bind (Option.bind (y5[l6_m16]?) fun x12 =>
  Option.bind (Option.bind (getI a0_1 x12) fun x15 =>
   Option.bind (L_spec_crOperands x15.1 x15.2.1 x15.2.2.1 x15.2.2.2) fun y16 =>
   loopM (fun s_ : Nat × List Int => L_spec_cmListed_l2 y16 a0_1 s_.1 s_.2) 4611686018427387904 (0, l6_m3)) fun l13_m3 =>
  og (l13_m3.length + 1 <= 1073741824 ∧ (l13_m3.length + 1) * 8 <= 140737488355328) <|
  some (l13_m3 ++ ([x12]))) fun l10_m3 =>
 og (l6_m16 + 1 < 4611686018427387904) <|
 some (Ctl.next (l6_m16 + 1, l10_m3)))
 (some (Ctl.out l6_m3))
def L_spec_cmListed_l3 (y36 : List Int) (a0_1 : List (Int × Int × Int × Int)) (l37_m57 : Nat) (l37_m3 : List Int) : Option (Ctl (Nat × List Int) (List Int)) :=
 cond (decide (((l37_m57 : Nat) : Int) < ((y36.length : Nat) : Int)))
 (Option.bind (Option.bind (y36[l37_m57]?) fun x43 =>
  Option.bind (getI a0_1 x43) fun x45 =>
  Option.bind (L_spec_l1Has l37_m3 x45.2.1) fun y47 =>
  cond (!y47)
   (og (l37_m3.length + 1 <= 1073741824 ∧ (l37_m3.length + 1) * 8 <= 140737488355328) <|
   some (l37_m3 ++ ([x45.2.1])))
   (some l37_m3)) fun l41_m3 =>
 og (l37_m57 + 1 < 4611686018427387904) <|
 some (Ctl.next (l37_m57 + 1, l41_m3)))
 (some (Ctl.out l37_m3))
def L_spec_cmListed_l4 (a0_2 : List Int) (l53_m79 : Nat) (l53_m3 : List Int) : Option (Ctl (Nat × List Int) (List Int)) :=
 cond (decide (((l53_m79 : Nat) : Int) < ((a0_2.length : Nat) : Int)))
 (Option.bind (Option.bind (a0_2[l53_m79]?) fun x59 =>
  Option.bind (L_spec_l1Has l53_m3 x59) fun y61 =>
  cond (!y61)
   (og (l53_m3.length + 1 <= 1073741824 ∧ (l53_m3.length + 1) * 8 <= 140737488355328) <|
   some (l53_m3 ++ ([x59])))
   (some l53_m3)) fun l57_m3 =>
 og (l53_m79 + 1 < 4611686018427387904) <|
 some (Ctl.next (l53_m79 + 1, l57_m3)))
 (some (Ctl.out l53_m3))
def L_spec_cmListed (a0_0 : Int) (a0_1 : List (Int × Int × Int × Int)) (a0_2 : List Int) : Option (List Int) :=
 Option.bind (Option.bind (L_spec_crOrder a0_0 a0_1 a0_2) fun y5 =>
 loopM (fun s_ : Nat × List Int => L_spec_cmListed_l1 y5 a0_1 s_.1 s_.2) 4611686018427387904 (0, [])) fun l3_m3 =>
Option.bind (Option.bind (L_spec_crDelays a0_0 a0_1 a0_2) fun y36 =>
 loopM (fun s_ : Nat × List Int => L_spec_cmListed_l3 y36 a0_1 s_.1 s_.2) 4611686018427387904 (0, l3_m3)) fun l34_m3 =>
Option.bind (loopM (fun s_ : Nat × List Int => L_spec_cmListed_l4 a0_2 s_.1 s_.2) 4611686018427387904 (0, l34_m3)) fun l51_m3 =>
some l51_m3
def rv_spec_cmListed (r : List Int) : RV := ⟨false, [(false, [.new 3 .int r])]⟩
theorem ok_spec_cmListed {a0_0 : Int} {a0_1 : List (Int × Int × Int × Int)} {a0_2 : List Int} {r : List Int} (h : L_spec_cmListed a0_0 a0_1 a0_2 = some r) : CallOK Tryd.prog Tab 35 [(.agg [(ai a0_0), (.tree T4 a0_1), (.tree .int a0_2)])] (rv_spec_cmListed r) := by
 refine call_of_ (by kernel_rfl) Tryd.func35 c_spec_cmListed (n := 93) (by kernel_rfl) (by simp) (tl := [(0, (.agg [(ai a0_0), (.tree T4 a0_1), (.tree .int a0_2)]))]) rfl ?_
 unfold m_spec_cmListed
 unfold L_spec_cmListed at h
 refine seqR ?_
 refine seqR ?_
 refine awp_seqB h (fun (l3_m3 : List Int) S_ => S_ = ⟨mkTm [(1, (.box (oi 0 1) 0)), (3, (.own (oi 1 1) .int 0 l3_m3.length))], mkOb (someL [((oi 0 1), .cells 34 [(ai a0_0), (.tree T4 a0_1), (.tree .int a0_2)]), ((oi 1 1), .arr 3 .int l3_m3)]), 2⟩) ?_ ?_
 ·intro v_ h
  refine awp_seqv_ ?_
  obtain ⟨y5, h5, h⟩ := ob_some h
  refine awp_region_ 8 ?_
  refine rzl (.agg [(ai a0_0), (.tree T4 a0_1), (.tree .int a0_2)]) ?_
  refine zc (.own (oi 224 5) .int 0 y5.length) [((oi 224 5), some (.arr 3 .int y5))] [(.agg [(ai a0_0), (.tree T4 a0_1), (.tree .int a0_2)])] (ok_spec_crOrder h5) ?_
  refine rsB 2 ?_
  refine rnil (tn_ ?_)
  refine wr_ ?_
  refine awp_block_ ?_
  refine awp_loopL h (fun t_ S_ => ∃ (l6_m16 : Nat), ∃ (l6_m3 : List Int), t_ = (l6_m16, l6_m3) ∧ S_ = ⟨mkTm [(1, (.box (oi 0 1) 0)), (3, (.own (oi 1 1) .int 0 l6_m3.length)), (14, (.own (oi 2 1) .int 0 y5.length)), (15, (ai ((y5.length : Nat) : Int))), (16, (ai ((l6_m16 : Nat) : Int)))], mkOb (someL [((oi 0 1), .cells 34 [(ai a0_0), (.tree T4 a0_1), (.tree .int a0_2)]), ((oi 1 1), .arr 3 .int l6_m3), ((oi 2 1), .arr 3 .int y5)]), 2⟩) ⟨_, ((weak_nil_ 3 3 .int rfl (by kernel_rfl)).trans (weak_ren [((oi 0 1), (oi 1 1)), ((oi 1 1), (oi 3 8)), ((oi 2 1), (oi 224 5))])), ⟨0, [], rfl, rfl⟩⟩ ?_
  rintro n_ _ _ c_ ⟨l6_m16, l6_m3, rfl, rfl⟩ h hn6
  (try dsimp only at h)
  unfold L_spec_cmListed_l1 at h
  unfold m_spec_cmListed_l1
  refine seqR ?_
  refine awp_seqv_ ?_
  rcases cond_some h with ⟨q9, h⟩ | ⟨q9, h⟩
  ·have q9_ := of_decide_eq_true q9
   refine awp_condT_ q9 ?_
   refine awp_skip_ (tn_ ?_)
   refine wr_ ?_
   refine awp_seqB h (fun (l10_m3 : List Int) S_ => S_ = ⟨mkTm [(1, (.box (oi 0 1) 0)), (3, (.own (oi 1 1) .int 0 l10_m3.length)), (14, (.own (oi 2 1) .int 0 y5.length)), (15, (ai ((y5.length : Nat) : Int))), (16, (ai ((l6_m16 : Nat) : Int)))], mkOb (someL [((oi 0 1), .cells 34 [(ai a0_0), (.tree T4 a0_1), (.tree .int a0_2)]), ((oi 1 1), .arr 3 .int l10_m3), ((oi 2 1), .arr 3 .int y5)]), 2⟩) ?_ ?_
   ·intro v_ h
    refine awp_block_ ?_
    refine awp_seqv_ ?_
    obtain ⟨x12, e12, h⟩ := ob_some h
    refine awp_region_ 6 ?_
    refine rs0 (.elt (oi 2 1) l6_m16 0) (zo (t := .int) (o := (oi 2 1)) (len := y5.length) (k := .i64) (m := ((l6_m16 : Nat) : Int)) (nat_nn _) (getN_lt e12)) ?_
    refine rsl (ai x12) (s_ldE (i := (oi 2 1)) (j := l6_m16) (k := 0) (e := 3) (t := .int) (xs := y5) (by kernel_rfl) (by kernel_rfl) e12 (by kernel_rfl)) ?_
    refine rsB 1 ?_
    refine rnil (tn_ ?_)
    refine wr_ ?_
    refine awp_seqB h (fun (l13_m3 : List Int) S_ => S_ = ⟨mkTm [(1, (.box (oi 0 1) 0)), (3, (.own (oi 1 1) .int 0 l13_m3.length)), (5, (ai x12)), (14, (.own (oi 2 1) .int 0 y5.length)), (15, (ai ((y5.length : Nat) : Int))), (16, (ai ((l6_m16 : Nat) : Int)))], mkOb (someL [((oi 0 1), .cells 34 [(ai a0_0), (.tree T4 a0_1), (.tree .int a0_2)]), ((oi 1 1), .arr 3 .int l13_m3), ((oi 2 1), .arr 3 .int y5)]), 2⟩) ?_ ?_
    ·intro v_ h
     refine awp_seqv_ ?_
     obtain ⟨x15, f15, h⟩ := ob_some h
     obtain ⟨p15, b15, e15⟩ := getI_some f15
     obtain ⟨y16, h16, h⟩ := ob_some h
     refine awp_region_ 14 ?_
     refine rz0 (.box (oi 0 1) 1) ?_
     refine rzl (.tree T4 a0_1) ?_
     refine rz0 (ai x12) ?_
     refine rs0 (.telt T4 x15 0) (zi (t := T4) (xs := a0_1) (k := .i64) (m := x12) p15 e15) ?_
     refine rz0 (.agg [(ai x15.1), (ai x15.2.1), (ai x15.2.2.1), (ai x15.2.2.2)]) ?_
     refine zc (.own (oi 400 11) .int 0 y16.length) [((oi 400 11), some (.arr 3 .int y16))] [(.agg [(ai x15.1), (ai x15.2.1), (ai x15.2.2.1), (ai x15.2.2.2)])] (ok_spec_crOperands h16) ?_
     refine rsB 2 ?_
     refine rnil (tn_ ?_)
     refine wr_ ?_
     refine awp_block_ ?_
     refine awp_loopL h (fun t_ S_ => ∃ (l17_m27 : Nat), ∃ (l17_m3 : List Int), t_ = (l17_m27, l17_m3) ∧ S_ = ⟨mkTm [(1, (.box (oi 0 1) 0)), (3, (.own (oi 1 1) .int 0 l17_m3.length)), (5, (ai x12)), (14, (.own (oi 2 1) .int 0 y5.length)), (15, (ai ((y5.length : Nat) : Int))), (16, (ai ((l6_m16 : Nat) : Int))), (25, (.own (oi 3 1) .int 0 y16.length)), (26, (ai ((y16.length : Nat) : Int))), (27, (ai ((l17_m27 : Nat) : Int)))], mkOb (someL [((oi 0 1), .cells 34 [(ai a0_0), (.tree T4 a0_1), (.tree .int a0_2)]), ((oi 1 1), .arr 3 .int l17_m3), ((oi 2 1), .arr 3 .int y5), ((oi 3 1), .arr 3 .int y16)]), 2⟩) ⟨_, (weak_ren [((oi 3 1), (oi 400 11))]), ⟨0, l6_m3, rfl, rfl⟩⟩ ?_
     rintro n_ _ _ c_ ⟨l17_m27, l17_m3, rfl, rfl⟩ h hn17
     (try dsimp only at h)
     unfold L_spec_cmListed_l2 at h
     unfold m_spec_cmListed_l2
     refine seqR ?_
     refine awp_seqv_ ?_
     rcases cond_some h with ⟨q20, h⟩ | ⟨q20, h⟩
     ·have q20_ := of_decide_eq_true q20
      refine awp_condT_ q20 ?_
      refine awp_skip_ (tn_ ?_)
      refine wr_ ?_
      refine awp_seqB h (fun (l21_m3 : List Int) S_ => S_ = ⟨mkTm [(1, (.box (oi 0 1) 0)), (3, (.own (oi 1 1) .int 0 l21_m3.length)), (5, (ai x12)), (14, (.own (oi 2 1) .int 0 y5.length)), (15, (ai ((y5.length : Nat) : Int))), (16, (ai ((l6_m16 : Nat) : Int))), (25, (.own (oi 3 1) .int 0 y16.length)), (26, (ai ((y16.length : Nat) : Int))), (27, (ai ((l17_m27 : Nat) : Int)))], mkOb (someL [((oi 0 1), .cells 34 [(ai a0_0), (.tree T4 a0_1), (.tree .int a0_2)]), ((oi 1 1), .arr 3 .int l21_m3), ((oi 2 1), .arr 3 .int y5), ((oi 3 1), .arr 3 .int y16)]), 2⟩) ?_ ?_
      ·intro v_ h
       refine awp_block_ ?_
       refine awp_seqv_ ?_
       obtain ⟨x23, e23, h⟩ := ob_some h
       refine awp_region_ 6 ?_
       refine rs0 (.elt (oi 3 1) l17_m27 0) (zo (t := .int) (o := (oi 3 1)) (len := y16.length) (k := .i64) (m := ((l17_m27 : Nat) : Int)) (nat_nn _) (getN_lt e23)) ?_
       refine rsl (ai x23) (s_ldE (i := (oi 3 1)) (j := l17_m27) (k := 0) (e := 3) (t := .int) (xs := y16) (by kernel_rfl) (by kernel_rfl) e23 (by kernel_rfl)) ?_
       refine rsB 1 ?_
       refine rnil (tn_ ?_)
       refine wr_ ?_
       refine awp_seqB h (fun (l24_m43 : Bool) S_ => S_ = ⟨mkTm [(1, (.box (oi 0 1) 0)), (3, (.own (oi 1 1) .int 0 l17_m3.length)), (5, (ai x12)), (7, (ai x23)), (14, (.own (oi 2 1) .int 0 y5.length)), (15, (ai ((y5.length : Nat) : Int))), (16, (ai ((l6_m16 : Nat) : Int))), (25, (.own (oi 3 1) .int 0 y16.length)), (26, (ai ((y16.length : Nat) : Int))), (27, (ai ((l17_m27 : Nat) : Int))), (43, (.bool l24_m43))], mkOb (someL [((oi 0 1), .cells 34 [(ai a0_0), (.tree T4 a0_1), (.tree .int a0_2)]), ((oi 1 1), .arr 3 .int l17_m3), ((oi 2 1), .arr 3 .int y5), ((oi 3 1), .arr 3 .int y16)]), 2⟩) ?_ ?_
       ·intro v_ h
        obtain ⟨x25, f25, h⟩ := ob_some h
        obtain ⟨p25, b25, e25⟩ := getI_some f25
        obtain ⟨y26, h26, h⟩ := ob_some h
        rcases cond_some h with ⟨q27, h⟩ | ⟨q27, h⟩
        ·obtain ⟨y28, h28, h⟩ := ob_some h
         refine awp_region_ 19 ?_
         refine rz0 (.box (oi 0 1) 1) ?_
         refine rzl (.tree T4 a0_1) ?_
         refine rz0 (ai x23) ?_
         refine rs0 (.telt T4 x25 0) (zi (t := T4) (xs := a0_1) (k := .i64) (m := x23) p25 e25) ?_
         refine rz0 (.agg [(ai x25.1), (ai x25.2.1), (ai x25.2.2.1), (ai x25.2.2.2)]) ?_
         refine zc (.bool y26) [] [(.agg [(ai x25.1), (ai x25.2.1), (ai x25.2.2.1), (ai x25.2.2.2)])] (ok_spec_crCombines h26) ?_
         refine rz0 (.bool (!y26)) ?_
         refine rz0 (.bool (!y26)) ?_
         refine rs0 (.own (oi 1 1) .int 0 l17_m3.length) (zg q27) ?_
         refine rs0 (ai x23) (zg q27) ?_
         refine rcall (.bool y28) [] [(.own (oi 1 1) .int 0 l17_m3.length), (ai x23)] _ (caps := []) (args0 := [(.tree .int l17_m3), (ai x23)]) (gdOK_b (by kernel_rfl) q27) (gm_cons (gd_own (e := 3) (by kernel_rfl) rfl) (gm_cons (by kernel_rfl) gm_nil)) (ok_spec_l1Has h28) hb_spec_l1Has ?_
         refine rs0 (.bool (!y28)) (zg q27) ?_
         refine rs0 (.bool (!y28)) (zT q27) ?_
         refine rnil (tn_ ?_)
         obtain rfl := zj h
         exact ⟨_, (weak_ren []), rfl⟩
        refine awp_region_ 19 ?_
        refine rz0 (.box (oi 0 1) 1) ?_
        refine rzl (.tree T4 a0_1) ?_
        refine rz0 (ai x23) ?_
        refine rs0 (.telt T4 x25 0) (zi (t := T4) (xs := a0_1) (k := .i64) (m := x23) p25 e25) ?_
        refine rz0 (.agg [(ai x25.1), (ai x25.2.1), (ai x25.2.2.1), (ai x25.2.2.2)]) ?_
        refine zc (.bool y26) [] [(.agg [(ai x25.1), (ai x25.2.1), (ai x25.2.2.1), (ai x25.2.2.2)])] (ok_spec_crCombines h26) ?_
        refine rz0 (.bool (!y26)) ?_
        refine rz0 (.bool (!y26)) ?_
        refine zs q27 ?_
        refine zs q27 ?_
        refine zs q27 ?_
        refine zs q27 ?_
        refine rs0 (.bool false) (zF q27) ?_
        refine rnil (tn_ ?_)
        obtain rfl := zj h
        exact ⟨_, (weak_ren []), rfl⟩
       rintro l24_m43 _ rfl h
       (try dsimp only at h)
       rcases cond_some h with ⟨q29, h⟩ | ⟨q29, h⟩
       ·refine awp_condT_ q29 ?_
        obtain ⟨g30, h⟩ := og_some h
        refine awp_region_ 7 ?_
        refine rz0 (.own (oi 1 1) .int 0 l17_m3.length) ?_
        refine rz0 (ai x23) ?_
        refine rs1 (.own (oi 46 4) .int 0 1) (oi 46 4) (.arr 3 .int ([x23])) (by kernel_rfl) ?_
        refine rs2 (.own (oi 1 5) .int 0 ((l17_m3 ++ ([x23])).length)) (oi 1 1) (oi 1 5) (.arr 3 .int (l17_m3 ++ ([x23]))) (s_appO (t := .int) (t' := .int) (xs := l17_m3) (ys := [x23]) (zs := l17_m3 ++ ([x23])) (j := (oi 1 1)) (len := l17_m3.length) (c := (.own (oi 46 4) .int 0 1)) (by kernel_rfl) (by kernel_rfl) rfl (by kernel_rfl) (sr_own (e := 3) (by kernel_rfl) rfl) rfl g30) ?_
        refine rsB 1 ?_
        refine rnil (bn_ (tn_ ?_))
        obtain rfl := zj h
        exact ⟨_, (weak_ren [((oi 1 1), (oi 1 5))]), rfl⟩
       refine awp_condF_ q29 ?_
       refine awp_skip_ (bn_ (tn_ ?_))
       obtain rfl := zj h
       exact ⟨_, (weak_ren []), rfl⟩
      rintro l21_m3 _ rfl h
      (try dsimp only at h)
      obtain ⟨g31, h⟩ := og_some h
      refine awp_region_ 4 ?_
      refine rs0 (ai ((l17_m27 + 1 : Nat) : Int)) (za g31) ?_
      refine rsB 1 ?_
      refine rnil (tn_ ?_)
      obtain rfl := zj h
      exact ⟨(l17_m27 + 1, l21_m3), _, (weak_ren []), ⟨l17_m27 + 1, l21_m3, rfl, rfl⟩, hn17⟩
     have q20_ := of_decide_eq_false q20
     refine awp_condF_ q20 ?_
     refine awp_exit_ (te_ (te_ (be_ (tn_ ?_))))
     obtain rfl := zj h
     have h := hn17
     (try dsimp only at h)
     obtain rfl := zj h
     exact ⟨_, (weak_ren []), rfl⟩
    rintro l13_m3 _ rfl h
    (try dsimp only at h)
    obtain ⟨g32, h⟩ := og_some h
    refine awp_region_ 7 ?_
    refine rz0 (.own (oi 1 1) .int 0 l13_m3.length) ?_
    refine rz0 (ai x12) ?_
    refine rs1 (.own (oi 51 4) .int 0 1) (oi 51 4) (.arr 3 .int ([x12])) (by kernel_rfl) ?_
    refine rs2 (.own (oi 1 5) .int 0 ((l13_m3 ++ ([x12])).length)) (oi 1 1) (oi 1 5) (.arr 3 .int (l13_m3 ++ ([x12]))) (s_appO (t := .int) (t' := .int) (xs := l13_m3) (ys := [x12]) (zs := l13_m3 ++ ([x12])) (j := (oi 1 1)) (len := l13_m3.length) (c := (.own (oi 51 4) .int 0 1)) (by kernel_rfl) (by kernel_rfl) rfl (by kernel_rfl) (sr_own (e := 3) (by kernel_rfl) rfl) rfl g32) ?_
    refine rsB 1 ?_
    refine rnil (bn_ (tn_ ?_))
    obtain rfl := zj h
    exact ⟨_, (weak_ren [((oi 1 1), (oi 1 5))]), rfl⟩
   rintro l10_m3 _ rfl h
   (try dsimp only at h)
   obtain ⟨g33, h⟩ := og_some h
   refine awp_region_ 4 ?_
   refine rs0 (ai ((l6_m16 + 1 : Nat) : Int)) (za g33) ?_
   refine rsB 1 ?_
   refine rnil (tn_ ?_)
   obtain rfl := zj h
   exact ⟨(l6_m16 + 1, l10_m3), _, (weak_ren []), ⟨l6_m16 + 1, l10_m3, rfl, rfl⟩, hn6⟩
  have q9_ := of_decide_eq_false q9
  refine awp_condF_ q9 ?_
  refine awp_exit_ (te_ (te_ (be_ (tn_ ?_))))
  obtain rfl := zj h
  have h := hn6
  (try dsimp only at h)
  obtain rfl := zj h
  exact ⟨_, (weak_ren []), rfl⟩
 rintro l3_m3 _ rfl h
 (try dsimp only at h)
 refine awp_seqB h (fun (l34_m3 : List Int) S_ => S_ = ⟨mkTm [(1, (.box (oi 0 1) 0)), (3, (.own (oi 1 1) .int 0 l34_m3.length))], mkOb (someL [((oi 0 1), .cells 34 [(ai a0_0), (.tree T4 a0_1), (.tree .int a0_2)]), ((oi 1 1), .arr 3 .int l34_m3)]), 2⟩) ?_ ?_
 ·intro v_ h
  refine awp_seqv_ ?_
  obtain ⟨y36, h36, h⟩ := ob_some h
  refine awp_region_ 6 ?_
  refine rzl (.agg [(ai a0_0), (.tree T4 a0_1), (.tree .int a0_2)]) ?_
  refine zc (.own (oi 880 3) .int 0 y36.length) [((oi 880 3), some (.arr 3 .int y36))] [(.agg [(ai a0_0), (.tree T4 a0_1), (.tree .int a0_2)])] (ok_spec_crDelays h36) ?_
  refine rsB 2 ?_
  refine rnil (tn_ ?_)
  refine wr_ ?_
  refine awp_block_ ?_
  refine awp_loopL h (fun t_ S_ => ∃ (l37_m57 : Nat), ∃ (l37_m3 : List Int), t_ = (l37_m57, l37_m3) ∧ S_ = ⟨mkTm [(1, (.box (oi 0 1) 0)), (3, (.own (oi 1 1) .int 0 l37_m3.length)), (55, (.own (oi 2 1) .int 0 y36.length)), (56, (ai ((y36.length : Nat) : Int))), (57, (ai ((l37_m57 : Nat) : Int)))], mkOb (someL [((oi 0 1), .cells 34 [(ai a0_0), (.tree T4 a0_1), (.tree .int a0_2)]), ((oi 1 1), .arr 3 .int l37_m3), ((oi 2 1), .arr 3 .int y36)]), 2⟩) ⟨_, (weak_ren [((oi 2 1), (oi 880 3))]), ⟨0, l3_m3, rfl, rfl⟩⟩ ?_
  rintro n_ _ _ c_ ⟨l37_m57, l37_m3, rfl, rfl⟩ h hn37
  (try dsimp only at h)
  unfold L_spec_cmListed_l3 at h
  unfold m_spec_cmListed_l3
  refine seqR ?_
  refine awp_seqv_ ?_
  rcases cond_some h with ⟨q40, h⟩ | ⟨q40, h⟩
  ·have q40_ := of_decide_eq_true q40
   refine awp_condT_ q40 ?_
   refine awp_skip_ (tn_ ?_)
   refine wr_ ?_
   refine awp_seqB h (fun (l41_m3 : List Int) S_ => S_ = ⟨mkTm [(1, (.box (oi 0 1) 0)), (3, (.own (oi 1 1) .int 0 l41_m3.length)), (55, (.own (oi 2 1) .int 0 y36.length)), (56, (ai ((y36.length : Nat) : Int))), (57, (ai ((l37_m57 : Nat) : Int)))], mkOb (someL [((oi 0 1), .cells 34 [(ai a0_0), (.tree T4 a0_1), (.tree .int a0_2)]), ((oi 1 1), .arr 3 .int l41_m3), ((oi 2 1), .arr 3 .int y36)]), 2⟩) ?_ ?_
   ·intro v_ h
    refine awp_block_ ?_
    refine awp_seqv_ ?_
    obtain ⟨x43, e43, h⟩ := ob_some h
    refine awp_region_ 6 ?_
    refine rs0 (.elt (oi 2 1) l37_m57 0) (zo (t := .int) (o := (oi 2 1)) (len := y36.length) (k := .i64) (m := ((l37_m57 : Nat) : Int)) (nat_nn _) (getN_lt e43)) ?_
    refine rsl (ai x43) (s_ldE (i := (oi 2 1)) (j := l37_m57) (k := 0) (e := 3) (t := .int) (xs := y36) (by kernel_rfl) (by kernel_rfl) e43 (by kernel_rfl)) ?_
    refine rsB 1 ?_
    refine rnil (tn_ ?_)
    refine wr_ ?_
    refine awp_seqv_ ?_
    obtain ⟨x45, f45, h⟩ := ob_some h
    obtain ⟨p45, b45, e45⟩ := getI_some f45
    refine awp_region_ 13 ?_
    refine rz0 (.box (oi 0 1) 1) ?_
    refine rzl (.tree T4 a0_1) ?_
    refine rz0 (ai x43) ?_
    refine rs0 (.telt T4 x45 0) (zi (t := T4) (xs := a0_1) (k := .i64) (m := x43) p45 e45) ?_
    refine rsB 3 ?_
    refine rnil (tn_ ?_)
    refine wr_ ?_
    refine awp_seqv_ ?_
    obtain ⟨y47, h47, h⟩ := ob_some h
    refine awp_region_ 17 ?_
    refine rz0 (.own (oi 1 1) .int 0 l37_m3.length) ?_
    refine rz0 (ai x45.2.1) ?_
    refine rcall (.bool y47) [] [(.own (oi 1 1) .int 0 l37_m3.length), (ai x45.2.1)] _ (caps := []) (args0 := [(.tree .int l37_m3), (ai x45.2.1)]) trivial (gm_cons (gd_own (e := 3) (by kernel_rfl) rfl) (gm_cons (by kernel_rfl) gm_nil)) (ok_spec_l1Has h47) hb_spec_l1Has ?_
    refine rsB 1 ?_
    refine rnil (tn_ ?_)
    refine wr_ ?_
    rcases cond_some h with ⟨q48, h⟩ | ⟨q48, h⟩
    ·refine awp_condT_ q48 ?_
     obtain ⟨g49, h⟩ := og_some h
     refine awp_region_ 22 ?_
     refine rz0 (.own (oi 1 1) .int 0 l37_m3.length) ?_
     refine rz0 (ai x45.2.1) ?_
     refine rs1 (.own (oi 73 19) .int 0 1) (oi 73 19) (.arr 3 .int ([x45.2.1])) (by kernel_rfl) ?_
     refine rs2 (.own (oi 1 20) .int 0 ((l37_m3 ++ ([x45.2.1])).length)) (oi 1 1) (oi 1 20) (.arr 3 .int (l37_m3 ++ ([x45.2.1]))) (s_appO (t := .int) (t' := .int) (xs := l37_m3) (ys := [x45.2.1]) (zs := l37_m3 ++ ([x45.2.1])) (j := (oi 1 1)) (len := l37_m3.length) (c := (.own (oi 73 19) .int 0 1)) (by kernel_rfl) (by kernel_rfl) rfl (by kernel_rfl) (sr_own (e := 3) (by kernel_rfl) rfl) rfl g49) ?_
     refine rsB 1 ?_
     refine rnil (bn_ (tn_ ?_))
     obtain rfl := zj h
     exact ⟨_, (weak_ren [((oi 1 1), (oi 1 20))]), rfl⟩
    refine awp_condF_ q48 ?_
    refine awp_skip_ (bn_ (tn_ ?_))
    obtain rfl := zj h
    exact ⟨_, (weak_ren []), rfl⟩
   rintro l41_m3 _ rfl h
   (try dsimp only at h)
   obtain ⟨g50, h⟩ := og_some h
   refine awp_region_ 4 ?_
   refine rs0 (ai ((l37_m57 + 1 : Nat) : Int)) (za g50) ?_
   refine rsB 1 ?_
   refine rnil (tn_ ?_)
   obtain rfl := zj h
   exact ⟨(l37_m57 + 1, l41_m3), _, (weak_ren []), ⟨l37_m57 + 1, l41_m3, rfl, rfl⟩, hn37⟩
  have q40_ := of_decide_eq_false q40
  refine awp_condF_ q40 ?_
  refine awp_exit_ (te_ (te_ (be_ (tn_ ?_))))
  obtain rfl := zj h
  have h := hn37
  (try dsimp only at h)
  obtain rfl := zj h
  exact ⟨_, (weak_ren []), rfl⟩
 rintro l34_m3 _ rfl h
 (try dsimp only at h)
 refine awp_seqB h (fun (l51_m3 : List Int) S_ => S_ = ⟨mkTm [(3, (.own (oi 0 1) .int 0 l51_m3.length))], mkOb (someL [((oi 0 1), .arr 3 .int l51_m3)]), 2⟩) ?_ ?_
 ·intro v_ h
  refine seqR ?_
  refine awp_block_ ?_
  refine awp_loopL h (fun t_ S_ => ∃ (l53_m79 : Nat), ∃ (l53_m3 : List Int), t_ = (l53_m79, l53_m3) ∧ S_ = ⟨mkTm [(3, (.own (oi 0 1) .int 0 l53_m3.length)), (77, (.tree .int a0_2)), (78, (ai ((a0_2.length : Nat) : Int))), (79, (ai ((l53_m79 : Nat) : Int)))], mkOb (someL [((oi 0 1), .arr 3 .int l53_m3)]), 2⟩) ⟨_, (weak_ren [((oi 0 1), (oi 1 1))]), ⟨0, l34_m3, rfl, rfl⟩⟩ ?_
  rintro n_ _ _ c_ ⟨l53_m79, l53_m3, rfl, rfl⟩ h hn53
  (try dsimp only at h)
  unfold L_spec_cmListed_l4 at h
  unfold m_spec_cmListed_l4
  refine seqR ?_
  refine awp_seqv_ ?_
  rcases cond_some h with ⟨q56, h⟩ | ⟨q56, h⟩
  ·have q56_ := of_decide_eq_true q56
   refine awp_condT_ q56 ?_
   refine awp_skip_ (tn_ ?_)
   refine wr_ ?_
   refine awp_seqB h (fun (l57_m3 : List Int) S_ => S_ = ⟨mkTm [(3, (.own (oi 0 1) .int 0 l57_m3.length)), (77, (.tree .int a0_2)), (78, (ai ((a0_2.length : Nat) : Int))), (79, (ai ((l53_m79 : Nat) : Int)))], mkOb (someL [((oi 0 1), .arr 3 .int l57_m3)]), 2⟩) ?_ ?_
   ·intro v_ h
    refine awp_block_ ?_
    refine awp_seqv_ ?_
    obtain ⟨x59, e59, h⟩ := ob_some h
    refine awp_region_ 6 ?_
    refine rs0 (.telt .int x59 0) (zi (t := .int) (xs := a0_2) (k := .i64) (m := ((l53_m79 : Nat) : Int)) (nat_nn _) e59) ?_
    refine rsB 2 ?_
    refine rnil (tn_ ?_)
    refine wr_ ?_
    refine awp_seqv_ ?_
    obtain ⟨y61, h61, h⟩ := ob_some h
    refine awp_region_ 10 ?_
    refine rz0 (.own (oi 0 1) .int 0 l53_m3.length) ?_
    refine rz0 (ai x59) ?_
    refine rcall (.bool y61) [] [(.own (oi 0 1) .int 0 l53_m3.length), (ai x59)] _ (caps := []) (args0 := [(.tree .int l53_m3), (ai x59)]) trivial (gm_cons (gd_own (e := 3) (by kernel_rfl) rfl) (gm_cons (by kernel_rfl) gm_nil)) (ok_spec_l1Has h61) hb_spec_l1Has ?_
    refine rsB 1 ?_
    refine rnil (tn_ ?_)
    refine wr_ ?_
    rcases cond_some h with ⟨q62, h⟩ | ⟨q62, h⟩
    ·refine awp_condT_ q62 ?_
     obtain ⟨g63, h⟩ := og_some h
     refine awp_region_ 15 ?_
     refine rz0 (.own (oi 0 1) .int 0 l53_m3.length) ?_
     refine rz0 (ai x59) ?_
     refine rs1 (.own (oi 89 12) .int 0 1) (oi 89 12) (.arr 3 .int ([x59])) (by kernel_rfl) ?_
     refine rs2 (.own (oi 0 13) .int 0 ((l53_m3 ++ ([x59])).length)) (oi 0 1) (oi 0 13) (.arr 3 .int (l53_m3 ++ ([x59]))) (s_appO (t := .int) (t' := .int) (xs := l53_m3) (ys := [x59]) (zs := l53_m3 ++ ([x59])) (j := (oi 0 1)) (len := l53_m3.length) (c := (.own (oi 89 12) .int 0 1)) (by kernel_rfl) (by kernel_rfl) rfl (by kernel_rfl) (sr_own (e := 3) (by kernel_rfl) rfl) rfl g63) ?_
     refine rsB 1 ?_
     refine rnil (bn_ (tn_ ?_))
     obtain rfl := zj h
     exact ⟨_, (weak_ren [((oi 0 1), (oi 0 13))]), rfl⟩
    refine awp_condF_ q62 ?_
    refine awp_skip_ (bn_ (tn_ ?_))
    obtain rfl := zj h
    exact ⟨_, (weak_ren []), rfl⟩
   rintro l57_m3 _ rfl h
   (try dsimp only at h)
   obtain ⟨g64, h⟩ := og_some h
   refine awp_region_ 4 ?_
   refine rs0 (ai ((l53_m79 + 1 : Nat) : Int)) (za g64) ?_
   refine rsB 1 ?_
   refine rnil (tn_ ?_)
   obtain rfl := zj h
   exact ⟨(l53_m79 + 1, l57_m3), _, (weak_ren []), ⟨l53_m79 + 1, l57_m3, rfl, rfl⟩, hn53⟩
  have q56_ := of_decide_eq_false q56
  refine awp_condF_ q56 ?_
  refine awp_exit_ (te_ (te_ (be_ (tn_ ?_))))
  obtain rfl := zj h
  have h := hn53
  (try dsimp only at h)
  obtain rfl := zj h
  exact ⟨_, (weak_ren []), rfl⟩
 rintro l51_m3 _ rfl h
 (try dsimp only at h)
 refine seqR ?_
 refine awp_ret_ ?_
 obtain rfl := zj h
 exact ret_ [(.own (oi 0 1) .int 0 l51_m3.length)] (p_one rfl (l_own (by kernel_rfl) rfl) p_nil)
def m_slices_Index_int_int_l1 : AC :=
 (.seq (rg [xo 9 (qb .lss (tm 8) (tm 7))])
 (.seq (.cond (tm 9)
  .skip
  (.exit 0))
 (.seq (.block 1 (.seq (rg [xo 10 (qm (tm 8)), xo 5 (qm (tm 10))])
 (.seq (rg [xo 11 (qm (tm 1)), xo 12 (qm (tm 0)), xo 13 (qm (tm 5)), xo 14 (qx 1 (tm 12) (tm 13)), xo 15 (ql (tm 14)), xo 16 (qb .eql (tm 11) (tm 15))])
 (.cond (tm 16)
  (.seq (rg [xo 17 (qm (tm 5)), xo 4 (qm (tm 17))])
  .ret)
  .skip))))
 (rg [xo 18 (qb .add (tm 8) (ci 1)), xo 8 (qm (tm 18))]))))
def m_slices_Index_int_int : AC :=
 (.seq (rg [xo 4 (qm (ci 0))])
 (.seq (.seq (rg [xo 6 (qm (tm 0)), xo 7 (.i (.len (tm 6))), xo 8 (qm (ci 0))])
 (.block 0 (.loop m_slices_Index_int_int_l1)))
 (.seq (rg [xo 4 (qm (ci (-1)))])
 .ret)))
def r_slices_Index_int_int : List Res := [.tmp 4]
theorem c_slices_Index_int_int : compiled Tryd.prog Tryd.f53 = some (m_slices_Index_int_int, r_slices_Index_int_int) := by kernel_rfl
theorem hb_slices_Index_int_int : hasBody Tryd.prog 53 = true := by kernel_rfl
def L_slices_Index_int_int_l1 (a0 : List Int) (a1 : Int) (l4_m8 : Nat) : Option (Ctl Nat (Ctl Unit Int)) :=
 cond (decide (((l4_m8 : Nat) : Int) < ((a0.length : Nat) : Int)))
 (Option.bind (a0[l4_m8]?) fun x11 =>
 cond (a1 == x11)
  (some (Ctl.out (Ctl.out ((l4_m8 : Nat) : Int))))
  (og (l4_m8 + 1 < 4611686018427387904) <|
  some (Ctl.next (l4_m8 + 1))))
 (some (Ctl.out (Ctl.next ())))
def L_slices_Index_int_int (a0 : List Int) (a1 : Int) : Option Int :=
 seqC (loopM (fun s_ : Nat => L_slices_Index_int_int_l1 a0 a1 s_) 4611686018427387904 0) fun _ =>
some (-1)
def rv_slices_Index_int_int (r : Int) : RV := ⟨false, [(false, [.sc (.int .i64 r)])]⟩
theorem ok_slices_Index_int_int {a0 : List Int} {a1 : Int} {r : Int} (h : L_slices_Index_int_int a0 a1 = some r) : CallOK Tryd.prog Tab 53 [(.tree .int a0), (ai a1)] (rv_slices_Index_int_int r) := by
 refine call_of_ (by kernel_rfl) Tryd.func53 c_slices_Index_int_int (n := 19) (by kernel_rfl) (by simp) (tl := [(0, (.tree .int a0)), (1, (ai a1))]) rfl ?_
 unfold m_slices_Index_int_int
 unfold L_slices_Index_int_int at h
 refine seqR ?_
 refine awp_seqC h (fun (_ : Unit) S_ => S_ = ⟨mkTm [], mkOb (someL []), 2⟩) ?_ ?_
 ·intro v_ h hk2
  refine seqR ?_
  refine awp_block_ ?_
  refine awp_loopL h (fun (l4_m8 : Nat) S_ => S_ = ⟨mkTm [(0, (.tree .int a0)), (1, (ai a1)), (7, (ai ((a0.length : Nat) : Int))), (8, (ai ((l4_m8 : Nat) : Int)))], mkOb (someL []), 2⟩) ⟨_, (weak_ren []), rfl⟩ ?_
  rintro n_ l4_m8 _ c_ rfl h hn4
  (try dsimp only at h)
  unfold L_slices_Index_int_int_l1 at h
  unfold m_slices_Index_int_int_l1
  refine seqR ?_
  refine awp_seqv_ ?_
  rcases cond_some h with ⟨q7, h⟩ | ⟨q7, h⟩
  ·have q7_ := of_decide_eq_true q7
   refine awp_condT_ q7 ?_
   refine awp_skip_ (tn_ ?_)
   refine wr_ ?_
   refine awp_seqv_ ?_
   refine awp_block_ ?_
   refine seqR ?_
   refine awp_seqv_ ?_
   obtain ⟨x11, e11, h⟩ := ob_some h
   refine awp_region_ 11 ?_
   refine rz0 (ai a1) ?_
   refine rz0 (.tree .int a0) ?_
   refine rz0 (ai ((l4_m8 : Nat) : Int)) ?_
   refine rs0 (.telt .int x11 0) (zi (t := .int) (xs := a0) (k := .i64) (m := ((l4_m8 : Nat) : Int)) (nat_nn _) e11) ?_
   refine rsB 2 ?_
   refine rnil (tn_ ?_)
   refine wr_ ?_
   rcases cond_some h with ⟨q12, h⟩ | ⟨q12, h⟩
   ·refine awp_condT_ q12 ?_
    refine seqR ?_
    refine awp_ret_ (br_ (tr_ (tr_ (br_ (tr_ ?_)))))
    obtain rfl := zj h
    have h := hn4
    (try dsimp only at h)
    obtain rfl := zj h
    have h := hk2
    (try dsimp only at h)
    obtain rfl := zj h
    exact ret_ [(ai ((l4_m8 : Nat) : Int))] (p_one rfl zl p_nil)
   refine awp_condF_ q12 ?_
   refine awp_skip_ (bn_ (tn_ ?_))
   refine wr_ ?_
   obtain ⟨g14, h⟩ := og_some h
   refine awp_region_ 13 ?_
   refine rs0 (ai ((l4_m8 + 1 : Nat) : Int)) (za g14) ?_
   refine rsB 1 ?_
   refine rnil (tn_ ?_)
   obtain rfl := zj h
   exact ⟨l4_m8 + 1, _, (weak_ren []), rfl, hn4⟩
  have q7_ := of_decide_eq_false q7
  refine awp_condF_ q7 ?_
  refine awp_exit_ (te_ (te_ (be_ (tn_ ?_))))
  obtain rfl := zj h
  have h := hn4
  (try dsimp only at h)
  obtain rfl := zj h
  exact ⟨(), _, rfl, (weak_ren []), rfl⟩
 rintro _ _ rfl h
 (try dsimp only at h)
 refine seqR ?_
 refine awp_ret_ ?_
 obtain rfl := zj h
 exact ret_ [(ai (-1))] (p_one rfl zl p_nil)
def m_slices_Contains_int_int : AC :=
 (.seq (rg [xo 4 (qm (cb false))])
 (.seq (rg [xo 5 (qm (tm 0)), xo 6 (qm (tm 1)), xo 7 (qc 53 [(tm 5), (tm 6)] [[(some .int)], []]), xo 8 (qb .geq (tm 7) (ci 0)), xo 4 (qm (tm 8))])
 .ret))
def r_slices_Contains_int_int : List Res := [.tmp 4]
theorem c_slices_Contains_int_int : compiled Tryd.prog Tryd.f66 = some (m_slices_Contains_int_int, r_slices_Contains_int_int) := by kernel_rfl
theorem hb_slices_Contains_int_int : hasBody Tryd.prog 66 = true := by kernel_rfl
def L_slices_Contains_int_int (a0 : List Int) (a1 : Int) : Option Bool :=
 Option.bind (L_slices_Index_int_int a0 a1) fun y3 =>
some (decide (0 <= y3))
def rv_slices_Contains_int_int (r : Bool) : RV := ⟨false, [(false, [.sc (.bool r)])]⟩
theorem ok_slices_Contains_int_int {a0 : List Int} {a1 : Int} {r : Bool} (h : L_slices_Contains_int_int a0 a1 = some r) : CallOK Tryd.prog Tab 66 [(.tree .int a0), (ai a1)] (rv_slices_Contains_int_int r) := by
 refine call_of_ (by kernel_rfl) Tryd.func66 c_slices_Contains_int_int (n := 9) (by kernel_rfl) (by simp) (tl := [(0, (.tree .int a0)), (1, (ai a1))]) rfl ?_
 unfold m_slices_Contains_int_int
 unfold L_slices_Contains_int_int at h
 refine seqR ?_
 refine awp_seqv_ ?_
 obtain ⟨y3, h3, h⟩ := ob_some h
 refine awp_region_ 7 ?_
 refine rz0 (.tree .int a0) ?_
 refine rz0 (ai a1) ?_
 refine zc (ai y3) [] [(.tree .int a0), (ai a1)] (ok_slices_Index_int_int h3) ?_
 refine rsB 2 ?_
 refine rnil (tn_ ?_)
 refine wr_ ?_
 refine awp_ret_ ?_
 obtain rfl := zj h
 exact ret_ [(.bool (decide (0 <= y3)))] (p_one rfl zl p_nil)
def m_impl_Circuit_listed_1 : AC :=
 (.seq (rg [xo 3 (ql (tm 1)), xo 4 (qm (tm 0)), xo 5 (qc 66 [(tm 3), (tm 4)] [[(some .int)], []]), xo 6 (.i (.not (tm 5)))])
 (.cond (tm 6)
  (rg [xo 7 (ql (tm 1)), xo 8 (qm (tm 0)), xo 9 (.mkS 3 .int [(tm 8)]), xo 10 (.append 3 .int 8 (tm 7) (tm 9)), xn (qs (tm 1) (tm 10))])
  .skip))
def r_impl_Circuit_listed_1 : List Res := []
theorem c_impl_Circuit_listed_1 : compiled Tryd.prog Tryd.f65 = some (m_impl_Circuit_listed_1, r_impl_Circuit_listed_1) := by kernel_rfl
theorem hb_impl_Circuit_listed_1 : hasBody Tryd.prog 65 = true := by kernel_rfl
def L_impl_Circuit_listed_1 (a0 : Int) (c0_0 : List Int) : Option (List Int) :=
 Option.bind (L_slices_Contains_int_int c0_0 a0) fun y3 =>
cond (!y3)
 (og (c0_0.length + 1 <= 1073741824 ∧ (c0_0.length + 1) * 8 <= 140737488355328) <|
 some (c0_0 ++ ([a0])))
 (some c0_0)
theorem ok_impl_Circuit_listed_1 {a0 : Int} {c0_0 : List Int} {r : List Int} (h : L_impl_Circuit_listed_1 a0 c0_0 = some r) : CallM Tryd.prog Tab 65 [(ai a0), (.box (oi 0 0) 0)] [((oi 0 0), .cells 23 [(.own (oi 1 0) .int 0 c0_0.length)]), ((oi 1 0), .arr 3 .int c0_0)] (.tup []) [((oi 0 0), .cells 23 [(.own (oi 0 1) .int 0 r.length)]), ((oi 0 1), .arr 3 .int r)] := by
 refine callM_of_ (by kernel_rfl) Tryd.func65 c_impl_Circuit_listed_1 (n := 11) (by kernel_rfl) (by simp) (tl := [(0, (ai a0)), (1, (.box (oi 0 0) 0))]) rfl (by kernel_rfl) ⟨trivial, ⟨trivial, trivial⟩⟩ ⟨trivial, ⟨trivial, trivial⟩⟩ ?_
 unfold m_impl_Circuit_listed_1
 unfold L_impl_Circuit_listed_1 at h
 refine awp_seqv_ ?_
 obtain ⟨y3, h3, h⟩ := ob_some h
 refine awp_region_ 5 ?_
 refine rzl (.own (oi 1 0) .int 0 c0_0.length) ?_
 refine rz0 (ai a0) ?_
 refine rcall (.bool y3) [] [(.own (oi 1 0) .int 0 c0_0.length), (ai a0)] _ (caps := []) (args0 := [(.tree .int c0_0), (ai a0)]) trivial (gm_cons (gd_own (e := 3) (by kernel_rfl) rfl) (gm_cons (by kernel_rfl) gm_nil)) (ok_slices_Contains_int_int h3) hb_slices_Contains_int_int ?_
 refine rsB 1 ?_
 refine rnil (tn_ ?_)
 refine wr_ ?_
 rcases cond_some h with ⟨q4, h⟩ | ⟨q4, h⟩
 ·refine awp_condT_ q4 ?_
  obtain ⟨g5, h⟩ := og_some h
  refine awp_region_ 10 ?_
  refine rzl (.own (oi 1 0) .int 0 c0_0.length) ?_
  refine rz0 (ai a0) ?_
  refine rs1 (.own (oi 9 7) .int 0 1) (oi 9 7) (.arr 3 .int ([a0])) (by kernel_rfl) ?_
  refine rs2 (.own (oi 1 8) .int 0 ((c0_0 ++ ([a0])).length)) (oi 1 0) (oi 1 8) (.arr 3 .int (c0_0 ++ ([a0]))) (s_appO (t := .int) (t' := .int) (xs := c0_0) (ys := [a0]) (zs := c0_0 ++ ([a0])) (j := (oi 1 0)) (len := c0_0.length) (c := (.own (oi 9 7) .int 0 1)) (by kernel_rfl) (by kernel_rfl) rfl (by kernel_rfl) (sr_own (e := 3) (by kernel_rfl) rfl) rfl g5) ?_
  refine rsB 1 ?_
  refine rnil ?_
  obtain rfl := zj h
  exact retM_ [] (weak_ren (tl := []) (g := 2) [((oi 0 1), (oi 1 8))])
 refine awp_condF_ q4 ?_
 refine awp_skip_ ?_
 obtain rfl := zj h
 exact retM_ [] (weak_ren (tl := []) (g := 2) [((oi 0 1), (oi 1 0))])
def m_impl_Circuit_listed_l4 : AC :=
 (.seq (rg [xo 80 (qb .lss (tm 79) (tm 78))])
 (.seq (.cond (tm 80)
  .skip
  (.exit 6))
 (.seq (.block 7 (.seq (rg [xo 81 (qx 1 (tm 77) (tm 79)), xo 82 (ql (tm 81)), xo 15 (qm (tm 82))])
 (rg [xo 83 (qm (tm 4)), xo 84 (qm (tm 15)), xo 85 (.call (tm 83) [(tm 84)] [[]])])))
 (rg [xo 86 (qb .add (tm 79) (ci 1)), xo 79 (qm (tm 86))]))))
def m_impl_Circuit_listed_l3 : AC :=
 (.seq (rg [xo 64 (qb .lss (tm 63) (tm 62))])
 (.seq (.cond (tm 64)
  .skip
  (.exit 4))
 (.seq (.block 5 (.seq (rg [xo 65 (qx 1 (tm 61) (tm 63)), xo 66 (ql (tm 65)), xo 13 (qm (tm 66))])
 (rg [xo 67 (qm (tm 4)), xo 68 (qf 1 (tm 1)), xo 69 (ql (tm 68)), xo 70 (qm (tm 13)), xo 71 (qx 4 (tm 69) (tm 70)), xo 72 (qf 1 (tm 71)), xo 73 (ql (tm 72)), xo 74 (.call (tm 67) [(tm 73)] [[]])])))
 (rg [xo 75 (qb .add (tm 63) (ci 1)), xo 63 (qm (tm 75))]))))
def m_impl_Circuit_listed_l2 : AC :=
 (.seq (rg [xo 37 (qb .lss (tm 36) (tm 35))])
 (.seq (.cond (tm 37)
  .skip
  (.exit 2))
 (.seq (.block 3 (.seq (rg [xo 38 (qx 1 (tm 34) (tm 36)), xo 39 (ql (tm 38)), xo 10 (qm (tm 39))])
 (.seq (rg [xo 40 (qf 1 (tm 1)), xo 41 (ql (tm 40)), xo 42 (qm (tm 10)), xo 43 (qx 4 (tm 41) (tm 42)), xo 44 (qf 0 (tm 43)), xo 45 (ql (tm 44)), xo 11 (qm (tm 45))])
 (.seq (rg [xo 46 (qm (tm 11)), xo 47 (qb .neq (tm 46) (ci 3)), xo 48 (qm (tm 47)), ⟨(some 49), (some (48, true)), (qm (tm 11))⟩, ⟨(some 50), (some (48, true)), (qb .neq (tm 49) (ci 4))⟩, xo 51 (.i (.pick (tm 48) (tm 50) (cb false)))])
 (.cond (tm 51)
  (rg [xo 52 (qm (tm 4)), xo 53 (qm (tm 10)), xo 54 (.call (tm 52) [(tm 53)] [[]])])
  .skip)))))
 (rg [xo 55 (qb .add (tm 36) (ci 1)), xo 36 (qm (tm 55))]))))
def m_impl_Circuit_listed_l1 : AC :=
 (.seq (rg [xo 26 (qb .lss (tm 25) (tm 24))])
 (.seq (.cond (tm 26)
  .skip
  (.exit 0))
 (.seq (.block 1 (.seq (rg [xo 27 (qx 1 (tm 23) (tm 25)), xo 28 (ql (tm 27)), xo 8 (qm (tm 28))])
 (.seq (.seq (rg [xo 29 (qf 1 (tm 1)), xo 30 (ql (tm 29)), xo 31 (qm (tm 8)), xo 32 (qx 4 (tm 30) (tm 31)), xo 33 (.i (.ld false 4 (tm 32))), xo 34 (qc 58 [(tm 33)] [[none, none, none, none]]), xo 35 (.i (.len (tm 34))), xo 36 (qm (ci 0))])
 (.block 2 (.loop m_impl_Circuit_listed_l2)))
 (rg [xo 56 (qm (tm 4)), xo 57 (qm (tm 8)), xo 58 (.call (tm 56) [(tm 57)] [[]])]))))
 (rg [xo 59 (qb .add (tm 25) (ci 1)), xo 25 (qm (tm 59))]))))
def m_impl_Circuit_listed : AC :=
 (.seq (rg [xo 1 (.i (.box 34 (tm 0))), xo 2 (qm (.cst .nils))])
 (.seq (rg [xo 16 (.mkS 3 .int []), xo 3 (.i (.alloc 23 [.nils])), xn (qs (tm 3) (tm 16))])
 (.seq (rg [xo 17 (.i (.mkfn 65 [(tm 3)])), xo 4 (qm (tm 17))])
 (.seq (rg [xo 19 (.i (.ld false 3 (tm 1))), ⟨(some 20), none, (qc 46 [(tm 19)] [[none, (some T4), (some .int)]])⟩, xo 18 (qm (tm 20)), xo 21 (.i (.extr 0 (tm 18))), xo 22 (.i (.extr 1 (tm 18))), xo 5 (qm (tm 21)), xo 6 (qm (tm 22))])
 (.seq (.seq (rg [xo 23 (qm (tm 5)), xo 24 (.i (.len (tm 23))), xo 25 (qm (ci 0))])
 (.block 0 (.loop m_impl_Circuit_listed_l1)))
 (.seq (.seq (rg [xo 60 (.i (.ld false 3 (tm 1))), ⟨(some 61), none, (qc 48 [(tm 60)] [[none, (some T4), (some .int)]])⟩, xo 62 (.i (.len (tm 61))), xo 63 (qm (ci 0))])
 (.block 4 (.loop m_impl_Circuit_listed_l3)))
 (.seq (.seq (rg [xo 76 (qf 2 (tm 1)), xo 77 (ql (tm 76)), xo 78 (.i (.len (tm 77))), xo 79 (qm (ci 0))])
 (.block 6 (.loop m_impl_Circuit_listed_l4)))
 (.seq (rg [xo 87 (ql (tm 3)), xo 2 (qm (tm 87))])
 .ret))))))))
def r_impl_Circuit_listed : List Res := [.tmp 2]
theorem c_impl_Circuit_listed : compiled Tryd.prog Tryd.f47 = some (m_impl_Circuit_listed, r_impl_Circuit_listed) := by kernel_rfl
theorem hb_impl_Circuit_listed : hasBody Tryd.prog 47 = true := by kernel_rfl
def L_impl_Circuit_listed_l2 (y18 : List Int) (a0_1 : List (Int × Int × Int × Int)) (l19_m36 : Nat) (l19_m3_0 : List Int) : Option (Ctl (Nat × List Int) (List Int)) :=
 cond (decide (((l19_m36 : Nat) : Int) < ((y18.length : Nat) : Int)))
 (Option.bind (Option.bind (y18[l19_m36]?) fun x25 =>
  Option.bind (getI a0_1 x25) fun x27 =>
  Option.bind (cond (x27.1 != 3)
    (some (x27.1 != 4))
    (some false)) fun l28_m51 =>
  cond l28_m51
   (Option.bind (L_impl_Circuit_listed_1 x25 l19_m3_0) fun y31 =>
   some y31)
   (some l19_m3_0)) fun l23_m3_0 =>
 og (l19_m36 + 1 < 4611686018427387904) <|
 some (Ctl.next (l19_m36 + 1, l23_m3_0)))
 (some (Ctl.out l19_m3_0))
def L_impl_Circuit_listed_l1 (y5 : List Int × Bool) (a0_1 : List (Int × Int × Int × Int)) (l8_m25 : Nat) (l8_m3_0 : List Int) : Option (Ctl (Nat × List Int) (List Int)) :=
 cond (decide (((l8_m25 : Nat) : Int) < ((y5.1.length : Nat) : Int)))
 (Option.bind (Option.bind (y5.1[l8_m25]?) fun x14 =>
  Option.bind (Option.bind (getI a0_1 x14) fun x17 =>
   Option.bind (L_impl_Gate_operands x17.1 x17.2.1 x17.2.2.1 x17.2.2.2) fun y18 =>
   loopM (fun s_ : Nat × List Int => L_impl_Circuit_listed_l2 y18 a0_1 s_.1 s_.2) 4611686018427387904 (0, l8_m3_0)) fun l15_m3_0 =>
  Option.bind (L_impl_Circuit_listed_1 x14 l15_m3_0) fun y33 =>
  some y33) fun l12_m3_0 =>
 og (l8_m25 + 1 < 4611686018427387904) <|
 some (Ctl.next (l8_m25 + 1, l12_m3_0)))
 (some (Ctl.out l8_m3_0))
def L_impl_Circuit_listed_l3 (y37 : List Int) (a0_1 : List (Int × Int × Int × Int)) (l38_m63 : Nat) (l38_m3_0 : List Int) : Option (Ctl (Nat × List Int) (List Int)) :=
 cond (decide (((l38_m63 : Nat) : Int) < ((y37.length : Nat) : Int)))
 (Option.bind (y37[l38_m63]?) fun x44 =>
 Option.bind (getI a0_1 x44) fun x45 =>
 Option.bind (L_impl_Circuit_listed_1 x45.2.1 l38_m3_0) fun y46 =>
 og (l38_m63 + 1 < 4611686018427387904) <|
 some (Ctl.next (l38_m63 + 1, y46)))
 (some (Ctl.out l38_m3_0))
def L_impl_Circuit_listed_l4 (a0_2 : List Int) (l50_m79 : Nat) (l50_m3_0 : List Int) : Option (Ctl (Nat × List Int) (List Int)) :=
 cond (decide (((l50_m79 : Nat) : Int) < ((a0_2.length : Nat) : Int)))
 (Option.bind (a0_2[l50_m79]?) fun x56 =>
 Option.bind (L_impl_Circuit_listed_1 x56 l50_m3_0) fun y57 =>
 og (l50_m79 + 1 < 4611686018427387904) <|
 some (Ctl.next (l50_m79 + 1, y57)))
 (some (Ctl.out l50_m3_0))
def L_impl_Circuit_listed (a0_0 : Int) (a0_1 : List (Int × Int × Int × Int)) (a0_2 : List Int) : Option (List Int) :=
 Option.bind (L_impl_Circuit_schedule a0_0 a0_1 a0_2) fun y5 =>
Option.bind (loopM (fun s_ : Nat × List Int => L_impl_Circuit_listed_l1 y5 a0_1 s_.1 s_.2) 4611686018427387904 (0, [])) fun l6_m3_0 =>
Option.bind (Option.bind (L_impl_Circuit_delays a0_0 a0_1 a0_2) fun y37 =>
 loopM (fun s_ : Nat × List Int => L_impl_Circuit_listed_l3 y37 a0_1 s_.1 s_.2) 4611686018427387904 (0, l6_m3_0)) fun l35_m3_0 =>
Option.bind (loopM (fun s_ : Nat × List Int => L_impl_Circuit_listed_l4 a0_2 s_.1 s_.2) 4611686018427387904 (0, l35_m3_0)) fun l48_m3_0 =>
some l48_m3_0
def rv_impl_Circuit_listed (r : List Int) : RV := ⟨false, [(false, [.new 3 .int r])]⟩
theorem ok_impl_Circuit_listed {a0_0 : Int} {a0_1 : List (Int × Int × Int × Int)} {a0_2 : List Int} {r : List Int} (h : L_impl_Circuit_listed a0_0 a0_1 a0_2 = some r) : CallOK Tryd.prog Tab 47 [(.agg [(ai a0_0), (.tree T4 a0_1), (.tree .int a0_2)])] (rv_impl_Circuit_listed r) := by
 refine call_of_ (by kernel_rfl) Tryd.func47 c_impl_Circuit_listed (n := 88) (by kernel_rfl) (by simp) (tl := [(0, (.agg [(ai a0_0), (.tree T4 a0_1), (.tree .int a0_2)]))]) rfl ?_
 unfold m_impl_Circuit_listed
 unfold L_impl_Circuit_listed at h
 refine seqR ?_
 refine seqR ?_
 refine seqR ?_
 refine awp_seqv_ ?_
 obtain ⟨y5, h5, h⟩ := ob_some h
 refine awp_region_ 15 ?_
 refine rzl (.agg [(ai a0_0), (.tree T4 a0_1), (.tree .int a0_2)]) ?_
 refine zc (.tup [(.own (oi 320 9) .int 0 y5.1.length), (.bool y5.2)]) [((oi 320 9), some (.arr 3 .int y5.1))] [(.agg [(ai a0_0), (.tree T4 a0_1), (.tree .int a0_2)])] (ok_impl_Circuit_schedule h5) ?_
 refine rsB 5 ?_
 refine rnil (tn_ ?_)
 refine wr_ ?_
 refine awp_seqB h (fun (l6_m3_0 : List Int) S_ => S_ = ⟨mkTm [(1, (.box (oi 0 1) 0)), (3, (.box (oi 1 1) 0)), (4, (.fn 65 [(.box (oi 1 1) 0)]))], mkOb (someL [((oi 0 1), .cells 34 [(ai a0_0), (.tree T4 a0_1), (.tree .int a0_2)]), ((oi 1 1), .cells 23 [(.own (oi 2 1) .int 0 l6_m3_0.length)]), ((oi 2 1), .arr 3 .int l6_m3_0)]), 2⟩) ?_ ?_
 ·intro v_ h
  refine seqR ?_
  refine awp_block_ ?_
  refine awp_loopL h (fun t_ S_ => ∃ (l8_m25 : Nat), ∃ (l8_m3_0 : List Int), t_ = (l8_m25, l8_m3_0) ∧ S_ = ⟨mkTm [(1, (.box (oi 0 1) 0)), (3, (.box (oi 1 1) 0)), (4, (.fn 65 [(.box (oi 1 1) 0)])), (23, (.own (oi 2 1) .int 0 y5.1.length)), (24, (ai ((y5.1.length : Nat) : Int))), (25, (ai ((l8_m25 : Nat) : Int)))], mkOb (someL [((oi 0 1), .cells 34 [(ai a0_0), (.tree T4 a0_1), (.tree .int a0_2)]), ((oi 1 1), .cells 23 [(.own (oi 3 1) .int 0 l8_m3_0.length)]), ((oi 2 1), .arr 3 .int y5.1), ((oi 3 1), .arr 3 .int l8_m3_0)]), 2⟩) ⟨_, (weak_ren [((oi 0 1), (oi 1 1)), ((oi 1 1), (oi 3 4)), ((oi 3 1), (oi 16 3)), ((oi 2 1), (oi 320 9))]), ⟨0, [], rfl, rfl⟩⟩ ?_
  rintro n_ _ _ c_ ⟨l8_m25, l8_m3_0, rfl, rfl⟩ h hn8
  (try dsimp only at h)
  unfold L_impl_Circuit_listed_l1 at h
  unfold m_impl_Circuit_listed_l1
  refine seqR ?_
  refine awp_seqv_ ?_
  rcases cond_some h with ⟨q11, h⟩ | ⟨q11, h⟩
  ·have q11_ := of_decide_eq_true q11
   refine awp_condT_ q11 ?_
   refine awp_skip_ (tn_ ?_)
   refine wr_ ?_
   refine awp_seqB h (fun (l12_m3_0 : List Int) S_ => S_ = ⟨mkTm [(1, (.box (oi 0 1) 0)), (3, (.box (oi 1 1) 0)), (4, (.fn 65 [(.box (oi 1 1) 0)])), (23, (.own (oi 2 1) .int 0 y5.1.length)), (24, (ai ((y5.1.length : Nat) : Int))), (25, (ai ((l8_m25 : Nat) : Int)))], mkOb (someL [((oi 0 1), .cells 34 [(ai a0_0), (.tree T4 a0_1), (.tree .int a0_2)]), ((oi 1 1), .cells 23 [(.own (oi 3 1) .int 0 l12_m3_0.length)]), ((oi 2 1), .arr 3 .int y5.1), ((oi 3 1), .arr 3 .int l12_m3_0)]), 2⟩) ?_ ?_
   ·intro v_ h
    refine awp_block_ ?_
    refine awp_seqv_ ?_
    obtain ⟨x14, e14, h⟩ := ob_some h
    refine awp_region_ 6 ?_
    refine rs0 (.elt (oi 2 1) l8_m25 0) (zo (t := .int) (o := (oi 2 1)) (len := y5.1.length) (k := .i64) (m := ((l8_m25 : Nat) : Int)) (nat_nn _) (getN_lt e14)) ?_
    refine rsl (ai x14) (s_ldE (i := (oi 2 1)) (j := l8_m25) (k := 0) (e := 3) (t := .int) (xs := y5.1) (by kernel_rfl) (by kernel_rfl) e14 (by kernel_rfl)) ?_
    refine rsB 1 ?_
    refine rnil (tn_ ?_)
    refine wr_ ?_
    refine awp_seqB h (fun (l15_m3_0 : List Int) S_ => S_ = ⟨mkTm [(1, (.box (oi 0 1) 0)), (3, (.box (oi 1 1) 0)), (4, (.fn 65 [(.box (oi 1 1) 0)])), (8, (ai x14)), (23, (.own (oi 2 1) .int 0 y5.1.length)), (24, (ai ((y5.1.length : Nat) : Int))), (25, (ai ((l8_m25 : Nat) : Int)))], mkOb (someL [((oi 0 1), .cells 34 [(ai a0_0), (.tree T4 a0_1), (.tree .int a0_2)]), ((oi 1 1), .cells 23 [(.own (oi 3 1) .int 0 l15_m3_0.length)]), ((oi 2 1), .arr 3 .int y5.1), ((oi 3 1), .arr 3 .int l15_m3_0)]), 2⟩) ?_ ?_
    ·intro v_ h
     refine awp_seqv_ ?_
     obtain ⟨x17, f17, h⟩ := ob_some h
     obtain ⟨p17, b17, e17⟩ := getI_some f17
     obtain ⟨y18, h18, h⟩ := ob_some h
     refine awp_region_ 14 ?_
     refine rz0 (.box (oi 0 1) 1) ?_
     refine rzl (.tree T4 a0_1) ?_
     refine rz0 (ai x14) ?_
     refine rs0 (.telt T4 x17 0) (zi (t := T4) (xs := a0_1) (k := .i64) (m := x14) p17 e17) ?_
     refine rz0 (.agg [(ai x17.1), (ai x17.2.1), (ai x17.2.2.1), (ai x17.2.2.2)]) ?_
     refine zc (.own (oi 544 11) .int 0 y18.length) [((oi 544 11), some (.arr 3 .int y18))] [(.agg [(ai x17.1), (ai x17.2.1), (ai x17.2.2.1), (ai x17.2.2.2)])] (ok_impl_Gate_operands h18) ?_
     refine rsB 2 ?_
     refine rnil (tn_ ?_)
     refine wr_ ?_
     refine awp_block_ ?_
     refine awp_loopL h (fun t_ S_ => ∃ (l19_m36 : Nat), ∃ (l19_m3_0 : List Int), t_ = (l19_m36, l19_m3_0) ∧ S_ = ⟨mkTm [(1, (.box (oi 0 1) 0)), (3, (.box (oi 1 1) 0)), (4, (.fn 65 [(.box (oi 1 1) 0)])), (8, (ai x14)), (23, (.own (oi 2 1) .int 0 y5.1.length)), (24, (ai ((y5.1.length : Nat) : Int))), (25, (ai ((l8_m25 : Nat) : Int))), (34, (.own (oi 3 1) .int 0 y18.length)), (35, (ai ((y18.length : Nat) : Int))), (36, (ai ((l19_m36 : Nat) : Int)))], mkOb (someL [((oi 0 1), .cells 34 [(ai a0_0), (.tree T4 a0_1), (.tree .int a0_2)]), ((oi 1 1), .cells 23 [(.own (oi 4 1) .int 0 l19_m3_0.length)]), ((oi 2 1), .arr 3 .int y5.1), ((oi 3 1), .arr 3 .int y18), ((oi 4 1), .arr 3 .int l19_m3_0)]), 2⟩) ⟨_, (weak_ren [((oi 4 1), (oi 3 1)), ((oi 3 1), (oi 544 11))]), ⟨0, l8_m3_0, rfl, rfl⟩⟩ ?_
     rintro n_ _ _ c_ ⟨l19_m36, l19_m3_0, rfl, rfl⟩ h hn19
     (try dsimp only at h)
     unfold L_impl_Circuit_listed_l2 at h
     unfold m_impl_Circuit_listed_l2
     refine seqR ?_
     refine awp_seqv_ ?_
     rcases cond_some h with ⟨q22, h⟩ | ⟨q22, h⟩
     ·have q22_ := of_decide_eq_true q22
      refine awp_condT_ q22 ?_
      refine awp_skip_ (tn_ ?_)
      refine wr_ ?_
      refine awp_seqB h (fun (l23_m3_0 : List Int) S_ => S_ = ⟨mkTm [(1, (.box (oi 0 1) 0)), (3, (.box (oi 1 1) 0)), (4, (.fn 65 [(.box (oi 1 1) 0)])), (8, (ai x14)), (23, (.own (oi 2 1) .int 0 y5.1.length)), (24, (ai ((y5.1.length : Nat) : Int))), (25, (ai ((l8_m25 : Nat) : Int))), (34, (.own (oi 3 1) .int 0 y18.length)), (35, (ai ((y18.length : Nat) : Int))), (36, (ai ((l19_m36 : Nat) : Int)))], mkOb (someL [((oi 0 1), .cells 34 [(ai a0_0), (.tree T4 a0_1), (.tree .int a0_2)]), ((oi 1 1), .cells 23 [(.own (oi 4 1) .int 0 l23_m3_0.length)]), ((oi 2 1), .arr 3 .int y5.1), ((oi 3 1), .arr 3 .int y18), ((oi 4 1), .arr 3 .int l23_m3_0)]), 2⟩) ?_ ?_
      ·intro v_ h
       refine awp_block_ ?_
       refine awp_seqv_ ?_
       obtain ⟨x25, e25, h⟩ := ob_some h
       refine awp_region_ 6 ?_
       refine rs0 (.elt (oi 3 1) l19_m36 0) (zo (t := .int) (o := (oi 3 1)) (len := y18.length) (k := .i64) (m := ((l19_m36 : Nat) : Int)) (nat_nn _) (getN_lt e25)) ?_
       refine rsl (ai x25) (s_ldE (i := (oi 3 1)) (j := l19_m36) (k := 0) (e := 3) (t := .int) (xs := y18) (by kernel_rfl) (by kernel_rfl) e25 (by kernel_rfl)) ?_
       refine rsB 1 ?_
       refine rnil (tn_ ?_)
       refine wr_ ?_
       refine awp_seqv_ ?_
       obtain ⟨x27, f27, h⟩ := ob_some h
       obtain ⟨p27, b27, e27⟩ := getI_some f27
       refine awp_region_ 13 ?_
       refine rz0 (.box (oi 0 1) 1) ?_
       refine rzl (.tree T4 a0_1) ?_
       refine rz0 (ai x25) ?_
       refine rs0 (.telt T4 x27 0) (zi (t := T4) (xs := a0_1) (k := .i64) (m := x25) p27 e27) ?_
       refine rsB 3 ?_
       refine rnil (tn_ ?_)
       refine wr_ ?_
       refine awp_seqB h (fun (l28_m51 : Bool) S_ => S_ = ⟨mkTm [(1, (.box (oi 0 1) 0)), (3, (.box (oi 1 1) 0)), (4, (.fn 65 [(.box (oi 1 1) 0)])), (8, (ai x14)), (10, (ai x25)), (23, (.own (oi 2 1) .int 0 y5.1.length)), (24, (ai ((y5.1.length : Nat) : Int))), (25, (ai ((l8_m25 : Nat) : Int))), (34, (.own (oi 3 1) .int 0 y18.length)), (35, (ai ((y18.length : Nat) : Int))), (36, (ai ((l19_m36 : Nat) : Int))), (51, (.bool l28_m51))], mkOb (someL [((oi 0 1), .cells 34 [(ai a0_0), (.tree T4 a0_1), (.tree .int a0_2)]), ((oi 1 1), .cells 23 [(.own (oi 4 1) .int 0 l19_m3_0.length)]), ((oi 2 1), .arr 3 .int y5.1), ((oi 3 1), .arr 3 .int y18), ((oi 4 1), .arr 3 .int l19_m3_0)]), 2⟩) ?_ ?_
       ·intro v_ h
        rcases cond_some h with ⟨q29, h⟩ | ⟨q29, h⟩
        ·refine awp_region_ 19 ?_
         refine rz0 (ai x27.1) ?_
         refine rz0 (.bool (x27.1 != 3)) ?_
         refine rz0 (.bool (x27.1 != 3)) ?_
         refine rs0 (ai x27.1) (zg q29) ?_
         refine rs0 (.bool (x27.1 != 4)) (zg q29) ?_
         refine rs0 (.bool (x27.1 != 4)) (zT q29) ?_
         refine rnil (tn_ ?_)
         obtain rfl := zj h
         exact ⟨_, (weak_ren []), rfl⟩
        refine awp_region_ 19 ?_
        refine rz0 (ai x27.1) ?_
        refine rz0 (.bool (x27.1 != 3)) ?_
        refine rz0 (.bool (x27.1 != 3)) ?_
        refine zs q29 ?_
        refine zs q29 ?_
        refine rs0 (.bool false) (zF q29) ?_
        refine rnil (tn_ ?_)
        obtain rfl := zj h
        exact ⟨_, (weak_ren []), rfl⟩
       rintro l28_m51 _ rfl h
       (try dsimp only at h)
       rcases cond_some h with ⟨q30, h⟩ | ⟨q30, h⟩
       ·refine awp_condT_ q30 ?_
        obtain ⟨y31, h31, h⟩ := ob_some h
        refine awp_region_ 5 ?_
        refine rz0 (.fn 65 [(.box (oi 1 1) 0)]) ?_
        refine rz0 (ai x25) ?_
        refine rcallM (.tup []) [((oi 1 1), some (.cells 23 [(.own (oi 864 4) .int 0 y31.length)])), ((oi 864 4), some (.arr 3 .int y31)), ((oi 1 1), none), ((oi 4 1), none)] [((oi 0 0), (oi 1 1)), ((oi 1 0), (oi 4 1))] [(ai x25), (.box (oi 1 1) 0)] (caps := [(.box (oi 1 1) 0)]) trivial (ok_impl_Circuit_listed_1 h31) hb_impl_Circuit_listed_1 ⟨(by kernel_rfl), ⟨(by kernel_rfl), trivial⟩⟩ (.cons (.ren (by kernel_rfl)) (.cons (.ren (by kernel_rfl)) .nil)) (reachL_mem (by kernel_rfl) (by kernel_rfl) ⟨(re_arg (by kernel_rfl)), ⟨(re_cells (k := (oi 1 1)) (ty := 23) (cs := [(.own (oi 4 1) .int 0 l19_m3_0.length)]) (re_arg (by kernel_rfl)) (by kernel_rfl) (by kernel_rfl)), trivial⟩⟩) ?_
        refine rnil (bn_ (tn_ ?_))
        obtain rfl := zj h
        exact ⟨_, (weak_ren [((oi 4 1), (oi 864 4))]), rfl⟩
       refine awp_condF_ q30 ?_
       refine awp_skip_ (bn_ (tn_ ?_))
       obtain rfl := zj h
       exact ⟨_, (weak_ren []), rfl⟩
      rintro l23_m3_0 _ rfl h
      (try dsimp only at h)
      obtain ⟨g32, h⟩ := og_some h
      refine awp_region_ 4 ?_
      refine rs0 (ai ((l19_m36 + 1 : Nat) : Int)) (za g32) ?_
      refine rsB 1 ?_
      refine rnil (tn_ ?_)
      obtain rfl := zj h
      exact ⟨(l19_m36 + 1, l23_m3_0), _, (weak_ren []), ⟨l19_m36 + 1, l23_m3_0, rfl, rfl⟩, hn19⟩
     have q22_ := of_decide_eq_false q22
     refine awp_condF_ q22 ?_
     refine awp_exit_ (te_ (te_ (be_ (tn_ ?_))))
     obtain rfl := zj h
     have h := hn19
     (try dsimp only at h)
     obtain rfl := zj h
     exact ⟨_, (weak_ren [((oi 3 1), (oi 4 1))]), rfl⟩
    rintro l15_m3_0 _ rfl h
    (try dsimp only at h)
    obtain ⟨y33, h33, h⟩ := ob_some h
    refine awp_region_ 5 ?_
    refine rz0 (.fn 65 [(.box (oi 1 1) 0)]) ?_
    refine rz0 (ai x14) ?_
    refine rcallM (.tup []) [((oi 1 1), some (.cells 23 [(.own (oi 928 4) .int 0 y33.length)])), ((oi 928 4), some (.arr 3 .int y33)), ((oi 1 1), none), ((oi 3 1), none)] [((oi 0 0), (oi 1 1)), ((oi 1 0), (oi 3 1))] [(ai x14), (.box (oi 1 1) 0)] (caps := [(.box (oi 1 1) 0)]) trivial (ok_impl_Circuit_listed_1 h33) hb_impl_Circuit_listed_1 ⟨(by kernel_rfl), ⟨(by kernel_rfl), trivial⟩⟩ (.cons (.ren (by kernel_rfl)) (.cons (.ren (by kernel_rfl)) .nil)) (reachL_mem (by kernel_rfl) (by kernel_rfl) ⟨(re_arg (by kernel_rfl)), ⟨(re_cells (k := (oi 1 1)) (ty := 23) (cs := [(.own (oi 3 1) .int 0 l15_m3_0.length)]) (re_arg (by kernel_rfl)) (by kernel_rfl) (by kernel_rfl)), trivial⟩⟩) ?_
    refine rnil (bn_ (tn_ ?_))
    obtain rfl := zj h
    exact ⟨_, (weak_ren [((oi 3 1), (oi 928 4))]), rfl⟩
   rintro l12_m3_0 _ rfl h
   (try dsimp only at h)
   obtain ⟨g34, h⟩ := og_some h
   refine awp_region_ 4 ?_
   refine rs0 (ai ((l8_m25 + 1 : Nat) : Int)) (za g34) ?_
   refine rsB 1 ?_
   refine rnil (tn_ ?_)
   obtain rfl := zj h
   exact ⟨(l8_m25 + 1, l12_m3_0), _, (weak_ren []), ⟨l8_m25 + 1, l12_m3_0, rfl, rfl⟩, hn8⟩
  have q11_ := of_decide_eq_false q11
  refine awp_condF_ q11 ?_
  refine awp_exit_ (te_ (te_ (be_ (tn_ ?_))))
  obtain rfl := zj h
  have h := hn8
  (try dsimp only at h)
  obtain rfl := zj h
  exact ⟨_, (weak_ren [((oi 2 1), (oi 3 1))]), rfl⟩
 rintro l6_m3_0 _ rfl h
 (try dsimp only at h)
 refine awp_seqB h (fun (l35_m3_0 : List Int) S_ => S_ = ⟨mkTm [(1, (.box (oi 0 1) 0)), (3, (.box (oi 1 1) 0)), (4, (.fn 65 [(.box (oi 1 1) 0)]))], mkOb (someL [((oi 0 1), .cells 34 [(ai a0_0), (.tree T4 a0_1), (.tree .int a0_2)]), ((oi 1 1), .cells 23 [(.own (oi 2 1) .int 0 l35_m3_0.length)]), ((oi 2 1), .arr 3 .int l35_m3_0)]), 2⟩) ?_ ?_
 ·intro v_ h
  refine awp_seqv_ ?_
  obtain ⟨y37, h37, h⟩ := ob_some h
  refine awp_region_ 6 ?_
  refine rzl (.agg [(ai a0_0), (.tree T4 a0_1), (.tree .int a0_2)]) ?_
  refine zc (.own (oi 976 3) .int 0 y37.length) [((oi 976 3), some (.arr 3 .int y37))] [(.agg [(ai a0_0), (.tree T4 a0_1), (.tree .int a0_2)])] (ok_impl_Circuit_delays h37) ?_
  refine rsB 2 ?_
  refine rnil (tn_ ?_)
  refine wr_ ?_
  refine awp_block_ ?_
  refine awp_loopL h (fun t_ S_ => ∃ (l38_m63 : Nat), ∃ (l38_m3_0 : List Int), t_ = (l38_m63, l38_m3_0) ∧ S_ = ⟨mkTm [(1, (.box (oi 0 1) 0)), (3, (.box (oi 1 1) 0)), (4, (.fn 65 [(.box (oi 1 1) 0)])), (61, (.own (oi 2 1) .int 0 y37.length)), (62, (ai ((y37.length : Nat) : Int))), (63, (ai ((l38_m63 : Nat) : Int)))], mkOb (someL [((oi 0 1), .cells 34 [(ai a0_0), (.tree T4 a0_1), (.tree .int a0_2)]), ((oi 1 1), .cells 23 [(.own (oi 3 1) .int 0 l38_m3_0.length)]), ((oi 2 1), .arr 3 .int y37), ((oi 3 1), .arr 3 .int l38_m3_0)]), 2⟩) ⟨_, (weak_ren [((oi 3 1), (oi 2 1)), ((oi 2 1), (oi 976 3))]), ⟨0, l6_m3_0, rfl, rfl⟩⟩ ?_
  rintro n_ _ _ c_ ⟨l38_m63, l38_m3_0, rfl, rfl⟩ h hn38
  (try dsimp only at h)
  unfold L_impl_Circuit_listed_l3 at h
  unfold m_impl_Circuit_listed_l3
  refine seqR ?_
  refine awp_seqv_ ?_
  rcases cond_some h with ⟨q41, h⟩ | ⟨q41, h⟩
  ·have q41_ := of_decide_eq_true q41
   refine awp_condT_ q41 ?_
   refine awp_skip_ (tn_ ?_)
   refine wr_ ?_
   refine awp_seqv_ ?_
   refine awp_block_ ?_
   refine awp_seqv_ ?_
   obtain ⟨x44, e44, h⟩ := ob_some h
   refine awp_region_ 6 ?_
   refine rs0 (.elt (oi 2 1) l38_m63 0) (zo (t := .int) (o := (oi 2 1)) (len := y37.length) (k := .i64) (m := ((l38_m63 : Nat) : Int)) (nat_nn _) (getN_lt e44)) ?_
   refine rsl (ai x44) (s_ldE (i := (oi 2 1)) (j := l38_m63) (k := 0) (e := 3) (t := .int) (xs := y37) (by kernel_rfl) (by kernel_rfl) e44 (by kernel_rfl)) ?_
   refine rsB 1 ?_
   refine rnil (tn_ ?_)
   refine wr_ ?_
   obtain ⟨x45, f45, h⟩ := ob_some h
   obtain ⟨p45, b45, e45⟩ := getI_some f45
   obtain ⟨y46, h46, h⟩ := ob_some h
   refine awp_region_ 14 ?_
   refine rz0 (.fn 65 [(.box (oi 1 1) 0)]) ?_
   refine rz0 (.box (oi 0 1) 1) ?_
   refine rzl (.tree T4 a0_1) ?_
   refine rz0 (ai x44) ?_
   refine rs0 (.telt T4 x45 0) (zi (t := T4) (xs := a0_1) (k := .i64) (m := x44) p45 e45) ?_
   refine rz0 (.telt T4 x45 1) ?_
   refine rz0 (ai x45.2.1) ?_
   refine rcallM (.tup []) [((oi 1 1), some (.cells 23 [(.own (oi 1184 13) .int 0 y46.length)])), ((oi 1184 13), some (.arr 3 .int y46)), ((oi 1 1), none), ((oi 3 1), none)] [((oi 0 0), (oi 1 1)), ((oi 1 0), (oi 3 1))] [(ai x45.2.1), (.box (oi 1 1) 0)] (caps := [(.box (oi 1 1) 0)]) trivial (ok_impl_Circuit_listed_1 h46) hb_impl_Circuit_listed_1 ⟨(by kernel_rfl), ⟨(by kernel_rfl), trivial⟩⟩ (.cons (.ren (by kernel_rfl)) (.cons (.ren (by kernel_rfl)) .nil)) (reachL_mem (by kernel_rfl) (by kernel_rfl) ⟨(re_arg (by kernel_rfl)), ⟨(re_cells (k := (oi 1 1)) (ty := 23) (cs := [(.own (oi 3 1) .int 0 l38_m3_0.length)]) (re_arg (by kernel_rfl)) (by kernel_rfl) (by kernel_rfl)), trivial⟩⟩) ?_
   refine rnil (bn_ (tn_ ?_))
   refine wr_ ?_
   obtain ⟨g47, h⟩ := og_some h
   refine awp_region_ 16 ?_
   refine rs0 (ai ((l38_m63 + 1 : Nat) : Int)) (za g47) ?_
   refine rsB 1 ?_
   refine rnil (tn_ ?_)
   obtain rfl := zj h
   exact ⟨(l38_m63 + 1, y46), _, (weak_ren [((oi 3 1), (oi 1184 13))]), ⟨l38_m63 + 1, y46, rfl, rfl⟩, hn38⟩
  have q41_ := of_decide_eq_false q41
  refine awp_condF_ q41 ?_
  refine awp_exit_ (te_ (te_ (be_ (tn_ ?_))))
  obtain rfl := zj h
  have h := hn38
  (try dsimp only at h)
  obtain rfl := zj h
  exact ⟨_, (weak_ren [((oi 2 1), (oi 3 1))]), rfl⟩
 rintro l35_m3_0 _ rfl h
 (try dsimp only at h)
 refine awp_seqB h (fun (l48_m3_0 : List Int) S_ => S_ = ⟨mkTm [(3, (.box (oi 0 1) 0))], mkOb (someL [((oi 0 1), .cells 23 [(.own (oi 1 1) .int 0 l48_m3_0.length)]), ((oi 1 1), .arr 3 .int l48_m3_0)]), 2⟩) ?_ ?_
 ·intro v_ h
  refine seqR ?_
  refine awp_block_ ?_
  refine awp_loopL h (fun t_ S_ => ∃ (l50_m79 : Nat), ∃ (l50_m3_0 : List Int), t_ = (l50_m79, l50_m3_0) ∧ S_ = ⟨mkTm [(3, (.box (oi 0 1) 0)), (4, (.fn 65 [(.box (oi 0 1) 0)])), (77, (.tree .int a0_2)), (78, (ai ((a0_2.length : Nat) : Int))), (79, (ai ((l50_m79 : Nat) : Int)))], mkOb (someL [((oi 0 1), .cells 23 [(.own (oi 1 1) .int 0 l50_m3_0.length)]), ((oi 1 1), .arr 3 .int l50_m3_0)]), 2⟩) ⟨_, (weak_ren [((oi 0 1), (oi 1 1)), ((oi 1 1), (oi 2 1))]), ⟨0, l35_m3_0, rfl, rfl⟩⟩ ?_
  rintro n_ _ _ c_ ⟨l50_m79, l50_m3_0, rfl, rfl⟩ h hn50
  (try dsimp only at h)
  unfold L_impl_Circuit_listed_l4 at h
  unfold m_impl_Circuit_listed_l4
  refine seqR ?_
  refine awp_seqv_ ?_
  rcases cond_some h with ⟨q53, h⟩ | ⟨q53, h⟩
  ·have q53_ := of_decide_eq_true q53
   refine awp_condT_ q53 ?_
   refine awp_skip_ (tn_ ?_)
   refine wr_ ?_
   refine awp_seqv_ ?_
   refine awp_block_ ?_
   refine awp_seqv_ ?_
   obtain ⟨x56, e56, h⟩ := ob_some h
   refine awp_region_ 6 ?_
   refine rs0 (.telt .int x56 0) (zi (t := .int) (xs := a0_2) (k := .i64) (m := ((l50_m79 : Nat) : Int)) (nat_nn _) e56) ?_
   refine rsB 2 ?_
   refine rnil (tn_ ?_)
   refine wr_ ?_
   obtain ⟨y57, h57, h⟩ := ob_some h
   refine awp_region_ 9 ?_
   refine rz0 (.fn 65 [(.box (oi 0 1) 0)]) ?_
   refine rz0 (ai x56) ?_
   refine rcallM (.tup []) [((oi 0 1), some (.cells 23 [(.own (oi 1360 8) .int 0 y57.length)])), ((oi 1360 8), some (.arr 3 .int y57)), ((oi 0 1), none), ((oi 1 1), none)] [((oi 0 0), (oi 0 1)), ((oi 1 0), (oi 1 1))] [(ai x56), (.box (oi 0 1) 0)] (caps := [(.box (oi 0 1) 0)]) trivial (ok_impl_Circuit_listed_1 h57) hb_impl_Circuit_listed_1 ⟨(by kernel_rfl), ⟨(by kernel_rfl), trivial⟩⟩ (.cons (.ren (by kernel_rfl)) (.cons (.ren (by kernel_rfl)) .nil)) (reachL_mem (by kernel_rfl) (by kernel_rfl) ⟨(re_arg (by kernel_rfl)), ⟨(re_cells (k := (oi 0 1)) (ty := 23) (cs := [(.own (oi 1 1) .int 0 l50_m3_0.length)]) (re_arg (by kernel_rfl)) (by kernel_rfl) (by kernel_rfl)), trivial⟩⟩) ?_
   refine rnil (bn_ (tn_ ?_))
   refine wr_ ?_
   obtain ⟨g58, h⟩ := og_some h
   refine awp_region_ 11 ?_
   refine rs0 (ai ((l50_m79 + 1 : Nat) : Int)) (za g58) ?_
   refine rsB 1 ?_
   refine rnil (tn_ ?_)
   obtain rfl := zj h
   exact ⟨(l50_m79 + 1, y57), _, (weak_ren [((oi 1 1), (oi 1360 8))]), ⟨l50_m79 + 1, y57, rfl, rfl⟩, hn50⟩
  have q53_ := of_decide_eq_false q53
  refine awp_condF_ q53 ?_
  refine awp_exit_ (te_ (te_ (be_ (tn_ ?_))))
  obtain rfl := zj h
  have h := hn50
  (try dsimp only at h)
  obtain rfl := zj h
  exact ⟨_, (weak_ren []), rfl⟩
 rintro l48_m3_0 _ rfl h
 (try dsimp only at h)
 refine seqR ?_
 refine awp_ret_ ?_
 obtain rfl := zj h
 exact ret_ [(.own (oi 1 1) .int 0 l48_m3_0.length)] (p_one rfl (l_own (by kernel_rfl) rfl) p_nil)
def m_spec_cmUses_l3 : AC :=
 (.seq (rg [xo 59 (qb .lss (tm 58) (tm 57))])
 (.seq (.cond (tm 59)
  .skip
  (.exit 4))
 (.seq (.block 5 (.seq (rg [xo 60 (qx 1 (tm 56) (tm 58)), xo 61 (ql (tm 60)), xo 11 (qm (tm 61))])
 (rg [xo 62 (qm (tm 5)), xo 63 (qm (tm 11)), xo 64 (.mkS 3 .int [(tm 63)]), xo 65 (.mkV 23 (.slice .int) 1 [(tm 64)]), xo 66 (.appV 23 (.slice .int) 24 (tm 62) (tm 65)), xo 5 (qm (tm 66))])))
 (rg [xo 67 (qb .add (tm 58) (ci 1)), xo 58 (qm (tm 67))]))))
def m_spec_cmUses_l2 : AC :=
 (.seq (rg [xo 41 (qb .lss (tm 40) (tm 39))])
 (.seq (.cond (tm 41)
  .skip
  (.exit 2))
 (.seq (.block 3 (.seq (rg [xo 42 (qx 1 (tm 38) (tm 40)), xo 43 (ql (tm 42)), xo 9 (qm (tm 43))])
 (rg [xo 44 (qm (tm 5)), xo 45 (qf 1 (tm 2)), xo 46 (ql (tm 45)), xo 47 (qm (tm 9)), xo 48 (qx 4 (tm 46) (tm 47)), xo 49 (qf 1 (tm 48)), xo 50 (ql (tm 49)), xo 51 (.mkS 3 .int [(tm 50)]), xo 52 (.mkV 23 (.slice .int) 1 [(tm 51)]), xo 53 (.appV 23 (.slice .int) 24 (tm 44) (tm 52)), xo 5 (qm (tm 53))])))
 (rg [xo 54 (qb .add (tm 40) (ci 1)), xo 40 (qm (tm 54))]))))
def m_spec_cmUses_l1 : AC :=
 (.seq (rg [xo 15 (qb .lss (tm 14) (tm 13))])
 (.seq (.cond (tm 15)
  .skip
  (.exit 0))
 (.seq (.block 1 (.seq (rg [xo 16 (qx 1 (tm 12) (tm 14)), xo 17 (ql (tm 16)), xo 7 (qm (tm 17))])
 (.seq (rg [xo 18 (qf 1 (tm 2)), xo 19 (ql (tm 18)), xo 20 (qm (tm 7)), xo 21 (qx 4 (tm 19) (tm 20)), xo 22 (.i (.ld false 4 (tm 21))), xo 23 (qc 33 [(tm 22)] [[none, none, none, none]])])
 (.cond (tm 23)
  (rg [xo 24 (qm (tm 5)), xo 25 (qf 1 (tm 2)), xo 26 (ql (tm 25)), xo 27 (qm (tm 7)), xo 28 (qx 4 (tm 26) (tm 27)), xo 29 (.i (.ld false 4 (tm 28))), xo 30 (qc 56 [(tm 29)] [[none, none, none, none]]), xo 31 (.mkV 23 (.slice .int) 1 [(tm 30)]), xo 32 (.appV 23 (.slice .int) 24 (tm 24) (tm 31)), xo 5 (qm (tm 32))])
  (rg [xo 33 (qm (tm 5)), xo 34 (.mkV 23 (.slice .int) 1 [(.cst .nils)]), xo 35 (.appV 23 (.slice .int) 24 (tm 33) (tm 34)), xo 5 (qm (tm 35))])))))
 (rg [xo 36 (qb .add (tm 14) (ci 1)), xo 14 (qm (tm 36))]))))
def m_spec_cmUses : AC :=
 (.seq (rg [xo 2 (.i (.box 34 (tm 0))), xo 4 (qm (.cst .nils))])
 (.seq (rg [xo 5 (qm (.cst .nils))])
 (.seq (.seq (rg [xo 12 (qm (tm 1)), xo 13 (.i (.len (tm 12))), xo 14 (qm (ci 0))])
 (.block 0 (.loop m_spec_cmUses_l1)))
 (.seq (.seq (rg [xo 37 (.i (.ld false 3 (tm 2))), ⟨(some 38), none, (qc 37 [(tm 37)] [[none, (some T4), (some .int)]])⟩, xo 39 (.i (.len (tm 38))), xo 40 (qm (ci 0))])
 (.block 2 (.loop m_spec_cmUses_l2)))
 (.seq (.seq (rg [xo 55 (qf 2 (tm 2)), xo 56 (ql (tm 55)), xo 57 (.i (.len (tm 56))), xo 58 (qm (ci 0))])
 (.block 4 (.loop m_spec_cmUses_l3)))
 (.seq (rg [xo 68 (qm (tm 5)), xo 4 (qm (tm 68))])
 .ret))))))
def r_spec_cmUses : List Res := [.tmp 4]
theorem c_spec_cmUses : compiled Tryd.prog Tryd.f36 = some (m_spec_cmUses, r_spec_cmUses) := by kernel_rfl
theorem hb_spec_cmUses : hasBody Tryd.prog 36 = true := by kernel_rfl
def L_spec_cmUses_l1 (a1 : List Int) (a0_1 : List (Int × Int × Int × Int)) (l6_m14 : Nat) (l6_m5 : List (List Int)) : Option (Ctl (Nat × List (List Int)) (List (List Int))) :=
 cond (decide (((l6_m14 : Nat) : Int) < ((a1.length : Nat) : Int)))
 (Option.bind (Option.bind (a1[l6_m14]?) fun x12 =>
  Option.bind (getI a0_1 x12) fun x14 =>
  Option.bind (L_spec_crCombines x14.1 x14.2.1 x14.2.2.1 x14.2.2.2) fun y15 =>
  cond y15
   (Option.bind (L_spec_crOperands x14.1 x14.2.1 x14.2.2.1 x14.2.2.2) fun y17 =>
   og (l6_m5.length + 1 <= 1073741824 ∧ (l6_m5.length + 1) * 24 <= 140737488355328) <|
   some (l6_m5 ++ [y17]))
   (og (l6_m5.length + 1 <= 1073741824 ∧ (l6_m5.length + 1) * 24 <= 140737488355328) <|
   some (l6_m5 ++ [([] : List Int)]))) fun l10_m5 =>
 og (l6_m14 + 1 < 4611686018427387904) <|
 some (Ctl.next (l6_m14 + 1, l10_m5)))
 (some (Ctl.out l6_m5))
def L_spec_cmUses_l2 (y23 : List Int) (a0_1 : List (Int × Int × Int × Int)) (l24_m40 : Nat) (l24_m5 : List (List Int)) : Option (Ctl (Nat × List (List Int)) (List (List Int))) :=
 cond (decide (((l24_m40 : Nat) : Int) < ((y23.length : Nat) : Int)))
 (Option.bind (y23[l24_m40]?) fun x30 =>
 Option.bind (getI a0_1 x30) fun x31 =>
 og (l24_m5.length + 1 <= 1073741824 ∧ (l24_m5.length + 1) * 24 <= 140737488355328) <|
 og (l24_m40 + 1 < 4611686018427387904) <|
 some (Ctl.next (l24_m40 + 1, l24_m5 ++ [[x31.2.1]])))
 (some (Ctl.out l24_m5))
def L_spec_cmUses_l3 (a0_2 : List Int) (l36_m58 : Nat) (l36_m5 : List (List Int)) : Option (Ctl (Nat × List (List Int)) (List (List Int))) :=
 cond (decide (((l36_m58 : Nat) : Int) < ((a0_2.length : Nat) : Int)))
 (Option.bind (a0_2[l36_m58]?) fun x42 =>
 og (l36_m5.length + 1 <= 1073741824 ∧ (l36_m5.length + 1) * 24 <= 140737488355328) <|
 og (l36_m58 + 1 < 4611686018427387904) <|
 some (Ctl.next (l36_m58 + 1, l36_m5 ++ [[x42]])))
 (some (Ctl.out l36_m5))
def L_spec_cmUses (a0_0 : Int) (a0_1 : List (Int × Int × Int × Int)) (a0_2 : List Int) (a1 : List Int) : Option (List (List Int)) :=
 Option.bind (loopM (fun s_ : Nat × List (List Int) => L_spec_cmUses_l1 a1 a0_1 s_.1 s_.2) 4611686018427387904 (0, ([] : List (List Int)))) fun l4_m5 =>
Option.bind (Option.bind (L_spec_crDelays a0_0 a0_1 a0_2) fun y23 =>
 loopM (fun s_ : Nat × List (List Int) => L_spec_cmUses_l2 y23 a0_1 s_.1 s_.2) 4611686018427387904 (0, l4_m5)) fun l21_m5 =>
Option.bind (loopM (fun s_ : Nat × List (List Int) => L_spec_cmUses_l3 a0_2 s_.1 s_.2) 4611686018427387904 (0, l21_m5)) fun l34_m5 =>
some l34_m5
theorem ok_spec_cmUses {a0_0 : Int} {a0_1 : List (Int × Int × Int × Int)} {a0_2 : List Int} {a1 : List Int} {r : List (List Int)} (h : L_spec_cmUses a0_0 a0_1 a0_2 a1 = some r) : CallM Tryd.prog Tab 36 [(.agg [(ai a0_0), (.tree T4 a0_1), (.tree .int a0_2)]), (.tree .int a1)] [] (.own (oi 0 1) (.slice .int) 0 r.length) [((oi 0 1), .mat 23 (oi 1 1) .int r), ((oi 1 1), .pool 3 .int r)] := by
 refine callM_of_ (by kernel_rfl) Tryd.func36 c_spec_cmUses (n := 69) (by kernel_rfl) (by simp) (tl := [(0, (.agg [(ai a0_0), (.tree T4 a0_1), (.tree .int a0_2)])), (1, (.tree .int a1))]) rfl (by kernel_rfl) trivial ⟨⟨3, (.tail _ (.head _))⟩, ⟨trivial, trivial⟩⟩ ?_
 unfold m_spec_cmUses
 unfold L_spec_cmUses at h
 refine seqR ?_
 refine seqR ?_
 refine awp_seqB h (fun (l4_m5 : List (List Int)) S_ => S_ = ⟨mkTm [(2, (.box (oi 0 1) 0)), (5, (.own (oi 1 1) (.slice .int) 0 l4_m5.length))], mkOb (someL [((oi 0 1), .cells 34 [(ai a0_0), (.tree T4 a0_1), (.tree .int a0_2)]), ((oi 1 1), .mat 23 (oi 2 1) .int l4_m5), ((oi 2 1), .pool 3 .int l4_m5)]), 2⟩) ?_ ?_
 ·intro v_ h
  refine seqR ?_
  refine awp_block_ ?_
  refine awp_loopL h (fun t_ S_ => ∃ (l6_m14 : Nat), ∃ (l6_m5 : List (List Int)), t_ = (l6_m14, l6_m5) ∧ S_ = ⟨mkTm [(2, (.box (oi 0 1) 0)), (5, (.own (oi 1 1) (.slice .int) 0 l6_m5.length)), (12, (.tree .int a1)), (13, (ai ((a1.length : Nat) : Int))), (14, (ai ((l6_m14 : Nat) : Int)))], mkOb (someL [((oi 0 1), .cells 34 [(ai a0_0), (.tree T4 a0_1), (.tree .int a0_2)]), ((oi 1 1), .mat 23 (oi 2 1) .int l6_m5), ((oi 2 1), .pool 3 .int l6_m5)]), 2⟩) ⟨_, ((weak_nilV_ 5 23 (.slice .int) (by kernel_rfl)).trans ((weak_none_ (e1 := 23) (n := 0) 9000 (oi 5 7) 3 .int (by kernel_rfl) (by kernel_rfl) rfl (by kernel_rfl) (by kernel_rfl)).trans (weak_ren [((oi 0 1), (oi 2 1)), ((oi 1 1), (oi 5 7)), ((oi 2 1), (oi 9000 8))]))), ⟨0, ([] : List (List Int)), rfl, rfl⟩⟩ ?_
  rintro n_ _ _ c_ ⟨l6_m14, l6_m5, rfl, rfl⟩ h hn6
  (try dsimp only at h)
  unfold L_spec_cmUses_l1 at h
  unfold m_spec_cmUses_l1
  refine seqR ?_
  refine awp_seqv_ ?_
  rcases cond_some h with ⟨q9, h⟩ | ⟨q9, h⟩
  ·have q9_ := of_decide_eq_true q9
   refine awp_condT_ q9 ?_
   refine awp_skip_ (tn_ ?_)
   refine wr_ ?_
   refine awp_seqB h (fun (l10_m5 : List (List Int)) S_ => S_ = ⟨mkTm [(2, (.box (oi 0 1) 0)), (5, (.own (oi 1 1) (.slice .int) 0 l10_m5.length)), (12, (.tree .int a1)), (13, (ai ((a1.length : Nat) : Int))), (14, (ai ((l6_m14 : Nat) : Int)))], mkOb (someL [((oi 0 1), .cells 34 [(ai a0_0), (.tree T4 a0_1), (.tree .int a0_2)]), ((oi 1 1), .mat 23 (oi 2 1) .int l10_m5), ((oi 2 1), .pool 3 .int l10_m5)]), 2⟩) ?_ ?_
   ·intro v_ h
    refine awp_block_ ?_
    refine awp_seqv_ ?_
    obtain ⟨x12, e12, h⟩ := ob_some h
    refine awp_region_ 6 ?_
    refine rs0 (.telt .int x12 0) (zi (t := .int) (xs := a1) (k := .i64) (m := ((l6_m14 : Nat) : Int)) (nat_nn _) e12) ?_
    refine rsB 2 ?_
    refine rnil (tn_ ?_)
    refine wr_ ?_
    refine awp_seqv_ ?_
    obtain ⟨x14, f14, h⟩ := ob_some h
    obtain ⟨p14, b14, e14⟩ := getI_some f14
    obtain ⟨y15, h15, h⟩ := ob_some h
    refine awp_region_ 12 ?_
    refine rz0 (.box (oi 0 1) 1) ?_
    refine rzl (.tree T4 a0_1) ?_
    refine rz0 (ai x12) ?_
    refine rs0 (.telt T4 x14 0) (zi (t := T4) (xs := a0_1) (k := .i64) (m := x12) p14 e14) ?_
    refine rz0 (.agg [(ai x14.1), (ai x14.2.1), (ai x14.2.2.1), (ai x14.2.2.2)]) ?_
    refine zc (.bool y15) [] [(.agg [(ai x14.1), (ai x14.2.1), (ai x14.2.2.1), (ai x14.2.2.2)])] (ok_spec_crCombines h15) ?_
    refine rnil (tn_ ?_)
    refine wr_ ?_
    rcases cond_some h with ⟨q16, h⟩ | ⟨q16, h⟩
    ·refine awp_condT_ q16 ?_
     obtain ⟨y17, h17, h⟩ := ob_some h
     obtain ⟨g18, h⟩ := og_some h
     refine awp_region_ 22 ?_
     refine rz0 (.own (oi 1 1) (.slice .int) 0 l6_m5.length) ?_
     refine rz0 (.box (oi 0 1) 1) ?_
     refine rzl (.tree T4 a0_1) ?_
     refine rz0 (ai x12) ?_
     refine rs0 (.telt T4 x14 0) (zi (t := T4) (xs := a0_1) (k := .i64) (m := x12) p14 e14) ?_
     refine rz0 (.agg [(ai x14.1), (ai x14.2.1), (ai x14.2.2.1), (ai x14.2.2.2)]) ?_
     refine zc (.own (oi 480 18) .int 0 y17.length) [((oi 480 18), some (.arr 3 .int y17))] [(.agg [(ai x14.1), (ai x14.2.1), (ai x14.2.2.1), (ai x14.2.2.2)])] (ok_spec_crOperands h17) ?_
     refine rmkV (.own (oi 31 19) (.slice .int) 0 1) (oi 31 19) (.vec 23 1 1 ([(.own (oi 480 18) .int 0 y17.length)])) trivial (s_mkV (by kernel_rfl)) ?_
     refine rs2 (.own (oi 1 20) (.slice .int) 0 (l6_m5.length + 1)) (oi 1 1) (oi 1 20) (.vec 23 1 (l6_m5.length + 1) (hdL (oi 2 1) .int l6_m5 ++ [(.own (oi 480 18) .int 0 y17.length)])) (s_appVO (u := .int) (t' := (.slice .int)) (t2 := (.slice .int)) (o := (oi 1 1)) (q := (oi 31 19)) (e2 := 23) (p := (oi 2 1)) (xss := l6_m5) (cs := [(.own (oi 480 18) .int 0 y17.length)]) (len := l6_m5.length) (by kernel_rfl) (by kernel_rfl) rfl (by kernel_rfl) (by kernel_rfl) rfl g18) ?_
     refine rsB 1 ?_
     refine rnil (bn_ (tn_ ?_))
     obtain rfl := zj h
     exact ⟨_, ((weak_app_ (e1 := 23) (e := 3) (u := .int) (n := l6_m5.length + 1) (len := y17.length) (row := y17) (ys := y17) (xss := l6_m5) 9000 (oi 1 20) (oi 2 1) (oi 480 18) (by kernel_rfl) (by kernel_rfl) rfl (by kernel_rfl) (by kernel_rfl) (tw_le rfl) (tw_eq rfl) (by kernel_rfl) (by kernel_rfl) (by kernel_rfl)).trans ((weak_tm_ 5 (.own (oi 1 20) (.slice .int) 0 (l6_m5.length + 1)) (.own (oi 1 20) (.slice .int) 0 ((l6_m5 ++ [y17]).length)) (by kernel_rfl) (congrArg (fun z_ => ((.own (oi 1 20) (.slice .int) 0 z_) : AV)) ((by simp) : l6_m5.length + 1 = (l6_m5 ++ [y17]).length))).trans (weak_ren [((oi 1 1), (oi 1 20)), ((oi 2 1), (oi 9000 22))]))), rfl⟩
    refine awp_condF_ q16 ?_
    obtain ⟨g19, h⟩ := og_some h
    refine awp_region_ 16 ?_
    refine rz0 (.own (oi 1 1) (.slice .int) 0 l6_m5.length) ?_
    refine rmkV (.own (oi 34 13) (.slice .int) 0 1) (oi 34 13) (.vec 23 1 1 ([.nils])) trivial (s_mkV (by kernel_rfl)) ?_
    refine rs2 (.own (oi 1 14) (.slice .int) 0 (l6_m5.length + 1)) (oi 1 1) (oi 1 14) (.vec 23 1 (l6_m5.length + 1) (hdL (oi 2 1) .int l6_m5 ++ [.nils])) (s_appVO (u := .int) (t' := (.slice .int)) (t2 := (.slice .int)) (o := (oi 1 1)) (q := (oi 34 13)) (e2 := 23) (p := (oi 2 1)) (xss := l6_m5) (cs := [.nils]) (len := l6_m5.length) (by kernel_rfl) (by kernel_rfl) rfl (by kernel_rfl) (by kernel_rfl) rfl g19) ?_
    refine rsB 1 ?_
    refine rnil (bn_ (tn_ ?_))
    obtain rfl := zj h
    exact ⟨_, ((weak_nil_vec_ 9002 (oi 1 14) l6_m5.length 23 1 (l6_m5.length + 1) (hdL (oi 2 1) .int l6_m5 ++ [.nils]) (hdL (oi 2 1) .int l6_m5 ++ [(.own (oi 9002 16) .int 0 0)]) 3 .int (by kernel_rfl) (by kernel_rfl) hdL_nilK hdL_nilS).trans ((weak_app_ (e1 := 23) (e := 3) (u := .int) (n := l6_m5.length + 1) (len := 0) (row := ([] : List Int)) (ys := ([] : List Int)) (xss := l6_m5) 9000 (oi 1 14) (oi 2 1) (oi 9002 16) (by kernel_rfl) (by kernel_rfl) rfl (by kernel_rfl) (by kernel_rfl) (tw_le rfl) (tw_eq rfl) (by kernel_rfl) (by kernel_rfl) (by kernel_rfl)).trans ((weak_tm_ 5 (.own (oi 1 14) (.slice .int) 0 (l6_m5.length + 1)) (.own (oi 1 14) (.slice .int) 0 ((l6_m5 ++ [([] : List Int)]).length)) (by kernel_rfl) (congrArg (fun z_ => ((.own (oi 1 14) (.slice .int) 0 z_) : AV)) ((by simp) : l6_m5.length + 1 = (l6_m5 ++ [([] : List Int)]).length))).trans (weak_ren [((oi 1 1), (oi 1 14)), ((oi 2 1), (oi 9000 17))])))), rfl⟩
   rintro l10_m5 _ rfl h
   (try dsimp only at h)
   obtain ⟨g20, h⟩ := og_some h
   refine awp_region_ 4 ?_
   refine rs0 (ai ((l6_m14 + 1 : Nat) : Int)) (za g20) ?_
   refine rsB 1 ?_
   refine rnil (tn_ ?_)
   obtain rfl := zj h
   exact ⟨(l6_m14 + 1, l10_m5), _, (weak_ren []), ⟨l6_m14 + 1, l10_m5, rfl, rfl⟩, hn6⟩
  have q9_ := of_decide_eq_false q9
  refine awp_condF_ q9 ?_
  refine awp_exit_ (te_ (te_ (be_ (tn_ ?_))))
  obtain rfl := zj h
  have h := hn6
  (try dsimp only at h)
  obtain rfl := zj h
  exact ⟨_, (weak_ren []), rfl⟩
 rintro l4_m5 _ rfl h
 (try dsimp only at h)
 refine awp_seqB h (fun (l21_m5 : List (List Int)) S_ => S_ = ⟨mkTm [(2, (.box (oi 0 1) 0)), (5, (.own (oi 1 1) (.slice .int) 0 l21_m5.length))], mkOb (someL [((oi 0 1), .cells 34 [(ai a0_0), (.tree T4 a0_1), (.tree .int a0_2)]), ((oi 1 1), .mat 23 (oi 2 1) .int l21_m5), ((oi 2 1), .pool 3 .int l21_m5)]), 2⟩) ?_ ?_
 ·intro v_ h
  refine awp_seqv_ ?_
  obtain ⟨y23, h23, h⟩ := ob_some h
  refine awp_region_ 6 ?_
  refine rzl (.agg [(ai a0_0), (.tree T4 a0_1), (.tree .int a0_2)]) ?_
  refine zc (.own (oi 608 3) .int 0 y23.length) [((oi 608 3), some (.arr 3 .int y23))] [(.agg [(ai a0_0), (.tree T4 a0_1), (.tree .int a0_2)])] (ok_spec_crDelays h23) ?_
  refine rsB 2 ?_
  refine rnil (tn_ ?_)
  refine wr_ ?_
  refine awp_block_ ?_
  refine awp_loopL h (fun t_ S_ => ∃ (l24_m40 : Nat), ∃ (l24_m5 : List (List Int)), t_ = (l24_m40, l24_m5) ∧ S_ = ⟨mkTm [(2, (.box (oi 0 1) 0)), (5, (.own (oi 1 1) (.slice .int) 0 l24_m5.length)), (38, (.own (oi 3 1) .int 0 y23.length)), (39, (ai ((y23.length : Nat) : Int))), (40, (ai ((l24_m40 : Nat) : Int)))], mkOb (someL [((oi 0 1), .cells 34 [(ai a0_0), (.tree T4 a0_1), (.tree .int a0_2)]), ((oi 1 1), .mat 23 (oi 2 1) .int l24_m5), ((oi 2 1), .pool 3 .int l24_m5), ((oi 3 1), .arr 3 .int y23)]), 2⟩) ⟨_, (weak_ren [((oi 3 1), (oi 608 3))]), ⟨0, l4_m5, rfl, rfl⟩⟩ ?_
  rintro n_ _ _ c_ ⟨l24_m40, l24_m5, rfl, rfl⟩ h hn24
  (try dsimp only at h)
  unfold L_spec_cmUses_l2 at h
  unfold m_spec_cmUses_l2
  refine seqR ?_
  refine awp_seqv_ ?_
  rcases cond_some h with ⟨q27, h⟩ | ⟨q27, h⟩
  ·have q27_ := of_decide_eq_true q27
   refine awp_condT_ q27 ?_
   refine awp_skip_ (tn_ ?_)
   refine wr_ ?_
   refine awp_seqv_ ?_
   refine awp_block_ ?_
   refine awp_seqv_ ?_
   obtain ⟨x30, e30, h⟩ := ob_some h
   refine awp_region_ 6 ?_
   refine rs0 (.elt (oi 3 1) l24_m40 0) (zo (t := .int) (o := (oi 3 1)) (len := y23.length) (k := .i64) (m := ((l24_m40 : Nat) : Int)) (nat_nn _) (getN_lt e30)) ?_
   refine rsl (ai x30) (s_ldE (i := (oi 3 1)) (j := l24_m40) (k := 0) (e := 3) (t := .int) (xs := y23) (by kernel_rfl) (by kernel_rfl) e30 (by kernel_rfl)) ?_
   refine rsB 1 ?_
   refine rnil (tn_ ?_)
   refine wr_ ?_
   obtain ⟨x31, f31, h⟩ := ob_some h
   obtain ⟨p31, b31, e31⟩ := getI_some f31
   obtain ⟨g32, h⟩ := og_some h
   refine awp_region_ 17 ?_
   refine rz0 (.own (oi 1 1) (.slice .int) 0 l24_m5.length) ?_
   refine rz0 (.box (oi 0 1) 1) ?_
   refine rzl (.tree T4 a0_1) ?_
   refine rz0 (ai x30) ?_
   refine rs0 (.telt T4 x31 0) (zi (t := T4) (xs := a0_1) (k := .i64) (m := x30) p31 e31) ?_
   refine rz0 (.telt T4 x31 1) ?_
   refine rz0 (ai x31.2.1) ?_
   refine rs1 (.own (oi 51 13) .int 0 1) (oi 51 13) (.arr 3 .int ([x31.2.1])) (by kernel_rfl) ?_
   refine rmkV (.own (oi 52 14) (.slice .int) 0 1) (oi 52 14) (.vec 23 1 1 ([(.own (oi 51 13) .int 0 1)])) trivial (s_mkV (by kernel_rfl)) ?_
   refine rs2 (.own (oi 1 15) (.slice .int) 0 (l24_m5.length + 1)) (oi 1 1) (oi 1 15) (.vec 23 1 (l24_m5.length + 1) (hdL (oi 2 1) .int l24_m5 ++ [(.own (oi 51 13) .int 0 1)])) (s_appVO (u := .int) (t' := (.slice .int)) (t2 := (.slice .int)) (o := (oi 1 1)) (q := (oi 52 14)) (e2 := 23) (p := (oi 2 1)) (xss := l24_m5) (cs := [(.own (oi 51 13) .int 0 1)]) (len := l24_m5.length) (by kernel_rfl) (by kernel_rfl) rfl (by kernel_rfl) (by kernel_rfl) rfl g32) ?_
   refine rsB 1 ?_
   refine rnil (bn_ (tn_ ?_))
   refine ⟨_, weak_app_ (e1 := 23) (e := 3) (u := .int) (n := l24_m5.length + 1) (len := 1) (row := [x31.2.1]) (ys := [x31.2.1]) (xss := l24_m5) 9000 (oi 1 15) (oi 2 1) (oi 51 13) (by kernel_rfl) (by kernel_rfl) rfl (by kernel_rfl) (by kernel_rfl) (tw_le rfl) (tw_eq rfl) (by kernel_rfl) (by kernel_rfl) (by kernel_rfl), ?_⟩
   obtain ⟨g33, h⟩ := og_some h
   refine awp_region_ 20 ?_
   refine rs0 (ai ((l24_m40 + 1 : Nat) : Int)) (za g33) ?_
   refine rsB 1 ?_
   refine rnil (tn_ ?_)
   obtain rfl := zj h
   exact ⟨(l24_m40 + 1, l24_m5 ++ [[x31.2.1]]), _, ((weak_tm_ 5 (.own (oi 1 15) (.slice .int) 0 (l24_m5.length + 1)) (.own (oi 1 15) (.slice .int) 0 ((l24_m5 ++ [[x31.2.1]]).length)) (by kernel_rfl) (congrArg (fun z_ => ((.own (oi 1 15) (.slice .int) 0 z_) : AV)) ((by simp) : l24_m5.length + 1 = (l24_m5 ++ [[x31.2.1]]).length))).trans (weak_ren [((oi 1 1), (oi 1 15)), ((oi 2 1), (oi 9000 17))])), ⟨l24_m40 + 1, l24_m5 ++ [[x31.2.1]], rfl, rfl⟩, hn24⟩
  have q27_ := of_decide_eq_false q27
  refine awp_condF_ q27 ?_
  refine awp_exit_ (te_ (te_ (be_ (tn_ ?_))))
  obtain rfl := zj h
  have h := hn24
  (try dsimp only at h)
  obtain rfl := zj h
  exact ⟨_, (weak_ren []), rfl⟩
 rintro l21_m5 _ rfl h
 (try dsimp only at h)
 refine awp_seqB h (fun (l34_m5 : List (List Int)) S_ => S_ = ⟨mkTm [(5, (.own (oi 0 1) (.slice .int) 0 l34_m5.length))], mkOb (someL [((oi 0 1), .mat 23 (oi 1 1) .int l34_m5), ((oi 1 1), .pool 3 .int l34_m5)]), 2⟩) ?_ ?_
 ·intro v_ h
  refine seqR ?_
  refine awp_block_ ?_
  refine awp_loopL h (fun t_ S_ => ∃ (l36_m58 : Nat), ∃ (l36_m5 : List (List Int)), t_ = (l36_m58, l36_m5) ∧ S_ = ⟨mkTm [(5, (.own (oi 0 1) (.slice .int) 0 l36_m5.length)), (56, (.tree .int a0_2)), (57, (ai ((a0_2.length : Nat) : Int))), (58, (ai ((l36_m58 : Nat) : Int)))], mkOb (someL [((oi 0 1), .mat 23 (oi 1 1) .int l36_m5), ((oi 1 1), .pool 3 .int l36_m5)]), 2⟩) ⟨_, (weak_ren [((oi 0 1), (oi 1 1)), ((oi 1 1), (oi 2 1))]), ⟨0, l21_m5, rfl, rfl⟩⟩ ?_
  rintro n_ _ _ c_ ⟨l36_m58, l36_m5, rfl, rfl⟩ h hn36
  (try dsimp only at h)
  unfold L_spec_cmUses_l3 at h
  unfold m_spec_cmUses_l3
  refine seqR ?_
  refine awp_seqv_ ?_
  rcases cond_some h with ⟨q39, h⟩ | ⟨q39, h⟩
  ·have q39_ := of_decide_eq_true q39
   refine awp_condT_ q39 ?_
   refine awp_skip_ (tn_ ?_)
   refine wr_ ?_
   refine awp_seqv_ ?_
   refine awp_block_ ?_
   refine awp_seqv_ ?_
   obtain ⟨x42, e42, h⟩ := ob_some h
   refine awp_region_ 6 ?_
   refine rs0 (.telt .int x42 0) (zi (t := .int) (xs := a0_2) (k := .i64) (m := ((l36_m58 : Nat) : Int)) (nat_nn _) e42) ?_
   refine rsB 2 ?_
   refine rnil (tn_ ?_)
   refine wr_ ?_
   obtain ⟨g43, h⟩ := og_some h
   refine awp_region_ 12 ?_
   refine rz0 (.own (oi 0 1) (.slice .int) 0 l36_m5.length) ?_
   refine rz0 (ai x42) ?_
   refine rs1 (.own (oi 64 8) .int 0 1) (oi 64 8) (.arr 3 .int ([x42])) (by kernel_rfl) ?_
   refine rmkV (.own (oi 65 9) (.slice .int) 0 1) (oi 65 9) (.vec 23 1 1 ([(.own (oi 64 8) .int 0 1)])) trivial (s_mkV (by kernel_rfl)) ?_
   refine rs2 (.own (oi 0 10) (.slice .int) 0 (l36_m5.length + 1)) (oi 0 1) (oi 0 10) (.vec 23 1 (l36_m5.length + 1) (hdL (oi 1 1) .int l36_m5 ++ [(.own (oi 64 8) .int 0 1)])) (s_appVO (u := .int) (t' := (.slice .int)) (t2 := (.slice .int)) (o := (oi 0 1)) (q := (oi 65 9)) (e2 := 23) (p := (oi 1 1)) (xss := l36_m5) (cs := [(.own (oi 64 8) .int 0 1)]) (len := l36_m5.length) (by kernel_rfl) (by kernel_rfl) rfl (by kernel_rfl) (by kernel_rfl) rfl g43) ?_
   refine rsB 1 ?_
   refine rnil (bn_ (tn_ ?_))
   refine ⟨_, weak_app_ (e1 := 23) (e := 3) (u := .int) (n := l36_m5.length + 1) (len := 1) (row := [x42]) (ys := [x42]) (xss := l36_m5) 9000 (oi 0 10) (oi 1 1) (oi 64 8) (by kernel_rfl) (by kernel_rfl) rfl (by kernel_rfl) (by kernel_rfl) (tw_le rfl) (tw_eq rfl) (by kernel_rfl) (by kernel_rfl) (by kernel_rfl), ?_⟩
   obtain ⟨g44, h⟩ := og_some h
   refine awp_region_ 15 ?_
   refine rs0 (ai ((l36_m58 + 1 : Nat) : Int)) (za g44) ?_
   refine rsB 1 ?_
   refine rnil (tn_ ?_)
   obtain rfl := zj h
   exact ⟨(l36_m58 + 1, l36_m5 ++ [[x42]]), _, ((weak_tm_ 5 (.own (oi 0 10) (.slice .int) 0 (l36_m5.length + 1)) (.own (oi 0 10) (.slice .int) 0 ((l36_m5 ++ [[x42]]).length)) (by kernel_rfl) (congrArg (fun z_ => ((.own (oi 0 10) (.slice .int) 0 z_) : AV)) ((by simp) : l36_m5.length + 1 = (l36_m5 ++ [[x42]]).length))).trans (weak_ren [((oi 0 1), (oi 0 10)), ((oi 1 1), (oi 9000 12))])), ⟨l36_m58 + 1, l36_m5 ++ [[x42]], rfl, rfl⟩, hn36⟩
  have q39_ := of_decide_eq_false q39
  refine awp_condF_ q39 ?_
  refine awp_exit_ (te_ (te_ (be_ (tn_ ?_))))
  obtain rfl := zj h
  have h := hn36
  (try dsimp only at h)
  obtain rfl := zj h
  exact ⟨_, (weak_ren []), rfl⟩
 rintro l34_m5 _ rfl h
 (try dsimp only at h)
 refine seqR ?_
 refine awp_ret_ ?_
 obtain rfl := zj h
 exact retM_ [(.own (oi 0 1) (.slice .int) 0 l34_m5.length)] (weak_ren (tl := [(4, (.own (oi 0 1) (.slice .int) 0 l34_m5.length))]) (g := 2) [])
def m_impl_Circuit_lastUses_l4 : AC :=
 (.seq (rg [xo 65 (qb .lss (tm 64) (tm 63))])
 (.seq (.cond (tm 65)
  .skip
  (.exit 6))
 (.seq (.block 7 (.seq (rg [xo 66 (qx 1 (tm 62) (tm 64)), xo 67 (ql (tm 66)), xo 12 (qm (tm 67))])
 (.seq (rg [xo 68 (qm (tm 5)), xo 69 (qm (tm 12)), xo 70 (qm (tm 6)), xo 71 (qx 1 (tm 68) (tm 69)), xn (qs (tm 71) (tm 70))])
 (rg [xo 72 (qm (tm 6)), xo 73 (qb .add (tm 72) (ci 1)), xo 6 (qm (tm 73))]))))
 (rg [xo 74 (qb .add (tm 64) (ci 1)), xo 64 (qm (tm 74))]))))
def m_impl_Circuit_lastUses_l3 : AC :=
 (.seq (rg [xo 46 (qb .lss (tm 45) (tm 44))])
 (.seq (.cond (tm 46)
  .skip
  (.exit 4))
 (.seq (.block 5 (.seq (rg [xo 47 (qx 1 (tm 43) (tm 45)), xo 48 (ql (tm 47)), xo 10 (qm (tm 48))])
 (.seq (rg [xo 49 (qm (tm 5)), xo 50 (qf 1 (tm 2)), xo 51 (ql (tm 50)), xo 52 (qm (tm 10)), xo 53 (qx 4 (tm 51) (tm 52)), xo 54 (qf 1 (tm 53)), xo 55 (ql (tm 54)), xo 56 (qm (tm 6)), xo 57 (qx 1 (tm 49) (tm 55)), xn (qs (tm 57) (tm 56))])
 (rg [xo 58 (qm (tm 6)), xo 59 (qb .add (tm 58) (ci 1)), xo 6 (qm (tm 59))]))))
 (rg [xo 60 (qb .add (tm 45) (ci 1)), xo 45 (qm (tm 60))]))))
def m_impl_Circuit_lastUses_l2 : AC :=
 (.seq (rg [xo 34 (qb .lss (tm 33) (tm 32))])
 (.seq (.cond (tm 34)
  .skip
  (.exit 2))
 (.seq (.block 3 (.seq (rg [xo 35 (qx 1 (tm 31) (tm 33)), xo 36 (ql (tm 35)), xo 8 (qm (tm 36))])
 (rg [xo 37 (qm (tm 5)), xo 38 (qm (tm 8)), xo 39 (qm (tm 6)), xo 40 (qx 1 (tm 37) (tm 38)), xn (qs (tm 40) (tm 39))])))
 (rg [xo 41 (qb .add (tm 33) (ci 1)), xo 33 (qm (tm 41))]))))
def m_impl_Circuit_lastUses_l1 : AC :=
 (.seq (.seq (rg [xo 17 (qm (tm 6)), xo 18 (qm (tm 1)), xo 19 (.i (.len (tm 18))), xo 20 (qb .lss (tm 17) (tm 19))])
 (.cond (tm 20)
  .skip
  (.exit 0)))
 (.seq (.block 1 (.seq (.region [xo 23 (qf 1 (tm 2)), xo 24 (ql (tm 23)), xo 25 (qm (tm 1)), xo 26 (qm (tm 6)), xo 27 (qx 1 (tm 25) (tm 26)), xo 28 (ql (tm 27)), xo 29 (qx 4 (tm 24) (tm 28)), xo 30 (.i (.ld false 4 (tm 29))), xo 31 (qc 60 [(tm 30)] [[none, none, none, none]]), xo 32 (.i (.len (tm 31))), xo 33 (qm (ci 0))] true [])
 (.block 2 (.loop m_impl_Circuit_lastUses_l2))))
 (rg [xo 21 (qm (tm 6)), xo 22 (qb .add (tm 21) (ci 1)), xo 6 (qm (tm 22))])))
def m_impl_Circuit_lastUses : AC :=
 (.seq (rg [xo 2 (.i (.box 34 (tm 0))), xo 4 (qm (.cst .nils))])
 (.seq (rg [xo 13 (qf 1 (tm 2)), xo 14 (ql (tm 13)), xo 15 (.i (.len (tm 14))), xo 16 (qc 50 [(ci (-1)), (tm 15)] [[], []]), xo 5 (qm (tm 16))])
 (.seq (rg [xo 6 (qm (ci 0))])
 (.seq (.block 0 (.loop m_impl_Circuit_lastUses_l1))
 (.seq (.seq (rg [xo 42 (.i (.ld false 3 (tm 2))), ⟨(some 43), none, (qc 48 [(tm 42)] [[none, (some T4), (some .int)]])⟩, xo 44 (.i (.len (tm 43))), xo 45 (qm (ci 0))])
 (.block 4 (.loop m_impl_Circuit_lastUses_l3)))
 (.seq (.seq (rg [xo 61 (qf 2 (tm 2)), xo 62 (ql (tm 61)), xo 63 (.i (.len (tm 62))), xo 64 (qm (ci 0))])
 (.block 6 (.loop m_impl_Circuit_lastUses_l4)))
 (.seq (rg [xo 75 (qm (tm 5)), xo 4 (qm (tm 75))])
 .ret)))))))
def r_impl_Circuit_lastUses : List Res := [.tmp 4]
theorem c_impl_Circuit_lastUses : compiled Tryd.prog Tryd.f49 = some (m_impl_Circuit_lastUses, r_impl_Circuit_lastUses) := by kernel_rfl
theorem hb_impl_Circuit_lastUses : hasBody Tryd.prog 49 = true := by kernel_rfl
def L_impl_Circuit_lastUses_l2 (y14 : List Int) (l6_m6 : Nat) (l15_m33 : Nat) (l15_m5 : List Int) : Option (Ctl (Nat × List Int) (List Int)) :=
 cond (decide (((l15_m33 : Nat) : Int) < ((y14.length : Nat) : Int)))
 (Option.bind (y14[l15_m33]?) fun x21 =>
 Option.bind (getI l15_m5 x21) fun x22 =>
 og (l15_m33 + 1 < 4611686018427387904) <|
 some (Ctl.next (l15_m33 + 1, l15_m5.set x21.toNat ((l6_m6 : Nat) : Int))))
 (some (Ctl.out l15_m5))
def L_impl_Circuit_lastUses_l1 (a1 : List Int) (a0_1 : List (Int × Int × Int × Int)) (l6_m6 : Nat) (l6_m5 : List Int) : Option (Ctl (Nat × List Int) (Nat × List Int)) :=
 cond (decide (((l6_m6 : Nat) : Int) < ((a1.length : Nat) : Int)))
 (Option.bind (Option.bind (a1[l6_m6]?) fun x12 =>
  Option.bind (getI a0_1 x12) fun x13 =>
  Option.bind (L_impl_Gate_needs x13.1 x13.2.1 x13.2.2.1 x13.2.2.2) fun y14 =>
  loopM (fun s_ : Nat × List Int => L_impl_Circuit_lastUses_l2 y14 l6_m6 s_.1 s_.2) 4611686018427387904 (0, l6_m5)) fun l10_m5 =>
 og (l6_m6 + 1 < 4611686018427387904) <|
 some (Ctl.next (l6_m6 + 1, l10_m5)))
 (some (Ctl.out (l6_m6, l6_m5)))
def L_impl_Circuit_lastUses_l3 (y27 : List Int) (a0_1 : List (Int × Int × Int × Int)) (l28_m6 : Nat) (l28_m45 : Nat) (l28_m5 : List Int) : Option (Ctl (Nat × Nat × List Int) (Nat × List Int)) :=
 cond (decide (((l28_m45 : Nat) : Int) < ((y27.length : Nat) : Int)))
 (Option.bind (y27[l28_m45]?) fun x34 =>
 Option.bind (getI a0_1 x34) fun x36 =>
 Option.bind (getI l28_m5 x36.2.1) fun x37 =>
 og (l28_m6 + 1 < 4611686018427387904) <|
 og (l28_m45 + 1 < 4611686018427387904) <|
 some (Ctl.next (l28_m6 + 1, l28_m45 + 1, l28_m5.set x36.2.1.toNat ((l28_m6 : Nat) : Int))))
 (some (Ctl.out (l28_m6, l28_m5)))
def L_impl_Circuit_lastUses_l4 (a0_2 : List Int) (l42_m6 : Nat) (l42_m64 : Nat) (l42_m5 : List Int) : Option (Ctl (Nat × Nat × List Int) (List Int)) :=
 cond (decide (((l42_m64 : Nat) : Int) < ((a0_2.length : Nat) : Int)))
 (Option.bind (a0_2[l42_m64]?) fun x48 =>
 Option.bind (getI l42_m5 x48) fun x50 =>
 og (l42_m6 + 1 < 4611686018427387904) <|
 og (l42_m64 + 1 < 4611686018427387904) <|
 some (Ctl.next (l42_m6 + 1, l42_m64 + 1, l42_m5.set x48.toNat ((l42_m6 : Nat) : Int))))
 (some (Ctl.out l42_m5))
def L_impl_Circuit_lastUses (a0_0 : Int) (a0_1 : List (Int × Int × Int × Int)) (a0_2 : List Int) (a1 : List Int) : Option (List Int) :=
 Option.bind (L_impl_repeated (-1) ((a0_1.length : Nat) : Int)) fun y3 =>
Option.bind (loopM (fun s_ : Nat × List Int => L_impl_Circuit_lastUses_l1 a1 a0_1 s_.1 s_.2) 4611686018427387904 (0, y3)) fun (l5_m6, l5_m5) =>
Option.bind (Option.bind (L_impl_Circuit_delays a0_0 a0_1 a0_2) fun y27 =>
 loopM (fun s_ : Nat × Nat × List Int => L_impl_Circuit_lastUses_l3 y27 a0_1 s_.1 s_.2.1 s_.2.2) 4611686018427387904 (l5_m6, 0, l5_m5)) fun (l25_m6, l25_m5) =>
Option.bind (loopM (fun s_ : Nat × Nat × List Int => L_impl_Circuit_lastUses_l4 a0_2 s_.1 s_.2.1 s_.2.2) 4611686018427387904 (l25_m6, 0, l25_m5)) fun l40_m5 =>
some l40_m5
def rv_impl_Circuit_lastUses (r : List Int) : RV := ⟨false, [(false, [.new 3 .int r])]⟩
theorem ok_impl_Circuit_lastUses {a0_0 : Int} {a0_1 : List (Int × Int × Int × Int)} {a0_2 : List Int} {a1 : List Int} {r : List Int} (h : L_impl_Circuit_lastUses a0_0 a0_1 a0_2 a1 = some r) : CallOK Tryd.prog Tab 49 [(.agg [(ai a0_0), (.tree T4 a0_1), (.tree .int a0_2)]), (.tree .int a1)] (rv_impl_Circuit_lastUses r) := by
 refine call_of_ (by kernel_rfl) Tryd.func49 c_impl_Circuit_lastUses (n := 76) (by kernel_rfl) (by simp) (tl := [(0, (.agg [(ai a0_0), (.tree T4 a0_1), (.tree .int a0_2)])), (1, (.tree .int a1))]) rfl ?_
 unfold m_impl_Circuit_lastUses
 unfold L_impl_Circuit_lastUses at h
 refine seqR ?_
 refine awp_seqv_ ?_
 obtain ⟨y3, h3, h⟩ := ob_some h
 refine awp_region_ 8 ?_
 refine rz0 (.box (oi 2 1) 1) ?_
 refine rzl (.tree T4 a0_1) ?_
 refine rz0 (ai ((a0_1.length : Nat) : Int)) ?_
 refine zc (.own (oi 256 6) .int 0 y3.length) [((oi 256 6), some (.arr 3 .int y3))] [(ai (-1)), (ai ((a0_1.length : Nat) : Int))] (ok_impl_repeated h3) ?_
 refine rsB 1 ?_
 refine rnil (tn_ ?_)
 refine wr_ ?_
 refine seqR ?_
 refine awp_seqB h (fun t_ S_ => ∃ (l5_m6 : Nat), ∃ (l5_m5 : List Int), t_ = (l5_m6, l5_m5) ∧ S_ = ⟨mkTm [(2, (.box (oi 0 1) 0)), (5, (.own (oi 1 1) .int 0 l5_m5.length)), (6, (ai ((l5_m6 : Nat) : Int)))], mkOb (someL [((oi 0 1), .cells 34 [(ai a0_0), (.tree T4 a0_1), (.tree .int a0_2)]), ((oi 1 1), .arr 3 .int l5_m5)]), 2⟩) ?_ ?_
 ·intro v_ h
  refine awp_block_ ?_
  refine awp_loopL h (fun t_ S_ => ∃ (l6_m6 : Nat), ∃ (l6_m5 : List Int), t_ = (l6_m6, l6_m5) ∧ S_ = ⟨mkTm [(1, (.tree .int a1)), (2, (.box (oi 0 1) 0)), (5, (.own (oi 1 1) .int 0 l6_m5.length)), (6, (ai ((l6_m6 : Nat) : Int)))], mkOb (someL [((oi 0 1), .cells 34 [(ai a0_0), (.tree T4 a0_1), (.tree .int a0_2)]), ((oi 1 1), .arr 3 .int l6_m5)]), 2⟩) ⟨_, (weak_ren [((oi 0 1), (oi 2 1)), ((oi 1 1), (oi 256 6))]), ⟨0, y3, rfl, rfl⟩⟩ ?_
  rintro n_ _ _ c_ ⟨l6_m6, l6_m5, rfl, rfl⟩ h hn6
  (try dsimp only at h)
  unfold L_impl_Circuit_lastUses_l1 at h
  unfold m_impl_Circuit_lastUses_l1
  refine awp_seqv_ ?_
  refine seqR ?_
  rcases cond_some h with ⟨q9, h⟩ | ⟨q9, h⟩
  ·have q9_ := of_decide_eq_true q9
   refine awp_condT_ q9 ?_
   refine awp_skip_ (tn_ ?_)
   refine wr_ ?_
   refine awp_seqB h (fun (l10_m5 : List Int) S_ => S_ = ⟨mkTm [(1, (.tree .int a1)), (2, (.box (oi 0 1) 0)), (5, (.own (oi 1 1) .int 0 l10_m5.length)), (6, (ai ((l6_m6 : Nat) : Int)))], mkOb (someL [((oi 0 1), .cells 34 [(ai a0_0), (.tree T4 a0_1), (.tree .int a0_2)]), ((oi 1 1), .arr 3 .int l10_m5)]), 2⟩) ?_ ?_
   ·intro v_ h
    refine awp_block_ ?_
    refine awp_seqv_ ?_
    obtain ⟨x12, e12, h⟩ := ob_some h
    obtain ⟨x13, f13, h⟩ := ob_some h
    obtain ⟨p13, b13, e13⟩ := getI_some f13
    obtain ⟨y14, h14, h⟩ := ob_some h
    refine awp_regionD_ 17 ?_
    refine dz0 (.box (oi 0 1) 1) ?_
    refine dzl (.tree T4 a0_1) ?_
    refine dz0 (.tree .int a1) ?_
    refine dz0 (ai ((l6_m6 : Nat) : Int)) ?_
    refine ds0 (.telt .int x12 0) (zi (t := .int) (xs := a1) (k := .i64) (m := ((l6_m6 : Nat) : Int)) (nat_nn _) e12) ?_
    refine dz0 (ai x12) ?_
    refine ds0 (.telt T4 x13 0) (zi (t := T4) (xs := a0_1) (k := .i64) (m := x12) p13 e13) ?_
    refine dz0 (.agg [(ai x13.1), (ai x13.2.1), (ai x13.2.2.1), (ai x13.2.2.2)]) ?_
    refine dcall (.own (oi 496 14) .int 0 y14.length) [((oi 496 14), some (.arr 3 .int y14))] [(.agg [(ai x13.1), (ai x13.2.1), (ai x13.2.2.1), (ai x13.2.2.2)])] _ (caps := []) (args0 := [(.agg [(ai x13.1), (ai x13.2.1), (ai x13.2.2.1), (ai x13.2.2.2)])]) trivial (by kernel_rfl) (ok_impl_Gate_needs h14) hb_impl_Gate_needs ?_
    refine dz0 (ai ((y14.length : Nat) : Int)) ?_
    refine dz0 (ai 0) ?_
    refine dnil (badB_spec (by kernel_rfl)) (tn_ ?_)
    refine wr_ ?_
    refine awp_block_ ?_
    refine awp_loopL h (fun t_ S_ => ∃ (l15_m33 : Nat), ∃ (l15_m5 : List Int), t_ = (l15_m33, l15_m5) ∧ S_ = ⟨mkTm [(1, (.tree .int a1)), (2, (.box (oi 0 1) 0)), (5, (.own (oi 1 1) .int 0 l15_m5.length)), (6, (ai ((l6_m6 : Nat) : Int))), (31, (.own (oi 2 1) .int 0 y14.length)), (32, (ai ((y14.length : Nat) : Int))), (33, (ai ((l15_m33 : Nat) : Int)))], mkOb (someL [((oi 0 1), .cells 34 [(ai a0_0), (.tree T4 a0_1), (.tree .int a0_2)]), ((oi 1 1), .arr 3 .int l15_m5), ((oi 2 1), .arr 3 .int y14)]), 2⟩) ⟨_, (weak_ren [((oi 2 1), (oi 496 14))]), ⟨0, l6_m5, rfl, rfl⟩⟩ ?_
    rintro n_ _ _ c_ ⟨l15_m33, l15_m5, rfl, rfl⟩ h hn15
    (try dsimp only at h)
    unfold L_impl_Circuit_lastUses_l2 at h
    unfold m_impl_Circuit_lastUses_l2
    refine seqR ?_
    refine awp_seqv_ ?_
    rcases cond_some h with ⟨q18, h⟩ | ⟨q18, h⟩
    ·have q18_ := of_decide_eq_true q18
     refine awp_condT_ q18 ?_
     refine awp_skip_ (tn_ ?_)
     refine wr_ ?_
     refine awp_seqv_ ?_
     refine awp_block_ ?_
     refine awp_seqv_ ?_
     obtain ⟨x21, e21, h⟩ := ob_some h
     refine awp_region_ 6 ?_
     refine rs0 (.elt (oi 2 1) l15_m33 0) (zo (t := .int) (o := (oi 2 1)) (len := y14.length) (k := .i64) (m := ((l15_m33 : Nat) : Int)) (nat_nn _) (getN_lt e21)) ?_
     refine rsl (ai x21) (s_ldE (i := (oi 2 1)) (j := l15_m33) (k := 0) (e := 3) (t := .int) (xs := y14) (by kernel_rfl) (by kernel_rfl) e21 (by kernel_rfl)) ?_
     refine rsB 1 ?_
     refine rnil (tn_ ?_)
     refine wr_ ?_
     obtain ⟨x22, f22, h⟩ := ob_some h
     obtain ⟨p22, b22, e22⟩ := getI_some f22
     refine awp_region_ 11 ?_
     refine rz0 (.own (oi 1 1) .int 0 l15_m5.length) ?_
     refine rz0 (ai x21) ?_
     refine rz0 (ai ((l6_m6 : Nat) : Int)) ?_
     refine rs0 (.elt (oi 1 1) x21.toNat 0) (zo (t := .int) (o := (oi 1 1)) (len := l15_m5.length) (k := .i64) (m := x21) p22 (getN_lt e22)) ?_
     refine rsn2 (oi 1 1) (oi 1 1) (.arr 3 .int (l15_m5.set x21.toNat ((l6_m6 : Nat) : Int))) (s_stE (i := (oi 1 1)) (j := x21.toNat) (k := 0) (e := 3) (t := .int) (xs := l15_m5) (cs := [(ai ((l6_m6 : Nat) : Int))]) (x1 := ((l6_m6 : Nat) : Int)) (by kernel_rfl) (by kernel_rfl) e22 (by kernel_rfl) (by kernel_rfl)) ?_
     refine rnil (bn_ (tn_ ?_))
     refine wr_ ?_
     obtain ⟨g23, h⟩ := og_some h
     refine awp_region_ 13 ?_
     refine rs0 (ai ((l15_m33 + 1 : Nat) : Int)) (za g23) ?_
     refine rsB 1 ?_
     refine rnil (tn_ ?_)
     obtain rfl := zj h
     exact ⟨(l15_m33 + 1, l15_m5.set x21.toNat ((l6_m6 : Nat) : Int)), _, ((weak_tm_ 5 (.own (oi 1 1) .int 0 l15_m5.length) (.own (oi 1 1) .int 0 ((l15_m5.set x21.toNat ((l6_m6 : Nat) : Int)).length)) (by kernel_rfl) (congrArg (fun z_ => ((.own (oi 1 1) .int 0 z_) : AV)) (((rfl : l15_m5.length = l15_m5.length).trans List.length_set.symm) : l15_m5.length = (l15_m5.set x21.toNat ((l6_m6 : Nat) : Int)).length))).trans (weak_ren [])), ⟨l15_m33 + 1, l15_m5.set x21.toNat ((l6_m6 : Nat) : Int), rfl, rfl⟩, hn15⟩
    have q18_ := of_decide_eq_false q18
    refine awp_condF_ q18 ?_
    refine awp_exit_ (te_ (te_ (be_ (bn_ (tn_ ?_)))))
    obtain rfl := zj h
    have h := hn15
    (try dsimp only at h)
    obtain rfl := zj h
    exact ⟨_, (weak_ren []), rfl⟩
   rintro l10_m5 _ rfl h
   (try dsimp only at h)
   obtain ⟨g24, h⟩ := og_some h
   refine awp_region_ 5 ?_
   refine rz0 (ai ((l6_m6 : Nat) : Int)) ?_
   refine rs0 (ai ((l6_m6 + 1 : Nat) : Int)) (za g24) ?_
   refine rsB 1 ?_
   refine rnil (tn_ ?_)
   obtain rfl := zj h
   exact ⟨(l6_m6 + 1, l10_m5), _, (weak_ren []), ⟨l6_m6 + 1, l10_m5, rfl, rfl⟩, hn6⟩
  have q9_ := of_decide_eq_false q9
  refine awp_condF_ q9 ?_
  refine awp_exit_ (te_ (te_ (be_ (tn_ ?_))))
  obtain rfl := zj h
  have h := hn6
  (try dsimp only at h)
  obtain rfl := zj h
  exact ⟨_, (weak_ren []), ⟨l6_m6, l6_m5, rfl, rfl⟩⟩
 rintro _ _ ⟨l5_m6, l5_m5, rfl, rfl⟩ h
 (try dsimp only at h)
 refine awp_seqB h (fun t_ S_ => ∃ (l25_m6 : Nat), ∃ (l25_m5 : List Int), t_ = (l25_m6, l25_m5) ∧ S_ = ⟨mkTm [(2, (.box (oi 0 1) 0)), (5, (.own (oi 1 1) .int 0 l25_m5.length)), (6, (ai ((l25_m6 : Nat) : Int)))], mkOb (someL [((oi 0 1), .cells 34 [(ai a0_0), (.tree T4 a0_1), (.tree .int a0_2)]), ((oi 1 1), .arr 3 .int l25_m5)]), 2⟩) ?_ ?_
 ·intro v_ h
  refine awp_seqv_ ?_
  obtain ⟨y27, h27, h⟩ := ob_some h
  refine awp_region_ 6 ?_
  refine rzl (.agg [(ai a0_0), (.tree T4 a0_1), (.tree .int a0_2)]) ?_
  refine zc (.own (oi 688 3) .int 0 y27.length) [((oi 688 3), some (.arr 3 .int y27))] [(.agg [(ai a0_0), (.tree T4 a0_1), (.tree .int a0_2)])] (ok_impl_Circuit_delays h27) ?_
  refine rsB 2 ?_
  refine rnil (tn_ ?_)
  refine wr_ ?_
  refine awp_block_ ?_
  refine awp_loopL h (fun t_ S_ => ∃ (l28_m6 : Nat), ∃ (l28_m45 : Nat), ∃ (l28_m5 : List Int), t_ = (l28_m6, l28_m45, l28_m5) ∧ S_ = ⟨mkTm [(2, (.box (oi 0 1) 0)), (5, (.own (oi 1 1) .int 0 l28_m5.length)), (6, (ai ((l28_m6 : Nat) : Int))), (43, (.own (oi 2 1) .int 0 y27.length)), (44, (ai ((y27.length : Nat) : Int))), (45, (ai ((l28_m45 : Nat) : Int)))], mkOb (someL [((oi 0 1), .cells 34 [(ai a0_0), (.tree T4 a0_1), (.tree .int a0_2)]), ((oi 1 1), .arr 3 .int l28_m5), ((oi 2 1), .arr 3 .int y27)]), 2⟩) ⟨_, (weak_ren [((oi 2 1), (oi 688 3))]), ⟨l5_m6, 0, l5_m5, rfl, rfl⟩⟩ ?_
  rintro n_ _ _ c_ ⟨l28_m6, l28_m45, l28_m5, rfl, rfl⟩ h hn28
  (try dsimp only at h)
  unfold L_impl_Circuit_lastUses_l3 at h
  unfold m_impl_Circuit_lastUses_l3
  refine seqR ?_
  refine awp_seqv_ ?_
  rcases cond_some h with ⟨q31, h⟩ | ⟨q31, h⟩
  ·have q31_ := of_decide_eq_true q31
   refine awp_condT_ q31 ?_
   refine awp_skip_ (tn_ ?_)
   refine wr_ ?_
   refine awp_seqv_ ?_
   refine awp_block_ ?_
   refine awp_seqv_ ?_
   obtain ⟨x34, e34, h⟩ := ob_some h
   refine awp_region_ 6 ?_
   refine rs0 (.elt (oi 2 1) l28_m45 0) (zo (t := .int) (o := (oi 2 1)) (len := y27.length) (k := .i64) (m := ((l28_m45 : Nat) : Int)) (nat_nn _) (getN_lt e34)) ?_
   refine rsl (ai x34) (s_ldE (i := (oi 2 1)) (j := l28_m45) (k := 0) (e := 3) (t := .int) (xs := y27) (by kernel_rfl) (by kernel_rfl) e34 (by kernel_rfl)) ?_
   refine rsB 1 ?_
   refine rnil (tn_ ?_)
   refine wr_ ?_
   refine awp_seqv_ ?_
   obtain ⟨x36, f36, h⟩ := ob_some h
   obtain ⟨p36, b36, e36⟩ := getI_some f36
   obtain ⟨x37, f37, h⟩ := ob_some h
   obtain ⟨p37, b37, e37⟩ := getI_some f37
   refine awp_region_ 16 ?_
   refine rz0 (.own (oi 1 1) .int 0 l28_m5.length) ?_
   refine rz0 (.box (oi 0 1) 1) ?_
   refine rzl (.tree T4 a0_1) ?_
   refine rz0 (ai x34) ?_
   refine rs0 (.telt T4 x36 0) (zi (t := T4) (xs := a0_1) (k := .i64) (m := x34) p36 e36) ?_
   refine rz0 (.telt T4 x36 1) ?_
   refine rz0 (ai x36.2.1) ?_
   refine rz0 (ai ((l28_m6 : Nat) : Int)) ?_
   refine rs0 (.elt (oi 1 1) x36.2.1.toNat 0) (zo (t := .int) (o := (oi 1 1)) (len := l28_m5.length) (k := .i64) (m := x36.2.1) p37 (getN_lt e37)) ?_
   refine rsn2 (oi 1 1) (oi 1 1) (.arr 3 .int (l28_m5.set x36.2.1.toNat ((l28_m6 : Nat) : Int))) (s_stE (i := (oi 1 1)) (j := x36.2.1.toNat) (k := 0) (e := 3) (t := .int) (xs := l28_m5) (cs := [(ai ((l28_m6 : Nat) : Int))]) (x1 := ((l28_m6 : Nat) : Int)) (by kernel_rfl) (by kernel_rfl) e37 (by kernel_rfl) (by kernel_rfl)) ?_
   refine rnil (tn_ ?_)
   refine wr_ ?_
   obtain ⟨g38, h⟩ := og_some h
   refine awp_region_ 19 ?_
   refine rz0 (ai ((l28_m6 : Nat) : Int)) ?_
   refine rs0 (ai ((l28_m6 + 1 : Nat) : Int)) (za g38) ?_
   refine rsB 1 ?_
   refine rnil (bn_ (tn_ ?_))
   refine wr_ ?_
   obtain ⟨g39, h⟩ := og_some h
   refine awp_region_ 21 ?_
   refine rs0 (ai ((l28_m45 + 1 : Nat) : Int)) (za g39) ?_
   refine rsB 1 ?_
   refine rnil (tn_ ?_)
   obtain rfl := zj h
   exact ⟨(l28_m6 + 1, l28_m45 + 1, l28_m5.set x36.2.1.toNat ((l28_m6 : Nat) : Int)), _, ((weak_tm_ 5 (.own (oi 1 1) .int 0 l28_m5.length) (.own (oi 1 1) .int 0 ((l28_m5.set x36.2.1.toNat ((l28_m6 : Nat) : Int)).length)) (by kernel_rfl) (congrArg (fun z_ => ((.own (oi 1 1) .int 0 z_) : AV)) (((rfl : l28_m5.length = l28_m5.length).trans List.length_set.symm) : l28_m5.length = (l28_m5.set x36.2.1.toNat ((l28_m6 : Nat) : Int)).length))).trans (weak_ren [])), ⟨l28_m6 + 1, l28_m45 + 1, l28_m5.set x36.2.1.toNat ((l28_m6 : Nat) : Int), rfl, rfl⟩, hn28⟩
  have q31_ := of_decide_eq_false q31
  refine awp_condF_ q31 ?_
  refine awp_exit_ (te_ (te_ (be_ (tn_ ?_))))
  obtain rfl := zj h
  have h := hn28
  (try dsimp only at h)
  obtain rfl := zj h
  exact ⟨_, (weak_ren []), ⟨l28_m6, l28_m5, rfl, rfl⟩⟩
 rintro _ _ ⟨l25_m6, l25_m5, rfl, rfl⟩ h
 (try dsimp only at h)
 refine awp_seqB h (fun (l40_m5 : List Int) S_ => S_ = ⟨mkTm [(5, (.own (oi 0 1) .int 0 l40_m5.length))], mkOb (someL [((oi 0 1), .arr 3 .int l40_m5)]), 2⟩) ?_ ?_
 ·intro v_ h
  refine seqR ?_
  refine awp_block_ ?_
  refine awp_loopL h (fun t_ S_ => ∃ (l42_m6 : Nat), ∃ (l42_m64 : Nat), ∃ (l42_m5 : List Int), t_ = (l42_m6, l42_m64, l42_m5) ∧ S_ = ⟨mkTm [(5, (.own (oi 0 1) .int 0 l42_m5.length)), (6, (ai ((l42_m6 : Nat) : Int))), (62, (.tree .int a0_2)), (63, (ai ((a0_2.length : Nat) : Int))), (64, (ai ((l42_m64 : Nat) : Int)))], mkOb (someL [((oi 0 1), .arr 3 .int l42_m5)]), 2⟩) ⟨_, (weak_ren [((oi 0 1), (oi 1 1))]), ⟨l25_m6, 0, l25_m5, rfl, rfl⟩⟩ ?_
  rintro n_ _ _ c_ ⟨l42_m6, l42_m64, l42_m5, rfl, rfl⟩ h hn42
  (try dsimp only at h)
  unfold L_impl_Circuit_lastUses_l4 at h
  unfold m_impl_Circuit_lastUses_l4
  refine seqR ?_
  refine awp_seqv_ ?_
  rcases cond_some h with ⟨q45, h⟩ | ⟨q45, h⟩
  ·have q45_ := of_decide_eq_true q45
   refine awp_condT_ q45 ?_
   refine awp_skip_ (tn_ ?_)
   refine wr_ ?_
   refine awp_seqv_ ?_
   refine awp_block_ ?_
   refine awp_seqv_ ?_
   obtain ⟨x48, e48, h⟩ := ob_some h
   refine awp_region_ 6 ?_
   refine rs0 (.telt .int x48 0) (zi (t := .int) (xs := a0_2) (k := .i64) (m := ((l42_m64 : Nat) : Int)) (nat_nn _) e48) ?_
   refine rsB 2 ?_
   refine rnil (tn_ ?_)
   refine wr_ ?_
   refine awp_seqv_ ?_
   obtain ⟨x50, f50, h⟩ := ob_some h
   obtain ⟨p50, b50, e50⟩ := getI_some f50
   refine awp_region_ 11 ?_
   refine rz0 (.own (oi 0 1) .int 0 l42_m5.length) ?_
   refine rz0 (ai x48) ?_
   refine rz0 (ai ((l42_m6 : Nat) : Int)) ?_
   refine rs0 (.elt (oi 0 1) x48.toNat 0) (zo (t := .int) (o := (oi 0 1)) (len := l42_m5.length) (k := .i64) (m := x48) p50 (getN_lt e50)) ?_
   refine rsn2 (oi 0 1) (oi 0 1) (.arr 3 .int (l42_m5.set x48.toNat ((l42_m6 : Nat) : Int))) (s_stE (i := (oi 0 1)) (j := x48.toNat) (k := 0) (e := 3) (t := .int) (xs := l42_m5) (cs := [(ai ((l42_m6 : Nat) : Int))]) (x1 := ((l42_m6 : Nat) : Int)) (by kernel_rfl) (by kernel_rfl) e50 (by kernel_rfl) (by kernel_rfl)) ?_
   refine rnil (tn_ ?_)
   refine wr_ ?_
   obtain ⟨g51, h⟩ := og_some h
   refine awp_region_ 14 ?_
   refine rz0 (ai ((l42_m6 : Nat) : Int)) ?_
   refine rs0 (ai ((l42_m6 + 1 : Nat) : Int)) (za g51) ?_
   refine rsB 1 ?_
   refine rnil (bn_ (tn_ ?_))
   refine wr_ ?_
   obtain ⟨g52, h⟩ := og_some h
   refine awp_region_ 16 ?_
   refine rs0 (ai ((l42_m64 + 1 : Nat) : Int)) (za g52) ?_
   refine rsB 1 ?_
   refine rnil (tn_ ?_)
   obtain rfl := zj h
   exact ⟨(l42_m6 + 1, l42_m64 + 1, l42_m5.set x48.toNat ((l42_m6 : Nat) : Int)), _, ((weak_tm_ 5 (.own (oi 0 1) .int 0 l42_m5.length) (.own (oi 0 1) .int 0 ((l42_m5.set x48.toNat ((l42_m6 : Nat) : Int)).length)) (by kernel_rfl) (congrArg (fun z_ => ((.own (oi 0 1) .int 0 z_) : AV)) (((rfl : l42_m5.length = l42_m5.length).trans List.length_set.symm) : l42_m5.length = (l42_m5.set x48.toNat ((l42_m6 : Nat) : Int)).length))).trans (weak_ren [])), ⟨l42_m6 + 1, l42_m64 + 1, l42_m5.set x48.toNat ((l42_m6 : Nat) : Int), rfl, rfl⟩, hn42⟩
  have q45_ := of_decide_eq_false q45
  refine awp_condF_ q45 ?_
  refine awp_exit_ (te_ (te_ (be_ (tn_ ?_))))
  obtain rfl := zj h
  have h := hn42
  (try dsimp only at h)
  obtain rfl := zj h
  exact ⟨_, (weak_ren []), rfl⟩
 rintro l40_m5 _ rfl h
 (try dsimp only at h)
 refine seqR ?_
 refine awp_ret_ ?_
 obtain rfl := zj h
 exact ret_ [(.own (oi 0 1) .int 0 l40_m5.length)] (p_one rfl (l_own (by kernel_rfl) rfl) p_nil)
end Go.Proofs.YtbdkmfmhlmnlmaaDoor
