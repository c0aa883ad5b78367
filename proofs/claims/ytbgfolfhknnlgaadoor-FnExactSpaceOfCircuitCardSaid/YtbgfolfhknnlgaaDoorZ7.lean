/- Lemmas on the program and on partial functions that stand in place of its code (part 7); no condition beyond those that each one states. -/
import Derived.Test.YtbgfolfhknnlgaaDoorZ6
namespace Go.Proofs.YtbgfolfhknnlgaaDoor
open Go.RowKit Go.Deep
set_option maxRecDepth 4000
def m_impl_Circuit_step_l4 : AC :=
 (.seq (rg [xo 118 (qb .lss (tm 117) (tm 116))])
 (.seq (.cond (tm 118)
  .skip
  (.exit 6))
 (.seq (.block 7 (.seq (rg [xo 119 (qx 1 (tm 115) (tm 117)), xo 120 (ql (tm 119)), xo 23 (qm (tm 120))])
 (rg [xo 121 (qm (tm 21)), xo 122 (qm (tm 10)), xo 123 (qf 1 (tm 4)), xo 124 (ql (tm 123)), xo 125 (qm (tm 23)), xo 126 (qx 4 (tm 124) (tm 125)), xo 127 (qf 1 (tm 126)), xo 128 (ql (tm 127)), xo 129 (qx 1 (tm 122) (tm 128)), xo 130 (ql (tm 129)), xo 131 (.mkS 3 .int [(tm 130)]), xo 132 (.append 3 .int 8 (tm 121) (tm 131)), xo 21 (qm (tm 132))])))
 (rg [xo 133 (qb .add (tm 117) (ci 1)), xo 117 (qm (tm 133))]))))
def m_impl_Circuit_step_l3 : AC :=
 (.seq (rg [xo 73 (qb .lss (tm 72) (tm 71))])
 (.seq (.cond (tm 73)
  .skip
  (.exit 4))
 (.seq (.block 5 (.seq (rg [xo 74 (qx 1 (tm 70) (tm 72)), xo 75 (ql (tm 74)), xo 19 (qm (tm 75))])
 (.seq (rg [xo 76 (qf 1 (tm 4)), xo 77 (ql (tm 76)), xo 78 (qm (tm 19)), xo 79 (qx 4 (tm 77) (tm 78)), xo 80 (.i (.ld false 4 (tm 79))), xo 20 (.i (.alloc 57 [(.int .i64 0), (.int .i64 0), (.int .i64 0), (.int .i64 0)])), xn (.st false 4 (tm 20) (tm 80))])
 (.seq (rg [xo 81 (qf 0 (tm 20)), xo 82 (ql (tm 81)), xo 83 (qb .eql (tm 82) (ci 3))])
 (.cond (tm 83)
  (.region [xo 84 (qm (tm 10)), xo 85 (qm (tm 19)), xo 86 (qm (tm 1)), xo 87 (qm (tm 10)), xo 88 (qf 1 (tm 20)), xo 89 (ql (tm 88)), xo 90 (qx 1 (tm 87) (tm 89)), xo 91 (ql (tm 90)), xo 92 (qm (tm 10)), xo 93 (qf 2 (tm 20)), xo 94 (ql (tm 93)), xo 95 (qx 1 (tm 92) (tm 94)), xo 96 (ql (tm 95)), xo 97 (qb .add (tm 91) (tm 96)), xo 98 (qc 62 [(tm 86), (tm 97)] [[], []]), xo 99 (qx 1 (tm 84) (tm 85)), xn (qs (tm 99) (tm 98))] true [])
  (.region [xo 100 (qm (tm 10)), xo 101 (qm (tm 19)), xo 102 (qm (tm 1)), xo 103 (qf 3 (tm 20)), xo 104 (ql (tm 103)), xo 105 (qm (tm 10)), xo 106 (qf 1 (tm 20)), xo 107 (ql (tm 106)), xo 108 (qx 1 (tm 105) (tm 107)), xo 109 (ql (tm 108)), xo 110 (qb .mul (tm 104) (tm 109)), xo 111 (qc 62 [(tm 102), (tm 110)] [[], []]), xo 112 (qx 1 (tm 100) (tm 101)), xn (qs (tm 112) (tm 111))] true []))))))
 (rg [xo 113 (qb .add (tm 72) (ci 1)), xo 72 (qm (tm 113))]))))
def m_impl_Circuit_step_l2 : AC :=
 (.seq (rg [xo 49 (qb .lss (tm 48) (tm 47))])
 (.seq (.cond (tm 49)
  .skip
  (.exit 2))
 (.seq (.block 3 (.seq (rg [xo 50 (qm (tm 48)), xo 51 (qx 4 (tm 46) (tm 48)), xo 52 (.i (.ld false 4 (tm 51))), xo 15 (.i (.alloc 57 [(.int .i64 0), (.int .i64 0), (.int .i64 0), (.int .i64 0)])), xo 14 (qm (tm 50)), xn (.st false 4 (tm 15) (tm 52))])
 (.seq (rg [xo 53 (qf 0 (tm 15)), xo 54 (ql (tm 53)), xo 55 (qb .eql (tm 54) (ci 1))])
 (.cond (tm 55)
  (rg [xo 56 (qm (tm 10)), xo 57 (qm (tm 14)), xo 58 (qm (tm 3)), xo 59 (qf 3 (tm 15)), xo 60 (ql (tm 59)), xo 61 (qx 1 (tm 58) (tm 60)), xo 62 (ql (tm 61)), xo 63 (qx 1 (tm 56) (tm 57)), xn (qs (tm 63) (tm 62))])
  .skip))))
 (rg [xo 64 (qb .add (tm 48) (ci 1)), xo 48 (qm (tm 64))]))))
def m_impl_Circuit_step_l1 : AC :=
 (.seq (rg [xo 33 (qb .lss (tm 32) (tm 31))])
 (.seq (.cond (tm 33)
  .skip
  (.exit 0))
 (.seq (.block 1 (.seq (rg [xo 34 (qm (tm 32)), xo 35 (qx 1 (tm 30) (tm 32)), xo 36 (ql (tm 35)), xo 12 (qm (tm 34)), xo 13 (qm (tm 36))])
 (rg [xo 37 (qm (tm 10)), xo 38 (qm (tm 13)), xo 39 (qm (tm 2)), xo 40 (qm (tm 12)), xo 41 (qx 1 (tm 39) (tm 40)), xo 42 (ql (tm 41)), xo 43 (qx 1 (tm 37) (tm 38)), xn (qs (tm 43) (tm 42))])))
 (rg [xo 44 (qb .add (tm 32) (ci 1)), xo 32 (qm (tm 44))]))))
def m_impl_Circuit_step : AC :=
 (.seq (rg [xo 4 (.i (.box 34 (tm 0))), xo 8 (qm (.cst .nils)), xo 9 (qm (.cst .nils))])
 (.seq (rg [xo 24 (qf 1 (tm 4)), xo 25 (ql (tm 24)), xo 26 (.i (.len (tm 25))), xo 27 (qc 47 [(tm 26)] [[]]), xo 10 (qm (tm 27))])
 (.seq (rg [xo 28 (.i (.ld false 3 (tm 4))), ⟨(some 29), none, (qc 44 [(tm 28)] [[none, (some (.pair .int (.pair .int (.pair .int .int)))), (some .int)]])⟩, xo 11 (qm (tm 29))])
 (.seq (.seq (rg [xo 30 (qm (tm 11)), xo 31 (.i (.len (tm 30))), xo 32 (qm (ci 0))])
 (.block 0 (.loop m_impl_Circuit_step_l1)))
 (.seq (.seq (rg [xo 45 (qf 1 (tm 4)), xo 46 (ql (tm 45)), xo 47 (.i (.len (tm 46))), xo 48 (qm (ci 0))])
 (.block 2 (.loop m_impl_Circuit_step_l2)))
 (.seq (rg [xo 66 (.i (.ld false 3 (tm 4))), ⟨(some 67), none, (qc 43 [(tm 66)] [[none, (some (.pair .int (.pair .int (.pair .int .int)))), (some .int)]])⟩, xo 65 (qm (tm 67)), xo 68 (.i (.extr 0 (tm 65))), xo 69 (.i (.extr 1 (tm 65))), xo 16 (qm (tm 68)), xo 17 (qm (tm 69))])
 (.seq (.seq (rg [xo 70 (qm (tm 16)), xo 71 (.i (.len (tm 70))), xo 72 (qm (ci 0))])
 (.block 4 (.loop m_impl_Circuit_step_l3)))
 (.seq (rg [xo 114 (.mkS 3 .int []), xo 21 (qm (tm 114))])
 (.seq (.seq (rg [xo 115 (qm (tm 11)), xo 116 (.i (.len (tm 115))), xo 117 (qm (ci 0))])
 (.block 6 (.loop m_impl_Circuit_step_l4)))
 (.seq (rg [xo 134 (qm (tm 21)), xo 135 (qm (tm 10)), xo 136 (qf 2 (tm 4)), xo 137 (ql (tm 136)), xo 138 (qc 63 [(tm 135), (tm 137)] [[(some .int)], [(some .int)]]), xo 8 (qm (tm 134)), xo 9 (qm (tm 138))])
 .ret))))))))))
def r_impl_Circuit_step : List Res := [.tmp 8, .tmp 9]
theorem c_impl_Circuit_step : compiled Tryd.prog Tryd.f45 = some (m_impl_Circuit_step, r_impl_Circuit_step) := by kernel_rfl
theorem hb_impl_Circuit_step : hasBody Tryd.prog 45 = true := by kernel_rfl
def L_impl_Circuit_step_l1 (y5 : List Int) (a2 : List Int) (l8_m32 : Nat) (l8_m10 : List Int) : Option (Ctl (Nat × List Int) (List Int)) :=
 cond (decide (((l8_m32 : Nat) : Int) < ((y5.length : Nat) : Int)))
 (Option.bind (y5[l8_m32]?) fun x14 =>
 Option.bind (a2[l8_m32]?) fun x15 =>
 Option.bind (getI l8_m10 x14) fun x16 =>
 og (l8_m32 + 1 < 4611686018427387904) <|
 some (Ctl.next (l8_m32 + 1, l8_m10.set x14.toNat x15)))
 (some (Ctl.out l8_m10))
def L_impl_Circuit_step_l2 (a0_1 : List (Int × Int × Int × Int)) (a3 : List Int) (l20_m48 : Nat) (l20_m10 : List Int) : Option (Ctl (Nat × List Int) (List Int)) :=
 cond (decide (((l20_m48 : Nat) : Int) < ((a0_1.length : Nat) : Int)))
 (Option.bind (Option.bind (a0_1[l20_m48]?) fun x26 =>
  cond (x26.1 == 1)
   (Option.bind (getI a3 x26.2.2.2) fun x29 =>
   Option.bind (l20_m10[l20_m48]?) fun x30 =>
   some (l20_m10.set l20_m48 x29))
   (some l20_m10)) fun l24_m10 =>
 og (l20_m48 + 1 < 4611686018427387904) <|
 some (Ctl.next (l20_m48 + 1, l24_m10)))
 (some (Ctl.out l20_m10))
def L_impl_Circuit_step_l3 (y33 : List Int × Bool) (a0_1 : List (Int × Int × Int × Int)) (a1 : Int) (l36_m72 : Nat) (l36_m10 : List Int) : Option (Ctl (Nat × List Int) (List Int)) :=
 cond (decide (((l36_m72 : Nat) : Int) < ((y33.1.length : Nat) : Int)))
 (Option.bind (Option.bind (y33.1[l36_m72]?) fun x42 =>
  Option.bind (getI a0_1 x42) fun x44 =>
  cond (x44.1 == 3)
   (Option.bind (getI l36_m10 x44.2.1) fun x47 =>
   Option.bind (getI l36_m10 x44.2.2.1) fun x48 =>
   Option.bind (L_impl_mod a1 (IntKind.i64.wrap (x47 + x48))) fun y49 =>
   Option.bind (getI l36_m10 x42) fun x50 =>
   some (l36_m10.set x42.toNat y49))
   (Option.bind (getI l36_m10 x44.2.1) fun x51 =>
   Option.bind (L_impl_mod a1 (IntKind.i64.wrap (x44.2.2.2 * x51))) fun y52 =>
   Option.bind (getI l36_m10 x42) fun x53 =>
   some (l36_m10.set x42.toNat y52))) fun l40_m10 =>
 og (l36_m72 + 1 < 4611686018427387904) <|
 some (Ctl.next (l36_m72 + 1, l40_m10)))
 (some (Ctl.out l36_m10))
def L_impl_Circuit_step_l4 (y5 : List Int) (a0_1 : List (Int × Int × Int × Int)) (l34_m10 : List Int) (l58_m117 : Nat) (l58_m21 : List Int) : Option (Ctl (Nat × List Int) (List Int)) :=
 cond (decide (((l58_m117 : Nat) : Int) < ((y5.length : Nat) : Int)))
 (Option.bind (y5[l58_m117]?) fun x64 =>
 Option.bind (getI a0_1 x64) fun x65 =>
 Option.bind (getI l34_m10 x65.2.1) fun x66 =>
 og (l58_m21.length + 1 ≤ 1073741824 ∧ (l58_m21.length + 1) * 8 ≤ 140737488355328) <|
 og (l58_m117 + 1 < 4611686018427387904) <|
 some (Ctl.next (l58_m117 + 1, l58_m21 ++ ([x66]))))
 (some (Ctl.out l58_m21))
def L_impl_Circuit_step (a0_0 : Int) (a0_1 : List (Int × Int × Int × Int)) (a0_2 : List Int) (a1 : Int) (a2 : List Int) (a3 : List Int) : Option (List Int × List Int) :=
 Option.bind (L_impl_zeros ((a0_1.length : Nat) : Int)) fun y3 =>
Option.bind (L_impl_Circuit_delays a0_0 a0_1 a0_2) fun y5 =>
Option.bind (loopM (fun s_ : Nat × List Int => L_impl_Circuit_step_l1 y5 a2 s_.1 s_.2) 4611686018427387904 (0, y3)) fun l6_m10 =>
Option.bind (loopM (fun s_ : Nat × List Int => L_impl_Circuit_step_l2 a0_1 a3 s_.1 s_.2) 4611686018427387904 (0, l6_m10)) fun l18_m10 =>
Option.bind (L_impl_Circuit_schedule a0_0 a0_1 a0_2) fun y33 =>
Option.bind (loopM (fun s_ : Nat × List Int => L_impl_Circuit_step_l3 y33 a0_1 a1 s_.1 s_.2) 4611686018427387904 (0, l18_m10)) fun l34_m10 =>
Option.bind (loopM (fun s_ : Nat × List Int => L_impl_Circuit_step_l4 y5 a0_1 l34_m10 s_.1 s_.2) 4611686018427387904 (0, [])) fun l56_m21 =>
Option.bind (L_impl_chosen l34_m10 a0_2) fun y70 =>
some (l56_m21, y70)
def rv_impl_Circuit_step (r : List Int × List Int) : RV := ⟨true, [(false, [.new 3 .int r.1]), (false, [.new 3 .int r.2])]⟩
theorem ok_impl_Circuit_step {a0_0 : Int} {a0_1 : List (Int × Int × Int × Int)} {a0_2 : List Int} {a1 : Int} {a2 : List Int} {a3 : List Int} {r : List Int × List Int} (h : L_impl_Circuit_step a0_0 a0_1 a0_2 a1 a2 a3 = some r) : CallOK Tryd.prog Tab 45 [(.agg [(ai a0_0), (.tree (.pair .int (.pair .int (.pair .int .int))) a0_1), (.tree .int a0_2)]), (ai a1), (.tree .int a2), (.tree .int a3)] (rv_impl_Circuit_step r) := by
 refine call_of_ (by kernel_rfl) Tryd.func45 c_impl_Circuit_step (n := 139) (by kernel_rfl) (by simp) (tl := [(0, (.agg [(ai a0_0), (.tree (.pair .int (.pair .int (.pair .int .int))) a0_1), (.tree .int a0_2)])), (1, (ai a1)), (2, (.tree .int a2)), (3, (.tree .int a3))]) rfl ?_
 unfold m_impl_Circuit_step
 unfold L_impl_Circuit_step at h
 refine seqR ?_
 refine awp_seqv_ ?_
 obtain ⟨y3, h3, h⟩ := ob_some h
 refine awp_region_ 9 ?_
 refine rs0 (.box (oi 4 1) 1) (by kernel_rfl) ?_
 refine rsl (.tree (.pair .int (.pair .int (.pair .int .int))) a0_1) (by kernel_rfl) ?_
 refine rs0 (ai ((a0_1.length : Nat) : Int)) (by kernel_rfl) ?_
 refine rcall (.own (oi 432 7) .int 0 y3.length) [((oi 432 7), some (.arr 3 .int y3))] [(ai ((a0_1.length : Nat) : Int))] _ (caps := []) (args0 := [(ai ((a0_1.length : Nat) : Int))]) trivial (by kernel_rfl) (ok_impl_zeros h3) hb_impl_zeros ?_
 refine rsB 1 ?_
 refine rnil (tn_ ?_)
 refine ⟨_, Weak.refl _, ?_⟩
 refine awp_seqv_ ?_
 obtain ⟨y5, h5, h⟩ := ob_some h
 refine awp_region_ 12 ?_
 refine rsl (.agg [(ai a0_0), (.tree (.pair .int (.pair .int (.pair .int .int))) a0_1), (.tree .int a0_2)]) (by kernel_rfl) ?_
 refine rcall (.own (oi 464 10) .int 0 y5.length) [((oi 464 10), some (.arr 3 .int y5))] [(.agg [(ai a0_0), (.tree (.pair .int (.pair .int (.pair .int .int))) a0_1), (.tree .int a0_2)])] _ (caps := []) (args0 := [(.agg [(ai a0_0), (.tree (.pair .int (.pair .int (.pair .int .int))) a0_1), (.tree .int a0_2)])]) trivial (by kernel_rfl) (ok_impl_Circuit_delays h5) hb_impl_Circuit_delays ?_
 refine rsB 1 ?_
 refine rnil (tn_ ?_)
 refine ⟨_, Weak.refl _, ?_⟩
 refine awp_seqB h (fun (l6_m10 : List Int) S_ => S_ = ⟨mkTm [(1, (ai a1)), (3, (.tree .int a3)), (4, (.box (oi 0 1) 0)), (10, (.own (oi 1 1) .int 0 l6_m10.length)), (11, (.own (oi 2 1) .int 0 y5.length))], mkOb (someL [((oi 0 1), .cells 34 [(ai a0_0), (.tree (.pair .int (.pair .int (.pair .int .int))) a0_1), (.tree .int a0_2)]), ((oi 1 1), .arr 3 .int l6_m10), ((oi 2 1), .arr 3 .int y5)]), 2⟩) ?_ ?_
 ·intro v_ h
  refine seqR ?_
  refine awp_block_ ?_
  refine awp_loopL h (fun t_ S_ => ∃ (l8_m32 : Nat), ∃ (l8_m10 : List Int), t_ = (l8_m32, l8_m10) ∧ S_ = ⟨mkTm [(1, (ai a1)), (2, (.tree .int a2)), (3, (.tree .int a3)), (4, (.box (oi 0 1) 0)), (10, (.own (oi 1 1) .int 0 l8_m10.length)), (11, (.own (oi 2 1) .int 0 y5.length)), (30, (.own (oi 2 1) .int 0 y5.length)), (31, (ai ((y5.length : Nat) : Int))), (32, (ai ((l8_m32 : Nat) : Int)))], mkOb (someL [((oi 0 1), .cells 34 [(ai a0_0), (.tree (.pair .int (.pair .int (.pair .int .int))) a0_1), (.tree .int a0_2)]), ((oi 1 1), .arr 3 .int l8_m10), ((oi 2 1), .arr 3 .int y5)]), 2⟩) ⟨_, (weak_ren [((oi 0 1), (oi 4 1)), ((oi 1 1), (oi 432 7)), ((oi 2 1), (oi 464 10))]), ⟨0, y3, rfl, rfl⟩⟩ ?_
  rintro n_ _ _ c_ ⟨l8_m32, l8_m10, rfl, rfl⟩ h hn8
  (try dsimp only at h)
  unfold L_impl_Circuit_step_l1 at h
  unfold m_impl_Circuit_step_l1
  refine seqR ?_
  refine awp_seqv_ ?_
  rcases cond_some h with ⟨q11, h⟩ | ⟨q11, h⟩
  ·have q11_ := of_decide_eq_true q11
   refine awp_condT_ q11 ?_
   refine awp_skip_ (tn_ ?_)
   refine ⟨_, Weak.refl _, ?_⟩
   refine awp_seqv_ ?_
   refine awp_block_ ?_
   refine awp_seqv_ ?_
   obtain ⟨x14, e14, h⟩ := ob_some h
   refine awp_region_ 8 ?_
   refine rs0 (ai ((l8_m32 : Nat) : Int)) (by kernel_rfl) ?_
   refine rs0 (.elt (oi 2 1) l8_m32 0) (s_idxO (t := .int) (o := (oi 2 1)) (len := y5.length) (k := .i64) (m := ((l8_m32 : Nat) : Int)) (by kernel_rfl) (by kernel_rfl) rfl (nat_nn _) rfl (getN_lt e14)) ?_
   refine rsl (ai x14) (s_ldE (i := (oi 2 1)) (j := l8_m32) (k := 0) (e := 3) (t := .int) (xs := y5) (by kernel_rfl) (by kernel_rfl) e14 (by kernel_rfl)) ?_
   refine rsB 2 ?_
   refine rnil (tn_ ?_)
   refine ⟨_, Weak.refl _, ?_⟩
   obtain ⟨x15, e15, h⟩ := ob_some h
   obtain ⟨x16, f16, h⟩ := ob_some h
   obtain ⟨p16, b16, e16⟩ := getI_some f16
   refine awp_region_ 16 ?_
   refine rs0 (.own (oi 1 1) .int 0 l8_m10.length) (by kernel_rfl) ?_
   refine rs0 (ai x14) (by kernel_rfl) ?_
   refine rs0 (.tree .int a2) (by kernel_rfl) ?_
   refine rs0 (ai ((l8_m32 : Nat) : Int)) (by kernel_rfl) ?_
   refine rs0 (.telt .int x15 0) (s_idxT (t := .int) (xs := a2) (k := .i64) (m := ((l8_m32 : Nat) : Int)) (by kernel_rfl) (by kernel_rfl) rfl (nat_nn _) rfl e15) ?_
   refine rs0 (ai x15) (by kernel_rfl) ?_
   refine rs0 (.elt (oi 1 1) x14.toNat 0) (s_idxO (t := .int) (o := (oi 1 1)) (len := l8_m10.length) (k := .i64) (m := x14) (by kernel_rfl) (by kernel_rfl) rfl p16 rfl (getN_lt e16)) ?_
   refine rsn2 (oi 1 1) (oi 1 1) (.arr 3 .int (l8_m10.set x14.toNat x15)) (s_stE (i := (oi 1 1)) (j := x14.toNat) (k := 0) (e := 3) (t := .int) (xs := l8_m10) (cs := [(ai x15)]) (x1 := x15) (by kernel_rfl) (by kernel_rfl) e16 (by kernel_rfl) (by kernel_rfl)) ?_
   refine rnil (bn_ (tn_ ?_))
   refine ⟨_, Weak.refl _, ?_⟩
   obtain ⟨g17, h⟩ := og_some h
   refine awp_region_ 18 ?_
   refine rs0 (ai ((l8_m32 + 1 : Nat) : Int)) (s_add1 (j := l8_m32) (by kernel_rfl) (by kernel_rfl) g17) ?_
   refine rsB 1 ?_
   refine rnil (tn_ ?_)
   obtain rfl := Option.some.inj h
   exact ⟨(l8_m32 + 1, l8_m10.set x14.toNat x15), _, ((weak_tm_ 10 (.own (oi 1 1) .int 0 l8_m10.length) (.own (oi 1 1) .int 0 ((l8_m10.set x14.toNat x15).length)) (by kernel_rfl) (congrArg (fun z_ => ((.own (oi 1 1) .int 0 z_) : AV)) (((rfl : l8_m10.length = l8_m10.length).trans List.length_set.symm) : l8_m10.length = (l8_m10.set x14.toNat x15).length))).trans (weak_ren [])), ⟨l8_m32 + 1, l8_m10.set x14.toNat x15, rfl, rfl⟩, hn8⟩
  have q11_ := of_decide_eq_false q11
  refine awp_condF_ q11 ?_
  refine awp_exit_ (te_ (te_ (be_ (tn_ ?_))))
  obtain rfl := Option.some.inj h
  have h := hn8
  (try dsimp only at h)
  obtain rfl := Option.some.inj h
  exact ⟨_, (weak_ren []), rfl⟩
 rintro l6_m10 _ rfl h
 (try dsimp only at h)
 refine awp_seqB h (fun (l18_m10 : List Int) S_ => S_ = ⟨mkTm [(1, (ai a1)), (4, (.box (oi 0 1) 0)), (10, (.own (oi 1 1) .int 0 l18_m10.length)), (11, (.own (oi 2 1) .int 0 y5.length))], mkOb (someL [((oi 0 1), .cells 34 [(ai a0_0), (.tree (.pair .int (.pair .int (.pair .int .int))) a0_1), (.tree .int a0_2)]), ((oi 1 1), .arr 3 .int l18_m10), ((oi 2 1), .arr 3 .int y5)]), 2⟩) ?_ ?_
 ·intro v_ h
  refine seqR ?_
  refine awp_block_ ?_
  refine awp_loopL h (fun t_ S_ => ∃ (l20_m48 : Nat), ∃ (l20_m10 : List Int), t_ = (l20_m48, l20_m10) ∧ S_ = ⟨mkTm [(1, (ai a1)), (3, (.tree .int a3)), (4, (.box (oi 0 1) 0)), (10, (.own (oi 1 1) .int 0 l20_m10.length)), (11, (.own (oi 2 1) .int 0 y5.length)), (46, (.tree (.pair .int (.pair .int (.pair .int .int))) a0_1)), (47, (ai ((a0_1.length : Nat) : Int))), (48, (ai ((l20_m48 : Nat) : Int)))], mkOb (someL [((oi 0 1), .cells 34 [(ai a0_0), (.tree (.pair .int (.pair .int (.pair .int .int))) a0_1), (.tree .int a0_2)]), ((oi 1 1), .arr 3 .int l20_m10), ((oi 2 1), .arr 3 .int y5)]), 2⟩) ⟨_, (weak_ren []), ⟨0, l6_m10, rfl, rfl⟩⟩ ?_
  rintro n_ _ _ c_ ⟨l20_m48, l20_m10, rfl, rfl⟩ h hn20
  (try dsimp only at h)
  unfold L_impl_Circuit_step_l2 at h
  unfold m_impl_Circuit_step_l2
  refine seqR ?_
  refine awp_seqv_ ?_
  rcases cond_some h with ⟨q23, h⟩ | ⟨q23, h⟩
  ·have q23_ := of_decide_eq_true q23
   refine awp_condT_ q23 ?_
   refine awp_skip_ (tn_ ?_)
   refine ⟨_, Weak.refl _, ?_⟩
   refine awp_seqB h (fun (l24_m10 : List Int) S_ => S_ = ⟨mkTm [(1, (ai a1)), (3, (.tree .int a3)), (4, (.box (oi 0 1) 0)), (10, (.own (oi 1 1) .int 0 l24_m10.length)), (11, (.own (oi 2 1) .int 0 y5.length)), (46, (.tree (.pair .int (.pair .int (.pair .int .int))) a0_1)), (47, (ai ((a0_1.length : Nat) : Int))), (48, (ai ((l20_m48 : Nat) : Int)))], mkOb (someL [((oi 0 1), .cells 34 [(ai a0_0), (.tree (.pair .int (.pair .int (.pair .int .int))) a0_1), (.tree .int a0_2)]), ((oi 1 1), .arr 3 .int l24_m10), ((oi 2 1), .arr 3 .int y5)]), 2⟩) ?_ ?_
   ·intro v_ h
    refine awp_block_ ?_
    refine awp_seqv_ ?_
    obtain ⟨x26, e26, h⟩ := ob_some h
    refine awp_region_ 9 ?_
    refine rs0 (ai ((l20_m48 : Nat) : Int)) (by kernel_rfl) ?_
    refine rs0 (.telt (.pair .int (.pair .int (.pair .int .int))) x26 0) (s_idxT (t := (.pair .int (.pair .int (.pair .int .int)))) (xs := a0_1) (k := .i64) (m := ((l20_m48 : Nat) : Int)) (by kernel_rfl) (by kernel_rfl) rfl (nat_nn _) rfl e26) ?_
    refine rsB 4 ?_
    refine rnil (tn_ ?_)
    refine ⟨_, Weak.refl _, ?_⟩
    refine seqR ?_
    rcases cond_some h with ⟨q28, h⟩ | ⟨q28, h⟩
    ·refine awp_condT_ q28 ?_
     obtain ⟨x29, f29, h⟩ := ob_some h
     obtain ⟨p29, b29, e29⟩ := getI_some f29
     obtain ⟨x30, e30, h⟩ := ob_some h
     refine awp_region_ 21 ?_
     refine rs0 (.own (oi 1 1) .int 0 l20_m10.length) (by kernel_rfl) ?_
     refine rs0 (ai ((l20_m48 : Nat) : Int)) (by kernel_rfl) ?_
     refine rs0 (.tree .int a3) (by kernel_rfl) ?_
     refine rs0 (.box (oi 15 6) 3) (by kernel_rfl) ?_
     refine rsl (ai x26.2.2.2) (by kernel_rfl) ?_
     refine rs0 (.telt .int x29 0) (s_idxT (t := .int) (xs := a3) (k := .i64) (m := x26.2.2.2) (by kernel_rfl) (by kernel_rfl) rfl p29 rfl e29) ?_
     refine rs0 (ai x29) (by kernel_rfl) ?_
     refine rs0 (.elt (oi 1 1) l20_m48 0) (s_idxO (t := .int) (o := (oi 1 1)) (len := l20_m10.length) (k := .i64) (m := ((l20_m48 : Nat) : Int)) (by kernel_rfl) (by kernel_rfl) rfl (nat_nn _) rfl (getN_lt e30)) ?_
     refine rsn2 (oi 1 1) (oi 1 1) (.arr 3 .int (l20_m10.set l20_m48 x29)) (s_stE (i := (oi 1 1)) (j := l20_m48) (k := 0) (e := 3) (t := .int) (xs := l20_m10) (cs := [(ai x29)]) (x1 := x29) (by kernel_rfl) (by kernel_rfl) e30 (by kernel_rfl) (by kernel_rfl)) ?_
     refine rnil (bn_ (tn_ ?_))
     obtain rfl := Option.some.inj h
     exact ⟨_, ((weak_tm_ 10 (.own (oi 1 1) .int 0 l20_m10.length) (.own (oi 1 1) .int 0 ((l20_m10.set l20_m48 x29).length)) (by kernel_rfl) (congrArg (fun z_ => ((.own (oi 1 1) .int 0 z_) : AV)) (((rfl : l20_m10.length = l20_m10.length).trans List.length_set.symm) : l20_m10.length = (l20_m10.set l20_m48 x29).length))).trans (weak_ren [])), rfl⟩
    refine awp_condF_ q28 ?_
    refine awp_skip_ (bn_ (tn_ ?_))
    obtain rfl := Option.some.inj h
    exact ⟨_, (weak_ren []), rfl⟩
   rintro l24_m10 _ rfl h
   (try dsimp only at h)
   obtain ⟨g31, h⟩ := og_some h
   refine awp_region_ 4 ?_
   refine rs0 (ai ((l20_m48 + 1 : Nat) : Int)) (s_add1 (j := l20_m48) (by kernel_rfl) (by kernel_rfl) g31) ?_
   refine rsB 1 ?_
   refine rnil (tn_ ?_)
   obtain rfl := Option.some.inj h
   exact ⟨(l20_m48 + 1, l24_m10), _, (weak_ren []), ⟨l20_m48 + 1, l24_m10, rfl, rfl⟩, hn20⟩
  have q23_ := of_decide_eq_false q23
  refine awp_condF_ q23 ?_
  refine awp_exit_ (te_ (te_ (be_ (tn_ ?_))))
  obtain rfl := Option.some.inj h
  have h := hn20
  (try dsimp only at h)
  obtain rfl := Option.some.inj h
  exact ⟨_, (weak_ren []), rfl⟩
 rintro l18_m10 _ rfl h
 (try dsimp only at h)
 refine awp_seqv_ ?_
 obtain ⟨y33, h33, h⟩ := ob_some h
 refine awp_region_ 9 ?_
 refine rsl (.agg [(ai a0_0), (.tree (.pair .int (.pair .int (.pair .int .int))) a0_1), (.tree .int a0_2)]) (by kernel_rfl) ?_
 refine rcall (.tup [(.own (oi 1072 3) .int 0 y33.1.length), (.bool y33.2)]) [((oi 1072 3), some (.arr 3 .int y33.1))] [(.agg [(ai a0_0), (.tree (.pair .int (.pair .int (.pair .int .int))) a0_1), (.tree .int a0_2)])] _ (caps := []) (args0 := [(.agg [(ai a0_0), (.tree (.pair .int (.pair .int (.pair .int .int))) a0_1), (.tree .int a0_2)])]) trivial (by kernel_rfl) (ok_impl_Circuit_schedule h33) hb_impl_Circuit_schedule ?_
 refine rsB 5 ?_
 refine rnil (tn_ ?_)
 refine ⟨_, Weak.refl _, ?_⟩
 refine awp_seqB h (fun (l34_m10 : List Int) S_ => S_ = ⟨mkTm [(4, (.box (oi 0 1) 0)), (10, (.own (oi 1 1) .int 0 l34_m10.length)), (11, (.own (oi 2 1) .int 0 y5.length))], mkOb (someL [((oi 0 1), .cells 34 [(ai a0_0), (.tree (.pair .int (.pair .int (.pair .int .int))) a0_1), (.tree .int a0_2)]), ((oi 1 1), .arr 3 .int l34_m10), ((oi 2 1), .arr 3 .int y5)]), 2⟩) ?_ ?_
 ·intro v_ h
  refine seqR ?_
  refine awp_block_ ?_
  refine awp_loopL h (fun t_ S_ => ∃ (l36_m72 : Nat), ∃ (l36_m10 : List Int), t_ = (l36_m72, l36_m10) ∧ S_ = ⟨mkTm [(1, (ai a1)), (4, (.box (oi 0 1) 0)), (10, (.own (oi 1 1) .int 0 l36_m10.length)), (11, (.own (oi 2 1) .int 0 y5.length)), (70, (.own (oi 3 1) .int 0 y33.1.length)), (71, (ai ((y33.1.length : Nat) : Int))), (72, (ai ((l36_m72 : Nat) : Int)))], mkOb (someL [((oi 0 1), .cells 34 [(ai a0_0), (.tree (.pair .int (.pair .int (.pair .int .int))) a0_1), (.tree .int a0_2)]), ((oi 1 1), .arr 3 .int l36_m10), ((oi 2 1), .arr 3 .int y5), ((oi 3 1), .arr 3 .int y33.1)]), 2⟩) ⟨_, (weak_ren [((oi 3 1), (oi 1072 3))]), ⟨0, l18_m10, rfl, rfl⟩⟩ ?_
  rintro n_ _ _ c_ ⟨l36_m72, l36_m10, rfl, rfl⟩ h hn36
  (try dsimp only at h)
  unfold L_impl_Circuit_step_l3 at h
  unfold m_impl_Circuit_step_l3
  refine seqR ?_
  refine awp_seqv_ ?_
  rcases cond_some h with ⟨q39, h⟩ | ⟨q39, h⟩
  ·have q39_ := of_decide_eq_true q39
   refine awp_condT_ q39 ?_
   refine awp_skip_ (tn_ ?_)
   refine ⟨_, Weak.refl _, ?_⟩
   refine awp_seqB h (fun (l40_m10 : List Int) S_ => S_ = ⟨mkTm [(1, (ai a1)), (4, (.box (oi 0 1) 0)), (10, (.own (oi 1 1) .int 0 l40_m10.length)), (11, (.own (oi 2 1) .int 0 y5.length)), (70, (.own (oi 3 1) .int 0 y33.1.length)), (71, (ai ((y33.1.length : Nat) : Int))), (72, (ai ((l36_m72 : Nat) : Int)))], mkOb (someL [((oi 0 1), .cells 34 [(ai a0_0), (.tree (.pair .int (.pair .int (.pair .int .int))) a0_1), (.tree .int a0_2)]), ((oi 1 1), .arr 3 .int l40_m10), ((oi 2 1), .arr 3 .int y5), ((oi 3 1), .arr 3 .int y33.1)]), 2⟩) ?_ ?_
   ·intro v_ h
    refine awp_block_ ?_
    refine awp_seqv_ ?_
    obtain ⟨x42, e42, h⟩ := ob_some h
    refine awp_region_ 6 ?_
    refine rs0 (.elt (oi 3 1) l36_m72 0) (s_idxO (t := .int) (o := (oi 3 1)) (len := y33.1.length) (k := .i64) (m := ((l36_m72 : Nat) : Int)) (by kernel_rfl) (by kernel_rfl) rfl (nat_nn _) rfl (getN_lt e42)) ?_
    refine rsl (ai x42) (s_ldE (i := (oi 3 1)) (j := l36_m72) (k := 0) (e := 3) (t := .int) (xs := y33.1) (by kernel_rfl) (by kernel_rfl) e42 (by kernel_rfl)) ?_
    refine rsB 1 ?_
    refine rnil (tn_ ?_)
    refine ⟨_, Weak.refl _, ?_⟩
    refine awp_seqv_ ?_
    obtain ⟨x44, f44, h⟩ := ob_some h
    obtain ⟨p44, b44, e44⟩ := getI_some f44
    refine awp_region_ 13 ?_
    refine rs0 (.box (oi 0 1) 1) (by kernel_rfl) ?_
    refine rsl (.tree (.pair .int (.pair .int (.pair .int .int))) a0_1) (by kernel_rfl) ?_
    refine rs0 (ai x42) (by kernel_rfl) ?_
    refine rs0 (.telt (.pair .int (.pair .int (.pair .int .int))) x44 0) (s_idxT (t := (.pair .int (.pair .int (.pair .int .int)))) (xs := a0_1) (k := .i64) (m := x42) (by kernel_rfl) (by kernel_rfl) rfl p44 rfl e44) ?_
    refine rsB 3 ?_
    refine rnil (tn_ ?_)
    refine ⟨_, Weak.refl _, ?_⟩
    refine seqR ?_
    rcases cond_some h with ⟨q46, h⟩ | ⟨q46, h⟩
    ·refine awp_condT_ q46 ?_
     obtain ⟨x47, f47, h⟩ := ob_some h
     obtain ⟨p47, b47, e47⟩ := getI_some f47
     obtain ⟨x48, f48, h⟩ := ob_some h
     obtain ⟨p48, b48, e48⟩ := getI_some f48
     obtain ⟨y49, h49, h⟩ := ob_some h
     obtain ⟨x50, f50, h⟩ := ob_some h
     obtain ⟨p50, b50, e50⟩ := getI_some f50
     refine awp_regionD_ 33 ?_
     refine ds0 (.own (oi 1 1) .int 0 l36_m10.length) (by kernel_rfl) ?_
     refine ds0 (ai x42) (by kernel_rfl) ?_
     refine ds0 (ai a1) (by kernel_rfl) ?_
     refine ds0 (.own (oi 1 1) .int 0 l36_m10.length) (by kernel_rfl) ?_
     refine ds0 (.box (oi 20 11) 1) (by kernel_rfl) ?_
     refine dsl (ai x44.2.1) (by kernel_rfl) ?_
     refine ds0 (.elt (oi 1 1) x44.2.1.toNat 0) (s_idxO (t := .int) (o := (oi 1 1)) (len := l36_m10.length) (k := .i64) (m := x44.2.1) (by kernel_rfl) (by kernel_rfl) rfl p47 rfl (getN_lt e47)) ?_
     refine dsl (ai x47) (s_ldE (i := (oi 1 1)) (j := x44.2.1.toNat) (k := 0) (e := 3) (t := .int) (xs := l36_m10) (by kernel_rfl) (by kernel_rfl) e47 (by kernel_rfl)) ?_
     refine ds0 (.own (oi 1 1) .int 0 l36_m10.length) (by kernel_rfl) ?_
     refine ds0 (.box (oi 20 11) 2) (by kernel_rfl) ?_
     refine dsl (ai x44.2.2.1) (by kernel_rfl) ?_
     refine ds0 (.elt (oi 1 1) x44.2.2.1.toNat 0) (s_idxO (t := .int) (o := (oi 1 1)) (len := l36_m10.length) (k := .i64) (m := x44.2.2.1) (by kernel_rfl) (by kernel_rfl) rfl p48 rfl (getN_lt e48)) ?_
     refine dsl (ai x48) (s_ldE (i := (oi 1 1)) (j := x44.2.2.1.toNat) (k := 0) (e := 3) (t := .int) (xs := l36_m10) (by kernel_rfl) (by kernel_rfl) e48 (by kernel_rfl)) ?_
     refine ds0 (ai (IntKind.i64.wrap (x47 + x48))) (by kernel_rfl) ?_
     refine dcall (ai y49) [] [(ai a1), (ai (IntKind.i64.wrap (x47 + x48)))] _ (caps := []) (args0 := [(ai a1), (ai (IntKind.i64.wrap (x47 + x48)))]) trivial (by kernel_rfl) (ok_impl_mod h49) hb_impl_mod ?_
     refine ds0 (.elt (oi 1 1) x42.toNat 0) (s_idxO (t := .int) (o := (oi 1 1)) (len := l36_m10.length) (k := .i64) (m := x42) (by kernel_rfl) (by kernel_rfl) rfl p50 rfl (getN_lt e50)) ?_
     refine dsn2 (oi 1 1) (oi 1 1) (.arr 3 .int (l36_m10.set x42.toNat y49)) (s_stE (i := (oi 1 1)) (j := x42.toNat) (k := 0) (e := 3) (t := .int) (xs := l36_m10) (cs := [(ai y49)]) (x1 := y49) (by kernel_rfl) (by kernel_rfl) e50 (by kernel_rfl) (by kernel_rfl)) ?_
     refine dnil (badB_spec (by kernel_rfl)) (bn_ (tn_ ?_))
     obtain rfl := Option.some.inj h
     exact ⟨_, ((weak_tm_ 10 (.own (oi 1 1) .int 0 l36_m10.length) (.own (oi 1 1) .int 0 ((l36_m10.set x42.toNat y49).length)) (by kernel_rfl) (congrArg (fun z_ => ((.own (oi 1 1) .int 0 z_) : AV)) (((rfl : l36_m10.length = l36_m10.length).trans List.length_set.symm) : l36_m10.length = (l36_m10.set x42.toNat y49).length))).trans (weak_ren [])), rfl⟩
    refine awp_condF_ q46 ?_
    obtain ⟨x51, f51, h⟩ := ob_some h
    obtain ⟨p51, b51, e51⟩ := getI_some f51
    obtain ⟨y52, h52, h⟩ := ob_some h
    obtain ⟨x53, f53, h⟩ := ob_some h
    obtain ⟨p53, b53, e53⟩ := getI_some f53
    refine awp_regionD_ 30 ?_
    refine ds0 (.own (oi 1 1) .int 0 l36_m10.length) (by kernel_rfl) ?_
    refine ds0 (ai x42) (by kernel_rfl) ?_
    refine ds0 (ai a1) (by kernel_rfl) ?_
    refine ds0 (.box (oi 20 11) 3) (by kernel_rfl) ?_
    refine dsl (ai x44.2.2.2) (by kernel_rfl) ?_
    refine ds0 (.own (oi 1 1) .int 0 l36_m10.length) (by kernel_rfl) ?_
    refine ds0 (.box (oi 20 11) 1) (by kernel_rfl) ?_
    refine dsl (ai x44.2.1) (by kernel_rfl) ?_
    refine ds0 (.elt (oi 1 1) x44.2.1.toNat 0) (s_idxO (t := .int) (o := (oi 1 1)) (len := l36_m10.length) (k := .i64) (m := x44.2.1) (by kernel_rfl) (by kernel_rfl) rfl p51 rfl (getN_lt e51)) ?_
    refine dsl (ai x51) (s_ldE (i := (oi 1 1)) (j := x44.2.1.toNat) (k := 0) (e := 3) (t := .int) (xs := l36_m10) (by kernel_rfl) (by kernel_rfl) e51 (by kernel_rfl)) ?_
    refine ds0 (ai (IntKind.i64.wrap (x44.2.2.2 * x51))) (by kernel_rfl) ?_
    refine dcall (ai y52) [] [(ai a1), (ai (IntKind.i64.wrap (x44.2.2.2 * x51)))] _ (caps := []) (args0 := [(ai a1), (ai (IntKind.i64.wrap (x44.2.2.2 * x51)))]) trivial (by kernel_rfl) (ok_impl_mod h52) hb_impl_mod ?_
    refine ds0 (.elt (oi 1 1) x42.toNat 0) (s_idxO (t := .int) (o := (oi 1 1)) (len := l36_m10.length) (k := .i64) (m := x42) (by kernel_rfl) (by kernel_rfl) rfl p53 rfl (getN_lt e53)) ?_
    refine dsn2 (oi 1 1) (oi 1 1) (.arr 3 .int (l36_m10.set x42.toNat y52)) (s_stE (i := (oi 1 1)) (j := x42.toNat) (k := 0) (e := 3) (t := .int) (xs := l36_m10) (cs := [(ai y52)]) (x1 := y52) (by kernel_rfl) (by kernel_rfl) e53 (by kernel_rfl) (by kernel_rfl)) ?_
    refine dnil (badB_spec (by kernel_rfl)) (bn_ (tn_ ?_))
    obtain rfl := Option.some.inj h
    exact ⟨_, ((weak_tm_ 10 (.own (oi 1 1) .int 0 l36_m10.length) (.own (oi 1 1) .int 0 ((l36_m10.set x42.toNat y52).length)) (by kernel_rfl) (congrArg (fun z_ => ((.own (oi 1 1) .int 0 z_) : AV)) (((rfl : l36_m10.length = l36_m10.length).trans List.length_set.symm) : l36_m10.length = (l36_m10.set x42.toNat y52).length))).trans (weak_ren [])), rfl⟩
   rintro l40_m10 _ rfl h
   (try dsimp only at h)
   obtain ⟨g54, h⟩ := og_some h
   refine awp_region_ 4 ?_
   refine rs0 (ai ((l36_m72 + 1 : Nat) : Int)) (s_add1 (j := l36_m72) (by kernel_rfl) (by kernel_rfl) g54) ?_
   refine rsB 1 ?_
   refine rnil (tn_ ?_)
   obtain rfl := Option.some.inj h
   exact ⟨(l36_m72 + 1, l40_m10), _, (weak_ren []), ⟨l36_m72 + 1, l40_m10, rfl, rfl⟩, hn36⟩
  have q39_ := of_decide_eq_false q39
  refine awp_condF_ q39 ?_
  refine awp_exit_ (te_ (te_ (be_ (tn_ ?_))))
  obtain rfl := Option.some.inj h
  have h := hn36
  (try dsimp only at h)
  obtain rfl := Option.some.inj h
  exact ⟨_, (weak_ren []), rfl⟩
 rintro l34_m10 _ rfl h
 (try dsimp only at h)
 refine seqR ?_
 refine awp_seqB h (fun (l56_m21 : List Int) S_ => S_ = ⟨mkTm [(4, (.box (oi 0 1) 0)), (10, (.own (oi 1 1) .int 0 l34_m10.length)), (21, (.own (oi 2 1) .int 0 l56_m21.length))], mkOb (someL [((oi 0 1), .cells 34 [(ai a0_0), (.tree (.pair .int (.pair .int (.pair .int .int))) a0_1), (.tree .int a0_2)]), ((oi 1 1), .arr 3 .int l34_m10), ((oi 2 1), .arr 3 .int l56_m21)]), 2⟩) ?_ ?_
 ·intro v_ h
  refine seqR ?_
  refine awp_block_ ?_
  refine awp_loopL h (fun t_ S_ => ∃ (l58_m117 : Nat), ∃ (l58_m21 : List Int), t_ = (l58_m117, l58_m21) ∧ S_ = ⟨mkTm [(4, (.box (oi 0 1) 0)), (10, (.own (oi 1 1) .int 0 l34_m10.length)), (21, (.own (oi 2 1) .int 0 l58_m21.length)), (115, (.own (oi 3 1) .int 0 y5.length)), (116, (ai ((y5.length : Nat) : Int))), (117, (ai ((l58_m117 : Nat) : Int)))], mkOb (someL [((oi 0 1), .cells 34 [(ai a0_0), (.tree (.pair .int (.pair .int (.pair .int .int))) a0_1), (.tree .int a0_2)]), ((oi 1 1), .arr 3 .int l34_m10), ((oi 2 1), .arr 3 .int l58_m21), ((oi 3 1), .arr 3 .int y5)]), 2⟩) ⟨_, (weak_ren [((oi 2 1), (oi 114 2)), ((oi 3 1), (oi 2 1))]), ⟨0, [], rfl, rfl⟩⟩ ?_
  rintro n_ _ _ c_ ⟨l58_m117, l58_m21, rfl, rfl⟩ h hn58
  (try dsimp only at h)
  unfold L_impl_Circuit_step_l4 at h
  unfold m_impl_Circuit_step_l4
  refine seqR ?_
  refine awp_seqv_ ?_
  rcases cond_some h with ⟨q61, h⟩ | ⟨q61, h⟩
  ·have q61_ := of_decide_eq_true q61
   refine awp_condT_ q61 ?_
   refine awp_skip_ (tn_ ?_)
   refine ⟨_, Weak.refl _, ?_⟩
   refine awp_seqv_ ?_
   refine awp_block_ ?_
   refine awp_seqv_ ?_
   obtain ⟨x64, e64, h⟩ := ob_some h
   refine awp_region_ 6 ?_
   refine rs0 (.elt (oi 3 1) l58_m117 0) (s_idxO (t := .int) (o := (oi 3 1)) (len := y5.length) (k := .i64) (m := ((l58_m117 : Nat) : Int)) (by kernel_rfl) (by kernel_rfl) rfl (nat_nn _) rfl (getN_lt e64)) ?_
   refine rsl (ai x64) (s_ldE (i := (oi 3 1)) (j := l58_m117) (k := 0) (e := 3) (t := .int) (xs := y5) (by kernel_rfl) (by kernel_rfl) e64 (by kernel_rfl)) ?_
   refine rsB 1 ?_
   refine rnil (tn_ ?_)
   refine ⟨_, Weak.refl _, ?_⟩
   obtain ⟨x65, f65, h⟩ := ob_some h
   obtain ⟨p65, b65, e65⟩ := getI_some f65
   obtain ⟨x66, f66, h⟩ := ob_some h
   obtain ⟨p66, b66, e66⟩ := getI_some f66
   obtain ⟨g67, h⟩ := og_some h
   refine awp_region_ 19 ?_
   refine rs0 (.own (oi 2 1) .int 0 l58_m21.length) (by kernel_rfl) ?_
   refine rs0 (.own (oi 1 1) .int 0 l34_m10.length) (by kernel_rfl) ?_
   refine rs0 (.box (oi 0 1) 1) (by kernel_rfl) ?_
   refine rsl (.tree (.pair .int (.pair .int (.pair .int .int))) a0_1) (by kernel_rfl) ?_
   refine rs0 (ai x64) (by kernel_rfl) ?_
   refine rs0 (.telt (.pair .int (.pair .int (.pair .int .int))) x65 0) (s_idxT (t := (.pair .int (.pair .int (.pair .int .int)))) (xs := a0_1) (k := .i64) (m := x64) (by kernel_rfl) (by kernel_rfl) rfl p65 rfl e65) ?_
   refine rs0 (.telt (.pair .int (.pair .int (.pair .int .int))) x65 1) (by kernel_rfl) ?_
   refine rs0 (ai x65.2.1) (by kernel_rfl) ?_
   refine rs0 (.elt (oi 1 1) x65.2.1.toNat 0) (s_idxO (t := .int) (o := (oi 1 1)) (len := l34_m10.length) (k := .i64) (m := x65.2.1) (by kernel_rfl) (by kernel_rfl) rfl p66 rfl (getN_lt e66)) ?_
   refine rsl (ai x66) (s_ldE (i := (oi 1 1)) (j := x65.2.1.toNat) (k := 0) (e := 3) (t := .int) (xs := l34_m10) (by kernel_rfl) (by kernel_rfl) e66 (by kernel_rfl)) ?_
   refine rs1 (.own (oi 131 16) .int 0 1) (oi 131 16) (.arr 3 .int ([x66])) (by kernel_rfl) ?_
   refine rs2 (.own (oi 2 17) .int 0 ((l58_m21 ++ ([x66])).length)) (oi 2 1) (oi 2 17) (.arr 3 .int (l58_m21 ++ ([x66]))) (s_appO (t := .int) (t' := .int) (xs := l58_m21) (ys := [x66]) (zs := l58_m21 ++ ([x66])) (j := (oi 2 1)) (len := l58_m21.length) (c := (.own (oi 131 16) .int 0 1)) (by kernel_rfl) (by kernel_rfl) rfl (by kernel_rfl) (sr_own (e := 3) (by kernel_rfl) rfl) rfl g67) ?_
   refine rsB 1 ?_
   refine rnil (bn_ (tn_ ?_))
   refine ⟨_, Weak.refl _, ?_⟩
   obtain ⟨g68, h⟩ := og_some h
   refine awp_region_ 21 ?_
   refine rs0 (ai ((l58_m117 + 1 : Nat) : Int)) (s_add1 (j := l58_m117) (by kernel_rfl) (by kernel_rfl) g68) ?_
   refine rsB 1 ?_
   refine rnil (tn_ ?_)
   obtain rfl := Option.some.inj h
   exact ⟨(l58_m117 + 1, l58_m21 ++ ([x66])), _, (weak_ren [((oi 2 1), (oi 2 17))]), ⟨l58_m117 + 1, l58_m21 ++ ([x66]), rfl, rfl⟩, hn58⟩
  have q61_ := of_decide_eq_false q61
  refine awp_condF_ q61 ?_
  refine awp_exit_ (te_ (te_ (be_ (tn_ ?_))))
  obtain rfl := Option.some.inj h
  have h := hn58
  (try dsimp only at h)
  obtain rfl := Option.some.inj h
  exact ⟨_, (weak_ren []), rfl⟩
 rintro l56_m21 _ rfl h
 (try dsimp only at h)
 refine awp_seqv_ ?_
 obtain ⟨y70, h70, h⟩ := ob_some h
 refine awp_region_ 9 ?_
 refine rs0 (.own (oi 2 1) .int 0 l56_m21.length) (by kernel_rfl) ?_
 refine rs0 (.own (oi 1 1) .int 0 l34_m10.length) (by kernel_rfl) ?_
 refine rs0 (.box (oi 0 1) 2) (by kernel_rfl) ?_
 refine rsl (.tree .int a0_2) (by kernel_rfl) ?_
 refine rcall (.own (oi 2208 6) .int 0 y70.length) [((oi 2208 6), some (.arr 3 .int y70))] [(.own (oi 1 1) .int 0 l34_m10.length), (.tree .int a0_2)] _ (caps := []) (args0 := [(.tree .int l34_m10), (.tree .int a0_2)]) trivial (gm_cons (gd_own (e := 3) (by kernel_rfl) rfl) (gm_cons (by kernel_rfl) gm_nil)) (ok_impl_chosen h70) hb_impl_chosen ?_
 refine rsB 2 ?_
 refine rnil (tn_ ?_)
 refine ⟨_, Weak.refl _, ?_⟩
 refine awp_ret_ ?_
 obtain rfl := Option.some.inj h
 exact ret_ [(.own (oi 2 1) .int 0 l56_m21.length), (.own (oi 2208 6) .int 0 y70.length)] (p_one rfl (l_own (by kernel_rfl) rfl) (p_one rfl (l_own (by kernel_rfl) rfl) p_nil))
def m_spec_crStep_l4 : AC :=
 (.seq (rg [xo 108 (qb .lss (tm 107) (tm 106))])
 (.seq (.cond (tm 108)
  .skip
  (.exit 6))
 (.seq (.block 7 (.seq (rg [xo 109 (qx 1 (tm 105) (tm 107)), xo 110 (ql (tm 109)), xo 20 (qm (tm 110))])
 (rg [xo 111 (qm (tm 18)), xo 112 (qm (tm 10)), xo 113 (qf 1 (tm 5)), xo 114 (ql (tm 113)), xo 115 (qm (tm 20)), xo 116 (qx 4 (tm 114) (tm 115)), xo 117 (qf 1 (tm 116)), xo 118 (ql (tm 117)), xo 119 (qx 1 (tm 112) (tm 118)), xo 120 (ql (tm 119)), xo 121 (.mkS 3 .int [(tm 120)]), xo 122 (.append 3 .int 8 (tm 111) (tm 121)), xo 18 (qm (tm 122))])))
 (rg [xo 123 (qb .add (tm 107) (ci 1)), xo 107 (qm (tm 123))]))))
def m_spec_crStep_l3 : AC :=
 (.seq (rg [xo 65 (qb .lss (tm 64) (tm 63))])
 (.seq (.cond (tm 65)
  .skip
  (.exit 4))
 (.seq (.block 5 (.seq (rg [xo 66 (qx 1 (tm 62) (tm 64)), xo 67 (ql (tm 66)), xo 16 (qm (tm 67))])
 (.seq (rg [xo 68 (qf 1 (tm 5)), xo 69 (ql (tm 68)), xo 70 (qm (tm 16)), xo 71 (qx 4 (tm 69) (tm 70)), xo 72 (.i (.ld false 4 (tm 71))), xo 17 (.i (.alloc 57 [(.int .i64 0), (.int .i64 0), (.int .i64 0), (.int .i64 0)])), xn (.st false 4 (tm 17) (tm 72))])
 (.seq (rg [xo 73 (qf 0 (tm 17)), xo 74 (ql (tm 73)), xo 75 (qb .eql (tm 74) (ci 3))])
 (.cond (tm 75)
  (.region [xo 76 (qm (tm 10)), xo 77 (qm (tm 16)), xo 78 (qm (tm 0)), xo 79 (qm (tm 10)), xo 80 (qf 1 (tm 17)), xo 81 (ql (tm 80)), xo 82 (qx 1 (tm 79) (tm 81)), xo 83 (ql (tm 82)), xo 84 (qm (tm 10)), xo 85 (qf 2 (tm 17)), xo 86 (ql (tm 85)), xo 87 (qx 1 (tm 84) (tm 86)), xo 88 (ql (tm 87)), xo 89 (qc 51 [(tm 78), (tm 83), (tm 88)] [[], [], []]), xo 90 (qx 1 (tm 76) (tm 77)), xn (qs (tm 90) (tm 89))] true [])
  (.region [xo 91 (qm (tm 10)), xo 92 (qm (tm 16)), xo 93 (qm (tm 0)), xo 94 (qf 3 (tm 17)), xo 95 (ql (tm 94)), xo 96 (qm (tm 10)), xo 97 (qf 1 (tm 17)), xo 98 (ql (tm 97)), xo 99 (qx 1 (tm 96) (tm 98)), xo 100 (ql (tm 99)), xo 101 (qc 52 [(tm 93), (tm 95), (tm 100)] [[], [], []]), xo 102 (qx 1 (tm 91) (tm 92)), xn (qs (tm 102) (tm 101))] true []))))))
 (rg [xo 103 (qb .add (tm 64) (ci 1)), xo 64 (qm (tm 103))]))))
def m_spec_crStep_l2 : AC :=
 (.seq (rg [xo 49 (qb .lss (tm 48) (tm 47))])
 (.seq (.cond (tm 49)
  .skip
  (.exit 2))
 (.seq (.block 3 (.seq (rg [xo 50 (qm (tm 48)), xo 51 (qx 1 (tm 46) (tm 48)), xo 52 (ql (tm 51)), xo 13 (qm (tm 50)), xo 14 (qm (tm 52))])
 (rg [xo 53 (qm (tm 10)), xo 54 (qm (tm 14)), xo 55 (qm (tm 2)), xo 56 (qm (tm 13)), xo 57 (qx 1 (tm 55) (tm 56)), xo 58 (ql (tm 57)), xo 59 (qx 1 (tm 53) (tm 54)), xn (qs (tm 59) (tm 58))])))
 (rg [xo 60 (qb .add (tm 48) (ci 1)), xo 48 (qm (tm 60))]))))
def m_spec_crStep_l1 : AC :=
 (.seq (rg [xo 29 (qb .lss (tm 28) (tm 27))])
 (.seq (.cond (tm 29)
  .skip
  (.exit 0))
 (.seq (.block 1 (.seq (rg [xo 30 (qm (tm 28)), xo 31 (qx 4 (tm 26) (tm 28)), xo 32 (.i (.ld false 4 (tm 31))), xo 12 (.i (.alloc 57 [(.int .i64 0), (.int .i64 0), (.int .i64 0), (.int .i64 0)])), xo 11 (qm (tm 30)), xn (.st false 4 (tm 12) (tm 32))])
 (.seq (rg [xo 33 (qf 0 (tm 12)), xo 34 (ql (tm 33)), xo 35 (qb .eql (tm 34) (ci 1))])
 (.cond (tm 35)
  (rg [xo 36 (qm (tm 10)), xo 37 (qm (tm 11)), xo 38 (qm (tm 3)), xo 39 (qf 3 (tm 12)), xo 40 (ql (tm 39)), xo 41 (qx 1 (tm 38) (tm 40)), xo 42 (ql (tm 41)), xo 43 (qx 1 (tm 36) (tm 37)), xn (qs (tm 43) (tm 42))])
  .skip))))
 (rg [xo 44 (qb .add (tm 28) (ci 1)), xo 28 (qm (tm 44))]))))
def m_spec_crStep : AC :=
 (.seq (rg [xo 5 (.i (.box 34 (tm 1))), xo 8 (qm (.cst .nils)), xo 9 (qm (.cst .nils))])
 (.seq (rg [xo 21 (qf 1 (tm 5)), xo 22 (ql (tm 21)), xo 23 (.i (.len (tm 22))), xo 24 (.make 3 .int 8 (tm 23) (tm 23)), xo 10 (qm (tm 24))])
 (.seq (.seq (rg [xo 25 (qf 1 (tm 5)), xo 26 (ql (tm 25)), xo 27 (.i (.len (tm 26))), xo 28 (qm (ci 0))])
 (.block 0 (.loop m_spec_crStep_l1)))
 (.seq (.seq (rg [xo 45 (.i (.ld false 3 (tm 5))), ⟨(some 46), none, (qc 16 [(tm 45)] [[none, (some (.pair .int (.pair .int (.pair .int .int)))), (some .int)]])⟩, xo 47 (.i (.len (tm 46))), xo 48 (qm (ci 0))])
 (.block 2 (.loop m_spec_crStep_l2)))
 (.seq (.seq (rg [xo 61 (.i (.ld false 3 (tm 5))), ⟨(some 62), none, (qc 34 [(tm 61)] [[none, (some (.pair .int (.pair .int (.pair .int .int)))), (some .int)]])⟩, xo 63 (.i (.len (tm 62))), xo 64 (qm (ci 0))])
 (.block 4 (.loop m_spec_crStep_l3)))
 (.seq (rg [xo 18 (qm (.cst .nils))])
 (.seq (.seq (rg [xo 104 (.i (.ld false 3 (tm 5))), ⟨(some 105), none, (qc 16 [(tm 104)] [[none, (some (.pair .int (.pair .int (.pair .int .int)))), (some .int)]])⟩, xo 106 (.i (.len (tm 105))), xo 107 (qm (ci 0))])
 (.block 6 (.loop m_spec_crStep_l4)))
 (.seq (rg [xo 124 (qm (tm 18)), xo 125 (qf 2 (tm 5)), xo 126 (ql (tm 125)), xo 127 (qm (tm 10)), xo 128 (qc 53 [(tm 126), (tm 127)] [[(some .int)], [(some .int)]]), xo 8 (qm (tm 124)), xo 9 (qm (tm 128))])
 .ret))))))))
def r_spec_crStep : List Res := [.tmp 8, .tmp 9]
theorem c_spec_crStep : compiled Tryd.prog Tryd.f35 = some (m_spec_crStep, r_spec_crStep) := by kernel_rfl
theorem hb_spec_crStep : hasBody Tryd.prog 35 = true := by kernel_rfl
def L_spec_crStep_l1 (a1_1 : List (Int × Int × Int × Int)) (a3 : List Int) (l6_m28 : Nat) (l6_m10 : List Int) : Option (Ctl (Nat × List Int) (List Int)) :=
 cond (decide (((l6_m28 : Nat) : Int) < ((a1_1.length : Nat) : Int)))
 (Option.bind (Option.bind (a1_1[l6_m28]?) fun x12 =>
  cond (x12.1 == 1)
   (Option.bind (getI a3 x12.2.2.2) fun x15 =>
   Option.bind (l6_m10[l6_m28]?) fun x16 =>
   some (l6_m10.set l6_m28 x15))
   (some l6_m10)) fun l10_m10 =>
 og (l6_m28 + 1 < 4611686018427387904) <|
 some (Ctl.next (l6_m28 + 1, l10_m10)))
 (some (Ctl.out l6_m10))
def L_spec_crStep_l2 (y20 : List Int) (a2 : List Int) (l21_m48 : Nat) (l21_m10 : List Int) : Option (Ctl (Nat × List Int) (List Int)) :=
 cond (decide (((l21_m48 : Nat) : Int) < ((y20.length : Nat) : Int)))
 (Option.bind (y20[l21_m48]?) fun x27 =>
 Option.bind (a2[l21_m48]?) fun x28 =>
 Option.bind (getI l21_m10 x27) fun x29 =>
 og (l21_m48 + 1 < 4611686018427387904) <|
 some (Ctl.next (l21_m48 + 1, l21_m10.set x27.toNat x28)))
 (some (Ctl.out l21_m10))
def L_spec_crStep_l3 (y33 : List Int) (a1_1 : List (Int × Int × Int × Int)) (a0 : Int) (l34_m64 : Nat) (l34_m10 : List Int) : Option (Ctl (Nat × List Int) (List Int)) :=
 cond (decide (((l34_m64 : Nat) : Int) < ((y33.length : Nat) : Int)))
 (Option.bind (Option.bind (y33[l34_m64]?) fun x40 =>
  Option.bind (getI a1_1 x40) fun x42 =>
  cond (x42.1 == 3)
   (Option.bind (getI l34_m10 x42.2.1) fun x45 =>
   Option.bind (getI l34_m10 x42.2.2.1) fun x46 =>
   Option.bind (L_spec_fdAdd a0 x45 x46) fun y47 =>
   Option.bind (getI l34_m10 x40) fun x48 =>
   some (l34_m10.set x40.toNat y47))
   (Option.bind (getI l34_m10 x42.2.1) fun x49 =>
   Option.bind (L_spec_fdMul a0 x42.2.2.2 x49) fun y50 =>
   Option.bind (getI l34_m10 x40) fun x51 =>
   some (l34_m10.set x40.toNat y50))) fun l38_m10 =>
 og (l34_m64 + 1 < 4611686018427387904) <|
 some (Ctl.next (l34_m64 + 1, l38_m10)))
 (some (Ctl.out l34_m10))
def L_spec_crStep_l4 (y56 : List Int) (a1_1 : List (Int × Int × Int × Int)) (l31_m10 : List Int) (l57_m107 : Nat) (l57_m18 : List Int) : Option (Ctl (Nat × List Int) (List Int)) :=
 cond (decide (((l57_m107 : Nat) : Int) < ((y56.length : Nat) : Int)))
 (Option.bind (y56[l57_m107]?) fun x63 =>
 Option.bind (getI a1_1 x63) fun x64 =>
 Option.bind (getI l31_m10 x64.2.1) fun x65 =>
 og (l57_m18.length + 1 ≤ 1073741824 ∧ (l57_m18.length + 1) * 8 ≤ 140737488355328) <|
 og (l57_m107 + 1 < 4611686018427387904) <|
 some (Ctl.next (l57_m107 + 1, l57_m18 ++ ([x65]))))
 (some (Ctl.out l57_m18))
def L_spec_crStep (a0 : Int) (a1_0 : Int) (a1_1 : List (Int × Int × Int × Int)) (a1_2 : List Int) (a2 : List Int) (a3 : List Int) : Option (List Int × List Int) :=
 og (0 ≤ ((a1_1.length : Nat) : Int) ∧ ((a1_1.length : Nat) : Int) ≤ ((a1_1.length : Nat) : Int) ∧ ((a1_1.length : Nat) : Int) ≤ 1073741824 ∧ (8 : Int) * ((a1_1.length : Nat) : Int) ≤ 140737488355328) <|
Option.bind (loopM (fun s_ : Nat × List Int => L_spec_crStep_l1 a1_1 a3 s_.1 s_.2) 4611686018427387904 (0, List.replicate a1_1.length (0 : Int))) fun l4_m10 =>
Option.bind (Option.bind (L_spec_crDelays a1_0 a1_1 a1_2) fun y20 =>
 loopM (fun s_ : Nat × List Int => L_spec_crStep_l2 y20 a2 s_.1 s_.2) 4611686018427387904 (0, l4_m10)) fun l18_m10 =>
Option.bind (Option.bind (L_spec_crOrder a1_0 a1_1 a1_2) fun y33 =>
 loopM (fun s_ : Nat × List Int => L_spec_crStep_l3 y33 a1_1 a0 s_.1 s_.2) 4611686018427387904 (0, l18_m10)) fun l31_m10 =>
Option.bind (Option.bind (L_spec_crDelays a1_0 a1_1 a1_2) fun y56 =>
 loopM (fun s_ : Nat × List Int => L_spec_crStep_l4 y56 a1_1 l31_m10 s_.1 s_.2) 4611686018427387904 (0, [])) fun l54_m18 =>
Option.bind (L_spec_hgList a1_2 l31_m10) fun y69 =>
some (l54_m18, y69)
def rv_spec_crStep (r : List Int × List Int) : RV := ⟨true, [(false, [.new 3 .int r.1]), (false, [.new 3 .int r.2])]⟩
theorem ok_spec_crStep {a0 : Int} {a1_0 : Int} {a1_1 : List (Int × Int × Int × Int)} {a1_2 : List Int} {a2 : List Int} {a3 : List Int} {r : List Int × List Int} (h : L_spec_crStep a0 a1_0 a1_1 a1_2 a2 a3 = some r) : CallOK Tryd.prog Tab 35 [(ai a0), (.agg [(ai a1_0), (.tree (.pair .int (.pair .int (.pair .int .int))) a1_1), (.tree .int a1_2)]), (.tree .int a2), (.tree .int a3)] (rv_spec_crStep r) := by
 refine call_of_ (by kernel_rfl) Tryd.func35 c_spec_crStep (n := 129) (by kernel_rfl) (by simp) (tl := [(0, (ai a0)), (1, (.agg [(ai a1_0), (.tree (.pair .int (.pair .int (.pair .int .int))) a1_1), (.tree .int a1_2)])), (2, (.tree .int a2)), (3, (.tree .int a3))]) rfl ?_
 unfold m_spec_crStep
 unfold L_spec_crStep at h
 refine seqR ?_
 refine awp_seqv_ ?_
 obtain ⟨g3, h⟩ := og_some h
 refine awp_region_ 9 ?_
 refine rs0 (.box (oi 5 1) 1) (by kernel_rfl) ?_
 refine rsl (.tree (.pair .int (.pair .int (.pair .int .int))) a1_1) (by kernel_rfl) ?_
 refine rs0 (ai ((a1_1.length : Nat) : Int)) (by kernel_rfl) ?_
 refine rs1 (.own (oi 24 7) .int 0 a1_1.length) (oi 24 7) (.arr 3 .int (List.replicate a1_1.length (0 : Int))) (s_make (t := .int) (k := .i64) (k' := .i64) (m := ((a1_1.length : Nat) : Int)) (m' := ((a1_1.length : Nat) : Int)) (by kernel_rfl) (by kernel_rfl) g3 rfl) ?_
 refine rsB 1 ?_
 refine rnil (tn_ ?_)
 refine ⟨_, Weak.refl _, ?_⟩
 refine awp_seqB h (fun (l4_m10 : List Int) S_ => S_ = ⟨mkTm [(0, (ai a0)), (2, (.tree .int a2)), (5, (.box (oi 0 1) 0)), (10, (.own (oi 1 1) .int 0 l4_m10.length))], mkOb (someL [((oi 0 1), .cells 34 [(ai a1_0), (.tree (.pair .int (.pair .int (.pair .int .int))) a1_1), (.tree .int a1_2)]), ((oi 1 1), .arr 3 .int l4_m10)]), 2⟩) ?_ ?_
 ·intro v_ h
  refine seqR ?_
  refine awp_block_ ?_
  refine awp_loopL h (fun t_ S_ => ∃ (l6_m28 : Nat), ∃ (l6_m10 : List Int), t_ = (l6_m28, l6_m10) ∧ S_ = ⟨mkTm [(0, (ai a0)), (2, (.tree .int a2)), (3, (.tree .int a3)), (5, (.box (oi 0 1) 0)), (10, (.own (oi 1 1) .int 0 l6_m10.length)), (26, (.tree (.pair .int (.pair .int (.pair .int .int))) a1_1)), (27, (ai ((a1_1.length : Nat) : Int))), (28, (ai ((l6_m28 : Nat) : Int)))], mkOb (someL [((oi 0 1), .cells 34 [(ai a1_0), (.tree (.pair .int (.pair .int (.pair .int .int))) a1_1), (.tree .int a1_2)]), ((oi 1 1), .arr 3 .int l6_m10)]), 2⟩) ⟨_, ((weak_tm_ 10 (.own (oi 24 7) .int 0 a1_1.length) (.own (oi 24 7) .int 0 ((List.replicate a1_1.length (0 : Int)).length)) (by kernel_rfl) (congrArg (fun z_ => ((.own (oi 24 7) .int 0 z_) : AV)) (List.length_replicate.symm : a1_1.length = (List.replicate a1_1.length (0 : Int)).length))).trans (weak_ren [((oi 0 1), (oi 5 1)), ((oi 1 1), (oi 24 7))])), ⟨0, List.replicate a1_1.length (0 : Int), rfl, rfl⟩⟩ ?_
  rintro n_ _ _ c_ ⟨l6_m28, l6_m10, rfl, rfl⟩ h hn6
  (try dsimp only at h)
  unfold L_spec_crStep_l1 at h
  unfold m_spec_crStep_l1
  refine seqR ?_
  refine awp_seqv_ ?_
  rcases cond_some h with ⟨q9, h⟩ | ⟨q9, h⟩
  ·have q9_ := of_decide_eq_true q9
   refine awp_condT_ q9 ?_
   refine awp_skip_ (tn_ ?_)
   refine ⟨_, Weak.refl _, ?_⟩
   refine awp_seqB h (fun (l10_m10 : List Int) S_ => S_ = ⟨mkTm [(0, (ai a0)), (2, (.tree .int a2)), (3, (.tree .int a3)), (5, (.box (oi 0 1) 0)), (10, (.own (oi 1 1) .int 0 l10_m10.length)), (26, (.tree (.pair .int (.pair .int (.pair .int .int))) a1_1)), (27, (ai ((a1_1.length : Nat) : Int))), (28, (ai ((l6_m28 : Nat) : Int)))], mkOb (someL [((oi 0 1), .cells 34 [(ai a1_0), (.tree (.pair .int (.pair .int (.pair .int .int))) a1_1), (.tree .int a1_2)]), ((oi 1 1), .arr 3 .int l10_m10)]), 2⟩) ?_ ?_
   ·intro v_ h
    refine awp_block_ ?_
    refine awp_seqv_ ?_
    obtain ⟨x12, e12, h⟩ := ob_some h
    refine awp_region_ 9 ?_
    refine rs0 (ai ((l6_m28 : Nat) : Int)) (by kernel_rfl) ?_
    refine rs0 (.telt (.pair .int (.pair .int (.pair .int .int))) x12 0) (s_idxT (t := (.pair .int (.pair .int (.pair .int .int)))) (xs := a1_1) (k := .i64) (m := ((l6_m28 : Nat) : Int)) (by kernel_rfl) (by kernel_rfl) rfl (nat_nn _) rfl e12) ?_
    refine rsB 4 ?_
    refine rnil (tn_ ?_)
    refine ⟨_, Weak.refl _, ?_⟩
    refine seqR ?_
    rcases cond_some h with ⟨q14, h⟩ | ⟨q14, h⟩
    ·refine awp_condT_ q14 ?_
     obtain ⟨x15, f15, h⟩ := ob_some h
     obtain ⟨p15, b15, e15⟩ := getI_some f15
     obtain ⟨x16, e16, h⟩ := ob_some h
     refine awp_region_ 21 ?_
     refine rs0 (.own (oi 1 1) .int 0 l6_m10.length) (by kernel_rfl) ?_
     refine rs0 (ai ((l6_m28 : Nat) : Int)) (by kernel_rfl) ?_
     refine rs0 (.tree .int a3) (by kernel_rfl) ?_
     refine rs0 (.box (oi 12 6) 3) (by kernel_rfl) ?_
     refine rsl (ai x12.2.2.2) (by kernel_rfl) ?_
     refine rs0 (.telt .int x15 0) (s_idxT (t := .int) (xs := a3) (k := .i64) (m := x12.2.2.2) (by kernel_rfl) (by kernel_rfl) rfl p15 rfl e15) ?_
     refine rs0 (ai x15) (by kernel_rfl) ?_
     refine rs0 (.elt (oi 1 1) l6_m28 0) (s_idxO (t := .int) (o := (oi 1 1)) (len := l6_m10.length) (k := .i64) (m := ((l6_m28 : Nat) : Int)) (by kernel_rfl) (by kernel_rfl) rfl (nat_nn _) rfl (getN_lt e16)) ?_
     refine rsn2 (oi 1 1) (oi 1 1) (.arr 3 .int (l6_m10.set l6_m28 x15)) (s_stE (i := (oi 1 1)) (j := l6_m28) (k := 0) (e := 3) (t := .int) (xs := l6_m10) (cs := [(ai x15)]) (x1 := x15) (by kernel_rfl) (by kernel_rfl) e16 (by kernel_rfl) (by kernel_rfl)) ?_
     refine rnil (bn_ (tn_ ?_))
     obtain rfl := Option.some.inj h
     exact ⟨_, ((weak_tm_ 10 (.own (oi 1 1) .int 0 l6_m10.length) (.own (oi 1 1) .int 0 ((l6_m10.set l6_m28 x15).length)) (by kernel_rfl) (congrArg (fun z_ => ((.own (oi 1 1) .int 0 z_) : AV)) (((rfl : l6_m10.length = l6_m10.length).trans List.length_set.symm) : l6_m10.length = (l6_m10.set l6_m28 x15).length))).trans (weak_ren [])), rfl⟩
    refine awp_condF_ q14 ?_
    refine awp_skip_ (bn_ (tn_ ?_))
    obtain rfl := Option.some.inj h
    exact ⟨_, (weak_ren []), rfl⟩
   rintro l10_m10 _ rfl h
   (try dsimp only at h)
   obtain ⟨g17, h⟩ := og_some h
   refine awp_region_ 4 ?_
   refine rs0 (ai ((l6_m28 + 1 : Nat) : Int)) (s_add1 (j := l6_m28) (by kernel_rfl) (by kernel_rfl) g17) ?_
   refine rsB 1 ?_
   refine rnil (tn_ ?_)
   obtain rfl := Option.some.inj h
   exact ⟨(l6_m28 + 1, l10_m10), _, (weak_ren []), ⟨l6_m28 + 1, l10_m10, rfl, rfl⟩, hn6⟩
  have q9_ := of_decide_eq_false q9
  refine awp_condF_ q9 ?_
  refine awp_exit_ (te_ (te_ (be_ (tn_ ?_))))
  obtain rfl := Option.some.inj h
  have h := hn6
  (try dsimp only at h)
  obtain rfl := Option.some.inj h
  exact ⟨_, (weak_ren []), rfl⟩
 rintro l4_m10 _ rfl h
 (try dsimp only at h)
 refine awp_seqB h (fun (l18_m10 : List Int) S_ => S_ = ⟨mkTm [(0, (ai a0)), (5, (.box (oi 0 1) 0)), (10, (.own (oi 1 1) .int 0 l18_m10.length))], mkOb (someL [((oi 0 1), .cells 34 [(ai a1_0), (.tree (.pair .int (.pair .int (.pair .int .int))) a1_1), (.tree .int a1_2)]), ((oi 1 1), .arr 3 .int l18_m10)]), 2⟩) ?_ ?_
 ·intro v_ h
  refine awp_seqv_ ?_
  obtain ⟨y20, h20, h⟩ := ob_some h
  refine awp_region_ 6 ?_
  refine rsl (.agg [(ai a1_0), (.tree (.pair .int (.pair .int (.pair .int .int))) a1_1), (.tree .int a1_2)]) (by kernel_rfl) ?_
  refine rcall (.own (oi 736 3) .int 0 y20.length) [((oi 736 3), some (.arr 3 .int y20))] [(.agg [(ai a1_0), (.tree (.pair .int (.pair .int (.pair .int .int))) a1_1), (.tree .int a1_2)])] _ (caps := []) (args0 := [(.agg [(ai a1_0), (.tree (.pair .int (.pair .int (.pair .int .int))) a1_1), (.tree .int a1_2)])]) trivial (by kernel_rfl) (ok_spec_crDelays h20) hb_spec_crDelays ?_
  refine rsB 2 ?_
  refine rnil (tn_ ?_)
  refine ⟨_, Weak.refl _, ?_⟩
  refine awp_block_ ?_
  refine awp_loopL h (fun t_ S_ => ∃ (l21_m48 : Nat), ∃ (l21_m10 : List Int), t_ = (l21_m48, l21_m10) ∧ S_ = ⟨mkTm [(0, (ai a0)), (2, (.tree .int a2)), (5, (.box (oi 0 1) 0)), (10, (.own (oi 1 1) .int 0 l21_m10.length)), (46, (.own (oi 2 1) .int 0 y20.length)), (47, (ai ((y20.length : Nat) : Int))), (48, (ai ((l21_m48 : Nat) : Int)))], mkOb (someL [((oi 0 1), .cells 34 [(ai a1_0), (.tree (.pair .int (.pair .int (.pair .int .int))) a1_1), (.tree .int a1_2)]), ((oi 1 1), .arr 3 .int l21_m10), ((oi 2 1), .arr 3 .int y20)]), 2⟩) ⟨_, (weak_ren [((oi 2 1), (oi 736 3))]), ⟨0, l4_m10, rfl, rfl⟩⟩ ?_
  rintro n_ _ _ c_ ⟨l21_m48, l21_m10, rfl, rfl⟩ h hn21
  (try dsimp only at h)
  unfold L_spec_crStep_l2 at h
  unfold m_spec_crStep_l2
  refine seqR ?_
  refine awp_seqv_ ?_
  rcases cond_some h with ⟨q24, h⟩ | ⟨q24, h⟩
  ·have q24_ := of_decide_eq_true q24
   refine awp_condT_ q24 ?_
   refine awp_skip_ (tn_ ?_)
   refine ⟨_, Weak.refl _, ?_⟩
   refine awp_seqv_ ?_
   refine awp_block_ ?_
   refine awp_seqv_ ?_
   obtain ⟨x27, e27, h⟩ := ob_some h
   refine awp_region_ 8 ?_
   refine rs0 (ai ((l21_m48 : Nat) : Int)) (by kernel_rfl) ?_
   refine rs0 (.elt (oi 2 1) l21_m48 0) (s_idxO (t := .int) (o := (oi 2 1)) (len := y20.length) (k := .i64) (m := ((l21_m48 : Nat) : Int)) (by kernel_rfl) (by kernel_rfl) rfl (nat_nn _) rfl (getN_lt e27)) ?_
   refine rsl (ai x27) (s_ldE (i := (oi 2 1)) (j := l21_m48) (k := 0) (e := 3) (t := .int) (xs := y20) (by kernel_rfl) (by kernel_rfl) e27 (by kernel_rfl)) ?_
   refine rsB 2 ?_
   refine rnil (tn_ ?_)
   refine ⟨_, Weak.refl _, ?_⟩
   obtain ⟨x28, e28, h⟩ := ob_some h
   obtain ⟨x29, f29, h⟩ := ob_some h
   obtain ⟨p29, b29, e29⟩ := getI_some f29
   refine awp_region_ 16 ?_
   refine rs0 (.own (oi 1 1) .int 0 l21_m10.length) (by kernel_rfl) ?_
   refine rs0 (ai x27) (by kernel_rfl) ?_
   refine rs0 (.tree .int a2) (by kernel_rfl) ?_
   refine rs0 (ai ((l21_m48 : Nat) : Int)) (by kernel_rfl) ?_
   refine rs0 (.telt .int x28 0) (s_idxT (t := .int) (xs := a2) (k := .i64) (m := ((l21_m48 : Nat) : Int)) (by kernel_rfl) (by kernel_rfl) rfl (nat_nn _) rfl e28) ?_
   refine rs0 (ai x28) (by kernel_rfl) ?_
   refine rs0 (.elt (oi 1 1) x27.toNat 0) (s_idxO (t := .int) (o := (oi 1 1)) (len := l21_m10.length) (k := .i64) (m := x27) (by kernel_rfl) (by kernel_rfl) rfl p29 rfl (getN_lt e29)) ?_
   refine rsn2 (oi 1 1) (oi 1 1) (.arr 3 .int (l21_m10.set x27.toNat x28)) (s_stE (i := (oi 1 1)) (j := x27.toNat) (k := 0) (e := 3) (t := .int) (xs := l21_m10) (cs := [(ai x28)]) (x1 := x28) (by kernel_rfl) (by kernel_rfl) e29 (by kernel_rfl) (by kernel_rfl)) ?_
   refine rnil (bn_ (tn_ ?_))
   refine ⟨_, Weak.refl _, ?_⟩
   obtain ⟨g30, h⟩ := og_some h
   refine awp_region_ 18 ?_
   refine rs0 (ai ((l21_m48 + 1 : Nat) : Int)) (s_add1 (j := l21_m48) (by kernel_rfl) (by kernel_rfl) g30) ?_
   refine rsB 1 ?_
   refine rnil (tn_ ?_)
   obtain rfl := Option.some.inj h
   exact ⟨(l21_m48 + 1, l21_m10.set x27.toNat x28), _, ((weak_tm_ 10 (.own (oi 1 1) .int 0 l21_m10.length) (.own (oi 1 1) .int 0 ((l21_m10.set x27.toNat x28).length)) (by kernel_rfl) (congrArg (fun z_ => ((.own (oi 1 1) .int 0 z_) : AV)) (((rfl : l21_m10.length = l21_m10.length).trans List.length_set.symm) : l21_m10.length = (l21_m10.set x27.toNat x28).length))).trans (weak_ren [])), ⟨l21_m48 + 1, l21_m10.set x27.toNat x28, rfl, rfl⟩, hn21⟩
  have q24_ := of_decide_eq_false q24
  refine awp_condF_ q24 ?_
  refine awp_exit_ (te_ (te_ (be_ (tn_ ?_))))
  obtain rfl := Option.some.inj h
  have h := hn21
  (try dsimp only at h)
  obtain rfl := Option.some.inj h
  exact ⟨_, (weak_ren []), rfl⟩
 rintro l18_m10 _ rfl h
 (try dsimp only at h)
 refine awp_seqB h (fun (l31_m10 : List Int) S_ => S_ = ⟨mkTm [(5, (.box (oi 0 1) 0)), (10, (.own (oi 1 1) .int 0 l31_m10.length))], mkOb (someL [((oi 0 1), .cells 34 [(ai a1_0), (.tree (.pair .int (.pair .int (.pair .int .int))) a1_1), (.tree .int a1_2)]), ((oi 1 1), .arr 3 .int l31_m10)]), 2⟩) ?_ ?_
 ·intro v_ h
  refine awp_seqv_ ?_
  obtain ⟨y33, h33, h⟩ := ob_some h
  refine awp_region_ 6 ?_
  refine rsl (.agg [(ai a1_0), (.tree (.pair .int (.pair .int (.pair .int .int))) a1_1), (.tree .int a1_2)]) (by kernel_rfl) ?_
  refine rcall (.own (oi 992 3) .int 0 y33.length) [((oi 992 3), some (.arr 3 .int y33))] [(.agg [(ai a1_0), (.tree (.pair .int (.pair .int (.pair .int .int))) a1_1), (.tree .int a1_2)])] _ (caps := []) (args0 := [(.agg [(ai a1_0), (.tree (.pair .int (.pair .int (.pair .int .int))) a1_1), (.tree .int a1_2)])]) trivial (by kernel_rfl) (ok_spec_crOrder h33) hb_spec_crOrder ?_
  refine rsB 2 ?_
  refine rnil (tn_ ?_)
  refine ⟨_, Weak.refl _, ?_⟩
  refine awp_block_ ?_
  refine awp_loopL h (fun t_ S_ => ∃ (l34_m64 : Nat), ∃ (l34_m10 : List Int), t_ = (l34_m64, l34_m10) ∧ S_ = ⟨mkTm [(0, (ai a0)), (5, (.box (oi 0 1) 0)), (10, (.own (oi 1 1) .int 0 l34_m10.length)), (62, (.own (oi 2 1) .int 0 y33.length)), (63, (ai ((y33.length : Nat) : Int))), (64, (ai ((l34_m64 : Nat) : Int)))], mkOb (someL [((oi 0 1), .cells 34 [(ai a1_0), (.tree (.pair .int (.pair .int (.pair .int .int))) a1_1), (.tree .int a1_2)]), ((oi 1 1), .arr 3 .int l34_m10), ((oi 2 1), .arr 3 .int y33)]), 2⟩) ⟨_, (weak_ren [((oi 2 1), (oi 992 3))]), ⟨0, l18_m10, rfl, rfl⟩⟩ ?_
  rintro n_ _ _ c_ ⟨l34_m64, l34_m10, rfl, rfl⟩ h hn34
  (try dsimp only at h)
  unfold L_spec_crStep_l3 at h
  unfold m_spec_crStep_l3
  refine seqR ?_
  refine awp_seqv_ ?_
  rcases cond_some h with ⟨q37, h⟩ | ⟨q37, h⟩
  ·have q37_ := of_decide_eq_true q37
   refine awp_condT_ q37 ?_
   refine awp_skip_ (tn_ ?_)
   refine ⟨_, Weak.refl _, ?_⟩
   refine awp_seqB h (fun (l38_m10 : List Int) S_ => S_ = ⟨mkTm [(0, (ai a0)), (5, (.box (oi 0 1) 0)), (10, (.own (oi 1 1) .int 0 l38_m10.length)), (62, (.own (oi 2 1) .int 0 y33.length)), (63, (ai ((y33.length : Nat) : Int))), (64, (ai ((l34_m64 : Nat) : Int)))], mkOb (someL [((oi 0 1), .cells 34 [(ai a1_0), (.tree (.pair .int (.pair .int (.pair .int .int))) a1_1), (.tree .int a1_2)]), ((oi 1 1), .arr 3 .int l38_m10), ((oi 2 1), .arr 3 .int y33)]), 2⟩) ?_ ?_
   ·intro v_ h
    refine awp_block_ ?_
    refine awp_seqv_ ?_
    obtain ⟨x40, e40, h⟩ := ob_some h
    refine awp_region_ 6 ?_
    refine rs0 (.elt (oi 2 1) l34_m64 0) (s_idxO (t := .int) (o := (oi 2 1)) (len := y33.length) (k := .i64) (m := ((l34_m64 : Nat) : Int)) (by kernel_rfl) (by kernel_rfl) rfl (nat_nn _) rfl (getN_lt e40)) ?_
    refine rsl (ai x40) (s_ldE (i := (oi 2 1)) (j := l34_m64) (k := 0) (e := 3) (t := .int) (xs := y33) (by kernel_rfl) (by kernel_rfl) e40 (by kernel_rfl)) ?_
    refine rsB 1 ?_
    refine rnil (tn_ ?_)
    refine ⟨_, Weak.refl _, ?_⟩
    refine awp_seqv_ ?_
    obtain ⟨x42, f42, h⟩ := ob_some h
    obtain ⟨p42, b42, e42⟩ := getI_some f42
    refine awp_region_ 13 ?_
    refine rs0 (.box (oi 0 1) 1) (by kernel_rfl) ?_
    refine rsl (.tree (.pair .int (.pair .int (.pair .int .int))) a1_1) (by kernel_rfl) ?_
    refine rs0 (ai x40) (by kernel_rfl) ?_
    refine rs0 (.telt (.pair .int (.pair .int (.pair .int .int))) x42 0) (s_idxT (t := (.pair .int (.pair .int (.pair .int .int)))) (xs := a1_1) (k := .i64) (m := x40) (by kernel_rfl) (by kernel_rfl) rfl p42 rfl e42) ?_
    refine rsB 3 ?_
    refine rnil (tn_ ?_)
    refine ⟨_, Weak.refl _, ?_⟩
    refine seqR ?_
    rcases cond_some h with ⟨q44, h⟩ | ⟨q44, h⟩
    ·refine awp_condT_ q44 ?_
     obtain ⟨x45, f45, h⟩ := ob_some h
     obtain ⟨p45, b45, e45⟩ := getI_some f45
     obtain ⟨x46, f46, h⟩ := ob_some h
     obtain ⟨p46, b46, e46⟩ := getI_some f46
     obtain ⟨y47, h47, h⟩ := ob_some h
     obtain ⟨x48, f48, h⟩ := ob_some h
     obtain ⟨p48, b48, e48⟩ := getI_some f48
     refine awp_regionD_ 32 ?_
     refine ds0 (.own (oi 1 1) .int 0 l34_m10.length) (by kernel_rfl) ?_
     refine ds0 (ai x40) (by kernel_rfl) ?_
     refine ds0 (ai a0) (by kernel_rfl) ?_
     refine ds0 (.own (oi 1 1) .int 0 l34_m10.length) (by kernel_rfl) ?_
     refine ds0 (.box (oi 17 11) 1) (by kernel_rfl) ?_
     refine dsl (ai x42.2.1) (by kernel_rfl) ?_
     refine ds0 (.elt (oi 1 1) x42.2.1.toNat 0) (s_idxO (t := .int) (o := (oi 1 1)) (len := l34_m10.length) (k := .i64) (m := x42.2.1) (by kernel_rfl) (by kernel_rfl) rfl p45 rfl (getN_lt e45)) ?_
     refine dsl (ai x45) (s_ldE (i := (oi 1 1)) (j := x42.2.1.toNat) (k := 0) (e := 3) (t := .int) (xs := l34_m10) (by kernel_rfl) (by kernel_rfl) e45 (by kernel_rfl)) ?_
     refine ds0 (.own (oi 1 1) .int 0 l34_m10.length) (by kernel_rfl) ?_
     refine ds0 (.box (oi 17 11) 2) (by kernel_rfl) ?_
     refine dsl (ai x42.2.2.1) (by kernel_rfl) ?_
     refine ds0 (.elt (oi 1 1) x42.2.2.1.toNat 0) (s_idxO (t := .int) (o := (oi 1 1)) (len := l34_m10.length) (k := .i64) (m := x42.2.2.1) (by kernel_rfl) (by kernel_rfl) rfl p46 rfl (getN_lt e46)) ?_
     refine dsl (ai x46) (s_ldE (i := (oi 1 1)) (j := x42.2.2.1.toNat) (k := 0) (e := 3) (t := .int) (xs := l34_m10) (by kernel_rfl) (by kernel_rfl) e46 (by kernel_rfl)) ?_
     refine dcall (ai y47) [] [(ai a0), (ai x45), (ai x46)] _ (caps := []) (args0 := [(ai a0), (ai x45), (ai x46)]) trivial (by kernel_rfl) (ok_spec_fdAdd h47) hb_spec_fdAdd ?_
     refine ds0 (.elt (oi 1 1) x40.toNat 0) (s_idxO (t := .int) (o := (oi 1 1)) (len := l34_m10.length) (k := .i64) (m := x40) (by kernel_rfl) (by kernel_rfl) rfl p48 rfl (getN_lt e48)) ?_
     refine dsn2 (oi 1 1) (oi 1 1) (.arr 3 .int (l34_m10.set x40.toNat y47)) (s_stE (i := (oi 1 1)) (j := x40.toNat) (k := 0) (e := 3) (t := .int) (xs := l34_m10) (cs := [(ai y47)]) (x1 := y47) (by kernel_rfl) (by kernel_rfl) e48 (by kernel_rfl) (by kernel_rfl)) ?_
     refine dnil (badB_spec (by kernel_rfl)) (bn_ (tn_ ?_))
     obtain rfl := Option.some.inj h
     exact ⟨_, ((weak_tm_ 10 (.own (oi 1 1) .int 0 l34_m10.length) (.own (oi 1 1) .int 0 ((l34_m10.set x40.toNat y47).length)) (by kernel_rfl) (congrArg (fun z_ => ((.own (oi 1 1) .int 0 z_) : AV)) (((rfl : l34_m10.length = l34_m10.length).trans List.length_set.symm) : l34_m10.length = (l34_m10.set x40.toNat y47).length))).trans (weak_ren [])), rfl⟩
    refine awp_condF_ q44 ?_
    obtain ⟨x49, f49, h⟩ := ob_some h
    obtain ⟨p49, b49, e49⟩ := getI_some f49
    obtain ⟨y50, h50, h⟩ := ob_some h
    obtain ⟨x51, f51, h⟩ := ob_some h
    obtain ⟨p51, b51, e51⟩ := getI_some f51
    refine awp_regionD_ 29 ?_
    refine ds0 (.own (oi 1 1) .int 0 l34_m10.length) (by kernel_rfl) ?_
    refine ds0 (ai x40) (by kernel_rfl) ?_
    refine ds0 (ai a0) (by kernel_rfl) ?_
    refine ds0 (.box (oi 17 11) 3) (by kernel_rfl) ?_
    refine dsl (ai x42.2.2.2) (by kernel_rfl) ?_
    refine ds0 (.own (oi 1 1) .int 0 l34_m10.length) (by kernel_rfl) ?_
    refine ds0 (.box (oi 17 11) 1) (by kernel_rfl) ?_
    refine dsl (ai x42.2.1) (by kernel_rfl) ?_
    refine ds0 (.elt (oi 1 1) x42.2.1.toNat 0) (s_idxO (t := .int) (o := (oi 1 1)) (len := l34_m10.length) (k := .i64) (m := x42.2.1) (by kernel_rfl) (by kernel_rfl) rfl p49 rfl (getN_lt e49)) ?_
    refine dsl (ai x49) (s_ldE (i := (oi 1 1)) (j := x42.2.1.toNat) (k := 0) (e := 3) (t := .int) (xs := l34_m10) (by kernel_rfl) (by kernel_rfl) e49 (by kernel_rfl)) ?_
    refine dcall (ai y50) [] [(ai a0), (ai x42.2.2.2), (ai x49)] _ (caps := []) (args0 := [(ai a0), (ai x42.2.2.2), (ai x49)]) trivial (by kernel_rfl) (ok_spec_fdMul h50) hb_spec_fdMul ?_
    refine ds0 (.elt (oi 1 1) x40.toNat 0) (s_idxO (t := .int) (o := (oi 1 1)) (len := l34_m10.length) (k := .i64) (m := x40) (by kernel_rfl) (by kernel_rfl) rfl p51 rfl (getN_lt e51)) ?_
    refine dsn2 (oi 1 1) (oi 1 1) (.arr 3 .int (l34_m10.set x40.toNat y50)) (s_stE (i := (oi 1 1)) (j := x40.toNat) (k := 0) (e := 3) (t := .int) (xs := l34_m10) (cs := [(ai y50)]) (x1 := y50) (by kernel_rfl) (by kernel_rfl) e51 (by kernel_rfl) (by kernel_rfl)) ?_
    refine dnil (badB_spec (by kernel_rfl)) (bn_ (tn_ ?_))
    obtain rfl := Option.some.inj h
    exact ⟨_, ((weak_tm_ 10 (.own (oi 1 1) .int 0 l34_m10.length) (.own (oi 1 1) .int 0 ((l34_m10.set x40.toNat y50).length)) (by kernel_rfl) (congrArg (fun z_ => ((.own (oi 1 1) .int 0 z_) : AV)) (((rfl : l34_m10.length = l34_m10.length).trans List.length_set.symm) : l34_m10.length = (l34_m10.set x40.toNat y50).length))).trans (weak_ren [])), rfl⟩
   rintro l38_m10 _ rfl h
   (try dsimp only at h)
   obtain ⟨g52, h⟩ := og_some h
   refine awp_region_ 4 ?_
   refine rs0 (ai ((l34_m64 + 1 : Nat) : Int)) (s_add1 (j := l34_m64) (by kernel_rfl) (by kernel_rfl) g52) ?_
   refine rsB 1 ?_
   refine rnil (tn_ ?_)
   obtain rfl := Option.some.inj h
   exact ⟨(l34_m64 + 1, l38_m10), _, (weak_ren []), ⟨l34_m64 + 1, l38_m10, rfl, rfl⟩, hn34⟩
  have q37_ := of_decide_eq_false q37
  refine awp_condF_ q37 ?_
  refine awp_exit_ (te_ (te_ (be_ (tn_ ?_))))
  obtain rfl := Option.some.inj h
  have h := hn34
  (try dsimp only at h)
  obtain rfl := Option.some.inj h
  exact ⟨_, (weak_ren []), rfl⟩
 rintro l31_m10 _ rfl h
 (try dsimp only at h)
 refine seqR ?_
 refine awp_seqB h (fun (l54_m18 : List Int) S_ => S_ = ⟨mkTm [(5, (.box (oi 0 1) 0)), (10, (.own (oi 1 1) .int 0 l31_m10.length)), (18, (.own (oi 2 1) .int 0 l54_m18.length))], mkOb (someL [((oi 0 1), .cells 34 [(ai a1_0), (.tree (.pair .int (.pair .int (.pair .int .int))) a1_1), (.tree .int a1_2)]), ((oi 1 1), .arr 3 .int l31_m10), ((oi 2 1), .arr 3 .int l54_m18)]), 2⟩) ?_ ?_
 ·intro v_ h
  refine awp_seqv_ ?_
  obtain ⟨y56, h56, h⟩ := ob_some h
  refine awp_region_ 7 ?_
  refine rsl (.agg [(ai a1_0), (.tree (.pair .int (.pair .int (.pair .int .int))) a1_1), (.tree .int a1_2)]) (by kernel_rfl) ?_
  refine rcall (.own (oi 1680 4) .int 0 y56.length) [((oi 1680 4), some (.arr 3 .int y56))] [(.agg [(ai a1_0), (.tree (.pair .int (.pair .int (.pair .int .int))) a1_1), (.tree .int a1_2)])] _ (caps := []) (args0 := [(.agg [(ai a1_0), (.tree (.pair .int (.pair .int (.pair .int .int))) a1_1), (.tree .int a1_2)])]) trivial (by kernel_rfl) (ok_spec_crDelays h56) hb_spec_crDelays ?_
  refine rsB 2 ?_
  refine rnil (tn_ ?_)
  refine ⟨_, Weak.refl _, ?_⟩
  refine awp_block_ ?_
  refine awp_loopL h (fun t_ S_ => ∃ (l57_m107 : Nat), ∃ (l57_m18 : List Int), t_ = (l57_m107, l57_m18) ∧ S_ = ⟨mkTm [(5, (.box (oi 0 1) 0)), (10, (.own (oi 1 1) .int 0 l31_m10.length)), (18, (.own (oi 2 1) .int 0 l57_m18.length)), (105, (.own (oi 3 1) .int 0 y56.length)), (106, (ai ((y56.length : Nat) : Int))), (107, (ai ((l57_m107 : Nat) : Int)))], mkOb (someL [((oi 0 1), .cells 34 [(ai a1_0), (.tree (.pair .int (.pair .int (.pair .int .int))) a1_1), (.tree .int a1_2)]), ((oi 1 1), .arr 3 .int l31_m10), ((oi 2 1), .arr 3 .int l57_m18), ((oi 3 1), .arr 3 .int y56)]), 2⟩) ⟨_, ((weak_nil_ 18 3 .int rfl (by kernel_rfl)).trans (weak_ren [((oi 2 1), (oi 18 7)), ((oi 3 1), (oi 1680 4))])), ⟨0, [], rfl, rfl⟩⟩ ?_
  rintro n_ _ _ c_ ⟨l57_m107, l57_m18, rfl, rfl⟩ h hn57
  (try dsimp only at h)
  unfold L_spec_crStep_l4 at h
  unfold m_spec_crStep_l4
  refine seqR ?_
  refine awp_seqv_ ?_
  rcases cond_some h with ⟨q60, h⟩ | ⟨q60, h⟩
  ·have q60_ := of_decide_eq_true q60
   refine awp_condT_ q60 ?_
   refine awp_skip_ (tn_ ?_)
   refine ⟨_, Weak.refl _, ?_⟩
   refine awp_seqv_ ?_
   refine awp_block_ ?_
   refine awp_seqv_ ?_
   obtain ⟨x63, e63, h⟩ := ob_some h
   refine awp_region_ 6 ?_
   refine rs0 (.elt (oi 3 1) l57_m107 0) (s_idxO (t := .int) (o := (oi 3 1)) (len := y56.length) (k := .i64) (m := ((l57_m107 : Nat) : Int)) (by kernel_rfl) (by kernel_rfl) rfl (nat_nn _) rfl (getN_lt e63)) ?_
   refine rsl (ai x63) (s_ldE (i := (oi 3 1)) (j := l57_m107) (k := 0) (e := 3) (t := .int) (xs := y56) (by kernel_rfl) (by kernel_rfl) e63 (by kernel_rfl)) ?_
   refine rsB 1 ?_
   refine rnil (tn_ ?_)
   refine ⟨_, Weak.refl _, ?_⟩
   obtain ⟨x64, f64, h⟩ := ob_some h
   obtain ⟨p64, b64, e64⟩ := getI_some f64
   obtain ⟨x65, f65, h⟩ := ob_some h
   obtain ⟨p65, b65, e65⟩ := getI_some f65
   obtain ⟨g66, h⟩ := og_some h
   refine awp_region_ 19 ?_
   refine rs0 (.own (oi 2 1) .int 0 l57_m18.length) (by kernel_rfl) ?_
   refine rs0 (.own (oi 1 1) .int 0 l31_m10.length) (by kernel_rfl) ?_
   refine rs0 (.box (oi 0 1) 1) (by kernel_rfl) ?_
   refine rsl (.tree (.pair .int (.pair .int (.pair .int .int))) a1_1) (by kernel_rfl) ?_
   refine rs0 (ai x63) (by kernel_rfl) ?_
   refine rs0 (.telt (.pair .int (.pair .int (.pair .int .int))) x64 0) (s_idxT (t := (.pair .int (.pair .int (.pair .int .int)))) (xs := a1_1) (k := .i64) (m := x63) (by kernel_rfl) (by kernel_rfl) rfl p64 rfl e64) ?_
   refine rs0 (.telt (.pair .int (.pair .int (.pair .int .int))) x64 1) (by kernel_rfl) ?_
   refine rs0 (ai x64.2.1) (by kernel_rfl) ?_
   refine rs0 (.elt (oi 1 1) x64.2.1.toNat 0) (s_idxO (t := .int) (o := (oi 1 1)) (len := l31_m10.length) (k := .i64) (m := x64.2.1) (by kernel_rfl) (by kernel_rfl) rfl p65 rfl (getN_lt e65)) ?_
   refine rsl (ai x65) (s_ldE (i := (oi 1 1)) (j := x64.2.1.toNat) (k := 0) (e := 3) (t := .int) (xs := l31_m10) (by kernel_rfl) (by kernel_rfl) e65 (by kernel_rfl)) ?_
   refine rs1 (.own (oi 121 16) .int 0 1) (oi 121 16) (.arr 3 .int ([x65])) (by kernel_rfl) ?_
   refine rs2 (.own (oi 2 17) .int 0 ((l57_m18 ++ ([x65])).length)) (oi 2 1) (oi 2 17) (.arr 3 .int (l57_m18 ++ ([x65]))) (s_appO (t := .int) (t' := .int) (xs := l57_m18) (ys := [x65]) (zs := l57_m18 ++ ([x65])) (j := (oi 2 1)) (len := l57_m18.length) (c := (.own (oi 121 16) .int 0 1)) (by kernel_rfl) (by kernel_rfl) rfl (by kernel_rfl) (sr_own (e := 3) (by kernel_rfl) rfl) rfl g66) ?_
   refine rsB 1 ?_
   refine rnil (bn_ (tn_ ?_))
   refine ⟨_, Weak.refl _, ?_⟩
   obtain ⟨g67, h⟩ := og_some h
   refine awp_region_ 21 ?_
   refine rs0 (ai ((l57_m107 + 1 : Nat) : Int)) (s_add1 (j := l57_m107) (by kernel_rfl) (by kernel_rfl) g67) ?_
   refine rsB 1 ?_
   refine rnil (tn_ ?_)
   obtain rfl := Option.some.inj h
   exact ⟨(l57_m107 + 1, l57_m18 ++ ([x65])), _, (weak_ren [((oi 2 1), (oi 2 17))]), ⟨l57_m107 + 1, l57_m18 ++ ([x65]), rfl, rfl⟩, hn57⟩
  have q60_ := of_decide_eq_false q60
  refine awp_condF_ q60 ?_
  refine awp_exit_ (te_ (te_ (be_ (tn_ ?_))))
  obtain rfl := Option.some.inj h
  have h := hn57
  (try dsimp only at h)
  obtain rfl := Option.some.inj h
  exact ⟨_, (weak_ren []), rfl⟩
 rintro l54_m18 _ rfl h
 (try dsimp only at h)
 refine awp_seqv_ ?_
 obtain ⟨y69, h69, h⟩ := ob_some h
 refine awp_region_ 9 ?_
 refine rs0 (.own (oi 2 1) .int 0 l54_m18.length) (by kernel_rfl) ?_
 refine rs0 (.box (oi 0 1) 2) (by kernel_rfl) ?_
 refine rsl (.tree .int a1_2) (by kernel_rfl) ?_
 refine rs0 (.own (oi 1 1) .int 0 l31_m10.length) (by kernel_rfl) ?_
 refine rcall (.own (oi 2048 6) .int 0 y69.length) [((oi 2048 6), some (.arr 3 .int y69))] [(.tree .int a1_2), (.own (oi 1 1) .int 0 l31_m10.length)] _ (caps := []) (args0 := [(.tree .int a1_2), (.tree .int l31_m10)]) trivial (gm_cons (by kernel_rfl) (gm_cons (gd_own (e := 3) (by kernel_rfl) rfl) gm_nil)) (ok_spec_hgList h69) hb_spec_hgList ?_
 refine rsB 2 ?_
 refine rnil (tn_ ?_)
 refine ⟨_, Weak.refl _, ?_⟩
 refine awp_ret_ ?_
 obtain rfl := Option.some.inj h
 exact ret_ [(.own (oi 2 1) .int 0 l54_m18.length), (.own (oi 2048 6) .int 0 y69.length)] (p_one rfl (l_own (by kernel_rfl) rfl) (p_one rfl (l_own (by kernel_rfl) rfl) p_nil))
def m_spec_ssUnit : AC :=
 (.seq (rg [xo 4 (qm (.cst .nils))])
 (.seq (rg [xo 6 (qm (tm 0)), xo 7 (.make 3 .int 8 (tm 6) (tm 6)), xo 5 (qm (tm 7))])
 (.seq (rg [xo 8 (qm (tm 5)), xo 9 (qm (tm 1)), xo 10 (qx 1 (tm 8) (tm 9)), xn (qs (tm 10) (ci 1))])
 (.seq (rg [xo 11 (qm (tm 5)), xo 4 (qm (tm 11))])
 .ret))))
def r_spec_ssUnit : List Res := [.tmp 4]
theorem c_spec_ssUnit : compiled Tryd.prog Tryd.f36 = some (m_spec_ssUnit, r_spec_ssUnit) := by kernel_rfl
theorem hb_spec_ssUnit : hasBody Tryd.prog 36 = true := by kernel_rfl
def L_spec_ssUnit (a0 : Int) (a1 : Int) : Option (List Int) :=
 og (0 ≤ a0 ∧ a0 ≤ a0 ∧ a0 ≤ 1073741824 ∧ (8 : Int) * a0 ≤ 140737488355328) <|
Option.bind (getI (List.replicate a0.toNat (0 : Int)) a1) fun x5 =>
some ((List.replicate a0.toNat (0 : Int)).set a1.toNat 1)
def rv_spec_ssUnit (r : List Int) : RV := ⟨false, [(false, [.new 3 .int r])]⟩
theorem ok_spec_ssUnit {a0 : Int} {a1 : Int} {r : List Int} (h : L_spec_ssUnit a0 a1 = some r) : CallOK Tryd.prog Tab 36 [(ai a0), (ai a1)] (rv_spec_ssUnit r) := by
 refine call_of_ (by kernel_rfl) Tryd.func36 c_spec_ssUnit (n := 12) (by kernel_rfl) (by simp) (tl := [(0, (ai a0)), (1, (ai a1))]) rfl ?_
 unfold m_spec_ssUnit
 unfold L_spec_ssUnit at h
 refine seqR ?_
 refine awp_seqv_ ?_
 obtain ⟨g3, h⟩ := og_some h
 refine awp_region_ 5 ?_
 refine rs0 (ai a0) (by kernel_rfl) ?_
 refine rs1 (.own (oi 7 3) .int 0 a0.toNat) (oi 7 3) (.arr 3 .int (List.replicate a0.toNat (0 : Int))) (s_make (t := .int) (k := .i64) (k' := .i64) (m := a0) (m' := a0) (by kernel_rfl) (by kernel_rfl) g3 rfl) ?_
 refine rsB 1 ?_
 refine rnil (tn_ ?_)
 refine ⟨_, Weak.refl _, ?_⟩
 refine awp_seqv_ ?_
 obtain ⟨x5, f5, h⟩ := ob_some h
 obtain ⟨p5, b5, e5⟩ := getI_some f5
 refine awp_region_ 9 ?_
 refine rs0 (.own (oi 7 3) .int 0 a0.toNat) (by kernel_rfl) ?_
 refine rs0 (ai a1) (by kernel_rfl) ?_
 refine rs0 (.elt (oi 7 3) a1.toNat 0) (s_idxO (t := .int) (o := (oi 7 3)) (len := a0.toNat) (k := .i64) (m := a1) (by kernel_rfl) (by kernel_rfl) rfl p5 rfl (Nat.lt_of_lt_of_le (getN_lt e5) (Nat.le_of_eq (Eq.symm List.length_replicate.symm)))) ?_
 refine rsn2 (oi 7 3) (oi 7 3) (.arr 3 .int ((List.replicate a0.toNat (0 : Int)).set a1.toNat 1)) (s_stE (i := (oi 7 3)) (j := a1.toNat) (k := 0) (e := 3) (t := .int) (xs := List.replicate a0.toNat (0 : Int)) (cs := [(ai 1)]) (x1 := 1) (by kernel_rfl) (by kernel_rfl) e5 (by kernel_rfl) (by kernel_rfl)) ?_
 refine rnil (tn_ ?_)
 refine ⟨_, Weak.refl _, ?_⟩
 refine seqR ?_
 refine awp_ret_ ?_
 obtain rfl := Option.some.inj h
 exact ret_ [(.own (oi 7 3) .int 0 a0.toNat)] (p_one rfl (l_own (by kernel_rfl) (List.length_replicate.symm.trans List.length_set.symm)) p_nil)
def m_impl_unit : AC :=
 (.seq (rg [xo 4 (qm (.cst .nils))])
 (.seq (rg [xo 6 (qm (tm 0)), xo 7 (qc 47 [(tm 6)] [[]]), xo 5 (qm (tm 7))])
 (.seq (rg [xo 8 (qm (tm 5)), xo 9 (qm (tm 1)), xo 10 (qx 1 (tm 8) (tm 9)), xn (qs (tm 10) (ci 1))])
 (.seq (rg [xo 11 (qm (tm 5)), xo 4 (qm (tm 11))])
 .ret))))
def r_impl_unit : List Res := [.tmp 4]
theorem c_impl_unit : compiled Tryd.prog Tryd.f46 = some (m_impl_unit, r_impl_unit) := by kernel_rfl
theorem hb_impl_unit : hasBody Tryd.prog 46 = true := by kernel_rfl
def L_impl_unit (a0 : Int) (a1 : Int) : Option (List Int) :=
 Option.bind (L_impl_zeros a0) fun y3 =>
Option.bind (getI y3 a1) fun x5 =>
some (y3.set a1.toNat 1)
def rv_impl_unit (r : List Int) : RV := ⟨false, [(false, [.new 3 .int r])]⟩
theorem ok_impl_unit {a0 : Int} {a1 : Int} {r : List Int} (h : L_impl_unit a0 a1 = some r) : CallOK Tryd.prog Tab 46 [(ai a0), (ai a1)] (rv_impl_unit r) := by
 refine call_of_ (by kernel_rfl) Tryd.func46 c_impl_unit (n := 12) (by kernel_rfl) (by simp) (tl := [(0, (ai a0)), (1, (ai a1))]) rfl ?_
 unfold m_impl_unit
 unfold L_impl_unit at h
 refine seqR ?_
 refine awp_seqv_ ?_
 obtain ⟨y3, h3, h⟩ := ob_some h
 refine awp_region_ 5 ?_
 refine rs0 (ai a0) (by kernel_rfl) ?_
 refine rcall (.own (oi 112 3) .int 0 y3.length) [((oi 112 3), some (.arr 3 .int y3))] [(ai a0)] _ (caps := []) (args0 := [(ai a0)]) trivial (by kernel_rfl) (ok_impl_zeros h3) hb_impl_zeros ?_
 refine rsB 1 ?_
 refine rnil (tn_ ?_)
 refine ⟨_, Weak.refl _, ?_⟩
 refine awp_seqv_ ?_
 obtain ⟨x5, f5, h⟩ := ob_some h
 obtain ⟨p5, b5, e5⟩ := getI_some f5
 refine awp_region_ 9 ?_
 refine rs0 (.own (oi 112 3) .int 0 y3.length) (by kernel_rfl) ?_
 refine rs0 (ai a1) (by kernel_rfl) ?_
 refine rs0 (.elt (oi 112 3) a1.toNat 0) (s_idxO (t := .int) (o := (oi 112 3)) (len := y3.length) (k := .i64) (m := a1) (by kernel_rfl) (by kernel_rfl) rfl p5 rfl (getN_lt e5)) ?_
 refine rsn2 (oi 112 3) (oi 112 3) (.arr 3 .int (y3.set a1.toNat 1)) (s_stE (i := (oi 112 3)) (j := a1.toNat) (k := 0) (e := 3) (t := .int) (xs := y3) (cs := [(ai 1)]) (x1 := 1) (by kernel_rfl) (by kernel_rfl) e5 (by kernel_rfl) (by kernel_rfl)) ?_
 refine rnil (tn_ ?_)
 refine ⟨_, Weak.refl _, ?_⟩
 refine seqR ?_
 refine awp_ret_ ?_
 obtain rfl := Option.some.inj h
 exact ret_ [(.own (oi 112 3) .int 0 y3.length)] (p_one rfl (l_own (by kernel_rfl) ((rfl : y3.length = y3.length).trans List.length_set.symm)) p_nil)
end Go.Proofs.YtbgfolfhknnlgaaDoor
