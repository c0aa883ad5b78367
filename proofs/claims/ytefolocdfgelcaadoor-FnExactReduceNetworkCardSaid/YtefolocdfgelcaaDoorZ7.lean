/- Lemmas on the program and on partial functions that stand in place of its code (part 7); no condition beyond those that each one states. -/
import Derived.Test.YtefolocdfgelcaaDoorZ6
namespace Go.Proofs.YtefolocdfgelcaaDoor
open Go.RowKit Go.Deep
set_option maxRecDepth 4000
def m_spec_nwInner : AC :=
 (.seq (rg [xo 2 (.i (.box 30 (tm 0))), xo 4 (qm (cb false))])
 (.seq (rg [xo 5 (qm (tm 1)), xo 6 (qf 0 (tm 2)), xo 7 (ql (tm 6)), xo 8 (qb .sub (tm 7) (ci 1)), xo 9 (qc 85 [(tm 5), (ci 0), (tm 8)] [[], [], []]), xo 10 (qm (tm 9)), ⟨(some 11), (some (10, true)), (qf 2 (tm 2))⟩, ⟨(some 12), (some (10, true)), (ql (tm 11))⟩, ⟨(some 13), (some (10, true)), (qm (tm 1))⟩, ⟨(some 14), (some (10, true)), (qc 103 [(tm 12), (tm 13)] [[(some .int)], []])⟩, ⟨(some 15), (some (10, true)), (.i (.not (tm 14)))⟩, xo 16 (.i (.pick (tm 10) (tm 15) (cb false))), xo 17 (qm (tm 16)), ⟨(some 18), (some (17, true)), (qf 3 (tm 2))⟩, ⟨(some 19), (some (17, true)), (ql (tm 18))⟩, ⟨(some 20), (some (17, true)), (qm (tm 1))⟩, ⟨(some 21), (some (17, true)), (qc 103 [(tm 19), (tm 20)] [[(some .int)], []])⟩, ⟨(some 22), (some (17, true)), (.i (.not (tm 21)))⟩, xo 23 (.i (.pick (tm 17) (tm 22) (cb false))), xo 4 (qm (tm 23))])
 .ret))
def r_spec_nwInner : List Res := [.tmp 4]
theorem c_spec_nwInner : compiled Tryd.prog Tryd.f79 = some (m_spec_nwInner, r_spec_nwInner) := by kernel_rfl
theorem hb_spec_nwInner : hasBody Tryd.prog 79 = true := by kernel_rfl
def L_spec_nwInner (a0_0 : Int) (a0_1 : List (Int × Int × Int)) (a0_2 : List Int) (a0_3 : List Int) (a1 : Int) : Option Bool :=
 Option.bind (Option.bind (L_spec_l1In a1 0 (IntKind.i64.wrap (a0_0 - 1))) fun y3 =>
 cond y3
  (Option.bind (L_spec_l1Has a0_2 a1) fun y5 =>
  cond (!y5)
   (Option.bind (L_spec_l1Has a0_3 a1) fun y7 =>
   some (!y7))
   (some false))
  (some false)) fun l2_m4 =>
some l2_m4
def rv_spec_nwInner (r : Bool) : RV := ⟨false, [(false, [.sc (.bool r)])]⟩
theorem ok_spec_nwInner {a0_0 : Int} {a0_1 : List (Int × Int × Int)} {a0_2 : List Int} {a0_3 : List Int} {a1 : Int} {r : Bool} (h : L_spec_nwInner a0_0 a0_1 a0_2 a0_3 a1 = some r) : CallOK Tryd.prog Tab 79 [(.agg [(ai a0_0), (.tree (.pair .int (.pair .int .int)) a0_1), (.tree .int a0_2), (.tree .int a0_3)]), (ai a1)] (rv_spec_nwInner r) := by
 refine call_of_ (by kernel_rfl) Tryd.func79 c_spec_nwInner (n := 24) (by kernel_rfl) (by simp) (tl := [(0, (.agg [(ai a0_0), (.tree (.pair .int (.pair .int .int)) a0_1), (.tree .int a0_2), (.tree .int a0_3)])), (1, (ai a1))]) rfl ?_
 unfold m_spec_nwInner
 unfold L_spec_nwInner at h
 refine seqR ?_
 refine awp_seqB h (fun (l2_m4 : Bool) S_ => S_ = ⟨mkTm [(4, (.bool l2_m4))], mkOb (someL []), 2⟩) ?_ ?_
 ·intro v_ h
  obtain ⟨y3, h3, h⟩ := ob_some h
  rcases cond_some h with ⟨q4, h⟩ | ⟨q4, h⟩
  ·obtain ⟨y5, h5, h⟩ := ob_some h
   rcases cond_some h with ⟨q6, h⟩ | ⟨q6, h⟩
   ·obtain ⟨y7, h7, h⟩ := ob_some h
    refine awp_region_ 23 ?_
    refine rs0 (ai a1) (by kernel_rfl) ?_
    refine rs0 (.box (oi 2 1) 0) (by kernel_rfl) ?_
    refine rsl (ai a0_0) (by kernel_rfl) ?_
    refine rs0 (ai (IntKind.i64.wrap (a0_0 - 1))) (by kernel_rfl) ?_
    refine rcall (.bool y3) [] [(ai a1), (ai 0), (ai (IntKind.i64.wrap (a0_0 - 1)))] _ (caps := []) (args0 := [(ai a1), (ai 0), (ai (IntKind.i64.wrap (a0_0 - 1)))]) trivial (by kernel_rfl) (ok_spec_l1In h3) hb_spec_l1In ?_
    refine rs0 (.bool y3) (by kernel_rfl) ?_
    refine rs0 (.box (oi 2 1) 2) (s_gd (by kernel_rfl) q4 (by kernel_rfl)) ?_
    refine rsl (.tree .int a0_2) (s_gd (by kernel_rfl) q4 (by kernel_rfl)) ?_
    refine rs0 (ai a1) (s_gd (by kernel_rfl) q4 (by kernel_rfl)) ?_
    refine rcall (.bool y5) [] [(.tree .int a0_2), (ai a1)] _ (caps := []) (args0 := [(.tree .int a0_2), (ai a1)]) (gdOK_b (by kernel_rfl) q4) (by kernel_rfl) (ok_spec_l1Has h5) hb_spec_l1Has ?_
    refine rs0 (.bool (!y5)) (s_gd (by kernel_rfl) q4 (by kernel_rfl)) ?_
    refine rs0 (.bool (!y5)) (s_pickT (by kernel_rfl) q4) ?_
    refine rs0 (.bool (!y5)) (by kernel_rfl) ?_
    refine rs0 (.box (oi 2 1) 3) (s_gd (by kernel_rfl) q6 (by kernel_rfl)) ?_
    refine rsl (.tree .int a0_3) (s_gd (by kernel_rfl) q6 (by kernel_rfl)) ?_
    refine rs0 (ai a1) (s_gd (by kernel_rfl) q6 (by kernel_rfl)) ?_
    refine rcall (.bool y7) [] [(.tree .int a0_3), (ai a1)] _ (caps := []) (args0 := [(.tree .int a0_3), (ai a1)]) (gdOK_b (by kernel_rfl) q6) (by kernel_rfl) (ok_spec_l1Has h7) hb_spec_l1Has ?_
    refine rs0 (.bool (!y7)) (s_gd (by kernel_rfl) q6 (by kernel_rfl)) ?_
    refine rs0 (.bool (!y7)) (s_pickT (by kernel_rfl) q6) ?_
    refine rsB 1 ?_
    refine rnil (tn_ ?_)
    obtain rfl := Option.some.inj h
    exact ⟨_, (weak_ren []), rfl⟩
   refine awp_region_ 23 ?_
   refine rs0 (ai a1) (by kernel_rfl) ?_
   refine rs0 (.box (oi 2 1) 0) (by kernel_rfl) ?_
   refine rsl (ai a0_0) (by kernel_rfl) ?_
   refine rs0 (ai (IntKind.i64.wrap (a0_0 - 1))) (by kernel_rfl) ?_
   refine rcall (.bool y3) [] [(ai a1), (ai 0), (ai (IntKind.i64.wrap (a0_0 - 1)))] _ (caps := []) (args0 := [(ai a1), (ai 0), (ai (IntKind.i64.wrap (a0_0 - 1)))]) trivial (by kernel_rfl) (ok_spec_l1In h3) hb_spec_l1In ?_
   refine rs0 (.bool y3) (by kernel_rfl) ?_
   refine rs0 (.box (oi 2 1) 2) (s_gd (by kernel_rfl) q4 (by kernel_rfl)) ?_
   refine rsl (.tree .int a0_2) (s_gd (by kernel_rfl) q4 (by kernel_rfl)) ?_
   refine rs0 (ai a1) (s_gd (by kernel_rfl) q4 (by kernel_rfl)) ?_
   refine rcall (.bool y5) [] [(.tree .int a0_2), (ai a1)] _ (caps := []) (args0 := [(.tree .int a0_2), (ai a1)]) (gdOK_b (by kernel_rfl) q4) (by kernel_rfl) (ok_spec_l1Has h5) hb_spec_l1Has ?_
   refine rs0 (.bool (!y5)) (s_gd (by kernel_rfl) q4 (by kernel_rfl)) ?_
   refine rs0 (.bool (!y5)) (s_pickT (by kernel_rfl) q4) ?_
   refine rs0 (.bool (!y5)) (by kernel_rfl) ?_
   refine rs0 (.tup []) (s_skip (by kernel_rfl) q6) ?_
   refine rs0 (.tup []) (s_skip (by kernel_rfl) q6) ?_
   refine rs0 (.tup []) (s_skip (by kernel_rfl) q6) ?_
   refine rs0 (.tup []) (s_skip (by kernel_rfl) q6) ?_
   refine rs0 (.tup []) (s_skip (by kernel_rfl) q6) ?_
   refine rs0 (.bool false) (s_pickF (by kernel_rfl) q6) ?_
   refine rsB 1 ?_
   refine rnil (tn_ ?_)
   obtain rfl := Option.some.inj h
   exact ⟨_, (weak_ren []), rfl⟩
  refine awp_region_ 23 ?_
  refine rs0 (ai a1) (by kernel_rfl) ?_
  refine rs0 (.box (oi 2 1) 0) (by kernel_rfl) ?_
  refine rsl (ai a0_0) (by kernel_rfl) ?_
  refine rs0 (ai (IntKind.i64.wrap (a0_0 - 1))) (by kernel_rfl) ?_
  refine rcall (.bool y3) [] [(ai a1), (ai 0), (ai (IntKind.i64.wrap (a0_0 - 1)))] _ (caps := []) (args0 := [(ai a1), (ai 0), (ai (IntKind.i64.wrap (a0_0 - 1)))]) trivial (by kernel_rfl) (ok_spec_l1In h3) hb_spec_l1In ?_
  refine rs0 (.bool y3) (by kernel_rfl) ?_
  refine rs0 (.tup []) (s_skip (by kernel_rfl) q4) ?_
  refine rs0 (.tup []) (s_skip (by kernel_rfl) q4) ?_
  refine rs0 (.tup []) (s_skip (by kernel_rfl) q4) ?_
  refine rs0 (.tup []) (s_skip (by kernel_rfl) q4) ?_
  refine rs0 (.tup []) (s_skip (by kernel_rfl) q4) ?_
  refine rs0 (.bool false) (s_pickF (by kernel_rfl) q4) ?_
  refine rsB 8 ?_
  refine rnil (tn_ ?_)
  obtain rfl := Option.some.inj h
  exact ⟨_, (weak_ren []), rfl⟩
 rintro l2_m4 _ rfl h
 (try dsimp only at h)
 refine awp_ret_ ?_
 obtain rfl := Option.some.inj h
 exact ret_ [(.bool l2_m4)] (p_one rfl (l_sc (by kernel_rfl)) p_nil)
def m_spec_fdMul : AC :=
 (.seq (rg [xo 6 (qm (ci 0))])
 (.seq (rg [xo 7 (qm (tm 1)), xo 8 (qm (tm 2)), xo 9 (qb .mul (tm 7) (tm 8)), xo 10 (qm (tm 0)), xo 11 (qb .rem (tm 9) (tm 10)), xo 6 (qm (tm 11))])
 .ret))
def r_spec_fdMul : List Res := [.tmp 6]
theorem c_spec_fdMul : compiled Tryd.prog Tryd.f49 = some (m_spec_fdMul, r_spec_fdMul) := by kernel_rfl
theorem hb_spec_fdMul : hasBody Tryd.prog 49 = true := by kernel_rfl
def L_spec_fdMul (a0 : Int) (a1 : Int) (a2 : Int) : Option Int :=
 og (a0 ≠ 0) <|
some (Int.tmod (IntKind.i64.wrap (a1 * a2)) a0)
def rv_spec_fdMul (r : Int) : RV := ⟨false, [(false, [.sc (.int .i64 r)])]⟩
theorem ok_spec_fdMul {a0 : Int} {a1 : Int} {a2 : Int} {r : Int} (h : L_spec_fdMul a0 a1 a2 = some r) : CallOK Tryd.prog Tab 49 [(ai a0), (ai a1), (ai a2)] (rv_spec_fdMul r) := by
 refine call_of_ (by kernel_rfl) Tryd.func49 c_spec_fdMul (n := 12) (by kernel_rfl) (by simp) (tl := [(0, (ai a0)), (1, (ai a1)), (2, (ai a2))]) rfl ?_
 unfold m_spec_fdMul
 unfold L_spec_fdMul at h
 refine seqR ?_
 refine awp_seqv_ ?_
 obtain ⟨g3, h⟩ := og_some h
 refine awp_region_ 8 ?_
 refine rs0 (ai a1) (by kernel_rfl) ?_
 refine rs0 (ai a2) (by kernel_rfl) ?_
 refine rs0 (ai (IntKind.i64.wrap (a1 * a2))) (by kernel_rfl) ?_
 refine rs0 (ai a0) (by kernel_rfl) ?_
 refine rs0 (ai (Int.tmod (IntKind.i64.wrap (a1 * a2)) a0)) (s_rem (k := .i64) (a := IntKind.i64.wrap (a1 * a2)) (b := a0) (by kernel_rfl) (by kernel_rfl) g3) ?_
 refine rsB 1 ?_
 refine rnil (tn_ ?_)
 refine ⟨_, Weak.refl _, ?_⟩
 refine awp_ret_ ?_
 obtain rfl := Option.some.inj h
 exact ret_ [(ai (Int.tmod (IntKind.i64.wrap (a1 * a2)) a0))] (p_one rfl (l_sc (by kernel_rfl)) p_nil)
def m_spec_fdInv_l1 : AC :=
 (.seq (.seq (rg [xo 6 (qm (tm 5)), xo 7 (qm (tm 0)), xo 8 (qb .lss (tm 6) (tm 7))])
 (.cond (tm 8)
  .skip
  (.exit 0)))
 (.seq (.block 1 (.seq (rg [xo 11 (qm (tm 1)), xo 12 (qm (tm 5)), xo 13 (qb .mul (tm 11) (tm 12)), xo 14 (qm (tm 0)), xo 15 (qb .rem (tm 13) (tm 14)), xo 16 (qb .eql (tm 15) (ci 1))])
 (.cond (tm 16)
  (.seq (rg [xo 17 (qm (tm 5)), xo 4 (qm (tm 17))])
  .ret)
  .skip)))
 (rg [xo 9 (qm (tm 5)), xo 10 (qb .add (tm 9) (ci 1)), xo 5 (qm (tm 10))])))
def m_spec_fdInv : AC :=
 (.seq (rg [xo 4 (qm (ci 0))])
 (.seq (.seq (rg [xo 5 (qm (ci 1))])
 (.block 0 (.loop m_spec_fdInv_l1)))
 (.seq (rg [xo 4 (qm (ci 0))])
 .ret)))
def r_spec_fdInv : List Res := [.tmp 4]
theorem c_spec_fdInv : compiled Tryd.prog Tryd.f104 = some (m_spec_fdInv, r_spec_fdInv) := by kernel_rfl
theorem hb_spec_fdInv : hasBody Tryd.prog 104 = true := by kernel_rfl
def L_spec_fdInv_l1 (a0 : Int) (a1 : Int) (l4_m5 : Nat) : Option (Ctl Nat (Ctl Unit Int)) :=
 cond (decide (((l4_m5 : Nat) : Int) < a0))
 (og (a0 ≠ 0) <|
 cond ((Int.tmod (IntKind.i64.wrap (a1 * ((l4_m5 : Nat) : Int))) a0) == 1)
  (some (Ctl.out (Ctl.out ((l4_m5 : Nat) : Int))))
  (og (l4_m5 + 1 < 4611686018427387904) <|
  some (Ctl.next (l4_m5 + 1))))
 (some (Ctl.out (Ctl.next ())))
def L_spec_fdInv (a0 : Int) (a1 : Int) : Option Int :=
 seqC (loopM (fun s_ : Nat => L_spec_fdInv_l1 a0 a1 s_) 4611686018427387904 1) fun _ =>
some 0
def rv_spec_fdInv (r : Int) : RV := ⟨false, [(false, [.sc (.int .i64 r)])]⟩
theorem ok_spec_fdInv {a0 : Int} {a1 : Int} {r : Int} (h : L_spec_fdInv a0 a1 = some r) : CallOK Tryd.prog Tab 104 [(ai a0), (ai a1)] (rv_spec_fdInv r) := by
 refine call_of_ (by kernel_rfl) Tryd.func104 c_spec_fdInv (n := 18) (by kernel_rfl) (by simp) (tl := [(0, (ai a0)), (1, (ai a1))]) rfl ?_
 unfold m_spec_fdInv
 unfold L_spec_fdInv at h
 refine seqR ?_
 refine awp_seqC h (fun (_ : Unit) S_ => S_ = ⟨mkTm [], mkOb (someL []), 2⟩) ?_ ?_
 ·intro v_ h hk2
  refine seqR ?_
  refine awp_block_ ?_
  refine awp_loopL h (fun (l4_m5 : Nat) S_ => S_ = ⟨mkTm [(0, (ai a0)), (1, (ai a1)), (5, (ai ((l4_m5 : Nat) : Int)))], mkOb (someL []), 2⟩) ⟨_, (weak_ren []), rfl⟩ ?_
  rintro n_ l4_m5 _ c_ rfl h hn4
  (try dsimp only at h)
  unfold L_spec_fdInv_l1 at h
  unfold m_spec_fdInv_l1
  refine awp_seqv_ ?_
  refine seqR ?_
  rcases cond_some h with ⟨q7, h⟩ | ⟨q7, h⟩
  ·have q7_ := of_decide_eq_true q7
   refine awp_condT_ q7 ?_
   refine awp_skip_ (tn_ ?_)
   refine ⟨_, Weak.refl _, ?_⟩
   refine awp_seqv_ ?_
   refine awp_block_ ?_
   refine awp_seqv_ ?_
   obtain ⟨g10, h⟩ := og_some h
   refine awp_region_ 11 ?_
   refine rs0 (ai a1) (by kernel_rfl) ?_
   refine rs0 (ai ((l4_m5 : Nat) : Int)) (by kernel_rfl) ?_
   refine rs0 (ai (IntKind.i64.wrap (a1 * ((l4_m5 : Nat) : Int)))) (by kernel_rfl) ?_
   refine rs0 (ai a0) (by kernel_rfl) ?_
   refine rs0 (ai (Int.tmod (IntKind.i64.wrap (a1 * ((l4_m5 : Nat) : Int))) a0)) (s_rem (k := .i64) (a := IntKind.i64.wrap (a1 * ((l4_m5 : Nat) : Int))) (b := a0) (by kernel_rfl) (by kernel_rfl) g10) ?_
   refine rsB 1 ?_
   refine rnil (tn_ ?_)
   refine ⟨_, Weak.refl _, ?_⟩
   rcases cond_some h with ⟨q11, h⟩ | ⟨q11, h⟩
   ·refine awp_condT_ q11 ?_
    refine seqR ?_
    refine awp_ret_ (br_ (tr_ (tr_ (br_ (tr_ ?_)))))
    obtain rfl := Option.some.inj h
    have h := hn4
    (try dsimp only at h)
    obtain rfl := Option.some.inj h
    have h := hk2
    (try dsimp only at h)
    obtain rfl := Option.some.inj h
    exact ret_ [(ai ((l4_m5 : Nat) : Int))] (p_one rfl (l_sc (by kernel_rfl)) p_nil)
   refine awp_condF_ q11 ?_
   refine awp_skip_ (bn_ (tn_ ?_))
   refine ⟨_, Weak.refl _, ?_⟩
   obtain ⟨g13, h⟩ := og_some h
   refine awp_region_ 14 ?_
   refine rs0 (ai ((l4_m5 : Nat) : Int)) (by kernel_rfl) ?_
   refine rs0 (ai ((l4_m5 + 1 : Nat) : Int)) (s_add1 (j := l4_m5) (by kernel_rfl) (by kernel_rfl) g13) ?_
   refine rsB 1 ?_
   refine rnil (tn_ ?_)
   obtain rfl := Option.some.inj h
   exact ⟨l4_m5 + 1, _, (weak_ren []), rfl, hn4⟩
  have q7_ := of_decide_eq_false q7
  refine awp_condF_ q7 ?_
  refine awp_exit_ (te_ (te_ (be_ (tn_ ?_))))
  obtain rfl := Option.some.inj h
  have h := hn4
  (try dsimp only at h)
  obtain rfl := Option.some.inj h
  exact ⟨(), _, rfl, (weak_ren []), rfl⟩
 rintro _ _ rfl h
 (try dsimp only at h)
 refine seqR ?_
 refine awp_ret_ ?_
 obtain rfl := Option.some.inj h
 exact ret_ [(ai 0)] (p_one rfl (l_sc (by kernel_rfl)) p_nil)
def m_spec_nwMap_l1 : AC :=
 (.seq (rg [xo 24 (qb .lss (tm 23) (tm 22))])
 (.seq (.cond (tm 24)
  .skip
  (.exit 0))
 (.seq (.block 1 (.seq (rg [xo 25 (qx 3 (tm 21) (tm 23)), xo 26 (.i (.ld false 3 (tm 25))), xo 9 (.i (.alloc 59 [(.int .i64 0), (.int .i64 0), (.int .i64 0)])), xn (.st false 3 (tm 9) (tm 26))])
 (.seq (.region [xo 27 (qm (tm 1)), xo 28 (qf 0 (tm 9)), xo 29 (ql (tm 28)), xo 30 (qx 1 (tm 27) (tm 29)), xo 31 (ql (tm 30)), xo 32 (qm (tm 1)), xo 33 (qf 1 (tm 9)), xo 34 (ql (tm 33)), xo 35 (qx 1 (tm 32) (tm 34)), xo 36 (ql (tm 35)), xo 37 (qb .neq (tm 31) (tm 36))] true [])
 (.cond (tm 37)
  (.region [xo 38 (qf 1 (tm 7)), xo 39 (ql (tm 38)), xo 40 (qm (tm 1)), xo 41 (qf 0 (tm 9)), xo 42 (ql (tm 41)), xo 43 (qx 1 (tm 40) (tm 42)), xo 44 (ql (tm 43)), xo 45 (qm (tm 1)), xo 46 (qf 1 (tm 9)), xo 47 (ql (tm 46)), xo 48 (qx 1 (tm 45) (tm 47)), xo 49 (ql (tm 48)), xo 50 (qf 2 (tm 9)), xo 51 (ql (tm 50)), xo 52 (.build [(.int .i64 0), (.int .i64 0), (.int .i64 0)] [(0, 1, (tm 44)), (1, 1, (tm 49)), (2, 1, (tm 51))]), xo 53 (.mkS 59 (.pair .int (.pair .int .int)) [(tm 52)]), xo 54 (.append 59 (.pair .int (.pair .int .int)) 24 (tm 39) (tm 53)), xo 55 (qf 1 (tm 7)), xn (qs (tm 55) (tm 54))] true [])
  .skip))))
 (rg [xo 56 (qb .add (tm 23) (ci 1)), xo 23 (qm (tm 56))]))))
def m_spec_nwMap : AC :=
 (.seq (rg [xo 3 (.i (.box 30 (tm 0))), xo 6 (.i (.alloc 30 [(.int .i64 0), .nils, .nils, .nils]))])
 (.seq (.region [xo 10 (qm (tm 2)), xo 11 (qf 2 (tm 3)), xo 12 (ql (tm 11)), xo 13 (qm (tm 1)), xo 14 (qc 100 [(tm 12), (tm 13)] [[(some .int)], [(some .int)]]), xo 15 (qf 3 (tm 3)), xo 16 (ql (tm 15)), xo 17 (qm (tm 1)), xo 18 (qc 100 [(tm 16), (tm 17)] [[(some .int)], [(some .int)]]), xo 19 (.build [(.int .i64 0), .nils, .nils, .nils] [(0, 1, (tm 10)), (2, 1, (tm 14)), (3, 1, (tm 18))]), xo 7 (.i (.alloc 30 [(.int .i64 0), .nils, .nils, .nils])), xn (.st false 4 (tm 7) (tm 19))] true [(4, 6), (4, 10), (8, 10)])
 (.seq (.seq (rg [xo 20 (qf 1 (tm 3)), xo 21 (ql (tm 20)), xo 22 (.i (.len (tm 21))), xo 23 (qm (ci 0))])
 (.block 0 (.loop m_spec_nwMap_l1)))
 (.seq (rg [xo 57 (.i (.ld false 4 (tm 7))), xn (.st false 4 (tm 6) (tm 57))])
 .ret))))
def r_spec_nwMap : List Res := [.cell 6 false 4]
theorem c_spec_nwMap : compiled Tryd.prog Tryd.f102 = some (m_spec_nwMap, r_spec_nwMap) := by kernel_rfl
theorem hb_spec_nwMap : hasBody Tryd.prog 102 = true := by kernel_rfl
def L_spec_nwMap_l1 (a0_1 : List (Int × Int × Int)) (a1 : List Int) (l7_m23 : Nat) (l7_m7_1 : List (Int × Int × Int)) : Option (Ctl (Nat × (List (Int × Int × Int))) (List (Int × Int × Int))) :=
 cond (decide (((l7_m23 : Nat) : Int) < ((a0_1.length : Nat) : Int)))
 (Option.bind (Option.bind (a0_1[l7_m23]?) fun x13 =>
  Option.bind (getI a1 x13.1) fun x15 =>
  Option.bind (getI a1 x13.2.1) fun x16 =>
  cond (x15 != x16)
   (og (l7_m7_1.length + 1 ≤ 1073741824 ∧ (l7_m7_1.length + 1) * 24 ≤ 140737488355328) <|
   some (l7_m7_1 ++ ([(x15, x16, x13.2.2)])))
   (some l7_m7_1)) fun l11_m7_1 =>
 og (l7_m23 + 1 < 4611686018427387904) <|
 some (Ctl.next (l7_m23 + 1, l11_m7_1)))
 (some (Ctl.out l7_m7_1))
def L_spec_nwMap (a0_0 : Int) (a0_1 : List (Int × Int × Int)) (a0_2 : List Int) (a0_3 : List Int) (a1 : List Int) (a2 : Int) : Option (Int × (List (Int × Int × Int)) × List Int × List Int) :=
 Option.bind (L_spec_hgList a0_2 a1) fun y3 =>
Option.bind (L_spec_hgList a0_3 a1) fun y4 =>
Option.bind (loopM (fun s_ : Nat × (List (Int × Int × Int)) => L_spec_nwMap_l1 a0_1 a1 s_.1 s_.2) 4611686018427387904 (0, [])) fun l5_m7_1 =>
some (a2, l5_m7_1, y3, y4)
def rv_spec_nwMap (r : Int × (List (Int × Int × Int)) × List Int × List Int) : RV := ⟨false, [(true, [.sc (.int .i64 r.1), .new 59 (.pair .int (.pair .int .int)) r.2.1, .new 3 .int r.2.2.1, .new 3 .int r.2.2.2])]⟩
theorem ok_spec_nwMap {a0_0 : Int} {a0_1 : List (Int × Int × Int)} {a0_2 : List Int} {a0_3 : List Int} {a1 : List Int} {a2 : Int} {r : Int × (List (Int × Int × Int)) × List Int × List Int} (h : L_spec_nwMap a0_0 a0_1 a0_2 a0_3 a1 a2 = some r) : CallOK Tryd.prog Tab 102 [(.agg [(ai a0_0), (.tree (.pair .int (.pair .int .int)) a0_1), (.tree .int a0_2), (.tree .int a0_3)]), (.tree .int a1), (ai a2)] (rv_spec_nwMap r) := by
 refine call_of_ (by kernel_rfl) Tryd.func102 c_spec_nwMap (n := 58) (by kernel_rfl) (by simp) (tl := [(0, (.agg [(ai a0_0), (.tree (.pair .int (.pair .int .int)) a0_1), (.tree .int a0_2), (.tree .int a0_3)])), (1, (.tree .int a1)), (2, (ai a2))]) rfl ?_
 unfold m_spec_nwMap
 unfold L_spec_nwMap at h
 refine seqR ?_
 refine awp_seqv_ ?_
 obtain ⟨y3, h3, h⟩ := ob_some h
 obtain ⟨y4, h4, h⟩ := ob_some h
 refine awp_regionD_ 15 ?_
 refine ds0 (ai a2) (by kernel_rfl) ?_
 refine ds0 (.box (oi 3 1) 2) (by kernel_rfl) ?_
 refine dsl (.tree .int a0_2) (by kernel_rfl) ?_
 refine ds0 (.tree .int a1) (by kernel_rfl) ?_
 refine dcall (.own (oi 224 7) .int 0 y3.length) [((oi 224 7), some (.arr 3 .int y3))] [(.tree .int a0_2), (.tree .int a1)] _ (caps := []) (args0 := [(.tree .int a0_2), (.tree .int a1)]) trivial (by kernel_rfl) (ok_spec_hgList h3) hb_spec_hgList ?_
 refine ds0 (.box (oi 3 1) 3) (by kernel_rfl) ?_
 refine dsl (.tree .int a0_3) (by kernel_rfl) ?_
 refine ds0 (.tree .int a1) (by kernel_rfl) ?_
 refine dcall (.own (oi 288 11) .int 0 y4.length) [((oi 288 11), some (.arr 3 .int y4))] [(.tree .int a0_3), (.tree .int a1)] _ (caps := []) (args0 := [(.tree .int a0_3), (.tree .int a1)]) trivial (by kernel_rfl) (ok_spec_hgList h4) hb_spec_hgList ?_
 refine ds0 (.agg [(ai a2), .nils, (.own (oi 224 7) .int 0 y3.length), (.own (oi 288 11) .int 0 y4.length)]) (by kernel_rfl) ?_
 refine ds1 (.box (oi 7 13) 0) (oi 7 13) (.cells 30 [(ai 0), .nils, .nils, .nils]) (by kernel_rfl) ?_
 refine dsn2 (oi 7 13) (oi 7 13) (.cells 30 [(ai a2), .nils, (.own (oi 224 7) .int 0 y3.length), (.own (oi 288 11) .int 0 y4.length)]) (by kernel_rfl) ?_
 refine dnil (badB_spec (by kernel_rfl)) (tn_ ?_)
 refine ⟨_, Weak.refl _, ?_⟩
 refine awp_seqB h (fun (l5_m7_1 : List (Int × Int × Int)) S_ => S_ = ⟨mkTm [(6, (.box (oi 0 1) 0)), (7, (.box (oi 1 1) 0))], mkOb (someL [((oi 0 1), .cells 30 [(ai 0), .nils, .nils, .nils]), ((oi 1 1), .cells 30 [(ai a2), (.own (oi 2 1) (.pair .int (.pair .int .int)) 0 l5_m7_1.length), (.own (oi 3 1) .int 0 y3.length), (.own (oi 4 1) .int 0 y4.length)]), ((oi 2 1), .arr 59 (.pair .int (.pair .int .int)) l5_m7_1), ((oi 3 1), .arr 3 .int y3), ((oi 4 1), .arr 3 .int y4)]), 2⟩) ?_ ?_
 ·intro v_ h
  refine seqR ?_
  refine awp_block_ ?_
  refine awp_loopL h (fun t_ S_ => ∃ (l7_m23 : Nat), ∃ (l7_m7_1 : List (Int × Int × Int)), t_ = (l7_m23, l7_m7_1) ∧ S_ = ⟨mkTm [(1, (.tree .int a1)), (6, (.box (oi 0 1) 0)), (7, (.box (oi 1 1) 0)), (21, (.tree (.pair .int (.pair .int .int)) a0_1)), (22, (ai ((a0_1.length : Nat) : Int))), (23, (ai ((l7_m23 : Nat) : Int)))], mkOb (someL [((oi 0 1), .cells 30 [(ai 0), .nils, .nils, .nils]), ((oi 1 1), .cells 30 [(ai a2), (.own (oi 2 1) (.pair .int (.pair .int .int)) 0 l7_m7_1.length), (.own (oi 3 1) .int 0 y3.length), (.own (oi 4 1) .int 0 y4.length)]), ((oi 2 1), .arr 59 (.pair .int (.pair .int .int)) l7_m7_1), ((oi 3 1), .arr 3 .int y3), ((oi 4 1), .arr 3 .int y4)]), 2⟩) ⟨_, ((weak_nil_cell_ 9000 (oi 7 13) 1 30 [(ai a2), .nils, (.own (oi 224 7) .int 0 y3.length), (.own (oi 288 11) .int 0 y4.length)] [(ai a2), (.own (oi 9000 19) (.pair .int (.pair .int .int)) 0 0), (.own (oi 224 7) .int 0 y3.length), (.own (oi 288 11) .int 0 y4.length)] 59 (.pair .int (.pair .int .int)) rfl (by kernel_rfl) (by kernel_rfl) (by kernel_rfl)).trans (weak_ren [((oi 0 1), (oi 6 2)), ((oi 1 1), (oi 7 13)), ((oi 2 1), (oi 9000 19)), ((oi 3 1), (oi 224 7)), ((oi 4 1), (oi 288 11))])), ⟨0, [], rfl, rfl⟩⟩ ?_
  rintro n_ _ _ c_ ⟨l7_m23, l7_m7_1, rfl, rfl⟩ h hn7
  (try dsimp only at h)
  unfold L_spec_nwMap_l1 at h
  unfold m_spec_nwMap_l1
  refine seqR ?_
  refine awp_seqv_ ?_
  rcases cond_some h with ⟨q10, h⟩ | ⟨q10, h⟩
  ·have q10_ := of_decide_eq_true q10
   refine awp_condT_ q10 ?_
   refine awp_skip_ (tn_ ?_)
   refine ⟨_, Weak.refl _, ?_⟩
   refine awp_seqB h (fun (l11_m7_1 : List (Int × Int × Int)) S_ => S_ = ⟨mkTm [(1, (.tree .int a1)), (6, (.box (oi 0 1) 0)), (7, (.box (oi 1 1) 0)), (21, (.tree (.pair .int (.pair .int .int)) a0_1)), (22, (ai ((a0_1.length : Nat) : Int))), (23, (ai ((l7_m23 : Nat) : Int)))], mkOb (someL [((oi 0 1), .cells 30 [(ai 0), .nils, .nils, .nils]), ((oi 1 1), .cells 30 [(ai a2), (.own (oi 2 1) (.pair .int (.pair .int .int)) 0 l11_m7_1.length), (.own (oi 3 1) .int 0 y3.length), (.own (oi 4 1) .int 0 y4.length)]), ((oi 2 1), .arr 59 (.pair .int (.pair .int .int)) l11_m7_1), ((oi 3 1), .arr 3 .int y3), ((oi 4 1), .arr 3 .int y4)]), 2⟩) ?_ ?_
   ·intro v_ h
    refine awp_block_ ?_
    refine awp_seqv_ ?_
    obtain ⟨x13, e13, h⟩ := ob_some h
    refine awp_region_ 7 ?_
    refine rs0 (.telt (.pair .int (.pair .int .int)) x13 0) (s_idxT (t := (.pair .int (.pair .int .int))) (xs := a0_1) (k := .i64) (m := ((l7_m23 : Nat) : Int)) (by kernel_rfl) (by kernel_rfl) rfl (nat_nn _) rfl e13) ?_
    refine rsB 3 ?_
    refine rnil (tn_ ?_)
    refine ⟨_, Weak.refl _, ?_⟩
    refine awp_seqv_ ?_
    obtain ⟨x15, f15, h⟩ := ob_some h
    obtain ⟨p15, b15, e15⟩ := getI_some f15
    obtain ⟨x16, f16, h⟩ := ob_some h
    obtain ⟨p16, b16, e16⟩ := getI_some f16
    refine awp_regionD_ 18 ?_
    refine ds0 (.tree .int a1) (by kernel_rfl) ?_
    refine ds0 (.box (oi 9 5) 0) (by kernel_rfl) ?_
    refine dsl (ai x13.1) (by kernel_rfl) ?_
    refine ds0 (.telt .int x15 0) (s_idxT (t := .int) (xs := a1) (k := .i64) (m := x13.1) (by kernel_rfl) (by kernel_rfl) rfl p15 rfl e15) ?_
    refine ds0 (ai x15) (by kernel_rfl) ?_
    refine ds0 (.tree .int a1) (by kernel_rfl) ?_
    refine ds0 (.box (oi 9 5) 1) (by kernel_rfl) ?_
    refine dsl (ai x13.2.1) (by kernel_rfl) ?_
    refine ds0 (.telt .int x16 0) (s_idxT (t := .int) (xs := a1) (k := .i64) (m := x13.2.1) (by kernel_rfl) (by kernel_rfl) rfl p16 rfl e16) ?_
    refine ds0 (ai x16) (by kernel_rfl) ?_
    refine ds0 (.bool (x15 != x16)) (by kernel_rfl) ?_
    refine dnil (badB_spec (by kernel_rfl)) (tn_ ?_)
    refine ⟨_, Weak.refl _, ?_⟩
    rcases cond_some h with ⟨q17, h⟩ | ⟨q17, h⟩
    ·refine awp_condT_ q17 ?_
     obtain ⟨g18, h⟩ := og_some h
     refine awp_regionD_ 37 ?_
     refine ds0 (.box (oi 1 1) 1) (by kernel_rfl) ?_
     refine dsl (.own (oi 2 1) (.pair .int (.pair .int .int)) 0 l7_m7_1.length) (by kernel_rfl) ?_
     refine ds0 (.tree .int a1) (by kernel_rfl) ?_
     refine ds0 (.box (oi 9 5) 0) (by kernel_rfl) ?_
     refine dsl (ai x13.1) (by kernel_rfl) ?_
     refine ds0 (.telt .int x15 0) (s_idxT (t := .int) (xs := a1) (k := .i64) (m := x13.1) (by kernel_rfl) (by kernel_rfl) rfl p15 rfl e15) ?_
     refine ds0 (ai x15) (by kernel_rfl) ?_
     refine ds0 (.tree .int a1) (by kernel_rfl) ?_
     refine ds0 (.box (oi 9 5) 1) (by kernel_rfl) ?_
     refine dsl (ai x13.2.1) (by kernel_rfl) ?_
     refine ds0 (.telt .int x16 0) (s_idxT (t := .int) (xs := a1) (k := .i64) (m := x13.2.1) (by kernel_rfl) (by kernel_rfl) rfl p16 rfl e16) ?_
     refine ds0 (ai x16) (by kernel_rfl) ?_
     refine ds0 (.box (oi 9 5) 2) (by kernel_rfl) ?_
     refine dsl (ai x13.2.2) (by kernel_rfl) ?_
     refine ds0 (.agg [(ai x15), (ai x16), (ai x13.2.2)]) (by kernel_rfl) ?_
     refine ds1 (.own (oi 53 33) (.pair .int (.pair .int .int)) 0 1) (oi 53 33) (.arr 59 (.pair .int (.pair .int .int)) ([(x15, x16, x13.2.2)])) (by kernel_rfl) ?_
     refine ds2 (.own (oi 2 34) (.pair .int (.pair .int .int)) 0 ((l7_m7_1 ++ ([(x15, x16, x13.2.2)])).length)) (oi 2 1) (oi 2 34) (.arr 59 (.pair .int (.pair .int .int)) (l7_m7_1 ++ ([(x15, x16, x13.2.2)]))) (s_appO (t := (.pair .int (.pair .int .int))) (t' := (.pair .int (.pair .int .int))) (xs := l7_m7_1) (ys := [(x15, x16, x13.2.2)]) (zs := l7_m7_1 ++ ([(x15, x16, x13.2.2)])) (j := (oi 2 1)) (len := l7_m7_1.length) (c := (.own (oi 53 33) (.pair .int (.pair .int .int)) 0 1)) (by kernel_rfl) (by kernel_rfl) rfl (by kernel_rfl) (sr_own (e := 59) (by kernel_rfl) rfl) rfl g18) ?_
     refine ds0 (.box (oi 1 1) 1) (by kernel_rfl) ?_
     refine dsn2 (oi 1 1) (oi 1 1) (.cells 30 [(ai a2), (.own (oi 2 34) (.pair .int (.pair .int .int)) 0 ((l7_m7_1 ++ ([(x15, x16, x13.2.2)])).length)), (.own (oi 3 1) .int 0 y3.length), (.own (oi 4 1) .int 0 y4.length)]) (by kernel_rfl) ?_
     refine dnil (badB_spec (by kernel_rfl)) (bn_ (tn_ ?_))
     obtain rfl := Option.some.inj h
     exact ⟨_, (weak_ren [((oi 2 1), (oi 2 34))]), rfl⟩
    refine awp_condF_ q17 ?_
    refine awp_skip_ (bn_ (tn_ ?_))
    obtain rfl := Option.some.inj h
    exact ⟨_, (weak_ren []), rfl⟩
   rintro l11_m7_1 _ rfl h
   (try dsimp only at h)
   obtain ⟨g19, h⟩ := og_some h
   refine awp_region_ 4 ?_
   refine rs0 (ai ((l7_m23 + 1 : Nat) : Int)) (s_add1 (j := l7_m23) (by kernel_rfl) (by kernel_rfl) g19) ?_
   refine rsB 1 ?_
   refine rnil (tn_ ?_)
   obtain rfl := Option.some.inj h
   exact ⟨(l7_m23 + 1, l11_m7_1), _, (weak_ren []), ⟨l7_m23 + 1, l11_m7_1, rfl, rfl⟩, hn7⟩
  have q10_ := of_decide_eq_false q10
  refine awp_condF_ q10 ?_
  refine awp_exit_ (te_ (te_ (be_ (tn_ ?_))))
  obtain rfl := Option.some.inj h
  have h := hn7
  (try dsimp only at h)
  obtain rfl := Option.some.inj h
  exact ⟨_, (weak_ren []), rfl⟩
 rintro l5_m7_1 _ rfl h
 (try dsimp only at h)
 refine seqR ?_
 refine awp_ret_ ?_
 obtain rfl := Option.some.inj h
 exact ret_ [(.agg [(ai a2), (.own (oi 2 1) (.pair .int (.pair .int .int)) 0 l5_m7_1.length), (.own (oi 3 1) .int 0 y3.length), (.own (oi 4 1) .int 0 y4.length)])] (p_agg (l_cons (l_sc (by kernel_rfl)) (l_cons (l_own (by kernel_rfl) rfl) (l_cons (l_own (by kernel_rfl) rfl) (l_cons (l_own (by kernel_rfl) rfl) l_nil)))) p_nil)
def m_spec_nwStar_l4 : AC :=
 (.seq (rg [xo 136 (qb .lss (tm 135) (tm 134))])
 (.seq (.cond (tm 136)
  .skip
  (.exit 7))
 (.seq (.block 8 (.seq (rg [xo 137 (qm (tm 135)), xo 18 (qm (tm 137))])
 (.seq (rg [xo 138 (qm (tm 17)), xo 139 (qm (tm 18)), xo 140 (qm (tm 18)), xo 141 (qx 1 (tm 138) (tm 139)), xn (qs (tm 141) (tm 140))])
 (.seq (rg [xo 142 (qm (tm 18)), xo 143 (qm (tm 2)), xo 144 (qb .gtr (tm 142) (tm 143))])
 (.cond (tm 144)
  (rg [xo 145 (qm (tm 17)), xo 146 (qm (tm 18)), xo 147 (qm (tm 18)), xo 148 (qb .sub (tm 147) (ci 1)), xo 149 (qx 1 (tm 145) (tm 146)), xn (qs (tm 149) (tm 148))])
  .skip)))))
 (rg [xo 150 (qb .add (tm 135) (ci 1)), xo 135 (qm (tm 150))]))))
def m_spec_nwStar_l3 : AC :=
 (.seq (rg [xo 101 (qb .lss (tm 100) (tm 99))])
 (.seq (.cond (tm 101)
  .skip
  (.exit 5))
 (.seq (.block 6 (.seq (rg [xo 102 (qx 3 (tm 98) (tm 100)), xo 103 (.i (.ld false 3 (tm 102))), xo 16 (.i (.alloc 59 [(.int .i64 0), (.int .i64 0), (.int .i64 0)])), xn (.st false 3 (tm 16) (tm 103))])
 (.seq (rg [xo 104 (qf 1 (tm 14)), xo 105 (ql (tm 104)), xo 106 (qf 1 (tm 16)), xo 107 (ql (tm 106)), xo 108 (qb .neq (tm 105) (tm 107))])
 (.cond (tm 108)
  (.region [xo 109 (qm (tm 9)), xo 110 (qf 1 (tm 14)), xo 111 (ql (tm 110)), xo 112 (qf 1 (tm 16)), xo 113 (ql (tm 112)), xo 114 (qm (tm 0)), xo 115 (qm (tm 0)), xo 116 (qf 2 (tm 14)), xo 117 (ql (tm 116)), xo 118 (qf 2 (tm 16)), xo 119 (ql (tm 118)), xo 120 (qc 49 [(tm 115), (tm 117), (tm 119)] [[], [], []]), xo 121 (qm (tm 0)), xo 122 (qm (tm 10)), xo 123 (qc 104 [(tm 121), (tm 122)] [[], []]), xo 124 (qc 49 [(tm 114), (tm 120), (tm 123)] [[], [], []]), xo 125 (.build [(.int .i64 0), (.int .i64 0), (.int .i64 0)] [(0, 1, (tm 111)), (1, 1, (tm 113)), (2, 1, (tm 124))]), xo 126 (.mkS 59 (.pair .int (.pair .int .int)) [(tm 125)]), xo 127 (.append 59 (.pair .int (.pair .int .int)) 24 (tm 109) (tm 126)), xo 9 (qm (tm 127))] true [(2, 11), (4, 11), (2, 14), (4, 14), (2, 15), (4, 15)])
  .skip))))
 (rg [xo 128 (qb .add (tm 100) (ci 1)), xo 100 (qm (tm 128))]))))
def m_spec_nwStar_l2 : AC :=
 (.seq (rg [xo 91 (qb .lss (tm 90) (tm 89))])
 (.seq (.cond (tm 91)
  .skip
  (.exit 3))
 (.seq (.block 4 (.seq (rg [xo 92 (qm (tm 90)), xo 93 (qx 3 (tm 88) (tm 90)), xo 94 (.i (.ld false 3 (tm 93))), xo 14 (.i (.alloc 59 [(.int .i64 0), (.int .i64 0), (.int .i64 0)])), xo 13 (qm (tm 92)), xn (.st false 3 (tm 14) (tm 94))])
 (.seq (rg [xo 95 (qm (tm 8)), xo 96 (qm (tm 13)), xo 97 (qb .add (tm 96) (ci 1)), xo 98 (.slice 3 (tm 95) (some (tm 97)) none none), xo 99 (.i (.len (tm 98))), xo 100 (qm (ci 0))])
 (.block 5 (.loop m_spec_nwStar_l3)))))
 (rg [xo 129 (qb .add (tm 90) (ci 1)), xo 90 (qm (tm 129))]))))
def m_spec_nwStar_l1 : AC :=
 (.seq (rg [xo 24 (qb .lss (tm 23) (tm 22))])
 (.seq (.cond (tm 24)
  .skip
  (.exit 0))
 (.seq (.block 1 (.seq (rg [xo 25 (qx 3 (tm 21) (tm 23)), xo 26 (.i (.ld false 3 (tm 25))), xo 12 (.i (.alloc 59 [(.int .i64 0), (.int .i64 0), (.int .i64 0)])), xn (.st false 3 (tm 12) (tm 26))])
 (.seq (rg [xo 27 (qm (tm 2))])
 (.block 2 (.seq (rg [xo 33 (qf 0 (tm 12)), xo 34 (ql (tm 33)), xo 35 (qb .eql (tm 27) (tm 34)), xo 32 (qm (tm 35))])
 (.cond (tm 32)
  (.seq (rg [xo 36 (qm (tm 8)), xo 37 (qm (tm 2)), xo 38 (qf 1 (tm 12)), xo 39 (ql (tm 38)), xo 40 (qf 2 (tm 12)), xo 41 (ql (tm 40)), xo 42 (.build [(.int .i64 0), (.int .i64 0), (.int .i64 0)] [(0, 1, (tm 37)), (1, 1, (tm 39)), (2, 1, (tm 41))]), xo 43 (.mkS 59 (.pair .int (.pair .int .int)) [(tm 42)]), xo 44 (.append 59 (.pair .int (.pair .int .int)) 24 (tm 36) (tm 43)), xo 8 (qm (tm 44))])
  (rg [xo 45 (qm (tm 0)), xo 46 (qm (tm 10)), xo 47 (qf 2 (tm 12)), xo 48 (ql (tm 47)), xo 49 (qc 48 [(tm 45), (tm 46), (tm 48)] [[], [], []]), xo 10 (qm (tm 49))]))
  (.seq (rg [xo 51 (qf 1 (tm 12)), xo 52 (ql (tm 51)), xo 53 (qb .eql (tm 27) (tm 52)), xo 50 (qm (tm 53))])
  (.cond (tm 50)
   (.seq (rg [xo 54 (qm (tm 8)), xo 55 (qm (tm 2)), xo 56 (qf 0 (tm 12)), xo 57 (ql (tm 56)), xo 58 (qf 2 (tm 12)), xo 59 (ql (tm 58)), xo 60 (.build [(.int .i64 0), (.int .i64 0), (.int .i64 0)] [(0, 1, (tm 55)), (1, 1, (tm 57)), (2, 1, (tm 59))]), xo 61 (.mkS 59 (.pair .int (.pair .int .int)) [(tm 60)]), xo 62 (.append 59 (.pair .int (.pair .int .int)) 24 (tm 54) (tm 61)), xo 8 (qm (tm 62))])
   (rg [xo 63 (qm (tm 0)), xo 64 (qm (tm 10)), xo 65 (qf 2 (tm 12)), xo 66 (ql (tm 65)), xo 67 (qc 48 [(tm 63), (tm 64), (tm 66)] [[], [], []]), xo 10 (qm (tm 67))]))
   (rg [xo 28 (qm (tm 9)), xo 29 (.i (.ld false 3 (tm 12))), xo 30 (.mkS 59 (.pair .int (.pair .int .int)) [(tm 29)]), xo 31 (.append 59 (.pair .int (.pair .int .int)) 24 (tm 28) (tm 30)), xo 9 (qm (tm 31))])))))))))
 (rg [xo 68 (qb .add (tm 23) (ci 1)), xo 23 (qm (tm 68))]))))
def m_spec_nwStar : AC :=
 (.seq (rg [xo 4 (.i (.box 30 (tm 1))), xo 6 (.i (.alloc 30 [(.int .i64 0), .nils, .nils, .nils])), xo 7 (qm (cb false))])
 (.seq (rg [xo 8 (qm (.cst .nils)), xo 9 (qm (.cst .nils))])
 (.seq (rg [xo 10 (qm (ci 0))])
 (.seq (.seq (rg [xo 20 (qf 1 (tm 4)), xo 21 (ql (tm 20)), xo 22 (.i (.len (tm 21))), xo 23 (qm (ci 0))])
 (.block 0 (.loop m_spec_nwStar_l1)))
 (.seq (.seq (rg [xo 69 (qf 0 (tm 4)), xo 70 (ql (tm 69)), xo 71 (qb .eql (tm 70) (ci 1)), xo 72 (qm (tm 71)), ⟨(some 73), (some (72, false)), (.i (.ld false 4 (tm 4)))⟩, ⟨(some 74), (some (72, false)), (qm (tm 2))⟩, ⟨(some 75), (some (72, false)), (qc 79 [(tm 73), (tm 74)] [[none, (some (.pair .int (.pair .int .int))), (some .int), (some .int)], []])⟩, ⟨(some 76), (some (72, false)), (.i (.not (tm 75)))⟩, xo 77 (.i (.pick (tm 72) (cb true) (tm 76))), xo 78 (qm (tm 77)), ⟨(some 79), (some (78, false)), (qm (tm 8))⟩, ⟨(some 80), (some (78, false)), (.i (.len (tm 79)))⟩, ⟨(some 81), (some (78, false)), (qb .gtr (tm 80) (ci 0))⟩, ⟨(some 82), (some (78, false)), (qm (tm 81))⟩, ⟨(some 83), (some (82, true)), (qm (tm 10))⟩, ⟨(some 84), (some (82, true)), (qb .eql (tm 83) (ci 0))⟩, ⟨(some 85), (some (78, false)), (.i (.pick (tm 82) (tm 84) (cb false)))⟩, xo 86 (.i (.pick (tm 78) (cb true) (tm 85)))])
 (.cond (tm 86)
  (.seq (rg [xo 87 (.build [(.int .i64 0), .nils, .nils, .nils] []), xn (.st false 4 (tm 6) (tm 87)), xo 7 (qm (cb false))])
  .ret)
  .skip))
 (.seq (.seq (rg [xo 88 (qm (tm 8)), xo 89 (.i (.len (tm 88))), xo 90 (qm (ci 0))])
 (.block 3 (.loop m_spec_nwStar_l2)))
 (.seq (rg [xo 130 (qf 0 (tm 4)), xo 131 (ql (tm 130)), xo 132 (.make 3 .int 8 (tm 131) (tm 131)), xo 17 (qm (tm 132))])
 (.seq (.seq (rg [xo 133 (qm (tm 17)), xo 134 (.i (.len (tm 133))), xo 135 (qm (ci 0))])
 (.block 7 (.loop m_spec_nwStar_l4)))
 (.seq (rg [xo 151 (qf 0 (tm 4)), xo 152 (ql (tm 151)), xo 153 (qm (tm 9)), xo 154 (qf 2 (tm 4)), xo 155 (ql (tm 154)), xo 156 (qf 3 (tm 4)), xo 157 (ql (tm 156)), xo 158 (.build [(.int .i64 0), .nils, .nils, .nils] [(0, 1, (tm 152)), (1, 1, (tm 153)), (2, 1, (tm 155)), (3, 1, (tm 157))]), xo 19 (.i (.alloc 30 [(.int .i64 0), .nils, .nils, .nils])), xn (.st false 4 (tm 19) (tm 158))])
 (.seq (rg [xo 159 (qm (tm 0)), xo 160 (.i (.ld false 4 (tm 19))), xo 161 (qm (tm 17)), xo 162 (qf 0 (tm 4)), xo 163 (ql (tm 162)), xo 164 (qb .sub (tm 163) (ci 1)), ⟨(some 165), none, (qc 102 [(tm 160), (tm 161), (tm 164)] [[none, (some (.pair .int (.pair .int .int))), (some .int), (some .int)], [(some .int)], []])⟩, ⟨(some 166), none, (qc 65 [(tm 159), (tm 165)] [[], [none, (some (.pair .int (.pair .int .int))), (some .int), (some .int)]])⟩, xn (.st false 4 (tm 6) (tm 166)), xo 7 (qm (cb true))])
 .ret))))))))))
def r_spec_nwStar : List Res := [.cell 6 false 4, .tmp 7]
theorem c_spec_nwStar : compiled Tryd.prog Tryd.f80 = some (m_spec_nwStar, r_spec_nwStar) := by kernel_rfl
theorem hb_spec_nwStar : hasBody Tryd.prog 80 = true := by kernel_rfl
def L_spec_nwStar_l1 (a1_1 : List (Int × Int × Int)) (a2 : Int) (a0 : Int) (l6_m10 : Int) (l6_m23 : Nat) (l6_m8 : List (Int × Int × Int)) (l6_m9 : List (Int × Int × Int)) : Option (Ctl (Int × Nat × (List (Int × Int × Int)) × (List (Int × Int × Int))) (Int × (List (Int × Int × Int)) × (List (Int × Int × Int)))) :=
 cond (decide (((l6_m23 : Nat) : Int) < ((a1_1.length : Nat) : Int)))
 (Option.bind (Option.bind (a1_1[l6_m23]?) fun x12 =>
  cond (a2 == x12.1)
   (og (l6_m8.length + 1 ≤ 1073741824 ∧ (l6_m8.length + 1) * 24 ≤ 140737488355328) <|
   Option.bind (L_spec_fdAdd a0 l6_m10 x12.2.2) fun y18 =>
   some (y18, l6_m8 ++ ([(a2, x12.2)]), l6_m9))
   (cond (a2 == x12.2.1)
    (og (l6_m8.length + 1 ≤ 1073741824 ∧ (l6_m8.length + 1) * 24 ≤ 140737488355328) <|
    Option.bind (L_spec_fdAdd a0 l6_m10 x12.2.2) fun y23 =>
    some (y23, l6_m8 ++ ([(a2, x12.1, x12.2.2)]), l6_m9))
    (og (l6_m9.length + 1 ≤ 1073741824 ∧ (l6_m9.length + 1) * 24 ≤ 140737488355328) <|
    some (l6_m10, l6_m8, l6_m9 ++ ([x12]))))) fun (l10_m10, l10_m8, l10_m9) =>
 og (l6_m23 + 1 < 4611686018427387904) <|
 some (Ctl.next (l10_m10, l6_m23 + 1, l10_m8, l10_m9)))
 (some (Ctl.out (l6_m10, l6_m8, l6_m9)))
def L_spec_nwStar_l3 (l4_m8 : List (Int × Int × Int)) (l36_m90 : Nat) (x42 : Int × Int × Int) (a0 : Int) (l4_m10 : Int) (l46_m100 : Nat) (l46_m9 : List (Int × Int × Int)) : Option (Ctl (Nat × (List (Int × Int × Int))) (List (Int × Int × Int))) :=
 cond (decide (((l46_m100 : Nat) : Int) < ((l4_m8.length - (l36_m90 + 1) : Nat) : Int)))
 (Option.bind (og (0 ≤ ((l46_m100 : Nat) : Int) ∧ l46_m100 < l4_m8.length - (l36_m90 + 1)) <|
  Option.bind (l4_m8[(l36_m90 + 1) + l46_m100]?) fun x53 =>
  cond (x42.2.1 != x53.2.1)
   (Option.bind (L_spec_fdMul a0 x42.2.2 x53.2.2) fun y56 =>
   Option.bind (L_spec_fdInv a0 l4_m10) fun y57 =>
   Option.bind (L_spec_fdMul a0 y56 y57) fun y58 =>
   og (l46_m9.length + 1 ≤ 1073741824 ∧ (l46_m9.length + 1) * 24 ≤ 140737488355328) <|
   some (l46_m9 ++ ([(x42.2.1, x53.2.1, y58)])))
   (some l46_m9)) fun l50_m9 =>
 og (l46_m100 + 1 < 4611686018427387904) <|
 some (Ctl.next (l46_m100 + 1, l50_m9)))
 (some (Ctl.out l46_m9))
def L_spec_nwStar_l2 (l4_m8 : List (Int × Int × Int)) (a0 : Int) (l4_m10 : Int) (l36_m90 : Nat) (l36_m9 : List (Int × Int × Int)) : Option (Ctl (Nat × (List (Int × Int × Int))) (List (Int × Int × Int))) :=
 cond (decide (((l36_m90 : Nat) : Int) < ((l4_m8.length : Nat) : Int)))
 (Option.bind (Option.bind (l4_m8[l36_m90]?) fun x42 =>
  og (l36_m90 + 1 < 4611686018427387904) <|
  og ((0 : Int) ≤ ((l36_m90 + 1 : Nat) : Int) ∧ ((l36_m90 + 1 : Nat) : Int) ≤ ((l4_m8.length : Nat) : Int) ∧ ((l4_m8.length : Nat) : Int) ≤ ((l4_m8.length : Nat) : Int)) <|
  loopM (fun s_ : Nat × (List (Int × Int × Int)) => L_spec_nwStar_l3 l4_m8 l36_m90 x42 a0 l4_m10 s_.1 s_.2) 4611686018427387904 (0, l36_m9)) fun l40_m9 =>
 og (l36_m90 + 1 < 4611686018427387904) <|
 some (Ctl.next (l36_m90 + 1, l40_m9)))
 (some (Ctl.out l36_m9))
def L_spec_nwStar_l4 (a1_0 : Int) (a2 : Int) (l66_m135 : Nat) (l66_m17 : List Int) : Option (Ctl (Nat × List Int) (List Int)) :=
 cond (decide (((l66_m135 : Nat) : Int) < ((a1_0.toNat : Nat) : Int)))
 (Option.bind (Option.bind (l66_m17[l66_m135]?) fun x73 =>
  cond (decide (a2 < ((l66_m135 : Nat) : Int)))
   (Option.bind ((l66_m17.set l66_m135 ((l66_m135 : Nat) : Int))[l66_m135]?) fun x76 =>
   some ((l66_m17.set l66_m135 ((l66_m135 : Nat) : Int)).set l66_m135 (IntKind.i64.wrap (((l66_m135 : Nat) : Int) - 1))))
   (some (l66_m17.set l66_m135 ((l66_m135 : Nat) : Int)))) fun l70_m17 =>
 og (l66_m135 + 1 < 4611686018427387904) <|
 some (Ctl.next (l66_m135 + 1, l70_m17)))
 (some (Ctl.out l66_m17))
def L_spec_nwStar (a0 : Int) (a1_0 : Int) (a1_1 : List (Int × Int × Int)) (a1_2 : List Int) (a1_3 : List Int) (a2 : Int) : Option (Int × (List (Int × Int × Int)) × List Int × List Int × Bool) :=
 Option.bind (loopM (fun s_ : Int × Nat × (List (Int × Int × Int)) × (List (Int × Int × Int)) => L_spec_nwStar_l1 a1_1 a2 a0 s_.1 s_.2.1 s_.2.2.1 s_.2.2.2) 4611686018427387904 (0, 0, [], [])) fun (l4_m10, l4_m8, l4_m9) =>
Option.bind (cond (a1_0 == 1)
  (some true)
  (Option.bind (L_spec_nwInner a1_0 a1_1 a1_2 a1_3 a2) fun y29 =>
  cond (!y29)
   (some true)
   (cond (decide (0 < ((l4_m8.length : Nat) : Int)))
    (some (l4_m10 == 0))
    (some false)))) fun l27_m86 =>
cond l27_m86
 (some (0, [], [], [], false))
 (Option.bind (loopM (fun s_ : Nat × (List (Int × Int × Int)) => L_spec_nwStar_l2 l4_m8 a0 l4_m10 s_.1 s_.2) 4611686018427387904 (0, l4_m9)) fun l34_m9 =>
 og (0 ≤ a1_0 ∧ a1_0 ≤ a1_0 ∧ a1_0 ≤ 1073741824 ∧ (8 : Int) * a1_0 ≤ 140737488355328) <|
 Option.bind (loopM (fun s_ : Nat × List Int => L_spec_nwStar_l4 a1_0 a2 s_.1 s_.2) 4611686018427387904 (0, List.replicate a1_0.toNat (0 : Int))) fun l64_m17 =>
 Option.bind (L_spec_nwMap a1_0 l34_m9 a1_2 a1_3 l64_m17 (IntKind.i64.wrap (a1_0 - 1))) fun y80 =>
 Option.bind (L_spec_nwMerge a0 y80.1 y80.2.1 y80.2.2.1 y80.2.2.2) fun y81 =>
 some (y81.1, y81.2.1, y81.2.2.1, y81.2.2.2, true))
def rv_spec_nwStar (r : Int × (List (Int × Int × Int)) × List Int × List Int × Bool) : RV := ⟨true, [(true, [.sc (.int .i64 r.1), .new 59 (.pair .int (.pair .int .int)) r.2.1, .new 3 .int r.2.2.1, .new 3 .int r.2.2.2.1]), (false, [.sc (.bool r.2.2.2.2)])]⟩
theorem ok_spec_nwStar {a0 : Int} {a1_0 : Int} {a1_1 : List (Int × Int × Int)} {a1_2 : List Int} {a1_3 : List Int} {a2 : Int} {r : Int × (List (Int × Int × Int)) × List Int × List Int × Bool} (h : L_spec_nwStar a0 a1_0 a1_1 a1_2 a1_3 a2 = some r) : CallOK Tryd.prog Tab 80 [(ai a0), (.agg [(ai a1_0), (.tree (.pair .int (.pair .int .int)) a1_1), (.tree .int a1_2), (.tree .int a1_3)]), (ai a2)] (rv_spec_nwStar r) := by
 refine call_of_ (by kernel_rfl) Tryd.func80 c_spec_nwStar (n := 167) (by kernel_rfl) (by simp) (tl := [(0, (ai a0)), (1, (.agg [(ai a1_0), (.tree (.pair .int (.pair .int .int)) a1_1), (.tree .int a1_2), (.tree .int a1_3)])), (2, (ai a2))]) rfl ?_
 unfold m_spec_nwStar
 unfold L_spec_nwStar at h
 refine seqR ?_
 refine seqR ?_
 refine seqR ?_
 refine awp_seqB h (fun t_ S_ => ∃ (l4_m10 : Int), ∃ (l4_m8 : List (Int × Int × Int)), ∃ (l4_m9 : List (Int × Int × Int)), t_ = (l4_m10, l4_m8, l4_m9) ∧ S_ = ⟨mkTm [(0, (ai a0)), (2, (ai a2)), (4, (.box (oi 0 1) 0)), (6, (.box (oi 1 1) 0)), (8, (.own (oi 2 1) (.pair .int (.pair .int .int)) 0 l4_m8.length)), (9, (.own (oi 3 1) (.pair .int (.pair .int .int)) 0 l4_m9.length)), (10, (ai l4_m10))], mkOb (someL [((oi 0 1), .cells 30 [(ai a1_0), (.tree (.pair .int (.pair .int .int)) a1_1), (.tree .int a1_2), (.tree .int a1_3)]), ((oi 1 1), .cells 30 [(ai 0), .nils, .nils, .nils]), ((oi 2 1), .arr 59 (.pair .int (.pair .int .int)) l4_m8), ((oi 3 1), .arr 59 (.pair .int (.pair .int .int)) l4_m9)]), 2⟩) ?_ ?_
 ·intro v_ h
  refine seqR ?_
  refine awp_block_ ?_
  refine awp_loopL h (fun t_ S_ => ∃ (l6_m10 : Int), ∃ (l6_m23 : Nat), ∃ (l6_m8 : List (Int × Int × Int)), ∃ (l6_m9 : List (Int × Int × Int)), t_ = (l6_m10, l6_m23, l6_m8, l6_m9) ∧ S_ = ⟨mkTm [(0, (ai a0)), (2, (ai a2)), (4, (.box (oi 0 1) 0)), (6, (.box (oi 1 1) 0)), (8, (.own (oi 2 1) (.pair .int (.pair .int .int)) 0 l6_m8.length)), (9, (.own (oi 3 1) (.pair .int (.pair .int .int)) 0 l6_m9.length)), (10, (ai l6_m10)), (21, (.tree (.pair .int (.pair .int .int)) a1_1)), (22, (ai ((a1_1.length : Nat) : Int))), (23, (ai ((l6_m23 : Nat) : Int)))], mkOb (someL [((oi 0 1), .cells 30 [(ai a1_0), (.tree (.pair .int (.pair .int .int)) a1_1), (.tree .int a1_2), (.tree .int a1_3)]), ((oi 1 1), .cells 30 [(ai 0), .nils, .nils, .nils]), ((oi 2 1), .arr 59 (.pair .int (.pair .int .int)) l6_m8), ((oi 3 1), .arr 59 (.pair .int (.pair .int .int)) l6_m9)]), 2⟩) ⟨_, ((weak_nil_ 8 59 (.pair .int (.pair .int .int)) rfl (by kernel_rfl)).trans ((weak_nil_ 9 59 (.pair .int (.pair .int .int)) rfl (by kernel_rfl)).trans (weak_ren [((oi 0 1), (oi 4 1)), ((oi 1 1), (oi 6 2)), ((oi 2 1), (oi 8 11)), ((oi 3 1), (oi 9 12))]))), ⟨0, 0, [], [], rfl, rfl⟩⟩ ?_
  rintro n_ _ _ c_ ⟨l6_m10, l6_m23, l6_m8, l6_m9, rfl, rfl⟩ h hn6
  (try dsimp only at h)
  unfold L_spec_nwStar_l1 at h
  unfold m_spec_nwStar_l1
  refine seqR ?_
  refine awp_seqv_ ?_
  rcases cond_some h with ⟨q9, h⟩ | ⟨q9, h⟩
  ·have q9_ := of_decide_eq_true q9
   refine awp_condT_ q9 ?_
   refine awp_skip_ (tn_ ?_)
   refine ⟨_, Weak.refl _, ?_⟩
   refine awp_seqB h (fun t_ S_ => ∃ (l10_m10 : Int), ∃ (l10_m8 : List (Int × Int × Int)), ∃ (l10_m9 : List (Int × Int × Int)), t_ = (l10_m10, l10_m8, l10_m9) ∧ S_ = ⟨mkTm [(0, (ai a0)), (2, (ai a2)), (4, (.box (oi 0 1) 0)), (6, (.box (oi 1 1) 0)), (8, (.own (oi 2 1) (.pair .int (.pair .int .int)) 0 l10_m8.length)), (9, (.own (oi 3 1) (.pair .int (.pair .int .int)) 0 l10_m9.length)), (10, (ai l10_m10)), (21, (.tree (.pair .int (.pair .int .int)) a1_1)), (22, (ai ((a1_1.length : Nat) : Int))), (23, (ai ((l6_m23 : Nat) : Int)))], mkOb (someL [((oi 0 1), .cells 30 [(ai a1_0), (.tree (.pair .int (.pair .int .int)) a1_1), (.tree .int a1_2), (.tree .int a1_3)]), ((oi 1 1), .cells 30 [(ai 0), .nils, .nils, .nils]), ((oi 2 1), .arr 59 (.pair .int (.pair .int .int)) l10_m8), ((oi 3 1), .arr 59 (.pair .int (.pair .int .int)) l10_m9)]), 2⟩) ?_ ?_
   ·intro v_ h
    refine awp_block_ ?_
    refine awp_seqv_ ?_
    obtain ⟨x12, e12, h⟩ := ob_some h
    refine awp_region_ 7 ?_
    refine rs0 (.telt (.pair .int (.pair .int .int)) x12 0) (s_idxT (t := (.pair .int (.pair .int .int))) (xs := a1_1) (k := .i64) (m := ((l6_m23 : Nat) : Int)) (by kernel_rfl) (by kernel_rfl) rfl (nat_nn _) rfl e12) ?_
    refine rsB 3 ?_
    refine rnil (tn_ ?_)
    refine ⟨_, Weak.refl _, ?_⟩
    refine seqR ?_
    refine awp_block_ ?_
    refine seqR ?_
    rcases cond_some h with ⟨q15, h⟩ | ⟨q15, h⟩
    ·refine awp_condT_ q15 ?_
     refine awp_seqv_ ?_
     obtain ⟨g17, h⟩ := og_some h
     refine awp_region_ 22 ?_
     refine rs0 (.own (oi 2 1) (.pair .int (.pair .int .int)) 0 l6_m8.length) (by kernel_rfl) ?_
     refine rs0 (ai a2) (by kernel_rfl) ?_
     refine rs0 (.box (oi 12 5) 1) (by kernel_rfl) ?_
     refine rsl (ai x12.2.1) (by kernel_rfl) ?_
     refine rs0 (.box (oi 12 5) 2) (by kernel_rfl) ?_
     refine rsl (ai x12.2.2) (by kernel_rfl) ?_
     refine rs0 (.agg [(ai a2), (ai x12.2.1), (ai x12.2.2)]) (by kernel_rfl) ?_
     refine rs1 (.own (oi 43 19) (.pair .int (.pair .int .int)) 0 1) (oi 43 19) (.arr 59 (.pair .int (.pair .int .int)) ([(a2, x12.2)])) (by kernel_rfl) ?_
     refine rs2 (.own (oi 2 20) (.pair .int (.pair .int .int)) 0 ((l6_m8 ++ ([(a2, x12.2)])).length)) (oi 2 1) (oi 2 20) (.arr 59 (.pair .int (.pair .int .int)) (l6_m8 ++ ([(a2, x12.2)]))) (s_appO (t := (.pair .int (.pair .int .int))) (t' := (.pair .int (.pair .int .int))) (xs := l6_m8) (ys := [(a2, x12.2)]) (zs := l6_m8 ++ ([(a2, x12.2)])) (j := (oi 2 1)) (len := l6_m8.length) (c := (.own (oi 43 19) (.pair .int (.pair .int .int)) 0 1)) (by kernel_rfl) (by kernel_rfl) rfl (by kernel_rfl) (sr_own (e := 59) (by kernel_rfl) rfl) rfl g17) ?_
     refine rsB 1 ?_
     refine rnil (tn_ ?_)
     refine ⟨_, Weak.refl _, ?_⟩
     obtain ⟨y18, h18, h⟩ := ob_some h
     refine awp_region_ 28 ?_
     refine rs0 (ai a0) (by kernel_rfl) ?_
     refine rs0 (ai l6_m10) (by kernel_rfl) ?_
     refine rs0 (.box (oi 12 5) 2) (by kernel_rfl) ?_
     refine rsl (ai x12.2.2) (by kernel_rfl) ?_
     refine rcall (ai y18) [] [(ai a0), (ai l6_m10), (ai x12.2.2)] _ (caps := []) (args0 := [(ai a0), (ai l6_m10), (ai x12.2.2)]) trivial (by kernel_rfl) (ok_spec_fdAdd h18) hb_spec_fdAdd ?_
     refine rsB 1 ?_
     refine rnil (bn_ (bn_ (tn_ ?_)))
     obtain rfl := Option.some.inj h
     exact ⟨_, (weak_ren [((oi 2 1), (oi 2 20))]), ⟨y18, l6_m8 ++ ([(a2, x12.2)]), l6_m9, rfl, rfl⟩⟩
    refine awp_condF_ q15 ?_
    refine seqR ?_
    rcases cond_some h with ⟨q20, h⟩ | ⟨q20, h⟩
    ·refine awp_condT_ q20 ?_
     refine awp_seqv_ ?_
     obtain ⟨g22, h⟩ := og_some h
     refine awp_region_ 26 ?_
     refine rs0 (.own (oi 2 1) (.pair .int (.pair .int .int)) 0 l6_m8.length) (by kernel_rfl) ?_
     refine rs0 (ai a2) (by kernel_rfl) ?_
     refine rs0 (.box (oi 12 5) 0) (by kernel_rfl) ?_
     refine rsl (ai x12.1) (by kernel_rfl) ?_
     refine rs0 (.box (oi 12 5) 2) (by kernel_rfl) ?_
     refine rsl (ai x12.2.2) (by kernel_rfl) ?_
     refine rs0 (.agg [(ai a2), (ai x12.1), (ai x12.2.2)]) (by kernel_rfl) ?_
     refine rs1 (.own (oi 61 23) (.pair .int (.pair .int .int)) 0 1) (oi 61 23) (.arr 59 (.pair .int (.pair .int .int)) ([(a2, x12.1, x12.2.2)])) (by kernel_rfl) ?_
     refine rs2 (.own (oi 2 24) (.pair .int (.pair .int .int)) 0 ((l6_m8 ++ ([(a2, x12.1, x12.2.2)])).length)) (oi 2 1) (oi 2 24) (.arr 59 (.pair .int (.pair .int .int)) (l6_m8 ++ ([(a2, x12.1, x12.2.2)]))) (s_appO (t := (.pair .int (.pair .int .int))) (t' := (.pair .int (.pair .int .int))) (xs := l6_m8) (ys := [(a2, x12.1, x12.2.2)]) (zs := l6_m8 ++ ([(a2, x12.1, x12.2.2)])) (j := (oi 2 1)) (len := l6_m8.length) (c := (.own (oi 61 23) (.pair .int (.pair .int .int)) 0 1)) (by kernel_rfl) (by kernel_rfl) rfl (by kernel_rfl) (sr_own (e := 59) (by kernel_rfl) rfl) rfl g22) ?_
     refine rsB 1 ?_
     refine rnil (tn_ ?_)
     refine ⟨_, Weak.refl _, ?_⟩
     obtain ⟨y23, h23, h⟩ := ob_some h
     refine awp_region_ 32 ?_
     refine rs0 (ai a0) (by kernel_rfl) ?_
     refine rs0 (ai l6_m10) (by kernel_rfl) ?_
     refine rs0 (.box (oi 12 5) 2) (by kernel_rfl) ?_
     refine rsl (ai x12.2.2) (by kernel_rfl) ?_
     refine rcall (ai y23) [] [(ai a0), (ai l6_m10), (ai x12.2.2)] _ (caps := []) (args0 := [(ai a0), (ai l6_m10), (ai x12.2.2)]) trivial (by kernel_rfl) (ok_spec_fdAdd h23) hb_spec_fdAdd ?_
     refine rsB 1 ?_
     refine rnil (bn_ (bn_ (tn_ ?_)))
     obtain rfl := Option.some.inj h
     exact ⟨_, (weak_ren [((oi 2 1), (oi 2 24))]), ⟨y23, l6_m8 ++ ([(a2, x12.1, x12.2.2)]), l6_m9, rfl, rfl⟩⟩
    refine awp_condF_ q20 ?_
    obtain ⟨g24, h⟩ := og_some h
    refine awp_region_ 21 ?_
    refine rs0 (.own (oi 3 1) (.pair .int (.pair .int .int)) 0 l6_m9.length) (by kernel_rfl) ?_
    refine rsl (.agg [(ai x12.1), (ai x12.2.1), (ai x12.2.2)]) (by kernel_rfl) ?_
    refine rs1 (.own (oi 30 18) (.pair .int (.pair .int .int)) 0 1) (oi 30 18) (.arr 59 (.pair .int (.pair .int .int)) ([x12])) (by kernel_rfl) ?_
    refine rs2 (.own (oi 3 19) (.pair .int (.pair .int .int)) 0 ((l6_m9 ++ ([x12])).length)) (oi 3 1) (oi 3 19) (.arr 59 (.pair .int (.pair .int .int)) (l6_m9 ++ ([x12]))) (s_appO (t := (.pair .int (.pair .int .int))) (t' := (.pair .int (.pair .int .int))) (xs := l6_m9) (ys := [x12]) (zs := l6_m9 ++ ([x12])) (j := (oi 3 1)) (len := l6_m9.length) (c := (.own (oi 30 18) (.pair .int (.pair .int .int)) 0 1)) (by kernel_rfl) (by kernel_rfl) rfl (by kernel_rfl) (sr_own (e := 59) (by kernel_rfl) rfl) rfl g24) ?_
    refine rsB 1 ?_
    refine rnil (bn_ (bn_ (tn_ ?_)))
    obtain rfl := Option.some.inj h
    exact ⟨_, (weak_ren [((oi 3 1), (oi 3 19))]), ⟨l6_m10, l6_m8, l6_m9 ++ ([x12]), rfl, rfl⟩⟩
   rintro _ _ ⟨l10_m10, l10_m8, l10_m9, rfl, rfl⟩ h
   (try dsimp only at h)
   obtain ⟨g25, h⟩ := og_some h
   refine awp_region_ 4 ?_
   refine rs0 (ai ((l6_m23 + 1 : Nat) : Int)) (s_add1 (j := l6_m23) (by kernel_rfl) (by kernel_rfl) g25) ?_
   refine rsB 1 ?_
   refine rnil (tn_ ?_)
   obtain rfl := Option.some.inj h
   exact ⟨(l10_m10, l6_m23 + 1, l10_m8, l10_m9), _, (weak_ren []), ⟨l10_m10, l6_m23 + 1, l10_m8, l10_m9, rfl, rfl⟩, hn6⟩
  have q9_ := of_decide_eq_false q9
  refine awp_condF_ q9 ?_
  refine awp_exit_ (te_ (te_ (be_ (tn_ ?_))))
  obtain rfl := Option.some.inj h
  have h := hn6
  (try dsimp only at h)
  obtain rfl := Option.some.inj h
  exact ⟨_, (weak_ren []), ⟨l6_m10, l6_m8, l6_m9, rfl, rfl⟩⟩
 rintro _ _ ⟨l4_m10, l4_m8, l4_m9, rfl, rfl⟩ h
 (try dsimp only at h)
 refine awp_seqv_ ?_
 refine awp_seqB h (fun (l27_m86 : Bool) S_ => S_ = ⟨mkTm [(0, (ai a0)), (2, (ai a2)), (4, (.box (oi 0 1) 0)), (6, (.box (oi 1 1) 0)), (8, (.own (oi 2 1) (.pair .int (.pair .int .int)) 0 l4_m8.length)), (9, (.own (oi 3 1) (.pair .int (.pair .int .int)) 0 l4_m9.length)), (10, (ai l4_m10)), (86, (.bool l27_m86))], mkOb (someL [((oi 0 1), .cells 30 [(ai a1_0), (.tree (.pair .int (.pair .int .int)) a1_1), (.tree .int a1_2), (.tree .int a1_3)]), ((oi 1 1), .cells 30 [(ai 0), .nils, .nils, .nils]), ((oi 2 1), .arr 59 (.pair .int (.pair .int .int)) l4_m8), ((oi 3 1), .arr 59 (.pair .int (.pair .int .int)) l4_m9)]), 2⟩) ?_ ?_
 ·intro v_ h
  rcases cond_some h with ⟨q28, h⟩ | ⟨q28, h⟩
  ·refine awp_region_ 20 ?_
   refine rs0 (.box (oi 0 1) 0) (by kernel_rfl) ?_
   refine rsl (ai a1_0) (by kernel_rfl) ?_
   refine rs0 (.bool (a1_0 == 1)) (by kernel_rfl) ?_
   refine rs0 (.bool (a1_0 == 1)) (by kernel_rfl) ?_
   refine rs0 (.tup []) (s_skip (by kernel_rfl) q28) ?_
   refine rs0 (.tup []) (s_skip (by kernel_rfl) q28) ?_
   refine rs0 (.tup []) (s_skip (by kernel_rfl) q28) ?_
   refine rs0 (.tup []) (s_skip (by kernel_rfl) q28) ?_
   refine rs0 (.bool true) (s_pickT (by kernel_rfl) q28) ?_
   refine rs0 (.bool true) (by kernel_rfl) ?_
   refine rs0 (.tup []) (by kernel_rfl) ?_
   refine rs0 (.tup []) (by kernel_rfl) ?_
   refine rs0 (.tup []) (by kernel_rfl) ?_
   refine rs0 (.tup []) (by kernel_rfl) ?_
   refine rs0 (.tup []) (s_skipU (by kernel_rfl)) ?_
   refine rs0 (.tup []) (s_skipU (by kernel_rfl)) ?_
   refine rsB 2 ?_
   refine rnil (tn_ ?_)
   obtain rfl := Option.some.inj h
   exact ⟨_, (weak_ren []), rfl⟩
  obtain ⟨y29, h29, h⟩ := ob_some h
  rcases cond_some h with ⟨q30, h⟩ | ⟨q30, h⟩
  ·refine awp_region_ 20 ?_
   refine rs0 (.box (oi 0 1) 0) (by kernel_rfl) ?_
   refine rsl (ai a1_0) (by kernel_rfl) ?_
   refine rs0 (.bool (a1_0 == 1)) (by kernel_rfl) ?_
   refine rs0 (.bool (a1_0 == 1)) (by kernel_rfl) ?_
   refine rsl (.agg [(ai a1_0), (.tree (.pair .int (.pair .int .int)) a1_1), (.tree .int a1_2), (.tree .int a1_3)]) (s_gd (by kernel_rfl) q28 (by kernel_rfl)) ?_
   refine rs0 (ai a2) (s_gd (by kernel_rfl) q28 (by kernel_rfl)) ?_
   refine rcall (.bool y29) [] [(.agg [(ai a1_0), (.tree (.pair .int (.pair .int .int)) a1_1), (.tree .int a1_2), (.tree .int a1_3)]), (ai a2)] _ (caps := []) (args0 := [(.agg [(ai a1_0), (.tree (.pair .int (.pair .int .int)) a1_1), (.tree .int a1_2), (.tree .int a1_3)]), (ai a2)]) (gdOK_b (by kernel_rfl) q28) (by kernel_rfl) (ok_spec_nwInner h29) hb_spec_nwInner ?_
   refine rs0 (.bool (!y29)) (s_gd (by kernel_rfl) q28 (by kernel_rfl)) ?_
   refine rs0 (.bool (!y29)) (s_pickF (by kernel_rfl) q28) ?_
   refine rs0 (.bool (!y29)) (by kernel_rfl) ?_
   refine rs0 (.tup []) (s_skip (by kernel_rfl) q30) ?_
   refine rs0 (.tup []) (s_skip (by kernel_rfl) q30) ?_
   refine rs0 (.tup []) (s_skip (by kernel_rfl) q30) ?_
   refine rs0 (.tup []) (s_skip (by kernel_rfl) q30) ?_
   refine rs0 (.tup []) (s_skipU (by kernel_rfl)) ?_
   refine rs0 (.tup []) (s_skipU (by kernel_rfl)) ?_
   refine rs0 (.tup []) (s_skip (by kernel_rfl) q30) ?_
   refine rs0 (.bool true) (s_pickT (by kernel_rfl) q30) ?_
   refine rnil (tn_ ?_)
   obtain rfl := Option.some.inj h
   exact ⟨_, (weak_ren []), rfl⟩
  rcases cond_some h with ⟨q31, h⟩ | ⟨q31, h⟩
  ·have q31_ := of_decide_eq_true q31
   refine awp_region_ 20 ?_
   refine rs0 (.box (oi 0 1) 0) (by kernel_rfl) ?_
   refine rsl (ai a1_0) (by kernel_rfl) ?_
   refine rs0 (.bool (a1_0 == 1)) (by kernel_rfl) ?_
   refine rs0 (.bool (a1_0 == 1)) (by kernel_rfl) ?_
   refine rsl (.agg [(ai a1_0), (.tree (.pair .int (.pair .int .int)) a1_1), (.tree .int a1_2), (.tree .int a1_3)]) (s_gd (by kernel_rfl) q28 (by kernel_rfl)) ?_
   refine rs0 (ai a2) (s_gd (by kernel_rfl) q28 (by kernel_rfl)) ?_
   refine rcall (.bool y29) [] [(.agg [(ai a1_0), (.tree (.pair .int (.pair .int .int)) a1_1), (.tree .int a1_2), (.tree .int a1_3)]), (ai a2)] _ (caps := []) (args0 := [(.agg [(ai a1_0), (.tree (.pair .int (.pair .int .int)) a1_1), (.tree .int a1_2), (.tree .int a1_3)]), (ai a2)]) (gdOK_b (by kernel_rfl) q28) (by kernel_rfl) (ok_spec_nwInner h29) hb_spec_nwInner ?_
   refine rs0 (.bool (!y29)) (s_gd (by kernel_rfl) q28 (by kernel_rfl)) ?_
   refine rs0 (.bool (!y29)) (s_pickF (by kernel_rfl) q28) ?_
   refine rs0 (.bool (!y29)) (by kernel_rfl) ?_
   refine rs0 (.own (oi 2 1) (.pair .int (.pair .int .int)) 0 l4_m8.length) (s_gd (by kernel_rfl) q30 (by kernel_rfl)) ?_
   refine rs0 (ai ((l4_m8.length : Nat) : Int)) (s_gd (by kernel_rfl) q30 (by kernel_rfl)) ?_
   refine rs0 (.bool (decide (0 < ((l4_m8.length : Nat) : Int)))) (s_gd (by kernel_rfl) q30 (by kernel_rfl)) ?_
   refine rs0 (.bool (decide (0 < ((l4_m8.length : Nat) : Int)))) (s_gd (by kernel_rfl) q30 (by kernel_rfl)) ?_
   refine rs0 (ai l4_m10) (s_gd (by kernel_rfl) q31 (by kernel_rfl)) ?_
   refine rs0 (.bool (l4_m10 == 0)) (s_gd (by kernel_rfl) q31 (by kernel_rfl)) ?_
   refine rs0 (.bool (l4_m10 == 0)) (s_gd (by kernel_rfl) q30 (s_pickT (by kernel_rfl) q31)) ?_
   refine rs0 (.bool (l4_m10 == 0)) (s_pickF (by kernel_rfl) q30) ?_
   refine rnil (tn_ ?_)
   obtain rfl := Option.some.inj h
   exact ⟨_, (weak_ren []), rfl⟩
  have q31_ := of_decide_eq_false q31
  refine awp_region_ 20 ?_
  refine rs0 (.box (oi 0 1) 0) (by kernel_rfl) ?_
  refine rsl (ai a1_0) (by kernel_rfl) ?_
  refine rs0 (.bool (a1_0 == 1)) (by kernel_rfl) ?_
  refine rs0 (.bool (a1_0 == 1)) (by kernel_rfl) ?_
  refine rsl (.agg [(ai a1_0), (.tree (.pair .int (.pair .int .int)) a1_1), (.tree .int a1_2), (.tree .int a1_3)]) (s_gd (by kernel_rfl) q28 (by kernel_rfl)) ?_
  refine rs0 (ai a2) (s_gd (by kernel_rfl) q28 (by kernel_rfl)) ?_
  refine rcall (.bool y29) [] [(.agg [(ai a1_0), (.tree (.pair .int (.pair .int .int)) a1_1), (.tree .int a1_2), (.tree .int a1_3)]), (ai a2)] _ (caps := []) (args0 := [(.agg [(ai a1_0), (.tree (.pair .int (.pair .int .int)) a1_1), (.tree .int a1_2), (.tree .int a1_3)]), (ai a2)]) (gdOK_b (by kernel_rfl) q28) (by kernel_rfl) (ok_spec_nwInner h29) hb_spec_nwInner ?_
  refine rs0 (.bool (!y29)) (s_gd (by kernel_rfl) q28 (by kernel_rfl)) ?_
  refine rs0 (.bool (!y29)) (s_pickF (by kernel_rfl) q28) ?_
  refine rs0 (.bool (!y29)) (by kernel_rfl) ?_
  refine rs0 (.own (oi 2 1) (.pair .int (.pair .int .int)) 0 l4_m8.length) (s_gd (by kernel_rfl) q30 (by kernel_rfl)) ?_
  refine rs0 (ai ((l4_m8.length : Nat) : Int)) (s_gd (by kernel_rfl) q30 (by kernel_rfl)) ?_
  refine rs0 (.bool (decide (0 < ((l4_m8.length : Nat) : Int)))) (s_gd (by kernel_rfl) q30 (by kernel_rfl)) ?_
  refine rs0 (.bool (decide (0 < ((l4_m8.length : Nat) : Int)))) (s_gd (by kernel_rfl) q30 (by kernel_rfl)) ?_
  refine rs0 (.tup []) (s_skip (by kernel_rfl) q31) ?_
  refine rs0 (.tup []) (s_skip (by kernel_rfl) q31) ?_
  refine rs0 (.bool false) (s_gd (by kernel_rfl) q30 (s_pickF (by kernel_rfl) q31)) ?_
  refine rs0 (.bool false) (s_pickF (by kernel_rfl) q30) ?_
  refine rnil (tn_ ?_)
  obtain rfl := Option.some.inj h
  exact ⟨_, (weak_ren []), rfl⟩
 rintro l27_m86 _ rfl h
 (try dsimp only at h)
 rcases cond_some h with ⟨q32, h⟩ | ⟨q32, h⟩
 ·refine awp_condT_ q32 ?_
  refine seqR ?_
  refine awp_ret_ (tr_ ?_)
  obtain rfl := Option.some.inj h
  exact ret_ [(.agg [(ai 0), .nils, .nils, .nils]), (.bool false)] (p_agg (l_cons (l_sc (by kernel_rfl)) (l_cons (l_nils rfl) (l_cons (l_nils rfl) (l_cons (l_nils rfl) l_nil)))) (p_one rfl (l_sc (by kernel_rfl)) p_nil))
 refine awp_condF_ q32 ?_
 refine awp_skip_ (tn_ ?_)
 refine ⟨_, Weak.refl _, ?_⟩
 refine awp_seqB h (fun (l34_m9 : List (Int × Int × Int)) S_ => S_ = ⟨mkTm [(0, (ai a0)), (2, (ai a2)), (4, (.box (oi 0 1) 0)), (6, (.box (oi 1 1) 0)), (9, (.own (oi 2 1) (.pair .int (.pair .int .int)) 0 l34_m9.length))], mkOb (someL [((oi 0 1), .cells 30 [(ai a1_0), (.tree (.pair .int (.pair .int .int)) a1_1), (.tree .int a1_2), (.tree .int a1_3)]), ((oi 1 1), .cells 30 [(ai 0), .nils, .nils, .nils]), ((oi 2 1), .arr 59 (.pair .int (.pair .int .int)) l34_m9)]), 2⟩) ?_ ?_
 ·intro v_ h
  refine seqR ?_
  refine awp_block_ ?_
  refine awp_loopL h (fun t_ S_ => ∃ (l36_m90 : Nat), ∃ (l36_m9 : List (Int × Int × Int)), t_ = (l36_m90, l36_m9) ∧ S_ = ⟨mkTm [(0, (ai a0)), (2, (ai a2)), (4, (.box (oi 0 1) 0)), (6, (.box (oi 1 1) 0)), (8, (.own (oi 2 1) (.pair .int (.pair .int .int)) 0 l4_m8.length)), (9, (.own (oi 3 1) (.pair .int (.pair .int .int)) 0 l36_m9.length)), (10, (ai l4_m10)), (88, (.own (oi 2 1) (.pair .int (.pair .int .int)) 0 l4_m8.length)), (89, (ai ((l4_m8.length : Nat) : Int))), (90, (ai ((l36_m90 : Nat) : Int)))], mkOb (someL [((oi 0 1), .cells 30 [(ai a1_0), (.tree (.pair .int (.pair .int .int)) a1_1), (.tree .int a1_2), (.tree .int a1_3)]), ((oi 1 1), .cells 30 [(ai 0), .nils, .nils, .nils]), ((oi 2 1), .arr 59 (.pair .int (.pair .int .int)) l4_m8), ((oi 3 1), .arr 59 (.pair .int (.pair .int .int)) l36_m9)]), 2⟩) ⟨_, (weak_ren []), ⟨0, l4_m9, rfl, rfl⟩⟩ ?_
  rintro n_ _ _ c_ ⟨l36_m90, l36_m9, rfl, rfl⟩ h hn36
  (try dsimp only at h)
  unfold L_spec_nwStar_l2 at h
  unfold m_spec_nwStar_l2
  refine seqR ?_
  refine awp_seqv_ ?_
  rcases cond_some h with ⟨q39, h⟩ | ⟨q39, h⟩
  ·have q39_ := of_decide_eq_true q39
   refine awp_condT_ q39 ?_
   refine awp_skip_ (tn_ ?_)
   refine ⟨_, Weak.refl _, ?_⟩
   refine awp_seqB h (fun (l40_m9 : List (Int × Int × Int)) S_ => S_ = ⟨mkTm [(0, (ai a0)), (2, (ai a2)), (4, (.box (oi 0 1) 0)), (6, (.box (oi 1 1) 0)), (8, (.own (oi 2 1) (.pair .int (.pair .int .int)) 0 l4_m8.length)), (9, (.own (oi 3 1) (.pair .int (.pair .int .int)) 0 l40_m9.length)), (10, (ai l4_m10)), (88, (.own (oi 2 1) (.pair .int (.pair .int .int)) 0 l4_m8.length)), (89, (ai ((l4_m8.length : Nat) : Int))), (90, (ai ((l36_m90 : Nat) : Int)))], mkOb (someL [((oi 0 1), .cells 30 [(ai a1_0), (.tree (.pair .int (.pair .int .int)) a1_1), (.tree .int a1_2), (.tree .int a1_3)]), ((oi 1 1), .cells 30 [(ai 0), .nils, .nils, .nils]), ((oi 2 1), .arr 59 (.pair .int (.pair .int .int)) l4_m8), ((oi 3 1), .arr 59 (.pair .int (.pair .int .int)) l40_m9)]), 2⟩) ?_ ?_
   ·intro v_ h
    refine awp_block_ ?_
    refine awp_seqv_ ?_
    obtain ⟨x42, e42, h⟩ := ob_some h
    refine awp_region_ 9 ?_
    refine rs0 (ai ((l36_m90 : Nat) : Int)) (by kernel_rfl) ?_
    refine rs0 (.elt (oi 2 1) l36_m90 0) (s_idxO (t := (.pair .int (.pair .int .int))) (o := (oi 2 1)) (len := l4_m8.length) (k := .i64) (m := ((l36_m90 : Nat) : Int)) (by kernel_rfl) (by kernel_rfl) rfl (nat_nn _) rfl (getN_lt e42)) ?_
    refine rsl (.agg [(ai x42.1), (ai x42.2.1), (ai x42.2.2)]) (s_ldE (i := (oi 2 1)) (j := l36_m90) (k := 0) (e := 59) (t := (.pair .int (.pair .int .int))) (xs := l4_m8) (by kernel_rfl) (by kernel_rfl) e42 (by kernel_rfl)) ?_
    refine rsB 3 ?_
    refine rnil (tn_ ?_)
    refine ⟨_, Weak.refl _, ?_⟩
    refine awp_seqv_ ?_
    obtain ⟨g44, h⟩ := og_some h
    obtain ⟨g45, h⟩ := og_some h
    refine awp_region_ 15 ?_
    refine rs0 (.own (oi 2 1) (.pair .int (.pair .int .int)) 0 l4_m8.length) (by kernel_rfl) ?_
    refine rs0 (ai ((l36_m90 : Nat) : Int)) (by kernel_rfl) ?_
    refine rs0 (ai ((l36_m90 + 1 : Nat) : Int)) (s_add1 (j := l36_m90) (by kernel_rfl) (by kernel_rfl) g44) ?_
    refine rs0 (.own (oi 2 1) (.pair .int (.pair .int .int)) (l36_m90 + 1) (l4_m8.length - (l36_m90 + 1))) (s_sliceO (t := (.pair .int (.pair .int .int))) (i := (oi 2 1)) (off := 0) (len := l4_m8.length) (l := ((l36_m90 + 1 : Nat) : Int)) (h := ((l4_m8.length : Nat) : Int)) (by kernel_rfl) (by kernel_rfl) (by kernel_rfl) rfl g45 (Nat.zero_add _) (by omega)) ?_
    refine rsB 2 ?_
    refine rnil (tn_ ?_)
    refine ⟨_, Weak.refl _, ?_⟩
    refine awp_block_ ?_
    refine awp_loopL h (fun t_ S_ => ∃ (l46_m100 : Nat), ∃ (l46_m9 : List (Int × Int × Int)), t_ = (l46_m100, l46_m9) ∧ S_ = ⟨mkTm [(0, (ai a0)), (2, (ai a2)), (4, (.box (oi 0 1) 0)), (6, (.box (oi 1 1) 0)), (8, (.own (oi 2 1) (.pair .int (.pair .int .int)) 0 l4_m8.length)), (9, (.own (oi 3 1) (.pair .int (.pair .int .int)) 0 l46_m9.length)), (10, (ai l4_m10)), (14, (.box (oi 4 1) 0)), (88, (.own (oi 2 1) (.pair .int (.pair .int .int)) 0 l4_m8.length)), (89, (ai ((l4_m8.length : Nat) : Int))), (90, (ai ((l36_m90 : Nat) : Int))), (98, (.own (oi 2 1) (.pair .int (.pair .int .int)) (l36_m90 + 1) (l4_m8.length - (l36_m90 + 1)))), (99, (ai ((l4_m8.length - (l36_m90 + 1) : Nat) : Int))), (100, (ai ((l46_m100 : Nat) : Int)))], mkOb (someL [((oi 0 1), .cells 30 [(ai a1_0), (.tree (.pair .int (.pair .int .int)) a1_1), (.tree .int a1_2), (.tree .int a1_3)]), ((oi 1 1), .cells 30 [(ai 0), .nils, .nils, .nils]), ((oi 2 1), .arr 59 (.pair .int (.pair .int .int)) l4_m8), ((oi 3 1), .arr 59 (.pair .int (.pair .int .int)) l46_m9), ((oi 4 1), .cells 59 [(ai x42.1), (ai x42.2.1), (ai x42.2.2)])]), 2⟩) ⟨_, (weak_ren [((oi 4 1), (oi 14 6))]), ⟨0, l36_m9, rfl, rfl⟩⟩ ?_
    rintro n_ _ _ c_ ⟨l46_m100, l46_m9, rfl, rfl⟩ h hn46
    (try dsimp only at h)
    unfold L_spec_nwStar_l3 at h
    unfold m_spec_nwStar_l3
    refine seqR ?_
    refine awp_seqv_ ?_
    rcases cond_some h with ⟨q49, h⟩ | ⟨q49, h⟩
    ·have q49_ := of_decide_eq_true q49
     refine awp_condT_ q49 ?_
     refine awp_skip_ (tn_ ?_)
     refine ⟨_, Weak.refl _, ?_⟩
     refine awp_seqB h (fun (l50_m9 : List (Int × Int × Int)) S_ => S_ = ⟨mkTm [(0, (ai a0)), (2, (ai a2)), (4, (.box (oi 0 1) 0)), (6, (.box (oi 1 1) 0)), (8, (.own (oi 2 1) (.pair .int (.pair .int .int)) 0 l4_m8.length)), (9, (.own (oi 3 1) (.pair .int (.pair .int .int)) 0 l50_m9.length)), (10, (ai l4_m10)), (14, (.box (oi 4 1) 0)), (88, (.own (oi 2 1) (.pair .int (.pair .int .int)) 0 l4_m8.length)), (89, (ai ((l4_m8.length : Nat) : Int))), (90, (ai ((l36_m90 : Nat) : Int))), (98, (.own (oi 2 1) (.pair .int (.pair .int .int)) (l36_m90 + 1) (l4_m8.length - (l36_m90 + 1)))), (99, (ai ((l4_m8.length - (l36_m90 + 1) : Nat) : Int))), (100, (ai ((l46_m100 : Nat) : Int)))], mkOb (someL [((oi 0 1), .cells 30 [(ai a1_0), (.tree (.pair .int (.pair .int .int)) a1_1), (.tree .int a1_2), (.tree .int a1_3)]), ((oi 1 1), .cells 30 [(ai 0), .nils, .nils, .nils]), ((oi 2 1), .arr 59 (.pair .int (.pair .int .int)) l4_m8), ((oi 3 1), .arr 59 (.pair .int (.pair .int .int)) l50_m9), ((oi 4 1), .cells 59 [(ai x42.1), (ai x42.2.1), (ai x42.2.2)])]), 2⟩) ?_ ?_
     ·intro v_ h
      refine awp_block_ ?_
      refine awp_seqv_ ?_
      obtain ⟨g52, h⟩ := og_some h
      obtain ⟨x53, e53, h⟩ := ob_some h
      refine awp_region_ 7 ?_
      refine rs0 (.elt (oi 2 1) ((l36_m90 + 1) + l46_m100) 0) (s_idxP (t := (.pair .int (.pair .int .int))) (o := (oi 2 1)) (off := l36_m90 + 1) (len := l4_m8.length - (l36_m90 + 1)) (k := .i64) (m := ((l46_m100 : Nat) : Int)) (by kernel_rfl) (by kernel_rfl) rfl g52.1 rfl g52.2) ?_
      refine rsl (.agg [(ai x53.1), (ai x53.2.1), (ai x53.2.2)]) (s_ldE (i := (oi 2 1)) (j := (l36_m90 + 1) + l46_m100) (k := 0) (e := 59) (t := (.pair .int (.pair .int .int))) (xs := l4_m8) (by kernel_rfl) (by kernel_rfl) e53 (by kernel_rfl)) ?_
      refine rsB 2 ?_
      refine rnil (tn_ ?_)
      refine ⟨_, Weak.refl _, ?_⟩
      refine seqR ?_
      rcases cond_some h with ⟨q55, h⟩ | ⟨q55, h⟩
      ·refine awp_condT_ q55 ?_
       obtain ⟨y56, h56, h⟩ := ob_some h
       obtain ⟨y57, h57, h⟩ := ob_some h
       obtain ⟨y58, h58, h⟩ := ob_some h
       obtain ⟨g59, h⟩ := og_some h
       refine awp_regionD_ 32 ?_
       refine ds0 (.own (oi 3 1) (.pair .int (.pair .int .int)) 0 l46_m9.length) (by kernel_rfl) ?_
       refine ds0 (.box (oi 4 1) 1) (by kernel_rfl) ?_
       refine dsl (ai x42.2.1) (by kernel_rfl) ?_
       refine ds0 (.box (oi 16 5) 1) (by kernel_rfl) ?_
       refine dsl (ai x53.2.1) (by kernel_rfl) ?_
       refine ds0 (ai a0) (by kernel_rfl) ?_
       refine ds0 (ai a0) (by kernel_rfl) ?_
       refine ds0 (.box (oi 4 1) 2) (by kernel_rfl) ?_
       refine dsl (ai x42.2.2) (by kernel_rfl) ?_
       refine ds0 (.box (oi 16 5) 2) (by kernel_rfl) ?_
       refine dsl (ai x53.2.2) (by kernel_rfl) ?_
       refine dcall (ai y56) [] [(ai a0), (ai x42.2.2), (ai x53.2.2)] _ (caps := []) (args0 := [(ai a0), (ai x42.2.2), (ai x53.2.2)]) trivial (by kernel_rfl) (ok_spec_fdMul h56) hb_spec_fdMul ?_
       refine ds0 (ai a0) (by kernel_rfl) ?_
       refine ds0 (ai l4_m10) (by kernel_rfl) ?_
       refine dcall (ai y57) [] [(ai a0), (ai l4_m10)] _ (caps := []) (args0 := [(ai a0), (ai l4_m10)]) trivial (by kernel_rfl) (ok_spec_fdInv h57) hb_spec_fdInv ?_
       refine dcall (ai y58) [] [(ai a0), (ai y56), (ai y57)] _ (caps := []) (args0 := [(ai a0), (ai y56), (ai y57)]) trivial (by kernel_rfl) (ok_spec_fdMul h58) hb_spec_fdMul ?_
       refine ds0 (.agg [(ai x42.2.1), (ai x53.2.1), (ai y58)]) (by kernel_rfl) ?_
       refine ds1 (.own (oi 126 29) (.pair .int (.pair .int .int)) 0 1) (oi 126 29) (.arr 59 (.pair .int (.pair .int .int)) ([(x42.2.1, x53.2.1, y58)])) (by kernel_rfl) ?_
       refine ds2 (.own (oi 3 30) (.pair .int (.pair .int .int)) 0 ((l46_m9 ++ ([(x42.2.1, x53.2.1, y58)])).length)) (oi 3 1) (oi 3 30) (.arr 59 (.pair .int (.pair .int .int)) (l46_m9 ++ ([(x42.2.1, x53.2.1, y58)]))) (s_appO (t := (.pair .int (.pair .int .int))) (t' := (.pair .int (.pair .int .int))) (xs := l46_m9) (ys := [(x42.2.1, x53.2.1, y58)]) (zs := l46_m9 ++ ([(x42.2.1, x53.2.1, y58)])) (j := (oi 3 1)) (len := l46_m9.length) (c := (.own (oi 126 29) (.pair .int (.pair .int .int)) 0 1)) (by kernel_rfl) (by kernel_rfl) rfl (by kernel_rfl) (sr_own (e := 59) (by kernel_rfl) rfl) rfl g59) ?_
       refine ds0 (.own (oi 3 30) (.pair .int (.pair .int .int)) 0 ((l46_m9 ++ ([(x42.2.1, x53.2.1, y58)])).length)) (by kernel_rfl) ?_
       refine dnil (badB_spec (by kernel_rfl)) (bn_ (tn_ ?_))
       obtain rfl := Option.some.inj h
       exact ⟨_, (weak_ren [((oi 3 1), (oi 3 30))]), rfl⟩
      refine awp_condF_ q55 ?_
      refine awp_skip_ (bn_ (tn_ ?_))
      obtain rfl := Option.some.inj h
      exact ⟨_, (weak_ren []), rfl⟩
     rintro l50_m9 _ rfl h
     (try dsimp only at h)
     obtain ⟨g60, h⟩ := og_some h
     refine awp_region_ 4 ?_
     refine rs0 (ai ((l46_m100 + 1 : Nat) : Int)) (s_add1 (j := l46_m100) (by kernel_rfl) (by kernel_rfl) g60) ?_
     refine rsB 1 ?_
     refine rnil (tn_ ?_)
     obtain rfl := Option.some.inj h
     exact ⟨(l46_m100 + 1, l50_m9), _, (weak_ren []), ⟨l46_m100 + 1, l50_m9, rfl, rfl⟩, hn46⟩
    have q49_ := of_decide_eq_false q49
    refine awp_condF_ q49 ?_
    refine awp_exit_ (te_ (te_ (be_ (bn_ (tn_ ?_)))))
    obtain rfl := Option.some.inj h
    have h := hn46
    (try dsimp only at h)
    obtain rfl := Option.some.inj h
    exact ⟨_, (weak_ren []), rfl⟩
   rintro l40_m9 _ rfl h
   (try dsimp only at h)
   obtain ⟨g61, h⟩ := og_some h
   refine awp_region_ 4 ?_
   refine rs0 (ai ((l36_m90 + 1 : Nat) : Int)) (s_add1 (j := l36_m90) (by kernel_rfl) (by kernel_rfl) g61) ?_
   refine rsB 1 ?_
   refine rnil (tn_ ?_)
   obtain rfl := Option.some.inj h
   exact ⟨(l36_m90 + 1, l40_m9), _, (weak_ren []), ⟨l36_m90 + 1, l40_m9, rfl, rfl⟩, hn36⟩
  have q39_ := of_decide_eq_false q39
  refine awp_condF_ q39 ?_
  refine awp_exit_ (te_ (te_ (be_ (tn_ ?_))))
  obtain rfl := Option.some.inj h
  have h := hn36
  (try dsimp only at h)
  obtain rfl := Option.some.inj h
  exact ⟨_, (weak_ren [((oi 2 1), (oi 3 1))]), rfl⟩
 rintro l34_m9 _ rfl h
 (try dsimp only at h)
 refine awp_seqv_ ?_
 obtain ⟨g63, h⟩ := og_some h
 refine awp_region_ 6 ?_
 refine rs0 (.box (oi 0 1) 0) (by kernel_rfl) ?_
 refine rsl (ai a1_0) (by kernel_rfl) ?_
 refine rs1 (.own (oi 132 4) .int 0 a1_0.toNat) (oi 132 4) (.arr 3 .int (List.replicate a1_0.toNat (0 : Int))) (s_make (t := .int) (k := .i64) (k' := .i64) (m := a1_0) (m' := a1_0) (by kernel_rfl) (by kernel_rfl) g63 rfl) ?_
 refine rsB 1 ?_
 refine rnil (tn_ ?_)
 refine ⟨_, Weak.refl _, ?_⟩
 refine awp_seqB h (fun (l64_m17 : List Int) S_ => S_ = ⟨mkTm [(0, (ai a0)), (4, (.box (oi 0 1) 0)), (6, (.box (oi 1 1) 0)), (9, (.own (oi 2 1) (.pair .int (.pair .int .int)) 0 l34_m9.length)), (17, (.own (oi 3 1) .int 0 l64_m17.length))], mkOb (someL [((oi 0 1), .cells 30 [(ai a1_0), (.tree (.pair .int (.pair .int .int)) a1_1), (.tree .int a1_2), (.tree .int a1_3)]), ((oi 1 1), .cells 30 [(ai 0), .nils, .nils, .nils]), ((oi 2 1), .arr 59 (.pair .int (.pair .int .int)) l34_m9), ((oi 3 1), .arr 3 .int l64_m17)]), 2⟩) ?_ ?_
 ·intro v_ h
  refine seqR ?_
  refine awp_block_ ?_
  refine awp_loopL h (fun t_ S_ => ∃ (l66_m135 : Nat), ∃ (l66_m17 : List Int), t_ = (l66_m135, l66_m17) ∧ S_ = ⟨mkTm [(0, (ai a0)), (2, (ai a2)), (4, (.box (oi 0 1) 0)), (6, (.box (oi 1 1) 0)), (9, (.own (oi 2 1) (.pair .int (.pair .int .int)) 0 l34_m9.length)), (17, (.own (oi 3 1) .int 0 l66_m17.length)), (134, (ai ((a1_0.toNat : Nat) : Int))), (135, (ai ((l66_m135 : Nat) : Int)))], mkOb (someL [((oi 0 1), .cells 30 [(ai a1_0), (.tree (.pair .int (.pair .int .int)) a1_1), (.tree .int a1_2), (.tree .int a1_3)]), ((oi 1 1), .cells 30 [(ai 0), .nils, .nils, .nils]), ((oi 2 1), .arr 59 (.pair .int (.pair .int .int)) l34_m9), ((oi 3 1), .arr 3 .int l66_m17)]), 2⟩) ⟨_, ((weak_tm_ 17 (.own (oi 132 4) .int 0 a1_0.toNat) (.own (oi 132 4) .int 0 ((List.replicate a1_0.toNat (0 : Int)).length)) (by kernel_rfl) (congrArg (fun z_ => ((.own (oi 132 4) .int 0 z_) : AV)) (List.length_replicate.symm : a1_0.toNat = (List.replicate a1_0.toNat (0 : Int)).length))).trans (weak_ren [((oi 3 1), (oi 132 4))])), ⟨0, List.replicate a1_0.toNat (0 : Int), rfl, rfl⟩⟩ ?_
  rintro n_ _ _ c_ ⟨l66_m135, l66_m17, rfl, rfl⟩ h hn66
  (try dsimp only at h)
  unfold L_spec_nwStar_l4 at h
  unfold m_spec_nwStar_l4
  refine seqR ?_
  refine awp_seqv_ ?_
  rcases cond_some h with ⟨q69, h⟩ | ⟨q69, h⟩
  ·have q69_ := of_decide_eq_true q69
   refine awp_condT_ q69 ?_
   refine awp_skip_ (tn_ ?_)
   refine ⟨_, Weak.refl _, ?_⟩
   refine awp_seqB h (fun (l70_m17 : List Int) S_ => S_ = ⟨mkTm [(0, (ai a0)), (2, (ai a2)), (4, (.box (oi 0 1) 0)), (6, (.box (oi 1 1) 0)), (9, (.own (oi 2 1) (.pair .int (.pair .int .int)) 0 l34_m9.length)), (17, (.own (oi 3 1) .int 0 l70_m17.length)), (134, (ai ((a1_0.toNat : Nat) : Int))), (135, (ai ((l66_m135 : Nat) : Int)))], mkOb (someL [((oi 0 1), .cells 30 [(ai a1_0), (.tree (.pair .int (.pair .int .int)) a1_1), (.tree .int a1_2), (.tree .int a1_3)]), ((oi 1 1), .cells 30 [(ai 0), .nils, .nils, .nils]), ((oi 2 1), .arr 59 (.pair .int (.pair .int .int)) l34_m9), ((oi 3 1), .arr 3 .int l70_m17)]), 2⟩) ?_ ?_
   ·intro v_ h
    refine awp_block_ ?_
    refine seqR ?_
    refine awp_seqv_ ?_
    obtain ⟨x73, e73, h⟩ := ob_some h
    refine awp_region_ 10 ?_
    refine rs0 (.own (oi 3 1) .int 0 l66_m17.length) (by kernel_rfl) ?_
    refine rs0 (ai ((l66_m135 : Nat) : Int)) (by kernel_rfl) ?_
    refine rs0 (ai ((l66_m135 : Nat) : Int)) (by kernel_rfl) ?_
    refine rs0 (.elt (oi 3 1) l66_m135 0) (s_idxO (t := .int) (o := (oi 3 1)) (len := l66_m17.length) (k := .i64) (m := ((l66_m135 : Nat) : Int)) (by kernel_rfl) (by kernel_rfl) rfl (nat_nn _) rfl (getN_lt e73)) ?_
    refine rsn2 (oi 3 1) (oi 3 1) (.arr 3 .int (l66_m17.set l66_m135 ((l66_m135 : Nat) : Int))) (s_stE (i := (oi 3 1)) (j := l66_m135) (k := 0) (e := 3) (t := .int) (xs := l66_m17) (cs := [(ai ((l66_m135 : Nat) : Int))]) (x1 := ((l66_m135 : Nat) : Int)) (by kernel_rfl) (by kernel_rfl) e73 (by kernel_rfl) (by kernel_rfl)) ?_
    refine rnil (tn_ ?_)
    refine ⟨_, Weak.refl _, ?_⟩
    refine seqR ?_
    rcases cond_some h with ⟨q75, h⟩ | ⟨q75, h⟩
    ·have q75_ := of_decide_eq_true q75
     refine awp_condT_ q75 ?_
     obtain ⟨x76, e76, h⟩ := ob_some h
     refine awp_region_ 19 ?_
     refine rs0 (.own (oi 3 1) .int 0 l66_m17.length) (by kernel_rfl) ?_
     refine rs0 (ai ((l66_m135 : Nat) : Int)) (by kernel_rfl) ?_
     refine rs0 (ai ((l66_m135 : Nat) : Int)) (by kernel_rfl) ?_
     refine rs0 (ai (IntKind.i64.wrap (((l66_m135 : Nat) : Int) - 1))) (by kernel_rfl) ?_
     refine rs0 (.elt (oi 3 1) l66_m135 0) (s_idxO (t := .int) (o := (oi 3 1)) (len := l66_m17.length) (k := .i64) (m := ((l66_m135 : Nat) : Int)) (by kernel_rfl) (by kernel_rfl) rfl (nat_nn _) rfl (by rw [((rfl : l66_m17.length = l66_m17.length).trans List.length_set.symm)]; exact getN_lt e76)) ?_
     refine rsn2 (oi 3 1) (oi 3 1) (.arr 3 .int ((l66_m17.set l66_m135 ((l66_m135 : Nat) : Int)).set l66_m135 (IntKind.i64.wrap (((l66_m135 : Nat) : Int) - 1)))) (s_stE (i := (oi 3 1)) (j := l66_m135) (k := 0) (e := 3) (t := .int) (xs := l66_m17.set l66_m135 ((l66_m135 : Nat) : Int)) (cs := [(ai (IntKind.i64.wrap (((l66_m135 : Nat) : Int) - 1)))]) (x1 := IntKind.i64.wrap (((l66_m135 : Nat) : Int) - 1)) (by kernel_rfl) (by kernel_rfl) e76 (by kernel_rfl) (by kernel_rfl)) ?_
     refine rnil (bn_ (tn_ ?_))
     obtain rfl := Option.some.inj h
     exact ⟨_, ((weak_tm_ 17 (.own (oi 3 1) .int 0 l66_m17.length) (.own (oi 3 1) .int 0 (((l66_m17.set l66_m135 ((l66_m135 : Nat) : Int)).set l66_m135 (IntKind.i64.wrap (((l66_m135 : Nat) : Int) - 1))).length)) (by kernel_rfl) (congrArg (fun z_ => ((.own (oi 3 1) .int 0 z_) : AV)) ((((rfl : l66_m17.length = l66_m17.length).trans List.length_set.symm).trans List.length_set.symm) : l66_m17.length = ((l66_m17.set l66_m135 ((l66_m135 : Nat) : Int)).set l66_m135 (IntKind.i64.wrap (((l66_m135 : Nat) : Int) - 1))).length))).trans (weak_ren [])), rfl⟩
    have q75_ := of_decide_eq_false q75
    refine awp_condF_ q75 ?_
    refine awp_skip_ (bn_ (tn_ ?_))
    obtain rfl := Option.some.inj h
    exact ⟨_, ((weak_tm_ 17 (.own (oi 3 1) .int 0 l66_m17.length) (.own (oi 3 1) .int 0 ((l66_m17.set l66_m135 ((l66_m135 : Nat) : Int)).length)) (by kernel_rfl) (congrArg (fun z_ => ((.own (oi 3 1) .int 0 z_) : AV)) (((rfl : l66_m17.length = l66_m17.length).trans List.length_set.symm) : l66_m17.length = (l66_m17.set l66_m135 ((l66_m135 : Nat) : Int)).length))).trans (weak_ren [])), rfl⟩
   rintro l70_m17 _ rfl h
   (try dsimp only at h)
   obtain ⟨g77, h⟩ := og_some h
   refine awp_region_ 4 ?_
   refine rs0 (ai ((l66_m135 + 1 : Nat) : Int)) (s_add1 (j := l66_m135) (by kernel_rfl) (by kernel_rfl) g77) ?_
   refine rsB 1 ?_
   refine rnil (tn_ ?_)
   obtain rfl := Option.some.inj h
   exact ⟨(l66_m135 + 1, l70_m17), _, (weak_ren []), ⟨l66_m135 + 1, l70_m17, rfl, rfl⟩, hn66⟩
  have q69_ := of_decide_eq_false q69
  refine awp_condF_ q69 ?_
  refine awp_exit_ (te_ (te_ (be_ (tn_ ?_))))
  obtain rfl := Option.some.inj h
  have h := hn66
  (try dsimp only at h)
  obtain rfl := Option.some.inj h
  exact ⟨_, (weak_ren []), rfl⟩
 rintro l64_m17 _ rfl h
 (try dsimp only at h)
 refine seqR ?_
 refine awp_seqv_ ?_
 obtain ⟨y80, h80, h⟩ := ob_some h
 obtain ⟨y81, h81, h⟩ := ob_some h
 refine awp_region_ 22 ?_
 refine rs0 (ai a0) (by kernel_rfl) ?_
 refine rsl (.agg [(ai a1_0), (.own (oi 2 1) (.pair .int (.pair .int .int)) 0 l34_m9.length), (.tree .int a1_2), (.tree .int a1_3)]) (by kernel_rfl) ?_
 refine rs0 (.own (oi 3 1) .int 0 l64_m17.length) (by kernel_rfl) ?_
 refine rs0 (.box (oi 0 1) 0) (by kernel_rfl) ?_
 refine rsl (ai a1_0) (by kernel_rfl) ?_
 refine rs0 (ai (IntKind.i64.wrap (a1_0 - 1))) (by kernel_rfl) ?_
 refine rcall (.agg [(ai y80.1), (.own (oi 2640 18) (.pair .int (.pair .int .int)) 0 y80.2.1.length), (.own (oi 2641 18) .int 0 y80.2.2.1.length), (.own (oi 2642 18) .int 0 y80.2.2.2.length)]) [((oi 2640 18), some (.arr 59 (.pair .int (.pair .int .int)) y80.2.1)), ((oi 2641 18), some (.arr 3 .int y80.2.2.1)), ((oi 2642 18), some (.arr 3 .int y80.2.2.2))] [(.agg [(ai a1_0), (.own (oi 2 1) (.pair .int (.pair .int .int)) 0 l34_m9.length), (.tree .int a1_2), (.tree .int a1_3)]), (.own (oi 3 1) .int 0 l64_m17.length), (ai (IntKind.i64.wrap (a1_0 - 1)))] _ (caps := []) (args0 := [(.agg [(ai a1_0), (.tree (.pair .int (.pair .int .int)) l34_m9), (.tree .int a1_2), (.tree .int a1_3)]), (.tree .int l64_m17), (ai (IntKind.i64.wrap (a1_0 - 1)))]) trivial (gm_cons (gd_agg (gm_cons (by kernel_rfl) (gm_cons (gd_own (e := 59) (by kernel_rfl) rfl) (gm_cons (by kernel_rfl) (gm_cons (by kernel_rfl) gm_nil))))) (gm_cons (gd_own (e := 3) (by kernel_rfl) rfl) (gm_cons (by kernel_rfl) gm_nil))) (ok_spec_nwMap h80) hb_spec_nwMap ?_
 refine rcall (.agg [(ai y81.1), (.own (oi 2656 19) (.pair .int (.pair .int .int)) 0 y81.2.1.length), (.own (oi 2657 19) .int 0 y81.2.2.1.length), (.own (oi 2658 19) .int 0 y81.2.2.2.length)]) [((oi 2656 19), some (.arr 59 (.pair .int (.pair .int .int)) y81.2.1)), ((oi 2657 19), some (.arr 3 .int y81.2.2.1)), ((oi 2658 19), some (.arr 3 .int y81.2.2.2))] [(ai a0), (.agg [(ai y80.1), (.own (oi 2640 18) (.pair .int (.pair .int .int)) 0 y80.2.1.length), (.own (oi 2641 18) .int 0 y80.2.2.1.length), (.own (oi 2642 18) .int 0 y80.2.2.2.length)])] _ (caps := []) (args0 := [(ai a0), (.agg [(ai y80.1), (.tree (.pair .int (.pair .int .int)) y80.2.1), (.tree .int y80.2.2.1), (.tree .int y80.2.2.2)])]) trivial (gm_cons (by kernel_rfl) (gm_cons (gd_agg (gm_cons (by kernel_rfl) (gm_cons (gd_own (e := 59) (by kernel_rfl) rfl) (gm_cons (gd_own (e := 3) (by kernel_rfl) rfl) (gm_cons (gd_own (e := 3) (by kernel_rfl) rfl) gm_nil))))) gm_nil)) (ok_spec_nwMerge h81) hb_spec_nwMerge ?_
 refine rsB 2 ?_
 refine rnil (tn_ ?_)
 refine ⟨_, Weak.refl _, ?_⟩
 refine awp_ret_ ?_
 obtain rfl := Option.some.inj h
 exact ret_ [(.agg [(ai y81.1), (.own (oi 2656 19) (.pair .int (.pair .int .int)) 0 y81.2.1.length), (.own (oi 2657 19) .int 0 y81.2.2.1.length), (.own (oi 2658 19) .int 0 y81.2.2.2.length)]), (.bool true)] (p_agg (l_cons (l_sc (by kernel_rfl)) (l_cons (l_own (by kernel_rfl) rfl) (l_cons (l_own (by kernel_rfl) rfl) (l_cons (l_own (by kernel_rfl) rfl) l_nil)))) (p_one rfl (l_sc (by kernel_rfl)) p_nil))
def m_slices_Index_int_int_l1 : AC :=
 (.seq (rg [xo 9 (qb .lss (tm 8) (tm 7))])
 (.seq (.cond (tm 9)
  .skip
  (.exit 0))
 (.seq (.block 1 (.seq (rg [xo 10 (qm (tm 8)), xo 5 (qm (tm 10))])
 (.seq (rg [xo 11 (qm (tm 1)), xo 12 (qm (tm 0)), xo 13 (qm (tm 5)), xo 14 (qx 1 (tm 12) (tm 13)), xo 15 (ql (tm 14)), xo 16 (qb .eql (tm 11) (tm 15))])
 (.cond (tm 16)
  (.seq (rg [xo 17 (qm (tm 5)), xo 4 (qm (tm 17))])
  .ret)
  .skip))))
 (rg [xo 18 (qb .add (tm 8) (ci 1)), xo 8 (qm (tm 18))]))))
def m_slices_Index_int_int : AC :=
 (.seq (rg [xo 4 (qm (ci 0))])
 (.seq (.seq (rg [xo 6 (qm (tm 0)), xo 7 (.i (.len (tm 6))), xo 8 (qm (ci 0))])
 (.block 0 (.loop m_slices_Index_int_int_l1)))
 (.seq (rg [xo 4 (qm (ci (-1)))])
 .ret)))
def r_slices_Index_int_int : List Res := [.tmp 4]
theorem c_slices_Index_int_int : compiled Tryd.prog Tryd.f111 = some (m_slices_Index_int_int, r_slices_Index_int_int) := by kernel_rfl
theorem hb_slices_Index_int_int : hasBody Tryd.prog 111 = true := by kernel_rfl
def L_slices_Index_int_int_l1 (a0 : List Int) (a1 : Int) (l4_m8 : Nat) : Option (Ctl Nat (Ctl Unit Int)) :=
 cond (decide (((l4_m8 : Nat) : Int) < ((a0.length : Nat) : Int)))
 (Option.bind (a0[l4_m8]?) fun x11 =>
 cond (a1 == x11)
  (some (Ctl.out (Ctl.out ((l4_m8 : Nat) : Int))))
  (og (l4_m8 + 1 < 4611686018427387904) <|
  some (Ctl.next (l4_m8 + 1))))
 (some (Ctl.out (Ctl.next ())))
def L_slices_Index_int_int (a0 : List Int) (a1 : Int) : Option Int :=
 seqC (loopM (fun s_ : Nat => L_slices_Index_int_int_l1 a0 a1 s_) 4611686018427387904 0) fun _ =>
some (-1)
def rv_slices_Index_int_int (r : Int) : RV := ⟨false, [(false, [.sc (.int .i64 r)])]⟩
theorem ok_slices_Index_int_int {a0 : List Int} {a1 : Int} {r : Int} (h : L_slices_Index_int_int a0 a1 = some r) : CallOK Tryd.prog Tab 111 [(.tree .int a0), (ai a1)] (rv_slices_Index_int_int r) := by
 refine call_of_ (by kernel_rfl) Tryd.func111 c_slices_Index_int_int (n := 19) (by kernel_rfl) (by simp) (tl := [(0, (.tree .int a0)), (1, (ai a1))]) rfl ?_
 unfold m_slices_Index_int_int
 unfold L_slices_Index_int_int at h
 refine seqR ?_
 refine awp_seqC h (fun (_ : Unit) S_ => S_ = ⟨mkTm [], mkOb (someL []), 2⟩) ?_ ?_
 ·intro v_ h hk2
  refine seqR ?_
  refine awp_block_ ?_
  refine awp_loopL h (fun (l4_m8 : Nat) S_ => S_ = ⟨mkTm [(0, (.tree .int a0)), (1, (ai a1)), (7, (ai ((a0.length : Nat) : Int))), (8, (ai ((l4_m8 : Nat) : Int)))], mkOb (someL []), 2⟩) ⟨_, (weak_ren []), rfl⟩ ?_
  rintro n_ l4_m8 _ c_ rfl h hn4
  (try dsimp only at h)
  unfold L_slices_Index_int_int_l1 at h
  unfold m_slices_Index_int_int_l1
  refine seqR ?_
  refine awp_seqv_ ?_
  rcases cond_some h with ⟨q7, h⟩ | ⟨q7, h⟩
  ·have q7_ := of_decide_eq_true q7
   refine awp_condT_ q7 ?_
   refine awp_skip_ (tn_ ?_)
   refine ⟨_, Weak.refl _, ?_⟩
   refine awp_seqv_ ?_
   refine awp_block_ ?_
   refine seqR ?_
   refine awp_seqv_ ?_
   obtain ⟨x11, e11, h⟩ := ob_some h
   refine awp_region_ 11 ?_
   refine rs0 (ai a1) (by kernel_rfl) ?_
   refine rs0 (.tree .int a0) (by kernel_rfl) ?_
   refine rs0 (ai ((l4_m8 : Nat) : Int)) (by kernel_rfl) ?_
   refine rs0 (.telt .int x11 0) (s_idxT (t := .int) (xs := a0) (k := .i64) (m := ((l4_m8 : Nat) : Int)) (by kernel_rfl) (by kernel_rfl) rfl (nat_nn _) rfl e11) ?_
   refine rsB 2 ?_
   refine rnil (tn_ ?_)
   refine ⟨_, Weak.refl _, ?_⟩
   rcases cond_some h with ⟨q12, h⟩ | ⟨q12, h⟩
   ·refine awp_condT_ q12 ?_
    refine seqR ?_
    refine awp_ret_ (br_ (tr_ (tr_ (br_ (tr_ ?_)))))
    obtain rfl := Option.some.inj h
    have h := hn4
    (try dsimp only at h)
    obtain rfl := Option.some.inj h
    have h := hk2
    (try dsimp only at h)
    obtain rfl := Option.some.inj h
    exact ret_ [(ai ((l4_m8 : Nat) : Int))] (p_one rfl (l_sc (by kernel_rfl)) p_nil)
   refine awp_condF_ q12 ?_
   refine awp_skip_ (bn_ (tn_ ?_))
   refine ⟨_, Weak.refl _, ?_⟩
   obtain ⟨g14, h⟩ := og_some h
   refine awp_region_ 13 ?_
   refine rs0 (ai ((l4_m8 + 1 : Nat) : Int)) (s_add1 (j := l4_m8) (by kernel_rfl) (by kernel_rfl) g14) ?_
   refine rsB 1 ?_
   refine rnil (tn_ ?_)
   obtain rfl := Option.some.inj h
   exact ⟨l4_m8 + 1, _, (weak_ren []), rfl, hn4⟩
  have q7_ := of_decide_eq_false q7
  refine awp_condF_ q7 ?_
  refine awp_exit_ (te_ (te_ (be_ (tn_ ?_))))
  obtain rfl := Option.some.inj h
  have h := hn4
  (try dsimp only at h)
  obtain rfl := Option.some.inj h
  exact ⟨(), _, rfl, (weak_ren []), rfl⟩
 rintro _ _ rfl h
 (try dsimp only at h)
 refine seqR ?_
 refine awp_ret_ ?_
 obtain rfl := Option.some.inj h
 exact ret_ [(ai (-1))] (p_one rfl (l_sc (by kernel_rfl)) p_nil)
def m_slices_Contains_int_int : AC :=
 (.seq (rg [xo 4 (qm (cb false))])
 (.seq (rg [xo 5 (qm (tm 0)), xo 6 (qm (tm 1)), xo 7 (qc 111 [(tm 5), (tm 6)] [[(some .int)], []]), xo 8 (qb .geq (tm 7) (ci 0)), xo 4 (qm (tm 8))])
 .ret))
def r_slices_Contains_int_int : List Res := [.tmp 4]
theorem c_slices_Contains_int_int : compiled Tryd.prog Tryd.f105 = some (m_slices_Contains_int_int, r_slices_Contains_int_int) := by kernel_rfl
theorem hb_slices_Contains_int_int : hasBody Tryd.prog 105 = true := by kernel_rfl
def L_slices_Contains_int_int (a0 : List Int) (a1 : Int) : Option Bool :=
 Option.bind (L_slices_Index_int_int a0 a1) fun y3 =>
some (decide (0 ≤ y3))
def rv_slices_Contains_int_int (r : Bool) : RV := ⟨false, [(false, [.sc (.bool r)])]⟩
theorem ok_slices_Contains_int_int {a0 : List Int} {a1 : Int} {r : Bool} (h : L_slices_Contains_int_int a0 a1 = some r) : CallOK Tryd.prog Tab 105 [(.tree .int a0), (ai a1)] (rv_slices_Contains_int_int r) := by
 refine call_of_ (by kernel_rfl) Tryd.func105 c_slices_Contains_int_int (n := 9) (by kernel_rfl) (by simp) (tl := [(0, (.tree .int a0)), (1, (ai a1))]) rfl ?_
 unfold m_slices_Contains_int_int
 unfold L_slices_Contains_int_int at h
 refine seqR ?_
 refine awp_seqv_ ?_
 obtain ⟨y3, h3, h⟩ := ob_some h
 refine awp_region_ 7 ?_
 refine rs0 (.tree .int a0) (by kernel_rfl) ?_
 refine rs0 (ai a1) (by kernel_rfl) ?_
 refine rcall (ai y3) [] [(.tree .int a0), (ai a1)] _ (caps := []) (args0 := [(.tree .int a0), (ai a1)]) trivial (by kernel_rfl) (ok_slices_Index_int_int h3) hb_slices_Index_int_int ?_
 refine rsB 2 ?_
 refine rnil (tn_ ?_)
 refine ⟨_, Weak.refl _, ?_⟩
 refine awp_ret_ ?_
 obtain rfl := Option.some.inj h
 exact ret_ [(.bool (decide (0 ≤ y3)))] (p_one rfl (l_sc (by kernel_rfl)) p_nil)
def m_impl_Network_isInner : AC :=
 (.seq (rg [xo 2 (.i (.box 30 (tm 0))), xo 4 (qm (cb false))])
 (.seq (rg [xo 5 (qm (tm 1)), xo 6 (qf 0 (tm 2)), xo 7 (ql (tm 6)), xo 8 (qb .sub (tm 7) (ci 1)), xo 9 (qc 89 [(tm 5), (ci 0), (tm 8)] [[], [], []]), xo 10 (qm (tm 9)), ⟨(some 11), (some (10, true)), (qf 2 (tm 2))⟩, ⟨(some 12), (some (10, true)), (ql (tm 11))⟩, ⟨(some 13), (some (10, true)), (qm (tm 1))⟩, ⟨(some 14), (some (10, true)), (qc 105 [(tm 12), (tm 13)] [[(some .int)], []])⟩, ⟨(some 15), (some (10, true)), (.i (.not (tm 14)))⟩, xo 16 (.i (.pick (tm 10) (tm 15) (cb false))), xo 17 (qm (tm 16)), ⟨(some 18), (some (17, true)), (qf 3 (tm 2))⟩, ⟨(some 19), (some (17, true)), (ql (tm 18))⟩, ⟨(some 20), (some (17, true)), (qm (tm 1))⟩, ⟨(some 21), (some (17, true)), (qc 105 [(tm 19), (tm 20)] [[(some .int)], []])⟩, ⟨(some 22), (some (17, true)), (.i (.not (tm 21)))⟩, xo 23 (.i (.pick (tm 17) (tm 22) (cb false))), xo 4 (qm (tm 23))])
 .ret))
def r_impl_Network_isInner : List Res := [.tmp 4]
theorem c_impl_Network_isInner : compiled Tryd.prog Tryd.f81 = some (m_impl_Network_isInner, r_impl_Network_isInner) := by kernel_rfl
theorem hb_impl_Network_isInner : hasBody Tryd.prog 81 = true := by kernel_rfl
def L_impl_Network_isInner (a0_0 : Int) (a0_1 : List (Int × Int × Int)) (a0_2 : List Int) (a0_3 : List Int) (a1 : Int) : Option Bool :=
 Option.bind (Option.bind (L_impl_within a1 0 (IntKind.i64.wrap (a0_0 - 1))) fun y3 =>
 cond y3
  (Option.bind (L_slices_Contains_int_int a0_2 a1) fun y5 =>
  cond (!y5)
   (Option.bind (L_slices_Contains_int_int a0_3 a1) fun y7 =>
   some (!y7))
   (some false))
  (some false)) fun l2_m4 =>
some l2_m4
def rv_impl_Network_isInner (r : Bool) : RV := ⟨false, [(false, [.sc (.bool r)])]⟩
theorem ok_impl_Network_isInner {a0_0 : Int} {a0_1 : List (Int × Int × Int)} {a0_2 : List Int} {a0_3 : List Int} {a1 : Int} {r : Bool} (h : L_impl_Network_isInner a0_0 a0_1 a0_2 a0_3 a1 = some r) : CallOK Tryd.prog Tab 81 [(.agg [(ai a0_0), (.tree (.pair .int (.pair .int .int)) a0_1), (.tree .int a0_2), (.tree .int a0_3)]), (ai a1)] (rv_impl_Network_isInner r) := by
 refine call_of_ (by kernel_rfl) Tryd.func81 c_impl_Network_isInner (n := 24) (by kernel_rfl) (by simp) (tl := [(0, (.agg [(ai a0_0), (.tree (.pair .int (.pair .int .int)) a0_1), (.tree .int a0_2), (.tree .int a0_3)])), (1, (ai a1))]) rfl ?_
 unfold m_impl_Network_isInner
 unfold L_impl_Network_isInner at h
 refine seqR ?_
 refine awp_seqB h (fun (l2_m4 : Bool) S_ => S_ = ⟨mkTm [(4, (.bool l2_m4))], mkOb (someL []), 2⟩) ?_ ?_
 ·intro v_ h
  obtain ⟨y3, h3, h⟩ := ob_some h
  rcases cond_some h with ⟨q4, h⟩ | ⟨q4, h⟩
  ·obtain ⟨y5, h5, h⟩ := ob_some h
   rcases cond_some h with ⟨q6, h⟩ | ⟨q6, h⟩
   ·obtain ⟨y7, h7, h⟩ := ob_some h
    refine awp_region_ 23 ?_
    refine rs0 (ai a1) (by kernel_rfl) ?_
    refine rs0 (.box (oi 2 1) 0) (by kernel_rfl) ?_
    refine rsl (ai a0_0) (by kernel_rfl) ?_
    refine rs0 (ai (IntKind.i64.wrap (a0_0 - 1))) (by kernel_rfl) ?_
    refine rcall (.bool y3) [] [(ai a1), (ai 0), (ai (IntKind.i64.wrap (a0_0 - 1)))] _ (caps := []) (args0 := [(ai a1), (ai 0), (ai (IntKind.i64.wrap (a0_0 - 1)))]) trivial (by kernel_rfl) (ok_impl_within h3) hb_impl_within ?_
    refine rs0 (.bool y3) (by kernel_rfl) ?_
    refine rs0 (.box (oi 2 1) 2) (s_gd (by kernel_rfl) q4 (by kernel_rfl)) ?_
    refine rsl (.tree .int a0_2) (s_gd (by kernel_rfl) q4 (by kernel_rfl)) ?_
    refine rs0 (ai a1) (s_gd (by kernel_rfl) q4 (by kernel_rfl)) ?_
    refine rcall (.bool y5) [] [(.tree .int a0_2), (ai a1)] _ (caps := []) (args0 := [(.tree .int a0_2), (ai a1)]) (gdOK_b (by kernel_rfl) q4) (by kernel_rfl) (ok_slices_Contains_int_int h5) hb_slices_Contains_int_int ?_
    refine rs0 (.bool (!y5)) (s_gd (by kernel_rfl) q4 (by kernel_rfl)) ?_
    refine rs0 (.bool (!y5)) (s_pickT (by kernel_rfl) q4) ?_
    refine rs0 (.bool (!y5)) (by kernel_rfl) ?_
    refine rs0 (.box (oi 2 1) 3) (s_gd (by kernel_rfl) q6 (by kernel_rfl)) ?_
    refine rsl (.tree .int a0_3) (s_gd (by kernel_rfl) q6 (by kernel_rfl)) ?_
    refine rs0 (ai a1) (s_gd (by kernel_rfl) q6 (by kernel_rfl)) ?_
    refine rcall (.bool y7) [] [(.tree .int a0_3), (ai a1)] _ (caps := []) (args0 := [(.tree .int a0_3), (ai a1)]) (gdOK_b (by kernel_rfl) q6) (by kernel_rfl) (ok_slices_Contains_int_int h7) hb_slices_Contains_int_int ?_
    refine rs0 (.bool (!y7)) (s_gd (by kernel_rfl) q6 (by kernel_rfl)) ?_
    refine rs0 (.bool (!y7)) (s_pickT (by kernel_rfl) q6) ?_
    refine rsB 1 ?_
    refine rnil (tn_ ?_)
    obtain rfl := Option.some.inj h
    exact ⟨_, (weak_ren []), rfl⟩
   refine awp_region_ 23 ?_
   refine rs0 (ai a1) (by kernel_rfl) ?_
   refine rs0 (.box (oi 2 1) 0) (by kernel_rfl) ?_
   refine rsl (ai a0_0) (by kernel_rfl) ?_
   refine rs0 (ai (IntKind.i64.wrap (a0_0 - 1))) (by kernel_rfl) ?_
   refine rcall (.bool y3) [] [(ai a1), (ai 0), (ai (IntKind.i64.wrap (a0_0 - 1)))] _ (caps := []) (args0 := [(ai a1), (ai 0), (ai (IntKind.i64.wrap (a0_0 - 1)))]) trivial (by kernel_rfl) (ok_impl_within h3) hb_impl_within ?_
   refine rs0 (.bool y3) (by kernel_rfl) ?_
   refine rs0 (.box (oi 2 1) 2) (s_gd (by kernel_rfl) q4 (by kernel_rfl)) ?_
   refine rsl (.tree .int a0_2) (s_gd (by kernel_rfl) q4 (by kernel_rfl)) ?_
   refine rs0 (ai a1) (s_gd (by kernel_rfl) q4 (by kernel_rfl)) ?_
   refine rcall (.bool y5) [] [(.tree .int a0_2), (ai a1)] _ (caps := []) (args0 := [(.tree .int a0_2), (ai a1)]) (gdOK_b (by kernel_rfl) q4) (by kernel_rfl) (ok_slices_Contains_int_int h5) hb_slices_Contains_int_int ?_
   refine rs0 (.bool (!y5)) (s_gd (by kernel_rfl) q4 (by kernel_rfl)) ?_
   refine rs0 (.bool (!y5)) (s_pickT (by kernel_rfl) q4) ?_
   refine rs0 (.bool (!y5)) (by kernel_rfl) ?_
   refine rs0 (.tup []) (s_skip (by kernel_rfl) q6) ?_
   refine rs0 (.tup []) (s_skip (by kernel_rfl) q6) ?_
   refine rs0 (.tup []) (s_skip (by kernel_rfl) q6) ?_
   refine rs0 (.tup []) (s_skip (by kernel_rfl) q6) ?_
   refine rs0 (.tup []) (s_skip (by kernel_rfl) q6) ?_
   refine rs0 (.bool false) (s_pickF (by kernel_rfl) q6) ?_
   refine rsB 1 ?_
   refine rnil (tn_ ?_)
   obtain rfl := Option.some.inj h
   exact ⟨_, (weak_ren []), rfl⟩
  refine awp_region_ 23 ?_
  refine rs0 (ai a1) (by kernel_rfl) ?_
  refine rs0 (.box (oi 2 1) 0) (by kernel_rfl) ?_
  refine rsl (ai a0_0) (by kernel_rfl) ?_
  refine rs0 (ai (IntKind.i64.wrap (a0_0 - 1))) (by kernel_rfl) ?_
  refine rcall (.bool y3) [] [(ai a1), (ai 0), (ai (IntKind.i64.wrap (a0_0 - 1)))] _ (caps := []) (args0 := [(ai a1), (ai 0), (ai (IntKind.i64.wrap (a0_0 - 1)))]) trivial (by kernel_rfl) (ok_impl_within h3) hb_impl_within ?_
  refine rs0 (.bool y3) (by kernel_rfl) ?_
  refine rs0 (.tup []) (s_skip (by kernel_rfl) q4) ?_
  refine rs0 (.tup []) (s_skip (by kernel_rfl) q4) ?_
  refine rs0 (.tup []) (s_skip (by kernel_rfl) q4) ?_
  refine rs0 (.tup []) (s_skip (by kernel_rfl) q4) ?_
  refine rs0 (.tup []) (s_skip (by kernel_rfl) q4) ?_
  refine rs0 (.bool false) (s_pickF (by kernel_rfl) q4) ?_
  refine rsB 8 ?_
  refine rnil (tn_ ?_)
  obtain rfl := Option.some.inj h
  exact ⟨_, (weak_ren []), rfl⟩
 rintro l2_m4 _ rfl h
 (try dsimp only at h)
 refine awp_ret_ ?_
 obtain rfl := Option.some.inj h
 exact ret_ [(.bool l2_m4)] (p_one rfl (l_sc (by kernel_rfl)) p_nil)
def m_impl_Branch_touches : AC :=
 (.seq (rg [xo 2 (.i (.box 59 (tm 0))), xo 4 (qm (cb false))])
 (.seq (rg [xo 5 (qf 0 (tm 2)), xo 6 (ql (tm 5)), xo 7 (qm (tm 1)), xo 8 (qb .eql (tm 6) (tm 7)), xo 9 (qm (tm 8)), ⟨(some 10), (some (9, false)), (qf 1 (tm 2))⟩, ⟨(some 11), (some (9, false)), (ql (tm 10))⟩, ⟨(some 12), (some (9, false)), (qm (tm 1))⟩, ⟨(some 13), (some (9, false)), (qb .eql (tm 11) (tm 12))⟩, xo 14 (.i (.pick (tm 9) (cb true) (tm 13))), xo 4 (qm (tm 14))])
 .ret))
def r_impl_Branch_touches : List Res := [.tmp 4]
theorem c_impl_Branch_touches : compiled Tryd.prog Tryd.f106 = some (m_impl_Branch_touches, r_impl_Branch_touches) := by kernel_rfl
theorem hb_impl_Branch_touches : hasBody Tryd.prog 106 = true := by kernel_rfl
def L_impl_Branch_touches (a0_0 : Int) (a0_1 : Int) (a0_2 : Int) (a1 : Int) : Option Bool :=
 Option.bind (cond (a0_0 == a1)
  (some true)
  (some (a0_1 == a1))) fun l2_m4 =>
some l2_m4
def rv_impl_Branch_touches (r : Bool) : RV := ⟨false, [(false, [.sc (.bool r)])]⟩
theorem ok_impl_Branch_touches {a0_0 : Int} {a0_1 : Int} {a0_2 : Int} {a1 : Int} {r : Bool} (h : L_impl_Branch_touches a0_0 a0_1 a0_2 a1 = some r) : CallOK Tryd.prog Tab 106 [(.agg [(ai a0_0), (ai a0_1), (ai a0_2)]), (ai a1)] (rv_impl_Branch_touches r) := by
 refine call_of_ (by kernel_rfl) Tryd.func106 c_impl_Branch_touches (n := 15) (by kernel_rfl) (by simp) (tl := [(0, (.agg [(ai a0_0), (ai a0_1), (ai a0_2)])), (1, (ai a1))]) rfl ?_
 unfold m_impl_Branch_touches
 unfold L_impl_Branch_touches at h
 refine seqR ?_
 refine awp_seqB h (fun (l2_m4 : Bool) S_ => S_ = ⟨mkTm [(4, (.bool l2_m4))], mkOb (someL []), 2⟩) ?_ ?_
 ·intro v_ h
  rcases cond_some h with ⟨q3, h⟩ | ⟨q3, h⟩
  ·refine awp_region_ 14 ?_
   refine rs0 (.box (oi 2 1) 0) (by kernel_rfl) ?_
   refine rsl (ai a0_0) (by kernel_rfl) ?_
   refine rs0 (ai a1) (by kernel_rfl) ?_
   refine rs0 (.bool (a0_0 == a1)) (by kernel_rfl) ?_
   refine rs0 (.bool (a0_0 == a1)) (by kernel_rfl) ?_
   refine rs0 (.tup []) (s_skip (by kernel_rfl) q3) ?_
   refine rs0 (.tup []) (s_skip (by kernel_rfl) q3) ?_
   refine rs0 (.tup []) (s_skip (by kernel_rfl) q3) ?_
   refine rs0 (.tup []) (s_skip (by kernel_rfl) q3) ?_
   refine rs0 (.bool true) (s_pickT (by kernel_rfl) q3) ?_
   refine rsB 1 ?_
   refine rnil (tn_ ?_)
   obtain rfl := Option.some.inj h
   exact ⟨_, (weak_ren []), rfl⟩
  refine awp_region_ 14 ?_
  refine rs0 (.box (oi 2 1) 0) (by kernel_rfl) ?_
  refine rsl (ai a0_0) (by kernel_rfl) ?_
  refine rs0 (ai a1) (by kernel_rfl) ?_
  refine rs0 (.bool (a0_0 == a1)) (by kernel_rfl) ?_
  refine rs0 (.bool (a0_0 == a1)) (by kernel_rfl) ?_
  refine rs0 (.box (oi 2 1) 1) (s_gd (by kernel_rfl) q3 (by kernel_rfl)) ?_
  refine rsl (ai a0_1) (s_gd (by kernel_rfl) q3 (by kernel_rfl)) ?_
  refine rs0 (ai a1) (s_gd (by kernel_rfl) q3 (by kernel_rfl)) ?_
  refine rs0 (.bool (a0_1 == a1)) (s_gd (by kernel_rfl) q3 (by kernel_rfl)) ?_
  refine rs0 (.bool (a0_1 == a1)) (s_pickF (by kernel_rfl) q3) ?_
  refine rsB 1 ?_
  refine rnil (tn_ ?_)
  obtain rfl := Option.some.inj h
  exact ⟨_, (weak_ren []), rfl⟩
 rintro l2_m4 _ rfl h
 (try dsimp only at h)
 refine awp_ret_ ?_
 obtain rfl := Option.some.inj h
 exact ret_ [(.bool l2_m4)] (p_one rfl (l_sc (by kernel_rfl)) p_nil)
def m_impl_bit : AC :=
 (.seq (rg [xo 2 (qm (ci 0))])
 (.seq (.seq (rg [xo 3 (qm (tm 0))])
 (.cond (tm 3)
  (.seq (rg [xo 2 (qm (ci 1))])
  .ret)
  .skip))
 (.seq (rg [xo 2 (qm (ci 0))])
 .ret)))
def r_impl_bit : List Res := [.tmp 2]
theorem c_impl_bit : compiled Tryd.prog Tryd.f109 = some (m_impl_bit, r_impl_bit) := by kernel_rfl
theorem hb_impl_bit : hasBody Tryd.prog 109 = true := by kernel_rfl
def L_impl_bit (a0 : Bool) : Option Int :=
 cond a0
 (some 1)
 (some 0)
def rv_impl_bit (r : Int) : RV := ⟨false, [(false, [.sc (.int .i64 r)])]⟩
theorem ok_impl_bit {a0 : Bool} {r : Int} (h : L_impl_bit a0 = some r) : CallOK Tryd.prog Tab 109 [(.bool a0)] (rv_impl_bit r) := by
 refine call_of_ (by kernel_rfl) Tryd.func109 c_impl_bit (n := 4) (by kernel_rfl) (by simp) (tl := [(0, (.bool a0))]) rfl ?_
 unfold m_impl_bit
 unfold L_impl_bit at h
 refine seqR ?_
 refine awp_seqv_ ?_
 refine seqR ?_
 rcases cond_some h with ⟨q4, h⟩ | ⟨q4, h⟩
 ·refine awp_condT_ q4 ?_
  refine seqR ?_
  refine awp_ret_ (tr_ ?_)
  obtain rfl := Option.some.inj h
  exact ret_ [(ai 1)] (p_one rfl (l_sc (by kernel_rfl)) p_nil)
 refine awp_condF_ q4 ?_
 refine awp_skip_ (tn_ ?_)
 refine ⟨_, Weak.refl _, ?_⟩
 refine seqR ?_
 refine awp_ret_ ?_
 obtain rfl := Option.some.inj h
 exact ret_ [(ai 0)] (p_one rfl (l_sc (by kernel_rfl)) p_nil)
def m_impl_power_l1 : AC :=
 (.seq (.seq (rg [xo 10 (qm (tm 2)), xo 11 (qb .gtr (tm 10) (ci 0))])
 (.cond (tm 11)
  .skip
  (.exit 0)))
 (.seq (.block 1 (.seq (.seq (rg [xo 14 (qm (tm 2)), xo 15 (qb .rem (tm 14) (ci 2)), xo 16 (qb .eql (tm 15) (ci 1))])
 (.cond (tm 16)
  (rg [xo 17 (qm (tm 7)), xo 18 (qm (tm 1)), xo 19 (qb .mul (tm 17) (tm 18)), xo 20 (qm (tm 0)), xo 21 (qb .rem (tm 19) (tm 20)), xo 7 (qm (tm 21))])
  .skip))
 (rg [xo 22 (qm (tm 1)), xo 23 (qm (tm 1)), xo 24 (qb .mul (tm 22) (tm 23)), xo 25 (qm (tm 0)), xo 26 (qb .rem (tm 24) (tm 25)), xo 1 (qm (tm 26))])))
 (rg [xo 12 (qm (tm 2)), xo 13 (qb .quo (tm 12) (ci 2)), xo 2 (qm (tm 13))])))
def m_impl_power : AC :=
 (.seq (rg [xo 6 (qm (ci 0))])
 (.seq (rg [xo 8 (qm (tm 0)), xo 9 (qb .rem (ci 1) (tm 8)), xo 7 (qm (tm 9))])
 (.seq (.block 0 (.loop m_impl_power_l1))
 (.seq (rg [xo 27 (qm (tm 7)), xo 6 (qm (tm 27))])
 .ret))))
def r_impl_power : List Res := [.tmp 6]
theorem c_impl_power : compiled Tryd.prog Tryd.f114 = some (m_impl_power, r_impl_power) := by kernel_rfl
theorem hb_impl_power : hasBody Tryd.prog 114 = true := by kernel_rfl
def L_impl_power_l1 (a0 : Int) (l5_m1 : Int) (l5_m2 : Int) (l5_m7 : Int) : Option (Ctl (Int × Int × Int) Int) :=
 cond (decide (0 < l5_m2))
 (Option.bind (cond ((Int.tmod l5_m2 2) == 1)
   (og (a0 ≠ 0) <|
   some (Int.tmod (IntKind.i64.wrap (l5_m7 * l5_m1)) a0))
   (some l5_m7)) fun l10_m7 =>
 og (a0 ≠ 0) <|
 some (Ctl.next (Int.tmod (IntKind.i64.wrap (l5_m1 * l5_m1)) a0, IntKind.i64.wrap (Int.tdiv l5_m2 2), l10_m7)))
 (some (Ctl.out l5_m7))
def L_impl_power (a0 : Int) (a1 : Int) (a2 : Int) : Option Int :=
 og (a0 ≠ 0) <|
Option.bind (loopM (fun s_ : Int × Int × Int => L_impl_power_l1 a0 s_.1 s_.2.1 s_.2.2) 4611686018427387904 (a1, a2, Int.tmod 1 a0)) fun l4_m7 =>
some l4_m7
def rv_impl_power (r : Int) : RV := ⟨false, [(false, [.sc (.int .i64 r)])]⟩
theorem ok_impl_power {a0 : Int} {a1 : Int} {a2 : Int} {r : Int} (h : L_impl_power a0 a1 a2 = some r) : CallOK Tryd.prog Tab 114 [(ai a0), (ai a1), (ai a2)] (rv_impl_power r) := by
 refine call_of_ (by kernel_rfl) Tryd.func114 c_impl_power (n := 28) (by kernel_rfl) (by simp) (tl := [(0, (ai a0)), (1, (ai a1)), (2, (ai a2))]) rfl ?_
 unfold m_impl_power
 unfold L_impl_power at h
 refine seqR ?_
 refine awp_seqv_ ?_
 obtain ⟨g3, h⟩ := og_some h
 refine awp_region_ 5 ?_
 refine rs0 (ai a0) (by kernel_rfl) ?_
 refine rs0 (ai (Int.tmod 1 a0)) (s_rem (k := .i64) (a := 1) (b := a0) (by kernel_rfl) (by kernel_rfl) g3) ?_
 refine rsB 1 ?_
 refine rnil (tn_ ?_)
 refine ⟨_, Weak.refl _, ?_⟩
 refine awp_seqB h (fun (l4_m7 : Int) S_ => S_ = ⟨mkTm [(7, (ai l4_m7))], mkOb (someL []), 2⟩) ?_ ?_
 ·intro v_ h
  refine awp_block_ ?_
  refine awp_loopL h (fun t_ S_ => ∃ (l5_m1 : Int), ∃ (l5_m2 : Int), ∃ (l5_m7 : Int), t_ = (l5_m1, l5_m2, l5_m7) ∧ S_ = ⟨mkTm [(0, (ai a0)), (1, (ai l5_m1)), (2, (ai l5_m2)), (7, (ai l5_m7))], mkOb (someL []), 2⟩) ⟨_, (weak_ren []), ⟨a1, a2, Int.tmod 1 a0, rfl, rfl⟩⟩ ?_
  rintro n_ _ _ c_ ⟨l5_m1, l5_m2, l5_m7, rfl, rfl⟩ h hn5
  (try dsimp only at h)
  unfold L_impl_power_l1 at h
  unfold m_impl_power_l1
  refine awp_seqv_ ?_
  refine seqR ?_
  rcases cond_some h with ⟨q8, h⟩ | ⟨q8, h⟩
  ·have q8_ := of_decide_eq_true q8
   refine awp_condT_ q8 ?_
   refine awp_skip_ (tn_ ?_)
   refine ⟨_, Weak.refl _, ?_⟩
   refine awp_seqv_ ?_
   refine awp_block_ ?_
   refine awp_seqB h (fun (l10_m7 : Int) S_ => S_ = ⟨mkTm [(0, (ai a0)), (1, (ai l5_m1)), (2, (ai l5_m2)), (7, (ai l10_m7))], mkOb (someL []), 2⟩) ?_ ?_
   ·intro v_ h
    refine awp_seqv_ ?_
    refine awp_region_ 7 ?_
    refine rs0 (ai l5_m2) (by kernel_rfl) ?_
    refine rs0 (ai (Int.tmod l5_m2 2)) (s_rem (k := .i64) (a := l5_m2) (b := 2) (by kernel_rfl) (by kernel_rfl) (by decide)) ?_
    refine rsB 1 ?_
    refine rnil (tn_ ?_)
    refine ⟨_, Weak.refl _, ?_⟩
    rcases cond_some h with ⟨q12, h⟩ | ⟨q12, h⟩
    ·refine awp_condT_ q12 ?_
     obtain ⟨g13, h⟩ := og_some h
     refine awp_region_ 13 ?_
     refine rs0 (ai l5_m7) (by kernel_rfl) ?_
     refine rs0 (ai l5_m1) (by kernel_rfl) ?_
     refine rs0 (ai (IntKind.i64.wrap (l5_m7 * l5_m1))) (by kernel_rfl) ?_
     refine rs0 (ai a0) (by kernel_rfl) ?_
     refine rs0 (ai (Int.tmod (IntKind.i64.wrap (l5_m7 * l5_m1)) a0)) (s_rem (k := .i64) (a := IntKind.i64.wrap (l5_m7 * l5_m1)) (b := a0) (by kernel_rfl) (by kernel_rfl) g13) ?_
     refine rsB 1 ?_
     refine rnil (tn_ ?_)
     obtain rfl := Option.some.inj h
     exact ⟨_, (weak_ren []), rfl⟩
    refine awp_condF_ q12 ?_
    refine awp_skip_ (tn_ ?_)
    obtain rfl := Option.some.inj h
    exact ⟨_, (weak_ren []), rfl⟩
   rintro l10_m7 _ rfl h
   (try dsimp only at h)
   obtain ⟨g14, h⟩ := og_some h
   refine awp_region_ 8 ?_
   refine rs0 (ai l5_m1) (by kernel_rfl) ?_
   refine rs0 (ai l5_m1) (by kernel_rfl) ?_
   refine rs0 (ai (IntKind.i64.wrap (l5_m1 * l5_m1))) (by kernel_rfl) ?_
   refine rs0 (ai a0) (by kernel_rfl) ?_
   refine rs0 (ai (Int.tmod (IntKind.i64.wrap (l5_m1 * l5_m1)) a0)) (s_rem (k := .i64) (a := IntKind.i64.wrap (l5_m1 * l5_m1)) (b := a0) (by kernel_rfl) (by kernel_rfl) g14) ?_
   refine rsB 1 ?_
   refine rnil (bn_ (tn_ ?_))
   refine ⟨_, Weak.refl _, ?_⟩
   refine awp_region_ 11 ?_
   refine rs0 (ai l5_m2) (by kernel_rfl) ?_
   refine rs0 (ai (IntKind.i64.wrap (Int.tdiv l5_m2 2))) (s_quo (k := .i64) (a := l5_m2) (b := 2) (by kernel_rfl) (by kernel_rfl) (by decide)) ?_
   refine rsB 1 ?_
   refine rnil (tn_ ?_)
   obtain rfl := Option.some.inj h
   exact ⟨(Int.tmod (IntKind.i64.wrap (l5_m1 * l5_m1)) a0, IntKind.i64.wrap (Int.tdiv l5_m2 2), l10_m7), _, (weak_ren []), ⟨Int.tmod (IntKind.i64.wrap (l5_m1 * l5_m1)) a0, IntKind.i64.wrap (Int.tdiv l5_m2 2), l10_m7, rfl, rfl⟩, hn5⟩
  have q8_ := of_decide_eq_false q8
  refine awp_condF_ q8 ?_
  refine awp_exit_ (te_ (te_ (be_ (tn_ ?_))))
  obtain rfl := Option.some.inj h
  have h := hn5
  (try dsimp only at h)
  obtain rfl := Option.some.inj h
  exact ⟨_, (weak_ren []), rfl⟩
 rintro l4_m7 _ rfl h
 (try dsimp only at h)
 refine seqR ?_
 refine awp_ret_ ?_
 obtain rfl := Option.some.inj h
 exact ret_ [(ai l4_m7)] (p_one rfl (l_sc (by kernel_rfl)) p_nil)
def m_impl_inverse : AC :=
 (.seq (rg [xo 4 (qm (ci 0))])
 (.seq (rg [xo 5 (qm (tm 0)), xo 6 (qm (tm 1)), xo 7 (qm (tm 0)), xo 8 (qb .sub (tm 7) (ci 2)), xo 9 (qm (tm 0)), xo 10 (qb .eql (tm 9) (ci 2)), xo 11 (qc 109 [(tm 10)] [[]]), xo 12 (qb .add (tm 8) (tm 11)), xo 13 (qc 114 [(tm 5), (tm 6), (tm 12)] [[], [], []]), xo 4 (qm (tm 13))])
 .ret))
def r_impl_inverse : List Res := [.tmp 4]
theorem c_impl_inverse : compiled Tryd.prog Tryd.f112 = some (m_impl_inverse, r_impl_inverse) := by kernel_rfl
theorem hb_impl_inverse : hasBody Tryd.prog 112 = true := by kernel_rfl
def L_impl_inverse (a0 : Int) (a1 : Int) : Option Int :=
 Option.bind (L_impl_bit (a0 == 2)) fun y3 =>
Option.bind (L_impl_power a0 a1 (IntKind.i64.wrap (IntKind.i64.wrap (a0 - 2) + y3))) fun y4 =>
some y4
def rv_impl_inverse (r : Int) : RV := ⟨false, [(false, [.sc (.int .i64 r)])]⟩
theorem ok_impl_inverse {a0 : Int} {a1 : Int} {r : Int} (h : L_impl_inverse a0 a1 = some r) : CallOK Tryd.prog Tab 112 [(ai a0), (ai a1)] (rv_impl_inverse r) := by
 refine call_of_ (by kernel_rfl) Tryd.func112 c_impl_inverse (n := 14) (by kernel_rfl) (by simp) (tl := [(0, (ai a0)), (1, (ai a1))]) rfl ?_
 unfold m_impl_inverse
 unfold L_impl_inverse at h
 refine seqR ?_
 refine awp_seqv_ ?_
 obtain ⟨y3, h3, h⟩ := ob_some h
 obtain ⟨y4, h4, h⟩ := ob_some h
 refine awp_region_ 12 ?_
 refine rs0 (ai a0) (by kernel_rfl) ?_
 refine rs0 (ai a1) (by kernel_rfl) ?_
 refine rs0 (ai a0) (by kernel_rfl) ?_
 refine rs0 (ai (IntKind.i64.wrap (a0 - 2))) (by kernel_rfl) ?_
 refine rs0 (ai a0) (by kernel_rfl) ?_
 refine rs0 (.bool (a0 == 2)) (by kernel_rfl) ?_
 refine rcall (ai y3) [] [(.bool (a0 == 2))] _ (caps := []) (args0 := [(.bool (a0 == 2))]) trivial (by kernel_rfl) (ok_impl_bit h3) hb_impl_bit ?_
 refine rs0 (ai (IntKind.i64.wrap (IntKind.i64.wrap (a0 - 2) + y3))) (by kernel_rfl) ?_
 refine rcall (ai y4) [] [(ai a0), (ai a1), (ai (IntKind.i64.wrap (IntKind.i64.wrap (a0 - 2) + y3)))] _ (caps := []) (args0 := [(ai a0), (ai a1), (ai (IntKind.i64.wrap (IntKind.i64.wrap (a0 - 2) + y3)))]) trivial (by kernel_rfl) (ok_impl_power h4) hb_impl_power ?_
 refine rsB 1 ?_
 refine rnil (tn_ ?_)
 refine ⟨_, Weak.refl _, ?_⟩
 refine awp_ret_ ?_
 obtain rfl := Option.some.inj h
 exact ret_ [(ai y4)] (p_one rfl (l_sc (by kernel_rfl)) p_nil)
def m_impl_Branch_other : AC :=
 (.seq (rg [xo 2 (.i (.box 59 (tm 0))), xo 4 (qm (ci 0))])
 (.seq (rg [xo 5 (qf 0 (tm 2)), xo 6 (ql (tm 5)), xo 7 (qf 1 (tm 2)), xo 8 (ql (tm 7)), xo 9 (qb .add (tm 6) (tm 8)), xo 10 (qm (tm 1)), xo 11 (qb .sub (tm 9) (tm 10)), xo 4 (qm (tm 11))])
 .ret))
def r_impl_Branch_other : List Res := [.tmp 4]
theorem c_impl_Branch_other : compiled Tryd.prog Tryd.f113 = some (m_impl_Branch_other, r_impl_Branch_other) := by kernel_rfl
theorem hb_impl_Branch_other : hasBody Tryd.prog 113 = true := by kernel_rfl
def L_impl_Branch_other (a0_0 : Int) (a0_1 : Int) (a0_2 : Int) (a1 : Int) : Option Int :=
 some (IntKind.i64.wrap ((IntKind.i64.wrap (a0_0 + a0_1)) - a1))
def rv_impl_Branch_other (r : Int) : RV := ⟨false, [(false, [.sc (.int .i64 r)])]⟩
theorem ok_impl_Branch_other {a0_0 : Int} {a0_1 : Int} {a0_2 : Int} {a1 : Int} {r : Int} (h : L_impl_Branch_other a0_0 a0_1 a0_2 a1 = some r) : CallOK Tryd.prog Tab 113 [(.agg [(ai a0_0), (ai a0_1), (ai a0_2)]), (ai a1)] (rv_impl_Branch_other r) := by
 refine call_of_ (by kernel_rfl) Tryd.func113 c_impl_Branch_other (n := 12) (by kernel_rfl) (by simp) (tl := [(0, (.agg [(ai a0_0), (ai a0_1), (ai a0_2)])), (1, (ai a1))]) rfl ?_
 unfold m_impl_Branch_other
 unfold L_impl_Branch_other at h
 refine seqR ?_
 refine seqR ?_
 refine awp_ret_ ?_
 obtain rfl := Option.some.inj h
 exact ret_ [(ai (IntKind.i64.wrap ((IntKind.i64.wrap (a0_0 + a0_1)) - a1)))] (p_one rfl (l_sc (by kernel_rfl)) p_nil)
def m_impl_mesh_l2 : AC :=
 (.seq (rg [xo 32 (qb .lss (tm 31) (tm 30))])
 (.seq (.cond (tm 32)
  .skip
  (.exit 2))
 (.seq (.block 3 (.seq (rg [xo 33 (qx 3 (tm 29) (tm 31)), xo 34 (.i (.ld false 3 (tm 33))), xo 14 (.i (.alloc 59 [(.int .i64 0), (.int .i64 0), (.int .i64 0)])), xn (.st false 3 (tm 14) (tm 34))])
 (.seq (.region [xo 35 (.i (.ld false 3 (tm 12))), xo 36 (qm (tm 2)), xo 37 (qc 113 [(tm 35), (tm 36)] [[none, none, none], []]), xo 38 (.i (.ld false 3 (tm 14))), xo 39 (qm (tm 2)), xo 40 (qc 113 [(tm 38), (tm 39)] [[none, none, none], []]), xo 41 (qb .neq (tm 37) (tm 40))] true [(2, 3)])
 (.cond (tm 41)
  (.region [xo 42 (qm (tm 9)), xo 43 (.i (.ld false 3 (tm 12))), xo 44 (qm (tm 2)), xo 45 (qc 113 [(tm 43), (tm 44)] [[none, none, none], []]), xo 46 (.i (.ld false 3 (tm 14))), xo 47 (qm (tm 2)), xo 48 (qc 113 [(tm 46), (tm 47)] [[none, none, none], []]), xo 49 (qm (tm 0)), xo 50 (qf 2 (tm 12)), xo 51 (ql (tm 50)), xo 52 (qf 2 (tm 14)), xo 53 (ql (tm 52)), xo 54 (qb .mul (tm 51) (tm 53)), xo 55 (qm (tm 10)), xo 56 (qb .mul (tm 54) (tm 55)), xo 57 (qc 51 [(tm 49), (tm 56)] [[], []]), xo 58 (.build [(.int .i64 0), (.int .i64 0), (.int .i64 0)] [(0, 1, (tm 45)), (1, 1, (tm 48)), (2, 1, (tm 57))]), xo 59 (.mkS 59 (.pair .int (.pair .int .int)) [(tm 58)]), xo 60 (.append 59 (.pair .int (.pair .int .int)) 24 (tm 42) (tm 59)), xo 9 (qm (tm 60))] true [(3, 4), (3, 9), (6, 9), (3, 11), (6, 11)])
  .skip))))
 (rg [xo 61 (qb .add (tm 31) (ci 1)), xo 31 (qm (tm 61))]))))
def m_impl_mesh_l1 : AC :=
 (.seq (rg [xo 22 (qb .lss (tm 21) (tm 20))])
 (.seq (.cond (tm 22)
  .skip
  (.exit 0))
 (.seq (.block 1 (.seq (rg [xo 23 (qm (tm 21)), xo 24 (qx 3 (tm 19) (tm 21)), xo 25 (.i (.ld false 3 (tm 24))), xo 12 (.i (.alloc 59 [(.int .i64 0), (.int .i64 0), (.int .i64 0)])), xo 11 (qm (tm 23)), xn (.st false 3 (tm 12) (tm 25))])
 (.seq (rg [xo 26 (qm (tm 1)), xo 27 (qm (tm 11)), xo 28 (qb .add (tm 27) (ci 1)), xo 29 (.slice 3 (tm 26) (some (tm 28)) none none), xo 30 (.i (.len (tm 29))), xo 31 (qm (ci 0))])
 (.block 2 (.loop m_impl_mesh_l2)))))
 (rg [xo 62 (qb .add (tm 21) (ci 1)), xo 21 (qm (tm 62))]))))
def m_impl_mesh : AC :=
 (.seq (rg [xo 8 (qm (.cst .nils))])
 (.seq (rg [xo 15 (.mkS 59 (.pair .int (.pair .int .int)) []), xo 9 (qm (tm 15))])
 (.seq (rg [xo 16 (qm (tm 0)), xo 17 (qm (tm 3)), xo 18 (qc 112 [(tm 16), (tm 17)] [[], []]), xo 10 (qm (tm 18))])
 (.seq (.seq (rg [xo 19 (qm (tm 1)), xo 20 (.i (.len (tm 19))), xo 21 (qm (ci 0))])
 (.block 0 (.loop m_impl_mesh_l1)))
 (.seq (rg [xo 63 (qm (tm 9)), xo 8 (qm (tm 63))])
 .ret)))))
def r_impl_mesh : List Res := [.tmp 8]
theorem c_impl_mesh : compiled Tryd.prog Tryd.f107 = some (m_impl_mesh, r_impl_mesh) := by kernel_rfl
theorem hb_impl_mesh : hasBody Tryd.prog 107 = true := by kernel_rfl
def L_impl_mesh_l2 (a1 : List (Int × Int × Int)) (l7_m21 : Nat) (x13 : Int × Int × Int) (a2 : Int) (a0 : Int) (y4 : Int) (l17_m31 : Nat) (l17_m9 : List (Int × Int × Int)) : Option (Ctl (Nat × (List (Int × Int × Int))) (List (Int × Int × Int))) :=
 cond (decide (((l17_m31 : Nat) : Int) < (((a1.drop (l7_m21 + 1)).length : Nat) : Int)))
 (Option.bind (Option.bind ((a1.drop (l7_m21 + 1))[l17_m31]?) fun x23 =>
  Option.bind (L_impl_Branch_other x13.1 x13.2.1 x13.2.2 a2) fun y25 =>
  Option.bind (L_impl_Branch_other x23.1 x23.2.1 x23.2.2 a2) fun y26 =>
  cond (y25 != y26)
   (Option.bind (L_impl_Branch_other x13.1 x13.2.1 x13.2.2 a2) fun y28 =>
   Option.bind (L_impl_Branch_other x23.1 x23.2.1 x23.2.2 a2) fun y29 =>
   Option.bind (L_impl_mod a0 (IntKind.i64.wrap ((IntKind.i64.wrap (x13.2.2 * x23.2.2)) * y4))) fun y30 =>
   og (l17_m9.length + 1 ≤ 1073741824 ∧ (l17_m9.length + 1) * 24 ≤ 140737488355328) <|
   some (l17_m9 ++ ([(y28, y29, y30)])))
   (some l17_m9)) fun l21_m9 =>
 og (l17_m31 + 1 < 4611686018427387904) <|
 some (Ctl.next (l17_m31 + 1, l21_m9)))
 (some (Ctl.out l17_m9))
def L_impl_mesh_l1 (a1 : List (Int × Int × Int)) (a2 : Int) (a0 : Int) (y4 : Int) (l7_m21 : Nat) (l7_m9 : List (Int × Int × Int)) : Option (Ctl (Nat × (List (Int × Int × Int))) (List (Int × Int × Int))) :=
 cond (decide (((l7_m21 : Nat) : Int) < ((a1.length : Nat) : Int)))
 (Option.bind (Option.bind (a1[l7_m21]?) fun x13 =>
  og (l7_m21 + 1 < 4611686018427387904) <|
  og ((0 : Int) ≤ ((l7_m21 + 1 : Nat) : Int) ∧ ((l7_m21 + 1 : Nat) : Int) ≤ ((a1.length : Nat) : Int) ∧ ((a1.length : Nat) : Int) ≤ ((a1.length : Nat) : Int) ∧ ((a1.length : Nat) : Int) ≤ ((a1.length : Nat) : Int)) <|
  loopM (fun s_ : Nat × (List (Int × Int × Int)) => L_impl_mesh_l2 a1 l7_m21 x13 a2 a0 y4 s_.1 s_.2) 4611686018427387904 (0, l7_m9)) fun l11_m9 =>
 og (l7_m21 + 1 < 4611686018427387904) <|
 some (Ctl.next (l7_m21 + 1, l11_m9)))
 (some (Ctl.out l7_m9))
def L_impl_mesh (a0 : Int) (a1 : List (Int × Int × Int)) (a2 : Int) (a3 : Int) : Option (List (Int × Int × Int)) :=
 Option.bind (L_impl_inverse a0 a3) fun y4 =>
Option.bind (loopM (fun s_ : Nat × (List (Int × Int × Int)) => L_impl_mesh_l1 a1 a2 a0 y4 s_.1 s_.2) 4611686018427387904 (0, [])) fun l5_m9 =>
some l5_m9
def rv_impl_mesh (r : List (Int × Int × Int)) : RV := ⟨false, [(false, [.new 59 (.pair .int (.pair .int .int)) r])]⟩
theorem ok_impl_mesh {a0 : Int} {a1 : List (Int × Int × Int)} {a2 : Int} {a3 : Int} {r : List (Int × Int × Int)} (h : L_impl_mesh a0 a1 a2 a3 = some r) : CallOK Tryd.prog Tab 107 [(ai a0), (.tree (.pair .int (.pair .int .int)) a1), (ai a2), (ai a3)] (rv_impl_mesh r) := by
 refine call_of_ (by kernel_rfl) Tryd.func107 c_impl_mesh (n := 64) (by kernel_rfl) (by simp) (tl := [(0, (ai a0)), (1, (.tree (.pair .int (.pair .int .int)) a1)), (2, (ai a2)), (3, (ai a3))]) rfl ?_
 unfold m_impl_mesh
 unfold L_impl_mesh at h
 refine seqR ?_
 refine seqR ?_
 refine awp_seqv_ ?_
 obtain ⟨y4, h4, h⟩ := ob_some h
 refine awp_region_ 8 ?_
 refine rs0 (ai a0) (by kernel_rfl) ?_
 refine rs0 (ai a3) (by kernel_rfl) ?_
 refine rcall (ai y4) [] [(ai a0), (ai a3)] _ (caps := []) (args0 := [(ai a0), (ai a3)]) trivial (by kernel_rfl) (ok_impl_inverse h4) hb_impl_inverse ?_
 refine rsB 1 ?_
 refine rnil (tn_ ?_)
 refine ⟨_, Weak.refl _, ?_⟩
 refine awp_seqB h (fun (l5_m9 : List (Int × Int × Int)) S_ => S_ = ⟨mkTm [(9, (.own (oi 0 1) (.pair .int (.pair .int .int)) 0 l5_m9.length))], mkOb (someL [((oi 0 1), .arr 59 (.pair .int (.pair .int .int)) l5_m9)]), 2⟩) ?_ ?_
 ·intro v_ h
  refine seqR ?_
  refine awp_block_ ?_
  refine awp_loopL h (fun t_ S_ => ∃ (l7_m21 : Nat), ∃ (l7_m9 : List (Int × Int × Int)), t_ = (l7_m21, l7_m9) ∧ S_ = ⟨mkTm [(0, (ai a0)), (1, (.tree (.pair .int (.pair .int .int)) a1)), (2, (ai a2)), (9, (.own (oi 0 1) (.pair .int (.pair .int .int)) 0 l7_m9.length)), (10, (ai y4)), (19, (.tree (.pair .int (.pair .int .int)) a1)), (20, (ai ((a1.length : Nat) : Int))), (21, (ai ((l7_m21 : Nat) : Int)))], mkOb (someL [((oi 0 1), .arr 59 (.pair .int (.pair .int .int)) l7_m9)]), 2⟩) ⟨_, (weak_ren [((oi 0 1), (oi 15 2))]), ⟨0, [], rfl, rfl⟩⟩ ?_
  rintro n_ _ _ c_ ⟨l7_m21, l7_m9, rfl, rfl⟩ h hn7
  (try dsimp only at h)
  unfold L_impl_mesh_l1 at h
  unfold m_impl_mesh_l1
  refine seqR ?_
  refine awp_seqv_ ?_
  rcases cond_some h with ⟨q10, h⟩ | ⟨q10, h⟩
  ·have q10_ := of_decide_eq_true q10
   refine awp_condT_ q10 ?_
   refine awp_skip_ (tn_ ?_)
   refine ⟨_, Weak.refl _, ?_⟩
   refine awp_seqB h (fun (l11_m9 : List (Int × Int × Int)) S_ => S_ = ⟨mkTm [(0, (ai a0)), (1, (.tree (.pair .int (.pair .int .int)) a1)), (2, (ai a2)), (9, (.own (oi 0 1) (.pair .int (.pair .int .int)) 0 l11_m9.length)), (10, (ai y4)), (19, (.tree (.pair .int (.pair .int .int)) a1)), (20, (ai ((a1.length : Nat) : Int))), (21, (ai ((l7_m21 : Nat) : Int)))], mkOb (someL [((oi 0 1), .arr 59 (.pair .int (.pair .int .int)) l11_m9)]), 2⟩) ?_ ?_
   ·intro v_ h
    refine awp_block_ ?_
    refine awp_seqv_ ?_
    obtain ⟨x13, e13, h⟩ := ob_some h
    refine awp_region_ 9 ?_
    refine rs0 (ai ((l7_m21 : Nat) : Int)) (by kernel_rfl) ?_
    refine rs0 (.telt (.pair .int (.pair .int .int)) x13 0) (s_idxT (t := (.pair .int (.pair .int .int))) (xs := a1) (k := .i64) (m := ((l7_m21 : Nat) : Int)) (by kernel_rfl) (by kernel_rfl) rfl (nat_nn _) rfl e13) ?_
    refine rsB 4 ?_
    refine rnil (tn_ ?_)
    refine ⟨_, Weak.refl _, ?_⟩
    refine awp_seqv_ ?_
    obtain ⟨g15, h⟩ := og_some h
    obtain ⟨g16, h⟩ := og_some h
    refine awp_region_ 15 ?_
    refine rs0 (.tree (.pair .int (.pair .int .int)) a1) (by kernel_rfl) ?_
    refine rs0 (ai ((l7_m21 : Nat) : Int)) (by kernel_rfl) ?_
    refine rs0 (ai ((l7_m21 + 1 : Nat) : Int)) (s_add1 (j := l7_m21) (by kernel_rfl) (by kernel_rfl) g15) ?_
    refine rs0 (.tree (.pair .int (.pair .int .int)) (a1.drop (l7_m21 + 1))) (s_sliceT (t := (.pair .int (.pair .int .int))) (xs := a1) (zs := a1.drop (l7_m21 + 1)) (l := ((l7_m21 + 1 : Nat) : Int)) (h := ((a1.length : Nat) : Int)) (m := ((a1.length : Nat) : Int)) (by kernel_rfl) (by kernel_rfl) (by kernel_rfl) (by kernel_rfl) rfl g16 (by first | (rw [show ((a1.length : Nat) : Int).toNat = a1.length from rfl, List.take_length]; done) | (rw [show ((a1.length : Nat) : Int).toNat = a1.length from rfl, List.take_length]; rfl))) ?_
    refine rsB 2 ?_
    refine rnil (tn_ ?_)
    refine ⟨_, Weak.refl _, ?_⟩
    refine awp_block_ ?_
    refine awp_loopL h (fun t_ S_ => ∃ (l17_m31 : Nat), ∃ (l17_m9 : List (Int × Int × Int)), t_ = (l17_m31, l17_m9) ∧ S_ = ⟨mkTm [(0, (ai a0)), (1, (.tree (.pair .int (.pair .int .int)) a1)), (2, (ai a2)), (9, (.own (oi 0 1) (.pair .int (.pair .int .int)) 0 l17_m9.length)), (10, (ai y4)), (12, (.box (oi 1 1) 0)), (19, (.tree (.pair .int (.pair .int .int)) a1)), (20, (ai ((a1.length : Nat) : Int))), (21, (ai ((l7_m21 : Nat) : Int))), (29, (.tree (.pair .int (.pair .int .int)) (a1.drop (l7_m21 + 1)))), (30, (ai (((a1.drop (l7_m21 + 1)).length : Nat) : Int))), (31, (ai ((l17_m31 : Nat) : Int)))], mkOb (someL [((oi 0 1), .arr 59 (.pair .int (.pair .int .int)) l17_m9), ((oi 1 1), .cells 59 [(ai x13.1), (ai x13.2.1), (ai x13.2.2)])]), 2⟩) ⟨_, (weak_ren [((oi 1 1), (oi 12 6))]), ⟨0, l7_m9, rfl, rfl⟩⟩ ?_
    rintro n_ _ _ c_ ⟨l17_m31, l17_m9, rfl, rfl⟩ h hn17
    (try dsimp only at h)
    unfold L_impl_mesh_l2 at h
    unfold m_impl_mesh_l2
    refine seqR ?_
    refine awp_seqv_ ?_
    rcases cond_some h with ⟨q20, h⟩ | ⟨q20, h⟩
    ·have q20_ := of_decide_eq_true q20
     refine awp_condT_ q20 ?_
     refine awp_skip_ (tn_ ?_)
     refine ⟨_, Weak.refl _, ?_⟩
     refine awp_seqB h (fun (l21_m9 : List (Int × Int × Int)) S_ => S_ = ⟨mkTm [(0, (ai a0)), (1, (.tree (.pair .int (.pair .int .int)) a1)), (2, (ai a2)), (9, (.own (oi 0 1) (.pair .int (.pair .int .int)) 0 l21_m9.length)), (10, (ai y4)), (12, (.box (oi 1 1) 0)), (19, (.tree (.pair .int (.pair .int .int)) a1)), (20, (ai ((a1.length : Nat) : Int))), (21, (ai ((l7_m21 : Nat) : Int))), (29, (.tree (.pair .int (.pair .int .int)) (a1.drop (l7_m21 + 1)))), (30, (ai (((a1.drop (l7_m21 + 1)).length : Nat) : Int))), (31, (ai ((l17_m31 : Nat) : Int)))], mkOb (someL [((oi 0 1), .arr 59 (.pair .int (.pair .int .int)) l21_m9), ((oi 1 1), .cells 59 [(ai x13.1), (ai x13.2.1), (ai x13.2.2)])]), 2⟩) ?_ ?_
     ·intro v_ h
      refine awp_block_ ?_
      refine awp_seqv_ ?_
      obtain ⟨x23, e23, h⟩ := ob_some h
      refine awp_region_ 7 ?_
      refine rs0 (.telt (.pair .int (.pair .int .int)) x23 0) (s_idxT (t := (.pair .int (.pair .int .int))) (xs := a1.drop (l7_m21 + 1)) (k := .i64) (m := ((l17_m31 : Nat) : Int)) (by kernel_rfl) (by kernel_rfl) rfl (nat_nn _) rfl e23) ?_
      refine rsB 3 ?_
      refine rnil (tn_ ?_)
      refine ⟨_, Weak.refl _, ?_⟩
      refine awp_seqv_ ?_
      obtain ⟨y25, h25, h⟩ := ob_some h
      obtain ⟨y26, h26, h⟩ := ob_some h
      refine awp_regionD_ 14 ?_
      refine dsl (.agg [(ai x13.1), (ai x13.2.1), (ai x13.2.2)]) (by kernel_rfl) ?_
      refine ds0 (ai a2) (by kernel_rfl) ?_
      refine dcall (ai y25) [] [(.agg [(ai x13.1), (ai x13.2.1), (ai x13.2.2)]), (ai a2)] _ (caps := []) (args0 := [(.agg [(ai x13.1), (ai x13.2.1), (ai x13.2.2)]), (ai a2)]) trivial (by kernel_rfl) (ok_impl_Branch_other h25) hb_impl_Branch_other ?_
      refine dsl (.agg [(ai x23.1), (ai x23.2.1), (ai x23.2.2)]) (by kernel_rfl) ?_
      refine ds0 (ai a2) (by kernel_rfl) ?_
      refine dcall (ai y26) [] [(.agg [(ai x23.1), (ai x23.2.1), (ai x23.2.2)]), (ai a2)] _ (caps := []) (args0 := [(.agg [(ai x23.1), (ai x23.2.1), (ai x23.2.2)]), (ai a2)]) trivial (by kernel_rfl) (ok_impl_Branch_other h26) hb_impl_Branch_other ?_
      refine ds0 (.bool (y25 != y26)) (by kernel_rfl) ?_
      refine dnil (badB_spec (by kernel_rfl)) (tn_ ?_)
      refine ⟨_, Weak.refl _, ?_⟩
      rcases cond_some h with ⟨q27, h⟩ | ⟨q27, h⟩
      ·refine awp_condT_ q27 ?_
       obtain ⟨y28, h28, h⟩ := ob_some h
       obtain ⟨y29, h29, h⟩ := ob_some h
       obtain ⟨y30, h30, h⟩ := ob_some h
       obtain ⟨g31, h⟩ := og_some h
       refine awp_regionD_ 34 ?_
       refine ds0 (.own (oi 0 1) (.pair .int (.pair .int .int)) 0 l17_m9.length) (by kernel_rfl) ?_
       refine dsl (.agg [(ai x13.1), (ai x13.2.1), (ai x13.2.2)]) (by kernel_rfl) ?_
       refine ds0 (ai a2) (by kernel_rfl) ?_
       refine dcall (ai y28) [] [(.agg [(ai x13.1), (ai x13.2.1), (ai x13.2.2)]), (ai a2)] _ (caps := []) (args0 := [(.agg [(ai x13.1), (ai x13.2.1), (ai x13.2.2)]), (ai a2)]) trivial (by kernel_rfl) (ok_impl_Branch_other h28) hb_impl_Branch_other ?_
       refine dsl (.agg [(ai x23.1), (ai x23.2.1), (ai x23.2.2)]) (by kernel_rfl) ?_
       refine ds0 (ai a2) (by kernel_rfl) ?_
       refine dcall (ai y29) [] [(.agg [(ai x23.1), (ai x23.2.1), (ai x23.2.2)]), (ai a2)] _ (caps := []) (args0 := [(.agg [(ai x23.1), (ai x23.2.1), (ai x23.2.2)]), (ai a2)]) trivial (by kernel_rfl) (ok_impl_Branch_other h29) hb_impl_Branch_other ?_
       refine ds0 (ai a0) (by kernel_rfl) ?_
       refine ds0 (.box (oi 1 1) 2) (by kernel_rfl) ?_
       refine dsl (ai x13.2.2) (by kernel_rfl) ?_
       refine ds0 (.box (oi 14 5) 2) (by kernel_rfl) ?_
       refine dsl (ai x23.2.2) (by kernel_rfl) ?_
       refine ds0 (ai (IntKind.i64.wrap (x13.2.2 * x23.2.2))) (by kernel_rfl) ?_
       refine ds0 (ai y4) (by kernel_rfl) ?_
       refine ds0 (ai (IntKind.i64.wrap ((IntKind.i64.wrap (x13.2.2 * x23.2.2)) * y4))) (by kernel_rfl) ?_
       refine dcall (ai y30) [] [(ai a0), (ai (IntKind.i64.wrap ((IntKind.i64.wrap (x13.2.2 * x23.2.2)) * y4)))] _ (caps := []) (args0 := [(ai a0), (ai (IntKind.i64.wrap ((IntKind.i64.wrap (x13.2.2 * x23.2.2)) * y4)))]) trivial (by kernel_rfl) (ok_impl_mod h30) hb_impl_mod ?_
       refine ds0 (.agg [(ai y28), (ai y29), (ai y30)]) (by kernel_rfl) ?_
       refine ds1 (.own (oi 59 31) (.pair .int (.pair .int .int)) 0 1) (oi 59 31) (.arr 59 (.pair .int (.pair .int .int)) ([(y28, y29, y30)])) (by kernel_rfl) ?_
       refine ds2 (.own (oi 0 32) (.pair .int (.pair .int .int)) 0 ((l17_m9 ++ ([(y28, y29, y30)])).length)) (oi 0 1) (oi 0 32) (.arr 59 (.pair .int (.pair .int .int)) (l17_m9 ++ ([(y28, y29, y30)]))) (s_appO (t := (.pair .int (.pair .int .int))) (t' := (.pair .int (.pair .int .int))) (xs := l17_m9) (ys := [(y28, y29, y30)]) (zs := l17_m9 ++ ([(y28, y29, y30)])) (j := (oi 0 1)) (len := l17_m9.length) (c := (.own (oi 59 31) (.pair .int (.pair .int .int)) 0 1)) (by kernel_rfl) (by kernel_rfl) rfl (by kernel_rfl) (sr_own (e := 59) (by kernel_rfl) rfl) rfl g31) ?_
       refine ds0 (.own (oi 0 32) (.pair .int (.pair .int .int)) 0 ((l17_m9 ++ ([(y28, y29, y30)])).length)) (by kernel_rfl) ?_
       refine dnil (badB_spec (by kernel_rfl)) (bn_ (tn_ ?_))
       obtain rfl := Option.some.inj h
       exact ⟨_, (weak_ren [((oi 0 1), (oi 0 32))]), rfl⟩
      refine awp_condF_ q27 ?_
      refine awp_skip_ (bn_ (tn_ ?_))
      obtain rfl := Option.some.inj h
      exact ⟨_, (weak_ren []), rfl⟩
     rintro l21_m9 _ rfl h
     (try dsimp only at h)
     obtain ⟨g32, h⟩ := og_some h
     refine awp_region_ 4 ?_
     refine rs0 (ai ((l17_m31 + 1 : Nat) : Int)) (s_add1 (j := l17_m31) (by kernel_rfl) (by kernel_rfl) g32) ?_
     refine rsB 1 ?_
     refine rnil (tn_ ?_)
     obtain rfl := Option.some.inj h
     exact ⟨(l17_m31 + 1, l21_m9), _, (weak_ren []), ⟨l17_m31 + 1, l21_m9, rfl, rfl⟩, hn17⟩
    have q20_ := of_decide_eq_false q20
    refine awp_condF_ q20 ?_
    refine awp_exit_ (te_ (te_ (be_ (bn_ (tn_ ?_)))))
    obtain rfl := Option.some.inj h
    have h := hn17
    (try dsimp only at h)
    obtain rfl := Option.some.inj h
    exact ⟨_, (weak_ren []), rfl⟩
   rintro l11_m9 _ rfl h
   (try dsimp only at h)
   obtain ⟨g33, h⟩ := og_some h
   refine awp_region_ 4 ?_
   refine rs0 (ai ((l7_m21 + 1 : Nat) : Int)) (s_add1 (j := l7_m21) (by kernel_rfl) (by kernel_rfl) g33) ?_
   refine rsB 1 ?_
   refine rnil (tn_ ?_)
   obtain rfl := Option.some.inj h
   exact ⟨(l7_m21 + 1, l11_m9), _, (weak_ren []), ⟨l7_m21 + 1, l11_m9, rfl, rfl⟩, hn7⟩
  have q10_ := of_decide_eq_false q10
  refine awp_condF_ q10 ?_
  refine awp_exit_ (te_ (te_ (be_ (tn_ ?_))))
  obtain rfl := Option.some.inj h
  have h := hn7
  (try dsimp only at h)
  obtain rfl := Option.some.inj h
  exact ⟨_, (weak_ren []), rfl⟩
 rintro l5_m9 _ rfl h
 (try dsimp only at h)
 refine seqR ?_
 refine awp_ret_ ?_
 obtain rfl := Option.some.inj h
 exact ret_ [(.own (oi 0 1) (.pair .int (.pair .int .int)) 0 l5_m9.length)] (p_one rfl (l_own (by kernel_rfl) rfl) p_nil)
def m_impl_Network_starMesh_1 : AC :=
 (.seq (rg [xo 3 (qm (ci 0))])
 (.seq (rg [xo 4 (qm (tm 0)), xo 5 (qm (tm 0)), xo 6 (ql (tm 1)), xo 7 (qb .gtr (tm 5) (tm 6)), xo 8 (qc 109 [(tm 7)] [[]]), xo 9 (qb .sub (tm 4) (tm 8)), xo 3 (qm (tm 9))])
 .ret))
def r_impl_Network_starMesh_1 : List Res := [.tmp 3]
theorem c_impl_Network_starMesh_1 : compiled Tryd.prog Tryd.f108 = some (m_impl_Network_starMesh_1, r_impl_Network_starMesh_1) := by kernel_rfl
theorem hb_impl_Network_starMesh_1 : hasBody Tryd.prog 108 = true := by kernel_rfl
def L_impl_Network_starMesh_1 (a0 : Int) (c0_0 : Int) : Option Int :=
 Option.bind (L_impl_bit (decide (c0_0 < a0))) fun y3 =>
some (IntKind.i64.wrap (a0 - y3))
def rv_impl_Network_starMesh_1 (r : Int) : RV := ⟨false, [(false, [.sc (.int .i64 r)])]⟩
theorem ok_impl_Network_starMesh_1 {a0 : Int} {c0_0 : Int} {r : Int} (h : L_impl_Network_starMesh_1 a0 c0_0 = some r) : CallOK Tryd.prog Tab 108 [(ai a0), (.ref [(ai c0_0)])] (rv_impl_Network_starMesh_1 r) := by
 refine call_of_ (by kernel_rfl) Tryd.func108 c_impl_Network_starMesh_1 (n := 10) (by kernel_rfl) (by simp) (tl := [(0, (ai a0)), (1, (.ref [(ai c0_0)]))]) rfl ?_
 unfold m_impl_Network_starMesh_1
 unfold L_impl_Network_starMesh_1 at h
 refine seqR ?_
 refine awp_seqv_ ?_
 obtain ⟨y3, h3, h⟩ := ob_some h
 refine awp_region_ 9 ?_
 refine rs0 (ai a0) (by kernel_rfl) ?_
 refine rs0 (ai a0) (by kernel_rfl) ?_
 refine rs0 (ai c0_0) (by kernel_rfl) ?_
 refine rs0 (.bool (decide (c0_0 < a0))) (by kernel_rfl) ?_
 refine rcall (ai y3) [] [(.bool (decide (c0_0 < a0)))] _ (caps := []) (args0 := [(.bool (decide (c0_0 < a0)))]) trivial (by kernel_rfl) (ok_impl_bit h3) hb_impl_bit ?_
 refine rsB 2 ?_
 refine rnil (tn_ ?_)
 refine ⟨_, Weak.refl _, ?_⟩
 refine awp_ret_ ?_
 obtain rfl := Option.some.inj h
 exact ret_ [(ai (IntKind.i64.wrap (a0 - y3)))] (p_one rfl (l_sc (by kernel_rfl)) p_nil)
def m_impl_movedBranches_l1 : AC :=
 (.seq (rg [xo 12 (qb .lss (tm 11) (tm 10))])
 (.seq (.cond (tm 12)
  .skip
  (.exit 0))
 (.seq (.block 1 (.seq (rg [xo 13 (qx 3 (tm 9) (tm 11)), xo 14 (.i (.ld false 3 (tm 13))), xo 7 (.i (.alloc 59 [(.int .i64 0), (.int .i64 0), (.int .i64 0)])), xn (.st false 3 (tm 7) (tm 14))])
 (.region [xo 15 (qm (tm 5)), xo 16 (qm (tm 1)), xo 17 (qf 0 (tm 7)), xo 18 (ql (tm 17)), xo 19 (.call (tm 16) [(tm 18)] [[]]), xo 20 (qm (tm 1)), xo 21 (qf 1 (tm 7)), xo 22 (ql (tm 21)), xo 23 (.call (tm 20) [(tm 22)] [[]]), xo 24 (qf 2 (tm 7)), xo 25 (ql (tm 24)), xo 26 (.build [(.int .i64 0), (.int .i64 0), (.int .i64 0)] [(0, 1, (tm 19)), (1, 1, (tm 23)), (2, 1, (tm 25))]), xo 27 (.mkS 59 (.pair .int (.pair .int .int)) [(tm 26)]), xo 28 (.append 59 (.pair .int (.pair .int .int)) 24 (tm 15) (tm 27)), xo 5 (qm (tm 28))] true [(4, 7), (4, 10), (8, 10)])))
 (rg [xo 29 (qb .add (tm 11) (ci 1)), xo 11 (qm (tm 29))]))))
def m_impl_movedBranches : AC :=
 (.seq (rg [xo 4 (qm (.cst .nils))])
 (.seq (rg [xo 8 (.mkS 59 (.pair .int (.pair .int .int)) []), xo 5 (qm (tm 8))])
 (.seq (.seq (rg [xo 9 (qm (tm 0)), xo 10 (.i (.len (tm 9))), xo 11 (qm (ci 0))])
 (.block 0 (.loop m_impl_movedBranches_l1)))
 (.seq (rg [xo 30 (qm (tm 5)), xo 4 (qm (tm 30))])
 .ret))))
def r_impl_movedBranches : List Res := [.tmp 4]
theorem c_impl_movedBranches : compiled Tryd.prog Tryd.f70 = some (m_impl_movedBranches, r_impl_movedBranches) := by kernel_rfl
theorem hb_impl_movedBranches : hasBody Tryd.prog 70 = true := by kernel_rfl
def L_impl_movedBranches_for_impl_Network_starMesh_1_l1 (a0 : List (Int × Int × Int)) (a1_0_0 : Int) (l5_m11 : Nat) (l5_m5 : List (Int × Int × Int)) : Option (Ctl (Nat × (List (Int × Int × Int))) (List (Int × Int × Int))) :=
 cond (decide (((l5_m11 : Nat) : Int) < ((a0.length : Nat) : Int)))
 (Option.bind (a0[l5_m11]?) fun x11 =>
 Option.bind (L_impl_Network_starMesh_1 x11.1 a1_0_0) fun y12 =>
 Option.bind (L_impl_Network_starMesh_1 x11.2.1 a1_0_0) fun y13 =>
 og (l5_m5.length + 1 ≤ 1073741824 ∧ (l5_m5.length + 1) * 24 ≤ 140737488355328) <|
 og (l5_m11 + 1 < 4611686018427387904) <|
 some (Ctl.next (l5_m11 + 1, l5_m5 ++ ([(y12, y13, x11.2.2)]))))
 (some (Ctl.out l5_m5))
def L_impl_movedBranches_for_impl_Network_starMesh_1 (a0 : List (Int × Int × Int)) (a1_0_0 : Int) : Option (List (Int × Int × Int)) :=
 Option.bind (loopM (fun s_ : Nat × (List (Int × Int × Int)) => L_impl_movedBranches_for_impl_Network_starMesh_1_l1 a0 a1_0_0 s_.1 s_.2) 4611686018427387904 (0, [])) fun l3_m5 =>
some l3_m5
def rv_impl_movedBranches_for_impl_Network_starMesh_1 (r : List (Int × Int × Int)) : RV := ⟨false, [(false, [.new 59 (.pair .int (.pair .int .int)) r])]⟩
theorem ok_impl_movedBranches_for_impl_Network_starMesh_1 {a0 : List (Int × Int × Int)} {a1_0_0 : Int} {r : List (Int × Int × Int)} (h : L_impl_movedBranches_for_impl_Network_starMesh_1 a0 a1_0_0 = some r) : CallOK Tryd.prog Tab 70 [(.tree (.pair .int (.pair .int .int)) a0), (.fn 108 [(.ref [(ai a1_0_0)])])] (rv_impl_movedBranches_for_impl_Network_starMesh_1 r) := by
 refine call_of_ (by kernel_rfl) Tryd.func70 c_impl_movedBranches (n := 31) (by kernel_rfl) (by simp) (tl := [(0, (.tree (.pair .int (.pair .int .int)) a0)), (1, (.fn 108 [(.ref [(ai a1_0_0)])]))]) rfl ?_
 unfold m_impl_movedBranches
 unfold L_impl_movedBranches_for_impl_Network_starMesh_1 at h
 refine seqR ?_
 refine seqR ?_
 refine awp_seqB h (fun (l3_m5 : List (Int × Int × Int)) S_ => S_ = ⟨mkTm [(5, (.own (oi 0 1) (.pair .int (.pair .int .int)) 0 l3_m5.length))], mkOb (someL [((oi 0 1), .arr 59 (.pair .int (.pair .int .int)) l3_m5)]), 2⟩) ?_ ?_
 ·intro v_ h
  refine seqR ?_
  refine awp_block_ ?_
  refine awp_loopL h (fun t_ S_ => ∃ (l5_m11 : Nat), ∃ (l5_m5 : List (Int × Int × Int)), t_ = (l5_m11, l5_m5) ∧ S_ = ⟨mkTm [(1, (.fn 108 [(.ref [(ai a1_0_0)])])), (5, (.own (oi 0 1) (.pair .int (.pair .int .int)) 0 l5_m5.length)), (9, (.tree (.pair .int (.pair .int .int)) a0)), (10, (ai ((a0.length : Nat) : Int))), (11, (ai ((l5_m11 : Nat) : Int)))], mkOb (someL [((oi 0 1), .arr 59 (.pair .int (.pair .int .int)) l5_m5)]), 2⟩) ⟨_, (weak_ren [((oi 0 1), (oi 8 2))]), ⟨0, [], rfl, rfl⟩⟩ ?_
  rintro n_ _ _ c_ ⟨l5_m11, l5_m5, rfl, rfl⟩ h hn5
  (try dsimp only at h)
  unfold L_impl_movedBranches_for_impl_Network_starMesh_1_l1 at h
  unfold m_impl_movedBranches_l1
  refine seqR ?_
  refine awp_seqv_ ?_
  rcases cond_some h with ⟨q8, h⟩ | ⟨q8, h⟩
  ·have q8_ := of_decide_eq_true q8
   refine awp_condT_ q8 ?_
   refine awp_skip_ (tn_ ?_)
   refine ⟨_, Weak.refl _, ?_⟩
   refine awp_seqv_ ?_
   refine awp_block_ ?_
   refine awp_seqv_ ?_
   obtain ⟨x11, e11, h⟩ := ob_some h
   refine awp_region_ 7 ?_
   refine rs0 (.telt (.pair .int (.pair .int .int)) x11 0) (s_idxT (t := (.pair .int (.pair .int .int))) (xs := a0) (k := .i64) (m := ((l5_m11 : Nat) : Int)) (by kernel_rfl) (by kernel_rfl) rfl (nat_nn _) rfl e11) ?_
   refine rsB 3 ?_
   refine rnil (tn_ ?_)
   refine ⟨_, Weak.refl _, ?_⟩
   obtain ⟨y12, h12, h⟩ := ob_some h
   obtain ⟨y13, h13, h⟩ := ob_some h
   obtain ⟨g14, h⟩ := og_some h
   refine awp_regionD_ 22 ?_
   refine ds0 (.own (oi 0 1) (.pair .int (.pair .int .int)) 0 l5_m5.length) (by kernel_rfl) ?_
   refine ds0 (.fn 108 [(.ref [(ai a1_0_0)])]) (by kernel_rfl) ?_
   refine ds0 (.box (oi 7 5) 0) (by kernel_rfl) ?_
   refine dsl (ai x11.1) (by kernel_rfl) ?_
   refine dcall (ai y12) [] [(ai x11.1), (.ref [(ai a1_0_0)])] _ (caps := [(.ref [(ai a1_0_0)])]) (args0 := [(ai x11.1), (.ref [(ai a1_0_0)])]) trivial (by kernel_rfl) (ok_impl_Network_starMesh_1 h12) hb_impl_Network_starMesh_1 ?_
   refine ds0 (.fn 108 [(.ref [(ai a1_0_0)])]) (by kernel_rfl) ?_
   refine ds0 (.box (oi 7 5) 1) (by kernel_rfl) ?_
   refine dsl (ai x11.2.1) (by kernel_rfl) ?_
   refine dcall (ai y13) [] [(ai x11.2.1), (.ref [(ai a1_0_0)])] _ (caps := [(.ref [(ai a1_0_0)])]) (args0 := [(ai x11.2.1), (.ref [(ai a1_0_0)])]) trivial (by kernel_rfl) (ok_impl_Network_starMesh_1 h13) hb_impl_Network_starMesh_1 ?_
   refine ds0 (.box (oi 7 5) 2) (by kernel_rfl) ?_
   refine dsl (ai x11.2.2) (by kernel_rfl) ?_
   refine ds0 (.agg [(ai y12), (ai y13), (ai x11.2.2)]) (by kernel_rfl) ?_
   refine ds1 (.own (oi 27 19) (.pair .int (.pair .int .int)) 0 1) (oi 27 19) (.arr 59 (.pair .int (.pair .int .int)) ([(y12, y13, x11.2.2)])) (by kernel_rfl) ?_
   refine ds2 (.own (oi 0 20) (.pair .int (.pair .int .int)) 0 ((l5_m5 ++ ([(y12, y13, x11.2.2)])).length)) (oi 0 1) (oi 0 20) (.arr 59 (.pair .int (.pair .int .int)) (l5_m5 ++ ([(y12, y13, x11.2.2)]))) (s_appO (t := (.pair .int (.pair .int .int))) (t' := (.pair .int (.pair .int .int))) (xs := l5_m5) (ys := [(y12, y13, x11.2.2)]) (zs := l5_m5 ++ ([(y12, y13, x11.2.2)])) (j := (oi 0 1)) (len := l5_m5.length) (c := (.own (oi 27 19) (.pair .int (.pair .int .int)) 0 1)) (by kernel_rfl) (by kernel_rfl) rfl (by kernel_rfl) (sr_own (e := 59) (by kernel_rfl) rfl) rfl g14) ?_
   refine ds0 (.own (oi 0 20) (.pair .int (.pair .int .int)) 0 ((l5_m5 ++ ([(y12, y13, x11.2.2)])).length)) (by kernel_rfl) ?_
   refine dnil (badB_spec (by kernel_rfl)) (bn_ (tn_ ?_))
   refine ⟨_, Weak.refl _, ?_⟩
   obtain ⟨g15, h⟩ := og_some h
   refine awp_region_ 24 ?_
   refine rs0 (ai ((l5_m11 + 1 : Nat) : Int)) (s_add1 (j := l5_m11) (by kernel_rfl) (by kernel_rfl) g15) ?_
   refine rsB 1 ?_
   refine rnil (tn_ ?_)
   obtain rfl := Option.some.inj h
   exact ⟨(l5_m11 + 1, l5_m5 ++ ([(y12, y13, x11.2.2)])), _, (weak_ren [((oi 0 1), (oi 0 20))]), ⟨l5_m11 + 1, l5_m5 ++ ([(y12, y13, x11.2.2)]), rfl, rfl⟩, hn5⟩
  have q8_ := of_decide_eq_false q8
  refine awp_condF_ q8 ?_
  refine awp_exit_ (te_ (te_ (be_ (tn_ ?_))))
  obtain rfl := Option.some.inj h
  have h := hn5
  (try dsimp only at h)
  obtain rfl := Option.some.inj h
  exact ⟨_, (weak_ren []), rfl⟩
 rintro l3_m5 _ rfl h
 (try dsimp only at h)
 refine seqR ?_
 refine awp_ret_ ?_
 obtain rfl := Option.some.inj h
 exact ret_ [(.own (oi 0 1) (.pair .int (.pair .int .int)) 0 l3_m5.length)] (p_one rfl (l_own (by kernel_rfl) rfl) p_nil)
def m_impl_mapList_l1 : AC :=
 (.seq (rg [xo 12 (qb .lss (tm 11) (tm 10))])
 (.seq (.cond (tm 12)
  .skip
  (.exit 0))
 (.seq (.block 1 (.seq (rg [xo 13 (qx 1 (tm 9) (tm 11)), xo 14 (ql (tm 13)), xo 7 (qm (tm 14))])
 (rg [xo 15 (qm (tm 5)), xo 16 (qm (tm 1)), xo 17 (qm (tm 7)), xo 18 (.call (tm 16) [(tm 17)] [[]]), xo 19 (.mkS 3 .int [(tm 18)]), xo 20 (.append 3 .int 8 (tm 15) (tm 19)), xo 5 (qm (tm 20))])))
 (rg [xo 21 (qb .add (tm 11) (ci 1)), xo 11 (qm (tm 21))]))))
def m_impl_mapList : AC :=
 (.seq (rg [xo 4 (qm (.cst .nils))])
 (.seq (rg [xo 8 (.mkS 3 .int []), xo 5 (qm (tm 8))])
 (.seq (.seq (rg [xo 9 (qm (tm 0)), xo 10 (.i (.len (tm 9))), xo 11 (qm (ci 0))])
 (.block 0 (.loop m_impl_mapList_l1)))
 (.seq (rg [xo 22 (qm (tm 5)), xo 4 (qm (tm 22))])
 .ret))))
def r_impl_mapList : List Res := [.tmp 4]
theorem c_impl_mapList : compiled Tryd.prog Tryd.f72 = some (m_impl_mapList, r_impl_mapList) := by kernel_rfl
theorem hb_impl_mapList : hasBody Tryd.prog 72 = true := by kernel_rfl
def L_impl_mapList_for_impl_Network_starMesh_1_l1 (a0 : List Int) (a1_0_0 : Int) (l5_m11 : Nat) (l5_m5 : List Int) : Option (Ctl (Nat × List Int) (List Int)) :=
 cond (decide (((l5_m11 : Nat) : Int) < ((a0.length : Nat) : Int)))
 (Option.bind (a0[l5_m11]?) fun x11 =>
 Option.bind (L_impl_Network_starMesh_1 x11 a1_0_0) fun y12 =>
 og (l5_m5.length + 1 ≤ 1073741824 ∧ (l5_m5.length + 1) * 8 ≤ 140737488355328) <|
 og (l5_m11 + 1 < 4611686018427387904) <|
 some (Ctl.next (l5_m11 + 1, l5_m5 ++ ([y12]))))
 (some (Ctl.out l5_m5))
def L_impl_mapList_for_impl_Network_starMesh_1 (a0 : List Int) (a1_0_0 : Int) : Option (List Int) :=
 Option.bind (loopM (fun s_ : Nat × List Int => L_impl_mapList_for_impl_Network_starMesh_1_l1 a0 a1_0_0 s_.1 s_.2) 4611686018427387904 (0, [])) fun l3_m5 =>
some l3_m5
def rv_impl_mapList_for_impl_Network_starMesh_1 (r : List Int) : RV := ⟨false, [(false, [.new 3 .int r])]⟩
theorem ok_impl_mapList_for_impl_Network_starMesh_1 {a0 : List Int} {a1_0_0 : Int} {r : List Int} (h : L_impl_mapList_for_impl_Network_starMesh_1 a0 a1_0_0 = some r) : CallOK Tryd.prog Tab 72 [(.tree .int a0), (.fn 108 [(.ref [(ai a1_0_0)])])] (rv_impl_mapList_for_impl_Network_starMesh_1 r) := by
 refine call_of_ (by kernel_rfl) Tryd.func72 c_impl_mapList (n := 23) (by kernel_rfl) (by simp) (tl := [(0, (.tree .int a0)), (1, (.fn 108 [(.ref [(ai a1_0_0)])]))]) rfl ?_
 unfold m_impl_mapList
 unfold L_impl_mapList_for_impl_Network_starMesh_1 at h
 refine seqR ?_
 refine seqR ?_
 refine awp_seqB h (fun (l3_m5 : List Int) S_ => S_ = ⟨mkTm [(5, (.own (oi 0 1) .int 0 l3_m5.length))], mkOb (someL [((oi 0 1), .arr 3 .int l3_m5)]), 2⟩) ?_ ?_
 ·intro v_ h
  refine seqR ?_
  refine awp_block_ ?_
  refine awp_loopL h (fun t_ S_ => ∃ (l5_m11 : Nat), ∃ (l5_m5 : List Int), t_ = (l5_m11, l5_m5) ∧ S_ = ⟨mkTm [(1, (.fn 108 [(.ref [(ai a1_0_0)])])), (5, (.own (oi 0 1) .int 0 l5_m5.length)), (9, (.tree .int a0)), (10, (ai ((a0.length : Nat) : Int))), (11, (ai ((l5_m11 : Nat) : Int)))], mkOb (someL [((oi 0 1), .arr 3 .int l5_m5)]), 2⟩) ⟨_, (weak_ren [((oi 0 1), (oi 8 2))]), ⟨0, [], rfl, rfl⟩⟩ ?_
  rintro n_ _ _ c_ ⟨l5_m11, l5_m5, rfl, rfl⟩ h hn5
  (try dsimp only at h)
  unfold L_impl_mapList_for_impl_Network_starMesh_1_l1 at h
  unfold m_impl_mapList_l1
  refine seqR ?_
  refine awp_seqv_ ?_
  rcases cond_some h with ⟨q8, h⟩ | ⟨q8, h⟩
  ·have q8_ := of_decide_eq_true q8
   refine awp_condT_ q8 ?_
   refine awp_skip_ (tn_ ?_)
   refine ⟨_, Weak.refl _, ?_⟩
   refine awp_seqv_ ?_
   refine awp_block_ ?_
   refine awp_seqv_ ?_
   obtain ⟨x11, e11, h⟩ := ob_some h
   refine awp_region_ 6 ?_
   refine rs0 (.telt .int x11 0) (s_idxT (t := .int) (xs := a0) (k := .i64) (m := ((l5_m11 : Nat) : Int)) (by kernel_rfl) (by kernel_rfl) rfl (nat_nn _) rfl e11) ?_
   refine rsB 2 ?_
   refine rnil (tn_ ?_)
   refine ⟨_, Weak.refl _, ?_⟩
   obtain ⟨y12, h12, h⟩ := ob_some h
   obtain ⟨g13, h⟩ := og_some h
   refine awp_region_ 13 ?_
   refine rs0 (.own (oi 0 1) .int 0 l5_m5.length) (by kernel_rfl) ?_
   refine rs0 (.fn 108 [(.ref [(ai a1_0_0)])]) (by kernel_rfl) ?_
   refine rs0 (ai x11) (by kernel_rfl) ?_
   refine rcall (ai y12) [] [(ai x11), (.ref [(ai a1_0_0)])] _ (caps := [(.ref [(ai a1_0_0)])]) (args0 := [(ai x11), (.ref [(ai a1_0_0)])]) trivial (by kernel_rfl) (ok_impl_Network_starMesh_1 h12) hb_impl_Network_starMesh_1 ?_
   refine rs1 (.own (oi 19 10) .int 0 1) (oi 19 10) (.arr 3 .int ([y12])) (by kernel_rfl) ?_
   refine rs2 (.own (oi 0 11) .int 0 ((l5_m5 ++ ([y12])).length)) (oi 0 1) (oi 0 11) (.arr 3 .int (l5_m5 ++ ([y12]))) (s_appO (t := .int) (t' := .int) (xs := l5_m5) (ys := [y12]) (zs := l5_m5 ++ ([y12])) (j := (oi 0 1)) (len := l5_m5.length) (c := (.own (oi 19 10) .int 0 1)) (by kernel_rfl) (by kernel_rfl) rfl (by kernel_rfl) (sr_own (e := 3) (by kernel_rfl) rfl) rfl g13) ?_
   refine rsB 1 ?_
   refine rnil (bn_ (tn_ ?_))
   refine ⟨_, Weak.refl _, ?_⟩
   obtain ⟨g14, h⟩ := og_some h
   refine awp_region_ 15 ?_
   refine rs0 (ai ((l5_m11 + 1 : Nat) : Int)) (s_add1 (j := l5_m11) (by kernel_rfl) (by kernel_rfl) g14) ?_
   refine rsB 1 ?_
   refine rnil (tn_ ?_)
   obtain rfl := Option.some.inj h
   exact ⟨(l5_m11 + 1, l5_m5 ++ ([y12])), _, (weak_ren [((oi 0 1), (oi 0 11))]), ⟨l5_m11 + 1, l5_m5 ++ ([y12]), rfl, rfl⟩, hn5⟩
  have q8_ := of_decide_eq_false q8
  refine awp_condF_ q8 ?_
  refine awp_exit_ (te_ (te_ (be_ (tn_ ?_))))
  obtain rfl := Option.some.inj h
  have h := hn5
  (try dsimp only at h)
  obtain rfl := Option.some.inj h
  exact ⟨_, (weak_ren []), rfl⟩
 rintro l3_m5 _ rfl h
 (try dsimp only at h)
 refine seqR ?_
 refine awp_ret_ ?_
 obtain rfl := Option.some.inj h
 exact ret_ [(.own (oi 0 1) .int 0 l3_m5.length)] (p_one rfl (l_own (by kernel_rfl) rfl) p_nil)
def m_impl_Network_starMesh_l1 : AC :=
 (.seq (rg [xo 22 (qb .lss (tm 21) (tm 20))])
 (.seq (.cond (tm 22)
  .skip
  (.exit 0))
 (.seq (.block 1 (.seq (rg [xo 23 (qx 3 (tm 19) (tm 21)), xo 24 (.i (.ld false 3 (tm 23))), xo 13 (.i (.alloc 59 [(.int .i64 0), (.int .i64 0), (.int .i64 0)])), xn (.st false 3 (tm 13) (tm 24))])
 (.seq (rg [xo 25 (qm (tm 11)), xo 26 (.i (.ld false 3 (tm 13))), xo 27 (ql (tm 5)), xo 28 (.call (tm 25) [(tm 26), (tm 27)] [[none, none, none], []])])
 (.cond (tm 28)
  (.seq (rg [xo 29 (qm (tm 8)), xo 30 (.i (.ld false 3 (tm 13))), xo 31 (.mkS 59 (.pair .int (.pair .int .int)) [(tm 30)]), xo 32 (.append 59 (.pair .int (.pair .int .int)) 24 (tm 29) (tm 31)), xo 8 (qm (tm 32))])
  (rg [xo 33 (qm (tm 1)), xo 34 (qm (tm 10)), xo 35 (qf 2 (tm 13)), xo 36 (ql (tm 35)), xo 37 (qb .add (tm 34) (tm 36)), xo 38 (qc 51 [(tm 33), (tm 37)] [[], []]), xo 10 (qm (tm 38))]))
  (rg [xo 39 (qm (tm 9)), xo 40 (.i (.ld false 3 (tm 13))), xo 41 (.mkS 59 (.pair .int (.pair .int .int)) [(tm 40)]), xo 42 (.append 59 (.pair .int (.pair .int .int)) 24 (tm 39) (tm 41)), xo 9 (qm (tm 42))])))))
 (rg [xo 43 (qb .add (tm 21) (ci 1)), xo 21 (qm (tm 43))]))))
def m_impl_Network_starMesh : AC :=
 (.seq (rg [xo 3 (.i (.box 30 (tm 0))), xo 5 (.i (.box 3 (tm 2))), xo 6 (.i (.alloc 30 [(.int .i64 0), .nils, .nils, .nils])), xo 7 (qm (cb false))])
 (.seq (rg [xo 16 (.mkS 59 (.pair .int (.pair .int .int)) []), xo 17 (.mkS 59 (.pair .int (.pair .int .int)) []), xo 8 (qm (tm 16)), xo 9 (qm (tm 17)), xo 10 (qm (ci 0))])
 (.seq (rg [⟨(some 11), none, (.i (.mov (.cst (.fn 106 []))))⟩])
 (.seq (.seq (rg [xo 18 (qf 1 (tm 3)), xo 19 (ql (tm 18)), xo 20 (.i (.len (tm 19))), xo 21 (qm (ci 0))])
 (.block 0 (.loop m_impl_Network_starMesh_l1)))
 (.seq (.seq (rg [xo 44 (qm (tm 8)), xo 45 (.i (.len (tm 44))), xo 46 (qb .gtr (tm 45) (ci 0)), xo 47 (qm (tm 46)), ⟨(some 48), (some (47, true)), (qm (tm 10))⟩, ⟨(some 49), (some (47, true)), (qb .eql (tm 48) (ci 0))⟩, xo 50 (.i (.pick (tm 47) (tm 49) (cb false)))])
 (.cond (tm 50)
  (.seq (rg [xo 51 (.build [(.int .i64 0), .nils, .nils, .nils] []), xn (.st false 4 (tm 6) (tm 51)), xo 7 (qm (cb false))])
  .ret)
  .skip))
 (.seq (.seq (rg [xo 52 (qm (tm 8)), xo 53 (.i (.len (tm 52))), xo 54 (qb .gtr (tm 53) (ci 0))])
 (.cond (tm 54)
  (rg [xo 55 (qm (tm 9)), xo 56 (qm (tm 1)), xo 57 (qm (tm 8)), xo 58 (ql (tm 5)), xo 59 (qm (tm 10)), ⟨(some 60), none, (qc 107 [(tm 56), (tm 57), (tm 58), (tm 59)] [[], [(some (.pair .int (.pair .int .int)))], [], []])⟩, xo 61 (.append 59 (.pair .int (.pair .int .int)) 24 (tm 55) (tm 60)), xo 9 (qm (tm 61))])
  .skip))
 (.seq (rg [xo 62 (.i (.mkfn 108 [(tm 5)])), xo 14 (qm (tm 62))])
 (.seq (.region [xo 63 (qf 0 (tm 3)), xo 64 (ql (tm 63)), xo 65 (qb .sub (tm 64) (ci 1)), xo 66 (qm (tm 9)), xo 67 (qm (tm 14)), ⟨(some 68), none, (qc 70 [(tm 66), (tm 67)] [[(some (.pair .int (.pair .int .int)))], []])⟩, xo 69 (qf 2 (tm 3)), xo 70 (ql (tm 69)), xo 71 (qm (tm 14)), xo 72 (qc 72 [(tm 70), (tm 71)] [[(some .int)], []]), xo 73 (qf 3 (tm 3)), xo 74 (ql (tm 73)), xo 75 (qm (tm 14)), xo 76 (qc 72 [(tm 74), (tm 75)] [[(some .int)], []]), xo 77 (.build [(.int .i64 0), .nils, .nils, .nils] [(0, 1, (tm 65)), (1, 1, (tm 68)), (2, 1, (tm 72)), (3, 1, (tm 76))]), xo 15 (.i (.alloc 30 [(.int .i64 0), .nils, .nils, .nils])), xn (.st false 4 (tm 15) (tm 77))] true [(1, 5), (5, 7), (1, 9), (5, 11), (9, 11), (1, 13), (5, 15), (9, 15), (13, 15)])
 (.seq (rg [xo 78 (qm (tm 1)), xo 79 (.i (.ld false 4 (tm 15))), xo 80 (qm (tm 1)), ⟨(some 81), none, (qc 66 [(tm 79), (tm 80)] [[none, (some (.pair .int (.pair .int .int))), (some .int), (some .int)], []])⟩, ⟨(some 82), none, (qc 69 [(tm 78), (tm 81)] [[], [none, (some (.pair .int (.pair .int .int))), (some .int), (some .int)]])⟩, xo 83 (.i (.extr 0 (tm 82))), xo 84 (.i (.extr 1 (tm 82))), xn (.st false 4 (tm 6) (tm 83)), xo 7 (qm (tm 84))])
 .ret)))))))))
def r_impl_Network_starMesh : List Res := [.cell 6 false 4, .tmp 7]
theorem c_impl_Network_starMesh : compiled Tryd.prog Tryd.f82 = some (m_impl_Network_starMesh, r_impl_Network_starMesh) := by kernel_rfl
theorem hb_impl_Network_starMesh : hasBody Tryd.prog 82 = true := by kernel_rfl
def L_impl_Network_starMesh_l1 (a0_1 : List (Int × Int × Int)) (a2 : Int) (a1 : Int) (l6_m10 : Int) (l6_m21 : Nat) (l6_m8 : List (Int × Int × Int)) (l6_m9 : List (Int × Int × Int)) : Option (Ctl (Int × Nat × (List (Int × Int × Int)) × (List (Int × Int × Int))) (Int × (List (Int × Int × Int)) × (List (Int × Int × Int)))) :=
 cond (decide (((l6_m21 : Nat) : Int) < ((a0_1.length : Nat) : Int)))
 (Option.bind (Option.bind (a0_1[l6_m21]?) fun x12 =>
  Option.bind (L_impl_Branch_touches x12.1 x12.2.1 x12.2.2 a2) fun y14 =>
  cond y14
   (og (l6_m8.length + 1 ≤ 1073741824 ∧ (l6_m8.length + 1) * 24 ≤ 140737488355328) <|
   Option.bind (L_impl_mod a1 (IntKind.i64.wrap (l6_m10 + x12.2.2))) fun y18 =>
   some (y18, l6_m8 ++ ([x12]), l6_m9))
   (og (l6_m9.length + 1 ≤ 1073741824 ∧ (l6_m9.length + 1) * 24 ≤ 140737488355328) <|
   some (l6_m10, l6_m8, l6_m9 ++ ([x12])))) fun (l10_m10, l10_m8, l10_m9) =>
 og (l6_m21 + 1 < 4611686018427387904) <|
 some (Ctl.next (l10_m10, l6_m21 + 1, l10_m8, l10_m9)))
 (some (Ctl.out (l6_m10, l6_m8, l6_m9)))
def L_impl_Network_starMesh (a0_0 : Int) (a0_1 : List (Int × Int × Int)) (a0_2 : List Int) (a0_3 : List Int) (a1 : Int) (a2 : Int) : Option (Int × (List (Int × Int × Int)) × List Int × List Int × Bool) :=
 Option.bind (loopM (fun s_ : Int × Nat × (List (Int × Int × Int)) × (List (Int × Int × Int)) => L_impl_Network_starMesh_l1 a0_1 a2 a1 s_.1 s_.2.1 s_.2.2.1 s_.2.2.2) 4611686018427387904 (0, 0, [], [])) fun (l4_m10, l4_m8, l4_m9) =>
Option.bind (cond (decide (0 < ((l4_m8.length : Nat) : Int)))
  (some (l4_m10 == 0))
  (some false)) fun l22_m50 =>
cond l22_m50
 (some (0, [], [], [], false))
 (Option.bind (cond (decide (0 < ((l4_m8.length : Nat) : Int)))
   (Option.bind (L_impl_mesh a1 l4_m8 a2 l4_m10) fun y29 =>
   og (l4_m9.length + y29.length ≤ 1073741824 ∧ (l4_m9.length + y29.length) * 24 ≤ 140737488355328) <|
   some (l4_m9 ++ y29))
   (some l4_m9)) fun l26_m9 =>
 Option.bind (L_impl_movedBranches_for_impl_Network_starMesh_1 l26_m9 a2) fun y33 =>
 Option.bind (L_impl_mapList_for_impl_Network_starMesh_1 a0_2 a2) fun y34 =>
 Option.bind (L_impl_mapList_for_impl_Network_starMesh_1 a0_3 a2) fun y35 =>
 Option.bind (Option.bind (L_impl_Network_merged (IntKind.i64.wrap (a0_0 - 1)) y33 y34 y35 a1) fun y37 =>
  Option.bind (L_impl_validNetwork a1 y37.1 y37.2.1 y37.2.2.1 y37.2.2.2) fun y38 =>
  (Sum.elim (fun z38_0 =>
  some (z38_0.2, z38_0.1, [], [], [])) (fun z38_1 =>
  some (z38_1.2, z38_1.1, y37.2.1, y37.2.2.1, y37.2.2.2))) y38) fun (l36_m7, l36_m6_0, l36_m6_1, l36_m6_2, l36_m6_3) =>
 some (l36_m6_0, l36_m6_1, l36_m6_2, l36_m6_3, l36_m7))
def rv_impl_Network_starMesh (r : Int × (List (Int × Int × Int)) × List Int × List Int × Bool) : RV := ⟨true, [(true, [.sc (.int .i64 r.1), .new 59 (.pair .int (.pair .int .int)) r.2.1, .new 3 .int r.2.2.1, .new 3 .int r.2.2.2.1]), (false, [.sc (.bool r.2.2.2.2)])]⟩
theorem ok_impl_Network_starMesh {a0_0 : Int} {a0_1 : List (Int × Int × Int)} {a0_2 : List Int} {a0_3 : List Int} {a1 : Int} {a2 : Int} {r : Int × (List (Int × Int × Int)) × List Int × List Int × Bool} (h : L_impl_Network_starMesh a0_0 a0_1 a0_2 a0_3 a1 a2 = some r) : CallOK Tryd.prog Tab 82 [(.agg [(ai a0_0), (.tree (.pair .int (.pair .int .int)) a0_1), (.tree .int a0_2), (.tree .int a0_3)]), (ai a1), (ai a2)] (rv_impl_Network_starMesh r) := by
 refine call_of_ (by kernel_rfl) Tryd.func82 c_impl_Network_starMesh (n := 85) (by kernel_rfl) (by simp) (tl := [(0, (.agg [(ai a0_0), (.tree (.pair .int (.pair .int .int)) a0_1), (.tree .int a0_2), (.tree .int a0_3)])), (1, (ai a1)), (2, (ai a2))]) rfl ?_
 unfold m_impl_Network_starMesh
 unfold L_impl_Network_starMesh at h
 refine seqR ?_
 refine seqR ?_
 refine seqR ?_
 refine awp_seqB h (fun t_ S_ => ∃ (l4_m10 : Int), ∃ (l4_m8 : List (Int × Int × Int)), ∃ (l4_m9 : List (Int × Int × Int)), t_ = (l4_m10, l4_m8, l4_m9) ∧ S_ = ⟨mkTm [(1, (ai a1)), (3, (.box (oi 0 1) 0)), (5, (.box (oi 1 1) 0)), (6, (.box (oi 2 1) 0)), (8, (.own (oi 3 1) (.pair .int (.pair .int .int)) 0 l4_m8.length)), (9, (.own (oi 4 1) (.pair .int (.pair .int .int)) 0 l4_m9.length)), (10, (ai l4_m10))], mkOb (someL [((oi 0 1), .cells 30 [(ai a0_0), (.tree (.pair .int (.pair .int .int)) a0_1), (.tree .int a0_2), (.tree .int a0_3)]), ((oi 1 1), .cells 3 [(ai a2)]), ((oi 2 1), .cells 30 [(ai 0), .nils, .nils, .nils]), ((oi 3 1), .arr 59 (.pair .int (.pair .int .int)) l4_m8), ((oi 4 1), .arr 59 (.pair .int (.pair .int .int)) l4_m9)]), 2⟩) ?_ ?_
 ·intro v_ h
  refine seqR ?_
  refine awp_block_ ?_
  refine awp_loopL h (fun t_ S_ => ∃ (l6_m10 : Int), ∃ (l6_m21 : Nat), ∃ (l6_m8 : List (Int × Int × Int)), ∃ (l6_m9 : List (Int × Int × Int)), t_ = (l6_m10, l6_m21, l6_m8, l6_m9) ∧ S_ = ⟨mkTm [(1, (ai a1)), (3, (.box (oi 0 1) 0)), (5, (.box (oi 1 1) 0)), (6, (.box (oi 2 1) 0)), (8, (.own (oi 3 1) (.pair .int (.pair .int .int)) 0 l6_m8.length)), (9, (.own (oi 4 1) (.pair .int (.pair .int .int)) 0 l6_m9.length)), (10, (ai l6_m10)), (11, (.fn 106 [])), (19, (.tree (.pair .int (.pair .int .int)) a0_1)), (20, (ai ((a0_1.length : Nat) : Int))), (21, (ai ((l6_m21 : Nat) : Int)))], mkOb (someL [((oi 0 1), .cells 30 [(ai a0_0), (.tree (.pair .int (.pair .int .int)) a0_1), (.tree .int a0_2), (.tree .int a0_3)]), ((oi 1 1), .cells 3 [(ai a2)]), ((oi 2 1), .cells 30 [(ai 0), .nils, .nils, .nils]), ((oi 3 1), .arr 59 (.pair .int (.pair .int .int)) l6_m8), ((oi 4 1), .arr 59 (.pair .int (.pair .int .int)) l6_m9)]), 2⟩) ⟨_, (weak_ren [((oi 0 1), (oi 3 1)), ((oi 1 1), (oi 5 2)), ((oi 2 1), (oi 6 3)), ((oi 3 1), (oi 16 5)), ((oi 4 1), (oi 17 6))]), ⟨0, 0, [], [], rfl, rfl⟩⟩ ?_
  rintro n_ _ _ c_ ⟨l6_m10, l6_m21, l6_m8, l6_m9, rfl, rfl⟩ h hn6
  (try dsimp only at h)
  unfold L_impl_Network_starMesh_l1 at h
  unfold m_impl_Network_starMesh_l1
  refine seqR ?_
  refine awp_seqv_ ?_
  rcases cond_some h with ⟨q9, h⟩ | ⟨q9, h⟩
  ·have q9_ := of_decide_eq_true q9
   refine awp_condT_ q9 ?_
   refine awp_skip_ (tn_ ?_)
   refine ⟨_, Weak.refl _, ?_⟩
   refine awp_seqB h (fun t_ S_ => ∃ (l10_m10 : Int), ∃ (l10_m8 : List (Int × Int × Int)), ∃ (l10_m9 : List (Int × Int × Int)), t_ = (l10_m10, l10_m8, l10_m9) ∧ S_ = ⟨mkTm [(1, (ai a1)), (3, (.box (oi 0 1) 0)), (5, (.box (oi 1 1) 0)), (6, (.box (oi 2 1) 0)), (8, (.own (oi 3 1) (.pair .int (.pair .int .int)) 0 l10_m8.length)), (9, (.own (oi 4 1) (.pair .int (.pair .int .int)) 0 l10_m9.length)), (10, (ai l10_m10)), (11, (.fn 106 [])), (19, (.tree (.pair .int (.pair .int .int)) a0_1)), (20, (ai ((a0_1.length : Nat) : Int))), (21, (ai ((l6_m21 : Nat) : Int)))], mkOb (someL [((oi 0 1), .cells 30 [(ai a0_0), (.tree (.pair .int (.pair .int .int)) a0_1), (.tree .int a0_2), (.tree .int a0_3)]), ((oi 1 1), .cells 3 [(ai a2)]), ((oi 2 1), .cells 30 [(ai 0), .nils, .nils, .nils]), ((oi 3 1), .arr 59 (.pair .int (.pair .int .int)) l10_m8), ((oi 4 1), .arr 59 (.pair .int (.pair .int .int)) l10_m9)]), 2⟩) ?_ ?_
   ·intro v_ h
    refine awp_block_ ?_
    refine awp_seqv_ ?_
    obtain ⟨x12, e12, h⟩ := ob_some h
    refine awp_region_ 7 ?_
    refine rs0 (.telt (.pair .int (.pair .int .int)) x12 0) (s_idxT (t := (.pair .int (.pair .int .int))) (xs := a0_1) (k := .i64) (m := ((l6_m21 : Nat) : Int)) (by kernel_rfl) (by kernel_rfl) rfl (nat_nn _) rfl e12) ?_
    refine rsB 3 ?_
    refine rnil (tn_ ?_)
    refine ⟨_, Weak.refl _, ?_⟩
    refine awp_seqv_ ?_
    obtain ⟨y14, h14, h⟩ := ob_some h
    refine awp_region_ 11 ?_
    refine rs0 (.fn 106 []) (by kernel_rfl) ?_
    refine rsl (.agg [(ai x12.1), (ai x12.2.1), (ai x12.2.2)]) (by kernel_rfl) ?_
    refine rsl (ai a2) (by kernel_rfl) ?_
    refine rcall (.bool y14) [] [(.agg [(ai x12.1), (ai x12.2.1), (ai x12.2.2)]), (ai a2)] _ (caps := []) (args0 := [(.agg [(ai x12.1), (ai x12.2.1), (ai x12.2.2)]), (ai a2)]) trivial (by kernel_rfl) (ok_impl_Branch_touches h14) hb_impl_Branch_touches ?_
    refine rnil (tn_ ?_)
    refine ⟨_, Weak.refl _, ?_⟩
    rcases cond_some h with ⟨q15, h⟩ | ⟨q15, h⟩
    ·refine awp_condT_ q15 ?_
     refine awp_seqv_ ?_
     obtain ⟨g17, h⟩ := og_some h
     refine awp_region_ 16 ?_
     refine rs0 (.own (oi 3 1) (.pair .int (.pair .int .int)) 0 l6_m8.length) (by kernel_rfl) ?_
     refine rsl (.agg [(ai x12.1), (ai x12.2.1), (ai x12.2.2)]) (by kernel_rfl) ?_
     refine rs1 (.own (oi 31 13) (.pair .int (.pair .int .int)) 0 1) (oi 31 13) (.arr 59 (.pair .int (.pair .int .int)) ([x12])) (by kernel_rfl) ?_
     refine rs2 (.own (oi 3 14) (.pair .int (.pair .int .int)) 0 ((l6_m8 ++ ([x12])).length)) (oi 3 1) (oi 3 14) (.arr 59 (.pair .int (.pair .int .int)) (l6_m8 ++ ([x12]))) (s_appO (t := (.pair .int (.pair .int .int))) (t' := (.pair .int (.pair .int .int))) (xs := l6_m8) (ys := [x12]) (zs := l6_m8 ++ ([x12])) (j := (oi 3 1)) (len := l6_m8.length) (c := (.own (oi 31 13) (.pair .int (.pair .int .int)) 0 1)) (by kernel_rfl) (by kernel_rfl) rfl (by kernel_rfl) (sr_own (e := 59) (by kernel_rfl) rfl) rfl g17) ?_
     refine rsB 1 ?_
     refine rnil (tn_ ?_)
     refine ⟨_, Weak.refl _, ?_⟩
     obtain ⟨y18, h18, h⟩ := ob_some h
     refine awp_region_ 23 ?_
     refine rs0 (ai a1) (by kernel_rfl) ?_
     refine rs0 (ai l6_m10) (by kernel_rfl) ?_
     refine rs0 (.box (oi 13 5) 2) (by kernel_rfl) ?_
     refine rsl (ai x12.2.2) (by kernel_rfl) ?_
     refine rs0 (ai (IntKind.i64.wrap (l6_m10 + x12.2.2))) (by kernel_rfl) ?_
     refine rcall (ai y18) [] [(ai a1), (ai (IntKind.i64.wrap (l6_m10 + x12.2.2)))] _ (caps := []) (args0 := [(ai a1), (ai (IntKind.i64.wrap (l6_m10 + x12.2.2)))]) trivial (by kernel_rfl) (ok_impl_mod h18) hb_impl_mod ?_
     refine rsB 1 ?_
     refine rnil (bn_ (tn_ ?_))
     obtain rfl := Option.some.inj h
     exact ⟨_, (weak_ren [((oi 3 1), (oi 3 14))]), ⟨y18, l6_m8 ++ ([x12]), l6_m9, rfl, rfl⟩⟩
    refine awp_condF_ q15 ?_
    obtain ⟨g19, h⟩ := og_some h
    refine awp_region_ 16 ?_
    refine rs0 (.own (oi 4 1) (.pair .int (.pair .int .int)) 0 l6_m9.length) (by kernel_rfl) ?_
    refine rsl (.agg [(ai x12.1), (ai x12.2.1), (ai x12.2.2)]) (by kernel_rfl) ?_
    refine rs1 (.own (oi 41 13) (.pair .int (.pair .int .int)) 0 1) (oi 41 13) (.arr 59 (.pair .int (.pair .int .int)) ([x12])) (by kernel_rfl) ?_
    refine rs2 (.own (oi 4 14) (.pair .int (.pair .int .int)) 0 ((l6_m9 ++ ([x12])).length)) (oi 4 1) (oi 4 14) (.arr 59 (.pair .int (.pair .int .int)) (l6_m9 ++ ([x12]))) (s_appO (t := (.pair .int (.pair .int .int))) (t' := (.pair .int (.pair .int .int))) (xs := l6_m9) (ys := [x12]) (zs := l6_m9 ++ ([x12])) (j := (oi 4 1)) (len := l6_m9.length) (c := (.own (oi 41 13) (.pair .int (.pair .int .int)) 0 1)) (by kernel_rfl) (by kernel_rfl) rfl (by kernel_rfl) (sr_own (e := 59) (by kernel_rfl) rfl) rfl g19) ?_
    refine rsB 1 ?_
    refine rnil (bn_ (tn_ ?_))
    obtain rfl := Option.some.inj h
    exact ⟨_, (weak_ren [((oi 4 1), (oi 4 14))]), ⟨l6_m10, l6_m8, l6_m9 ++ ([x12]), rfl, rfl⟩⟩
   rintro _ _ ⟨l10_m10, l10_m8, l10_m9, rfl, rfl⟩ h
   (try dsimp only at h)
   obtain ⟨g20, h⟩ := og_some h
   refine awp_region_ 4 ?_
   refine rs0 (ai ((l6_m21 + 1 : Nat) : Int)) (s_add1 (j := l6_m21) (by kernel_rfl) (by kernel_rfl) g20) ?_
   refine rsB 1 ?_
   refine rnil (tn_ ?_)
   obtain rfl := Option.some.inj h
   exact ⟨(l10_m10, l6_m21 + 1, l10_m8, l10_m9), _, (weak_ren []), ⟨l10_m10, l6_m21 + 1, l10_m8, l10_m9, rfl, rfl⟩, hn6⟩
  have q9_ := of_decide_eq_false q9
  refine awp_condF_ q9 ?_
  refine awp_exit_ (te_ (te_ (be_ (tn_ ?_))))
  obtain rfl := Option.some.inj h
  have h := hn6
  (try dsimp only at h)
  obtain rfl := Option.some.inj h
  exact ⟨_, (weak_ren []), ⟨l6_m10, l6_m8, l6_m9, rfl, rfl⟩⟩
 rintro _ _ ⟨l4_m10, l4_m8, l4_m9, rfl, rfl⟩ h
 (try dsimp only at h)
 refine awp_seqv_ ?_
 refine awp_seqB h (fun (l22_m50 : Bool) S_ => S_ = ⟨mkTm [(1, (ai a1)), (3, (.box (oi 0 1) 0)), (5, (.box (oi 1 1) 0)), (6, (.box (oi 2 1) 0)), (8, (.own (oi 3 1) (.pair .int (.pair .int .int)) 0 l4_m8.length)), (9, (.own (oi 4 1) (.pair .int (.pair .int .int)) 0 l4_m9.length)), (10, (ai l4_m10)), (50, (.bool l22_m50))], mkOb (someL [((oi 0 1), .cells 30 [(ai a0_0), (.tree (.pair .int (.pair .int .int)) a0_1), (.tree .int a0_2), (.tree .int a0_3)]), ((oi 1 1), .cells 3 [(ai a2)]), ((oi 2 1), .cells 30 [(ai 0), .nils, .nils, .nils]), ((oi 3 1), .arr 59 (.pair .int (.pair .int .int)) l4_m8), ((oi 4 1), .arr 59 (.pair .int (.pair .int .int)) l4_m9)]), 2⟩) ?_ ?_
 ·intro v_ h
  rcases cond_some h with ⟨q23, h⟩ | ⟨q23, h⟩
  ·have q23_ := of_decide_eq_true q23
   refine awp_region_ 9 ?_
   refine rs0 (.own (oi 3 1) (.pair .int (.pair .int .int)) 0 l4_m8.length) (by kernel_rfl) ?_
   refine rs0 (ai ((l4_m8.length : Nat) : Int)) (by kernel_rfl) ?_
   refine rs0 (.bool (decide (0 < ((l4_m8.length : Nat) : Int)))) (by kernel_rfl) ?_
   refine rs0 (.bool (decide (0 < ((l4_m8.length : Nat) : Int)))) (by kernel_rfl) ?_
   refine rs0 (ai l4_m10) (s_gd (by kernel_rfl) q23 (by kernel_rfl)) ?_
   refine rs0 (.bool (l4_m10 == 0)) (s_gd (by kernel_rfl) q23 (by kernel_rfl)) ?_
   refine rs0 (.bool (l4_m10 == 0)) (s_pickT (by kernel_rfl) q23) ?_
   refine rnil (tn_ ?_)
   obtain rfl := Option.some.inj h
   exact ⟨_, (weak_ren []), rfl⟩
  have q23_ := of_decide_eq_false q23
  refine awp_region_ 9 ?_
  refine rs0 (.own (oi 3 1) (.pair .int (.pair .int .int)) 0 l4_m8.length) (by kernel_rfl) ?_
  refine rs0 (ai ((l4_m8.length : Nat) : Int)) (by kernel_rfl) ?_
  refine rs0 (.bool (decide (0 < ((l4_m8.length : Nat) : Int)))) (by kernel_rfl) ?_
  refine rs0 (.bool (decide (0 < ((l4_m8.length : Nat) : Int)))) (by kernel_rfl) ?_
  refine rs0 (.tup []) (s_skip (by kernel_rfl) q23) ?_
  refine rs0 (.tup []) (s_skip (by kernel_rfl) q23) ?_
  refine rs0 (.bool false) (s_pickF (by kernel_rfl) q23) ?_
  refine rnil (tn_ ?_)
  obtain rfl := Option.some.inj h
  exact ⟨_, (weak_ren []), rfl⟩
 rintro l22_m50 _ rfl h
 (try dsimp only at h)
 rcases cond_some h with ⟨q24, h⟩ | ⟨q24, h⟩
 ·refine awp_condT_ q24 ?_
  refine seqR ?_
  refine awp_ret_ (tr_ ?_)
  obtain rfl := Option.some.inj h
  exact ret_ [(.agg [(ai 0), .nils, .nils, .nils]), (.bool false)] (p_agg (l_cons (l_sc (by kernel_rfl)) (l_cons (l_nils rfl) (l_cons (l_nils rfl) (l_cons (l_nils rfl) l_nil)))) (p_one rfl (l_sc (by kernel_rfl)) p_nil))
 refine awp_condF_ q24 ?_
 refine awp_skip_ (tn_ ?_)
 refine ⟨_, Weak.refl _, ?_⟩
 refine awp_seqB h (fun (l26_m9 : List (Int × Int × Int)) S_ => S_ = ⟨mkTm [(1, (ai a1)), (3, (.box (oi 0 1) 0)), (5, (.box (oi 1 1) 0)), (6, (.box (oi 2 1) 0)), (9, (.own (oi 3 1) (.pair .int (.pair .int .int)) 0 l26_m9.length))], mkOb (someL [((oi 0 1), .cells 30 [(ai a0_0), (.tree (.pair .int (.pair .int .int)) a0_1), (.tree .int a0_2), (.tree .int a0_3)]), ((oi 1 1), .cells 3 [(ai a2)]), ((oi 2 1), .cells 30 [(ai 0), .nils, .nils, .nils]), ((oi 3 1), .arr 59 (.pair .int (.pair .int .int)) l26_m9)]), 2⟩) ?_ ?_
 ·intro v_ h
  refine seqR ?_
  rcases cond_some h with ⟨q28, h⟩ | ⟨q28, h⟩
  ·have q28_ := of_decide_eq_true q28
   refine awp_condT_ q28 ?_
   obtain ⟨y29, h29, h⟩ := ob_some h
   obtain ⟨g30, h⟩ := og_some h
   refine awp_region_ 13 ?_
   refine rs0 (.own (oi 4 1) (.pair .int (.pair .int .int)) 0 l4_m9.length) (by kernel_rfl) ?_
   refine rs0 (ai a1) (by kernel_rfl) ?_
   refine rs0 (.own (oi 3 1) (.pair .int (.pair .int .int)) 0 l4_m8.length) (by kernel_rfl) ?_
   refine rsl (ai a2) (by kernel_rfl) ?_
   refine rs0 (ai l4_m10) (by kernel_rfl) ?_
   refine rcall (.own (oi 960 10) (.pair .int (.pair .int .int)) 0 y29.length) [((oi 960 10), some (.arr 59 (.pair .int (.pair .int .int)) y29))] [(ai a1), (.own (oi 3 1) (.pair .int (.pair .int .int)) 0 l4_m8.length), (ai a2), (ai l4_m10)] _ (caps := []) (args0 := [(ai a1), (.tree (.pair .int (.pair .int .int)) l4_m8), (ai a2), (ai l4_m10)]) trivial (gm_cons (by kernel_rfl) (gm_cons (gd_own (e := 59) (by kernel_rfl) rfl) (gm_cons (by kernel_rfl) (gm_cons (by kernel_rfl) gm_nil)))) (ok_impl_mesh h29) hb_impl_mesh ?_
   refine rs2 (.own (oi 4 11) (.pair .int (.pair .int .int)) 0 ((l4_m9 ++ y29).length)) (oi 4 1) (oi 4 11) (.arr 59 (.pair .int (.pair .int .int)) (l4_m9 ++ y29)) (s_appO (t := (.pair .int (.pair .int .int))) (t' := (.pair .int (.pair .int .int))) (xs := l4_m9) (ys := y29) (zs := l4_m9 ++ y29) (j := (oi 4 1)) (len := l4_m9.length) (c := (.own (oi 960 10) (.pair .int (.pair .int .int)) 0 y29.length)) (by kernel_rfl) (by kernel_rfl) rfl (by kernel_rfl) (sr_own (e := 59) (by kernel_rfl) rfl) rfl g30) ?_
   refine rsB 1 ?_
   refine rnil (tn_ ?_)
   obtain rfl := Option.some.inj h
   exact ⟨_, (weak_ren [((oi 3 1), (oi 4 11))]), rfl⟩
  have q28_ := of_decide_eq_false q28
  refine awp_condF_ q28 ?_
  refine awp_skip_ (tn_ ?_)
  obtain rfl := Option.some.inj h
  exact ⟨_, (weak_ren [((oi 3 1), (oi 4 1))]), rfl⟩
 rintro l26_m9 _ rfl h
 (try dsimp only at h)
 refine seqR ?_
 refine awp_seqv_ ?_
 obtain ⟨y33, h33, h⟩ := ob_some h
 obtain ⟨y34, h34, h⟩ := ob_some h
 obtain ⟨y35, h35, h⟩ := ob_some h
 refine awp_regionD_ 21 ?_
 refine ds0 (.box (oi 0 1) 0) (by kernel_rfl) ?_
 refine dsl (ai a0_0) (by kernel_rfl) ?_
 refine ds0 (ai (IntKind.i64.wrap (a0_0 - 1))) (by kernel_rfl) ?_
 refine ds0 (.own (oi 3 1) (.pair .int (.pair .int .int)) 0 l26_m9.length) (by kernel_rfl) ?_
 refine ds0 (.fn 108 [(.box (oi 1 1) 0)]) (by kernel_rfl) ?_
 refine dcall (.own (oi 1088 9) (.pair .int (.pair .int .int)) 0 y33.length) [((oi 1088 9), some (.arr 59 (.pair .int (.pair .int .int)) y33))] [(.own (oi 3 1) (.pair .int (.pair .int .int)) 0 l26_m9.length), (.fn 108 [(.box (oi 1 1) 0)])] _ (caps := []) (args0 := [(.tree (.pair .int (.pair .int .int)) l26_m9), (.fn 108 [(.ref [(ai a2)])])]) trivial (gm_cons (gd_own (e := 59) (by kernel_rfl) rfl) (gm_cons (by kernel_rfl) gm_nil)) (ok_impl_movedBranches_for_impl_Network_starMesh_1 h33) hb_impl_movedBranches ?_
 refine ds0 (.box (oi 0 1) 2) (by kernel_rfl) ?_
 refine dsl (.tree .int a0_2) (by kernel_rfl) ?_
 refine ds0 (.fn 108 [(.box (oi 1 1) 0)]) (by kernel_rfl) ?_
 refine dcall (.own (oi 1152 13) .int 0 y34.length) [((oi 1152 13), some (.arr 3 .int y34))] [(.tree .int a0_2), (.fn 108 [(.box (oi 1 1) 0)])] _ (caps := []) (args0 := [(.tree .int a0_2), (.fn 108 [(.ref [(ai a2)])])]) trivial (by kernel_rfl) (ok_impl_mapList_for_impl_Network_starMesh_1 h34) hb_impl_mapList ?_
 refine ds0 (.box (oi 0 1) 3) (by kernel_rfl) ?_
 refine dsl (.tree .int a0_3) (by kernel_rfl) ?_
 refine ds0 (.fn 108 [(.box (oi 1 1) 0)]) (by kernel_rfl) ?_
 refine dcall (.own (oi 1216 17) .int 0 y35.length) [((oi 1216 17), some (.arr 3 .int y35))] [(.tree .int a0_3), (.fn 108 [(.box (oi 1 1) 0)])] _ (caps := []) (args0 := [(.tree .int a0_3), (.fn 108 [(.ref [(ai a2)])])]) trivial (by kernel_rfl) (ok_impl_mapList_for_impl_Network_starMesh_1 h35) hb_impl_mapList ?_
 refine ds0 (.agg [(ai (IntKind.i64.wrap (a0_0 - 1))), (.own (oi 1088 9) (.pair .int (.pair .int .int)) 0 y33.length), (.own (oi 1152 13) .int 0 y34.length), (.own (oi 1216 17) .int 0 y35.length)]) (by kernel_rfl) ?_
 refine ds1 (.box (oi 15 19) 0) (oi 15 19) (.cells 30 [(ai 0), .nils, .nils, .nils]) (by kernel_rfl) ?_
 refine dsn2 (oi 15 19) (oi 15 19) (.cells 30 [(ai (IntKind.i64.wrap (a0_0 - 1))), (.own (oi 1088 9) (.pair .int (.pair .int .int)) 0 y33.length), (.own (oi 1152 13) .int 0 y34.length), (.own (oi 1216 17) .int 0 y35.length)]) (by kernel_rfl) ?_
 refine dnil (badB_spec (by kernel_rfl)) (tn_ ?_)
 refine ⟨_, Weak.refl _, ?_⟩
 refine awp_seqB h (fun t_ S_ => ∃ (l36_m7 : Bool), ∃ (l36_m6_0 : Int), ∃ (l36_m6_1 : List (Int × Int × Int)), ∃ (l36_m6_2 : List Int), ∃ (l36_m6_3 : List Int), t_ = (l36_m7, l36_m6_0, l36_m6_1, l36_m6_2, l36_m6_3) ∧ S_ = ⟨mkTm [(6, (.box (oi 0 1) 0)), (7, (.bool l36_m7))], mkOb (someL [((oi 0 1), .cells 30 [(ai l36_m6_0), (.own (oi 1 1) (.pair .int (.pair .int .int)) 0 l36_m6_1.length), (.own (oi 2 1) .int 0 l36_m6_2.length), (.own (oi 3 1) .int 0 l36_m6_3.length)]), ((oi 1 1), .arr 59 (.pair .int (.pair .int .int)) l36_m6_1), ((oi 2 1), .arr 3 .int l36_m6_2), ((oi 3 1), .arr 3 .int l36_m6_3)]), 2⟩) ?_ ?_
 ·intro v_ h
  obtain ⟨y37, h37, h⟩ := ob_some h
  obtain ⟨y38, h38, h⟩ := ob_some h
  rcases y38 with z38_0 | z38_1
  ·(try simp only [Sum.elim_inl, Sum.elim_inr] at h)
   refine awp_region_ 30 ?_
   refine rs0 (ai a1) (by kernel_rfl) ?_
   refine rsl (.agg [(ai (IntKind.i64.wrap (a0_0 - 1))), (.own (oi 1088 9) (.pair .int (.pair .int .int)) 0 y33.length), (.own (oi 1152 13) .int 0 y34.length), (.own (oi 1216 17) .int 0 y35.length)]) (by kernel_rfl) ?_
   refine rs0 (ai a1) (by kernel_rfl) ?_
   refine rcall (.agg [(ai y37.1), (.own (oi 1296 24) (.pair .int (.pair .int .int)) 0 y37.2.1.length), (.own (oi 1297 24) .int 0 y37.2.2.1.length), (.own (oi 1298 24) .int 0 y37.2.2.2.length)]) [((oi 1296 24), some (.arr 59 (.pair .int (.pair .int .int)) y37.2.1)), ((oi 1297 24), some (.arr 3 .int y37.2.2.1)), ((oi 1298 24), some (.arr 3 .int y37.2.2.2))] [(.agg [(ai (IntKind.i64.wrap (a0_0 - 1))), (.own (oi 1088 9) (.pair .int (.pair .int .int)) 0 y33.length), (.own (oi 1152 13) .int 0 y34.length), (.own (oi 1216 17) .int 0 y35.length)]), (ai a1)] _ (caps := []) (args0 := [(.agg [(ai (IntKind.i64.wrap (a0_0 - 1))), (.tree (.pair .int (.pair .int .int)) y33), (.tree .int y34), (.tree .int y35)]), (ai a1)]) trivial (gm_cons (gd_agg (gm_cons (by kernel_rfl) (gm_cons (gd_own (e := 59) (by kernel_rfl) rfl) (gm_cons (gd_own (e := 3) (by kernel_rfl) rfl) (gm_cons (gd_own (e := 3) (by kernel_rfl) rfl) gm_nil))))) (gm_cons (by kernel_rfl) gm_nil)) (ok_impl_Network_merged h37) hb_impl_Network_merged ?_
   refine rcall (.tup [(.agg [(ai z38_0.1), .nils, .nils, .nils]), (.bool z38_0.2)]) [] [(ai a1), (.agg [(ai y37.1), (.own (oi 1296 24) (.pair .int (.pair .int .int)) 0 y37.2.1.length), (.own (oi 1297 24) .int 0 y37.2.2.1.length), (.own (oi 1298 24) .int 0 y37.2.2.2.length)])] _ (caps := []) (args0 := [(ai a1), (.agg [(ai y37.1), (.tree (.pair .int (.pair .int .int)) y37.2.1), (.tree .int y37.2.2.1), (.tree .int y37.2.2.2)])]) trivial (gm_cons (by kernel_rfl) (gm_cons (gd_agg (gm_cons (by kernel_rfl) (gm_cons (gd_own (e := 59) (by kernel_rfl) rfl) (gm_cons (gd_own (e := 3) (by kernel_rfl) rfl) (gm_cons (gd_own (e := 3) (by kernel_rfl) rfl) gm_nil))))) gm_nil)) (ok_impl_validNetwork h38) hb_impl_validNetwork ?_
   refine rsB 4 ?_
   refine rnil (tn_ ?_)
   obtain rfl := Option.some.inj h
   exact ⟨_, ((weak_nil_cell_ 9000 (oi 2 1) 1 30 [(ai z38_0.1), .nils, .nils, .nils] [(ai z38_0.1), (.own (oi 9000 30) (.pair .int (.pair .int .int)) 0 0), .nils, .nils] 59 (.pair .int (.pair .int .int)) rfl (by kernel_rfl) (by kernel_rfl) (by kernel_rfl)).trans ((weak_nil_cell_ 9001 (oi 2 1) 2 30 [(ai z38_0.1), (.own (oi 9000 30) (.pair .int (.pair .int .int)) 0 0), .nils, .nils] [(ai z38_0.1), (.own (oi 9000 30) (.pair .int (.pair .int .int)) 0 0), (.own (oi 9001 31) .int 0 0), .nils] 3 .int rfl (by kernel_rfl) (by kernel_rfl) (by kernel_rfl)).trans ((weak_nil_cell_ 9002 (oi 2 1) 3 30 [(ai z38_0.1), (.own (oi 9000 30) (.pair .int (.pair .int .int)) 0 0), (.own (oi 9001 31) .int 0 0), .nils] [(ai z38_0.1), (.own (oi 9000 30) (.pair .int (.pair .int .int)) 0 0), (.own (oi 9001 31) .int 0 0), (.own (oi 9002 32) .int 0 0)] 3 .int rfl (by kernel_rfl) (by kernel_rfl) (by kernel_rfl)).trans (weak_ren [((oi 0 1), (oi 2 1)), ((oi 1 1), (oi 9000 30)), ((oi 2 1), (oi 9001 31)), ((oi 3 1), (oi 9002 32))])))), ⟨z38_0.2, z38_0.1, [], [], [], rfl, rfl⟩⟩
  (try simp only [Sum.elim_inl, Sum.elim_inr] at h)
  refine awp_region_ 30 ?_
  refine rs0 (ai a1) (by kernel_rfl) ?_
  refine rsl (.agg [(ai (IntKind.i64.wrap (a0_0 - 1))), (.own (oi 1088 9) (.pair .int (.pair .int .int)) 0 y33.length), (.own (oi 1152 13) .int 0 y34.length), (.own (oi 1216 17) .int 0 y35.length)]) (by kernel_rfl) ?_
  refine rs0 (ai a1) (by kernel_rfl) ?_
  refine rcall (.agg [(ai y37.1), (.own (oi 1296 24) (.pair .int (.pair .int .int)) 0 y37.2.1.length), (.own (oi 1297 24) .int 0 y37.2.2.1.length), (.own (oi 1298 24) .int 0 y37.2.2.2.length)]) [((oi 1296 24), some (.arr 59 (.pair .int (.pair .int .int)) y37.2.1)), ((oi 1297 24), some (.arr 3 .int y37.2.2.1)), ((oi 1298 24), some (.arr 3 .int y37.2.2.2))] [(.agg [(ai (IntKind.i64.wrap (a0_0 - 1))), (.own (oi 1088 9) (.pair .int (.pair .int .int)) 0 y33.length), (.own (oi 1152 13) .int 0 y34.length), (.own (oi 1216 17) .int 0 y35.length)]), (ai a1)] _ (caps := []) (args0 := [(.agg [(ai (IntKind.i64.wrap (a0_0 - 1))), (.tree (.pair .int (.pair .int .int)) y33), (.tree .int y34), (.tree .int y35)]), (ai a1)]) trivial (gm_cons (gd_agg (gm_cons (by kernel_rfl) (gm_cons (gd_own (e := 59) (by kernel_rfl) rfl) (gm_cons (gd_own (e := 3) (by kernel_rfl) rfl) (gm_cons (gd_own (e := 3) (by kernel_rfl) rfl) gm_nil))))) (gm_cons (by kernel_rfl) gm_nil)) (ok_impl_Network_merged h37) hb_impl_Network_merged ?_
  refine rcall (.tup [(.agg [(ai z38_1.1), (.own (oi 1296 24) (.pair .int (.pair .int .int)) 0 y37.2.1.length), (.own (oi 1297 24) .int 0 y37.2.2.1.length), (.own (oi 1298 24) .int 0 y37.2.2.2.length)]), (.bool z38_1.2)]) [] [(ai a1), (.agg [(ai y37.1), (.own (oi 1296 24) (.pair .int (.pair .int .int)) 0 y37.2.1.length), (.own (oi 1297 24) .int 0 y37.2.2.1.length), (.own (oi 1298 24) .int 0 y37.2.2.2.length)])] _ (caps := []) (args0 := [(ai a1), (.agg [(ai y37.1), (.tree (.pair .int (.pair .int .int)) y37.2.1), (.tree .int y37.2.2.1), (.tree .int y37.2.2.2)])]) trivial (gm_cons (by kernel_rfl) (gm_cons (gd_agg (gm_cons (by kernel_rfl) (gm_cons (gd_own (e := 59) (by kernel_rfl) rfl) (gm_cons (gd_own (e := 3) (by kernel_rfl) rfl) (gm_cons (gd_own (e := 3) (by kernel_rfl) rfl) gm_nil))))) gm_nil)) (ok_impl_validNetwork h38) hb_impl_validNetwork ?_
  refine rsB 4 ?_
  refine rnil (tn_ ?_)
  obtain rfl := Option.some.inj h
  exact ⟨_, (weak_ren [((oi 0 1), (oi 2 1)), ((oi 1 1), (oi 1296 24)), ((oi 2 1), (oi 1297 24)), ((oi 3 1), (oi 1298 24))]), ⟨z38_1.2, z38_1.1, y37.2.1, y37.2.2.1, y37.2.2.2, rfl, rfl⟩⟩
 rintro _ _ ⟨l36_m7, l36_m6_0, l36_m6_1, l36_m6_2, l36_m6_3, rfl, rfl⟩ h
 (try dsimp only at h)
 refine awp_ret_ ?_
 obtain rfl := Option.some.inj h
 exact ret_ [(.agg [(ai l36_m6_0), (.own (oi 1 1) (.pair .int (.pair .int .int)) 0 l36_m6_1.length), (.own (oi 2 1) .int 0 l36_m6_2.length), (.own (oi 3 1) .int 0 l36_m6_3.length)]), (.bool l36_m7)] (p_agg (l_cons (l_sc (by kernel_rfl)) (l_cons (l_own (by kernel_rfl) rfl) (l_cons (l_own (by kernel_rfl) rfl) (l_cons (l_own (by kernel_rfl) rfl) l_nil)))) (p_one rfl (l_sc (by kernel_rfl)) p_nil))
end Go.Proofs.YtefolocdfgelcaaDoor
