/- Lemmas on the program and on partial functions that stand in place of its code (part 6); no condition beyond those that each one states. -/
import Derived.Test.YtbdkmfmhlmnlmaaDoorZ5
namespace Go.Proofs.YtbdkmfmhlmnlmaaDoor
open Go.RowKit Go.Deep
set_option maxRecDepth 4000
def m_laws_eqInstr : AC :=
 (.seq (rg [xo 2 (.i (.box 67 (tm 0))), xo 3 (.i (.box 67 (tm 1))), xo 4 (qm (cb false))])
 (.seq (.seq (rg [xo 5 (qf 0 (tm 2)), xo 6 (ql (tm 5)), xo 7 (qf 0 (tm 3)), xo 8 (ql (tm 7)), xo 9 (qb .neq (tm 6) (tm 8))])
 (.cond (tm 9)
  (.seq (rg [xo 4 (qm (cb false))])
  .ret)
  .skip))
 (.seq (.seq (rg [xo 10 (qf 1 (tm 2)), xo 11 (ql (tm 10)), xo 12 (qf 1 (tm 3)), xo 13 (ql (tm 12)), xo 14 (qb .neq (tm 11) (tm 13))])
 (.cond (tm 14)
  (.seq (rg [xo 4 (qm (cb false))])
  .ret)
  .skip))
 (.seq (.seq (rg [xo 15 (qf 2 (tm 2)), xo 16 (ql (tm 15)), xo 17 (qf 2 (tm 3)), xo 18 (ql (tm 17)), xo 19 (qb .neq (tm 16) (tm 18))])
 (.cond (tm 19)
  (.seq (rg [xo 4 (qm (cb false))])
  .ret)
  .skip))
 (.seq (.seq (rg [xo 20 (qf 3 (tm 2)), xo 21 (ql (tm 20)), xo 22 (qf 3 (tm 3)), xo 23 (ql (tm 22)), xo 24 (qb .neq (tm 21) (tm 23))])
 (.cond (tm 24)
  (.seq (rg [xo 4 (qm (cb false))])
  .ret)
  .skip))
 (.seq (.seq (rg [xo 25 (qf 4 (tm 2)), xo 26 (ql (tm 25)), xo 27 (qf 4 (tm 3)), xo 28 (ql (tm 27)), xo 29 (qb .neq (tm 26) (tm 28))])
 (.cond (tm 29)
  (.seq (rg [xo 4 (qm (cb false))])
  .ret)
  .skip))
 (.seq (rg [xo 4 (qm (cb true))])
 .ret)))))))
def r_laws_eqInstr : List Res := [.tmp 4]
theorem c_laws_eqInstr : compiled Tryd.prog Tryd.f54 = some (m_laws_eqInstr, r_laws_eqInstr) := by kernel_rfl
theorem hb_laws_eqInstr : hasBody Tryd.prog 54 = true := by kernel_rfl
def L_laws_eqInstr (a0_0 : Int) (a0_1 : Int) (a0_2 : Int) (a0_3 : Int) (a0_4 : Int) (a1_0 : Int) (a1_1 : Int) (a1_2 : Int) (a1_3 : Int) (a1_4 : Int) : Option Bool :=
 cond (a0_0 != a1_0)
 (some false)
 (cond (a0_1 != a1_1)
  (some false)
  (cond (a0_2 != a1_2)
   (some false)
   (cond (a0_3 != a1_3)
    (some false)
    (cond (a0_4 != a1_4)
     (some false)
     (some true)))))
def rv_laws_eqInstr (r : Bool) : RV := ⟨false, [(false, [.sc (.bool r)])]⟩
theorem ok_laws_eqInstr {a0_0 : Int} {a0_1 : Int} {a0_2 : Int} {a0_3 : Int} {a0_4 : Int} {a1_0 : Int} {a1_1 : Int} {a1_2 : Int} {a1_3 : Int} {a1_4 : Int} {r : Bool} (h : L_laws_eqInstr a0_0 a0_1 a0_2 a0_3 a0_4 a1_0 a1_1 a1_2 a1_3 a1_4 = some r) : CallOK Tryd.prog Tab 54 [(.agg [(ai a0_0), (ai a0_1), (ai a0_2), (ai a0_3), (ai a0_4)]), (.agg [(ai a1_0), (ai a1_1), (ai a1_2), (ai a1_3), (ai a1_4)])] (rv_laws_eqInstr r) := by
 refine call_of_ (by kernel_rfl) Tryd.func54 c_laws_eqInstr (n := 30) (by kernel_rfl) (by simp) (tl := [(0, (.agg [(ai a0_0), (ai a0_1), (ai a0_2), (ai a0_3), (ai a0_4)])), (1, (.agg [(ai a1_0), (ai a1_1), (ai a1_2), (ai a1_3), (ai a1_4)]))]) rfl ?_
 unfold m_laws_eqInstr
 unfold L_laws_eqInstr at h
 refine seqR ?_
 refine awp_seqv_ ?_
 refine seqR ?_
 rcases cond_some h with ⟨q4, h⟩ | ⟨q4, h⟩
 ·refine awp_condT_ q4 ?_
  refine seqR ?_
  refine awp_ret_ (tr_ ?_)
  obtain rfl := zj h
  exact ret_ [(.bool false)] (p_one rfl zl p_nil)
 refine awp_condF_ q4 ?_
 refine awp_skip_ (tn_ ?_)
 refine wr_ ?_
 refine awp_seqv_ ?_
 refine seqR ?_
 rcases cond_some h with ⟨q8, h⟩ | ⟨q8, h⟩
 ·refine awp_condT_ q8 ?_
  refine seqR ?_
  refine awp_ret_ (tr_ ?_)
  obtain rfl := zj h
  exact ret_ [(.bool false)] (p_one rfl zl p_nil)
 refine awp_condF_ q8 ?_
 refine awp_skip_ (tn_ ?_)
 refine wr_ ?_
 refine awp_seqv_ ?_
 refine seqR ?_
 rcases cond_some h with ⟨q12, h⟩ | ⟨q12, h⟩
 ·refine awp_condT_ q12 ?_
  refine seqR ?_
  refine awp_ret_ (tr_ ?_)
  obtain rfl := zj h
  exact ret_ [(.bool false)] (p_one rfl zl p_nil)
 refine awp_condF_ q12 ?_
 refine awp_skip_ (tn_ ?_)
 refine wr_ ?_
 refine awp_seqv_ ?_
 refine seqR ?_
 rcases cond_some h with ⟨q16, h⟩ | ⟨q16, h⟩
 ·refine awp_condT_ q16 ?_
  refine seqR ?_
  refine awp_ret_ (tr_ ?_)
  obtain rfl := zj h
  exact ret_ [(.bool false)] (p_one rfl zl p_nil)
 refine awp_condF_ q16 ?_
 refine awp_skip_ (tn_ ?_)
 refine wr_ ?_
 refine awp_seqv_ ?_
 refine seqR ?_
 rcases cond_some h with ⟨q20, h⟩ | ⟨q20, h⟩
 ·refine awp_condT_ q20 ?_
  refine seqR ?_
  refine awp_ret_ (tr_ ?_)
  obtain rfl := zj h
  exact ret_ [(.bool false)] (p_one rfl zl p_nil)
 refine awp_condF_ q20 ?_
 refine awp_skip_ (tn_ ?_)
 refine wr_ ?_
 refine seqR ?_
 refine awp_ret_ ?_
 obtain rfl := zj h
 exact ret_ [(.bool true)] (p_one rfl zl p_nil)
def m_laws_eqInstrS_l1 : AC :=
 (.seq (.seq (rg [xo 11 (qm (tm 5)), xo 12 (qm (tm 0)), xo 13 (.i (.len (tm 12))), xo 14 (qb .lss (tm 11) (tm 13))])
 (.cond (tm 14)
  .skip
  (.exit 0)))
 (.seq (.block 1 (.seq (.region [xo 17 (qm (tm 0)), xo 18 (qm (tm 5)), xo 19 (qx 5 (tm 17) (tm 18)), xo 20 (.i (.ld false 5 (tm 19))), xo 21 (qm (tm 1)), xo 22 (qm (tm 5)), xo 23 (qx 5 (tm 21) (tm 22)), xo 24 (.i (.ld false 5 (tm 23))), xo 25 (qc 54 [(tm 20), (tm 24)] [[none, none, none, none, none], [none, none, none, none, none]]), xo 26 (.i (.not (tm 25)))] true [])
 (.cond (tm 26)
  (.seq (rg [xo 4 (qm (cb false))])
  .ret)
  .skip)))
 (rg [xo 15 (qm (tm 5)), xo 16 (qb .add (tm 15) (ci 1)), xo 5 (qm (tm 16))])))
def m_laws_eqInstrS : AC :=
 (.seq (rg [xo 4 (qm (cb false))])
 (.seq (.seq (rg [xo 6 (qm (tm 0)), xo 7 (.i (.len (tm 6))), xo 8 (qm (tm 1)), xo 9 (.i (.len (tm 8))), xo 10 (qb .neq (tm 7) (tm 9))])
 (.cond (tm 10)
  (.seq (rg [xo 4 (qm (cb false))])
  .ret)
  .skip))
 (.seq (.seq (rg [xo 5 (qm (ci 0))])
 (.block 0 (.loop m_laws_eqInstrS_l1)))
 (.seq (rg [xo 4 (qm (cb true))])
 .ret))))
def r_laws_eqInstrS : List Res := [.tmp 4]
theorem c_laws_eqInstrS : compiled Tryd.prog Tryd.f22 = some (m_laws_eqInstrS, r_laws_eqInstrS) := by kernel_rfl
def L_laws_eqInstrS_l1 (a0 : List (Int × Int × Int × Int × Int)) (a1 : List (Int × Int × Int × Int × Int)) (l8_m5 : Nat) : Option (Ctl Nat (Ctl Unit Bool)) :=
 cond (decide (((l8_m5 : Nat) : Int) < ((a0.length : Nat) : Int)))
 (Option.bind (a0[l8_m5]?) fun x14 =>
 Option.bind (a1[l8_m5]?) fun x15 =>
 Option.bind (L_laws_eqInstr x14.1 x14.2.1 x14.2.2.1 x14.2.2.2.1 x14.2.2.2.2 x15.1 x15.2.1 x15.2.2.1 x15.2.2.2.1 x15.2.2.2.2) fun y16 =>
 cond (!y16)
  (some (Ctl.out (Ctl.out false)))
  (og (l8_m5 + 1 < 4611686018427387904) <|
  some (Ctl.next (l8_m5 + 1))))
 (some (Ctl.out (Ctl.next ())))
def L_laws_eqInstrS (a0 : List (Int × Int × Int × Int × Int)) (a1 : List (Int × Int × Int × Int × Int)) : Option Bool :=
 cond (((a0.length : Nat) : Int) != ((a1.length : Nat) : Int))
 (some false)
 (seqC (loopM (fun s_ : Nat => L_laws_eqInstrS_l1 a0 a1 s_) 4611686018427387904 0) fun _ =>
 some true)
def rv_laws_eqInstrS (r : Bool) : RV := ⟨false, [(false, [.sc (.bool r)])]⟩
theorem ok_laws_eqInstrS {a0 : List (Int × Int × Int × Int × Int)} {a1 : List (Int × Int × Int × Int × Int)} {r : Bool} (h : L_laws_eqInstrS a0 a1 = some r) : CallOK Tryd.prog Tab 22 [(.tree T5 a0), (.tree T5 a1)] (rv_laws_eqInstrS r) := by
 refine call_of_ (by kernel_rfl) Tryd.func22 c_laws_eqInstrS (n := 27) (by kernel_rfl) (by simp) (tl := [(0, (.tree T5 a0)), (1, (.tree T5 a1))]) rfl ?_
 unfold m_laws_eqInstrS
 unfold L_laws_eqInstrS at h
 refine seqR ?_
 refine awp_seqv_ ?_
 refine seqR ?_
 rcases cond_some h with ⟨q4, h⟩ | ⟨q4, h⟩
 ·refine awp_condT_ q4 ?_
  refine seqR ?_
  refine awp_ret_ (tr_ ?_)
  obtain rfl := zj h
  exact ret_ [(.bool false)] (p_one rfl zl p_nil)
 refine awp_condF_ q4 ?_
 refine awp_skip_ (tn_ ?_)
 refine wr_ ?_
 refine awp_seqC h (fun (_ : Unit) S_ => S_ = ⟨mkTm [], mkOb (someL []), 2⟩) ?_ ?_
 ·intro v_ h hk6
  refine seqR ?_
  refine awp_block_ ?_
  refine awp_loopL h (fun (l8_m5 : Nat) S_ => S_ = ⟨mkTm [(0, (.tree T5 a0)), (1, (.tree T5 a1)), (5, (ai ((l8_m5 : Nat) : Int)))], mkOb (someL []), 2⟩) ⟨_, (weak_ren []), rfl⟩ ?_
  rintro n_ l8_m5 _ c_ rfl h hn8
  (try dsimp only at h)
  unfold L_laws_eqInstrS_l1 at h
  unfold m_laws_eqInstrS_l1
  refine awp_seqv_ ?_
  refine seqR ?_
  rcases cond_some h with ⟨q11, h⟩ | ⟨q11, h⟩
  ·have q11_ := of_decide_eq_true q11
   refine awp_condT_ q11 ?_
   refine awp_skip_ (tn_ ?_)
   refine wr_ ?_
   refine awp_seqv_ ?_
   refine awp_block_ ?_
   refine awp_seqv_ ?_
   obtain ⟨x14, e14, h⟩ := ob_some h
   obtain ⟨x15, e15, h⟩ := ob_some h
   obtain ⟨y16, h16, h⟩ := ob_some h
   refine awp_regionD_ 16 ?_
   refine dz0 (.tree T5 a0) ?_
   refine dz0 (ai ((l8_m5 : Nat) : Int)) ?_
   refine ds0 (.telt T5 x14 0) (zi (t := T5) (xs := a0) (k := .i64) (m := ((l8_m5 : Nat) : Int)) (nat_nn _) e14) ?_
   refine dz0 (.agg [(ai x14.1), (ai x14.2.1), (ai x14.2.2.1), (ai x14.2.2.2.1), (ai x14.2.2.2.2)]) ?_
   refine dz0 (.tree T5 a1) ?_
   refine dz0 (ai ((l8_m5 : Nat) : Int)) ?_
   refine ds0 (.telt T5 x15 0) (zi (t := T5) (xs := a1) (k := .i64) (m := ((l8_m5 : Nat) : Int)) (nat_nn _) e15) ?_
   refine dz0 (.agg [(ai x15.1), (ai x15.2.1), (ai x15.2.2.1), (ai x15.2.2.2.1), (ai x15.2.2.2.2)]) ?_
   refine dcall (.bool y16) [] [(.agg [(ai x14.1), (ai x14.2.1), (ai x14.2.2.1), (ai x14.2.2.2.1), (ai x14.2.2.2.2)]), (.agg [(ai x15.1), (ai x15.2.1), (ai x15.2.2.1), (ai x15.2.2.2.1), (ai x15.2.2.2.2)])] _ (caps := []) (args0 := [(.agg [(ai x14.1), (ai x14.2.1), (ai x14.2.2.1), (ai x14.2.2.2.1), (ai x14.2.2.2.2)]), (.agg [(ai x15.1), (ai x15.2.1), (ai x15.2.2.1), (ai x15.2.2.2.1), (ai x15.2.2.2.2)])]) trivial (by kernel_rfl) (ok_laws_eqInstr h16) hb_laws_eqInstr ?_
   refine dz0 (.bool (!y16)) ?_
   refine dnil (badB_spec (by kernel_rfl)) (tn_ ?_)
   refine wr_ ?_
   rcases cond_some h with ⟨q17, h⟩ | ⟨q17, h⟩
   ·refine awp_condT_ q17 ?_
    refine seqR ?_
    refine awp_ret_ (br_ (tr_ (tr_ (br_ (tr_ ?_)))))
    obtain rfl := zj h
    have h := hn8
    (try dsimp only at h)
    obtain rfl := zj h
    have h := hk6
    (try dsimp only at h)
    obtain rfl := zj h
    exact ret_ [(.bool false)] (p_one rfl zl p_nil)
   refine awp_condF_ q17 ?_
   refine awp_skip_ (bn_ (tn_ ?_))
   refine wr_ ?_
   obtain ⟨g19, h⟩ := og_some h
   refine awp_region_ 19 ?_
   refine rz0 (ai ((l8_m5 : Nat) : Int)) ?_
   refine rs0 (ai ((l8_m5 + 1 : Nat) : Int)) (za g19) ?_
   refine rsB 1 ?_
   refine rnil (tn_ ?_)
   obtain rfl := zj h
   exact ⟨l8_m5 + 1, _, (weak_ren []), rfl, hn8⟩
  have q11_ := of_decide_eq_false q11
  refine awp_condF_ q11 ?_
  refine awp_exit_ (te_ (te_ (be_ (tn_ ?_))))
  obtain rfl := zj h
  have h := hn8
  (try dsimp only at h)
  obtain rfl := zj h
  exact ⟨(), _, rfl, (weak_ren []), rfl⟩
 rintro _ _ rfl h
 (try dsimp only at h)
 refine seqR ?_
 refine awp_ret_ ?_
 obtain rfl := zj h
 exact ret_ [(.bool true)] (p_one rfl zl p_nil)
def m_laws_eqProgram : AC :=
 (.seq (rg [xo 2 (.i (.box 29 (tm 0))), xo 3 (.i (.box 29 (tm 1))), xo 4 (qm (cb false))])
 (.seq (.seq (rg [xo 5 (qf 0 (tm 2)), xo 6 (ql (tm 5)), xo 7 (qf 0 (tm 3)), xo 8 (ql (tm 7)), xo 9 (qb .neq (tm 6) (tm 8))])
 (.cond (tm 9)
  (.seq (rg [xo 4 (qm (cb false))])
  .ret)
  .skip))
 (.seq (.seq (rg [xo 10 (qf 1 (tm 2)), xo 11 (ql (tm 10)), xo 12 (qf 1 (tm 3)), xo 13 (ql (tm 12)), xo 14 (qb .neq (tm 11) (tm 13))])
 (.cond (tm 14)
  (.seq (rg [xo 4 (qm (cb false))])
  .ret)
  .skip))
 (.seq (.seq (rg [xo 15 (qf 2 (tm 2)), xo 16 (ql (tm 15)), xo 17 (qf 2 (tm 3)), xo 18 (ql (tm 17)), xo 19 (qb .neq (tm 16) (tm 18))])
 (.cond (tm 19)
  (.seq (rg [xo 4 (qm (cb false))])
  .ret)
  .skip))
 (.seq (.seq (rg [xo 20 (qf 3 (tm 2)), xo 21 (ql (tm 20)), xo 22 (qf 3 (tm 3)), xo 23 (ql (tm 22)), xo 24 (qb .neq (tm 21) (tm 23))])
 (.cond (tm 24)
  (.seq (rg [xo 4 (qm (cb false))])
  .ret)
  .skip))
 (.seq (.seq (rg [xo 25 (qf 4 (tm 2)), xo 26 (ql (tm 25)), xo 27 (qf 4 (tm 3)), xo 28 (ql (tm 27)), ⟨(some 29), none, (qc 22 [(tm 26), (tm 28)] [[(some T5)], [(some T5)]])⟩, xo 30 (.i (.not (tm 29)))])
 (.cond (tm 30)
  (.seq (rg [xo 4 (qm (cb false))])
  .ret)
  .skip))
 (.seq (rg [xo 4 (qm (cb true))])
 .ret)))))))
def r_laws_eqProgram : List Res := [.tmp 4]
theorem c_laws_eqProgram : compiled Tryd.prog Tryd.f8 = some (m_laws_eqProgram, r_laws_eqProgram) := by kernel_rfl
theorem hb_laws_eqProgram : hasBody Tryd.prog 8 = true := by kernel_rfl
def L_laws_eqProgram (a0_0 : Int) (a0_1 : Int) (a0_2 : Int) (a0_3 : Int) (a0_4 : List (Int × Int × Int × Int × Int)) (a1_0 : Int) (a1_1 : Int) (a1_2 : Int) (a1_3 : Int) (a1_4 : List (Int × Int × Int × Int × Int)) : Option Bool :=
 cond (a0_0 != a1_0)
 (some false)
 (cond (a0_1 != a1_1)
  (some false)
  (cond (a0_2 != a1_2)
   (some false)
   (cond (a0_3 != a1_3)
    (some false)
    (Option.bind (L_laws_eqInstrS a0_4 a1_4) fun y20 =>
    cond (!y20)
     (some false)
     (some true)))))
def rv_laws_eqProgram (r : Bool) : RV := ⟨false, [(false, [.sc (.bool r)])]⟩
theorem ok_laws_eqProgram {a0_0 : Int} {a0_1 : Int} {a0_2 : Int} {a0_3 : Int} {a0_4 : List (Int × Int × Int × Int × Int)} {a1_0 : Int} {a1_1 : Int} {a1_2 : Int} {a1_3 : Int} {a1_4 : List (Int × Int × Int × Int × Int)} {r : Bool} (h : L_laws_eqProgram a0_0 a0_1 a0_2 a0_3 a0_4 a1_0 a1_1 a1_2 a1_3 a1_4 = some r) : CallOK Tryd.prog Tab 8 [(.agg [(ai a0_0), (ai a0_1), (ai a0_2), (ai a0_3), (.tree T5 a0_4)]), (.agg [(ai a1_0), (ai a1_1), (ai a1_2), (ai a1_3), (.tree T5 a1_4)])] (rv_laws_eqProgram r) := by
 refine call_of_ (by kernel_rfl) Tryd.func8 c_laws_eqProgram (n := 31) (by kernel_rfl) (by simp) (tl := [(0, (.agg [(ai a0_0), (ai a0_1), (ai a0_2), (ai a0_3), (.tree T5 a0_4)])), (1, (.agg [(ai a1_0), (ai a1_1), (ai a1_2), (ai a1_3), (.tree T5 a1_4)]))]) rfl ?_
 unfold m_laws_eqProgram
 unfold L_laws_eqProgram at h
 refine seqR ?_
 refine awp_seqv_ ?_
 refine seqR ?_
 rcases cond_some h with ⟨q4, h⟩ | ⟨q4, h⟩
 ·refine awp_condT_ q4 ?_
  refine seqR ?_
  refine awp_ret_ (tr_ ?_)
  obtain rfl := zj h
  exact ret_ [(.bool false)] (p_one rfl zl p_nil)
 refine awp_condF_ q4 ?_
 refine awp_skip_ (tn_ ?_)
 refine wr_ ?_
 refine awp_seqv_ ?_
 refine seqR ?_
 rcases cond_some h with ⟨q8, h⟩ | ⟨q8, h⟩
 ·refine awp_condT_ q8 ?_
  refine seqR ?_
  refine awp_ret_ (tr_ ?_)
  obtain rfl := zj h
  exact ret_ [(.bool false)] (p_one rfl zl p_nil)
 refine awp_condF_ q8 ?_
 refine awp_skip_ (tn_ ?_)
 refine wr_ ?_
 refine awp_seqv_ ?_
 refine seqR ?_
 rcases cond_some h with ⟨q12, h⟩ | ⟨q12, h⟩
 ·refine awp_condT_ q12 ?_
  refine seqR ?_
  refine awp_ret_ (tr_ ?_)
  obtain rfl := zj h
  exact ret_ [(.bool false)] (p_one rfl zl p_nil)
 refine awp_condF_ q12 ?_
 refine awp_skip_ (tn_ ?_)
 refine wr_ ?_
 refine awp_seqv_ ?_
 refine seqR ?_
 rcases cond_some h with ⟨q16, h⟩ | ⟨q16, h⟩
 ·refine awp_condT_ q16 ?_
  refine seqR ?_
  refine awp_ret_ (tr_ ?_)
  obtain rfl := zj h
  exact ret_ [(.bool false)] (p_one rfl zl p_nil)
 refine awp_condF_ q16 ?_
 refine awp_skip_ (tn_ ?_)
 refine wr_ ?_
 refine awp_seqv_ ?_
 refine awp_seqv_ ?_
 obtain ⟨y20, h20, h⟩ := ob_some h
 refine awp_region_ 30 ?_
 refine rz0 (.box (oi 2 1) 4) ?_
 refine rzl (.tree T5 a0_4) ?_
 refine rz0 (.box (oi 3 2) 4) ?_
 refine rzl (.tree T5 a1_4) ?_
 refine zc (.bool y20) [] [(.tree T5 a0_4), (.tree T5 a1_4)] (ok_laws_eqInstrS h20) ?_
 refine rsB 1 ?_
 refine rnil (tn_ ?_)
 refine wr_ ?_
 rcases cond_some h with ⟨q21, h⟩ | ⟨q21, h⟩
 ·refine awp_condT_ q21 ?_
  refine seqR ?_
  refine awp_ret_ (tr_ ?_)
  obtain rfl := zj h
  exact ret_ [(.bool false)] (p_one rfl zl p_nil)
 refine awp_condF_ q21 ?_
 refine awp_skip_ (tn_ ?_)
 refine wr_ ?_
 refine seqR ?_
 refine awp_ret_ ?_
 obtain rfl := zj h
 exact ret_ [(.bool true)] (p_one rfl zl p_nil)
def m_laws_markInstrS_l1 : AC :=
 (.seq (.seq (rg [xo 6 (qm (tm 5)), xo 7 (qm (tm 0)), xo 8 (.i (.len (tm 7))), xo 9 (qb .lss (tm 6) (tm 8))])
 (.cond (tm 9)
  .skip
  (.exit 0)))
 (.seq (.block 1 (.seq (rg [xo 12 (qm (tm 0)), xo 13 (qm (tm 5)), xo 14 (qm (tm 1)), xo 15 (qx 5 (tm 12) (tm 13)), xo 16 (qf 0 (tm 15)), xn (qs (tm 16) (tm 14))])
 (.seq (rg [xo 17 (qm (tm 1)), xo 18 (qb .add (tm 17) (ci 1)), xo 1 (qm (tm 18))])
 (.seq (rg [xo 19 (qm (tm 0)), xo 20 (qm (tm 5)), xo 21 (qm (tm 1)), xo 22 (qx 5 (tm 19) (tm 20)), xo 23 (qf 1 (tm 22)), xn (qs (tm 23) (tm 21))])
 (.seq (rg [xo 24 (qm (tm 1)), xo 25 (qb .add (tm 24) (ci 1)), xo 1 (qm (tm 25))])
 (.seq (rg [xo 26 (qm (tm 0)), xo 27 (qm (tm 5)), xo 28 (qm (tm 1)), xo 29 (qx 5 (tm 26) (tm 27)), xo 30 (qf 2 (tm 29)), xn (qs (tm 30) (tm 28))])
 (.seq (rg [xo 31 (qm (tm 1)), xo 32 (qb .add (tm 31) (ci 1)), xo 1 (qm (tm 32))])
 (.seq (rg [xo 33 (qm (tm 0)), xo 34 (qm (tm 5)), xo 35 (qm (tm 1)), xo 36 (qx 5 (tm 33) (tm 34)), xo 37 (qf 3 (tm 36)), xn (qs (tm 37) (tm 35))])
 (.seq (rg [xo 38 (qm (tm 1)), xo 39 (qb .add (tm 38) (ci 1)), xo 1 (qm (tm 39))])
 (.seq (rg [xo 40 (qm (tm 0)), xo 41 (qm (tm 5)), xo 42 (qm (tm 1)), xo 43 (qx 5 (tm 40) (tm 41)), xo 44 (qf 4 (tm 43)), xn (qs (tm 44) (tm 42))])
 (rg [xo 45 (qm (tm 1)), xo 46 (qb .add (tm 45) (ci 1)), xo 1 (qm (tm 46))])))))))))))
 (rg [xo 10 (qm (tm 5)), xo 11 (qb .add (tm 10) (ci 1)), xo 5 (qm (tm 11))])))
def m_laws_markInstrS : AC :=
 (.seq (rg [xo 4 (qm (ci 0))])
 (.seq (.seq (rg [xo 5 (qm (ci 0))])
 (.block 0 (.loop m_laws_markInstrS_l1)))
 (.seq (rg [xo 47 (qm (tm 1)), xo 4 (qm (tm 47))])
 .ret)))
def r_laws_markInstrS : List Res := [.tmp 4]
theorem c_laws_markInstrS : compiled Tryd.prog Tryd.f27 = some (m_laws_markInstrS, r_laws_markInstrS) := by kernel_rfl
theorem hb_laws_markInstrS : hasBody Tryd.prog 27 = true := by kernel_rfl
def L_laws_markInstrS_l1  (l5_m1 : Int) (l5_m5 : Nat) (l5_m0 : List (Int × Int × Int × Int × Int)) : Option (Ctl (Int × Nat × (List (Int × Int × Int × Int × Int))) (Int × (List (Int × Int × Int × Int × Int)))) :=
 cond (decide (((l5_m5 : Nat) : Int) < ((l5_m0.length : Nat) : Int)))
 (Option.bind (l5_m0[l5_m5]?) fun x11 =>
 Option.bind ((l5_m0.set l5_m5 (l5_m1, x11.2))[l5_m5]?) fun x14 =>
 Option.bind (((l5_m0.set l5_m5 (l5_m1, x11.2)).set l5_m5 (x14.1, IntKind.i64.wrap (l5_m1 + 1), x14.2.2))[l5_m5]?) fun x17 =>
 Option.bind ((((l5_m0.set l5_m5 (l5_m1, x11.2)).set l5_m5 (x14.1, IntKind.i64.wrap (l5_m1 + 1), x14.2.2)).set l5_m5 (x17.1, x17.2.1, IntKind.i64.wrap (IntKind.i64.wrap (l5_m1 + 1) + 1), x17.2.2.2))[l5_m5]?) fun x20 =>
 Option.bind (((((l5_m0.set l5_m5 (l5_m1, x11.2)).set l5_m5 (x14.1, IntKind.i64.wrap (l5_m1 + 1), x14.2.2)).set l5_m5 (x17.1, x17.2.1, IntKind.i64.wrap (IntKind.i64.wrap (l5_m1 + 1) + 1), x17.2.2.2)).set l5_m5 (x20.1, x20.2.1, x20.2.2.1, IntKind.i64.wrap (IntKind.i64.wrap (IntKind.i64.wrap (l5_m1 + 1) + 1) + 1), x20.2.2.2.2))[l5_m5]?) fun x23 =>
 og (l5_m5 + 1 < 4611686018427387904) <|
 some (Ctl.next (IntKind.i64.wrap (IntKind.i64.wrap (IntKind.i64.wrap (IntKind.i64.wrap (IntKind.i64.wrap (l5_m1 + 1) + 1) + 1) + 1) + 1), l5_m5 + 1, ((((l5_m0.set l5_m5 (l5_m1, x11.2)).set l5_m5 (x14.1, IntKind.i64.wrap (l5_m1 + 1), x14.2.2)).set l5_m5 (x17.1, x17.2.1, IntKind.i64.wrap (IntKind.i64.wrap (l5_m1 + 1) + 1), x17.2.2.2)).set l5_m5 (x20.1, x20.2.1, x20.2.2.1, IntKind.i64.wrap (IntKind.i64.wrap (IntKind.i64.wrap (l5_m1 + 1) + 1) + 1), x20.2.2.2.2)).set l5_m5 (x23.1, x23.2.1, x23.2.2.1, x23.2.2.2.1, IntKind.i64.wrap (IntKind.i64.wrap (IntKind.i64.wrap (IntKind.i64.wrap (l5_m1 + 1) + 1) + 1) + 1)))))
 (some (Ctl.out (l5_m1, l5_m0)))
def L_laws_markInstrS (a0 : List (Int × Int × Int × Int × Int)) (a1 : Int) : Option ((List (Int × Int × Int × Int × Int)) × Int) :=
 Option.bind (loopM (fun s_ : Int × Nat × (List (Int × Int × Int × Int × Int)) => L_laws_markInstrS_l1 s_.1 s_.2.1 s_.2.2) 4611686018427387904 (a1, 0, a0)) fun (l3_m1, l3_p0) =>
some (l3_p0, l3_m1)
theorem ok_laws_markInstrS {a0 : List (Int × Int × Int × Int × Int)} {a1 : Int} {r : (List (Int × Int × Int × Int × Int)) × Int} (h : L_laws_markInstrS a0 a1 = some r) {n_a0 : Nat} (hn_a0 : n_a0 = a0.length) : CallM Tryd.prog Tab 27 [(.own (oi 0 0) T5 0 n_a0), (ai a1)] [((oi 0 0), .arr 67 T5 a0)] (ai r.2) [((oi 0 0), .arr 67 T5 r.1)] := by
 refine callM_of_ (by kernel_rfl) Tryd.func27 c_laws_markInstrS (n := 48) (by kernel_rfl) (by simp) (tl := [(0, (.own (oi 0 0) T5 0 n_a0)), (1, (ai a1))]) rfl (by kernel_rfl) ⟨trivial, trivial⟩ ⟨trivial, trivial⟩ ?_
 unfold m_laws_markInstrS
 unfold L_laws_markInstrS at h
 refine seqR ?_
 refine awp_seqB h (fun t_ S_ => ∃ (l3_m1 : Int), ∃ (l3_p0 : List (Int × Int × Int × Int × Int)), t_ = (l3_m1, l3_p0) ∧ S_ = ⟨mkTm [(1, (ai l3_m1))], mkOb (someL [((oi 0 0), .arr 67 T5 l3_p0)]), 2⟩) ?_ ?_
 ·intro v_ h
  refine seqR ?_
  refine awp_block_ ?_
  refine awp_loopL h (fun t_ S_ => ∃ (l5_m1 : Int), ∃ (l5_m5 : Nat), ∃ (l5_m0 : List (Int × Int × Int × Int × Int)), t_ = (l5_m1, l5_m5, l5_m0) ∧ S_ = ⟨mkTm [(0, (.own (oi 0 0) T5 0 l5_m0.length)), (1, (ai l5_m1)), (5, (ai ((l5_m5 : Nat) : Int)))], mkOb (someL [((oi 0 0), .arr 67 T5 l5_m0)]), 2⟩) ⟨_, ((weak_tm_ 0 (.own (oi 0 0) T5 0 n_a0) (.own (oi 0 0) T5 0 a0.length) (by kernel_rfl) (congrArg (fun z_ => ((.own (oi 0 0) T5 0 z_) : AV)) (hn_a0 : n_a0 = a0.length))).trans (weak_ren [])), ⟨a1, 0, a0, rfl, rfl⟩⟩ ?_
  rintro n_ _ _ c_ ⟨l5_m1, l5_m5, l5_m0, rfl, rfl⟩ h hn5
  (try dsimp only at h)
  unfold L_laws_markInstrS_l1 at h
  unfold m_laws_markInstrS_l1
  refine awp_seqv_ ?_
  refine seqR ?_
  rcases cond_some h with ⟨q8, h⟩ | ⟨q8, h⟩
  ·have q8_ := of_decide_eq_true q8
   refine awp_condT_ q8 ?_
   refine awp_skip_ (tn_ ?_)
   refine wr_ ?_
   refine awp_seqv_ ?_
   refine awp_block_ ?_
   refine awp_seqv_ ?_
   obtain ⟨x11, e11, h⟩ := ob_some h
   refine awp_region_ 12 ?_
   refine rz0 (.own (oi 0 0) T5 0 l5_m0.length) ?_
   refine rz0 (ai ((l5_m5 : Nat) : Int)) ?_
   refine rz0 (ai l5_m1) ?_
   refine rs0 (.elt (oi 0 0) l5_m5 0) (zo (t := T5) (o := (oi 0 0)) (len := l5_m0.length) (k := .i64) (m := ((l5_m5 : Nat) : Int)) (nat_nn _) (getN_lt e11)) ?_
   refine rz0 (.elt (oi 0 0) l5_m5 0) ?_
   refine rsn2 (oi 0 0) (oi 0 0) (.arr 67 T5 (l5_m0.set l5_m5 (l5_m1, x11.2))) (s_stE (i := (oi 0 0)) (j := l5_m5) (k := 0) (e := 67) (t := T5) (xs := l5_m0) (cs := [(ai l5_m1), (ai x11.2.1), (ai x11.2.2.1), (ai x11.2.2.2.1), (ai x11.2.2.2.2)]) (x1 := (l5_m1, x11.2)) (by kernel_rfl) (by kernel_rfl) e11 (by kernel_rfl) (by kernel_rfl)) ?_
   refine rnil (tn_ ?_)
   refine wr_ ?_
   refine seqR ?_
   refine awp_seqv_ ?_
   obtain ⟨x14, e14, h⟩ := ob_some h
   refine awp_region_ 21 ?_
   refine rz0 (.own (oi 0 0) T5 0 l5_m0.length) ?_
   refine rz0 (ai ((l5_m5 : Nat) : Int)) ?_
   refine rz0 (ai (IntKind.i64.wrap (l5_m1 + 1))) ?_
   refine rs0 (.elt (oi 0 0) l5_m5 0) (zo (t := T5) (o := (oi 0 0)) (len := l5_m0.length) (k := .i64) (m := ((l5_m5 : Nat) : Int)) (nat_nn _) (Nat.lt_of_lt_of_le (getN_lt e14) (Nat.le_of_eq (Eq.symm ((rfl : l5_m0.length = l5_m0.length).trans List.length_set.symm))))) ?_
   refine rz0 (.elt (oi 0 0) l5_m5 1) ?_
   refine rsn2 (oi 0 0) (oi 0 0) (.arr 67 T5 ((l5_m0.set l5_m5 (l5_m1, x11.2)).set l5_m5 (x14.1, IntKind.i64.wrap (l5_m1 + 1), x14.2.2))) (s_stE (i := (oi 0 0)) (j := l5_m5) (k := 1) (e := 67) (t := T5) (xs := l5_m0.set l5_m5 (l5_m1, x11.2)) (cs := [(ai x14.1), (ai (IntKind.i64.wrap (l5_m1 + 1))), (ai x14.2.2.1), (ai x14.2.2.2.1), (ai x14.2.2.2.2)]) (x1 := (x14.1, IntKind.i64.wrap (l5_m1 + 1), x14.2.2)) (by kernel_rfl) (by kernel_rfl) e14 (by kernel_rfl) (by kernel_rfl)) ?_
   refine rnil (tn_ ?_)
   refine wr_ ?_
   refine seqR ?_
   refine awp_seqv_ ?_
   obtain ⟨x17, e17, h⟩ := ob_some h
   refine awp_region_ 30 ?_
   refine rz0 (.own (oi 0 0) T5 0 l5_m0.length) ?_
   refine rz0 (ai ((l5_m5 : Nat) : Int)) ?_
   refine rz0 (ai (IntKind.i64.wrap (IntKind.i64.wrap (l5_m1 + 1) + 1))) ?_
   refine rs0 (.elt (oi 0 0) l5_m5 0) (zo (t := T5) (o := (oi 0 0)) (len := l5_m0.length) (k := .i64) (m := ((l5_m5 : Nat) : Int)) (nat_nn _) (Nat.lt_of_lt_of_le (getN_lt e17) (Nat.le_of_eq (Eq.symm (((rfl : l5_m0.length = l5_m0.length).trans List.length_set.symm).trans List.length_set.symm))))) ?_
   refine rz0 (.elt (oi 0 0) l5_m5 2) ?_
   refine rsn2 (oi 0 0) (oi 0 0) (.arr 67 T5 (((l5_m0.set l5_m5 (l5_m1, x11.2)).set l5_m5 (x14.1, IntKind.i64.wrap (l5_m1 + 1), x14.2.2)).set l5_m5 (x17.1, x17.2.1, IntKind.i64.wrap (IntKind.i64.wrap (l5_m1 + 1) + 1), x17.2.2.2))) (s_stE (i := (oi 0 0)) (j := l5_m5) (k := 2) (e := 67) (t := T5) (xs := (l5_m0.set l5_m5 (l5_m1, x11.2)).set l5_m5 (x14.1, IntKind.i64.wrap (l5_m1 + 1), x14.2.2)) (cs := [(ai x17.1), (ai x17.2.1), (ai (IntKind.i64.wrap (IntKind.i64.wrap (l5_m1 + 1) + 1))), (ai x17.2.2.2.1), (ai x17.2.2.2.2)]) (x1 := (x17.1, x17.2.1, IntKind.i64.wrap (IntKind.i64.wrap (l5_m1 + 1) + 1), x17.2.2.2)) (by kernel_rfl) (by kernel_rfl) e17 (by kernel_rfl) (by kernel_rfl)) ?_
   refine rnil (tn_ ?_)
   refine wr_ ?_
   refine seqR ?_
   refine awp_seqv_ ?_
   obtain ⟨x20, e20, h⟩ := ob_some h
   refine awp_region_ 39 ?_
   refine rz0 (.own (oi 0 0) T5 0 l5_m0.length) ?_
   refine rz0 (ai ((l5_m5 : Nat) : Int)) ?_
   refine rz0 (ai (IntKind.i64.wrap (IntKind.i64.wrap (IntKind.i64.wrap (l5_m1 + 1) + 1) + 1))) ?_
   refine rs0 (.elt (oi 0 0) l5_m5 0) (zo (t := T5) (o := (oi 0 0)) (len := l5_m0.length) (k := .i64) (m := ((l5_m5 : Nat) : Int)) (nat_nn _) (Nat.lt_of_lt_of_le (getN_lt e20) (Nat.le_of_eq (Eq.symm ((((rfl : l5_m0.length = l5_m0.length).trans List.length_set.symm).trans List.length_set.symm).trans List.length_set.symm))))) ?_
   refine rz0 (.elt (oi 0 0) l5_m5 3) ?_
   refine rsn2 (oi 0 0) (oi 0 0) (.arr 67 T5 ((((l5_m0.set l5_m5 (l5_m1, x11.2)).set l5_m5 (x14.1, IntKind.i64.wrap (l5_m1 + 1), x14.2.2)).set l5_m5 (x17.1, x17.2.1, IntKind.i64.wrap (IntKind.i64.wrap (l5_m1 + 1) + 1), x17.2.2.2)).set l5_m5 (x20.1, x20.2.1, x20.2.2.1, IntKind.i64.wrap (IntKind.i64.wrap (IntKind.i64.wrap (l5_m1 + 1) + 1) + 1), x20.2.2.2.2))) (s_stE (i := (oi 0 0)) (j := l5_m5) (k := 3) (e := 67) (t := T5) (xs := ((l5_m0.set l5_m5 (l5_m1, x11.2)).set l5_m5 (x14.1, IntKind.i64.wrap (l5_m1 + 1), x14.2.2)).set l5_m5 (x17.1, x17.2.1, IntKind.i64.wrap (IntKind.i64.wrap (l5_m1 + 1) + 1), x17.2.2.2)) (cs := [(ai x20.1), (ai x20.2.1), (ai x20.2.2.1), (ai (IntKind.i64.wrap (IntKind.i64.wrap (IntKind.i64.wrap (l5_m1 + 1) + 1) + 1))), (ai x20.2.2.2.2)]) (x1 := (x20.1, x20.2.1, x20.2.2.1, IntKind.i64.wrap (IntKind.i64.wrap (IntKind.i64.wrap (l5_m1 + 1) + 1) + 1), x20.2.2.2.2)) (by kernel_rfl) (by kernel_rfl) e20 (by kernel_rfl) (by kernel_rfl)) ?_
   refine rnil (tn_ ?_)
   refine wr_ ?_
   refine seqR ?_
   refine awp_seqv_ ?_
   obtain ⟨x23, e23, h⟩ := ob_some h
   refine awp_region_ 48 ?_
   refine rz0 (.own (oi 0 0) T5 0 l5_m0.length) ?_
   refine rz0 (ai ((l5_m5 : Nat) : Int)) ?_
   refine rz0 (ai (IntKind.i64.wrap (IntKind.i64.wrap (IntKind.i64.wrap (IntKind.i64.wrap (l5_m1 + 1) + 1) + 1) + 1))) ?_
   refine rs0 (.elt (oi 0 0) l5_m5 0) (zo (t := T5) (o := (oi 0 0)) (len := l5_m0.length) (k := .i64) (m := ((l5_m5 : Nat) : Int)) (nat_nn _) (Nat.lt_of_lt_of_le (getN_lt e23) (Nat.le_of_eq (Eq.symm (((((rfl : l5_m0.length = l5_m0.length).trans List.length_set.symm).trans List.length_set.symm).trans List.length_set.symm).trans List.length_set.symm))))) ?_
   refine rz0 (.elt (oi 0 0) l5_m5 4) ?_
   refine rsn2 (oi 0 0) (oi 0 0) (.arr 67 T5 (((((l5_m0.set l5_m5 (l5_m1, x11.2)).set l5_m5 (x14.1, IntKind.i64.wrap (l5_m1 + 1), x14.2.2)).set l5_m5 (x17.1, x17.2.1, IntKind.i64.wrap (IntKind.i64.wrap (l5_m1 + 1) + 1), x17.2.2.2)).set l5_m5 (x20.1, x20.2.1, x20.2.2.1, IntKind.i64.wrap (IntKind.i64.wrap (IntKind.i64.wrap (l5_m1 + 1) + 1) + 1), x20.2.2.2.2)).set l5_m5 (x23.1, x23.2.1, x23.2.2.1, x23.2.2.2.1, IntKind.i64.wrap (IntKind.i64.wrap (IntKind.i64.wrap (IntKind.i64.wrap (l5_m1 + 1) + 1) + 1) + 1)))) (s_stE (i := (oi 0 0)) (j := l5_m5) (k := 4) (e := 67) (t := T5) (xs := (((l5_m0.set l5_m5 (l5_m1, x11.2)).set l5_m5 (x14.1, IntKind.i64.wrap (l5_m1 + 1), x14.2.2)).set l5_m5 (x17.1, x17.2.1, IntKind.i64.wrap (IntKind.i64.wrap (l5_m1 + 1) + 1), x17.2.2.2)).set l5_m5 (x20.1, x20.2.1, x20.2.2.1, IntKind.i64.wrap (IntKind.i64.wrap (IntKind.i64.wrap (l5_m1 + 1) + 1) + 1), x20.2.2.2.2)) (cs := [(ai x23.1), (ai x23.2.1), (ai x23.2.2.1), (ai x23.2.2.2.1), (ai (IntKind.i64.wrap (IntKind.i64.wrap (IntKind.i64.wrap (IntKind.i64.wrap (l5_m1 + 1) + 1) + 1) + 1)))]) (x1 := (x23.1, x23.2.1, x23.2.2.1, x23.2.2.2.1, IntKind.i64.wrap (IntKind.i64.wrap (IntKind.i64.wrap (IntKind.i64.wrap (l5_m1 + 1) + 1) + 1) + 1))) (by kernel_rfl) (by kernel_rfl) e23 (by kernel_rfl) (by kernel_rfl)) ?_
   refine rnil (tn_ ?_)
   refine wr_ ?_
   refine awp_region_ 51 ?_
   refine rsB 3 ?_
   refine rnil (bn_ (tn_ ?_))
   refine wr_ ?_
   obtain ⟨g24, h⟩ := og_some h
   refine awp_region_ 54 ?_
   refine rz0 (ai ((l5_m5 : Nat) : Int)) ?_
   refine rs0 (ai ((l5_m5 + 1 : Nat) : Int)) (za g24) ?_
   refine rsB 1 ?_
   refine rnil (tn_ ?_)
   obtain rfl := zj h
   exact ⟨(IntKind.i64.wrap (IntKind.i64.wrap (IntKind.i64.wrap (IntKind.i64.wrap (IntKind.i64.wrap (l5_m1 + 1) + 1) + 1) + 1) + 1), l5_m5 + 1, ((((l5_m0.set l5_m5 (l5_m1, x11.2)).set l5_m5 (x14.1, IntKind.i64.wrap (l5_m1 + 1), x14.2.2)).set l5_m5 (x17.1, x17.2.1, IntKind.i64.wrap (IntKind.i64.wrap (l5_m1 + 1) + 1), x17.2.2.2)).set l5_m5 (x20.1, x20.2.1, x20.2.2.1, IntKind.i64.wrap (IntKind.i64.wrap (IntKind.i64.wrap (l5_m1 + 1) + 1) + 1), x20.2.2.2.2)).set l5_m5 (x23.1, x23.2.1, x23.2.2.1, x23.2.2.2.1, IntKind.i64.wrap (IntKind.i64.wrap (IntKind.i64.wrap (IntKind.i64.wrap (l5_m1 + 1) + 1) + 1) + 1))), _, ((weak_tm_ 0 (.own (oi 0 0) T5 0 l5_m0.length) (.own (oi 0 0) T5 0 ((((((l5_m0.set l5_m5 (l5_m1, x11.2)).set l5_m5 (x14.1, IntKind.i64.wrap (l5_m1 + 1), x14.2.2)).set l5_m5 (x17.1, x17.2.1, IntKind.i64.wrap (IntKind.i64.wrap (l5_m1 + 1) + 1), x17.2.2.2)).set l5_m5 (x20.1, x20.2.1, x20.2.2.1, IntKind.i64.wrap (IntKind.i64.wrap (IntKind.i64.wrap (l5_m1 + 1) + 1) + 1), x20.2.2.2.2)).set l5_m5 (x23.1, x23.2.1, x23.2.2.1, x23.2.2.2.1, IntKind.i64.wrap (IntKind.i64.wrap (IntKind.i64.wrap (IntKind.i64.wrap (l5_m1 + 1) + 1) + 1) + 1))).length)) (by kernel_rfl) (congrArg (fun z_ => ((.own (oi 0 0) T5 0 z_) : AV)) (((((((rfl : l5_m0.length = l5_m0.length).trans List.length_set.symm).trans List.length_set.symm).trans List.length_set.symm).trans List.length_set.symm).trans List.length_set.symm) : l5_m0.length = (((((l5_m0.set l5_m5 (l5_m1, x11.2)).set l5_m5 (x14.1, IntKind.i64.wrap (l5_m1 + 1), x14.2.2)).set l5_m5 (x17.1, x17.2.1, IntKind.i64.wrap (IntKind.i64.wrap (l5_m1 + 1) + 1), x17.2.2.2)).set l5_m5 (x20.1, x20.2.1, x20.2.2.1, IntKind.i64.wrap (IntKind.i64.wrap (IntKind.i64.wrap (l5_m1 + 1) + 1) + 1), x20.2.2.2.2)).set l5_m5 (x23.1, x23.2.1, x23.2.2.1, x23.2.2.2.1, IntKind.i64.wrap (IntKind.i64.wrap (IntKind.i64.wrap (IntKind.i64.wrap (l5_m1 + 1) + 1) + 1) + 1))).length))).trans (weak_ren [])), ⟨IntKind.i64.wrap (IntKind.i64.wrap (IntKind.i64.wrap (IntKind.i64.wrap (IntKind.i64.wrap (l5_m1 + 1) + 1) + 1) + 1) + 1), l5_m5 + 1, ((((l5_m0.set l5_m5 (l5_m1, x11.2)).set l5_m5 (x14.1, IntKind.i64.wrap (l5_m1 + 1), x14.2.2)).set l5_m5 (x17.1, x17.2.1, IntKind.i64.wrap (IntKind.i64.wrap (l5_m1 + 1) + 1), x17.2.2.2)).set l5_m5 (x20.1, x20.2.1, x20.2.2.1, IntKind.i64.wrap (IntKind.i64.wrap (IntKind.i64.wrap (l5_m1 + 1) + 1) + 1), x20.2.2.2.2)).set l5_m5 (x23.1, x23.2.1, x23.2.2.1, x23.2.2.2.1, IntKind.i64.wrap (IntKind.i64.wrap (IntKind.i64.wrap (IntKind.i64.wrap (l5_m1 + 1) + 1) + 1) + 1)), rfl, rfl⟩, hn5⟩
  have q8_ := of_decide_eq_false q8
  refine awp_condF_ q8 ?_
  refine awp_exit_ (te_ (te_ (be_ (tn_ ?_))))
  obtain rfl := zj h
  have h := hn5
  (try dsimp only at h)
  obtain rfl := zj h
  exact ⟨_, (weak_ren []), ⟨l5_m1, l5_m0, rfl, rfl⟩⟩
 rintro _ _ ⟨l3_m1, l3_p0, rfl, rfl⟩ h
 (try dsimp only at h)
 refine seqR ?_
 refine awp_ret_ ?_
 obtain rfl := zj h
 exact retM_ [(ai l3_m1)] (weak_ren (tl := [(4, (ai l3_m1))]) (g := 2) [])
def m_laws_markProgram : AC :=
 (.seq (rg [xo 2 (.i (.box 29 (tm 0))), xo 4 (qm (ci 0))])
 (.seq (rg [xo 5 (qf 4 (tm 2)), xo 6 (ql (tm 5)), xo 7 (qm (tm 1)), ⟨(some 8), none, (qc 27 [(tm 6), (tm 7)] [[(some T5)], []])⟩, xo 1 (qm (tm 8))])
 (.seq (rg [xo 9 (qm (tm 1)), xo 4 (qm (tm 9))])
 .ret)))
def r_laws_markProgram : List Res := [.tmp 4]
theorem c_laws_markProgram : compiled Tryd.prog Tryd.f11 = some (m_laws_markProgram, r_laws_markProgram) := by kernel_rfl
theorem hb_laws_markProgram : hasBody Tryd.prog 11 = true := by kernel_rfl
def L_laws_markProgram (a0_0 : Int) (a0_1 : Int) (a0_2 : Int) (a0_3 : Int) (a0_4 : List (Int × Int × Int × Int × Int)) (a1 : Int) : Option ((List (Int × Int × Int × Int × Int)) × Int) :=
 Option.bind (L_laws_markInstrS a0_4 a1) fun y4 =>
og (y4.1.length = (a0_4.length)) <|
some (y4.1, y4.2)
theorem ok_laws_markProgram {a0_0 : Int} {a0_1 : Int} {a0_2 : Int} {a0_3 : Int} {a0_4 : List (Int × Int × Int × Int × Int)} {a1 : Int} {r : (List (Int × Int × Int × Int × Int)) × Int} (h : L_laws_markProgram a0_0 a0_1 a0_2 a0_3 a0_4 a1 = some r) {n_a0_4 : Nat} (hn_a0_4 : n_a0_4 = a0_4.length) : CallM Tryd.prog Tab 11 [(.agg [(ai a0_0), (ai a0_1), (ai a0_2), (ai a0_3), (.own (oi 0 0) T5 0 n_a0_4)]), (ai a1)] [((oi 0 0), .arr 67 T5 a0_4)] (ai r.2) [((oi 0 0), .arr 67 T5 r.1)] := by
 refine callM_of_ (by kernel_rfl) Tryd.func11 c_laws_markProgram (n := 10) (by kernel_rfl) (by simp) (tl := [(0, (.agg [(ai a0_0), (ai a0_1), (ai a0_2), (ai a0_3), (.own (oi 0 0) T5 0 n_a0_4)])), (1, (ai a1))]) rfl (by kernel_rfl) ⟨trivial, trivial⟩ ⟨trivial, trivial⟩ ?_
 unfold m_laws_markProgram
 unfold L_laws_markProgram at h
 (try rw [← hn_a0_4] at h)
 refine seqR ?_
 refine awp_seqv_ ?_
 obtain ⟨y4, h4, h⟩ := ob_some h
 obtain ⟨g5, h⟩ := og_some h
 refine awp_region_ 8 ?_
 refine rz0 (.box (oi 2 1) 4) ?_
 refine rzl (.own (oi 0 0) T5 0 n_a0_4) ?_
 refine rz0 (ai a1) ?_
 refine rcallM (ai y4.2) [((oi 0 0), some (.arr 67 T5 y4.1)), ((oi 0 0), none)] [] [(.own (oi 0 0) T5 0 n_a0_4), (ai a1)] (caps := []) trivial (ok_laws_markInstrS h4 hn_a0_4) hb_laws_markInstrS ⟨(by kernel_rfl), trivial⟩ (.cons (.ren (by kernel_rfl)) (.cons (.ren (by kernel_rfl)) .nil)) (reachL_mem (by kernel_rfl) (by kernel_rfl) ⟨(re_arg (by kernel_rfl)), trivial⟩) ?_
 refine rsB 1 ?_
 refine rnil (tn_ ?_)
 refine wr_ ?_
 refine seqR ?_
 refine awp_ret_ ?_
 obtain rfl := zj h
 exact retM_ [(ai y4.2)] (weak_ren (tl := [(4, (ai y4.2))]) (g := 2) [])
def m_laws_heldInstrS_l1 : AC :=
 (.seq (.seq (rg [xo 6 (qm (tm 5)), xo 7 (qm (tm 0)), xo 8 (.i (.len (tm 7))), xo 9 (qb .lss (tm 6) (tm 8))])
 (.cond (tm 9)
  .skip
  (.exit 0)))
 (.seq (.block 1 (.seq (.seq (rg [xo 12 (qm (tm 0)), xo 13 (qm (tm 5)), xo 14 (qx 5 (tm 12) (tm 13)), xo 15 (qf 0 (tm 14)), xo 16 (ql (tm 15)), xo 17 (qm (tm 1)), xo 18 (qb .neq (tm 16) (tm 17))])
 (.cond (tm 18)
  (.seq (rg [xo 4 (qm (ci (-1)))])
  .ret)
  .skip))
 (.seq (rg [xo 19 (qm (tm 1)), xo 20 (qb .add (tm 19) (ci 1)), xo 1 (qm (tm 20))])
 (.seq (.seq (rg [xo 21 (qm (tm 0)), xo 22 (qm (tm 5)), xo 23 (qx 5 (tm 21) (tm 22)), xo 24 (qf 1 (tm 23)), xo 25 (ql (tm 24)), xo 26 (qm (tm 1)), xo 27 (qb .neq (tm 25) (tm 26))])
 (.cond (tm 27)
  (.seq (rg [xo 4 (qm (ci (-1)))])
  .ret)
  .skip))
 (.seq (rg [xo 28 (qm (tm 1)), xo 29 (qb .add (tm 28) (ci 1)), xo 1 (qm (tm 29))])
 (.seq (.seq (rg [xo 30 (qm (tm 0)), xo 31 (qm (tm 5)), xo 32 (qx 5 (tm 30) (tm 31)), xo 33 (qf 2 (tm 32)), xo 34 (ql (tm 33)), xo 35 (qm (tm 1)), xo 36 (qb .neq (tm 34) (tm 35))])
 (.cond (tm 36)
  (.seq (rg [xo 4 (qm (ci (-1)))])
  .ret)
  .skip))
 (.seq (rg [xo 37 (qm (tm 1)), xo 38 (qb .add (tm 37) (ci 1)), xo 1 (qm (tm 38))])
 (.seq (.seq (rg [xo 39 (qm (tm 0)), xo 40 (qm (tm 5)), xo 41 (qx 5 (tm 39) (tm 40)), xo 42 (qf 3 (tm 41)), xo 43 (ql (tm 42)), xo 44 (qm (tm 1)), xo 45 (qb .neq (tm 43) (tm 44))])
 (.cond (tm 45)
  (.seq (rg [xo 4 (qm (ci (-1)))])
  .ret)
  .skip))
 (.seq (rg [xo 46 (qm (tm 1)), xo 47 (qb .add (tm 46) (ci 1)), xo 1 (qm (tm 47))])
 (.seq (.seq (rg [xo 48 (qm (tm 0)), xo 49 (qm (tm 5)), xo 50 (qx 5 (tm 48) (tm 49)), xo 51 (qf 4 (tm 50)), xo 52 (ql (tm 51)), xo 53 (qm (tm 1)), xo 54 (qb .neq (tm 52) (tm 53))])
 (.cond (tm 54)
  (.seq (rg [xo 4 (qm (ci (-1)))])
  .ret)
  .skip))
 (rg [xo 55 (qm (tm 1)), xo 56 (qb .add (tm 55) (ci 1)), xo 1 (qm (tm 56))])))))))))))
 (rg [xo 10 (qm (tm 5)), xo 11 (qb .add (tm 10) (ci 1)), xo 5 (qm (tm 11))])))
def m_laws_heldInstrS : AC :=
 (.seq (rg [xo 4 (qm (ci 0))])
 (.seq (.seq (rg [xo 5 (qm (ci 0))])
 (.block 0 (.loop m_laws_heldInstrS_l1)))
 (.seq (rg [xo 57 (qm (tm 1)), xo 4 (qm (tm 57))])
 .ret)))
def r_laws_heldInstrS : List Res := [.tmp 4]
theorem c_laws_heldInstrS : compiled Tryd.prog Tryd.f28 = some (m_laws_heldInstrS, r_laws_heldInstrS) := by kernel_rfl
def L_laws_heldInstrS_l1 (a0 : List (Int × Int × Int × Int × Int)) (l4_m1 : Int) (l4_m5 : Nat) : Option (Ctl (Int × Nat) (Ctl Int Int)) :=
 cond (decide (((l4_m5 : Nat) : Int) < ((a0.length : Nat) : Int)))
 (Option.bind (a0[l4_m5]?) fun x11 =>
 cond (x11.1 != l4_m1)
  (some (Ctl.out (Ctl.out (-1))))
  (cond (x11.2.1 != (IntKind.i64.wrap (l4_m1 + 1)))
   (some (Ctl.out (Ctl.out (-1))))
   (cond (x11.2.2.1 != (IntKind.i64.wrap (IntKind.i64.wrap (l4_m1 + 1) + 1)))
    (some (Ctl.out (Ctl.out (-1))))
    (cond (x11.2.2.2.1 != (IntKind.i64.wrap (IntKind.i64.wrap (IntKind.i64.wrap (l4_m1 + 1) + 1) + 1)))
     (some (Ctl.out (Ctl.out (-1))))
     (cond (x11.2.2.2.2 != (IntKind.i64.wrap (IntKind.i64.wrap (IntKind.i64.wrap (IntKind.i64.wrap (l4_m1 + 1) + 1) + 1) + 1)))
      (some (Ctl.out (Ctl.out (-1))))
      (og (l4_m5 + 1 < 4611686018427387904) <|
      some (Ctl.next (IntKind.i64.wrap (IntKind.i64.wrap (IntKind.i64.wrap (IntKind.i64.wrap (IntKind.i64.wrap (l4_m1 + 1) + 1) + 1) + 1) + 1), l4_m5 + 1))))))))
 (some (Ctl.out (Ctl.next l4_m1)))
def L_laws_heldInstrS (a0 : List (Int × Int × Int × Int × Int)) (a1 : Int) : Option Int :=
 seqC (loopM (fun s_ : Int × Nat => L_laws_heldInstrS_l1 a0 s_.1 s_.2) 4611686018427387904 (a1, 0)) fun l2_m1 =>
some l2_m1
def rv_laws_heldInstrS (r : Int) : RV := ⟨false, [(false, [.sc (.int .i64 r)])]⟩
theorem ok_laws_heldInstrS {a0 : List (Int × Int × Int × Int × Int)} {a1 : Int} {r : Int} (h : L_laws_heldInstrS a0 a1 = some r) : CallOK Tryd.prog Tab 28 [(.tree T5 a0), (ai a1)] (rv_laws_heldInstrS r) := by
 refine call_of_ (by kernel_rfl) Tryd.func28 c_laws_heldInstrS (n := 58) (by kernel_rfl) (by simp) (tl := [(0, (.tree T5 a0)), (1, (ai a1))]) rfl ?_
 unfold m_laws_heldInstrS
 unfold L_laws_heldInstrS at h
 refine seqR ?_
 refine awp_seqC h (fun (l2_m1 : Int) S_ => S_ = ⟨mkTm [(1, (ai l2_m1))], mkOb (someL []), 2⟩) ?_ ?_
 ·intro v_ h hk2
  refine seqR ?_
  refine awp_block_ ?_
  refine awp_loopL h (fun t_ S_ => ∃ (l4_m1 : Int), ∃ (l4_m5 : Nat), t_ = (l4_m1, l4_m5) ∧ S_ = ⟨mkTm [(0, (.tree T5 a0)), (1, (ai l4_m1)), (5, (ai ((l4_m5 : Nat) : Int)))], mkOb (someL []), 2⟩) ⟨_, (weak_ren []), ⟨a1, 0, rfl, rfl⟩⟩ ?_
  rintro n_ _ _ c_ ⟨l4_m1, l4_m5, rfl, rfl⟩ h hn4
  (try dsimp only at h)
  unfold L_laws_heldInstrS_l1 at h
  unfold m_laws_heldInstrS_l1
  refine awp_seqv_ ?_
  refine seqR ?_
  rcases cond_some h with ⟨q7, h⟩ | ⟨q7, h⟩
  ·have q7_ := of_decide_eq_true q7
   refine awp_condT_ q7 ?_
   refine awp_skip_ (tn_ ?_)
   refine wr_ ?_
   refine awp_seqv_ ?_
   refine awp_block_ ?_
   refine awp_seqv_ ?_
   refine awp_seqv_ ?_
   obtain ⟨x11, e11, h⟩ := ob_some h
   refine awp_region_ 13 ?_
   refine rz0 (.tree T5 a0) ?_
   refine rz0 (ai ((l4_m5 : Nat) : Int)) ?_
   refine rs0 (.telt T5 x11 0) (zi (t := T5) (xs := a0) (k := .i64) (m := ((l4_m5 : Nat) : Int)) (nat_nn _) e11) ?_
   refine rsB 4 ?_
   refine rnil (tn_ ?_)
   refine wr_ ?_
   rcases cond_some h with ⟨q12, h⟩ | ⟨q12, h⟩
   ·refine awp_condT_ q12 ?_
    refine seqR ?_
    refine awp_ret_ (tr_ (br_ (tr_ (tr_ (br_ (tr_ ?_))))))
    obtain rfl := zj h
    have h := hn4
    (try dsimp only at h)
    obtain rfl := zj h
    have h := hk2
    (try dsimp only at h)
    obtain rfl := zj h
    exact ret_ [(ai (-1))] (p_one rfl zl p_nil)
   refine awp_condF_ q12 ?_
   refine awp_skip_ (tn_ ?_)
   refine wr_ ?_
   refine seqR ?_
   refine awp_seqv_ ?_
   refine awp_seqv_ ?_
   refine awp_region_ 23 ?_
   refine rz0 (.tree T5 a0) ?_
   refine rz0 (ai ((l4_m5 : Nat) : Int)) ?_
   refine rs0 (.telt T5 x11 0) (zi (t := T5) (xs := a0) (k := .i64) (m := ((l4_m5 : Nat) : Int)) (nat_nn _) e11) ?_
   refine rsB 4 ?_
   refine rnil (tn_ ?_)
   refine wr_ ?_
   rcases cond_some h with ⟨q17, h⟩ | ⟨q17, h⟩
   ·refine awp_condT_ q17 ?_
    refine seqR ?_
    refine awp_ret_ (tr_ (br_ (tr_ (tr_ (br_ (tr_ ?_))))))
    obtain rfl := zj h
    have h := hn4
    (try dsimp only at h)
    obtain rfl := zj h
    have h := hk2
    (try dsimp only at h)
    obtain rfl := zj h
    exact ret_ [(ai (-1))] (p_one rfl zl p_nil)
   refine awp_condF_ q17 ?_
   refine awp_skip_ (tn_ ?_)
   refine wr_ ?_
   refine seqR ?_
   refine awp_seqv_ ?_
   refine awp_seqv_ ?_
   refine awp_region_ 33 ?_
   refine rz0 (.tree T5 a0) ?_
   refine rz0 (ai ((l4_m5 : Nat) : Int)) ?_
   refine rs0 (.telt T5 x11 0) (zi (t := T5) (xs := a0) (k := .i64) (m := ((l4_m5 : Nat) : Int)) (nat_nn _) e11) ?_
   refine rsB 4 ?_
   refine rnil (tn_ ?_)
   refine wr_ ?_
   rcases cond_some h with ⟨q22, h⟩ | ⟨q22, h⟩
   ·refine awp_condT_ q22 ?_
    refine seqR ?_
    refine awp_ret_ (tr_ (br_ (tr_ (tr_ (br_ (tr_ ?_))))))
    obtain rfl := zj h
    have h := hn4
    (try dsimp only at h)
    obtain rfl := zj h
    have h := hk2
    (try dsimp only at h)
    obtain rfl := zj h
    exact ret_ [(ai (-1))] (p_one rfl zl p_nil)
   refine awp_condF_ q22 ?_
   refine awp_skip_ (tn_ ?_)
   refine wr_ ?_
   refine seqR ?_
   refine awp_seqv_ ?_
   refine awp_seqv_ ?_
   refine awp_region_ 43 ?_
   refine rz0 (.tree T5 a0) ?_
   refine rz0 (ai ((l4_m5 : Nat) : Int)) ?_
   refine rs0 (.telt T5 x11 0) (zi (t := T5) (xs := a0) (k := .i64) (m := ((l4_m5 : Nat) : Int)) (nat_nn _) e11) ?_
   refine rsB 4 ?_
   refine rnil (tn_ ?_)
   refine wr_ ?_
   rcases cond_some h with ⟨q27, h⟩ | ⟨q27, h⟩
   ·refine awp_condT_ q27 ?_
    refine seqR ?_
    refine awp_ret_ (tr_ (br_ (tr_ (tr_ (br_ (tr_ ?_))))))
    obtain rfl := zj h
    have h := hn4
    (try dsimp only at h)
    obtain rfl := zj h
    have h := hk2
    (try dsimp only at h)
    obtain rfl := zj h
    exact ret_ [(ai (-1))] (p_one rfl zl p_nil)
   refine awp_condF_ q27 ?_
   refine awp_skip_ (tn_ ?_)
   refine wr_ ?_
   refine seqR ?_
   refine awp_seqv_ ?_
   refine awp_seqv_ ?_
   refine awp_region_ 53 ?_
   refine rz0 (.tree T5 a0) ?_
   refine rz0 (ai ((l4_m5 : Nat) : Int)) ?_
   refine rs0 (.telt T5 x11 0) (zi (t := T5) (xs := a0) (k := .i64) (m := ((l4_m5 : Nat) : Int)) (nat_nn _) e11) ?_
   refine rsB 4 ?_
   refine rnil (tn_ ?_)
   refine wr_ ?_
   rcases cond_some h with ⟨q32, h⟩ | ⟨q32, h⟩
   ·refine awp_condT_ q32 ?_
    refine seqR ?_
    refine awp_ret_ (tr_ (br_ (tr_ (tr_ (br_ (tr_ ?_))))))
    obtain rfl := zj h
    have h := hn4
    (try dsimp only at h)
    obtain rfl := zj h
    have h := hk2
    (try dsimp only at h)
    obtain rfl := zj h
    exact ret_ [(ai (-1))] (p_one rfl zl p_nil)
   refine awp_condF_ q32 ?_
   refine awp_skip_ (tn_ ?_)
   refine wr_ ?_
   refine awp_region_ 56 ?_
   refine rsB 3 ?_
   refine rnil (bn_ (tn_ ?_))
   refine wr_ ?_
   obtain ⟨g34, h⟩ := og_some h
   refine awp_region_ 59 ?_
   refine rz0 (ai ((l4_m5 : Nat) : Int)) ?_
   refine rs0 (ai ((l4_m5 + 1 : Nat) : Int)) (za g34) ?_
   refine rsB 1 ?_
   refine rnil (tn_ ?_)
   obtain rfl := zj h
   exact ⟨(IntKind.i64.wrap (IntKind.i64.wrap (IntKind.i64.wrap (IntKind.i64.wrap (IntKind.i64.wrap (l4_m1 + 1) + 1) + 1) + 1) + 1), l4_m5 + 1), _, (weak_ren []), ⟨IntKind.i64.wrap (IntKind.i64.wrap (IntKind.i64.wrap (IntKind.i64.wrap (IntKind.i64.wrap (l4_m1 + 1) + 1) + 1) + 1) + 1), l4_m5 + 1, rfl, rfl⟩, hn4⟩
  have q7_ := of_decide_eq_false q7
  refine awp_condF_ q7 ?_
  refine awp_exit_ (te_ (te_ (be_ (tn_ ?_))))
  obtain rfl := zj h
  have h := hn4
  (try dsimp only at h)
  obtain rfl := zj h
  exact ⟨l4_m1, _, rfl, (weak_ren []), rfl⟩
 rintro l2_m1 _ rfl h
 (try dsimp only at h)
 refine seqR ?_
 refine awp_ret_ ?_
 obtain rfl := zj h
 exact ret_ [(ai l2_m1)] (p_one rfl zl p_nil)
def m_laws_heldProgram : AC :=
 (.seq (rg [xo 2 (.i (.box 29 (tm 0))), xo 4 (qm (ci 0))])
 (.seq (rg [xo 5 (qf 4 (tm 2)), xo 6 (ql (tm 5)), xo 7 (qm (tm 1)), ⟨(some 8), none, (qc 28 [(tm 6), (tm 7)] [[(some T5)], []])⟩, xo 1 (qm (tm 8))])
 (.seq (.seq (rg [xo 9 (qm (tm 1)), xo 10 (qb .lss (tm 9) (ci 0))])
 (.cond (tm 10)
  (.seq (rg [xo 4 (qm (ci (-1)))])
  .ret)
  .skip))
 (.seq (rg [xo 11 (qm (tm 1)), xo 4 (qm (tm 11))])
 .ret))))
def r_laws_heldProgram : List Res := [.tmp 4]
theorem c_laws_heldProgram : compiled Tryd.prog Tryd.f12 = some (m_laws_heldProgram, r_laws_heldProgram) := by kernel_rfl
theorem hb_laws_heldProgram : hasBody Tryd.prog 12 = true := by kernel_rfl
def L_laws_heldProgram (a0_0 : Int) (a0_1 : Int) (a0_2 : Int) (a0_3 : Int) (a0_4 : List (Int × Int × Int × Int × Int)) (a1 : Int) : Option Int :=
 Option.bind (L_laws_heldInstrS a0_4 a1) fun y3 =>
cond (decide (y3 < 0))
 (some (-1))
 (some y3)
def rv_laws_heldProgram (r : Int) : RV := ⟨false, [(false, [.sc (.int .i64 r)])]⟩
theorem ok_laws_heldProgram {a0_0 : Int} {a0_1 : Int} {a0_2 : Int} {a0_3 : Int} {a0_4 : List (Int × Int × Int × Int × Int)} {a1 : Int} {r : Int} (h : L_laws_heldProgram a0_0 a0_1 a0_2 a0_3 a0_4 a1 = some r) : CallOK Tryd.prog Tab 12 [(.agg [(ai a0_0), (ai a0_1), (ai a0_2), (ai a0_3), (.tree T5 a0_4)]), (ai a1)] (rv_laws_heldProgram r) := by
 refine call_of_ (by kernel_rfl) Tryd.func12 c_laws_heldProgram (n := 12) (by kernel_rfl) (by simp) (tl := [(0, (.agg [(ai a0_0), (ai a0_1), (ai a0_2), (ai a0_3), (.tree T5 a0_4)])), (1, (ai a1))]) rfl ?_
 unfold m_laws_heldProgram
 unfold L_laws_heldProgram at h
 refine seqR ?_
 refine awp_seqv_ ?_
 obtain ⟨y3, h3, h⟩ := ob_some h
 refine awp_region_ 8 ?_
 refine rz0 (.box (oi 2 1) 4) ?_
 refine rzl (.tree T5 a0_4) ?_
 refine rz0 (ai a1) ?_
 refine zc (ai y3) [] [(.tree T5 a0_4), (ai a1)] (ok_laws_heldInstrS h3) ?_
 refine rsB 1 ?_
 refine rnil (tn_ ?_)
 refine wr_ ?_
 refine awp_seqv_ ?_
 refine seqR ?_
 rcases cond_some h with ⟨q6, h⟩ | ⟨q6, h⟩
 ·have q6_ := of_decide_eq_true q6
  refine awp_condT_ q6 ?_
  refine seqR ?_
  refine awp_ret_ (tr_ ?_)
  obtain rfl := zj h
  exact ret_ [(ai (-1))] (p_one rfl zl p_nil)
 have q6_ := of_decide_eq_false q6
 refine awp_condF_ q6 ?_
 refine awp_skip_ (tn_ ?_)
 refine wr_ ?_
 refine seqR ?_
 refine awp_ret_ ?_
 obtain rfl := zj h
 exact ret_ [(ai y3)] (p_one rfl zl p_nil)
def m_spec_cmInstr : AC :=
 (.seq (rg [xo 4 (.i (.box 29 (tm 1))), xo 5 (.i (.box 67 (tm 2))), xo 6 (qm (cb false))])
 (.seq (.region [xo 10 (qf 1 (tm 5)), xo 11 (ql (tm 10)), xo 12 (qf 3 (tm 4)), xo 13 (ql (tm 12)), xo 14 (qb .sub (tm 13) (ci 1)), xo 15 (qc 30 [(tm 11), (ci 0), (tm 14)] [[], [], []]), xo 16 (qf 2 (tm 5)), xo 17 (ql (tm 16)), xo 18 (qf 3 (tm 4)), xo 19 (ql (tm 18)), xo 20 (qb .sub (tm 19) (ci 1)), xo 21 (qc 30 [(tm 17), (ci 0), (tm 20)] [[], [], []]), xo 22 (qf 3 (tm 5)), xo 23 (ql (tm 22)), xo 24 (qf 3 (tm 4)), xo 25 (ql (tm 24)), xo 26 (qb .sub (tm 25) (ci 1)), xo 27 (qc 30 [(tm 23), (ci 0), (tm 26)] [[], [], []]), xo 7 (qm (tm 15)), xo 8 (qm (tm 21)), xo 9 (qm (tm 27))] true [(5, 7), (5, 9), (5, 13), (11, 13), (5, 15), (11, 15)])
 (.seq (.seq (rg [xo 28 (qf 0 (tm 5)), xo 29 (ql (tm 28))])
 (.block 0 (.seq (rg [xo 31 (qb .eql (tm 29) (ci 1)), xo 30 (qm (tm 31))])
 (.cond (tm 30)
  (.seq (rg [xo 32 (qm (tm 7)), xo 33 (qm (tm 32)), ⟨(some 34), (some (33, true)), (qf 2 (tm 5))⟩, ⟨(some 35), (some (33, true)), (ql (tm 34))⟩, ⟨(some 36), (some (33, true)), (qf 0 (tm 4))⟩, ⟨(some 37), (some (33, true)), (ql (tm 36))⟩, ⟨(some 38), (some (33, true)), (qb .sub (tm 37) (ci 1))⟩, ⟨(some 39), (some (33, true)), (qc 30 [(tm 35), (ci 0), (tm 38)] [[], [], []])⟩, xo 40 (.i (.pick (tm 33) (tm 39) (cb false))), xo 41 (qm (tm 40)), ⟨(some 42), (some (41, true)), (qf 3 (tm 5))⟩, ⟨(some 43), (some (41, true)), (ql (tm 42))⟩, ⟨(some 44), (some (41, true)), (qb .eql (tm 43) (ci 0))⟩, xo 45 (.i (.pick (tm 41) (tm 44) (cb false))), xo 46 (qm (tm 45)), ⟨(some 47), (some (46, true)), (qf 4 (tm 5))⟩, ⟨(some 48), (some (46, true)), (ql (tm 47))⟩, ⟨(some 49), (some (46, true)), (qb .eql (tm 48) (ci 0))⟩, xo 50 (.i (.pick (tm 46) (tm 49) (cb false))), xo 6 (qm (tm 50))])
  .ret)
  (.seq (rg [xo 52 (qb .eql (tm 29) (ci 2)), xo 51 (qm (tm 52))])
  (.cond (tm 51)
   (.seq (rg [xo 53 (qm (tm 7)), xo 54 (qm (tm 53)), ⟨(some 55), (some (54, true)), (qf 2 (tm 5))⟩, ⟨(some 56), (some (54, true)), (ql (tm 55))⟩, ⟨(some 57), (some (54, true)), (qb .eql (tm 56) (ci 0))⟩, xo 58 (.i (.pick (tm 54) (tm 57) (cb false))), xo 59 (qm (tm 58)), ⟨(some 60), (some (59, true)), (qf 3 (tm 5))⟩, ⟨(some 61), (some (59, true)), (ql (tm 60))⟩, ⟨(some 62), (some (59, true)), (qb .eql (tm 61) (ci 0))⟩, xo 63 (.i (.pick (tm 59) (tm 62) (cb false))), xo 64 (qm (tm 63)), ⟨(some 65), (some (64, true)), (qf 4 (tm 5))⟩, ⟨(some 66), (some (64, true)), (ql (tm 65))⟩, ⟨(some 67), (some (64, true)), (qb .eql (tm 66) (ci 0))⟩, xo 68 (.i (.pick (tm 64) (tm 67) (cb false))), xo 6 (qm (tm 68))])
   .ret)
   (.seq (rg [xo 70 (qb .eql (tm 29) (ci 3)), xo 69 (qm (tm 70))])
   (.cond (tm 69)
    (.seq (rg [xo 71 (qm (tm 7)), xo 72 (qm (tm 71)), ⟨(some 73), (some (72, true)), (qm (tm 8))⟩, xo 74 (.i (.pick (tm 72) (tm 73) (cb false))), xo 75 (qm (tm 74)), ⟨(some 76), (some (75, true)), (qm (tm 9))⟩, xo 77 (.i (.pick (tm 75) (tm 76) (cb false))), xo 78 (qm (tm 77)), ⟨(some 79), (some (78, true)), (qf 4 (tm 5))⟩, ⟨(some 80), (some (78, true)), (ql (tm 79))⟩, ⟨(some 81), (some (78, true)), (qb .eql (tm 80) (ci 0))⟩, xo 82 (.i (.pick (tm 78) (tm 81) (cb false))), xo 6 (qm (tm 82))])
    .ret)
    (.seq (rg [xo 84 (qb .eql (tm 29) (ci 4)), xo 83 (qm (tm 84))])
    (.cond (tm 83)
     (.seq (rg [xo 85 (qm (tm 7)), xo 86 (qm (tm 85)), ⟨(some 87), (some (86, true)), (qm (tm 8))⟩, xo 88 (.i (.pick (tm 86) (tm 87) (cb false))), xo 89 (qm (tm 88)), ⟨(some 90), (some (89, true)), (qf 3 (tm 5))⟩, ⟨(some 91), (some (89, true)), (ql (tm 90))⟩, ⟨(some 92), (some (89, true)), (qb .eql (tm 91) (ci 0))⟩, xo 93 (.i (.pick (tm 89) (tm 92) (cb false))), xo 94 (qm (tm 93)), ⟨(some 95), (some (94, true)), (qf 4 (tm 5))⟩, ⟨(some 96), (some (94, true)), (ql (tm 95))⟩, ⟨(some 97), (some (94, true)), (qm (tm 0))⟩, ⟨(some 98), (some (94, true)), (qb .sub (tm 97) (ci 1))⟩, ⟨(some 99), (some (94, true)), (qc 30 [(tm 96), (ci 0), (tm 98)] [[], [], []])⟩, xo 100 (.i (.pick (tm 94) (tm 99) (cb false))), xo 6 (qm (tm 100))])
     .ret)
     (.seq (.seq (rg [xo 102 (qb .eql (tm 29) (ci 5)), xo 101 (qm (tm 102))])
     (.cond (tm 101)
      .skip
      (rg [xo 103 (qb .eql (tm 29) (ci 6)), xo 101 (qm (tm 103))])))
     (.cond (tm 101)
      (.seq (rg [xo 104 (qm (tm 7)), xo 105 (qm (tm 104)), ⟨(some 106), (some (105, true)), (qf 2 (tm 5))⟩, ⟨(some 107), (some (105, true)), (ql (tm 106))⟩, ⟨(some 108), (some (105, true)), (qf 2 (tm 4))⟩, ⟨(some 109), (some (105, true)), (ql (tm 108))⟩, ⟨(some 110), (some (105, true)), (qb .sub (tm 109) (ci 1))⟩, ⟨(some 111), (some (105, true)), (qc 30 [(tm 107), (ci 0), (tm 110)] [[], [], []])⟩, xo 112 (.i (.pick (tm 105) (tm 111) (cb false))), xo 113 (qm (tm 112)), ⟨(some 114), (some (113, true)), (qf 3 (tm 5))⟩, ⟨(some 115), (some (113, true)), (ql (tm 114))⟩, ⟨(some 116), (some (113, true)), (qb .eql (tm 115) (ci 0))⟩, xo 117 (.i (.pick (tm 113) (tm 116) (cb false))), xo 118 (qm (tm 117)), ⟨(some 119), (some (118, true)), (qf 4 (tm 5))⟩, ⟨(some 120), (some (118, true)), (ql (tm 119))⟩, ⟨(some 121), (some (118, true)), (qb .eql (tm 120) (ci 0))⟩, xo 122 (.i (.pick (tm 118) (tm 121) (cb false))), xo 6 (qm (tm 122))])
      .ret)
      (.seq (rg [xo 124 (qb .eql (tm 29) (ci 7)), xo 123 (qm (tm 124))])
      (.cond (tm 123)
       (.seq (rg [xo 125 (qm (tm 7)), xo 126 (qm (tm 125)), ⟨(some 127), (some (126, true)), (qf 2 (tm 5))⟩, ⟨(some 128), (some (126, true)), (ql (tm 127))⟩, ⟨(some 129), (some (126, true)), (qf 1 (tm 4))⟩, ⟨(some 130), (some (126, true)), (ql (tm 129))⟩, ⟨(some 131), (some (126, true)), (qb .sub (tm 130) (ci 1))⟩, ⟨(some 132), (some (126, true)), (qc 30 [(tm 128), (ci 0), (tm 131)] [[], [], []])⟩, xo 133 (.i (.pick (tm 126) (tm 132) (cb false))), xo 134 (qm (tm 133)), ⟨(some 135), (some (134, true)), (qf 3 (tm 5))⟩, ⟨(some 136), (some (134, true)), (ql (tm 135))⟩, ⟨(some 137), (some (134, true)), (qb .eql (tm 136) (ci 0))⟩, xo 138 (.i (.pick (tm 134) (tm 137) (cb false))), xo 139 (qm (tm 138)), ⟨(some 140), (some (139, true)), (qf 4 (tm 5))⟩, ⟨(some 141), (some (139, true)), (ql (tm 140))⟩, ⟨(some 142), (some (139, true)), (qb .eql (tm 141) (ci 0))⟩, xo 143 (.i (.pick (tm 139) (tm 142) (cb false))), xo 6 (qm (tm 143))])
       .ret)
       .skip))))))))))))))
 (.seq (rg [xo 6 (qm (cb false))])
 .ret))))
def r_spec_cmInstr : List Res := [.tmp 6]
theorem c_spec_cmInstr : compiled Tryd.prog Tryd.f40 = some (m_spec_cmInstr, r_spec_cmInstr) := by kernel_rfl
def L_spec_cmInstr (a0 : Int) (a1_0 : Int) (a1_1 : Int) (a1_2 : Int) (a1_3 : Int) (a1_4 : List (Int × Int × Int × Int × Int)) (a2_0 : Int) (a2_1 : Int) (a2_2 : Int) (a2_3 : Int) (a2_4 : Int) : Option Bool :=
 Option.bind (L_spec_l1In a2_1 0 (IntKind.i64.wrap (a1_3 - 1))) fun y3 =>
Option.bind (L_spec_l1In a2_2 0 (IntKind.i64.wrap (a1_3 - 1))) fun y4 =>
Option.bind (L_spec_l1In a2_3 0 (IntKind.i64.wrap (a1_3 - 1))) fun y5 =>
cond (a2_0 == 1)
 (Option.bind (cond y3
   (Option.bind (L_spec_l1In a2_2 0 (IntKind.i64.wrap (a1_0 - 1))) fun y12 =>
   cond y12
    (cond (a2_3 == 0)
     (some (a2_4 == 0))
     (some false))
    (some false))
   (some false)) fun l10_m6 =>
 some l10_m6)
 (cond (a2_0 == 2)
  (Option.bind (cond y3
    (cond (a2_2 == 0)
     (cond (a2_3 == 0)
      (some (a2_4 == 0))
      (some false))
     (some false))
    (some false)) fun l17_m6 =>
  some l17_m6)
  (cond (a2_0 == 3)
   (Option.bind (cond y3
     (cond y4
      (cond y5
       (some (a2_4 == 0))
       (some false))
      (some false))
     (some false)) fun l23_m6 =>
   some l23_m6)
   (cond (a2_0 == 4)
    (Option.bind (cond y3
      (cond y4
       (cond (a2_3 == 0)
        (Option.bind (L_spec_l1In a2_4 0 (IntKind.i64.wrap (a0 - 1))) fun y33 =>
        some y33)
        (some false))
       (some false))
      (some false)) fun l29_m6 =>
    some l29_m6)
    (Option.bind (cond (a2_0 == 5)
      (some (a2_0 == 5))
      (some (a2_0 == 6))) fun l34_m101 =>
    cond l34_m101
     (Option.bind (cond y3
       (Option.bind (L_spec_l1In a2_2 0 (IntKind.i64.wrap (a1_2 - 1))) fun y40 =>
       cond y40
        (cond (a2_3 == 0)
         (some (a2_4 == 0))
         (some false))
        (some false))
       (some false)) fun l38_m6 =>
     some l38_m6)
     (cond (a2_0 == 7)
      (Option.bind (cond y3
        (Option.bind (L_spec_l1In a2_2 0 (IntKind.i64.wrap (a1_1 - 1))) fun y47 =>
        cond y47
         (cond (a2_3 == 0)
          (some (a2_4 == 0))
          (some false))
         (some false))
        (some false)) fun l45_m6 =>
      some l45_m6)
      (some false))))))
def rv_spec_cmInstr (r : Bool) : RV := ⟨false, [(false, [.sc (.bool r)])]⟩
theorem ok_spec_cmInstr {a0 : Int} {a1_0 : Int} {a1_1 : Int} {a1_2 : Int} {a1_3 : Int} {a1_4 : List (Int × Int × Int × Int × Int)} {a2_0 : Int} {a2_1 : Int} {a2_2 : Int} {a2_3 : Int} {a2_4 : Int} {r : Bool} (h : L_spec_cmInstr a0 a1_0 a1_1 a1_2 a1_3 a1_4 a2_0 a2_1 a2_2 a2_3 a2_4 = some r) : CallOK Tryd.prog Tab 40 [(ai a0), (.agg [(ai a1_0), (ai a1_1), (ai a1_2), (ai a1_3), (.tree T5 a1_4)]), (.agg [(ai a2_0), (ai a2_1), (ai a2_2), (ai a2_3), (ai a2_4)])] (rv_spec_cmInstr r) := by
 refine call_of_ (by kernel_rfl) Tryd.func40 c_spec_cmInstr (n := 144) (by kernel_rfl) (by simp) (tl := [(0, (ai a0)), (1, (.agg [(ai a1_0), (ai a1_1), (ai a1_2), (ai a1_3), (.tree T5 a1_4)])), (2, (.agg [(ai a2_0), (ai a2_1), (ai a2_2), (ai a2_3), (ai a2_4)]))]) rfl ?_
 unfold m_spec_cmInstr
 unfold L_spec_cmInstr at h
 refine seqR ?_
 refine awp_seqv_ ?_
 obtain ⟨y3, h3, h⟩ := ob_some h
 obtain ⟨y4, h4, h⟩ := ob_some h
 obtain ⟨y5, h5, h⟩ := ob_some h
 refine awp_regionD_ 25 ?_
 refine dz0 (.box (oi 5 2) 1) ?_
 refine dzl (ai a2_1) ?_
 refine dz0 (.box (oi 4 1) 3) ?_
 refine dzl (ai a1_3) ?_
 refine dz0 (ai (IntKind.i64.wrap (a1_3 - 1))) ?_
 refine dcall (.bool y3) [] [(ai a2_1), (ai 0), (ai (IntKind.i64.wrap (a1_3 - 1)))] _ (caps := []) (args0 := [(ai a2_1), (ai 0), (ai (IntKind.i64.wrap (a1_3 - 1)))]) trivial (by kernel_rfl) (ok_spec_l1In h3) hb_spec_l1In ?_
 refine dz0 (.box (oi 5 2) 2) ?_
 refine dzl (ai a2_2) ?_
 refine dz0 (.box (oi 4 1) 3) ?_
 refine dzl (ai a1_3) ?_
 refine dz0 (ai (IntKind.i64.wrap (a1_3 - 1))) ?_
 refine dcall (.bool y4) [] [(ai a2_2), (ai 0), (ai (IntKind.i64.wrap (a1_3 - 1)))] _ (caps := []) (args0 := [(ai a2_2), (ai 0), (ai (IntKind.i64.wrap (a1_3 - 1)))]) trivial (by kernel_rfl) (ok_spec_l1In h4) hb_spec_l1In ?_
 refine dz0 (.box (oi 5 2) 3) ?_
 refine dzl (ai a2_3) ?_
 refine dz0 (.box (oi 4 1) 3) ?_
 refine dzl (ai a1_3) ?_
 refine dz0 (ai (IntKind.i64.wrap (a1_3 - 1))) ?_
 refine dcall (.bool y5) [] [(ai a2_3), (ai 0), (ai (IntKind.i64.wrap (a1_3 - 1)))] _ (caps := []) (args0 := [(ai a2_3), (ai 0), (ai (IntKind.i64.wrap (a1_3 - 1)))]) trivial (by kernel_rfl) (ok_spec_l1In h5) hb_spec_l1In ?_
 refine dz0 (.bool y3) ?_
 refine dz0 (.bool y4) ?_
 refine dz0 (.bool y5) ?_
 refine dnil (badB_spec (by kernel_rfl)) (tn_ ?_)
 refine wr_ ?_
 refine awp_seqv_ ?_
 refine seqR ?_
 refine awp_block_ ?_
 refine seqR ?_
 rcases cond_some h with ⟨q9, h⟩ | ⟨q9, h⟩
 ·refine awp_condT_ q9 ?_
  refine awp_seqB h (fun (l10_m6 : Bool) S_ => S_ = ⟨mkTm [(6, (.bool l10_m6))], mkOb (someL []), 2⟩) ?_ ?_
  ·intro v_ h
   rcases cond_some h with ⟨q11, h⟩ | ⟨q11, h⟩
   ·obtain ⟨y12, h12, h⟩ := ob_some h
    rcases cond_some h with ⟨q13, h⟩ | ⟨q13, h⟩
    ·rcases cond_some h with ⟨q14, h⟩ | ⟨q14, h⟩
     ·refine awp_region_ 49 ?_
      refine rz0 (.bool y3) ?_
      refine rz0 (.bool y3) ?_
      refine rs0 (.box (oi 5 2) 2) (zg q11) ?_
      refine rsl (ai a2_2) (zg q11) ?_
      refine rs0 (.box (oi 4 1) 0) (zg q11) ?_
      refine rsl (ai a1_0) (zg q11) ?_
      refine rs0 (ai (IntKind.i64.wrap (a1_0 - 1))) (zg q11) ?_
      refine rcall (.bool y12) [] [(ai a2_2), (ai 0), (ai (IntKind.i64.wrap (a1_0 - 1)))] _ (caps := []) (args0 := [(ai a2_2), (ai 0), (ai (IntKind.i64.wrap (a1_0 - 1)))]) (gdOK_b (by kernel_rfl) q11) (by kernel_rfl) (ok_spec_l1In h12) hb_spec_l1In ?_
      refine rs0 (.bool y12) (zT q11) ?_
      refine rz0 (.bool y12) ?_
      refine rs0 (.box (oi 5 2) 3) (zg q13) ?_
      refine rsl (ai a2_3) (zg q13) ?_
      refine rs0 (.bool (a2_3 == 0)) (zg q13) ?_
      refine rs0 (.bool (a2_3 == 0)) (zT q13) ?_
      refine rz0 (.bool (a2_3 == 0)) ?_
      refine rs0 (.box (oi 5 2) 4) (zg q14) ?_
      refine rsl (ai a2_4) (zg q14) ?_
      refine rs0 (.bool (a2_4 == 0)) (zg q14) ?_
      refine rs0 (.bool (a2_4 == 0)) (zT q14) ?_
      refine rsB 1 ?_
      refine rnil (tn_ ?_)
      obtain rfl := zj h
      exact ⟨_, (weak_ren []), rfl⟩
     refine awp_region_ 49 ?_
     refine rz0 (.bool y3) ?_
     refine rz0 (.bool y3) ?_
     refine rs0 (.box (oi 5 2) 2) (zg q11) ?_
     refine rsl (ai a2_2) (zg q11) ?_
     refine rs0 (.box (oi 4 1) 0) (zg q11) ?_
     refine rsl (ai a1_0) (zg q11) ?_
     refine rs0 (ai (IntKind.i64.wrap (a1_0 - 1))) (zg q11) ?_
     refine rcall (.bool y12) [] [(ai a2_2), (ai 0), (ai (IntKind.i64.wrap (a1_0 - 1)))] _ (caps := []) (args0 := [(ai a2_2), (ai 0), (ai (IntKind.i64.wrap (a1_0 - 1)))]) (gdOK_b (by kernel_rfl) q11) (by kernel_rfl) (ok_spec_l1In h12) hb_spec_l1In ?_
     refine rs0 (.bool y12) (zT q11) ?_
     refine rz0 (.bool y12) ?_
     refine rs0 (.box (oi 5 2) 3) (zg q13) ?_
     refine rsl (ai a2_3) (zg q13) ?_
     refine rs0 (.bool (a2_3 == 0)) (zg q13) ?_
     refine rs0 (.bool (a2_3 == 0)) (zT q13) ?_
     refine rz0 (.bool (a2_3 == 0)) ?_
     refine zs q14 ?_
     refine zs q14 ?_
     refine zs q14 ?_
     refine rs0 (.bool false) (zF q14) ?_
     refine rsB 1 ?_
     refine rnil (tn_ ?_)
     obtain rfl := zj h
     exact ⟨_, (weak_ren []), rfl⟩
    refine awp_region_ 49 ?_
    refine rz0 (.bool y3) ?_
    refine rz0 (.bool y3) ?_
    refine rs0 (.box (oi 5 2) 2) (zg q11) ?_
    refine rsl (ai a2_2) (zg q11) ?_
    refine rs0 (.box (oi 4 1) 0) (zg q11) ?_
    refine rsl (ai a1_0) (zg q11) ?_
    refine rs0 (ai (IntKind.i64.wrap (a1_0 - 1))) (zg q11) ?_
    refine rcall (.bool y12) [] [(ai a2_2), (ai 0), (ai (IntKind.i64.wrap (a1_0 - 1)))] _ (caps := []) (args0 := [(ai a2_2), (ai 0), (ai (IntKind.i64.wrap (a1_0 - 1)))]) (gdOK_b (by kernel_rfl) q11) (by kernel_rfl) (ok_spec_l1In h12) hb_spec_l1In ?_
    refine rs0 (.bool y12) (zT q11) ?_
    refine rz0 (.bool y12) ?_
    refine zs q13 ?_
    refine zs q13 ?_
    refine zs q13 ?_
    refine rs0 (.bool false) (zF q13) ?_
    refine rsB 6 ?_
    refine rnil (tn_ ?_)
    obtain rfl := zj h
    exact ⟨_, (weak_ren []), rfl⟩
   refine awp_region_ 49 ?_
   refine rz0 (.bool y3) ?_
   refine rz0 (.bool y3) ?_
   refine zs q11 ?_
   refine zs q11 ?_
   refine zs q11 ?_
   refine zs q11 ?_
   refine zs q11 ?_
   refine zs q11 ?_
   refine rs0 (.bool false) (zF q11) ?_
   refine rsB 11 ?_
   refine rnil (tn_ ?_)
   obtain rfl := zj h
   exact ⟨_, (weak_ren []), rfl⟩
  rintro l10_m6 _ rfl h
  (try dsimp only at h)
  refine awp_ret_ (br_ (tr_ ?_))
  obtain rfl := zj h
  exact ret_ [(.bool l10_m6)] (p_one rfl zl p_nil)
 refine awp_condF_ q9 ?_
 refine seqR ?_
 rcases cond_some h with ⟨q16, h⟩ | ⟨q16, h⟩
 ·refine awp_condT_ q16 ?_
  refine awp_seqB h (fun (l17_m6 : Bool) S_ => S_ = ⟨mkTm [(6, (.bool l17_m6))], mkOb (someL []), 2⟩) ?_ ?_
  ·intro v_ h
   rcases cond_some h with ⟨q18, h⟩ | ⟨q18, h⟩
   ·rcases cond_some h with ⟨q19, h⟩ | ⟨q19, h⟩
    ·rcases cond_some h with ⟨q20, h⟩ | ⟨q20, h⟩
     ·refine awp_region_ 48 ?_
      refine rz0 (.bool y3) ?_
      refine rz0 (.bool y3) ?_
      refine rs0 (.box (oi 5 2) 2) (zg q18) ?_
      refine rsl (ai a2_2) (zg q18) ?_
      refine rs0 (.bool (a2_2 == 0)) (zg q18) ?_
      refine rs0 (.bool (a2_2 == 0)) (zT q18) ?_
      refine rz0 (.bool (a2_2 == 0)) ?_
      refine rs0 (.box (oi 5 2) 3) (zg q19) ?_
      refine rsl (ai a2_3) (zg q19) ?_
      refine rs0 (.bool (a2_3 == 0)) (zg q19) ?_
      refine rs0 (.bool (a2_3 == 0)) (zT q19) ?_
      refine rz0 (.bool (a2_3 == 0)) ?_
      refine rs0 (.box (oi 5 2) 4) (zg q20) ?_
      refine rsl (ai a2_4) (zg q20) ?_
      refine rs0 (.bool (a2_4 == 0)) (zg q20) ?_
      refine rs0 (.bool (a2_4 == 0)) (zT q20) ?_
      refine rsB 1 ?_
      refine rnil (tn_ ?_)
      obtain rfl := zj h
      exact ⟨_, (weak_ren []), rfl⟩
     refine awp_region_ 48 ?_
     refine rz0 (.bool y3) ?_
     refine rz0 (.bool y3) ?_
     refine rs0 (.box (oi 5 2) 2) (zg q18) ?_
     refine rsl (ai a2_2) (zg q18) ?_
     refine rs0 (.bool (a2_2 == 0)) (zg q18) ?_
     refine rs0 (.bool (a2_2 == 0)) (zT q18) ?_
     refine rz0 (.bool (a2_2 == 0)) ?_
     refine rs0 (.box (oi 5 2) 3) (zg q19) ?_
     refine rsl (ai a2_3) (zg q19) ?_
     refine rs0 (.bool (a2_3 == 0)) (zg q19) ?_
     refine rs0 (.bool (a2_3 == 0)) (zT q19) ?_
     refine rz0 (.bool (a2_3 == 0)) ?_
     refine zs q20 ?_
     refine zs q20 ?_
     refine zs q20 ?_
     refine rs0 (.bool false) (zF q20) ?_
     refine rsB 1 ?_
     refine rnil (tn_ ?_)
     obtain rfl := zj h
     exact ⟨_, (weak_ren []), rfl⟩
    refine awp_region_ 48 ?_
    refine rz0 (.bool y3) ?_
    refine rz0 (.bool y3) ?_
    refine rs0 (.box (oi 5 2) 2) (zg q18) ?_
    refine rsl (ai a2_2) (zg q18) ?_
    refine rs0 (.bool (a2_2 == 0)) (zg q18) ?_
    refine rs0 (.bool (a2_2 == 0)) (zT q18) ?_
    refine rz0 (.bool (a2_2 == 0)) ?_
    refine zs q19 ?_
    refine zs q19 ?_
    refine zs q19 ?_
    refine rs0 (.bool false) (zF q19) ?_
    refine rsB 6 ?_
    refine rnil (tn_ ?_)
    obtain rfl := zj h
    exact ⟨_, (weak_ren []), rfl⟩
   refine awp_region_ 48 ?_
   refine rz0 (.bool y3) ?_
   refine rz0 (.bool y3) ?_
   refine zs q18 ?_
   refine zs q18 ?_
   refine zs q18 ?_
   refine rs0 (.bool false) (zF q18) ?_
   refine rsB 11 ?_
   refine rnil (tn_ ?_)
   obtain rfl := zj h
   exact ⟨_, (weak_ren []), rfl⟩
  rintro l17_m6 _ rfl h
  (try dsimp only at h)
  refine awp_ret_ (br_ (tr_ ?_))
  obtain rfl := zj h
  exact ret_ [(.bool l17_m6)] (p_one rfl zl p_nil)
 refine awp_condF_ q16 ?_
 refine seqR ?_
 rcases cond_some h with ⟨q22, h⟩ | ⟨q22, h⟩
 ·refine awp_condT_ q22 ?_
  refine awp_seqB h (fun (l23_m6 : Bool) S_ => S_ = ⟨mkTm [(6, (.bool l23_m6))], mkOb (someL []), 2⟩) ?_ ?_
  ·intro v_ h
   rcases cond_some h with ⟨q24, h⟩ | ⟨q24, h⟩
   ·rcases cond_some h with ⟨q25, h⟩ | ⟨q25, h⟩
    ·rcases cond_some h with ⟨q26, h⟩ | ⟨q26, h⟩
     ·refine awp_region_ 46 ?_
      refine rz0 (.bool y3) ?_
      refine rz0 (.bool y3) ?_
      refine rs0 (.bool y4) (zg q24) ?_
      refine rs0 (.bool y4) (zT q24) ?_
      refine rz0 (.bool y4) ?_
      refine rs0 (.bool y5) (zg q25) ?_
      refine rs0 (.bool y5) (zT q25) ?_
      refine rz0 (.bool y5) ?_
      refine rs0 (.box (oi 5 2) 4) (zg q26) ?_
      refine rsl (ai a2_4) (zg q26) ?_
      refine rs0 (.bool (a2_4 == 0)) (zg q26) ?_
      refine rs0 (.bool (a2_4 == 0)) (zT q26) ?_
      refine rsB 1 ?_
      refine rnil (tn_ ?_)
      obtain rfl := zj h
      exact ⟨_, (weak_ren []), rfl⟩
     refine awp_region_ 46 ?_
     refine rz0 (.bool y3) ?_
     refine rz0 (.bool y3) ?_
     refine rs0 (.bool y4) (zg q24) ?_
     refine rs0 (.bool y4) (zT q24) ?_
     refine rz0 (.bool y4) ?_
     refine rs0 (.bool y5) (zg q25) ?_
     refine rs0 (.bool y5) (zT q25) ?_
     refine rz0 (.bool y5) ?_
     refine zs q26 ?_
     refine zs q26 ?_
     refine zs q26 ?_
     refine rs0 (.bool false) (zF q26) ?_
     refine rsB 1 ?_
     refine rnil (tn_ ?_)
     obtain rfl := zj h
     exact ⟨_, (weak_ren []), rfl⟩
    refine awp_region_ 46 ?_
    refine rz0 (.bool y3) ?_
    refine rz0 (.bool y3) ?_
    refine rs0 (.bool y4) (zg q24) ?_
    refine rs0 (.bool y4) (zT q24) ?_
    refine rz0 (.bool y4) ?_
    refine zs q25 ?_
    refine rs0 (.bool false) (zF q25) ?_
    refine rsB 6 ?_
    refine rnil (tn_ ?_)
    obtain rfl := zj h
    exact ⟨_, (weak_ren []), rfl⟩
   refine awp_region_ 46 ?_
   refine rz0 (.bool y3) ?_
   refine rz0 (.bool y3) ?_
   refine zs q24 ?_
   refine rs0 (.bool false) (zF q24) ?_
   refine rsB 9 ?_
   refine rnil (tn_ ?_)
   obtain rfl := zj h
   exact ⟨_, (weak_ren []), rfl⟩
  rintro l23_m6 _ rfl h
  (try dsimp only at h)
  refine awp_ret_ (br_ (tr_ ?_))
  obtain rfl := zj h
  exact ret_ [(.bool l23_m6)] (p_one rfl zl p_nil)
 refine awp_condF_ q22 ?_
 refine seqR ?_
 rcases cond_some h with ⟨q28, h⟩ | ⟨q28, h⟩
 ·refine awp_condT_ q28 ?_
  refine awp_seqB h (fun (l29_m6 : Bool) S_ => S_ = ⟨mkTm [(6, (.bool l29_m6))], mkOb (someL []), 2⟩) ?_ ?_
  ·intro v_ h
   rcases cond_some h with ⟨q30, h⟩ | ⟨q30, h⟩
   ·rcases cond_some h with ⟨q31, h⟩ | ⟨q31, h⟩
    ·rcases cond_some h with ⟨q32, h⟩ | ⟨q32, h⟩
     ·obtain ⟨y33, h33, h⟩ := ob_some h
      refine awp_region_ 52 ?_
      refine rz0 (.bool y3) ?_
      refine rz0 (.bool y3) ?_
      refine rs0 (.bool y4) (zg q30) ?_
      refine rs0 (.bool y4) (zT q30) ?_
      refine rz0 (.bool y4) ?_
      refine rs0 (.box (oi 5 2) 3) (zg q31) ?_
      refine rsl (ai a2_3) (zg q31) ?_
      refine rs0 (.bool (a2_3 == 0)) (zg q31) ?_
      refine rs0 (.bool (a2_3 == 0)) (zT q31) ?_
      refine rz0 (.bool (a2_3 == 0)) ?_
      refine rs0 (.box (oi 5 2) 4) (zg q32) ?_
      refine rsl (ai a2_4) (zg q32) ?_
      refine rs0 (ai a0) (zg q32) ?_
      refine rs0 (ai (IntKind.i64.wrap (a0 - 1))) (zg q32) ?_
      refine rcall (.bool y33) [] [(ai a2_4), (ai 0), (ai (IntKind.i64.wrap (a0 - 1)))] _ (caps := []) (args0 := [(ai a2_4), (ai 0), (ai (IntKind.i64.wrap (a0 - 1)))]) (gdOK_b (by kernel_rfl) q32) (by kernel_rfl) (ok_spec_l1In h33) hb_spec_l1In ?_
      refine rs0 (.bool y33) (zT q32) ?_
      refine rsB 1 ?_
      refine rnil (tn_ ?_)
      obtain rfl := zj h
      exact ⟨_, (weak_ren []), rfl⟩
     refine awp_region_ 52 ?_
     refine rz0 (.bool y3) ?_
     refine rz0 (.bool y3) ?_
     refine rs0 (.bool y4) (zg q30) ?_
     refine rs0 (.bool y4) (zT q30) ?_
     refine rz0 (.bool y4) ?_
     refine rs0 (.box (oi 5 2) 3) (zg q31) ?_
     refine rsl (ai a2_3) (zg q31) ?_
     refine rs0 (.bool (a2_3 == 0)) (zg q31) ?_
     refine rs0 (.bool (a2_3 == 0)) (zT q31) ?_
     refine rz0 (.bool (a2_3 == 0)) ?_
     refine zs q32 ?_
     refine zs q32 ?_
     refine zs q32 ?_
     refine zs q32 ?_
     refine zs q32 ?_
     refine rs0 (.bool false) (zF q32) ?_
     refine rsB 1 ?_
     refine rnil (tn_ ?_)
     obtain rfl := zj h
     exact ⟨_, (weak_ren []), rfl⟩
    refine awp_region_ 52 ?_
    refine rz0 (.bool y3) ?_
    refine rz0 (.bool y3) ?_
    refine rs0 (.bool y4) (zg q30) ?_
    refine rs0 (.bool y4) (zT q30) ?_
    refine rz0 (.bool y4) ?_
    refine zs q31 ?_
    refine zs q31 ?_
    refine zs q31 ?_
    refine rs0 (.bool false) (zF q31) ?_
    refine rsB 8 ?_
    refine rnil (tn_ ?_)
    obtain rfl := zj h
    exact ⟨_, (weak_ren []), rfl⟩
   refine awp_region_ 52 ?_
   refine rz0 (.bool y3) ?_
   refine rz0 (.bool y3) ?_
   refine zs q30 ?_
   refine rs0 (.bool false) (zF q30) ?_
   refine rsB 13 ?_
   refine rnil (tn_ ?_)
   obtain rfl := zj h
   exact ⟨_, (weak_ren []), rfl⟩
  rintro l29_m6 _ rfl h
  (try dsimp only at h)
  refine awp_ret_ (br_ (tr_ ?_))
  obtain rfl := zj h
  exact ret_ [(.bool l29_m6)] (p_one rfl zl p_nil)
 refine awp_condF_ q28 ?_
 refine awp_seqB h (fun (l34_m101 : Bool) S_ => S_ = ⟨mkTm [(4, (.box (oi 0 1) 0)), (5, (.box (oi 1 1) 0)), (7, (.bool y3)), (29, (ai a2_0)), (101, (.bool l34_m101))], mkOb (someL [((oi 0 1), .cells 29 [(ai a1_0), (ai a1_1), (ai a1_2), (ai a1_3), (.tree T5 a1_4)]), ((oi 1 1), .cells 67 [(ai a2_0), (ai a2_1), (ai a2_2), (ai a2_3), (ai a2_4)])]), 2⟩) ?_ ?_
 ·intro v_ h
  refine seqR ?_
  rcases cond_some h with ⟨q36, h⟩ | ⟨q36, h⟩
  ·refine awp_condT_ q36 ?_
   refine awp_skip_ (tn_ ?_)
   obtain rfl := zj h
   exact ⟨_, (weak_ren [((oi 0 1), (oi 4 1)), ((oi 1 1), (oi 5 2))]), rfl⟩
  refine awp_condF_ q36 ?_
  refine awp_region_ 39 ?_
  refine rsB 2 ?_
  refine rnil (tn_ ?_)
  obtain rfl := zj h
  exact ⟨_, (weak_ren [((oi 0 1), (oi 4 1)), ((oi 1 1), (oi 5 2))]), rfl⟩
 rintro l34_m101 _ rfl h
 (try dsimp only at h)
 rcases cond_some h with ⟨q37, h⟩ | ⟨q37, h⟩
 ·refine awp_condT_ q37 ?_
  refine awp_seqB h (fun (l38_m6 : Bool) S_ => S_ = ⟨mkTm [(6, (.bool l38_m6))], mkOb (someL []), 2⟩) ?_ ?_
  ·intro v_ h
   rcases cond_some h with ⟨q39, h⟩ | ⟨q39, h⟩
   ·obtain ⟨y40, h40, h⟩ := ob_some h
    rcases cond_some h with ⟨q41, h⟩ | ⟨q41, h⟩
    ·rcases cond_some h with ⟨q42, h⟩ | ⟨q42, h⟩
     ·refine awp_region_ 22 ?_
      refine rz0 (.bool y3) ?_
      refine rz0 (.bool y3) ?_
      refine rs0 (.box (oi 1 1) 2) (zg q39) ?_
      refine rsl (ai a2_2) (zg q39) ?_
      refine rs0 (.box (oi 0 1) 2) (zg q39) ?_
      refine rsl (ai a1_2) (zg q39) ?_
      refine rs0 (ai (IntKind.i64.wrap (a1_2 - 1))) (zg q39) ?_
      refine rcall (.bool y40) [] [(ai a2_2), (ai 0), (ai (IntKind.i64.wrap (a1_2 - 1)))] _ (caps := []) (args0 := [(ai a2_2), (ai 0), (ai (IntKind.i64.wrap (a1_2 - 1)))]) (gdOK_b (by kernel_rfl) q39) (by kernel_rfl) (ok_spec_l1In h40) hb_spec_l1In ?_
      refine rs0 (.bool y40) (zT q39) ?_
      refine rz0 (.bool y40) ?_
      refine rs0 (.box (oi 1 1) 3) (zg q41) ?_
      refine rsl (ai a2_3) (zg q41) ?_
      refine rs0 (.bool (a2_3 == 0)) (zg q41) ?_
      refine rs0 (.bool (a2_3 == 0)) (zT q41) ?_
      refine rz0 (.bool (a2_3 == 0)) ?_
      refine rs0 (.box (oi 1 1) 4) (zg q42) ?_
      refine rsl (ai a2_4) (zg q42) ?_
      refine rs0 (.bool (a2_4 == 0)) (zg q42) ?_
      refine rs0 (.bool (a2_4 == 0)) (zT q42) ?_
      refine rsB 1 ?_
      refine rnil (tn_ ?_)
      obtain rfl := zj h
      exact ⟨_, (weak_ren []), rfl⟩
     refine awp_region_ 22 ?_
     refine rz0 (.bool y3) ?_
     refine rz0 (.bool y3) ?_
     refine rs0 (.box (oi 1 1) 2) (zg q39) ?_
     refine rsl (ai a2_2) (zg q39) ?_
     refine rs0 (.box (oi 0 1) 2) (zg q39) ?_
     refine rsl (ai a1_2) (zg q39) ?_
     refine rs0 (ai (IntKind.i64.wrap (a1_2 - 1))) (zg q39) ?_
     refine rcall (.bool y40) [] [(ai a2_2), (ai 0), (ai (IntKind.i64.wrap (a1_2 - 1)))] _ (caps := []) (args0 := [(ai a2_2), (ai 0), (ai (IntKind.i64.wrap (a1_2 - 1)))]) (gdOK_b (by kernel_rfl) q39) (by kernel_rfl) (ok_spec_l1In h40) hb_spec_l1In ?_
     refine rs0 (.bool y40) (zT q39) ?_
     refine rz0 (.bool y40) ?_
     refine rs0 (.box (oi 1 1) 3) (zg q41) ?_
     refine rsl (ai a2_3) (zg q41) ?_
     refine rs0 (.bool (a2_3 == 0)) (zg q41) ?_
     refine rs0 (.bool (a2_3 == 0)) (zT q41) ?_
     refine rz0 (.bool (a2_3 == 0)) ?_
     refine zs q42 ?_
     refine zs q42 ?_
     refine zs q42 ?_
     refine rs0 (.bool false) (zF q42) ?_
     refine rsB 1 ?_
     refine rnil (tn_ ?_)
     obtain rfl := zj h
     exact ⟨_, (weak_ren []), rfl⟩
    refine awp_region_ 22 ?_
    refine rz0 (.bool y3) ?_
    refine rz0 (.bool y3) ?_
    refine rs0 (.box (oi 1 1) 2) (zg q39) ?_
    refine rsl (ai a2_2) (zg q39) ?_
    refine rs0 (.box (oi 0 1) 2) (zg q39) ?_
    refine rsl (ai a1_2) (zg q39) ?_
    refine rs0 (ai (IntKind.i64.wrap (a1_2 - 1))) (zg q39) ?_
    refine rcall (.bool y40) [] [(ai a2_2), (ai 0), (ai (IntKind.i64.wrap (a1_2 - 1)))] _ (caps := []) (args0 := [(ai a2_2), (ai 0), (ai (IntKind.i64.wrap (a1_2 - 1)))]) (gdOK_b (by kernel_rfl) q39) (by kernel_rfl) (ok_spec_l1In h40) hb_spec_l1In ?_
    refine rs0 (.bool y40) (zT q39) ?_
    refine rz0 (.bool y40) ?_
    refine zs q41 ?_
    refine zs q41 ?_
    refine zs q41 ?_
    refine rs0 (.bool false) (zF q41) ?_
    refine rsB 6 ?_
    refine rnil (tn_ ?_)
    obtain rfl := zj h
    exact ⟨_, (weak_ren []), rfl⟩
   refine awp_region_ 22 ?_
   refine rz0 (.bool y3) ?_
   refine rz0 (.bool y3) ?_
   refine zs q39 ?_
   refine zs q39 ?_
   refine zs q39 ?_
   refine zs q39 ?_
   refine zs q39 ?_
   refine zs q39 ?_
   refine rs0 (.bool false) (zF q39) ?_
   refine rsB 11 ?_
   refine rnil (tn_ ?_)
   obtain rfl := zj h
   exact ⟨_, (weak_ren []), rfl⟩
  rintro l38_m6 _ rfl h
  (try dsimp only at h)
  refine awp_ret_ (br_ (tr_ ?_))
  obtain rfl := zj h
  exact ret_ [(.bool l38_m6)] (p_one rfl zl p_nil)
 refine awp_condF_ q37 ?_
 refine seqR ?_
 rcases cond_some h with ⟨q44, h⟩ | ⟨q44, h⟩
 ·refine awp_condT_ q44 ?_
  refine awp_seqB h (fun (l45_m6 : Bool) S_ => S_ = ⟨mkTm [(6, (.bool l45_m6))], mkOb (someL []), 2⟩) ?_ ?_
  ·intro v_ h
   rcases cond_some h with ⟨q46, h⟩ | ⟨q46, h⟩
   ·obtain ⟨y47, h47, h⟩ := ob_some h
    rcases cond_some h with ⟨q48, h⟩ | ⟨q48, h⟩
    ·rcases cond_some h with ⟨q49, h⟩ | ⟨q49, h⟩
     ·refine awp_region_ 24 ?_
      refine rz0 (.bool y3) ?_
      refine rz0 (.bool y3) ?_
      refine rs0 (.box (oi 1 1) 2) (zg q46) ?_
      refine rsl (ai a2_2) (zg q46) ?_
      refine rs0 (.box (oi 0 1) 1) (zg q46) ?_
      refine rsl (ai a1_1) (zg q46) ?_
      refine rs0 (ai (IntKind.i64.wrap (a1_1 - 1))) (zg q46) ?_
      refine rcall (.bool y47) [] [(ai a2_2), (ai 0), (ai (IntKind.i64.wrap (a1_1 - 1)))] _ (caps := []) (args0 := [(ai a2_2), (ai 0), (ai (IntKind.i64.wrap (a1_1 - 1)))]) (gdOK_b (by kernel_rfl) q46) (by kernel_rfl) (ok_spec_l1In h47) hb_spec_l1In ?_
      refine rs0 (.bool y47) (zT q46) ?_
      refine rz0 (.bool y47) ?_
      refine rs0 (.box (oi 1 1) 3) (zg q48) ?_
      refine rsl (ai a2_3) (zg q48) ?_
      refine rs0 (.bool (a2_3 == 0)) (zg q48) ?_
      refine rs0 (.bool (a2_3 == 0)) (zT q48) ?_
      refine rz0 (.bool (a2_3 == 0)) ?_
      refine rs0 (.box (oi 1 1) 4) (zg q49) ?_
      refine rsl (ai a2_4) (zg q49) ?_
      refine rs0 (.bool (a2_4 == 0)) (zg q49) ?_
      refine rs0 (.bool (a2_4 == 0)) (zT q49) ?_
      refine rsB 1 ?_
      refine rnil (tn_ ?_)
      obtain rfl := zj h
      exact ⟨_, (weak_ren []), rfl⟩
     refine awp_region_ 24 ?_
     refine rz0 (.bool y3) ?_
     refine rz0 (.bool y3) ?_
     refine rs0 (.box (oi 1 1) 2) (zg q46) ?_
     refine rsl (ai a2_2) (zg q46) ?_
     refine rs0 (.box (oi 0 1) 1) (zg q46) ?_
     refine rsl (ai a1_1) (zg q46) ?_
     refine rs0 (ai (IntKind.i64.wrap (a1_1 - 1))) (zg q46) ?_
     refine rcall (.bool y47) [] [(ai a2_2), (ai 0), (ai (IntKind.i64.wrap (a1_1 - 1)))] _ (caps := []) (args0 := [(ai a2_2), (ai 0), (ai (IntKind.i64.wrap (a1_1 - 1)))]) (gdOK_b (by kernel_rfl) q46) (by kernel_rfl) (ok_spec_l1In h47) hb_spec_l1In ?_
     refine rs0 (.bool y47) (zT q46) ?_
     refine rz0 (.bool y47) ?_
     refine rs0 (.box (oi 1 1) 3) (zg q48) ?_
     refine rsl (ai a2_3) (zg q48) ?_
     refine rs0 (.bool (a2_3 == 0)) (zg q48) ?_
     refine rs0 (.bool (a2_3 == 0)) (zT q48) ?_
     refine rz0 (.bool (a2_3 == 0)) ?_
     refine zs q49 ?_
     refine zs q49 ?_
     refine zs q49 ?_
     refine rs0 (.bool false) (zF q49) ?_
     refine rsB 1 ?_
     refine rnil (tn_ ?_)
     obtain rfl := zj h
     exact ⟨_, (weak_ren []), rfl⟩
    refine awp_region_ 24 ?_
    refine rz0 (.bool y3) ?_
    refine rz0 (.bool y3) ?_
    refine rs0 (.box (oi 1 1) 2) (zg q46) ?_
    refine rsl (ai a2_2) (zg q46) ?_
    refine rs0 (.box (oi 0 1) 1) (zg q46) ?_
    refine rsl (ai a1_1) (zg q46) ?_
    refine rs0 (ai (IntKind.i64.wrap (a1_1 - 1))) (zg q46) ?_
    refine rcall (.bool y47) [] [(ai a2_2), (ai 0), (ai (IntKind.i64.wrap (a1_1 - 1)))] _ (caps := []) (args0 := [(ai a2_2), (ai 0), (ai (IntKind.i64.wrap (a1_1 - 1)))]) (gdOK_b (by kernel_rfl) q46) (by kernel_rfl) (ok_spec_l1In h47) hb_spec_l1In ?_
    refine rs0 (.bool y47) (zT q46) ?_
    refine rz0 (.bool y47) ?_
    refine zs q48 ?_
    refine zs q48 ?_
    refine zs q48 ?_
    refine rs0 (.bool false) (zF q48) ?_
    refine rsB 6 ?_
    refine rnil (tn_ ?_)
    obtain rfl := zj h
    exact ⟨_, (weak_ren []), rfl⟩
   refine awp_region_ 24 ?_
   refine rz0 (.bool y3) ?_
   refine rz0 (.bool y3) ?_
   refine zs q46 ?_
   refine zs q46 ?_
   refine zs q46 ?_
   refine zs q46 ?_
   refine zs q46 ?_
   refine zs q46 ?_
   refine rs0 (.bool false) (zF q46) ?_
   refine rsB 11 ?_
   refine rnil (tn_ ?_)
   obtain rfl := zj h
   exact ⟨_, (weak_ren []), rfl⟩
  rintro l45_m6 _ rfl h
  (try dsimp only at h)
  refine awp_ret_ (br_ (tr_ ?_))
  obtain rfl := zj h
  exact ret_ [(.bool l45_m6)] (p_one rfl zl p_nil)
 refine awp_condF_ q44 ?_
 refine awp_skip_ (bn_ (tn_ ?_))
 refine wr_ ?_
 refine seqR ?_
 refine awp_ret_ ?_
 obtain rfl := zj h
 exact ret_ [(.bool false)] (p_one rfl zl p_nil)
def m_spec_cmGood_l1 : AC :=
 (.seq (rg [xo 44 (qb .lss (tm 43) (tm 42))])
 (.seq (.cond (tm 44)
  .skip
  (.exit 0))
 (.seq (.block 1 (.seq (rg [xo 45 (qx 5 (tm 41) (tm 43)), xo 46 (.i (.ld false 5 (tm 45))), xo 6 (.i (.alloc 67 [(.int .i64 0), (.int .i64 0), (.int .i64 0), (.int .i64 0), (.int .i64 0)])), xn (.st false 5 (tm 6) (tm 46))])
 (.seq (rg [xo 47 (qm (tm 0)), xo 48 (.i (.ld false 5 (tm 3))), xo 49 (.i (.ld false 5 (tm 6))), ⟨(some 50), none, (qc 40 [(tm 47), (tm 48), (tm 49)] [[], [none, none, none, none, (some T5)], [none, none, none, none, none]])⟩, xo 51 (.i (.not (tm 50)))])
 (.cond (tm 51)
  (.seq (rg [xo 4 (qm (cb false))])
  .ret)
  .skip))))
 (rg [xo 52 (qb .add (tm 43) (ci 1)), xo 43 (qm (tm 52))]))))
def m_spec_cmGood : AC :=
 (.seq (rg [xo 3 (.i (.box 29 (tm 1))), xo 4 (qm (cb false))])
 (.seq (.seq (rg [xo 7 (qm (tm 0)), xo 8 (qc 29 [(tm 7)] [[]]), xo 9 (.i (.not (tm 8))), xo 10 (qm (tm 9)), ⟨(some 11), (some (10, false)), (qf 0 (tm 3))⟩, ⟨(some 12), (some (10, false)), (ql (tm 11))⟩, ⟨(some 13), (some (10, false)), (qc 30 [(tm 12), (ci 0), (ci 8)] [[], [], []])⟩, ⟨(some 14), (some (10, false)), (.i (.not (tm 13)))⟩, xo 15 (.i (.pick (tm 10) (cb true) (tm 14))), xo 16 (qm (tm 15)), ⟨(some 17), (some (16, false)), (qf 1 (tm 3))⟩, ⟨(some 18), (some (16, false)), (ql (tm 17))⟩, ⟨(some 19), (some (16, false)), (qc 30 [(tm 18), (ci 0), (ci 8)] [[], [], []])⟩, ⟨(some 20), (some (16, false)), (.i (.not (tm 19)))⟩, xo 21 (.i (.pick (tm 16) (cb true) (tm 20))), xo 22 (qm (tm 21)), ⟨(some 23), (some (22, false)), (qf 2 (tm 3))⟩, ⟨(some 24), (some (22, false)), (ql (tm 23))⟩, ⟨(some 25), (some (22, false)), (qc 30 [(tm 24), (ci 0), (ci 40)] [[], [], []])⟩, ⟨(some 26), (some (22, false)), (.i (.not (tm 25)))⟩, xo 27 (.i (.pick (tm 22) (cb true) (tm 26))), xo 28 (qm (tm 27)), ⟨(some 29), (some (28, false)), (qf 3 (tm 3))⟩, ⟨(some 30), (some (28, false)), (ql (tm 29))⟩, ⟨(some 31), (some (28, false)), (qc 30 [(tm 30), (ci 0), (ci 16)] [[], [], []])⟩, ⟨(some 32), (some (28, false)), (.i (.not (tm 31)))⟩, xo 33 (.i (.pick (tm 28) (cb true) (tm 32))), xo 34 (qm (tm 33)), ⟨(some 35), (some (34, false)), (qf 4 (tm 3))⟩, ⟨(some 36), (some (34, false)), (ql (tm 35))⟩, ⟨(some 37), (some (34, false)), (.i (.len (tm 36)))⟩, ⟨(some 38), (some (34, false)), (qb .gtr (tm 37) (ci 120))⟩, xo 39 (.i (.pick (tm 34) (cb true) (tm 38)))])
 (.cond (tm 39)
  (.seq (rg [xo 4 (qm (cb false))])
  .ret)
  .skip))
 (.seq (.seq (rg [xo 40 (qf 4 (tm 3)), xo 41 (ql (tm 40)), xo 42 (.i (.len (tm 41))), xo 43 (qm (ci 0))])
 (.block 0 (.loop m_spec_cmGood_l1)))
 (.seq (rg [xo 4 (qm (cb true))])
 .ret))))
def r_spec_cmGood : List Res := [.tmp 4]
theorem c_spec_cmGood : compiled Tryd.prog Tryd.f17 = some (m_spec_cmGood, r_spec_cmGood) := by kernel_rfl
theorem hb_spec_cmGood : hasBody Tryd.prog 17 = true := by kernel_rfl
def L_spec_cmGood_l1 (a1_4 : List (Int × Int × Int × Int × Int)) (a0 : Int) (a1_0 : Int) (a1_1 : Int) (a1_2 : Int) (a1_3 : Int) (l18_m43 : Nat) : Option (Ctl Nat (Ctl Unit Bool)) :=
 cond (decide (((l18_m43 : Nat) : Int) < ((a1_4.length : Nat) : Int)))
 (Option.bind (a1_4[l18_m43]?) fun x24 =>
 Option.bind (L_spec_cmInstr a0 a1_0 a1_1 a1_2 a1_3 a1_4 x24.1 x24.2.1 x24.2.2.1 x24.2.2.2.1 x24.2.2.2.2) fun y26 =>
 cond (!y26)
  (some (Ctl.out (Ctl.out false)))
  (og (l18_m43 + 1 < 4611686018427387904) <|
  some (Ctl.next (l18_m43 + 1))))
 (some (Ctl.out (Ctl.next ())))
def L_spec_cmGood (a0 : Int) (a1_0 : Int) (a1_1 : Int) (a1_2 : Int) (a1_3 : Int) (a1_4 : List (Int × Int × Int × Int × Int)) : Option Bool :=
 Option.bind (Option.bind (L_spec_fdGood a0) fun y4 =>
 cond (!y4)
  (some true)
  (Option.bind (L_spec_l1In a1_0 0 8) fun y6 =>
  cond (!y6)
   (some true)
   (Option.bind (L_spec_l1In a1_1 0 8) fun y8 =>
   cond (!y8)
    (some true)
    (Option.bind (L_spec_l1In a1_2 0 40) fun y10 =>
    cond (!y10)
     (some true)
     (Option.bind (L_spec_l1In a1_3 0 16) fun y12 =>
     cond (!y12)
      (some true)
      (some (decide (120 < ((a1_4.length : Nat) : Int))))))))) fun l3_m39 =>
cond l3_m39
 (some false)
 (seqC (loopM (fun s_ : Nat => L_spec_cmGood_l1 a1_4 a0 a1_0 a1_1 a1_2 a1_3 s_) 4611686018427387904 0) fun _ =>
 some true)
def rv_spec_cmGood (r : Bool) : RV := ⟨false, [(false, [.sc (.bool r)])]⟩
theorem ok_spec_cmGood {a0 : Int} {a1_0 : Int} {a1_1 : Int} {a1_2 : Int} {a1_3 : Int} {a1_4 : List (Int × Int × Int × Int × Int)} {r : Bool} (h : L_spec_cmGood a0 a1_0 a1_1 a1_2 a1_3 a1_4 = some r) : CallOK Tryd.prog Tab 17 [(ai a0), (.agg [(ai a1_0), (ai a1_1), (ai a1_2), (ai a1_3), (.tree T5 a1_4)])] (rv_spec_cmGood r) := by
 refine call_of_ (by kernel_rfl) Tryd.func17 c_spec_cmGood (n := 53) (by kernel_rfl) (by simp) (tl := [(0, (ai a0)), (1, (.agg [(ai a1_0), (ai a1_1), (ai a1_2), (ai a1_3), (.tree T5 a1_4)]))]) rfl ?_
 unfold m_spec_cmGood
 unfold L_spec_cmGood at h
 refine seqR ?_
 refine awp_seqv_ ?_
 refine awp_seqB h (fun (l3_m39 : Bool) S_ => S_ = ⟨mkTm [(0, (ai a0)), (3, (.box (oi 0 1) 0)), (39, (.bool l3_m39))], mkOb (someL [((oi 0 1), .cells 29 [(ai a1_0), (ai a1_1), (ai a1_2), (ai a1_3), (.tree T5 a1_4)])]), 2⟩) ?_ ?_
 ·intro v_ h
  obtain ⟨y4, h4, h⟩ := ob_some h
  rcases cond_some h with ⟨q5, h⟩ | ⟨q5, h⟩
  ·refine awp_region_ 36 ?_
   refine rz0 (ai a0) ?_
   refine zc (.bool y4) [] [(ai a0)] (ok_spec_fdGood h4) ?_
   refine rz0 (.bool (!y4)) ?_
   refine rz0 (.bool (!y4)) ?_
   refine zs q5 ?_
   refine zs q5 ?_
   refine zs q5 ?_
   refine zs q5 ?_
   refine rs0 (.bool true) (zT q5) ?_
   refine rsB 24 ?_
   refine rnil (tn_ ?_)
   obtain rfl := zj h
   exact ⟨_, (weak_ren [((oi 0 1), (oi 3 1))]), rfl⟩
  obtain ⟨y6, h6, h⟩ := ob_some h
  rcases cond_some h with ⟨q7, h⟩ | ⟨q7, h⟩
  ·refine awp_region_ 36 ?_
   refine rz0 (ai a0) ?_
   refine zc (.bool y4) [] [(ai a0)] (ok_spec_fdGood h4) ?_
   refine rz0 (.bool (!y4)) ?_
   refine rz0 (.bool (!y4)) ?_
   refine rs0 (.box (oi 3 1) 0) (zg q5) ?_
   refine rsl (ai a1_0) (zg q5) ?_
   refine rcall (.bool y6) [] [(ai a1_0), (ai 0), (ai 8)] _ (caps := []) (args0 := [(ai a1_0), (ai 0), (ai 8)]) (gdOK_b (by kernel_rfl) q5) (by kernel_rfl) (ok_spec_l1In h6) hb_spec_l1In ?_
   refine rs0 (.bool (!y6)) (zg q5) ?_
   refine rs0 (.bool (!y6)) (zF q5) ?_
   refine rz0 (.bool (!y6)) ?_
   refine zs q7 ?_
   refine zs q7 ?_
   refine zs q7 ?_
   refine zs q7 ?_
   refine rs0 (.bool true) (zT q7) ?_
   refine rsB 18 ?_
   refine rnil (tn_ ?_)
   obtain rfl := zj h
   exact ⟨_, (weak_ren [((oi 0 1), (oi 3 1))]), rfl⟩
  obtain ⟨y8, h8, h⟩ := ob_some h
  rcases cond_some h with ⟨q9, h⟩ | ⟨q9, h⟩
  ·refine awp_region_ 36 ?_
   refine rz0 (ai a0) ?_
   refine zc (.bool y4) [] [(ai a0)] (ok_spec_fdGood h4) ?_
   refine rz0 (.bool (!y4)) ?_
   refine rz0 (.bool (!y4)) ?_
   refine rs0 (.box (oi 3 1) 0) (zg q5) ?_
   refine rsl (ai a1_0) (zg q5) ?_
   refine rcall (.bool y6) [] [(ai a1_0), (ai 0), (ai 8)] _ (caps := []) (args0 := [(ai a1_0), (ai 0), (ai 8)]) (gdOK_b (by kernel_rfl) q5) (by kernel_rfl) (ok_spec_l1In h6) hb_spec_l1In ?_
   refine rs0 (.bool (!y6)) (zg q5) ?_
   refine rs0 (.bool (!y6)) (zF q5) ?_
   refine rz0 (.bool (!y6)) ?_
   refine rs0 (.box (oi 3 1) 1) (zg q7) ?_
   refine rsl (ai a1_1) (zg q7) ?_
   refine rcall (.bool y8) [] [(ai a1_1), (ai 0), (ai 8)] _ (caps := []) (args0 := [(ai a1_1), (ai 0), (ai 8)]) (gdOK_b (by kernel_rfl) q7) (by kernel_rfl) (ok_spec_l1In h8) hb_spec_l1In ?_
   refine rs0 (.bool (!y8)) (zg q7) ?_
   refine rs0 (.bool (!y8)) (zF q7) ?_
   refine rz0 (.bool (!y8)) ?_
   refine zs q9 ?_
   refine zs q9 ?_
   refine zs q9 ?_
   refine zs q9 ?_
   refine rs0 (.bool true) (zT q9) ?_
   refine rsB 12 ?_
   refine rnil (tn_ ?_)
   obtain rfl := zj h
   exact ⟨_, (weak_ren [((oi 0 1), (oi 3 1))]), rfl⟩
  obtain ⟨y10, h10, h⟩ := ob_some h
  rcases cond_some h with ⟨q11, h⟩ | ⟨q11, h⟩
  ·refine awp_region_ 36 ?_
   refine rz0 (ai a0) ?_
   refine zc (.bool y4) [] [(ai a0)] (ok_spec_fdGood h4) ?_
   refine rz0 (.bool (!y4)) ?_
   refine rz0 (.bool (!y4)) ?_
   refine rs0 (.box (oi 3 1) 0) (zg q5) ?_
   refine rsl (ai a1_0) (zg q5) ?_
   refine rcall (.bool y6) [] [(ai a1_0), (ai 0), (ai 8)] _ (caps := []) (args0 := [(ai a1_0), (ai 0), (ai 8)]) (gdOK_b (by kernel_rfl) q5) (by kernel_rfl) (ok_spec_l1In h6) hb_spec_l1In ?_
   refine rs0 (.bool (!y6)) (zg q5) ?_
   refine rs0 (.bool (!y6)) (zF q5) ?_
   refine rz0 (.bool (!y6)) ?_
   refine rs0 (.box (oi 3 1) 1) (zg q7) ?_
   refine rsl (ai a1_1) (zg q7) ?_
   refine rcall (.bool y8) [] [(ai a1_1), (ai 0), (ai 8)] _ (caps := []) (args0 := [(ai a1_1), (ai 0), (ai 8)]) (gdOK_b (by kernel_rfl) q7) (by kernel_rfl) (ok_spec_l1In h8) hb_spec_l1In ?_
   refine rs0 (.bool (!y8)) (zg q7) ?_
   refine rs0 (.bool (!y8)) (zF q7) ?_
   refine rz0 (.bool (!y8)) ?_
   refine rs0 (.box (oi 3 1) 2) (zg q9) ?_
   refine rsl (ai a1_2) (zg q9) ?_
   refine rcall (.bool y10) [] [(ai a1_2), (ai 0), (ai 40)] _ (caps := []) (args0 := [(ai a1_2), (ai 0), (ai 40)]) (gdOK_b (by kernel_rfl) q9) (by kernel_rfl) (ok_spec_l1In h10) hb_spec_l1In ?_
   refine rs0 (.bool (!y10)) (zg q9) ?_
   refine rs0 (.bool (!y10)) (zF q9) ?_
   refine rz0 (.bool (!y10)) ?_
   refine zs q11 ?_
   refine zs q11 ?_
   refine zs q11 ?_
   refine zs q11 ?_
   refine rs0 (.bool true) (zT q11) ?_
   refine rsB 6 ?_
   refine rnil (tn_ ?_)
   obtain rfl := zj h
   exact ⟨_, (weak_ren [((oi 0 1), (oi 3 1))]), rfl⟩
  obtain ⟨y12, h12, h⟩ := ob_some h
  rcases cond_some h with ⟨q13, h⟩ | ⟨q13, h⟩
  ·refine awp_region_ 36 ?_
   refine rz0 (ai a0) ?_
   refine zc (.bool y4) [] [(ai a0)] (ok_spec_fdGood h4) ?_
   refine rz0 (.bool (!y4)) ?_
   refine rz0 (.bool (!y4)) ?_
   refine rs0 (.box (oi 3 1) 0) (zg q5) ?_
   refine rsl (ai a1_0) (zg q5) ?_
   refine rcall (.bool y6) [] [(ai a1_0), (ai 0), (ai 8)] _ (caps := []) (args0 := [(ai a1_0), (ai 0), (ai 8)]) (gdOK_b (by kernel_rfl) q5) (by kernel_rfl) (ok_spec_l1In h6) hb_spec_l1In ?_
   refine rs0 (.bool (!y6)) (zg q5) ?_
   refine rs0 (.bool (!y6)) (zF q5) ?_
   refine rz0 (.bool (!y6)) ?_
   refine rs0 (.box (oi 3 1) 1) (zg q7) ?_
   refine rsl (ai a1_1) (zg q7) ?_
   refine rcall (.bool y8) [] [(ai a1_1), (ai 0), (ai 8)] _ (caps := []) (args0 := [(ai a1_1), (ai 0), (ai 8)]) (gdOK_b (by kernel_rfl) q7) (by kernel_rfl) (ok_spec_l1In h8) hb_spec_l1In ?_
   refine rs0 (.bool (!y8)) (zg q7) ?_
   refine rs0 (.bool (!y8)) (zF q7) ?_
   refine rz0 (.bool (!y8)) ?_
   refine rs0 (.box (oi 3 1) 2) (zg q9) ?_
   refine rsl (ai a1_2) (zg q9) ?_
   refine rcall (.bool y10) [] [(ai a1_2), (ai 0), (ai 40)] _ (caps := []) (args0 := [(ai a1_2), (ai 0), (ai 40)]) (gdOK_b (by kernel_rfl) q9) (by kernel_rfl) (ok_spec_l1In h10) hb_spec_l1In ?_
   refine rs0 (.bool (!y10)) (zg q9) ?_
   refine rs0 (.bool (!y10)) (zF q9) ?_
   refine rz0 (.bool (!y10)) ?_
   refine rs0 (.box (oi 3 1) 3) (zg q11) ?_
   refine rsl (ai a1_3) (zg q11) ?_
   refine rcall (.bool y12) [] [(ai a1_3), (ai 0), (ai 16)] _ (caps := []) (args0 := [(ai a1_3), (ai 0), (ai 16)]) (gdOK_b (by kernel_rfl) q11) (by kernel_rfl) (ok_spec_l1In h12) hb_spec_l1In ?_
   refine rs0 (.bool (!y12)) (zg q11) ?_
   refine rs0 (.bool (!y12)) (zF q11) ?_
   refine rz0 (.bool (!y12)) ?_
   refine zs q13 ?_
   refine zs q13 ?_
   refine zs q13 ?_
   refine zs q13 ?_
   refine rs0 (.bool true) (zT q13) ?_
   refine rnil (tn_ ?_)
   obtain rfl := zj h
   exact ⟨_, (weak_ren [((oi 0 1), (oi 3 1))]), rfl⟩
  refine awp_region_ 36 ?_
  refine rz0 (ai a0) ?_
  refine zc (.bool y4) [] [(ai a0)] (ok_spec_fdGood h4) ?_
  refine rz0 (.bool (!y4)) ?_
  refine rz0 (.bool (!y4)) ?_
  refine rs0 (.box (oi 3 1) 0) (zg q5) ?_
  refine rsl (ai a1_0) (zg q5) ?_
  refine rcall (.bool y6) [] [(ai a1_0), (ai 0), (ai 8)] _ (caps := []) (args0 := [(ai a1_0), (ai 0), (ai 8)]) (gdOK_b (by kernel_rfl) q5) (by kernel_rfl) (ok_spec_l1In h6) hb_spec_l1In ?_
  refine rs0 (.bool (!y6)) (zg q5) ?_
  refine rs0 (.bool (!y6)) (zF q5) ?_
  refine rz0 (.bool (!y6)) ?_
  refine rs0 (.box (oi 3 1) 1) (zg q7) ?_
  refine rsl (ai a1_1) (zg q7) ?_
  refine rcall (.bool y8) [] [(ai a1_1), (ai 0), (ai 8)] _ (caps := []) (args0 := [(ai a1_1), (ai 0), (ai 8)]) (gdOK_b (by kernel_rfl) q7) (by kernel_rfl) (ok_spec_l1In h8) hb_spec_l1In ?_
  refine rs0 (.bool (!y8)) (zg q7) ?_
  refine rs0 (.bool (!y8)) (zF q7) ?_
  refine rz0 (.bool (!y8)) ?_
  refine rs0 (.box (oi 3 1) 2) (zg q9) ?_
  refine rsl (ai a1_2) (zg q9) ?_
  refine rcall (.bool y10) [] [(ai a1_2), (ai 0), (ai 40)] _ (caps := []) (args0 := [(ai a1_2), (ai 0), (ai 40)]) (gdOK_b (by kernel_rfl) q9) (by kernel_rfl) (ok_spec_l1In h10) hb_spec_l1In ?_
  refine rs0 (.bool (!y10)) (zg q9) ?_
  refine rs0 (.bool (!y10)) (zF q9) ?_
  refine rz0 (.bool (!y10)) ?_
  refine rs0 (.box (oi 3 1) 3) (zg q11) ?_
  refine rsl (ai a1_3) (zg q11) ?_
  refine rcall (.bool y12) [] [(ai a1_3), (ai 0), (ai 16)] _ (caps := []) (args0 := [(ai a1_3), (ai 0), (ai 16)]) (gdOK_b (by kernel_rfl) q11) (by kernel_rfl) (ok_spec_l1In h12) hb_spec_l1In ?_
  refine rs0 (.bool (!y12)) (zg q11) ?_
  refine rs0 (.bool (!y12)) (zF q11) ?_
  refine rz0 (.bool (!y12)) ?_
  refine rs0 (.box (oi 3 1) 4) (zg q13) ?_
  refine rsl (.tree T5 a1_4) (zg q13) ?_
  refine rs0 (ai ((a1_4.length : Nat) : Int)) (zg q13) ?_
  refine rs0 (.bool (decide (120 < ((a1_4.length : Nat) : Int)))) (zg q13) ?_
  refine rs0 (.bool (decide (120 < ((a1_4.length : Nat) : Int)))) (zF q13) ?_
  refine rnil (tn_ ?_)
  obtain rfl := zj h
  exact ⟨_, (weak_ren [((oi 0 1), (oi 3 1))]), rfl⟩
 rintro l3_m39 _ rfl h
 (try dsimp only at h)
 rcases cond_some h with ⟨q14, h⟩ | ⟨q14, h⟩
 ·refine awp_condT_ q14 ?_
  refine seqR ?_
  refine awp_ret_ (tr_ ?_)
  obtain rfl := zj h
  exact ret_ [(.bool false)] (p_one rfl zl p_nil)
 refine awp_condF_ q14 ?_
 refine awp_skip_ (tn_ ?_)
 refine wr_ ?_
 refine awp_seqC h (fun (_ : Unit) S_ => S_ = ⟨mkTm [], mkOb (someL []), 2⟩) ?_ ?_
 ·intro v_ h hk16
  refine seqR ?_
  refine awp_block_ ?_
  refine awp_loopL h (fun (l18_m43 : Nat) S_ => S_ = ⟨mkTm [(0, (ai a0)), (3, (.box (oi 0 1) 0)), (41, (.tree T5 a1_4)), (42, (ai ((a1_4.length : Nat) : Int))), (43, (ai ((l18_m43 : Nat) : Int)))], mkOb (someL [((oi 0 1), .cells 29 [(ai a1_0), (ai a1_1), (ai a1_2), (ai a1_3), (.tree T5 a1_4)])]), 2⟩) ⟨_, (weak_ren []), rfl⟩ ?_
  rintro n_ l18_m43 _ c_ rfl h hn18
  (try dsimp only at h)
  unfold L_spec_cmGood_l1 at h
  unfold m_spec_cmGood_l1
  refine seqR ?_
  refine awp_seqv_ ?_
  rcases cond_some h with ⟨q21, h⟩ | ⟨q21, h⟩
  ·have q21_ := of_decide_eq_true q21
   refine awp_condT_ q21 ?_
   refine awp_skip_ (tn_ ?_)
   refine wr_ ?_
   refine awp_seqv_ ?_
   refine awp_block_ ?_
   refine awp_seqv_ ?_
   obtain ⟨x24, e24, h⟩ := ob_some h
   refine awp_region_ 7 ?_
   refine rs0 (.telt T5 x24 0) (zi (t := T5) (xs := a1_4) (k := .i64) (m := ((l18_m43 : Nat) : Int)) (nat_nn _) e24) ?_
   refine rsB 3 ?_
   refine rnil (tn_ ?_)
   refine wr_ ?_
   refine awp_seqv_ ?_
   obtain ⟨y26, h26, h⟩ := ob_some h
   refine awp_region_ 12 ?_
   refine rz0 (ai a0) ?_
   refine rzl (.agg [(ai a1_0), (ai a1_1), (ai a1_2), (ai a1_3), (.tree T5 a1_4)]) ?_
   refine rzl (.agg [(ai x24.1), (ai x24.2.1), (ai x24.2.2.1), (ai x24.2.2.2.1), (ai x24.2.2.2.2)]) ?_
   refine zc (.bool y26) [] [(ai a0), (.agg [(ai a1_0), (ai a1_1), (ai a1_2), (ai a1_3), (.tree T5 a1_4)]), (.agg [(ai x24.1), (ai x24.2.1), (ai x24.2.2.1), (ai x24.2.2.2.1), (ai x24.2.2.2.2)])] (ok_spec_cmInstr h26) ?_
   refine rsB 1 ?_
   refine rnil (tn_ ?_)
   refine wr_ ?_
   rcases cond_some h with ⟨q27, h⟩ | ⟨q27, h⟩
   ·refine awp_condT_ q27 ?_
    refine seqR ?_
    refine awp_ret_ (br_ (tr_ (tr_ (br_ (tr_ ?_)))))
    obtain rfl := zj h
    have h := hn18
    (try dsimp only at h)
    obtain rfl := zj h
    have h := hk16
    (try dsimp only at h)
    obtain rfl := zj h
    exact ret_ [(.bool false)] (p_one rfl zl p_nil)
   refine awp_condF_ q27 ?_
   refine awp_skip_ (bn_ (tn_ ?_))
   refine wr_ ?_
   obtain ⟨g29, h⟩ := og_some h
   refine awp_region_ 14 ?_
   refine rs0 (ai ((l18_m43 + 1 : Nat) : Int)) (za g29) ?_
   refine rsB 1 ?_
   refine rnil (tn_ ?_)
   obtain rfl := zj h
   exact ⟨l18_m43 + 1, _, (weak_ren []), rfl, hn18⟩
  have q21_ := of_decide_eq_false q21
  refine awp_condF_ q21 ?_
  refine awp_exit_ (te_ (te_ (be_ (tn_ ?_))))
  obtain rfl := zj h
  have h := hn18
  (try dsimp only at h)
  obtain rfl := zj h
  exact ⟨(), _, rfl, (weak_ren []), rfl⟩
 rintro _ _ rfl h
 (try dsimp only at h)
 refine seqR ?_
 refine awp_ret_ ?_
 obtain rfl := zj h
 exact ret_ [(.bool true)] (p_one rfl zl p_nil)
def m_spec_cnNone_l1 : AC :=
 (.seq (rg [xo 10 (qb .lss (tm 9) (tm 8))])
 (.seq (.cond (tm 10)
  .skip
  (.exit 0))
 (.seq (.block 1 (.seq (rg [xo 11 (qm (tm 9)), xo 4 (qm (tm 11))])
 (rg [xo 12 (qm (tm 3)), xo 13 (qm (tm 4)), xo 14 (qx 1 (tm 12) (tm 13)), xn (qs (tm 14) (ci (-1)))])))
 (rg [xo 15 (qb .add (tm 9) (ci 1)), xo 9 (qm (tm 15))]))))
def m_spec_cnNone : AC :=
 (.seq (rg [xo 2 (qm (.cst .nils))])
 (.seq (rg [xo 5 (qm (tm 0)), xo 6 (.make 3 .int 8 (tm 5) (tm 5)), xo 3 (qm (tm 6))])
 (.seq (.seq (rg [xo 7 (qm (tm 3)), xo 8 (.i (.len (tm 7))), xo 9 (qm (ci 0))])
 (.block 0 (.loop m_spec_cnNone_l1)))
 (.seq (rg [xo 16 (qm (tm 3)), xo 2 (qm (tm 16))])
 .ret))))
def r_spec_cnNone : List Res := [.tmp 2]
theorem c_spec_cnNone : compiled Tryd.prog Tryd.f38 = some (m_spec_cnNone, r_spec_cnNone) := by kernel_rfl
def L_spec_cnNone_l1 (a0 : Int) (l6_m9 : Nat) (l6_m3 : List Int) : Option (Ctl (Nat × List Int) (List Int)) :=
 cond (decide (((l6_m9 : Nat) : Int) < ((a0.toNat : Nat) : Int)))
 (Option.bind (l6_m3[l6_m9]?) fun x12 =>
 og (l6_m9 + 1 < 4611686018427387904) <|
 some (Ctl.next (l6_m9 + 1, l6_m3.set l6_m9 (-1))))
 (some (Ctl.out l6_m3))
def L_spec_cnNone (a0 : Int) : Option (List Int) :=
 og (0 <= a0 ∧ a0 <= a0 ∧ a0 <= 1073741824 ∧ (8 : Int) * a0 <= 140737488355328) <|
Option.bind (loopM (fun s_ : Nat × List Int => L_spec_cnNone_l1 a0 s_.1 s_.2) 4611686018427387904 (0, List.replicate a0.toNat (0 : Int))) fun l4_m3 =>
some l4_m3
def rv_spec_cnNone (r : List Int) : RV := ⟨false, [(false, [.new 3 .int r])]⟩
theorem ok_spec_cnNone {a0 : Int} {r : List Int} (h : L_spec_cnNone a0 = some r) : CallOK Tryd.prog Tab 38 [(ai a0)] (rv_spec_cnNone r) := by
 refine call_of_ (by kernel_rfl) Tryd.func38 c_spec_cnNone (n := 17) (by kernel_rfl) (by simp) (tl := [(0, (ai a0))]) rfl ?_
 unfold m_spec_cnNone
 unfold L_spec_cnNone at h
 refine seqR ?_
 refine awp_seqv_ ?_
 obtain ⟨g3, h⟩ := og_some h
 refine awp_region_ 5 ?_
 refine rz0 (ai a0) ?_
 refine rs1 (.own (oi 6 3) .int 0 a0.toNat) (oi 6 3) (.arr 3 .int (List.replicate a0.toNat (0 : Int))) (s_make (t := .int) (k := .i64) (k' := .i64) (m := a0) (m' := a0) (by kernel_rfl) (by kernel_rfl) g3 rfl) ?_
 refine rsB 1 ?_
 refine rnil (tn_ ?_)
 refine wr_ ?_
 refine awp_seqB h (fun (l4_m3 : List Int) S_ => S_ = ⟨mkTm [(3, (.own (oi 0 1) .int 0 l4_m3.length))], mkOb (someL [((oi 0 1), .arr 3 .int l4_m3)]), 2⟩) ?_ ?_
 ·intro v_ h
  refine seqR ?_
  refine awp_block_ ?_
  refine awp_loopL h (fun t_ S_ => ∃ (l6_m9 : Nat), ∃ (l6_m3 : List Int), t_ = (l6_m9, l6_m3) ∧ S_ = ⟨mkTm [(3, (.own (oi 0 1) .int 0 l6_m3.length)), (8, (ai ((a0.toNat : Nat) : Int))), (9, (ai ((l6_m9 : Nat) : Int)))], mkOb (someL [((oi 0 1), .arr 3 .int l6_m3)]), 2⟩) ⟨_, ((weak_tm_ 3 (.own (oi 6 3) .int 0 a0.toNat) (.own (oi 6 3) .int 0 ((List.replicate a0.toNat (0 : Int)).length)) (by kernel_rfl) (congrArg (fun z_ => ((.own (oi 6 3) .int 0 z_) : AV)) (List.length_replicate.symm : a0.toNat = (List.replicate a0.toNat (0 : Int)).length))).trans (weak_ren [((oi 0 1), (oi 6 3))])), ⟨0, List.replicate a0.toNat (0 : Int), rfl, rfl⟩⟩ ?_
  rintro n_ _ _ c_ ⟨l6_m9, l6_m3, rfl, rfl⟩ h hn6
  (try dsimp only at h)
  unfold L_spec_cnNone_l1 at h
  unfold m_spec_cnNone_l1
  refine seqR ?_
  refine awp_seqv_ ?_
  rcases cond_some h with ⟨q9, h⟩ | ⟨q9, h⟩
  ·have q9_ := of_decide_eq_true q9
   refine awp_condT_ q9 ?_
   refine awp_skip_ (tn_ ?_)
   refine wr_ ?_
   refine awp_seqv_ ?_
   refine awp_block_ ?_
   refine seqR ?_
   obtain ⟨x12, e12, h⟩ := ob_some h
   refine awp_region_ 9 ?_
   refine rz0 (.own (oi 0 1) .int 0 l6_m3.length) ?_
   refine rz0 (ai ((l6_m9 : Nat) : Int)) ?_
   refine rs0 (.elt (oi 0 1) l6_m9 0) (zo (t := .int) (o := (oi 0 1)) (len := l6_m3.length) (k := .i64) (m := ((l6_m9 : Nat) : Int)) (nat_nn _) (getN_lt e12)) ?_
   refine rsn2 (oi 0 1) (oi 0 1) (.arr 3 .int (l6_m3.set l6_m9 (-1))) (s_stE (i := (oi 0 1)) (j := l6_m9) (k := 0) (e := 3) (t := .int) (xs := l6_m3) (cs := [(ai (-1))]) (x1 := (-1)) (by kernel_rfl) (by kernel_rfl) e12 (by kernel_rfl) (by kernel_rfl)) ?_
   refine rnil (bn_ (tn_ ?_))
   refine wr_ ?_
   obtain ⟨g13, h⟩ := og_some h
   refine awp_region_ 11 ?_
   refine rs0 (ai ((l6_m9 + 1 : Nat) : Int)) (za g13) ?_
   refine rsB 1 ?_
   refine rnil (tn_ ?_)
   obtain rfl := zj h
   exact ⟨(l6_m9 + 1, l6_m3.set l6_m9 (-1)), _, ((weak_tm_ 3 (.own (oi 0 1) .int 0 l6_m3.length) (.own (oi 0 1) .int 0 ((l6_m3.set l6_m9 (-1)).length)) (by kernel_rfl) (congrArg (fun z_ => ((.own (oi 0 1) .int 0 z_) : AV)) (((rfl : l6_m3.length = l6_m3.length).trans List.length_set.symm) : l6_m3.length = (l6_m3.set l6_m9 (-1)).length))).trans (weak_ren [])), ⟨l6_m9 + 1, l6_m3.set l6_m9 (-1), rfl, rfl⟩, hn6⟩
  have q9_ := of_decide_eq_false q9
  refine awp_condF_ q9 ?_
  refine awp_exit_ (te_ (te_ (be_ (tn_ ?_))))
  obtain rfl := zj h
  have h := hn6
  (try dsimp only at h)
  obtain rfl := zj h
  exact ⟨_, (weak_ren []), rfl⟩
 rintro l4_m3 _ rfl h
 (try dsimp only at h)
 refine seqR ?_
 refine awp_ret_ ?_
 obtain rfl := zj h
 exact ret_ [(.own (oi 0 1) .int 0 l4_m3.length)] (p_one rfl (l_own (by kernel_rfl) rfl) p_nil)
def m_impl_repeated_l1 : AC :=
 (.seq (rg [xo 12 (qb .lss (tm 11) (tm 10))])
 (.seq (.cond (tm 12)
  .skip
  (.exit 0))
 (.seq (.block 1 (.seq (rg [xo 13 (qm (tm 11)), xo 6 (qm (tm 13))])
 (rg [xo 14 (qm (tm 5)), xo 15 (qm (tm 6)), xo 16 (qm (tm 0)), xo 17 (qx 1 (tm 14) (tm 15)), xn (qs (tm 17) (tm 16))])))
 (rg [xo 18 (qb .add (tm 11) (ci 1)), xo 11 (qm (tm 18))]))))
def m_impl_repeated : AC :=
 (.seq (rg [xo 4 (qm (.cst .nils))])
 (.seq (rg [xo 7 (qm (tm 1)), xo 8 (qc 67 [(tm 7)] [[]]), xo 5 (qm (tm 8))])
 (.seq (.seq (rg [xo 9 (qm (tm 5)), xo 10 (.i (.len (tm 9))), xo 11 (qm (ci 0))])
 (.block 0 (.loop m_impl_repeated_l1)))
 (.seq (rg [xo 19 (qm (tm 5)), xo 4 (qm (tm 19))])
 .ret))))
def r_impl_repeated : List Res := [.tmp 4]
theorem c_impl_repeated : compiled Tryd.prog Tryd.f50 = some (m_impl_repeated, r_impl_repeated) := by kernel_rfl
def L_impl_repeated_l1 (y3 : List Int) (a0 : Int) (l6_m11 : Nat) (l6_m5 : List Int) : Option (Ctl (Nat × List Int) (List Int)) :=
 cond (decide (((l6_m11 : Nat) : Int) < ((y3.length : Nat) : Int)))
 (Option.bind (l6_m5[l6_m11]?) fun x12 =>
 og (l6_m11 + 1 < 4611686018427387904) <|
 some (Ctl.next (l6_m11 + 1, l6_m5.set l6_m11 a0)))
 (some (Ctl.out l6_m5))
def L_impl_repeated (a0 : Int) (a1 : Int) : Option (List Int) :=
 Option.bind (L_impl_zeros a1) fun y3 =>
Option.bind (loopM (fun s_ : Nat × List Int => L_impl_repeated_l1 y3 a0 s_.1 s_.2) 4611686018427387904 (0, y3)) fun l4_m5 =>
some l4_m5
def rv_impl_repeated (r : List Int) : RV := ⟨false, [(false, [.new 3 .int r])]⟩
theorem ok_impl_repeated {a0 : Int} {a1 : Int} {r : List Int} (h : L_impl_repeated a0 a1 = some r) : CallOK Tryd.prog Tab 50 [(ai a0), (ai a1)] (rv_impl_repeated r) := by
 refine call_of_ (by kernel_rfl) Tryd.func50 c_impl_repeated (n := 20) (by kernel_rfl) (by simp) (tl := [(0, (ai a0)), (1, (ai a1))]) rfl ?_
 unfold m_impl_repeated
 unfold L_impl_repeated at h
 refine seqR ?_
 refine awp_seqv_ ?_
 obtain ⟨y3, h3, h⟩ := ob_some h
 refine awp_region_ 5 ?_
 refine rz0 (ai a1) ?_
 refine zc (.own (oi 128 3) .int 0 y3.length) [((oi 128 3), some (.arr 3 .int y3))] [(ai a1)] (ok_impl_zeros h3) ?_
 refine rsB 1 ?_
 refine rnil (tn_ ?_)
 refine wr_ ?_
 refine awp_seqB h (fun (l4_m5 : List Int) S_ => S_ = ⟨mkTm [(5, (.own (oi 0 1) .int 0 l4_m5.length))], mkOb (someL [((oi 0 1), .arr 3 .int l4_m5)]), 2⟩) ?_ ?_
 ·intro v_ h
  refine seqR ?_
  refine awp_block_ ?_
  refine awp_loopL h (fun t_ S_ => ∃ (l6_m11 : Nat), ∃ (l6_m5 : List Int), t_ = (l6_m11, l6_m5) ∧ S_ = ⟨mkTm [(0, (ai a0)), (5, (.own (oi 0 1) .int 0 l6_m5.length)), (10, (ai ((y3.length : Nat) : Int))), (11, (ai ((l6_m11 : Nat) : Int)))], mkOb (someL [((oi 0 1), .arr 3 .int l6_m5)]), 2⟩) ⟨_, (weak_ren [((oi 0 1), (oi 128 3))]), ⟨0, y3, rfl, rfl⟩⟩ ?_
  rintro n_ _ _ c_ ⟨l6_m11, l6_m5, rfl, rfl⟩ h hn6
  (try dsimp only at h)
  unfold L_impl_repeated_l1 at h
  unfold m_impl_repeated_l1
  refine seqR ?_
  refine awp_seqv_ ?_
  rcases cond_some h with ⟨q9, h⟩ | ⟨q9, h⟩
  ·have q9_ := of_decide_eq_true q9
   refine awp_condT_ q9 ?_
   refine awp_skip_ (tn_ ?_)
   refine wr_ ?_
   refine awp_seqv_ ?_
   refine awp_block_ ?_
   refine seqR ?_
   obtain ⟨x12, e12, h⟩ := ob_some h
   refine awp_region_ 10 ?_
   refine rz0 (.own (oi 0 1) .int 0 l6_m5.length) ?_
   refine rz0 (ai ((l6_m11 : Nat) : Int)) ?_
   refine rz0 (ai a0) ?_
   refine rs0 (.elt (oi 0 1) l6_m11 0) (zo (t := .int) (o := (oi 0 1)) (len := l6_m5.length) (k := .i64) (m := ((l6_m11 : Nat) : Int)) (nat_nn _) (getN_lt e12)) ?_
   refine rsn2 (oi 0 1) (oi 0 1) (.arr 3 .int (l6_m5.set l6_m11 a0)) (s_stE (i := (oi 0 1)) (j := l6_m11) (k := 0) (e := 3) (t := .int) (xs := l6_m5) (cs := [(ai a0)]) (x1 := a0) (by kernel_rfl) (by kernel_rfl) e12 (by kernel_rfl) (by kernel_rfl)) ?_
   refine rnil (bn_ (tn_ ?_))
   refine wr_ ?_
   obtain ⟨g13, h⟩ := og_some h
   refine awp_region_ 12 ?_
   refine rs0 (ai ((l6_m11 + 1 : Nat) : Int)) (za g13) ?_
   refine rsB 1 ?_
   refine rnil (tn_ ?_)
   obtain rfl := zj h
   exact ⟨(l6_m11 + 1, l6_m5.set l6_m11 a0), _, ((weak_tm_ 5 (.own (oi 0 1) .int 0 l6_m5.length) (.own (oi 0 1) .int 0 ((l6_m5.set l6_m11 a0).length)) (by kernel_rfl) (congrArg (fun z_ => ((.own (oi 0 1) .int 0 z_) : AV)) (((rfl : l6_m5.length = l6_m5.length).trans List.length_set.symm) : l6_m5.length = (l6_m5.set l6_m11 a0).length))).trans (weak_ren [])), ⟨l6_m11 + 1, l6_m5.set l6_m11 a0, rfl, rfl⟩, hn6⟩
  have q9_ := of_decide_eq_false q9
  refine awp_condF_ q9 ?_
  refine awp_exit_ (te_ (te_ (be_ (tn_ ?_))))
  obtain rfl := zj h
  have h := hn6
  (try dsimp only at h)
  obtain rfl := zj h
  exact ⟨_, (weak_ren []), rfl⟩
 rintro l4_m5 _ rfl h
 (try dsimp only at h)
 refine seqR ?_
 refine awp_ret_ ?_
 obtain rfl := zj h
 exact ret_ [(.own (oi 0 1) .int 0 l4_m5.length)] (p_one rfl (l_own (by kernel_rfl) rfl) p_nil)
def m_spec_cmLater_l1 : AC :=
 (.seq (rg [xo 15 (qb .lss (tm 14) (tm 13))])
 (.seq (.cond (tm 15)
  .skip
  (.exit 0))
 (.seq (.block 1 (.seq (rg [xo 16 (qx 1 (tm 12) (tm 14)), xo 17 (ql (tm 16)), xo 8 (qm (tm 17))])
 (.seq (rg [xo 18 (qm (tm 8)), xo 19 (qm (tm 2)), xo 20 (qc 57 [(tm 18), (tm 19)] [[(some .int)], []])])
 (.cond (tm 20)
  (.seq (rg [xo 6 (qm (cb true))])
  .ret)
  .skip))))
 (rg [xo 21 (qb .add (tm 14) (ci 1)), xo 14 (qm (tm 21))]))))
def m_spec_cmLater : AC :=
 (.seq (rg [xo 6 (qm (cb false))])
 (.seq (.seq (rg [xo 9 (qm (tm 0)), xo 10 (qm (tm 1)), xo 11 (qb .add (tm 10) (ci 1)), xo 12 (.slice 1 (tm 9) (some (tm 11)) none none), xo 13 (.i (.len (tm 12))), xo 14 (qm (ci 0))])
 (.block 0 (.loop m_spec_cmLater_l1)))
 (.seq (rg [xo 6 (qm (cb false))])
 .ret)))
def r_spec_cmLater : List Res := [.tmp 6]
theorem c_spec_cmLater : compiled Tryd.prog Tryd.f39 = some (m_spec_cmLater, r_spec_cmLater) := by kernel_rfl
theorem hb_spec_cmLater : hasBody Tryd.prog 39 = true := by kernel_rfl
def L_spec_cmLater_l1 (a0 : List (List Int)) (a1 : Int) (a2 : Int) (l5_m14 : Nat) : Option (Ctl Nat (Ctl Unit Bool)) :=
 cond (decide (((l5_m14 : Nat) : Int) < (((a0.drop ((IntKind.i64.wrap (a1 + 1)).toNat)).length : Nat) : Int)))
 (Option.bind ((a0.drop ((IntKind.i64.wrap (a1 + 1)).toNat))[l5_m14]?) fun x11 =>
 Option.bind (L_spec_l1Has x11 a2) fun y13 =>
 cond y13
  (some (Ctl.out (Ctl.out true)))
  (og (l5_m14 + 1 < 4611686018427387904) <|
  some (Ctl.next (l5_m14 + 1))))
 (some (Ctl.out (Ctl.next ())))
def L_spec_cmLater (a0 : List (List Int)) (a1 : Int) (a2 : Int) : Option Bool :=
 seqC (og ((0 : Int) <= IntKind.i64.wrap (a1 + 1) ∧ IntKind.i64.wrap (a1 + 1) <= ((a0.length : Nat) : Int) ∧ ((a0.length : Nat) : Int) <= ((a0.length : Nat) : Int) ∧ ((a0.length : Nat) : Int) <= ((a0.length : Nat) : Int)) <|
 loopM (fun s_ : Nat => L_spec_cmLater_l1 a0 a1 a2 s_) 4611686018427387904 0) fun _ =>
some false
def rv_spec_cmLater (r : Bool) : RV := ⟨false, [(false, [.sc (.bool r)])]⟩
theorem ok_spec_cmLater {a0 : List (List Int)} {a1 : Int} {a2 : Int} {r : Bool} (h : L_spec_cmLater a0 a1 a2 = some r) : CallOK Tryd.prog Tab 39 [(.tree (.slice .int) a0), (ai a1), (ai a2)] (rv_spec_cmLater r) := by
 refine call_of_ (by kernel_rfl) Tryd.func39 c_spec_cmLater (n := 22) (by kernel_rfl) (by simp) (tl := [(0, (.tree (.slice .int) a0)), (1, (ai a1)), (2, (ai a2))]) rfl ?_
 unfold m_spec_cmLater
 unfold L_spec_cmLater at h
 refine seqR ?_
 refine awp_seqC h (fun (_ : Unit) S_ => S_ = ⟨mkTm [], mkOb (someL []), 2⟩) ?_ ?_
 ·intro v_ h hk2
  refine awp_seqv_ ?_
  obtain ⟨g4, h⟩ := og_some h
  refine awp_region_ 8 ?_
  refine rz0 (.tree (.slice .int) a0) ?_
  refine rz0 (ai a1) ?_
  refine rz0 (ai (IntKind.i64.wrap (a1 + 1))) ?_
  refine rs0 (.tree (.slice .int) (a0.drop ((IntKind.i64.wrap (a1 + 1)).toNat))) (s_sliceT (t := (.slice .int)) (xs := a0) (zs := a0.drop ((IntKind.i64.wrap (a1 + 1)).toNat)) (l := IntKind.i64.wrap (a1 + 1)) (h := ((a0.length : Nat) : Int)) (m := ((a0.length : Nat) : Int)) (by kernel_rfl) (by kernel_rfl) (by kernel_rfl) (by kernel_rfl) rfl g4 (by first | (rw [show ((a0.length : Nat) : Int).toNat = a0.length from rfl, List.take_length]; done) | (rw [show ((a0.length : Nat) : Int).toNat = a0.length from rfl, List.take_length]; rfl))) ?_
  refine rsB 2 ?_
  refine rnil (tn_ ?_)
  refine wr_ ?_
  refine awp_block_ ?_
  refine awp_loopL h (fun (l5_m14 : Nat) S_ => S_ = ⟨mkTm [(2, (ai a2)), (12, (.tree (.slice .int) (a0.drop ((IntKind.i64.wrap (a1 + 1)).toNat)))), (13, (ai (((a0.drop ((IntKind.i64.wrap (a1 + 1)).toNat)).length : Nat) : Int))), (14, (ai ((l5_m14 : Nat) : Int)))], mkOb (someL []), 2⟩) ⟨_, (weak_ren []), rfl⟩ ?_
  rintro n_ l5_m14 _ c_ rfl h hn5
  (try dsimp only at h)
  unfold L_spec_cmLater_l1 at h
  unfold m_spec_cmLater_l1
  refine seqR ?_
  refine awp_seqv_ ?_
  rcases cond_some h with ⟨q8, h⟩ | ⟨q8, h⟩
  ·have q8_ := of_decide_eq_true q8
   refine awp_condT_ q8 ?_
   refine awp_skip_ (tn_ ?_)
   refine wr_ ?_
   refine awp_seqv_ ?_
   refine awp_block_ ?_
   refine awp_seqv_ ?_
   obtain ⟨x11, e11, h⟩ := ob_some h
   refine awp_region_ 6 ?_
   refine rs0 (.telt (.slice .int) x11 0) (zi (t := (.slice .int)) (xs := a0.drop ((IntKind.i64.wrap (a1 + 1)).toNat)) (k := .i64) (m := ((l5_m14 : Nat) : Int)) (nat_nn _) e11) ?_
   refine rsB 2 ?_
   refine rnil (tn_ ?_)
   refine wr_ ?_
   refine awp_seqv_ ?_
   obtain ⟨y13, h13, h⟩ := ob_some h
   refine awp_region_ 9 ?_
   refine rz0 (.tree .int x11) ?_
   refine rz0 (ai a2) ?_
   refine zc (.bool y13) [] [(.tree .int x11), (ai a2)] (ok_spec_l1Has h13) ?_
   refine rnil (tn_ ?_)
   refine wr_ ?_
   rcases cond_some h with ⟨q14, h⟩ | ⟨q14, h⟩
   ·refine awp_condT_ q14 ?_
    refine seqR ?_
    refine awp_ret_ (br_ (tr_ (tr_ (br_ (tr_ ?_)))))
    obtain rfl := zj h
    have h := hn5
    (try dsimp only at h)
    obtain rfl := zj h
    have h := hk2
    (try dsimp only at h)
    obtain rfl := zj h
    exact ret_ [(.bool true)] (p_one rfl zl p_nil)
   refine awp_condF_ q14 ?_
   refine awp_skip_ (bn_ (tn_ ?_))
   refine wr_ ?_
   obtain ⟨g16, h⟩ := og_some h
   refine awp_region_ 11 ?_
   refine rs0 (ai ((l5_m14 + 1 : Nat) : Int)) (za g16) ?_
   refine rsB 1 ?_
   refine rnil (tn_ ?_)
   obtain rfl := zj h
   exact ⟨l5_m14 + 1, _, (weak_ren []), rfl, hn5⟩
  have q8_ := of_decide_eq_false q8
  refine awp_condF_ q8 ?_
  refine awp_exit_ (te_ (te_ (be_ (tn_ ?_))))
  obtain rfl := zj h
  have h := hn5
  (try dsimp only at h)
  obtain rfl := zj h
  exact ⟨(), _, rfl, (weak_ren []), rfl⟩
 rintro _ _ rfl h
 (try dsimp only at h)
 refine seqR ?_
 refine awp_ret_ ?_
 obtain rfl := zj h
 exact ret_ [(.bool false)] (p_one rfl zl p_nil)
end Go.Proofs.YtbdkmfmhlmnlmaaDoor
namespace Go.Proofs.YtbdkmfmhlmnlmaaDoor
open Go.RowKit Go.Deep
theorem weak_nil_vec {S : St} (s : Nat) (b : Oid) (k : Nat) (ty : TypeId) (z m : Nat) (cs : List AV) (e : TypeId) (t : Ty) (ht : t.flat = true) (hb : S.ob b = some (.vec ty z m cs)) (hk : cs[k]? = some .nils) :
  Weak S ⟨S.tm, upd (upd S.ob ((s, 0), S.gen) (some (.arr e t []))) b (some (.vec ty z m (cs.set k (.own ((s, 0), S.gen) t 0 0)))), S.gen + 1⟩ := by
 intro G w0 B N a w hr
 obtain ⟨σ, hm, hf, hB⟩ := hr.ex
 obtain ⟨hL, hM⟩ := nil_new (e := e) (i := ((s, 0), S.gen)) hm rfl ht
 have hbn : b ≠ ((s, 0), S.gen) := fun h => by
  have := hr.obg b (by rw [hb]; simp)
  rw [h] at this
  exact absurd this (Nat.lt_irrefl _)
 have him : ∀ c, imm (upd S.ob ((s, 0), S.gen) (some (.arr e t []))) (upd σ ((s, 0), S.gen) (some .nil)) c -> imm (upd (upd S.ob ((s, 0), S.gen) (some (.arr e t []))) b (some (.vec ty z m (cs.set k (.own ((s, 0), S.gen) t 0 0))))) (upd σ ((s, 0), S.gen) (some .nil)) c := by
  intro c hc i o c' s' ho
  by_cases h : i = b
  ·subst h
   exact hc i (.vec ty z m cs) c' s' (by rw [upd_other _ _ _ _ hbn]; exact hb)
  ·rw [upd_other _ _ _ _ h] at ho
   exact hc i o c' s' ho
 have hL2 : Later (upd σ ((s, 0), S.gen) (some .nil)) (upd σ ((s, 0), S.gen) (some .nil)) (imm (upd S.ob ((s, 0), S.gen) (some (.arr e t []))) (upd σ ((s, 0), S.gen) (some .nil))) (imm (upd (upd S.ob ((s, 0), S.gen) (some (.arr e t []))) b (some (.vec ty z m (cs.set k (.own ((s, 0), S.gen) t 0 0))))) (upd σ ((s, 0), S.gen) (some .nil))) w w :=
  ⟨fun _ _ h => h, fun c _ hc => him c hc, fun _ _ _ => rfl, Nat.le_refl _⟩
 refine ⟨⟨upd σ ((s, 0), S.gen) (some .nil), ⟨hM.below, hM.inv, hM.gen, hM.lt, hM.cap, fun i j b' c' s' c2 s2 o o' hi hj h1 h2 => ?_, fun i o l hi hl => ?_⟩, fun u => AV.Rep.later hL2 _ _ (AV.Rep.later hL _ _ (hf u)), (hB.trans hL).trans hL2⟩, hr.size, hr.defers, fun i hi => ?_⟩
 ·have key : ∀ i o, upd (upd S.ob ((s, 0), S.gen) (some (.arr e t []))) b (some (.vec ty z m (cs.set k (.own ((s, 0), S.gen) t 0 0)))) i = some o -> ∃ o', upd S.ob ((s, 0), S.gen) (some (.arr e t [])) i = some o' := by
   intro i o ho
   by_cases h : i = b
   ·subst h; exact ⟨_, by rw [upd_other _ _ _ _ hbn]; exact hb⟩
   ·rw [upd_other _ _ _ _ h] at ho; exact ⟨o, ho⟩
  obtain ⟨o1, k1⟩ := key i o hi
  obtain ⟨o2, k2⟩ := key j o' hj
  exact hM.inj i j b' c' s' c2 s2 o1 o2 k1 k2 h1 h2
 ·by_cases h : i = b
  ·subst h
   have hi' : some (Ob.vec ty z m (cs.set k (.own ((s, 0), S.gen) t 0 0))) = some o := by rw [← hi]; exact (upd_same _ _ _).symm
   obtain rfl := Option.some.inj hi'
   have := hM.obs i (.vec ty z m cs) l (by rw [upd_other _ _ _ _ hbn]; exact hb) hl
   obtain ⟨vs, g1, g2, g3⟩ := this
   refine ⟨vs, g1, ?_, g3⟩
   refine AV.RepL.later hL2 _ _ ?_
   obtain ⟨v, hv, hrv⟩ := g2.get hk
   have hset := g2.set (k := k) (c := .own ((s, 0), S.gen) t 0 0) (v := v) (.inl ⟨upd_same _ _ _, rfl, rfl, hrv⟩)
   have hvs : vs.set k v = vs := by
    apply List.ext_getElem?
    intro j
    rw [List.getElem?_set]
    split
    ·rename_i e'; subst e'
     split
     ·exact hv.symm
     ·rw [List.getElem?_eq_none (by omega)]
    ·rfl
   rw [hvs] at hset
   exact hset
  ·have hi' : upd S.ob ((s, 0), S.gen) (some (.arr e t [])) i = some o := by rw [← hi]; exact (upd_other _ _ _ _ h).symm
   exact (hM.obs i o l hi' hl).later hL2 fun _ _ _ _ => rfl
 ·show i.2 < S.gen + 1
  by_cases h : i = b
  ·subst h
   have := hr.obg i (by rw [hb]; simp)
   omega
  ·have hi' : upd S.ob ((s, 0), S.gen) (some (.arr e t [])) i ≠ none := by
    intro hq; apply hi; rw [← hq]; exact upd_other _ _ _ _ h
   by_cases h' : i = ((s, 0), S.gen)
   ·subst h'; show S.gen < S.gen + 1; omega
   ·rw [upd_other _ _ _ _ h'] at hi'
    have := hr.obg i hi'
    omega
theorem weak_nil_vec_ {tl : List (Nat × AV)} {ol : List (Oid × Option Ob)} {g : Nat} (s : Nat) (c : Oid) (k : Nat) (ty : TypeId) (z m : Nat) (cs ds : List AV) (e : TypeId) (t : Ty) (ht : t.flat = true) (hb : mkOb ol c = some (.vec ty z m cs)) (hk : cs[k]? = some .nils) (hd : cs.set k (.own ((s, 0), g) t 0 0) = ds) :
  Weak ⟨mkTm tl, mkOb ol, g⟩ ⟨mkTm tl, mkOb ((c, some (.vec ty z m ds)) :: (((s, 0), g), some (.arr e t [])) :: ol), g + 1⟩ := by
 subst hd
 have := weak_nil_vec (S := ⟨mkTm tl, mkOb ol, g⟩) s c k ty z m cs e t ht hb hk
 have e2 : upd (upd (mkOb ol) ((s, 0), g) (some (.arr e t []))) c (some (.vec ty z m (cs.set k (.own ((s, 0), g) t 0 0)))) = mkOb ((c, some (.vec ty z m (cs.set k (.own ((s, 0), g) t 0 0)))) :: (((s, 0), g), some (.arr e t [])) :: ol) := by rw [upd_mkOb rfl, upd_mkOb rfl]
 rw [← e2]
 exact this
theorem hdL_nilK {p : Oid} {u : Ty} {xss : List (List u.D)} : (hdL p u xss ++ [AV.nils])[xss.length]? = some .nils := by
 rw [List.getElem?_append_right (by rw [hdL_len]; exact Nat.le_refl _), hdL_len, Nat.sub_self]; rfl
theorem hdL_nilS {p : Oid} {u : Ty} {xss : List (List u.D)} {x : AV} : (hdL p u xss ++ [AV.nils]).set xss.length x = hdL p u xss ++ [x] := by
 rw [List.set_append_right _ _ (by rw [hdL_len]; exact Nat.le_refl _), hdL_len, Nat.sub_self]; rfl
end Go.Proofs.YtbdkmfmhlmnlmaaDoor
