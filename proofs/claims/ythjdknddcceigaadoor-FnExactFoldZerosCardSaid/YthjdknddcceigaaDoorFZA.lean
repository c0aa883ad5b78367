/- Partial functions in place of code, and that the code does what they say: FZA. No condition. -/
import Derived.Test.YthjdknddcceigaaDoorB3
namespace Go.Proofs.YthjdknddcceigaaDoor
open Go.RowKit Go.Deep
set_option maxRecDepth 4000
def m_spec_opOwn : AC :=
  (.seq (rg [xo 1 (.i (.box 31 (tm 0))), xo 2 (.i (.alloc 31 [(.int .i64 0), .nils, .nils]))])
  (.seq (.region [xo 3 (qf 0 (tm 1)), xo 4 (ql (tm 3)), ⟨(some 5), none, (.mkS 51 (.pair .int (.pair .int (.pair .int .int))) [])⟩, xo 6 (qf 1 (tm 1)), xo 7 (ql (tm 6)), ⟨(some 8), none, (.append 51 (.pair .int (.pair .int (.pair .int .int))) 32 (tm 5) (tm 7))⟩, xo 9 (qf 2 (tm 1)), xo 10 (ql (tm 9)), xo 11 (qc 79 [(tm 10)] [[(some .int)]]), xo 12 (.build [(.int .i64 0), .nils, .nils] [(0, 1, (tm 4)), (1, 1, (tm 8)), (2, 1, (tm 11))]), xn (.st false 3 (tm 2) (tm 12))] true [(1, 5), (5, 7), (1, 8)])
  .ret))
def r_spec_opOwn : List Res := [.cell 2 false 3]
theorem c_spec_opOwn : compiled Tryd.prog Tryd.f52 = some (m_spec_opOwn, r_spec_opOwn) := by kernel_rfl
theorem hb_spec_opOwn : hasBody Tryd.prog 52 = true := by kernel_rfl
def L_spec_opOwn (a0_0 : Int) (a0_1 : List (Int × Int × Int × Int)) (a0_2 : List Int) : Option (Int × (List (Int × Int × Int × Int)) × List Int) :=
  og (0 + a0_1.length ≤ 1073741824 ∧ (0 + a0_1.length) * 32 ≤ 140737488355328) <|
Option.bind (L_spec_l1Own a0_2) fun y4 =>
some (a0_0, a0_1, y4)
def rv_spec_opOwn (r : Int × (List (Int × Int × Int × Int)) × List Int) : RV := ⟨false, [(true, [.sc (.int .i64 r.1), .new 51 (.pair .int (.pair .int (.pair .int .int))) r.2.1, .new 3 .int r.2.2])]⟩
theorem ok_spec_opOwn {a0_0 : Int} {a0_1 : List (Int × Int × Int × Int)} {a0_2 : List Int} {r : Int × (List (Int × Int × Int × Int)) × List Int} (h : L_spec_opOwn a0_0 a0_1 a0_2 = some r) : CallOK Tryd.prog Tab 52 [(.agg [(ai a0_0), (.tree (.pair .int (.pair .int (.pair .int .int))) a0_1), (.tree .int a0_2)])] (rv_spec_opOwn r) := by
  refine call_of_ (by kernel_rfl) Tryd.func52 c_spec_opOwn (n := 13) (by kernel_rfl) (by simp) (tl := [(0, (.agg [(ai a0_0), (.tree (.pair .int (.pair .int (.pair .int .int))) a0_1), (.tree .int a0_2)]))]) rfl ?_
  unfold m_spec_opOwn
  unfold L_spec_opOwn at h
  refine seqR ?_
  refine awp_seqv_ ?_
  obtain ⟨g3, h⟩ := og_some h
  obtain ⟨y4, h4, h⟩ := ob_some h
  refine awp_regionD_ 14 ?_
  refine ds0 (.box (oi 1 1) 0) (by kernel_rfl) ?_
  refine dsl (ai a0_0) (by kernel_rfl) ?_
  refine ds1 (.own (oi 5 5) (.pair .int (.pair .int (.pair .int .int))) 0 0) (oi 5 5) (.arr 51 (.pair .int (.pair .int (.pair .int .int))) []) (by kernel_rfl) ?_
  refine ds0 (.box (oi 1 1) 1) (by kernel_rfl) ?_
  refine dsl (.tree (.pair .int (.pair .int (.pair .int .int))) a0_1) (by kernel_rfl) ?_
  refine ds2 (.own (oi 5 8) (.pair .int (.pair .int (.pair .int .int))) 0 a0_1.length) (oi 5 5) (oi 5 8) (.arr 51 (.pair .int (.pair .int (.pair .int .int))) a0_1) (s_appO (t := (.pair .int (.pair .int (.pair .int .int)))) (t' := (.pair .int (.pair .int (.pair .int .int)))) (xs := []) (ys := a0_1) (zs := a0_1) (j := (oi 5 5)) (len := 0) (c := (.tree (.pair .int (.pair .int (.pair .int .int))) a0_1)) (by kernel_rfl) (by kernel_rfl) rfl (by kernel_rfl) sr_tree rfl g3) ?_
  refine ds0 (.box (oi 1 1) 2) (by kernel_rfl) ?_
  refine dsl (.tree .int a0_2) (by kernel_rfl) ?_
  refine dcall (.own (oi 176 11) .int 0 y4.length) [((oi 176 11), some (.arr 3 .int y4))] [(.tree .int a0_2)] _ (caps := []) (args0 := [(.tree .int a0_2)]) trivial (by kernel_rfl) (ok_spec_l1Own h4) hb_spec_l1Own ?_
  refine ds0 (.agg [(ai a0_0), (.own (oi 5 8) (.pair .int (.pair .int (.pair .int .int))) 0 a0_1.length), (.own (oi 176 11) .int 0 y4.length)]) (by kernel_rfl) ?_
  refine dsn2 (oi 2 2) (oi 2 2) (.cells 31 [(ai a0_0), (.own (oi 5 8) (.pair .int (.pair .int (.pair .int .int))) 0 a0_1.length), (.own (oi 176 11) .int 0 y4.length)]) (by kernel_rfl) ?_
  refine dnil (badB_spec (by kernel_rfl)) (tn_ ?_)
  refine ⟨_, Weak.refl _, ?_⟩
  refine awp_ret_ ?_
  obtain rfl := Option.some.inj h
  exact ret_ [(.agg [(ai a0_0), (.own (oi 5 8) (.pair .int (.pair .int (.pair .int .int))) 0 a0_1.length), (.own (oi 176 11) .int 0 y4.length)])] (p_agg (l_cons (l_sc (by kernel_rfl)) (l_cons (l_own (by kernel_rfl) rfl) (l_cons (l_own (by kernel_rfl) rfl) l_nil))) p_nil)
def m_spec_opSilent_l3 : AC :=
  (.seq (rg [xo 34 (qb .lss (tm 33) (tm 32))])
  (.seq (.cond (tm 34)
    .skip
    (.exit 4))
  (.seq (.block 5 (.seq (rg [xo 35 (qm (tm 33)), xo 36 (qx 4 (tm 31) (tm 33)), xo 37 (.i (.ld false 4 (tm 36))), xo 8 (.i (.alloc 51 [(.int .i64 0), (.int .i64 0), (.int .i64 0), (.int .i64 0)])), xo 7 (qm (tm 35)), xn (.st false 4 (tm 8) (tm 37))])
  (.seq (.seq (rg [xo 38 (qm (tm 3)), xo 39 (qm (tm 7)), xo 40 (qx 1 (tm 38) (tm 39)), xo 41 (ql (tm 40)), xo 42 (.i (.not (tm 41))), xo 43 (qm (tm 42)), ⟨(some 44), (some (43, false)), (qf 0 (tm 8))⟩, ⟨(some 45), (some (43, false)), (ql (tm 44))⟩, ⟨(some 46), (some (43, false)), (qb .eql (tm 45) (ci 2))⟩, xo 47 (.i (.pick (tm 43) (cb true) (tm 46))), xo 48 (qm (tm 47)), ⟨(some 49), (some (48, false)), (qf 0 (tm 8))⟩, ⟨(some 50), (some (48, false)), (ql (tm 49))⟩, ⟨(some 51), (some (48, false)), (qb .eql (tm 50) (ci 4))⟩, ⟨(some 52), (some (48, false)), (qm (tm 51))⟩, ⟨(some 53), (some (52, true)), (qf 3 (tm 8))⟩, ⟨(some 54), (some (52, true)), (ql (tm 53))⟩, ⟨(some 55), (some (52, true)), (qb .eql (tm 54) (ci 0))⟩, ⟨(some 56), (some (48, false)), (.i (.pick (tm 52) (tm 55) (cb false)))⟩, xo 57 (.i (.pick (tm 48) (cb true) (tm 56)))])
  (.cond (tm 57)
    (.exit 5)
    .skip))
  (.seq (rg [xo 58 (qm (tm 3)), xo 59 (qf 1 (tm 8)), xo 60 (ql (tm 59)), xo 61 (qx 1 (tm 58) (tm 60)), xo 62 (ql (tm 61)), xo 9 (qm (tm 62))])
  (.seq (.seq (rg [xo 63 (qf 0 (tm 8)), xo 64 (ql (tm 63)), xo 65 (qb .eql (tm 64) (ci 3))])
  (.cond (tm 65)
    (rg [xo 66 (qm (tm 9)), xo 67 (qm (tm 66)), ⟨(some 68), (some (67, true)), (qm (tm 3))⟩, ⟨(some 69), (some (67, true)), (qf 2 (tm 8))⟩, ⟨(some 70), (some (67, true)), (ql (tm 69))⟩, ⟨(some 71), (some (67, true)), (qx 1 (tm 68) (tm 70))⟩, ⟨(some 72), (some (67, true)), (ql (tm 71))⟩, xo 73 (.i (.pick (tm 67) (tm 72) (cb false))), xo 9 (qm (tm 73))])
    .skip))
  (.seq (rg [xo 74 (qm (tm 9)), xo 75 (.i (.not (tm 74)))])
  (.cond (tm 75)
    (.seq (rg [xo 76 (qm (tm 3)), xo 77 (qm (tm 7)), xo 78 (qx 1 (tm 76) (tm 77)), xn (qs (tm 78) (cb false))])
    (rg [xo 6 (qm (cb true))]))
    .skip)))))))
  (rg [xo 79 (qb .add (tm 33) (ci 1)), xo 33 (qm (tm 79))]))))
def m_spec_opSilent_l2 : AC :=
  (.seq (.seq (rg [xo 29 (qm (tm 6))])
  (.cond (tm 29)
    .skip
    (.exit 2)))
  (.block 3 (.seq (rg [xo 6 (qm (cb false))])
  (.seq (rg [xo 30 (qf 1 (tm 1)), xo 31 (ql (tm 30)), xo 32 (.i (.len (tm 31))), xo 33 (qm (ci 0))])
  (.block 4 (.loop m_spec_opSilent_l3))))))
def m_spec_opSilent_l1 : AC :=
  (.seq (rg [xo 18 (qb .lss (tm 17) (tm 16))])
  (.seq (.cond (tm 18)
    .skip
    (.exit 0))
  (.seq (.block 1 (.seq (rg [xo 19 (qm (tm 17)), xo 20 (qx 4 (tm 15) (tm 17)), xo 21 (.i (.ld false 4 (tm 20))), xo 5 (.i (.alloc 51 [(.int .i64 0), (.int .i64 0), (.int .i64 0), (.int .i64 0)])), xo 4 (qm (tm 19)), xn (.st false 4 (tm 5) (tm 21))])
  (rg [xo 22 (qm (tm 3)), xo 23 (qm (tm 4)), xo 24 (qf 0 (tm 5)), xo 25 (ql (tm 24)), xo 26 (qb .neq (tm 25) (ci 1)), xo 27 (qx 1 (tm 22) (tm 23)), xn (qs (tm 27) (tm 26))])))
  (rg [xo 28 (qb .add (tm 17) (ci 1)), xo 17 (qm (tm 28))]))))
def m_spec_opSilent : AC :=
  (.seq (rg [xo 1 (.i (.box 31 (tm 0))), xo 2 (qm (.cst .nils))])
  (.seq (rg [xo 10 (qf 1 (tm 1)), xo 11 (ql (tm 10)), xo 12 (.i (.len (tm 11))), xo 13 (.make 4 .bool 1 (tm 12) (tm 12)), xo 3 (qm (tm 13))])
  (.seq (.seq (rg [xo 14 (qf 1 (tm 1)), xo 15 (ql (tm 14)), xo 16 (.i (.len (tm 15))), xo 17 (qm (ci 0))])
  (.block 0 (.loop m_spec_opSilent_l1)))
  (.seq (.seq (rg [xo 6 (qm (cb true))])
  (.block 2 (.loop m_spec_opSilent_l2)))
  (.seq (rg [xo 80 (qm (tm 3)), xo 2 (qm (tm 80))])
  .ret)))))
def r_spec_opSilent : List Res := [.tmp 2]
theorem c_spec_opSilent : compiled Tryd.prog Tryd.f88 = some (m_spec_opSilent, r_spec_opSilent) := by kernel_rfl
theorem hb_spec_opSilent : hasBody Tryd.prog 88 = true := by kernel_rfl
def L_spec_opSilent_l1 (a0_1 : List (Int × Int × Int × Int)) (l6_m17 : Nat) (l6_m3 : List Bool) : Option (Ctl (Nat × List Bool) (List Bool)) :=
  cond (decide (((l6_m17 : Nat) : Int) < ((a0_1.length : Nat) : Int)))
  (Option.bind (a0_1[l6_m17]?) fun x12 =>
  Option.bind (l6_m3[l6_m17]?) fun x13 =>
  og (l6_m17 + 1 < 4611686018427387904) <|
  some (Ctl.next (l6_m17 + 1, l6_m3.set l6_m17 (x12.1 != 1))))
  (some (Ctl.out l6_m3))
def L_spec_opSilent_l3 (a0_1 : List (Int × Int × Int × Int)) (l23_m6 : Bool) (l23_m33 : Nat) (l23_m3 : List Bool) : Option (Ctl (Bool × Nat × List Bool) (Ctl (Bool × List Bool) (List Bool))) :=
  cond (decide (((l23_m33 : Nat) : Int) < ((a0_1.length : Nat) : Int)))
  (Option.bind (Option.bind (a0_1[l23_m33]?) fun x29 =>
    Option.bind (Option.bind (l23_m3[l23_m33]?) fun x32 =>
      cond (!x32)
        (some true)
        (cond (x29.1 == 2)
          (some true)
          (cond (x29.1 == 4)
            (some (x29.2.2.2 == 0))
            (some false)))) fun l31_m57 =>
    cond l31_m57
      (some (l23_m6, l23_m3))
      (Option.bind (getI l23_m3 x29.2.1) fun x38 =>
      Option.bind (cond (x29.1 == 3)
          (cond x38
            (Option.bind (getI l23_m3 x29.2.2.1) fun x43 =>
            some x43)
            (some false))
          (some x38)) fun l39_m9 =>
      cond (!l39_m9)
        (Option.bind (l23_m3[l23_m33]?) fun x47 =>
        some (true, l23_m3.set l23_m33 false))
        (some (l23_m6, l23_m3)))) fun (l27_m6, l27_m3) =>
  og (l23_m33 + 1 < 4611686018427387904) <|
  some (Ctl.next (l27_m6, l23_m33 + 1, l27_m3)))
  (some (Ctl.out (Ctl.next (l23_m6, l23_m3))))
def L_spec_opSilent_l2 (a0_1 : List (Int × Int × Int × Int)) (l17_m6 : Bool) (l17_m3 : List Bool) : Option (Ctl (Bool × List Bool) (List Bool)) :=
  cond l17_m6
  (loopM (fun s_ : Bool × Nat × List Bool => L_spec_opSilent_l3 a0_1 s_.1 s_.2.1 s_.2.2) 4611686018427387904 (false, 0, l17_m3))
  (some (Ctl.out l17_m3))
def L_spec_opSilent (a0_0 : Int) (a0_1 : List (Int × Int × Int × Int)) (a0_2 : List Int) : Option (List Bool) :=
  og (0 ≤ ((a0_1.length : Nat) : Int) ∧ ((a0_1.length : Nat) : Int) ≤ ((a0_1.length : Nat) : Int) ∧ ((a0_1.length : Nat) : Int) ≤ 1073741824 ∧ (1 : Int) * ((a0_1.length : Nat) : Int) ≤ 140737488355328) <|
Option.bind (loopM (fun s_ : Nat × List Bool => L_spec_opSilent_l1 a0_1 s_.1 s_.2) 4611686018427387904 (0, List.replicate a0_1.length (false : Bool))) fun l4_m3 =>
Option.bind (loopM (fun s_ : Bool × List Bool => L_spec_opSilent_l2 a0_1 s_.1 s_.2) 4611686018427387904 (true, l4_m3)) fun l15_m3 =>
some l15_m3
def rv_spec_opSilent (r : List Bool) : RV := ⟨false, [(false, [.new 4 .bool r])]⟩
theorem ok_spec_opSilent {a0_0 : Int} {a0_1 : List (Int × Int × Int × Int)} {a0_2 : List Int} {r : List Bool} (h : L_spec_opSilent a0_0 a0_1 a0_2 = some r) : CallOK Tryd.prog Tab 88 [(.agg [(ai a0_0), (.tree (.pair .int (.pair .int (.pair .int .int))) a0_1), (.tree .int a0_2)])] (rv_spec_opSilent r) := by
  refine call_of_ (by kernel_rfl) Tryd.func88 c_spec_opSilent (n := 81) (by kernel_rfl) (by simp) (tl := [(0, (.agg [(ai a0_0), (.tree (.pair .int (.pair .int (.pair .int .int))) a0_1), (.tree .int a0_2)]))]) rfl ?_
  unfold m_spec_opSilent
  unfold L_spec_opSilent at h
  refine seqR ?_
  refine awp_seqv_ ?_
  obtain ⟨g3, h⟩ := og_some h
  refine awp_region_ 8 ?_
  refine rs0 (.box (oi 1 1) 1) (by kernel_rfl) ?_
  refine rsl (.tree (.pair .int (.pair .int (.pair .int .int))) a0_1) (by kernel_rfl) ?_
  refine rs0 (ai ((a0_1.length : Nat) : Int)) (by kernel_rfl) ?_
  refine rs1 (.own (oi 13 6) .bool 0 a0_1.length) (oi 13 6) (.arr 4 .bool (List.replicate a0_1.length (false : Bool))) (s_make (t := .bool) (k := .i64) (k' := .i64) (m := ((a0_1.length : Nat) : Int)) (m' := ((a0_1.length : Nat) : Int)) (by kernel_rfl) (by kernel_rfl) g3 rfl) ?_
  refine rsB 1 ?_
  refine rnil (tn_ ?_)
  refine ⟨_, Weak.refl _, ?_⟩
  refine awp_seqB h (fun (l4_m3 : List Bool) S_ => S_ = ⟨mkTm [(1, (.box (oi 0 1) 0)), (3, (.own (oi 1 1) .bool 0 l4_m3.length))], mkOb (someL [((oi 0 1), .cells 31 [(ai a0_0), (.tree (.pair .int (.pair .int (.pair .int .int))) a0_1), (.tree .int a0_2)]), ((oi 1 1), .arr 4 .bool l4_m3)]), 2⟩) ?_ ?_
  · intro v_ h
    refine seqR ?_
    refine awp_block_ ?_
    refine awp_loopL h (fun t_ S_ => ∃ (l6_m17 : Nat), ∃ (l6_m3 : List Bool), t_ = (l6_m17, l6_m3) ∧ S_ = ⟨mkTm [(1, (.box (oi 0 1) 0)), (3, (.own (oi 1 1) .bool 0 l6_m3.length)), (15, (.tree (.pair .int (.pair .int (.pair .int .int))) a0_1)), (16, (ai ((a0_1.length : Nat) : Int))), (17, (ai ((l6_m17 : Nat) : Int)))], mkOb (someL [((oi 0 1), .cells 31 [(ai a0_0), (.tree (.pair .int (.pair .int (.pair .int .int))) a0_1), (.tree .int a0_2)]), ((oi 1 1), .arr 4 .bool l6_m3)]), 2⟩) ⟨_, ((weak_tm_ 3 (.own (oi 13 6) .bool 0 a0_1.length) (.own (oi 13 6) .bool 0 ((List.replicate a0_1.length (false : Bool)).length)) (by kernel_rfl) (congrArg (fun z_ => ((.own (oi 13 6) .bool 0 z_) : AV)) (List.length_replicate.symm : a0_1.length = (List.replicate a0_1.length (false : Bool)).length))).trans (weak_ren [((oi 0 1), (oi 1 1)), ((oi 1 1), (oi 13 6))])), ⟨0, List.replicate a0_1.length (false : Bool), rfl, rfl⟩⟩ ?_
    rintro n_ _ _ c_ ⟨l6_m17, l6_m3, rfl, rfl⟩ h hn6
    (try dsimp only at h)
    unfold L_spec_opSilent_l1 at h
    unfold m_spec_opSilent_l1
    refine seqR ?_
    refine awp_seqv_ ?_
    rcases cond_some h with ⟨q9, h⟩ | ⟨q9, h⟩
    · have q9_ := of_decide_eq_true q9
      refine awp_condT_ q9 ?_
      refine awp_skip_ (tn_ ?_)
      refine ⟨_, Weak.refl _, ?_⟩
      refine awp_seqv_ ?_
      refine awp_block_ ?_
      refine awp_seqv_ ?_
      obtain ⟨x12, e12, h⟩ := ob_some h
      refine awp_region_ 9 ?_
      refine rs0 (ai ((l6_m17 : Nat) : Int)) (by kernel_rfl) ?_
      refine rs0 (.telt (.pair .int (.pair .int (.pair .int .int))) x12 0) (s_idxT (t := (.pair .int (.pair .int (.pair .int .int)))) (xs := a0_1) (k := .i64) (m := ((l6_m17 : Nat) : Int)) (by kernel_rfl) (by kernel_rfl) rfl (nat_nn _) rfl e12) ?_
      refine rsB 4 ?_
      refine rnil (tn_ ?_)
      refine ⟨_, Weak.refl _, ?_⟩
      obtain ⟨x13, e13, h⟩ := ob_some h
      refine awp_region_ 16 ?_
      refine rs0 (.own (oi 1 1) .bool 0 l6_m3.length) (by kernel_rfl) ?_
      refine rs0 (ai ((l6_m17 : Nat) : Int)) (by kernel_rfl) ?_
      refine rs0 (.box (oi 5 6) 0) (by kernel_rfl) ?_
      refine rsl (ai x12.1) (by kernel_rfl) ?_
      refine rs0 (.bool (x12.1 != 1)) (by kernel_rfl) ?_
      refine rs0 (.elt (oi 1 1) l6_m17 0) (s_idxO (t := .bool) (o := (oi 1 1)) (len := l6_m3.length) (k := .i64) (m := ((l6_m17 : Nat) : Int)) (by kernel_rfl) (by kernel_rfl) rfl (nat_nn _) rfl (getN_lt e13)) ?_
      refine rsn2 (oi 1 1) (oi 1 1) (.arr 4 .bool (l6_m3.set l6_m17 (x12.1 != 1))) (s_stE (i := (oi 1 1)) (j := l6_m17) (k := 0) (e := 4) (t := .bool) (xs := l6_m3) (cs := [(.bool (x12.1 != 1))]) (x1 := x12.1 != 1) (by kernel_rfl) (by kernel_rfl) e13 (by kernel_rfl) (by kernel_rfl)) ?_
      refine rnil (bn_ (tn_ ?_))
      refine ⟨_, Weak.refl _, ?_⟩
      obtain ⟨g14, h⟩ := og_some h
      refine awp_region_ 18 ?_
      refine rs0 (ai ((l6_m17 + 1 : Nat) : Int)) (s_add1 (j := l6_m17) (by kernel_rfl) (by kernel_rfl) g14) ?_
      refine rsB 1 ?_
      refine rnil (tn_ ?_)
      obtain rfl := Option.some.inj h
      exact ⟨(l6_m17 + 1, l6_m3.set l6_m17 (x12.1 != 1)), _, ((weak_tm_ 3 (.own (oi 1 1) .bool 0 l6_m3.length) (.own (oi 1 1) .bool 0 ((l6_m3.set l6_m17 (x12.1 != 1)).length)) (by kernel_rfl) (congrArg (fun z_ => ((.own (oi 1 1) .bool 0 z_) : AV)) (((rfl : l6_m3.length = l6_m3.length).trans List.length_set.symm) : l6_m3.length = (l6_m3.set l6_m17 (x12.1 != 1)).length))).trans (weak_ren [])), ⟨l6_m17 + 1, l6_m3.set l6_m17 (x12.1 != 1), rfl, rfl⟩, hn6⟩
    have q9_ := of_decide_eq_false q9
    refine awp_condF_ q9 ?_
    refine awp_exit_ (te_ (te_ (be_ (tn_ ?_))))
    obtain rfl := Option.some.inj h
    have h := hn6
    (try dsimp only at h)
    obtain rfl := Option.some.inj h
    exact ⟨_, (weak_ren []), rfl⟩
  rintro l4_m3 _ rfl h
  (try dsimp only at h)
  refine awp_seqB h (fun (l15_m3 : List Bool) S_ => S_ = ⟨mkTm [(3, (.own (oi 0 1) .bool 0 l15_m3.length))], mkOb (someL [((oi 0 1), .arr 4 .bool l15_m3)]), 2⟩) ?_ ?_
  · intro v_ h
    refine seqR ?_
    refine awp_block_ ?_
    refine awp_loopL h (fun t_ S_ => ∃ (l17_m6 : Bool), ∃ (l17_m3 : List Bool), t_ = (l17_m6, l17_m3) ∧ S_ = ⟨mkTm [(1, (.box (oi 0 1) 0)), (3, (.own (oi 1 1) .bool 0 l17_m3.length)), (6, (.bool l17_m6))], mkOb (someL [((oi 0 1), .cells 31 [(ai a0_0), (.tree (.pair .int (.pair .int (.pair .int .int))) a0_1), (.tree .int a0_2)]), ((oi 1 1), .arr 4 .bool l17_m3)]), 2⟩) ⟨_, (weak_ren []), ⟨true, l4_m3, rfl, rfl⟩⟩ ?_
    rintro n_ _ _ c_ ⟨l17_m6, l17_m3, rfl, rfl⟩ h hn17
    (try dsimp only at h)
    unfold L_spec_opSilent_l2 at h
    unfold m_spec_opSilent_l2
    refine awp_seqv_ ?_
    refine seqR ?_
    rcases cond_some h with ⟨q20, h⟩ | ⟨q20, h⟩
    · refine awp_condT_ q20 ?_
      refine awp_skip_ (tn_ ?_)
      refine ⟨_, Weak.refl _, ?_⟩
      refine awp_block_ ?_
      refine seqR ?_
      refine seqR ?_
      refine awp_block_ ?_
      refine awp_loopL h (fun t_ S_ => ∃ (l23_m6 : Bool), ∃ (l23_m33 : Nat), ∃ (l23_m3 : List Bool), t_ = (l23_m6, l23_m33, l23_m3) ∧ S_ = ⟨mkTm [(1, (.box (oi 0 1) 0)), (3, (.own (oi 1 1) .bool 0 l23_m3.length)), (6, (.bool l23_m6)), (31, (.tree (.pair .int (.pair .int (.pair .int .int))) a0_1)), (32, (ai ((a0_1.length : Nat) : Int))), (33, (ai ((l23_m33 : Nat) : Int)))], mkOb (someL [((oi 0 1), .cells 31 [(ai a0_0), (.tree (.pair .int (.pair .int (.pair .int .int))) a0_1), (.tree .int a0_2)]), ((oi 1 1), .arr 4 .bool l23_m3)]), 2⟩) ⟨_, (weak_ren []), ⟨false, 0, l17_m3, rfl, rfl⟩⟩ ?_
      rintro n_ _ _ c_ ⟨l23_m6, l23_m33, l23_m3, rfl, rfl⟩ h hn23
      (try dsimp only at h)
      unfold L_spec_opSilent_l3 at h
      unfold m_spec_opSilent_l3
      refine seqR ?_
      refine awp_seqv_ ?_
      rcases cond_some h with ⟨q26, h⟩ | ⟨q26, h⟩
      · have q26_ := of_decide_eq_true q26
        refine awp_condT_ q26 ?_
        refine awp_skip_ (tn_ ?_)
        refine ⟨_, Weak.refl _, ?_⟩
        refine awp_seqB h (fun t_ S_ => ∃ (l27_m6 : Bool), ∃ (l27_m3 : List Bool), t_ = (l27_m6, l27_m3) ∧ S_ = ⟨mkTm [(1, (.box (oi 0 1) 0)), (3, (.own (oi 1 1) .bool 0 l27_m3.length)), (6, (.bool l27_m6)), (31, (.tree (.pair .int (.pair .int (.pair .int .int))) a0_1)), (32, (ai ((a0_1.length : Nat) : Int))), (33, (ai ((l23_m33 : Nat) : Int)))], mkOb (someL [((oi 0 1), .cells 31 [(ai a0_0), (.tree (.pair .int (.pair .int (.pair .int .int))) a0_1), (.tree .int a0_2)]), ((oi 1 1), .arr 4 .bool l27_m3)]), 2⟩) ?_ ?_
        · intro v_ h
          refine awp_block_ ?_
          refine awp_seqv_ ?_
          obtain ⟨x29, e29, h⟩ := ob_some h
          refine awp_region_ 9 ?_
          refine rs0 (ai ((l23_m33 : Nat) : Int)) (by kernel_rfl) ?_
          refine rs0 (.telt (.pair .int (.pair .int (.pair .int .int))) x29 0) (s_idxT (t := (.pair .int (.pair .int (.pair .int .int)))) (xs := a0_1) (k := .i64) (m := ((l23_m33 : Nat) : Int)) (by kernel_rfl) (by kernel_rfl) rfl (nat_nn _) rfl e29) ?_
          refine rsB 4 ?_
          refine rnil (tn_ ?_)
          refine ⟨_, Weak.refl _, ?_⟩
          refine awp_seqv_ ?_
          refine awp_seqB h (fun (l31_m57 : Bool) S_ => S_ = ⟨mkTm [(1, (.box (oi 0 1) 0)), (3, (.own (oi 1 1) .bool 0 l23_m3.length)), (6, (.bool l23_m6)), (7, (ai ((l23_m33 : Nat) : Int))), (8, (.box (oi 2 1) 0)), (31, (.tree (.pair .int (.pair .int (.pair .int .int))) a0_1)), (32, (ai ((a0_1.length : Nat) : Int))), (33, (ai ((l23_m33 : Nat) : Int))), (57, (.bool l31_m57))], mkOb (someL [((oi 0 1), .cells 31 [(ai a0_0), (.tree (.pair .int (.pair .int (.pair .int .int))) a0_1), (.tree .int a0_2)]), ((oi 1 1), .arr 4 .bool l23_m3), ((oi 2 1), .cells 51 [(ai x29.1), (ai x29.2.1), (ai x29.2.2.1), (ai x29.2.2.2)])]), 2⟩) ?_ ?_
          · intro v_ h
            obtain ⟨x32, e32, h⟩ := ob_some h
            rcases cond_some h with ⟨q33, h⟩ | ⟨q33, h⟩
            · refine awp_region_ 29 ?_
              refine rs0 (.own (oi 1 1) .bool 0 l23_m3.length) (by kernel_rfl) ?_
              refine rs0 (ai ((l23_m33 : Nat) : Int)) (by kernel_rfl) ?_
              refine rs0 (.elt (oi 1 1) l23_m33 0) (s_idxO (t := .bool) (o := (oi 1 1)) (len := l23_m3.length) (k := .i64) (m := ((l23_m33 : Nat) : Int)) (by kernel_rfl) (by kernel_rfl) rfl (nat_nn _) rfl (getN_lt e32)) ?_
              refine rsl (.bool x32) (s_ldE (i := (oi 1 1)) (j := l23_m33) (k := 0) (e := 4) (t := .bool) (xs := l23_m3) (by kernel_rfl) (by kernel_rfl) e32 (by kernel_rfl)) ?_
              refine rs0 (.bool (!x32)) (by kernel_rfl) ?_
              refine rs0 (.bool (!x32)) (by kernel_rfl) ?_
              refine rs0 (.tup []) (s_skip (by kernel_rfl) q33) ?_
              refine rs0 (.tup []) (s_skip (by kernel_rfl) q33) ?_
              refine rs0 (.tup []) (s_skip (by kernel_rfl) q33) ?_
              refine rs0 (.bool true) (s_pickT (by kernel_rfl) q33) ?_
              refine rs0 (.bool true) (by kernel_rfl) ?_
              refine rs0 (.tup []) (by kernel_rfl) ?_
              refine rs0 (.tup []) (by kernel_rfl) ?_
              refine rs0 (.tup []) (by kernel_rfl) ?_
              refine rs0 (.tup []) (by kernel_rfl) ?_
              refine rs0 (.tup []) (s_skipU (by kernel_rfl)) ?_
              refine rs0 (.tup []) (s_skipU (by kernel_rfl)) ?_
              refine rs0 (.tup []) (s_skipU (by kernel_rfl)) ?_
              refine rsB 2 ?_
              refine rnil (tn_ ?_)
              obtain rfl := Option.some.inj h
              exact ⟨_, (weak_ren [((oi 2 1), (oi 8 6))]), rfl⟩
            rcases cond_some h with ⟨q34, h⟩ | ⟨q34, h⟩
            · refine awp_region_ 29 ?_
              refine rs0 (.own (oi 1 1) .bool 0 l23_m3.length) (by kernel_rfl) ?_
              refine rs0 (ai ((l23_m33 : Nat) : Int)) (by kernel_rfl) ?_
              refine rs0 (.elt (oi 1 1) l23_m33 0) (s_idxO (t := .bool) (o := (oi 1 1)) (len := l23_m3.length) (k := .i64) (m := ((l23_m33 : Nat) : Int)) (by kernel_rfl) (by kernel_rfl) rfl (nat_nn _) rfl (getN_lt e32)) ?_
              refine rsl (.bool x32) (s_ldE (i := (oi 1 1)) (j := l23_m33) (k := 0) (e := 4) (t := .bool) (xs := l23_m3) (by kernel_rfl) (by kernel_rfl) e32 (by kernel_rfl)) ?_
              refine rs0 (.bool (!x32)) (by kernel_rfl) ?_
              refine rs0 (.bool (!x32)) (by kernel_rfl) ?_
              refine rs0 (.box (oi 8 6) 0) (s_gd (by kernel_rfl) q33 (by kernel_rfl)) ?_
              refine rsl (ai x29.1) (s_gd (by kernel_rfl) q33 (by kernel_rfl)) ?_
              refine rs0 (.bool (x29.1 == 2)) (s_gd (by kernel_rfl) q33 (by kernel_rfl)) ?_
              refine rs0 (.bool (x29.1 == 2)) (s_pickF (by kernel_rfl) q33) ?_
              refine rs0 (.bool (x29.1 == 2)) (by kernel_rfl) ?_
              refine rs0 (.tup []) (s_skip (by kernel_rfl) q34) ?_
              refine rs0 (.tup []) (s_skip (by kernel_rfl) q34) ?_
              refine rs0 (.tup []) (s_skip (by kernel_rfl) q34) ?_
              refine rs0 (.tup []) (s_skip (by kernel_rfl) q34) ?_
              refine rs0 (.tup []) (s_skipU (by kernel_rfl)) ?_
              refine rs0 (.tup []) (s_skipU (by kernel_rfl)) ?_
              refine rs0 (.tup []) (s_skipU (by kernel_rfl)) ?_
              refine rs0 (.tup []) (s_skip (by kernel_rfl) q34) ?_
              refine rs0 (.bool true) (s_pickT (by kernel_rfl) q34) ?_
              refine rnil (tn_ ?_)
              obtain rfl := Option.some.inj h
              exact ⟨_, (weak_ren [((oi 2 1), (oi 8 6))]), rfl⟩
            rcases cond_some h with ⟨q35, h⟩ | ⟨q35, h⟩
            · refine awp_region_ 29 ?_
              refine rs0 (.own (oi 1 1) .bool 0 l23_m3.length) (by kernel_rfl) ?_
              refine rs0 (ai ((l23_m33 : Nat) : Int)) (by kernel_rfl) ?_
              refine rs0 (.elt (oi 1 1) l23_m33 0) (s_idxO (t := .bool) (o := (oi 1 1)) (len := l23_m3.length) (k := .i64) (m := ((l23_m33 : Nat) : Int)) (by kernel_rfl) (by kernel_rfl) rfl (nat_nn _) rfl (getN_lt e32)) ?_
              refine rsl (.bool x32) (s_ldE (i := (oi 1 1)) (j := l23_m33) (k := 0) (e := 4) (t := .bool) (xs := l23_m3) (by kernel_rfl) (by kernel_rfl) e32 (by kernel_rfl)) ?_
              refine rs0 (.bool (!x32)) (by kernel_rfl) ?_
              refine rs0 (.bool (!x32)) (by kernel_rfl) ?_
              refine rs0 (.box (oi 8 6) 0) (s_gd (by kernel_rfl) q33 (by kernel_rfl)) ?_
              refine rsl (ai x29.1) (s_gd (by kernel_rfl) q33 (by kernel_rfl)) ?_
              refine rs0 (.bool (x29.1 == 2)) (s_gd (by kernel_rfl) q33 (by kernel_rfl)) ?_
              refine rs0 (.bool (x29.1 == 2)) (s_pickF (by kernel_rfl) q33) ?_
              refine rs0 (.bool (x29.1 == 2)) (by kernel_rfl) ?_
              refine rs0 (.box (oi 8 6) 0) (s_gd (by kernel_rfl) q34 (by kernel_rfl)) ?_
              refine rsl (ai x29.1) (s_gd (by kernel_rfl) q34 (by kernel_rfl)) ?_
              refine rs0 (.bool (x29.1 == 4)) (s_gd (by kernel_rfl) q34 (by kernel_rfl)) ?_
              refine rs0 (.bool (x29.1 == 4)) (s_gd (by kernel_rfl) q34 (by kernel_rfl)) ?_
              refine rs0 (.box (oi 8 6) 3) (s_gd (by kernel_rfl) q35 (by kernel_rfl)) ?_
              refine rsl (ai x29.2.2.2) (s_gd (by kernel_rfl) q35 (by kernel_rfl)) ?_
              refine rs0 (.bool (x29.2.2.2 == 0)) (s_gd (by kernel_rfl) q35 (by kernel_rfl)) ?_
              refine rs0 (.bool (x29.2.2.2 == 0)) (s_gd (by kernel_rfl) q34 (s_pickT (by kernel_rfl) q35)) ?_
              refine rs0 (.bool (x29.2.2.2 == 0)) (s_pickF (by kernel_rfl) q34) ?_
              refine rnil (tn_ ?_)
              obtain rfl := Option.some.inj h
              exact ⟨_, (weak_ren [((oi 2 1), (oi 8 6))]), rfl⟩
            refine awp_region_ 29 ?_
            refine rs0 (.own (oi 1 1) .bool 0 l23_m3.length) (by kernel_rfl) ?_
            refine rs0 (ai ((l23_m33 : Nat) : Int)) (by kernel_rfl) ?_
            refine rs0 (.elt (oi 1 1) l23_m33 0) (s_idxO (t := .bool) (o := (oi 1 1)) (len := l23_m3.length) (k := .i64) (m := ((l23_m33 : Nat) : Int)) (by kernel_rfl) (by kernel_rfl) rfl (nat_nn _) rfl (getN_lt e32)) ?_
            refine rsl (.bool x32) (s_ldE (i := (oi 1 1)) (j := l23_m33) (k := 0) (e := 4) (t := .bool) (xs := l23_m3) (by kernel_rfl) (by kernel_rfl) e32 (by kernel_rfl)) ?_
            refine rs0 (.bool (!x32)) (by kernel_rfl) ?_
            refine rs0 (.bool (!x32)) (by kernel_rfl) ?_
            refine rs0 (.box (oi 8 6) 0) (s_gd (by kernel_rfl) q33 (by kernel_rfl)) ?_
            refine rsl (ai x29.1) (s_gd (by kernel_rfl) q33 (by kernel_rfl)) ?_
            refine rs0 (.bool (x29.1 == 2)) (s_gd (by kernel_rfl) q33 (by kernel_rfl)) ?_
            refine rs0 (.bool (x29.1 == 2)) (s_pickF (by kernel_rfl) q33) ?_
            refine rs0 (.bool (x29.1 == 2)) (by kernel_rfl) ?_
            refine rs0 (.box (oi 8 6) 0) (s_gd (by kernel_rfl) q34 (by kernel_rfl)) ?_
            refine rsl (ai x29.1) (s_gd (by kernel_rfl) q34 (by kernel_rfl)) ?_
            refine rs0 (.bool (x29.1 == 4)) (s_gd (by kernel_rfl) q34 (by kernel_rfl)) ?_
            refine rs0 (.bool (x29.1 == 4)) (s_gd (by kernel_rfl) q34 (by kernel_rfl)) ?_
            refine rs0 (.tup []) (s_skip (by kernel_rfl) q35) ?_
            refine rs0 (.tup []) (s_skip (by kernel_rfl) q35) ?_
            refine rs0 (.tup []) (s_skip (by kernel_rfl) q35) ?_
            refine rs0 (.bool false) (s_gd (by kernel_rfl) q34 (s_pickF (by kernel_rfl) q35)) ?_
            refine rs0 (.bool false) (s_pickF (by kernel_rfl) q34) ?_
            refine rnil (tn_ ?_)
            obtain rfl := Option.some.inj h
            exact ⟨_, (weak_ren [((oi 2 1), (oi 8 6))]), rfl⟩
          rintro l31_m57 _ rfl h
          (try dsimp only at h)
          rcases cond_some h with ⟨q36, h⟩ | ⟨q36, h⟩
          · refine awp_condT_ q36 ?_
            refine awp_exit_ (te_ (be_ (tn_ ?_)))
            obtain rfl := Option.some.inj h
            exact ⟨_, (weak_ren []), ⟨l23_m6, l23_m3, rfl, rfl⟩⟩
          refine awp_condF_ q36 ?_
          refine awp_skip_ (tn_ ?_)
          refine ⟨_, Weak.refl _, ?_⟩
          refine awp_seqv_ ?_
          obtain ⟨x38, f38, h⟩ := ob_some h
          obtain ⟨p38, b38, e38⟩ := getI_some f38
          refine awp_region_ 8 ?_
          refine rs0 (.own (oi 1 1) .bool 0 l23_m3.length) (by kernel_rfl) ?_
          refine rs0 (.box (oi 2 1) 1) (by kernel_rfl) ?_
          refine rsl (ai x29.2.1) (by kernel_rfl) ?_
          refine rs0 (.elt (oi 1 1) x29.2.1.toNat 0) (s_idxO (t := .bool) (o := (oi 1 1)) (len := l23_m3.length) (k := .i64) (m := x29.2.1) (by kernel_rfl) (by kernel_rfl) rfl p38 rfl (getN_lt e38)) ?_
          refine rsl (.bool x38) (s_ldE (i := (oi 1 1)) (j := x29.2.1.toNat) (k := 0) (e := 4) (t := .bool) (xs := l23_m3) (by kernel_rfl) (by kernel_rfl) e38 (by kernel_rfl)) ?_
          refine rsB 1 ?_
          refine rnil (tn_ ?_)
          refine ⟨_, Weak.refl _, ?_⟩
          refine awp_seqB h (fun (l39_m9 : Bool) S_ => S_ = ⟨mkTm [(1, (.box (oi 0 1) 0)), (3, (.own (oi 1 1) .bool 0 l23_m3.length)), (6, (.bool l23_m6)), (7, (ai ((l23_m33 : Nat) : Int))), (9, (.bool l39_m9)), (31, (.tree (.pair .int (.pair .int (.pair .int .int))) a0_1)), (32, (ai ((a0_1.length : Nat) : Int))), (33, (ai ((l23_m33 : Nat) : Int)))], mkOb (someL [((oi 0 1), .cells 31 [(ai a0_0), (.tree (.pair .int (.pair .int (.pair .int .int))) a0_1), (.tree .int a0_2)]), ((oi 1 1), .arr 4 .bool l23_m3)]), 2⟩) ?_ ?_
          · intro v_ h
            refine seqR ?_
            rcases cond_some h with ⟨q41, h⟩ | ⟨q41, h⟩
            · refine awp_condT_ q41 ?_
              rcases cond_some h with ⟨q42, h⟩ | ⟨q42, h⟩
              · obtain ⟨x43, f43, h⟩ := ob_some h
                obtain ⟨p43, b43, e43⟩ := getI_some f43
                refine awp_region_ 20 ?_
                refine rs0 (.bool x38) (by kernel_rfl) ?_
                refine rs0 (.bool x38) (by kernel_rfl) ?_
                refine rs0 (.own (oi 1 1) .bool 0 l23_m3.length) (s_gd (by kernel_rfl) q42 (by kernel_rfl)) ?_
                refine rs0 (.box (oi 2 1) 2) (s_gd (by kernel_rfl) q42 (by kernel_rfl)) ?_
                refine rsl (ai x29.2.2.1) (s_gd (by kernel_rfl) q42 (by kernel_rfl)) ?_
                refine rs0 (.elt (oi 1 1) x29.2.2.1.toNat 0) (s_gd (by kernel_rfl) q42 (s_idxO (t := .bool) (o := (oi 1 1)) (len := l23_m3.length) (k := .i64) (m := x29.2.2.1) (by kernel_rfl) (by kernel_rfl) rfl p43 rfl (getN_lt e43))) ?_
                refine rsl (.bool x43) (s_gd (by kernel_rfl) q42 (s_ldE (i := (oi 1 1)) (j := x29.2.2.1.toNat) (k := 0) (e := 4) (t := .bool) (xs := l23_m3) (by kernel_rfl) (by kernel_rfl) e43 (by kernel_rfl))) ?_
                refine rs0 (.bool x43) (s_pickT (by kernel_rfl) q42) ?_
                refine rsB 1 ?_
                refine rnil (tn_ ?_)
                obtain rfl := Option.some.inj h
                exact ⟨_, (weak_ren []), rfl⟩
              refine awp_region_ 20 ?_
              refine rs0 (.bool x38) (by kernel_rfl) ?_
              refine rs0 (.bool x38) (by kernel_rfl) ?_
              refine rs0 (.tup []) (s_skip (by kernel_rfl) q42) ?_
              refine rs0 (.tup []) (s_skip (by kernel_rfl) q42) ?_
              refine rs0 (.tup []) (s_skip (by kernel_rfl) q42) ?_
              refine rs0 (.tup []) (s_skip (by kernel_rfl) q42) ?_
              refine rs0 (.tup []) (s_skip (by kernel_rfl) q42) ?_
              refine rs0 (.bool false) (s_pickF (by kernel_rfl) q42) ?_
              refine rsB 1 ?_
              refine rnil (tn_ ?_)
              obtain rfl := Option.some.inj h
              exact ⟨_, (weak_ren []), rfl⟩
            refine awp_condF_ q41 ?_
            refine awp_skip_ (tn_ ?_)
            obtain rfl := Option.some.inj h
            exact ⟨_, (weak_ren []), rfl⟩
          rintro l39_m9 _ rfl h
          (try dsimp only at h)
          refine seqR ?_
          rcases cond_some h with ⟨q45, h⟩ | ⟨q45, h⟩
          · refine awp_condT_ q45 ?_
            refine awp_seqv_ ?_
            obtain ⟨x47, e47, h⟩ := ob_some h
            refine awp_region_ 8 ?_
            refine rs0 (.own (oi 1 1) .bool 0 l23_m3.length) (by kernel_rfl) ?_
            refine rs0 (ai ((l23_m33 : Nat) : Int)) (by kernel_rfl) ?_
            refine rs0 (.elt (oi 1 1) l23_m33 0) (s_idxO (t := .bool) (o := (oi 1 1)) (len := l23_m3.length) (k := .i64) (m := ((l23_m33 : Nat) : Int)) (by kernel_rfl) (by kernel_rfl) rfl (nat_nn _) rfl (getN_lt e47)) ?_
            refine rsn2 (oi 1 1) (oi 1 1) (.arr 4 .bool (l23_m3.set l23_m33 false)) (s_stE (i := (oi 1 1)) (j := l23_m33) (k := 0) (e := 4) (t := .bool) (xs := l23_m3) (cs := [(.bool false)]) (x1 := false) (by kernel_rfl) (by kernel_rfl) e47 (by kernel_rfl) (by kernel_rfl)) ?_
            refine rnil (tn_ ?_)
            refine ⟨_, Weak.refl _, ?_⟩
            refine awp_region_ 9 ?_
            refine rsB 1 ?_
            refine rnil (bn_ (tn_ ?_))
            obtain rfl := Option.some.inj h
            exact ⟨_, ((weak_tm_ 3 (.own (oi 1 1) .bool 0 l23_m3.length) (.own (oi 1 1) .bool 0 ((l23_m3.set l23_m33 false).length)) (by kernel_rfl) (congrArg (fun z_ => ((.own (oi 1 1) .bool 0 z_) : AV)) (((rfl : l23_m3.length = l23_m3.length).trans List.length_set.symm) : l23_m3.length = (l23_m3.set l23_m33 false).length))).trans (weak_ren [])), ⟨true, l23_m3.set l23_m33 false, rfl, rfl⟩⟩
          refine awp_condF_ q45 ?_
          refine awp_skip_ (bn_ (tn_ ?_))
          obtain rfl := Option.some.inj h
          exact ⟨_, (weak_ren []), ⟨l23_m6, l23_m3, rfl, rfl⟩⟩
        rintro _ _ ⟨l27_m6, l27_m3, rfl, rfl⟩ h
        (try dsimp only at h)
        obtain ⟨g48, h⟩ := og_some h
        refine awp_region_ 4 ?_
        refine rs0 (ai ((l23_m33 + 1 : Nat) : Int)) (s_add1 (j := l23_m33) (by kernel_rfl) (by kernel_rfl) g48) ?_
        refine rsB 1 ?_
        refine rnil (tn_ ?_)
        obtain rfl := Option.some.inj h
        exact ⟨(l27_m6, l23_m33 + 1, l27_m3), _, (weak_ren []), ⟨l27_m6, l23_m33 + 1, l27_m3, rfl, rfl⟩, hn23⟩
      have q26_ := of_decide_eq_false q26
      refine awp_condF_ q26 ?_
      refine awp_exit_ (te_ (te_ (be_ (bn_ (tn_ ?_)))))
      obtain rfl := Option.some.inj h
      have h := hn23
      (try dsimp only at h)
      obtain rfl := Option.some.inj h
      exact ⟨(l23_m6, l23_m3), _, (weak_ren []), ⟨l23_m6, l23_m3, rfl, rfl⟩, hn17⟩
    refine awp_condF_ q20 ?_
    refine awp_exit_ (te_ (te_ (be_ (tn_ ?_))))
    obtain rfl := Option.some.inj h
    have h := hn17
    (try dsimp only at h)
    obtain rfl := Option.some.inj h
    exact ⟨_, (weak_ren [((oi 0 1), (oi 1 1))]), rfl⟩
  rintro l15_m3 _ rfl h
  (try dsimp only at h)
  refine seqR ?_
  refine awp_ret_ ?_
  obtain rfl := Option.some.inj h
  exact ret_ [(.own (oi 0 1) .bool 0 l15_m3.length)] (p_one rfl (l_own (by kernel_rfl) rfl) p_nil)
def m_spec_opFold_l1 : AC :=
  (.seq (rg [xo 12 (qb .lss (tm 11) (tm 10))])
  (.seq (.cond (tm 12)
    .skip
    (.exit 0))
  (.seq (.block 1 (.seq (rg [xo 13 (qm (tm 11)), xo 14 (qx 1 (tm 9) (tm 11)), xo 15 (ql (tm 14)), xo 4 (qm (tm 13)), xo 5 (qm (tm 15))])
  (.seq (rg [xo 16 (qm (tm 5))])
  (.cond (tm 16)
    (rg [xo 17 (qf 1 (tm 3)), xo 18 (ql (tm 17)), xo 19 (qm (tm 4)), xo 20 (.build [(.int .i64 0), (.int .i64 0), (.int .i64 0), (.int .i64 0)] [(0, 1, (ci 2))]), xo 21 (qx 4 (tm 18) (tm 19)), xn (.st false 4 (tm 21) (tm 20))])
    .skip))))
  (rg [xo 22 (qb .add (tm 11) (ci 1)), xo 11 (qm (tm 22))]))))
def m_spec_opFold : AC :=
  (.seq (rg [xo 1 (.i (.box 31 (tm 0))), xo 2 (.i (.alloc 31 [(.int .i64 0), .nils, .nils]))])
  (.seq (rg [xo 6 (.i (.ld false 3 (tm 1))), ⟨(some 7), none, (qc 52 [(tm 6)] [[none, (some (.pair .int (.pair .int (.pair .int .int)))), (some .int)]])⟩, xo 3 (.i (.alloc 31 [(.int .i64 0), .nils, .nils])), xn (.st false 3 (tm 3) (tm 7))])
  (.seq (.seq (rg [xo 8 (.i (.ld false 3 (tm 1))), ⟨(some 9), none, (qc 88 [(tm 8)] [[none, (some (.pair .int (.pair .int (.pair .int .int)))), (some .int)]])⟩, xo 10 (.i (.len (tm 9))), xo 11 (qm (ci 0))])
  (.block 0 (.loop m_spec_opFold_l1)))
  (.seq (rg [xo 23 (.i (.ld false 3 (tm 3))), xn (.st false 3 (tm 2) (tm 23))])
  .ret))))
def r_spec_opFold : List Res := [.cell 2 false 3]
theorem c_spec_opFold : compiled Tryd.prog Tryd.f66 = some (m_spec_opFold, r_spec_opFold) := by kernel_rfl
theorem hb_spec_opFold : hasBody Tryd.prog 66 = true := by kernel_rfl
def L_spec_opFold_l1 (y6 : List Bool) (l7_m11 : Nat) (l7_m3_1 : List (Int × Int × Int × Int)) : Option (Ctl (Nat × (List (Int × Int × Int × Int))) (List (Int × Int × Int × Int))) :=
  cond (decide (((l7_m11 : Nat) : Int) < ((y6.length : Nat) : Int)))
  (Option.bind (Option.bind (y6[l7_m11]?) fun x13 =>
    cond x13
      (Option.bind (l7_m3_1[l7_m11]?) fun x16 =>
      some (l7_m3_1.set l7_m11 (2, 0, 0, 0)))
      (some l7_m3_1)) fun l11_m3_1 =>
  og (l7_m11 + 1 < 4611686018427387904) <|
  some (Ctl.next (l7_m11 + 1, l11_m3_1)))
  (some (Ctl.out l7_m3_1))
def L_spec_opFold (a0_0 : Int) (a0_1 : List (Int × Int × Int × Int)) (a0_2 : List Int) : Option (Int × (List (Int × Int × Int × Int)) × List Int) :=
  Option.bind (L_spec_opOwn a0_0 a0_1 a0_2) fun y3 =>
Option.bind (Option.bind (L_spec_opSilent a0_0 a0_1 a0_2) fun y6 =>
  loopM (fun s_ : Nat × (List (Int × Int × Int × Int)) => L_spec_opFold_l1 y6 s_.1 s_.2) 4611686018427387904 (0, y3.2.1)) fun l4_m3_1 =>
some (y3.1, l4_m3_1, y3.2.2)
def rv_spec_opFold (r : Int × (List (Int × Int × Int × Int)) × List Int) : RV := ⟨false, [(true, [.sc (.int .i64 r.1), .new 51 (.pair .int (.pair .int (.pair .int .int))) r.2.1, .new 3 .int r.2.2])]⟩
theorem ok_spec_opFold {a0_0 : Int} {a0_1 : List (Int × Int × Int × Int)} {a0_2 : List Int} {r : Int × (List (Int × Int × Int × Int)) × List Int} (h : L_spec_opFold a0_0 a0_1 a0_2 = some r) : CallOK Tryd.prog Tab 66 [(.agg [(ai a0_0), (.tree (.pair .int (.pair .int (.pair .int .int))) a0_1), (.tree .int a0_2)])] (rv_spec_opFold r) := by
  refine call_of_ (by kernel_rfl) Tryd.func66 c_spec_opFold (n := 24) (by kernel_rfl) (by simp) (tl := [(0, (.agg [(ai a0_0), (.tree (.pair .int (.pair .int (.pair .int .int))) a0_1), (.tree .int a0_2)]))]) rfl ?_
  unfold m_spec_opFold
  unfold L_spec_opFold at h
  refine seqR ?_
  refine awp_seqv_ ?_
  obtain ⟨y3, h3, h⟩ := ob_some h
  refine awp_region_ 7 ?_
  refine rsl (.agg [(ai a0_0), (.tree (.pair .int (.pair .int (.pair .int .int))) a0_1), (.tree .int a0_2)]) (by kernel_rfl) ?_
  refine rcall (.agg [(ai y3.1), (.own (oi 112 4) (.pair .int (.pair .int (.pair .int .int))) 0 y3.2.1.length), (.own (oi 113 4) .int 0 y3.2.2.length)]) [((oi 112 4), some (.arr 51 (.pair .int (.pair .int (.pair .int .int))) y3.2.1)), ((oi 113 4), some (.arr 3 .int y3.2.2))] [(.agg [(ai a0_0), (.tree (.pair .int (.pair .int (.pair .int .int))) a0_1), (.tree .int a0_2)])] _ (caps := []) (args0 := [(.agg [(ai a0_0), (.tree (.pair .int (.pair .int (.pair .int .int))) a0_1), (.tree .int a0_2)])]) trivial (by kernel_rfl) (ok_spec_opOwn h3) hb_spec_opOwn ?_
  refine rsB 2 ?_
  refine rnil (tn_ ?_)
  refine ⟨_, Weak.refl _, ?_⟩
  refine awp_seqB h (fun (l4_m3_1 : List (Int × Int × Int × Int)) S_ => S_ = ⟨mkTm [(2, (.box (oi 0 1) 0)), (3, (.box (oi 1 1) 0))], mkOb (someL [((oi 0 1), .cells 31 [(ai 0), .nils, .nils]), ((oi 1 1), .cells 31 [(ai y3.1), (.own (oi 2 1) (.pair .int (.pair .int (.pair .int .int))) 0 l4_m3_1.length), (.own (oi 3 1) .int 0 y3.2.2.length)]), ((oi 2 1), .arr 51 (.pair .int (.pair .int (.pair .int .int))) l4_m3_1), ((oi 3 1), .arr 3 .int y3.2.2)]), 2⟩) ?_ ?_
  · intro v_ h
    refine awp_seqv_ ?_
    obtain ⟨y6, h6, h⟩ := ob_some h
    refine awp_region_ 11 ?_
    refine rsl (.agg [(ai a0_0), (.tree (.pair .int (.pair .int (.pair .int .int))) a0_1), (.tree .int a0_2)]) (by kernel_rfl) ?_
    refine rcall (.own (oi 144 8) .bool 0 y6.length) [((oi 144 8), some (.arr 4 .bool y6))] [(.agg [(ai a0_0), (.tree (.pair .int (.pair .int (.pair .int .int))) a0_1), (.tree .int a0_2)])] _ (caps := []) (args0 := [(.agg [(ai a0_0), (.tree (.pair .int (.pair .int (.pair .int .int))) a0_1), (.tree .int a0_2)])]) trivial (by kernel_rfl) (ok_spec_opSilent h6) hb_spec_opSilent ?_
    refine rsB 2 ?_
    refine rnil (tn_ ?_)
    refine ⟨_, Weak.refl _, ?_⟩
    refine awp_block_ ?_
    refine awp_loopL h (fun t_ S_ => ∃ (l7_m11 : Nat), ∃ (l7_m3_1 : List (Int × Int × Int × Int)), t_ = (l7_m11, l7_m3_1) ∧ S_ = ⟨mkTm [(2, (.box (oi 0 1) 0)), (3, (.box (oi 1 1) 0)), (9, (.own (oi 2 1) .bool 0 y6.length)), (10, (ai ((y6.length : Nat) : Int))), (11, (ai ((l7_m11 : Nat) : Int)))], mkOb (someL [((oi 0 1), .cells 31 [(ai 0), .nils, .nils]), ((oi 1 1), .cells 31 [(ai y3.1), (.own (oi 3 1) (.pair .int (.pair .int (.pair .int .int))) 0 l7_m3_1.length), (.own (oi 4 1) .int 0 y3.2.2.length)]), ((oi 2 1), .arr 4 .bool y6), ((oi 3 1), .arr 51 (.pair .int (.pair .int (.pair .int .int))) l7_m3_1), ((oi 4 1), .arr 3 .int y3.2.2)]), 2⟩) ⟨_, (weak_ren [((oi 0 1), (oi 2 2)), ((oi 1 1), (oi 3 5)), ((oi 3 1), (oi 112 4)), ((oi 4 1), (oi 113 4)), ((oi 2 1), (oi 144 8))]), ⟨0, y3.2.1, rfl, rfl⟩⟩ ?_
    rintro n_ _ _ c_ ⟨l7_m11, l7_m3_1, rfl, rfl⟩ h hn7
    (try dsimp only at h)
    unfold L_spec_opFold_l1 at h
    unfold m_spec_opFold_l1
    refine seqR ?_
    refine awp_seqv_ ?_
    rcases cond_some h with ⟨q10, h⟩ | ⟨q10, h⟩
    · have q10_ := of_decide_eq_true q10
      refine awp_condT_ q10 ?_
      refine awp_skip_ (tn_ ?_)
      refine ⟨_, Weak.refl _, ?_⟩
      refine awp_seqB h (fun (l11_m3_1 : List (Int × Int × Int × Int)) S_ => S_ = ⟨mkTm [(2, (.box (oi 0 1) 0)), (3, (.box (oi 1 1) 0)), (9, (.own (oi 2 1) .bool 0 y6.length)), (10, (ai ((y6.length : Nat) : Int))), (11, (ai ((l7_m11 : Nat) : Int)))], mkOb (someL [((oi 0 1), .cells 31 [(ai 0), .nils, .nils]), ((oi 1 1), .cells 31 [(ai y3.1), (.own (oi 3 1) (.pair .int (.pair .int (.pair .int .int))) 0 l11_m3_1.length), (.own (oi 4 1) .int 0 y3.2.2.length)]), ((oi 2 1), .arr 4 .bool y6), ((oi 3 1), .arr 51 (.pair .int (.pair .int (.pair .int .int))) l11_m3_1), ((oi 4 1), .arr 3 .int y3.2.2)]), 2⟩) ?_ ?_
      · intro v_ h
        refine awp_block_ ?_
        refine awp_seqv_ ?_
        obtain ⟨x13, e13, h⟩ := ob_some h
        refine awp_region_ 8 ?_
        refine rs0 (ai ((l7_m11 : Nat) : Int)) (by kernel_rfl) ?_
        refine rs0 (.elt (oi 2 1) l7_m11 0) (s_idxO (t := .bool) (o := (oi 2 1)) (len := y6.length) (k := .i64) (m := ((l7_m11 : Nat) : Int)) (by kernel_rfl) (by kernel_rfl) rfl (nat_nn _) rfl (getN_lt e13)) ?_
        refine rsl (.bool x13) (s_ldE (i := (oi 2 1)) (j := l7_m11) (k := 0) (e := 4) (t := .bool) (xs := y6) (by kernel_rfl) (by kernel_rfl) e13 (by kernel_rfl)) ?_
        refine rsB 2 ?_
        refine rnil (tn_ ?_)
        refine ⟨_, Weak.refl _, ?_⟩
        refine seqR ?_
        rcases cond_some h with ⟨q15, h⟩ | ⟨q15, h⟩
        · refine awp_condT_ q15 ?_
          obtain ⟨x16, e16, h⟩ := ob_some h
          refine awp_region_ 15 ?_
          refine rs0 (.box (oi 1 1) 1) (by kernel_rfl) ?_
          refine rsl (.own (oi 3 1) (.pair .int (.pair .int (.pair .int .int))) 0 l7_m3_1.length) (by kernel_rfl) ?_
          refine rs0 (ai ((l7_m11 : Nat) : Int)) (by kernel_rfl) ?_
          refine rs0 (.agg [(ai 2), (ai 0), (ai 0), (ai 0)]) (by kernel_rfl) ?_
          refine rs0 (.elt (oi 3 1) l7_m11 0) (s_idxO (t := (.pair .int (.pair .int (.pair .int .int)))) (o := (oi 3 1)) (len := l7_m3_1.length) (k := .i64) (m := ((l7_m11 : Nat) : Int)) (by kernel_rfl) (by kernel_rfl) rfl (nat_nn _) rfl (getN_lt e16)) ?_
          refine rsn2 (oi 3 1) (oi 3 1) (.arr 51 (.pair .int (.pair .int (.pair .int .int))) (l7_m3_1.set l7_m11 (2, 0, 0, 0))) (s_stE (i := (oi 3 1)) (j := l7_m11) (k := 0) (e := 51) (t := (.pair .int (.pair .int (.pair .int .int)))) (xs := l7_m3_1) (cs := [(ai 2), (ai 0), (ai 0), (ai 0)]) (x1 := (2, 0, 0, 0)) (by kernel_rfl) (by kernel_rfl) e16 (by kernel_rfl) (by kernel_rfl)) ?_
          refine rnil (bn_ (tn_ ?_))
          obtain rfl := Option.some.inj h
          exact ⟨_, ((weak_ob_ (oi 1 1) (.cells 31 [(ai y3.1), (.own (oi 3 1) (.pair .int (.pair .int (.pair .int .int))) 0 l7_m3_1.length), (.own (oi 4 1) .int 0 y3.2.2.length)]) (.cells 31 [(ai y3.1), (.own (oi 3 1) (.pair .int (.pair .int (.pair .int .int))) 0 ((l7_m3_1.set l7_m11 (2, 0, 0, 0)).length)), (.own (oi 4 1) .int 0 y3.2.2.length)]) (by kernel_rfl) (congrArg (fun z_ => (.cells 31 [(ai y3.1), (.own (oi 3 1) (.pair .int (.pair .int (.pair .int .int))) 0 z_), (.own (oi 4 1) .int 0 y3.2.2.length)] : Ob)) (((rfl : l7_m3_1.length = l7_m3_1.length).trans List.length_set.symm) : l7_m3_1.length = (l7_m3_1.set l7_m11 (2, 0, 0, 0)).length))).trans (weak_ren [])), rfl⟩
        refine awp_condF_ q15 ?_
        refine awp_skip_ (bn_ (tn_ ?_))
        obtain rfl := Option.some.inj h
        exact ⟨_, (weak_ren []), rfl⟩
      rintro l11_m3_1 _ rfl h
      (try dsimp only at h)
      obtain ⟨g17, h⟩ := og_some h
      refine awp_region_ 4 ?_
      refine rs0 (ai ((l7_m11 + 1 : Nat) : Int)) (s_add1 (j := l7_m11) (by kernel_rfl) (by kernel_rfl) g17) ?_
      refine rsB 1 ?_
      refine rnil (tn_ ?_)
      obtain rfl := Option.some.inj h
      exact ⟨(l7_m11 + 1, l11_m3_1), _, (weak_ren []), ⟨l7_m11 + 1, l11_m3_1, rfl, rfl⟩, hn7⟩
    have q10_ := of_decide_eq_false q10
    refine awp_condF_ q10 ?_
    refine awp_exit_ (te_ (te_ (be_ (tn_ ?_))))
    obtain rfl := Option.some.inj h
    have h := hn7
    (try dsimp only at h)
    obtain rfl := Option.some.inj h
    exact ⟨_, (weak_ren [((oi 2 1), (oi 3 1)), ((oi 3 1), (oi 4 1))]), rfl⟩
  rintro l4_m3_1 _ rfl h
  (try dsimp only at h)
  refine seqR ?_
  refine awp_ret_ ?_
  obtain rfl := Option.some.inj h
  exact ret_ [(.agg [(ai y3.1), (.own (oi 2 1) (.pair .int (.pair .int (.pair .int .int))) 0 l4_m3_1.length), (.own (oi 3 1) .int 0 y3.2.2.length)])] (p_agg (l_cons (l_sc (by kernel_rfl)) (l_cons (l_own (by kernel_rfl) rfl) (l_cons (l_own (by kernel_rfl) rfl) l_nil))) p_nil)
def m_spec_FoldZeros : AC :=
  (.seq (rg [xo 3 (.i (.box 31 (tm 1))), xo 4 (.i (.alloc 31 [(.int .i64 0), .nils, .nils])), xo 5 (qm (cb false))])
  (.seq (.seq (rg [xo 6 (qm (tm 0)), xo 7 (.i (.ld false 3 (tm 3))), ⟨(some 8), none, (qc 35 [(tm 6), (tm 7)] [[], [none, (some (.pair .int (.pair .int (.pair .int .int)))), (some .int)]])⟩, xo 9 (.i (.not (tm 8)))])
  (.cond (tm 9)
    (.seq (rg [xo 10 (.build [(.int .i64 0), .nils, .nils] []), xn (.st false 3 (tm 4) (tm 10)), xo 5 (qm (cb false))])
    .ret)
    .skip))
  (.seq (rg [xo 11 (.i (.ld false 3 (tm 3))), ⟨(some 12), none, (qc 66 [(tm 11)] [[none, (some (.pair .int (.pair .int (.pair .int .int)))), (some .int)]])⟩, xn (.st false 3 (tm 4) (tm 12)), xo 5 (qm (cb true))])
  .ret)))
def r_spec_FoldZeros : List Res := [.cell 4 false 3, .tmp 5]
theorem c_spec_FoldZeros : compiled Tryd.prog Tryd.f31 = some (m_spec_FoldZeros, r_spec_FoldZeros) := by kernel_rfl
theorem hb_spec_FoldZeros : hasBody Tryd.prog 31 = true := by kernel_rfl
def L_spec_FoldZeros (a0 : Int) (a1_0 : Int) (a1_1 : List (Int × Int × Int × Int)) (a1_2 : List Int) : Option (Int × (List (Int × Int × Int × Int)) × List Int × Bool) :=
  Option.bind (L_spec_crGood a0 a1_0 a1_1 a1_2) fun y4 =>
cond (!y4)
  (some (0, [], [], false))
  (Option.bind (L_spec_opFold a1_0 a1_1 a1_2) fun y8 =>
  some (y8.1, y8.2.1, y8.2.2, true))
def rv_spec_FoldZeros (r : Int × (List (Int × Int × Int × Int)) × List Int × Bool) : RV := ⟨true, [(true, [.sc (.int .i64 r.1), .new 51 (.pair .int (.pair .int (.pair .int .int))) r.2.1, .new 3 .int r.2.2.1]), (false, [.sc (.bool r.2.2.2)])]⟩
theorem ok_spec_FoldZeros {a0 : Int} {a1_0 : Int} {a1_1 : List (Int × Int × Int × Int)} {a1_2 : List Int} {r : Int × (List (Int × Int × Int × Int)) × List Int × Bool} (h : L_spec_FoldZeros a0 a1_0 a1_1 a1_2 = some r) : CallOK Tryd.prog Tab 31 [(ai a0), (.agg [(ai a1_0), (.tree (.pair .int (.pair .int (.pair .int .int))) a1_1), (.tree .int a1_2)])] (rv_spec_FoldZeros r) := by
  refine call_of_ (by kernel_rfl) Tryd.func31 c_spec_FoldZeros (n := 13) (by kernel_rfl) (by simp) (tl := [(0, (ai a0)), (1, (.agg [(ai a1_0), (.tree (.pair .int (.pair .int (.pair .int .int))) a1_1), (.tree .int a1_2)]))]) rfl ?_
  unfold m_spec_FoldZeros
  unfold L_spec_FoldZeros at h
  refine seqR ?_
  refine awp_seqv_ ?_
  refine awp_seqv_ ?_
  obtain ⟨y4, h4, h⟩ := ob_some h
  refine awp_region_ 8 ?_
  refine rs0 (ai a0) (by kernel_rfl) ?_
  refine rsl (.agg [(ai a1_0), (.tree (.pair .int (.pair .int (.pair .int .int))) a1_1), (.tree .int a1_2)]) (by kernel_rfl) ?_
  refine rcall (.bool y4) [] [(ai a0), (.agg [(ai a1_0), (.tree (.pair .int (.pair .int (.pair .int .int))) a1_1), (.tree .int a1_2)])] _ (caps := []) (args0 := [(ai a0), (.agg [(ai a1_0), (.tree (.pair .int (.pair .int (.pair .int .int))) a1_1), (.tree .int a1_2)])]) trivial (by kernel_rfl) (ok_spec_crGood h4) hb_spec_crGood ?_
  refine rsB 1 ?_
  refine rnil (tn_ ?_)
  refine ⟨_, Weak.refl _, ?_⟩
  rcases cond_some h with ⟨q5, h⟩ | ⟨q5, h⟩
  · refine awp_condT_ q5 ?_
    refine seqR ?_
    refine awp_ret_ (tr_ ?_)
    obtain rfl := Option.some.inj h
    exact ret_ [(.agg [(ai 0), .nils, .nils]), (.bool false)] (p_agg (l_cons (l_sc (by kernel_rfl)) (l_cons (l_nils rfl) (l_cons (l_nils rfl) l_nil))) (p_one rfl (l_sc (by kernel_rfl)) p_nil))
  refine awp_condF_ q5 ?_
  refine awp_skip_ (tn_ ?_)
  refine ⟨_, Weak.refl _, ?_⟩
  refine awp_seqv_ ?_
  obtain ⟨y8, h8, h⟩ := ob_some h
  refine awp_region_ 12 ?_
  refine rsl (.agg [(ai a1_0), (.tree (.pair .int (.pair .int (.pair .int .int))) a1_1), (.tree .int a1_2)]) (by kernel_rfl) ?_
  refine rcall (.agg [(ai y8.1), (.own (oi 192 9) (.pair .int (.pair .int (.pair .int .int))) 0 y8.2.1.length), (.own (oi 193 9) .int 0 y8.2.2.length)]) [((oi 192 9), some (.arr 51 (.pair .int (.pair .int (.pair .int .int))) y8.2.1)), ((oi 193 9), some (.arr 3 .int y8.2.2))] [(.agg [(ai a1_0), (.tree (.pair .int (.pair .int (.pair .int .int))) a1_1), (.tree .int a1_2)])] _ (caps := []) (args0 := [(.agg [(ai a1_0), (.tree (.pair .int (.pair .int (.pair .int .int))) a1_1), (.tree .int a1_2)])]) trivial (by kernel_rfl) (ok_spec_opFold h8) hb_spec_opFold ?_
  refine rsB 2 ?_
  refine rnil (tn_ ?_)
  refine ⟨_, Weak.refl _, ?_⟩
  refine awp_ret_ ?_
  obtain rfl := Option.some.inj h
  exact ret_ [(.agg [(ai y8.1), (.own (oi 192 9) (.pair .int (.pair .int (.pair .int .int))) 0 y8.2.1.length), (.own (oi 193 9) .int 0 y8.2.2.length)]), (.bool true)] (p_agg (l_cons (l_sc (by kernel_rfl)) (l_cons (l_own (by kernel_rfl) rfl) (l_cons (l_own (by kernel_rfl) rfl) l_nil))) (p_one rfl (l_sc (by kernel_rfl)) p_nil))
def m_impl_staysSilent : AC :=
  (.seq (rg [xo 2 (.i (.box 51 (tm 0))), xo 4 (qm (cb false))])
  (.seq (.seq (rg [xo 5 (qf 0 (tm 2)), xo 6 (ql (tm 5))])
  (.block 0 (.seq (rg [xo 8 (qb .eql (tm 6) (ci 2)), xo 7 (qm (tm 8))])
  (.cond (tm 7)
    (.seq (rg [xo 4 (qm (cb true))])
    .ret)
    (.seq (rg [xo 10 (qb .eql (tm 6) (ci 4)), xo 9 (qm (tm 10))])
    (.cond (tm 9)
      (.seq (rg [xo 11 (qf 3 (tm 2)), xo 12 (ql (tm 11)), xo 13 (qb .eql (tm 12) (ci 0)), xo 14 (qm (tm 13)), ⟨(some 15), (some (14, false)), (qm (tm 1))⟩, ⟨(some 16), (some (14, false)), (qf 1 (tm 2))⟩, ⟨(some 17), (some (14, false)), (ql (tm 16))⟩, ⟨(some 18), (some (14, false)), (qx 1 (tm 15) (tm 17))⟩, ⟨(some 19), (some (14, false)), (ql (tm 18))⟩, xo 20 (.i (.pick (tm 14) (cb true) (tm 19))), xo 4 (qm (tm 20))])
      .ret)
      (.seq (rg [xo 22 (qb .eql (tm 6) (ci 3)), xo 21 (qm (tm 22))])
      (.cond (tm 21)
        (.seq (rg [xo 23 (qm (tm 1)), xo 24 (qf 1 (tm 2)), xo 25 (ql (tm 24)), xo 26 (qx 1 (tm 23) (tm 25)), xo 27 (ql (tm 26)), xo 28 (qm (tm 27)), ⟨(some 29), (some (28, true)), (qm (tm 1))⟩, ⟨(some 30), (some (28, true)), (qf 2 (tm 2))⟩, ⟨(some 31), (some (28, true)), (ql (tm 30))⟩, ⟨(some 32), (some (28, true)), (qx 1 (tm 29) (tm 31))⟩, ⟨(some 33), (some (28, true)), (ql (tm 32))⟩, xo 34 (.i (.pick (tm 28) (tm 33) (cb false))), xo 4 (qm (tm 34))])
        .ret)
        (.seq (rg [xo 36 (qb .eql (tm 6) (ci 5)), xo 35 (qm (tm 36))])
        (.cond (tm 35)
          (.seq (rg [xo 37 (qm (tm 1)), xo 38 (qf 1 (tm 2)), xo 39 (ql (tm 38)), xo 40 (qx 1 (tm 37) (tm 39)), xo 41 (ql (tm 40)), xo 4 (qm (tm 41))])
          .ret)
          .skip))))))))))
  (.seq (rg [xo 4 (qm (cb false))])
  .ret)))
def r_impl_staysSilent : List Res := [.tmp 4]
theorem c_impl_staysSilent : compiled Tryd.prog Tryd.f97 = some (m_impl_staysSilent, r_impl_staysSilent) := by kernel_rfl
theorem hb_impl_staysSilent : hasBody Tryd.prog 97 = true := by kernel_rfl
def L_impl_staysSilent (a0_0 : Int) (a0_1 : Int) (a0_2 : Int) (a0_3 : Int) (a1 : List Bool) : Option Bool :=
  cond (a0_0 == 2)
  (some true)
  (cond (a0_0 == 4)
    (Option.bind (cond (a0_3 == 0)
        (some true)
        (Option.bind (getI a1 a0_1) fun x11 =>
        some x11)) fun l9_m4 =>
    some l9_m4)
    (cond (a0_0 == 3)
      (Option.bind (Option.bind (getI a1 a0_1) fun x15 =>
        cond x15
          (Option.bind (getI a1 a0_2) fun x17 =>
          some x17)
          (some false)) fun l14_m4 =>
      some l14_m4)
      (cond (a0_0 == 5)
        (Option.bind (getI a1 a0_1) fun x21 =>
        some x21)
        (some false))))
def rv_impl_staysSilent (r : Bool) : RV := ⟨false, [(false, [.sc (.bool r)])]⟩
theorem ok_impl_staysSilent {a0_0 : Int} {a0_1 : Int} {a0_2 : Int} {a0_3 : Int} {a1 : List Bool} {r : Bool} (h : L_impl_staysSilent a0_0 a0_1 a0_2 a0_3 a1 = some r) : CallOK Tryd.prog Tab 97 [(.agg [(ai a0_0), (ai a0_1), (ai a0_2), (ai a0_3)]), (.tree .bool a1)] (rv_impl_staysSilent r) := by
  refine call_of_ (by kernel_rfl) Tryd.func97 c_impl_staysSilent (n := 42) (by kernel_rfl) (by simp) (tl := [(0, (.agg [(ai a0_0), (ai a0_1), (ai a0_2), (ai a0_3)])), (1, (.tree .bool a1))]) rfl ?_
  unfold m_impl_staysSilent
  unfold L_impl_staysSilent at h
  refine seqR ?_
  refine awp_seqv_ ?_
  refine seqR ?_
  refine awp_block_ ?_
  refine seqR ?_
  rcases cond_some h with ⟨q5, h⟩ | ⟨q5, h⟩
  · refine awp_condT_ q5 ?_
    refine seqR ?_
    refine awp_ret_ (br_ (tr_ ?_))
    obtain rfl := Option.some.inj h
    exact ret_ [(.bool true)] (p_one rfl (l_sc (by kernel_rfl)) p_nil)
  refine awp_condF_ q5 ?_
  refine seqR ?_
  rcases cond_some h with ⟨q8, h⟩ | ⟨q8, h⟩
  · refine awp_condT_ q8 ?_
    refine awp_seqB h (fun (l9_m4 : Bool) S_ => S_ = ⟨mkTm [(4, (.bool l9_m4))], mkOb (someL []), 2⟩) ?_ ?_
    · intro v_ h
      rcases cond_some h with ⟨q10, h⟩ | ⟨q10, h⟩
      · refine awp_region_ 20 ?_
        refine rs0 (.box (oi 2 1) 3) (by kernel_rfl) ?_
        refine rsl (ai a0_3) (by kernel_rfl) ?_
        refine rs0 (.bool (a0_3 == 0)) (by kernel_rfl) ?_
        refine rs0 (.bool (a0_3 == 0)) (by kernel_rfl) ?_
        refine rs0 (.tup []) (s_skip (by kernel_rfl) q10) ?_
        refine rs0 (.tup []) (s_skip (by kernel_rfl) q10) ?_
        refine rs0 (.tup []) (s_skip (by kernel_rfl) q10) ?_
        refine rs0 (.tup []) (s_skip (by kernel_rfl) q10) ?_
        refine rs0 (.tup []) (s_skip (by kernel_rfl) q10) ?_
        refine rs0 (.bool true) (s_pickT (by kernel_rfl) q10) ?_
        refine rsB 1 ?_
        refine rnil (tn_ ?_)
        obtain rfl := Option.some.inj h
        exact ⟨_, (weak_ren []), rfl⟩
      obtain ⟨x11, f11, h⟩ := ob_some h
      obtain ⟨p11, b11, e11⟩ := getI_some f11
      refine awp_region_ 20 ?_
      refine rs0 (.box (oi 2 1) 3) (by kernel_rfl) ?_
      refine rsl (ai a0_3) (by kernel_rfl) ?_
      refine rs0 (.bool (a0_3 == 0)) (by kernel_rfl) ?_
      refine rs0 (.bool (a0_3 == 0)) (by kernel_rfl) ?_
      refine rs0 (.tree .bool a1) (s_gd (by kernel_rfl) q10 (by kernel_rfl)) ?_
      refine rs0 (.box (oi 2 1) 1) (s_gd (by kernel_rfl) q10 (by kernel_rfl)) ?_
      refine rsl (ai a0_1) (s_gd (by kernel_rfl) q10 (by kernel_rfl)) ?_
      refine rs0 (.telt .bool x11 0) (s_gd (by kernel_rfl) q10 (s_idxT (t := .bool) (xs := a1) (k := .i64) (m := a0_1) (by kernel_rfl) (by kernel_rfl) rfl p11 rfl e11)) ?_
      refine rs0 (.bool x11) (s_gd (by kernel_rfl) q10 (by kernel_rfl)) ?_
      refine rs0 (.bool x11) (s_pickF (by kernel_rfl) q10) ?_
      refine rsB 1 ?_
      refine rnil (tn_ ?_)
      obtain rfl := Option.some.inj h
      exact ⟨_, (weak_ren []), rfl⟩
    rintro l9_m4 _ rfl h
    (try dsimp only at h)
    refine awp_ret_ (br_ (tr_ ?_))
    obtain rfl := Option.some.inj h
    exact ret_ [(.bool l9_m4)] (p_one rfl (l_sc (by kernel_rfl)) p_nil)
  refine awp_condF_ q8 ?_
  refine seqR ?_
  rcases cond_some h with ⟨q13, h⟩ | ⟨q13, h⟩
  · refine awp_condT_ q13 ?_
    refine awp_seqB h (fun (l14_m4 : Bool) S_ => S_ = ⟨mkTm [(4, (.bool l14_m4))], mkOb (someL []), 2⟩) ?_ ?_
    · intro v_ h
      obtain ⟨x15, f15, h⟩ := ob_some h
      obtain ⟨p15, b15, e15⟩ := getI_some f15
      rcases cond_some h with ⟨q16, h⟩ | ⟨q16, h⟩
      · obtain ⟨x17, f17, h⟩ := ob_some h
        obtain ⟨p17, b17, e17⟩ := getI_some f17
        refine awp_region_ 24 ?_
        refine rs0 (.tree .bool a1) (by kernel_rfl) ?_
        refine rs0 (.box (oi 2 1) 1) (by kernel_rfl) ?_
        refine rsl (ai a0_1) (by kernel_rfl) ?_
        refine rs0 (.telt .bool x15 0) (s_idxT (t := .bool) (xs := a1) (k := .i64) (m := a0_1) (by kernel_rfl) (by kernel_rfl) rfl p15 rfl e15) ?_
        refine rs0 (.bool x15) (by kernel_rfl) ?_
        refine rs0 (.bool x15) (by kernel_rfl) ?_
        refine rs0 (.tree .bool a1) (s_gd (by kernel_rfl) q16 (by kernel_rfl)) ?_
        refine rs0 (.box (oi 2 1) 2) (s_gd (by kernel_rfl) q16 (by kernel_rfl)) ?_
        refine rsl (ai a0_2) (s_gd (by kernel_rfl) q16 (by kernel_rfl)) ?_
        refine rs0 (.telt .bool x17 0) (s_gd (by kernel_rfl) q16 (s_idxT (t := .bool) (xs := a1) (k := .i64) (m := a0_2) (by kernel_rfl) (by kernel_rfl) rfl p17 rfl e17)) ?_
        refine rs0 (.bool x17) (s_gd (by kernel_rfl) q16 (by kernel_rfl)) ?_
        refine rs0 (.bool x17) (s_pickT (by kernel_rfl) q16) ?_
        refine rsB 1 ?_
        refine rnil (tn_ ?_)
        obtain rfl := Option.some.inj h
        exact ⟨_, (weak_ren []), rfl⟩
      refine awp_region_ 24 ?_
      refine rs0 (.tree .bool a1) (by kernel_rfl) ?_
      refine rs0 (.box (oi 2 1) 1) (by kernel_rfl) ?_
      refine rsl (ai a0_1) (by kernel_rfl) ?_
      refine rs0 (.telt .bool x15 0) (s_idxT (t := .bool) (xs := a1) (k := .i64) (m := a0_1) (by kernel_rfl) (by kernel_rfl) rfl p15 rfl e15) ?_
      refine rs0 (.bool x15) (by kernel_rfl) ?_
      refine rs0 (.bool x15) (by kernel_rfl) ?_
      refine rs0 (.tup []) (s_skip (by kernel_rfl) q16) ?_
      refine rs0 (.tup []) (s_skip (by kernel_rfl) q16) ?_
      refine rs0 (.tup []) (s_skip (by kernel_rfl) q16) ?_
      refine rs0 (.tup []) (s_skip (by kernel_rfl) q16) ?_
      refine rs0 (.tup []) (s_skip (by kernel_rfl) q16) ?_
      refine rs0 (.bool false) (s_pickF (by kernel_rfl) q16) ?_
      refine rsB 1 ?_
      refine rnil (tn_ ?_)
      obtain rfl := Option.some.inj h
      exact ⟨_, (weak_ren []), rfl⟩
    rintro l14_m4 _ rfl h
    (try dsimp only at h)
    refine awp_ret_ (br_ (tr_ ?_))
    obtain rfl := Option.some.inj h
    exact ret_ [(.bool l14_m4)] (p_one rfl (l_sc (by kernel_rfl)) p_nil)
  refine awp_condF_ q13 ?_
  refine seqR ?_
  rcases cond_some h with ⟨q19, h⟩ | ⟨q19, h⟩
  · refine awp_condT_ q19 ?_
    refine awp_seqv_ ?_
    obtain ⟨x21, f21, h⟩ := ob_some h
    obtain ⟨p21, b21, e21⟩ := getI_some f21
    refine awp_region_ 19 ?_
    refine rs0 (.tree .bool a1) (by kernel_rfl) ?_
    refine rs0 (.box (oi 2 1) 1) (by kernel_rfl) ?_
    refine rsl (ai a0_1) (by kernel_rfl) ?_
    refine rs0 (.telt .bool x21 0) (s_idxT (t := .bool) (xs := a1) (k := .i64) (m := a0_1) (by kernel_rfl) (by kernel_rfl) rfl p21 rfl e21) ?_
    refine rsB 2 ?_
    refine rnil (tn_ ?_)
    refine ⟨_, Weak.refl _, ?_⟩
    refine awp_ret_ (br_ (tr_ ?_))
    obtain rfl := Option.some.inj h
    exact ret_ [(.bool x21)] (p_one rfl (l_sc (by kernel_rfl)) p_nil)
  refine awp_condF_ q19 ?_
  refine awp_skip_ (bn_ (tn_ ?_))
  refine ⟨_, Weak.refl _, ?_⟩
  refine seqR ?_
  refine awp_ret_ ?_
  obtain rfl := Option.some.inj h
  exact ret_ [(.bool false)] (p_one rfl (l_sc (by kernel_rfl)) p_nil)
def m_impl_Circuit_silent_l3 : AC :=
  (.seq (rg [xo 24 (qb .lss (tm 23) (tm 22))])
  (.seq (.cond (tm 24)
    .skip
    (.exit 2))
  (.seq (.block 3 (.seq (rg [xo 25 (qm (tm 23)), xo 26 (qx 4 (tm 21) (tm 23)), xo 27 (.i (.ld false 4 (tm 26))), xo 6 (.i (.alloc 51 [(.int .i64 0), (.int .i64 0), (.int .i64 0), (.int .i64 0)])), xo 5 (qm (tm 25)), xn (.st false 4 (tm 6) (tm 27))])
  (.seq (rg [xo 28 (qm (tm 3)), xo 29 (qm (tm 5)), xo 30 (qx 1 (tm 28) (tm 29)), xo 31 (ql (tm 30)), xo 32 (qm (tm 31)), ⟨(some 33), (some (32, true)), (.i (.ld false 4 (tm 6)))⟩, ⟨(some 34), (some (32, true)), (qm (tm 3))⟩, ⟨(some 35), (some (32, true)), (qc 97 [(tm 33), (tm 34)] [[none, none, none, none], [(some .bool)]])⟩, ⟨(some 36), (some (32, true)), (.i (.not (tm 35)))⟩, xo 37 (.i (.pick (tm 32) (tm 36) (cb false)))])
  (.cond (tm 37)
    (.seq (rg [xo 38 (qm (tm 3)), xo 39 (qm (tm 5)), xo 40 (qx 1 (tm 38) (tm 39)), xn (qs (tm 40) (cb false))])
    (.exit 1000000))
    .skip))))
  (rg [xo 41 (qb .add (tm 23) (ci 1)), xo 23 (qm (tm 41))]))))
def m_impl_Circuit_silent_l2 : AC :=
  (.block 1000000 (.seq (.seq (.seq (rg [xo 20 (qf 1 (tm 1)), xo 21 (ql (tm 20)), xo 22 (.i (.len (tm 21))), xo 23 (qm (ci 0))])
  (.block 2 (.loop m_impl_Circuit_silent_l3)))
  (.seq (rg [xo 42 (qm (tm 3)), xo 2 (qm (tm 42))])
  .ret))
  (.exit 1000001)))
def m_impl_Circuit_silent_l1 : AC :=
  (.seq (rg [xo 14 (qb .lss (tm 13) (tm 12))])
  (.seq (.cond (tm 14)
    .skip
    (.exit 0))
  (.seq (.block 1 (.seq (rg [xo 15 (qm (tm 13)), xo 4 (qm (tm 15))])
  (rg [xo 16 (qm (tm 3)), xo 17 (qm (tm 4)), xo 18 (qx 1 (tm 16) (tm 17)), xn (qs (tm 18) (cb true))])))
  (rg [xo 19 (qb .add (tm 13) (ci 1)), xo 13 (qm (tm 19))]))))
def m_impl_Circuit_silent : AC :=
  (.seq (rg [xo 1 (.i (.box 31 (tm 0))), xo 2 (qm (.cst .nils))])
  (.seq (rg [xo 7 (qf 1 (tm 1)), xo 8 (ql (tm 7)), xo 9 (.i (.len (tm 8))), xo 10 (.make 4 .bool 1 (tm 9) (tm 9)), xo 3 (qm (tm 10))])
  (.seq (.seq (rg [xo 11 (qm (tm 3)), xo 12 (.i (.len (tm 11))), xo 13 (qm (ci 0))])
  (.block 0 (.loop m_impl_Circuit_silent_l1)))
  (.block 1000001 (.loop m_impl_Circuit_silent_l2)))))
def r_impl_Circuit_silent : List Res := [.tmp 2]
theorem c_impl_Circuit_silent : compiled Tryd.prog Tryd.f89 = some (m_impl_Circuit_silent, r_impl_Circuit_silent) := by kernel_rfl
theorem hb_impl_Circuit_silent : hasBody Tryd.prog 89 = true := by kernel_rfl
def L_impl_Circuit_silent_l1 (a0_1 : List (Int × Int × Int × Int)) (l6_m13 : Nat) (l6_m3 : List Bool) : Option (Ctl (Nat × List Bool) (List Bool)) :=
  cond (decide (((l6_m13 : Nat) : Int) < ((a0_1.length : Nat) : Int)))
  (Option.bind (l6_m3[l6_m13]?) fun x12 =>
  og (l6_m13 + 1 < 4611686018427387904) <|
  some (Ctl.next (l6_m13 + 1, l6_m3.set l6_m13 true)))
  (some (Ctl.out l6_m3))
def L_impl_Circuit_silent_l3 (a0_1 : List (Int × Int × Int × Int)) (l14_m3 : List Bool) (l18_m23 : Nat) : Option (Ctl Nat (Ctl Unit (Ctl (List Bool) (List Bool)))) :=
  cond (decide (((l18_m23 : Nat) : Int) < ((a0_1.length : Nat) : Int)))
  (Option.bind (a0_1[l18_m23]?) fun x24 =>
  Option.bind (Option.bind (l14_m3[l18_m23]?) fun x26 =>
    cond x26
      (Option.bind (L_impl_staysSilent x24.1 x24.2.1 x24.2.2.1 x24.2.2.2 l14_m3) fun y28 =>
      some (!y28))
      (some false)) fun l25_m37 =>
  cond l25_m37
    (Option.bind (l14_m3[l18_m23]?) fun x31 =>
    some (Ctl.out (Ctl.out (Ctl.next (l14_m3.set l18_m23 false)))))
    (og (l18_m23 + 1 < 4611686018427387904) <|
    some (Ctl.next (l18_m23 + 1))))
  (some (Ctl.out (Ctl.next ())))
def L_impl_Circuit_silent_l2 (a0_1 : List (Int × Int × Int × Int)) (l14_m3 : List Bool) : Option (Ctl (List Bool) (List Bool)) :=
  seqC (loopM (fun s_ : Nat => L_impl_Circuit_silent_l3 a0_1 l14_m3 s_) 4611686018427387904 0) fun _ =>
some (Ctl.out l14_m3)
def L_impl_Circuit_silent (a0_0 : Int) (a0_1 : List (Int × Int × Int × Int)) (a0_2 : List Int) : Option (List Bool) :=
  og (0 ≤ ((a0_1.length : Nat) : Int) ∧ ((a0_1.length : Nat) : Int) ≤ ((a0_1.length : Nat) : Int) ∧ ((a0_1.length : Nat) : Int) ≤ 1073741824 ∧ (1 : Int) * ((a0_1.length : Nat) : Int) ≤ 140737488355328) <|
Option.bind (loopM (fun s_ : Nat × List Bool => L_impl_Circuit_silent_l1 a0_1 s_.1 s_.2) 4611686018427387904 (0, List.replicate a0_1.length (false : Bool))) fun l4_m3 =>
loopM (fun s_ : List Bool => L_impl_Circuit_silent_l2 a0_1 s_) 4611686018427387904 l4_m3
def rv_impl_Circuit_silent (r : List Bool) : RV := ⟨false, [(false, [.new 4 .bool r])]⟩
theorem ok_impl_Circuit_silent {a0_0 : Int} {a0_1 : List (Int × Int × Int × Int)} {a0_2 : List Int} {r : List Bool} (h : L_impl_Circuit_silent a0_0 a0_1 a0_2 = some r) : CallOK Tryd.prog Tab 89 [(.agg [(ai a0_0), (.tree (.pair .int (.pair .int (.pair .int .int))) a0_1), (.tree .int a0_2)])] (rv_impl_Circuit_silent r) := by
  refine call_of_ (by kernel_rfl) Tryd.func89 c_impl_Circuit_silent (n := 43) (by kernel_rfl) (by simp) (tl := [(0, (.agg [(ai a0_0), (.tree (.pair .int (.pair .int (.pair .int .int))) a0_1), (.tree .int a0_2)]))]) rfl ?_
  unfold m_impl_Circuit_silent
  unfold L_impl_Circuit_silent at h
  refine seqR ?_
  refine awp_seqv_ ?_
  obtain ⟨g3, h⟩ := og_some h
  refine awp_region_ 8 ?_
  refine rs0 (.box (oi 1 1) 1) (by kernel_rfl) ?_
  refine rsl (.tree (.pair .int (.pair .int (.pair .int .int))) a0_1) (by kernel_rfl) ?_
  refine rs0 (ai ((a0_1.length : Nat) : Int)) (by kernel_rfl) ?_
  refine rs1 (.own (oi 10 6) .bool 0 a0_1.length) (oi 10 6) (.arr 4 .bool (List.replicate a0_1.length (false : Bool))) (s_make (t := .bool) (k := .i64) (k' := .i64) (m := ((a0_1.length : Nat) : Int)) (m' := ((a0_1.length : Nat) : Int)) (by kernel_rfl) (by kernel_rfl) g3 rfl) ?_
  refine rsB 1 ?_
  refine rnil (tn_ ?_)
  refine ⟨_, Weak.refl _, ?_⟩
  refine awp_seqB h (fun (l4_m3 : List Bool) S_ => S_ = ⟨mkTm [(1, (.box (oi 0 1) 0)), (3, (.own (oi 1 1) .bool 0 l4_m3.length))], mkOb (someL [((oi 0 1), .cells 31 [(ai a0_0), (.tree (.pair .int (.pair .int (.pair .int .int))) a0_1), (.tree .int a0_2)]), ((oi 1 1), .arr 4 .bool l4_m3)]), 2⟩) ?_ ?_
  · intro v_ h
    refine seqR ?_
    refine awp_block_ ?_
    refine awp_loopL h (fun t_ S_ => ∃ (l6_m13 : Nat), ∃ (l6_m3 : List Bool), t_ = (l6_m13, l6_m3) ∧ S_ = ⟨mkTm [(1, (.box (oi 0 1) 0)), (3, (.own (oi 1 1) .bool 0 l6_m3.length)), (12, (ai ((a0_1.length : Nat) : Int))), (13, (ai ((l6_m13 : Nat) : Int)))], mkOb (someL [((oi 0 1), .cells 31 [(ai a0_0), (.tree (.pair .int (.pair .int (.pair .int .int))) a0_1), (.tree .int a0_2)]), ((oi 1 1), .arr 4 .bool l6_m3)]), 2⟩) ⟨_, ((weak_tm_ 3 (.own (oi 10 6) .bool 0 a0_1.length) (.own (oi 10 6) .bool 0 ((List.replicate a0_1.length (false : Bool)).length)) (by kernel_rfl) (congrArg (fun z_ => ((.own (oi 10 6) .bool 0 z_) : AV)) (List.length_replicate.symm : a0_1.length = (List.replicate a0_1.length (false : Bool)).length))).trans (weak_ren [((oi 0 1), (oi 1 1)), ((oi 1 1), (oi 10 6))])), ⟨0, List.replicate a0_1.length (false : Bool), rfl, rfl⟩⟩ ?_
    rintro n_ _ _ c_ ⟨l6_m13, l6_m3, rfl, rfl⟩ h hn6
    (try dsimp only at h)
    unfold L_impl_Circuit_silent_l1 at h
    unfold m_impl_Circuit_silent_l1
    refine seqR ?_
    refine awp_seqv_ ?_
    rcases cond_some h with ⟨q9, h⟩ | ⟨q9, h⟩
    · have q9_ := of_decide_eq_true q9
      refine awp_condT_ q9 ?_
      refine awp_skip_ (tn_ ?_)
      refine ⟨_, Weak.refl _, ?_⟩
      refine awp_seqv_ ?_
      refine awp_block_ ?_
      refine seqR ?_
      obtain ⟨x12, e12, h⟩ := ob_some h
      refine awp_region_ 9 ?_
      refine rs0 (.own (oi 1 1) .bool 0 l6_m3.length) (by kernel_rfl) ?_
      refine rs0 (ai ((l6_m13 : Nat) : Int)) (by kernel_rfl) ?_
      refine rs0 (.elt (oi 1 1) l6_m13 0) (s_idxO (t := .bool) (o := (oi 1 1)) (len := l6_m3.length) (k := .i64) (m := ((l6_m13 : Nat) : Int)) (by kernel_rfl) (by kernel_rfl) rfl (nat_nn _) rfl (getN_lt e12)) ?_
      refine rsn2 (oi 1 1) (oi 1 1) (.arr 4 .bool (l6_m3.set l6_m13 true)) (s_stE (i := (oi 1 1)) (j := l6_m13) (k := 0) (e := 4) (t := .bool) (xs := l6_m3) (cs := [(.bool true)]) (x1 := true) (by kernel_rfl) (by kernel_rfl) e12 (by kernel_rfl) (by kernel_rfl)) ?_
      refine rnil (bn_ (tn_ ?_))
      refine ⟨_, Weak.refl _, ?_⟩
      obtain ⟨g13, h⟩ := og_some h
      refine awp_region_ 11 ?_
      refine rs0 (ai ((l6_m13 + 1 : Nat) : Int)) (s_add1 (j := l6_m13) (by kernel_rfl) (by kernel_rfl) g13) ?_
      refine rsB 1 ?_
      refine rnil (tn_ ?_)
      obtain rfl := Option.some.inj h
      exact ⟨(l6_m13 + 1, l6_m3.set l6_m13 true), _, ((weak_tm_ 3 (.own (oi 1 1) .bool 0 l6_m3.length) (.own (oi 1 1) .bool 0 ((l6_m3.set l6_m13 true).length)) (by kernel_rfl) (congrArg (fun z_ => ((.own (oi 1 1) .bool 0 z_) : AV)) (((rfl : l6_m3.length = l6_m3.length).trans List.length_set.symm) : l6_m3.length = (l6_m3.set l6_m13 true).length))).trans (weak_ren [])), ⟨l6_m13 + 1, l6_m3.set l6_m13 true, rfl, rfl⟩, hn6⟩
    have q9_ := of_decide_eq_false q9
    refine awp_condF_ q9 ?_
    refine awp_exit_ (te_ (te_ (be_ (tn_ ?_))))
    obtain rfl := Option.some.inj h
    have h := hn6
    (try dsimp only at h)
    obtain rfl := Option.some.inj h
    exact ⟨_, (weak_ren []), rfl⟩
  rintro l4_m3 _ rfl h
  (try dsimp only at h)
  refine awp_block_ ?_
  refine awp_loopL h (fun (l14_m3 : List Bool) S_ => S_ = ⟨mkTm [(1, (.box (oi 0 1) 0)), (3, (.own (oi 1 1) .bool 0 l14_m3.length))], mkOb (someL [((oi 0 1), .cells 31 [(ai a0_0), (.tree (.pair .int (.pair .int (.pair .int .int))) a0_1), (.tree .int a0_2)]), ((oi 1 1), .arr 4 .bool l14_m3)]), 2⟩) ⟨_, (weak_ren []), rfl⟩ ?_
  rintro n_ l14_m3 _ c_ rfl h hn14
  (try dsimp only at h)
  unfold L_impl_Circuit_silent_l2 at h
  unfold m_impl_Circuit_silent_l2
  refine awp_block_ ?_
  refine awp_seqv_ ?_
  refine awp_seqC h (fun (_ : Unit) S_ => S_ = ⟨mkTm [(3, (.own (oi 0 1) .bool 0 l14_m3.length))], mkOb (someL [((oi 0 1), .arr 4 .bool l14_m3)]), 2⟩) ?_ ?_
  · intro v_ h hk16
    refine seqR ?_
    refine awp_block_ ?_
    refine awp_loopL h (fun (l18_m23 : Nat) S_ => S_ = ⟨mkTm [(1, (.box (oi 0 1) 0)), (3, (.own (oi 1 1) .bool 0 l14_m3.length)), (21, (.tree (.pair .int (.pair .int (.pair .int .int))) a0_1)), (22, (ai ((a0_1.length : Nat) : Int))), (23, (ai ((l18_m23 : Nat) : Int)))], mkOb (someL [((oi 0 1), .cells 31 [(ai a0_0), (.tree (.pair .int (.pair .int (.pair .int .int))) a0_1), (.tree .int a0_2)]), ((oi 1 1), .arr 4 .bool l14_m3)]), 2⟩) ⟨_, (weak_ren []), rfl⟩ ?_
    rintro n_ l18_m23 _ c_ rfl h hn18
    (try dsimp only at h)
    unfold L_impl_Circuit_silent_l3 at h
    unfold m_impl_Circuit_silent_l3
    refine seqR ?_
    refine awp_seqv_ ?_
    rcases cond_some h with ⟨q21, h⟩ | ⟨q21, h⟩
    · have q21_ := of_decide_eq_true q21
      refine awp_condT_ q21 ?_
      refine awp_skip_ (tn_ ?_)
      refine ⟨_, Weak.refl _, ?_⟩
      refine awp_seqv_ ?_
      refine awp_block_ ?_
      refine awp_seqv_ ?_
      obtain ⟨x24, e24, h⟩ := ob_some h
      refine awp_region_ 9 ?_
      refine rs0 (ai ((l18_m23 : Nat) : Int)) (by kernel_rfl) ?_
      refine rs0 (.telt (.pair .int (.pair .int (.pair .int .int))) x24 0) (s_idxT (t := (.pair .int (.pair .int (.pair .int .int)))) (xs := a0_1) (k := .i64) (m := ((l18_m23 : Nat) : Int)) (by kernel_rfl) (by kernel_rfl) rfl (nat_nn _) rfl e24) ?_
      refine rsB 4 ?_
      refine rnil (tn_ ?_)
      refine ⟨_, Weak.refl _, ?_⟩
      refine awp_seqB h (fun (l25_m37 : Bool) S_ => S_ = ⟨mkTm [(1, (.box (oi 0 1) 0)), (3, (.own (oi 1 1) .bool 0 l14_m3.length)), (5, (ai ((l18_m23 : Nat) : Int))), (21, (.tree (.pair .int (.pair .int (.pair .int .int))) a0_1)), (22, (ai ((a0_1.length : Nat) : Int))), (23, (ai ((l18_m23 : Nat) : Int))), (37, (.bool l25_m37))], mkOb (someL [((oi 0 1), .cells 31 [(ai a0_0), (.tree (.pair .int (.pair .int (.pair .int .int))) a0_1), (.tree .int a0_2)]), ((oi 1 1), .arr 4 .bool l14_m3)]), 2⟩) ?_ ?_
      · intro v_ h
        obtain ⟨x26, e26, h⟩ := ob_some h
        rcases cond_some h with ⟨q27, h⟩ | ⟨q27, h⟩
        · obtain ⟨y28, h28, h⟩ := ob_some h
          refine awp_region_ 19 ?_
          refine rs0 (.own (oi 1 1) .bool 0 l14_m3.length) (by kernel_rfl) ?_
          refine rs0 (ai ((l18_m23 : Nat) : Int)) (by kernel_rfl) ?_
          refine rs0 (.elt (oi 1 1) l18_m23 0) (s_idxO (t := .bool) (o := (oi 1 1)) (len := l14_m3.length) (k := .i64) (m := ((l18_m23 : Nat) : Int)) (by kernel_rfl) (by kernel_rfl) rfl (nat_nn _) rfl (getN_lt e26)) ?_
          refine rsl (.bool x26) (s_ldE (i := (oi 1 1)) (j := l18_m23) (k := 0) (e := 4) (t := .bool) (xs := l14_m3) (by kernel_rfl) (by kernel_rfl) e26 (by kernel_rfl)) ?_
          refine rs0 (.bool x26) (by kernel_rfl) ?_
          refine rsl (.agg [(ai x24.1), (ai x24.2.1), (ai x24.2.2.1), (ai x24.2.2.2)]) (s_gd (by kernel_rfl) q27 (by kernel_rfl)) ?_
          refine rs0 (.own (oi 1 1) .bool 0 l14_m3.length) (s_gd (by kernel_rfl) q27 (by kernel_rfl)) ?_
          refine rcall (.bool y28) [] [(.agg [(ai x24.1), (ai x24.2.1), (ai x24.2.2.1), (ai x24.2.2.2)]), (.own (oi 1 1) .bool 0 l14_m3.length)] _ (caps := []) (args0 := [(.agg [(ai x24.1), (ai x24.2.1), (ai x24.2.2.1), (ai x24.2.2.2)]), (.tree .bool l14_m3)]) (gdOK_b (by kernel_rfl) q27) (gm_cons (by kernel_rfl) (gm_cons (gd_own (e := 4) (by kernel_rfl) rfl) gm_nil)) (ok_impl_staysSilent h28) hb_impl_staysSilent ?_
          refine rs0 (.bool (!y28)) (s_gd (by kernel_rfl) q27 (by kernel_rfl)) ?_
          refine rs0 (.bool (!y28)) (s_pickT (by kernel_rfl) q27) ?_
          refine rnil (tn_ ?_)
          obtain rfl := Option.some.inj h
          exact ⟨_, (weak_ren []), rfl⟩
        refine awp_region_ 19 ?_
        refine rs0 (.own (oi 1 1) .bool 0 l14_m3.length) (by kernel_rfl) ?_
        refine rs0 (ai ((l18_m23 : Nat) : Int)) (by kernel_rfl) ?_
        refine rs0 (.elt (oi 1 1) l18_m23 0) (s_idxO (t := .bool) (o := (oi 1 1)) (len := l14_m3.length) (k := .i64) (m := ((l18_m23 : Nat) : Int)) (by kernel_rfl) (by kernel_rfl) rfl (nat_nn _) rfl (getN_lt e26)) ?_
        refine rsl (.bool x26) (s_ldE (i := (oi 1 1)) (j := l18_m23) (k := 0) (e := 4) (t := .bool) (xs := l14_m3) (by kernel_rfl) (by kernel_rfl) e26 (by kernel_rfl)) ?_
        refine rs0 (.bool x26) (by kernel_rfl) ?_
        refine rs0 (.tup []) (s_skip (by kernel_rfl) q27) ?_
        refine rs0 (.tup []) (s_skip (by kernel_rfl) q27) ?_
        refine rs0 (.tup []) (s_skip (by kernel_rfl) q27) ?_
        refine rs0 (.tup []) (s_skip (by kernel_rfl) q27) ?_
        refine rs0 (.bool false) (s_pickF (by kernel_rfl) q27) ?_
        refine rnil (tn_ ?_)
        obtain rfl := Option.some.inj h
        exact ⟨_, (weak_ren []), rfl⟩
      rintro l25_m37 _ rfl h
      (try dsimp only at h)
      rcases cond_some h with ⟨q29, h⟩ | ⟨q29, h⟩
      · refine awp_condT_ q29 ?_
        refine awp_seqv_ ?_
        obtain ⟨x31, e31, h⟩ := ob_some h
        refine awp_region_ 6 ?_
        refine rs0 (.own (oi 1 1) .bool 0 l14_m3.length) (by kernel_rfl) ?_
        refine rs0 (ai ((l18_m23 : Nat) : Int)) (by kernel_rfl) ?_
        refine rs0 (.elt (oi 1 1) l18_m23 0) (s_idxO (t := .bool) (o := (oi 1 1)) (len := l14_m3.length) (k := .i64) (m := ((l18_m23 : Nat) : Int)) (by kernel_rfl) (by kernel_rfl) rfl (nat_nn _) rfl (getN_lt e31)) ?_
        refine rsn2 (oi 1 1) (oi 1 1) (.arr 4 .bool (l14_m3.set l18_m23 false)) (s_stE (i := (oi 1 1)) (j := l18_m23) (k := 0) (e := 4) (t := .bool) (xs := l14_m3) (cs := [(.bool false)]) (x1 := false) (by kernel_rfl) (by kernel_rfl) e31 (by kernel_rfl) (by kernel_rfl)) ?_
        refine rnil (tn_ ?_)
        refine ⟨_, Weak.refl _, ?_⟩
        refine awp_exit_ (bf_ (by decide) (te_ (te_ (bf_ (by decide) (te_ (te_ (be_ (tn_ ?_))))))))
        obtain rfl := Option.some.inj h
        have h := hn18
        (try dsimp only at h)
        obtain rfl := Option.some.inj h
        have h := hk16
        (try dsimp only at h)
        obtain rfl := Option.some.inj h
        exact ⟨l14_m3.set l18_m23 false, _, ((weak_tm_ 3 (.own (oi 1 1) .bool 0 l14_m3.length) (.own (oi 1 1) .bool 0 ((l14_m3.set l18_m23 false).length)) (by kernel_rfl) (congrArg (fun z_ => ((.own (oi 1 1) .bool 0 z_) : AV)) (((rfl : l14_m3.length = l14_m3.length).trans List.length_set.symm) : l14_m3.length = (l14_m3.set l18_m23 false).length))).trans (weak_ren [])), rfl, hn14⟩
      refine awp_condF_ q29 ?_
      refine awp_skip_ (bn_ (tn_ ?_))
      refine ⟨_, Weak.refl _, ?_⟩
      obtain ⟨g32, h⟩ := og_some h
      refine awp_region_ 4 ?_
      refine rs0 (ai ((l18_m23 + 1 : Nat) : Int)) (s_add1 (j := l18_m23) (by kernel_rfl) (by kernel_rfl) g32) ?_
      refine rsB 1 ?_
      refine rnil (tn_ ?_)
      obtain rfl := Option.some.inj h
      exact ⟨l18_m23 + 1, _, (weak_ren []), rfl, hn18⟩
    have q21_ := of_decide_eq_false q21
    refine awp_condF_ q21 ?_
    refine awp_exit_ (te_ (te_ (be_ (tn_ ?_))))
    obtain rfl := Option.some.inj h
    have h := hn18
    (try dsimp only at h)
    obtain rfl := Option.some.inj h
    exact ⟨(), _, rfl, (weak_ren [((oi 0 1), (oi 1 1))]), rfl⟩
  rintro _ _ rfl h
  (try dsimp only at h)
  refine seqR ?_
  refine awp_ret_ (tr_ (br_ (tr_ (br_ ?_))))
  obtain rfl := Option.some.inj h
  have h := hn14
  (try dsimp only at h)
  obtain rfl := Option.some.inj h
  exact ret_ [(.own (oi 0 1) .bool 0 l14_m3.length)] (p_one rfl (l_own (by kernel_rfl) rfl) p_nil)
def m_impl_Circuit_foldZeros_l1 : AC :=
  (.seq (rg [xo 12 (qb .lss (tm 11) (tm 10))])
  (.seq (.cond (tm 12)
    .skip
    (.exit 0))
  (.seq (.block 1 (.seq (rg [xo 13 (qm (tm 11)), xo 14 (qx 1 (tm 9) (tm 11)), xo 15 (ql (tm 14)), xo 4 (qm (tm 13)), xo 5 (qm (tm 15))])
  (.seq (rg [xo 16 (qm (tm 5))])
  (.cond (tm 16)
    (rg [xo 17 (qf 1 (tm 3)), xo 18 (ql (tm 17)), xo 19 (qm (tm 4)), xo 20 (.build [(.int .i64 0), (.int .i64 0), (.int .i64 0), (.int .i64 0)] [(0, 1, (ci 2))]), xo 21 (qx 4 (tm 18) (tm 19)), xn (.st false 4 (tm 21) (tm 20))])
    .skip))))
  (rg [xo 22 (qb .add (tm 11) (ci 1)), xo 11 (qm (tm 22))]))))
def m_impl_Circuit_foldZeros : AC :=
  (.seq (rg [xo 1 (.i (.box 31 (tm 0))), xo 2 (.i (.alloc 31 [(.int .i64 0), .nils, .nils]))])
  (.seq (rg [xo 6 (.i (.ld false 3 (tm 1))), ⟨(some 7), none, (qc 46 [(tm 6)] [[none, (some (.pair .int (.pair .int (.pair .int .int)))), (some .int)]])⟩, xo 3 (.i (.alloc 31 [(.int .i64 0), .nils, .nils])), xn (.st false 3 (tm 3) (tm 7))])
  (.seq (.seq (rg [xo 8 (.i (.ld false 3 (tm 1))), ⟨(some 9), none, (qc 89 [(tm 8)] [[none, (some (.pair .int (.pair .int (.pair .int .int)))), (some .int)]])⟩, xo 10 (.i (.len (tm 9))), xo 11 (qm (ci 0))])
  (.block 0 (.loop m_impl_Circuit_foldZeros_l1)))
  (.seq (rg [xo 23 (.i (.ld false 3 (tm 3))), xn (.st false 3 (tm 2) (tm 23))])
  .ret))))
def r_impl_Circuit_foldZeros : List Res := [.cell 2 false 3]
theorem c_impl_Circuit_foldZeros : compiled Tryd.prog Tryd.f67 = some (m_impl_Circuit_foldZeros, r_impl_Circuit_foldZeros) := by kernel_rfl
theorem hb_impl_Circuit_foldZeros : hasBody Tryd.prog 67 = true := by kernel_rfl
def L_impl_Circuit_foldZeros_l1 (y6 : List Bool) (l7_m11 : Nat) (l7_m3_1 : List (Int × Int × Int × Int)) : Option (Ctl (Nat × (List (Int × Int × Int × Int))) (List (Int × Int × Int × Int))) :=
  cond (decide (((l7_m11 : Nat) : Int) < ((y6.length : Nat) : Int)))
  (Option.bind (Option.bind (y6[l7_m11]?) fun x13 =>
    cond x13
      (Option.bind (l7_m3_1[l7_m11]?) fun x16 =>
      some (l7_m3_1.set l7_m11 (2, 0, 0, 0)))
      (some l7_m3_1)) fun l11_m3_1 =>
  og (l7_m11 + 1 < 4611686018427387904) <|
  some (Ctl.next (l7_m11 + 1, l11_m3_1)))
  (some (Ctl.out l7_m3_1))
def L_impl_Circuit_foldZeros (a0_0 : Int) (a0_1 : List (Int × Int × Int × Int)) (a0_2 : List Int) : Option (Int × (List (Int × Int × Int × Int)) × List Int) :=
  Option.bind (L_impl_Circuit_copy a0_0 a0_1 a0_2) fun y3 =>
Option.bind (Option.bind (L_impl_Circuit_silent a0_0 a0_1 a0_2) fun y6 =>
  loopM (fun s_ : Nat × (List (Int × Int × Int × Int)) => L_impl_Circuit_foldZeros_l1 y6 s_.1 s_.2) 4611686018427387904 (0, y3.2.1)) fun l4_m3_1 =>
some (y3.1, l4_m3_1, y3.2.2)
def rv_impl_Circuit_foldZeros (r : Int × (List (Int × Int × Int × Int)) × List Int) : RV := ⟨false, [(true, [.sc (.int .i64 r.1), .new 51 (.pair .int (.pair .int (.pair .int .int))) r.2.1, .new 3 .int r.2.2])]⟩
theorem ok_impl_Circuit_foldZeros {a0_0 : Int} {a0_1 : List (Int × Int × Int × Int)} {a0_2 : List Int} {r : Int × (List (Int × Int × Int × Int)) × List Int} (h : L_impl_Circuit_foldZeros a0_0 a0_1 a0_2 = some r) : CallOK Tryd.prog Tab 67 [(.agg [(ai a0_0), (.tree (.pair .int (.pair .int (.pair .int .int))) a0_1), (.tree .int a0_2)])] (rv_impl_Circuit_foldZeros r) := by
  refine call_of_ (by kernel_rfl) Tryd.func67 c_impl_Circuit_foldZeros (n := 24) (by kernel_rfl) (by simp) (tl := [(0, (.agg [(ai a0_0), (.tree (.pair .int (.pair .int (.pair .int .int))) a0_1), (.tree .int a0_2)]))]) rfl ?_
  unfold m_impl_Circuit_foldZeros
  unfold L_impl_Circuit_foldZeros at h
  refine seqR ?_
  refine awp_seqv_ ?_
  obtain ⟨y3, h3, h⟩ := ob_some h
  refine awp_region_ 7 ?_
  refine rsl (.agg [(ai a0_0), (.tree (.pair .int (.pair .int (.pair .int .int))) a0_1), (.tree .int a0_2)]) (by kernel_rfl) ?_
  refine rcall (.agg [(ai y3.1), (.own (oi 112 4) (.pair .int (.pair .int (.pair .int .int))) 0 y3.2.1.length), (.own (oi 113 4) .int 0 y3.2.2.length)]) [((oi 112 4), some (.arr 51 (.pair .int (.pair .int (.pair .int .int))) y3.2.1)), ((oi 113 4), some (.arr 3 .int y3.2.2))] [(.agg [(ai a0_0), (.tree (.pair .int (.pair .int (.pair .int .int))) a0_1), (.tree .int a0_2)])] _ (caps := []) (args0 := [(.agg [(ai a0_0), (.tree (.pair .int (.pair .int (.pair .int .int))) a0_1), (.tree .int a0_2)])]) trivial (by kernel_rfl) (ok_impl_Circuit_copy h3) hb_impl_Circuit_copy ?_
  refine rsB 2 ?_
  refine rnil (tn_ ?_)
  refine ⟨_, Weak.refl _, ?_⟩
  refine awp_seqB h (fun (l4_m3_1 : List (Int × Int × Int × Int)) S_ => S_ = ⟨mkTm [(2, (.box (oi 0 1) 0)), (3, (.box (oi 1 1) 0))], mkOb (someL [((oi 0 1), .cells 31 [(ai 0), .nils, .nils]), ((oi 1 1), .cells 31 [(ai y3.1), (.own (oi 2 1) (.pair .int (.pair .int (.pair .int .int))) 0 l4_m3_1.length), (.own (oi 3 1) .int 0 y3.2.2.length)]), ((oi 2 1), .arr 51 (.pair .int (.pair .int (.pair .int .int))) l4_m3_1), ((oi 3 1), .arr 3 .int y3.2.2)]), 2⟩) ?_ ?_
  · intro v_ h
    refine awp_seqv_ ?_
    obtain ⟨y6, h6, h⟩ := ob_some h
    refine awp_region_ 11 ?_
    refine rsl (.agg [(ai a0_0), (.tree (.pair .int (.pair .int (.pair .int .int))) a0_1), (.tree .int a0_2)]) (by kernel_rfl) ?_
    refine rcall (.own (oi 144 8) .bool 0 y6.length) [((oi 144 8), some (.arr 4 .bool y6))] [(.agg [(ai a0_0), (.tree (.pair .int (.pair .int (.pair .int .int))) a0_1), (.tree .int a0_2)])] _ (caps := []) (args0 := [(.agg [(ai a0_0), (.tree (.pair .int (.pair .int (.pair .int .int))) a0_1), (.tree .int a0_2)])]) trivial (by kernel_rfl) (ok_impl_Circuit_silent h6) hb_impl_Circuit_silent ?_
    refine rsB 2 ?_
    refine rnil (tn_ ?_)
    refine ⟨_, Weak.refl _, ?_⟩
    refine awp_block_ ?_
    refine awp_loopL h (fun t_ S_ => ∃ (l7_m11 : Nat), ∃ (l7_m3_1 : List (Int × Int × Int × Int)), t_ = (l7_m11, l7_m3_1) ∧ S_ = ⟨mkTm [(2, (.box (oi 0 1) 0)), (3, (.box (oi 1 1) 0)), (9, (.own (oi 2 1) .bool 0 y6.length)), (10, (ai ((y6.length : Nat) : Int))), (11, (ai ((l7_m11 : Nat) : Int)))], mkOb (someL [((oi 0 1), .cells 31 [(ai 0), .nils, .nils]), ((oi 1 1), .cells 31 [(ai y3.1), (.own (oi 3 1) (.pair .int (.pair .int (.pair .int .int))) 0 l7_m3_1.length), (.own (oi 4 1) .int 0 y3.2.2.length)]), ((oi 2 1), .arr 4 .bool y6), ((oi 3 1), .arr 51 (.pair .int (.pair .int (.pair .int .int))) l7_m3_1), ((oi 4 1), .arr 3 .int y3.2.2)]), 2⟩) ⟨_, (weak_ren [((oi 0 1), (oi 2 2)), ((oi 1 1), (oi 3 5)), ((oi 3 1), (oi 112 4)), ((oi 4 1), (oi 113 4)), ((oi 2 1), (oi 144 8))]), ⟨0, y3.2.1, rfl, rfl⟩⟩ ?_
    rintro n_ _ _ c_ ⟨l7_m11, l7_m3_1, rfl, rfl⟩ h hn7
    (try dsimp only at h)
    unfold L_impl_Circuit_foldZeros_l1 at h
    unfold m_impl_Circuit_foldZeros_l1
    refine seqR ?_
    refine awp_seqv_ ?_
    rcases cond_some h with ⟨q10, h⟩ | ⟨q10, h⟩
    · have q10_ := of_decide_eq_true q10
      refine awp_condT_ q10 ?_
      refine awp_skip_ (tn_ ?_)
      refine ⟨_, Weak.refl _, ?_⟩
      refine awp_seqB h (fun (l11_m3_1 : List (Int × Int × Int × Int)) S_ => S_ = ⟨mkTm [(2, (.box (oi 0 1) 0)), (3, (.box (oi 1 1) 0)), (9, (.own (oi 2 1) .bool 0 y6.length)), (10, (ai ((y6.length : Nat) : Int))), (11, (ai ((l7_m11 : Nat) : Int)))], mkOb (someL [((oi 0 1), .cells 31 [(ai 0), .nils, .nils]), ((oi 1 1), .cells 31 [(ai y3.1), (.own (oi 3 1) (.pair .int (.pair .int (.pair .int .int))) 0 l11_m3_1.length), (.own (oi 4 1) .int 0 y3.2.2.length)]), ((oi 2 1), .arr 4 .bool y6), ((oi 3 1), .arr 51 (.pair .int (.pair .int (.pair .int .int))) l11_m3_1), ((oi 4 1), .arr 3 .int y3.2.2)]), 2⟩) ?_ ?_
      · intro v_ h
        refine awp_block_ ?_
        refine awp_seqv_ ?_
        obtain ⟨x13, e13, h⟩ := ob_some h
        refine awp_region_ 8 ?_
        refine rs0 (ai ((l7_m11 : Nat) : Int)) (by kernel_rfl) ?_
        refine rs0 (.elt (oi 2 1) l7_m11 0) (s_idxO (t := .bool) (o := (oi 2 1)) (len := y6.length) (k := .i64) (m := ((l7_m11 : Nat) : Int)) (by kernel_rfl) (by kernel_rfl) rfl (nat_nn _) rfl (getN_lt e13)) ?_
        refine rsl (.bool x13) (s_ldE (i := (oi 2 1)) (j := l7_m11) (k := 0) (e := 4) (t := .bool) (xs := y6) (by kernel_rfl) (by kernel_rfl) e13 (by kernel_rfl)) ?_
        refine rsB 2 ?_
        refine rnil (tn_ ?_)
        refine ⟨_, Weak.refl _, ?_⟩
        refine seqR ?_
        rcases cond_some h with ⟨q15, h⟩ | ⟨q15, h⟩
        · refine awp_condT_ q15 ?_
          obtain ⟨x16, e16, h⟩ := ob_some h
          refine awp_region_ 15 ?_
          refine rs0 (.box (oi 1 1) 1) (by kernel_rfl) ?_
          refine rsl (.own (oi 3 1) (.pair .int (.pair .int (.pair .int .int))) 0 l7_m3_1.length) (by kernel_rfl) ?_
          refine rs0 (ai ((l7_m11 : Nat) : Int)) (by kernel_rfl) ?_
          refine rs0 (.agg [(ai 2), (ai 0), (ai 0), (ai 0)]) (by kernel_rfl) ?_
          refine rs0 (.elt (oi 3 1) l7_m11 0) (s_idxO (t := (.pair .int (.pair .int (.pair .int .int)))) (o := (oi 3 1)) (len := l7_m3_1.length) (k := .i64) (m := ((l7_m11 : Nat) : Int)) (by kernel_rfl) (by kernel_rfl) rfl (nat_nn _) rfl (getN_lt e16)) ?_
          refine rsn2 (oi 3 1) (oi 3 1) (.arr 51 (.pair .int (.pair .int (.pair .int .int))) (l7_m3_1.set l7_m11 (2, 0, 0, 0))) (s_stE (i := (oi 3 1)) (j := l7_m11) (k := 0) (e := 51) (t := (.pair .int (.pair .int (.pair .int .int)))) (xs := l7_m3_1) (cs := [(ai 2), (ai 0), (ai 0), (ai 0)]) (x1 := (2, 0, 0, 0)) (by kernel_rfl) (by kernel_rfl) e16 (by kernel_rfl) (by kernel_rfl)) ?_
          refine rnil (bn_ (tn_ ?_))
          obtain rfl := Option.some.inj h
          exact ⟨_, ((weak_ob_ (oi 1 1) (.cells 31 [(ai y3.1), (.own (oi 3 1) (.pair .int (.pair .int (.pair .int .int))) 0 l7_m3_1.length), (.own (oi 4 1) .int 0 y3.2.2.length)]) (.cells 31 [(ai y3.1), (.own (oi 3 1) (.pair .int (.pair .int (.pair .int .int))) 0 ((l7_m3_1.set l7_m11 (2, 0, 0, 0)).length)), (.own (oi 4 1) .int 0 y3.2.2.length)]) (by kernel_rfl) (congrArg (fun z_ => (.cells 31 [(ai y3.1), (.own (oi 3 1) (.pair .int (.pair .int (.pair .int .int))) 0 z_), (.own (oi 4 1) .int 0 y3.2.2.length)] : Ob)) (((rfl : l7_m3_1.length = l7_m3_1.length).trans List.length_set.symm) : l7_m3_1.length = (l7_m3_1.set l7_m11 (2, 0, 0, 0)).length))).trans (weak_ren [])), rfl⟩
        refine awp_condF_ q15 ?_
        refine awp_skip_ (bn_ (tn_ ?_))
        obtain rfl := Option.some.inj h
        exact ⟨_, (weak_ren []), rfl⟩
      rintro l11_m3_1 _ rfl h
      (try dsimp only at h)
      obtain ⟨g17, h⟩ := og_some h
      refine awp_region_ 4 ?_
      refine rs0 (ai ((l7_m11 + 1 : Nat) : Int)) (s_add1 (j := l7_m11) (by kernel_rfl) (by kernel_rfl) g17) ?_
      refine rsB 1 ?_
      refine rnil (tn_ ?_)
      obtain rfl := Option.some.inj h
      exact ⟨(l7_m11 + 1, l11_m3_1), _, (weak_ren []), ⟨l7_m11 + 1, l11_m3_1, rfl, rfl⟩, hn7⟩
    have q10_ := of_decide_eq_false q10
    refine awp_condF_ q10 ?_
    refine awp_exit_ (te_ (te_ (be_ (tn_ ?_))))
    obtain rfl := Option.some.inj h
    have h := hn7
    (try dsimp only at h)
    obtain rfl := Option.some.inj h
    exact ⟨_, (weak_ren [((oi 2 1), (oi 3 1)), ((oi 3 1), (oi 4 1))]), rfl⟩
  rintro l4_m3_1 _ rfl h
  (try dsimp only at h)
  refine seqR ?_
  refine awp_ret_ ?_
  obtain rfl := Option.some.inj h
  exact ret_ [(.agg [(ai y3.1), (.own (oi 2 1) (.pair .int (.pair .int (.pair .int .int))) 0 l4_m3_1.length), (.own (oi 3 1) .int 0 y3.2.2.length)])] (p_agg (l_cons (l_sc (by kernel_rfl)) (l_cons (l_own (by kernel_rfl) rfl) (l_cons (l_own (by kernel_rfl) rfl) l_nil))) p_nil)
def m_impl_FoldZeros : AC :=
  (.seq (rg [xo 3 (.i (.box 31 (tm 1))), xo 4 (.i (.alloc 31 [(.int .i64 0), .nils, .nils])), xo 5 (qm (cb false))])
  (.seq (.seq (rg [xo 6 (qm (tm 0)), xo 7 (.i (.ld false 3 (tm 3))), ⟨(some 8), none, (qc 37 [(tm 6), (tm 7)] [[], [none, (some (.pair .int (.pair .int (.pair .int .int)))), (some .int)]])⟩, xo 9 (.i (.not (tm 8)))])
  (.cond (tm 9)
    (.seq (rg [xo 10 (.build [(.int .i64 0), .nils, .nils] []), xn (.st false 3 (tm 4) (tm 10)), xo 5 (qm (cb false))])
    .ret)
    .skip))
  (.seq (rg [xo 11 (.i (.ld false 3 (tm 3))), ⟨(some 12), none, (qc 67 [(tm 11)] [[none, (some (.pair .int (.pair .int (.pair .int .int)))), (some .int)]])⟩, xn (.st false 3 (tm 4) (tm 12)), xo 5 (qm (cb true))])
  .ret)))
def r_impl_FoldZeros : List Res := [.cell 4 false 3, .tmp 5]
theorem c_impl_FoldZeros : compiled Tryd.prog Tryd.f32 = some (m_impl_FoldZeros, r_impl_FoldZeros) := by kernel_rfl
theorem hb_impl_FoldZeros : hasBody Tryd.prog 32 = true := by kernel_rfl
def L_impl_FoldZeros (a0 : Int) (a1_0 : Int) (a1_1 : List (Int × Int × Int × Int)) (a1_2 : List Int) : Option (Int × (List (Int × Int × Int × Int)) × List Int × Bool) :=
  Option.bind (L_impl_isCircuit a0 a1_0 a1_1 a1_2) fun y4 =>
cond (!y4)
  (some (0, [], [], false))
  (Option.bind (L_impl_Circuit_foldZeros a1_0 a1_1 a1_2) fun y8 =>
  some (y8.1, y8.2.1, y8.2.2, true))
def rv_impl_FoldZeros (r : Int × (List (Int × Int × Int × Int)) × List Int × Bool) : RV := ⟨true, [(true, [.sc (.int .i64 r.1), .new 51 (.pair .int (.pair .int (.pair .int .int))) r.2.1, .new 3 .int r.2.2.1]), (false, [.sc (.bool r.2.2.2)])]⟩
theorem ok_impl_FoldZeros {a0 : Int} {a1_0 : Int} {a1_1 : List (Int × Int × Int × Int)} {a1_2 : List Int} {r : Int × (List (Int × Int × Int × Int)) × List Int × Bool} (h : L_impl_FoldZeros a0 a1_0 a1_1 a1_2 = some r) : CallOK Tryd.prog Tab 32 [(ai a0), (.agg [(ai a1_0), (.tree (.pair .int (.pair .int (.pair .int .int))) a1_1), (.tree .int a1_2)])] (rv_impl_FoldZeros r) := by
  refine call_of_ (by kernel_rfl) Tryd.func32 c_impl_FoldZeros (n := 13) (by kernel_rfl) (by simp) (tl := [(0, (ai a0)), (1, (.agg [(ai a1_0), (.tree (.pair .int (.pair .int (.pair .int .int))) a1_1), (.tree .int a1_2)]))]) rfl ?_
  unfold m_impl_FoldZeros
  unfold L_impl_FoldZeros at h
  refine seqR ?_
  refine awp_seqv_ ?_
  refine awp_seqv_ ?_
  obtain ⟨y4, h4, h⟩ := ob_some h
  refine awp_region_ 8 ?_
  refine rs0 (ai a0) (by kernel_rfl) ?_
  refine rsl (.agg [(ai a1_0), (.tree (.pair .int (.pair .int (.pair .int .int))) a1_1), (.tree .int a1_2)]) (by kernel_rfl) ?_
  refine rcall (.bool y4) [] [(ai a0), (.agg [(ai a1_0), (.tree (.pair .int (.pair .int (.pair .int .int))) a1_1), (.tree .int a1_2)])] _ (caps := []) (args0 := [(ai a0), (.agg [(ai a1_0), (.tree (.pair .int (.pair .int (.pair .int .int))) a1_1), (.tree .int a1_2)])]) trivial (by kernel_rfl) (ok_impl_isCircuit h4) hb_impl_isCircuit ?_
  refine rsB 1 ?_
  refine rnil (tn_ ?_)
  refine ⟨_, Weak.refl _, ?_⟩
  rcases cond_some h with ⟨q5, h⟩ | ⟨q5, h⟩
  · refine awp_condT_ q5 ?_
    refine seqR ?_
    refine awp_ret_ (tr_ ?_)
    obtain rfl := Option.some.inj h
    exact ret_ [(.agg [(ai 0), .nils, .nils]), (.bool false)] (p_agg (l_cons (l_sc (by kernel_rfl)) (l_cons (l_nils rfl) (l_cons (l_nils rfl) l_nil))) (p_one rfl (l_sc (by kernel_rfl)) p_nil))
  refine awp_condF_ q5 ?_
  refine awp_skip_ (tn_ ?_)
  refine ⟨_, Weak.refl _, ?_⟩
  refine awp_seqv_ ?_
  obtain ⟨y8, h8, h⟩ := ob_some h
  refine awp_region_ 12 ?_
  refine rsl (.agg [(ai a1_0), (.tree (.pair .int (.pair .int (.pair .int .int))) a1_1), (.tree .int a1_2)]) (by kernel_rfl) ?_
  refine rcall (.agg [(ai y8.1), (.own (oi 192 9) (.pair .int (.pair .int (.pair .int .int))) 0 y8.2.1.length), (.own (oi 193 9) .int 0 y8.2.2.length)]) [((oi 192 9), some (.arr 51 (.pair .int (.pair .int (.pair .int .int))) y8.2.1)), ((oi 193 9), some (.arr 3 .int y8.2.2))] [(.agg [(ai a1_0), (.tree (.pair .int (.pair .int (.pair .int .int))) a1_1), (.tree .int a1_2)])] _ (caps := []) (args0 := [(.agg [(ai a1_0), (.tree (.pair .int (.pair .int (.pair .int .int))) a1_1), (.tree .int a1_2)])]) trivial (by kernel_rfl) (ok_impl_Circuit_foldZeros h8) hb_impl_Circuit_foldZeros ?_
  refine rsB 2 ?_
  refine rnil (tn_ ?_)
  refine ⟨_, Weak.refl _, ?_⟩
  refine awp_ret_ ?_
  obtain rfl := Option.some.inj h
  exact ret_ [(.agg [(ai y8.1), (.own (oi 192 9) (.pair .int (.pair .int (.pair .int .int))) 0 y8.2.1.length), (.own (oi 193 9) .int 0 y8.2.2.length)]), (.bool true)] (p_agg (l_cons (l_sc (by kernel_rfl)) (l_cons (l_own (by kernel_rfl) rfl) (l_cons (l_own (by kernel_rfl) rfl) l_nil))) (p_one rfl (l_sc (by kernel_rfl)) p_nil))
def m_laws_FnExactFoldZeros : AC :=
  (.seq (rg [xo 3 (.i (.box 25 (tm 1))), xo 4 (qm (cb false))])
  (.seq (rg [xo 5 (qm (ci 1048576))])
  (.seq (rg [xo 16 (.i (.ld false 3 (tm 3))), xo 17 (qm (tm 5)), ⟨(some 18), none, (qc 10 [(tm 16), (tm 17)] [[none, (some (.pair .int (.pair .int (.pair .int .int)))), (some .int)], []])⟩, xo 5 (qm (tm 18))])
  (.seq (.seq (rg [xo 19 (qm (tm 5)), xo 20 (qb .lss (tm 19) (ci 0))])
  (.cond (tm 20)
    (.seq (rg [xo 4 (qm (cb true))])
    .ret)
    .skip))
  (.seq (rg [xo 22 (qm (tm 0)), xo 23 (.i (.ld false 3 (tm 3))), ⟨(some 24), none, (qc 12 [(tm 23)] [[none, (some (.pair .int (.pair .int (.pair .int .int)))), (some .int)]])⟩, ⟨(some 25), none, (qc 31 [(tm 22), (tm 24)] [[], [none, (some (.pair .int (.pair .int (.pair .int .int)))), (some .int)]])⟩, xo 21 (qm (tm 25)), xo 26 (.i (.extr 0 (tm 21))), xo 27 (.i (.extr 1 (tm 21))), xo 6 (.i (.alloc 31 [(.int .i64 0), .nils, .nils])), xn (.st false 3 (tm 6) (tm 26)), xo 7 (qm (tm 27))])
  (.seq (rg [xo 28 (.i (.ld false 3 (tm 3))), ⟨(some 29), none, (qc 12 [(tm 28)] [[none, (some (.pair .int (.pair .int (.pair .int .int)))), (some .int)]])⟩, xo 8 (.i (.alloc 31 [(.int .i64 0), .nils, .nils])), xn (.st false 3 (tm 8) (tm 29))])
  (.seq (rg [xo 31 (qm (tm 0)), xo 32 (.i (.ld false 3 (tm 8))), ⟨(some 33), none, (qc 32 [(tm 31), (tm 32)] [[], [none, (some (.pair .int (.pair .int (.pair .int .int)))), (some .int)]])⟩, xo 30 (qm (tm 33)), xo 34 (.i (.extr 0 (tm 30))), xo 35 (.i (.extr 1 (tm 30))), xo 9 (.i (.alloc 31 [(.int .i64 0), .nils, .nils])), xn (.st false 3 (tm 9) (tm 34)), xo 10 (qm (tm 35))])
  (.seq (.seq (rg [xo 36 (.i (.ld false 3 (tm 9))), xo 37 (.i (.ld false 3 (tm 6))), ⟨(some 38), none, (qc 15 [(tm 36), (tm 37)] [[none, (some (.pair .int (.pair .int (.pair .int .int)))), (some .int)], [none, (some (.pair .int (.pair .int (.pair .int .int)))), (some .int)]])⟩, xo 39 (.i (.not (tm 38))), xo 40 (qm (tm 39)), ⟨(some 41), (some (40, false)), (qm (tm 10))⟩, ⟨(some 42), (some (40, false)), (qm (tm 7))⟩, ⟨(some 43), (some (40, false)), (.i (.cmp true 0 (tm 41) (tm 42)))⟩, xo 44 (.i (.pick (tm 40) (cb true) (tm 43)))])
  (.cond (tm 44)
    (.seq (rg [xo 4 (qm (cb false))])
    .ret)
    .skip))
  (.seq (.seq (.region [xo 45 (.i (.ld false 3 (tm 8))), xo 46 (.i (.ld false 3 (tm 3))), ⟨(some 47), none, (qc 12 [(tm 46)] [[none, (some (.pair .int (.pair .int (.pair .int .int)))), (some .int)]])⟩, ⟨(some 48), none, (qc 15 [(tm 45), (tm 47)] [[none, (some (.pair .int (.pair .int (.pair .int .int)))), (some .int)], [none, (some (.pair .int (.pair .int (.pair .int .int)))), (some .int)]])⟩, xo 49 (.i (.not (tm 48)))] true [(0, 2)])
  (.cond (tm 49)
    (.seq (rg [xo 4 (qm (cb false))])
    .ret)
    .skip))
  (.seq (rg [xo 11 (qm (ci 1))])
  (.seq (rg [xo 50 (.i (.ld false 3 (tm 8))), xo 51 (qm (tm 11)), ⟨(some 52), none, (qc 16 [(tm 50), (tm 51)] [[none, (some (.pair .int (.pair .int (.pair .int .int)))), (some .int)], []])⟩, xo 11 (qm (tm 52))])
  (.seq (.seq (rg [xo 53 (qm (tm 11)), xo 54 (qb .lss (tm 53) (ci 0)), xo 55 (qm (tm 54)), ⟨(some 56), (some (55, false)), (.i (.ld false 3 (tm 9)))⟩, ⟨(some 57), (some (55, false)), (.i (.ld false 3 (tm 6)))⟩, ⟨(some 58), (some (55, false)), (qc 15 [(tm 56), (tm 57)] [[none, (some (.pair .int (.pair .int (.pair .int .int)))), (some .int)], [none, (some (.pair .int (.pair .int (.pair .int .int)))), (some .int)]])⟩, ⟨(some 59), (some (55, false)), (.i (.not (tm 58)))⟩, xo 60 (.i (.pick (tm 55) (cb true) (tm 59))), xo 61 (qm (tm 60)), ⟨(some 62), (some (61, false)), (qm (tm 10))⟩, ⟨(some 63), (some (61, false)), (qm (tm 7))⟩, ⟨(some 64), (some (61, false)), (.i (.cmp true 0 (tm 62) (tm 63)))⟩, xo 65 (.i (.pick (tm 61) (cb true) (tm 64)))])
  (.cond (tm 65)
    (.seq (rg [xo 4 (qm (cb false))])
    .ret)
    .skip))
  (.seq (rg [xo 12 (qm (ci 1))])
  (.seq (rg [xo 66 (.i (.ld false 3 (tm 9))), xo 67 (qm (tm 12)), ⟨(some 68), none, (qc 16 [(tm 66), (tm 67)] [[none, (some (.pair .int (.pair .int (.pair .int .int)))), (some .int)], []])⟩, xo 12 (qm (tm 68))])
  (.seq (rg [xo 13 (qm (ci 1))])
  (.seq (rg [xo 69 (.i (.ld false 3 (tm 9))), xo 70 (qm (tm 13)), ⟨(some 71), none, (qc 21 [(tm 69), (tm 70)] [[none, (some (.pair .int (.pair .int (.pair .int .int)))), (some .int)], []])⟩, xo 13 (qm (tm 71))])
  (.seq (.seq (rg [xo 72 (qm (tm 13)), xo 73 (qb .lss (tm 72) (ci 0))])
  (.cond (tm 73)
    (.seq (rg [xo 4 (qm (cb false))])
    .ret)
    .skip))
  (.seq (.seq (rg [xo 74 (qm (tm 13)), xo 75 (qm (tm 12)), xo 76 (qb .neq (tm 74) (tm 75))])
  (.cond (tm 76)
    (.seq (rg [xo 4 (qm (cb false))])
    .ret)
    .skip))
  (.seq (rg [xo 78 (qm (tm 0)), xo 79 (.i (.ld false 3 (tm 3))), ⟨(some 80), none, (qc 12 [(tm 79)] [[none, (some (.pair .int (.pair .int (.pair .int .int)))), (some .int)]])⟩, ⟨(some 81), none, (qc 32 [(tm 78), (tm 80)] [[], [none, (some (.pair .int (.pair .int (.pair .int .int)))), (some .int)]])⟩, xo 77 (qm (tm 81)), xo 82 (.i (.extr 0 (tm 77))), xo 83 (.i (.extr 1 (tm 77))), xo 14 (.i (.alloc 31 [(.int .i64 0), .nils, .nils])), xn (.st false 3 (tm 14) (tm 82)), xo 15 (qm (tm 83))])
  (.seq (.seq (rg [xo 84 (.i (.ld false 3 (tm 14))), xo 85 (.i (.ld false 3 (tm 6))), ⟨(some 86), none, (qc 15 [(tm 84), (tm 85)] [[none, (some (.pair .int (.pair .int (.pair .int .int)))), (some .int)], [none, (some (.pair .int (.pair .int (.pair .int .int)))), (some .int)]])⟩, xo 87 (.i (.not (tm 86))), xo 88 (qm (tm 87)), ⟨(some 89), (some (88, false)), (qm (tm 15))⟩, ⟨(some 90), (some (88, false)), (qm (tm 7))⟩, ⟨(some 91), (some (88, false)), (.i (.cmp true 0 (tm 89) (tm 90)))⟩, xo 92 (.i (.pick (tm 88) (cb true) (tm 91)))])
  (.cond (tm 92)
    (.seq (rg [xo 4 (qm (cb false))])
    .ret)
    .skip))
  (.seq (rg [xo 13 (qm (ci 1))])
  (.seq (rg [xo 93 (.i (.ld false 3 (tm 9))), xo 94 (qm (tm 13)), ⟨(some 95), none, (qc 21 [(tm 93), (tm 94)] [[none, (some (.pair .int (.pair .int (.pair .int .int)))), (some .int)], []])⟩, xo 13 (qm (tm 95))])
  (.seq (.seq (rg [xo 96 (qm (tm 13)), xo 97 (qb .lss (tm 96) (ci 0))])
  (.cond (tm 97)
    (.seq (rg [xo 4 (qm (cb false))])
    .ret)
    .skip))
  (.seq (.seq (rg [xo 98 (qm (tm 13)), xo 99 (qm (tm 12)), xo 100 (qb .neq (tm 98) (tm 99))])
  (.cond (tm 100)
    (.seq (rg [xo 4 (qm (cb false))])
    .ret)
    .skip))
  (.seq (rg [xo 4 (qm (cb true))])
  .ret)))))))))))))))))))))))))
def r_laws_FnExactFoldZeros : List Res := [.tmp 4]
theorem c_laws_FnExactFoldZeros : compiled Tryd.prog Tryd.f9 = some (m_laws_FnExactFoldZeros, r_laws_FnExactFoldZeros) := by kernel_rfl
theorem hb_laws_FnExactFoldZeros : hasBody Tryd.prog 9 = true := by kernel_rfl
def L_laws_FnExactFoldZeros (a0 : Int) (a1_0 : Int) (a1_1 : List (Int × Int × Int × Int)) (a1_2 : List Int) : Option Bool :=
  Option.bind (L_laws_szCircuit a1_0 a1_1 a1_2 1048576) fun y4 =>
cond (decide (y4 < 0))
  (some true)
  (Option.bind (L_laws_toCircuit a1_0 a1_1 a1_2) fun y10 =>
  Option.bind (L_spec_FoldZeros a0 y10.1 y10.2.1 y10.2.2) fun y11 =>
  Option.bind (L_laws_toCircuit a1_0 a1_1 a1_2) fun y13 =>
  Option.bind (L_impl_FoldZeros a0 y13.1 y13.2.1 y13.2.2) fun y15 =>
  Option.bind (Option.bind (L_laws_eqCircuit y15.1 y15.2.1 y15.2.2.1 y11.1 y11.2.1 y11.2.2.1) fun y18 =>
    cond (!y18)
      (some true)
      (some (y15.2.2.2 != y11.2.2.2))) fun l17_m44 =>
  cond l17_m44
    (some false)
    (Option.bind (L_laws_toCircuit a1_0 a1_1 a1_2) fun y24 =>
    Option.bind (L_laws_eqCircuit y13.1 y13.2.1 y13.2.2 y24.1 y24.2.1 y24.2.2) fun y25 =>
    cond (!y25)
      (some false)
      (Option.bind (L_laws_markCircuit y13.1 y13.2.1 y13.2.2 1) fun y30 =>
      og (y30.1.length = y13.2.1.length) <|
      og (y30.2.1.length = y13.2.2.length) <|
      Option.bind (cond (decide (y30.2.2 < 0))
          (some true)
          (Option.bind (L_laws_eqCircuit y15.1 y15.2.1 y15.2.2.1 y11.1 y11.2.1 y11.2.2.1) fun y36 =>
          cond (!y36)
            (some true)
            (some (y15.2.2.2 != y11.2.2.2)))) fun l34_m65 =>
      cond l34_m65
        (some false)
        (Option.bind (L_laws_markCircuit y15.1 y15.2.1 y15.2.2.1 1) fun y42 =>
        og (y42.1.length = y15.2.1.length) <|
        og (y42.2.1.length = y15.2.2.1.length) <|
        Option.bind (L_laws_heldCircuit y15.1 y42.1 y42.2.1 1) fun y47 =>
        cond (decide (y47 < 0))
          (some false)
          (cond (y47 != y42.2.2)
            (some false)
            (Option.bind (L_laws_toCircuit a1_0 a1_1 a1_2) fun y57 =>
            Option.bind (L_impl_FoldZeros a0 y57.1 y57.2.1 y57.2.2) fun y58 =>
            Option.bind (Option.bind (L_laws_eqCircuit y58.1 y58.2.1 y58.2.2.1 y11.1 y11.2.1 y11.2.2.1) fun y61 =>
              cond (!y61)
                (some true)
                (some (y58.2.2.2 != y11.2.2.2))) fun l60_m92 =>
            cond l60_m92
              (some false)
              (Option.bind (L_laws_heldCircuit y15.1 y42.1 y42.2.1 1) fun y67 =>
              cond (decide (y67 < 0))
                (some false)
                (cond (y67 != y42.2.2)
                  (some false)
                  (some true)))))))))
def rv_laws_FnExactFoldZeros (r : Bool) : RV := ⟨false, [(false, [.sc (.bool r)])]⟩
theorem ok_laws_FnExactFoldZeros {a0 : Int} {a1_0 : Int} {a1_1 : List (Int × Int × Int × Int)} {a1_2 : List Int} {r : Bool} (h : L_laws_FnExactFoldZeros a0 a1_0 a1_1 a1_2 = some r) : CallOK Tryd.prog Tab 9 [(ai a0), (.agg [(ai a1_0), (.tree (.pair .int (.pair .int (.pair .int .int))) a1_1), (.tree .int a1_2)])] (rv_laws_FnExactFoldZeros r) := by
  refine call_of_ (by kernel_rfl) Tryd.func9 c_laws_FnExactFoldZeros (n := 101) (by kernel_rfl) (by simp) (tl := [(0, (ai a0)), (1, (.agg [(ai a1_0), (.tree (.pair .int (.pair .int (.pair .int .int))) a1_1), (.tree .int a1_2)]))]) rfl ?_
  unfold m_laws_FnExactFoldZeros
  unfold L_laws_FnExactFoldZeros at h
  refine seqR ?_
  refine seqR ?_
  refine awp_seqv_ ?_
  obtain ⟨y4, h4, h⟩ := ob_some h
  refine awp_region_ 8 ?_
  refine rsl (.agg [(ai a1_0), (.tree (.pair .int (.pair .int (.pair .int .int))) a1_1), (.tree .int a1_2)]) (by kernel_rfl) ?_
  refine rs0 (ai 1048576) (by kernel_rfl) ?_
  refine rcall (ai y4) [] [(.agg [(ai a1_0), (.tree (.pair .int (.pair .int (.pair .int .int))) a1_1), (.tree .int a1_2)]), (ai 1048576)] _ (caps := []) (args0 := [(.agg [(ai a1_0), (.tree (.pair .int (.pair .int (.pair .int .int))) a1_1), (.tree .int a1_2)]), (ai 1048576)]) trivial (by kernel_rfl) (ok_laws_szCircuit h4) hb_laws_szCircuit ?_
  refine rsB 1 ?_
  refine rnil (tn_ ?_)
  refine ⟨_, Weak.refl _, ?_⟩
  refine awp_seqv_ ?_
  refine seqR ?_
  rcases cond_some h with ⟨q7, h⟩ | ⟨q7, h⟩
  · have q7_ := of_decide_eq_true q7
    refine awp_condT_ q7 ?_
    refine seqR ?_
    refine awp_ret_ (tr_ ?_)
    obtain rfl := Option.some.inj h
    exact ret_ [(.bool true)] (p_one rfl (l_sc (by kernel_rfl)) p_nil)
  have q7_ := of_decide_eq_false q7
  refine awp_condF_ q7 ?_
  refine awp_skip_ (tn_ ?_)
  refine ⟨_, Weak.refl _, ?_⟩
  refine awp_seqv_ ?_
  obtain ⟨y10, h10, h⟩ := ob_some h
  obtain ⟨y11, h11, h⟩ := ob_some h
  refine awp_region_ 20 ?_
  refine rs0 (ai a0) (by kernel_rfl) ?_
  refine rsl (.agg [(ai a1_0), (.tree (.pair .int (.pair .int (.pair .int .int))) a1_1), (.tree .int a1_2)]) (by kernel_rfl) ?_
  refine rcall (.agg [(ai y10.1), (.own (oi 384 12) (.pair .int (.pair .int (.pair .int .int))) 0 y10.2.1.length), (.own (oi 385 12) .int 0 y10.2.2.length)]) [((oi 384 12), some (.arr 51 (.pair .int (.pair .int (.pair .int .int))) y10.2.1)), ((oi 385 12), some (.arr 3 .int y10.2.2))] [(.agg [(ai a1_0), (.tree (.pair .int (.pair .int (.pair .int .int))) a1_1), (.tree .int a1_2)])] _ (caps := []) (args0 := [(.agg [(ai a1_0), (.tree (.pair .int (.pair .int (.pair .int .int))) a1_1), (.tree .int a1_2)])]) trivial (by kernel_rfl) (ok_laws_toCircuit h10) hb_laws_toCircuit ?_
  refine rcall (.tup [(.agg [(ai y11.1), (.own (oi 400 13) (.pair .int (.pair .int (.pair .int .int))) 0 y11.2.1.length), (.own (oi 401 13) .int 0 y11.2.2.1.length)]), (.bool y11.2.2.2)]) [((oi 400 13), some (.arr 51 (.pair .int (.pair .int (.pair .int .int))) y11.2.1)), ((oi 401 13), some (.arr 3 .int y11.2.2.1))] [(ai a0), (.agg [(ai y10.1), (.own (oi 384 12) (.pair .int (.pair .int (.pair .int .int))) 0 y10.2.1.length), (.own (oi 385 12) .int 0 y10.2.2.length)])] _ (caps := []) (args0 := [(ai a0), (.agg [(ai y10.1), (.tree (.pair .int (.pair .int (.pair .int .int))) y10.2.1), (.tree .int y10.2.2)])]) trivial (gm_cons (by kernel_rfl) (gm_cons (gd_agg (gm_cons (by kernel_rfl) (gm_cons (gd_own (e := 51) (by kernel_rfl) rfl) (gm_cons (gd_own (e := 3) (by kernel_rfl) rfl) gm_nil)))) gm_nil)) (ok_spec_FoldZeros h11) hb_spec_FoldZeros ?_
  refine rsB 6 ?_
  refine rnil (tn_ ?_)
  refine ⟨_, Weak.refl _, ?_⟩
  refine awp_seqv_ ?_
  obtain ⟨y13, h13, h⟩ := ob_some h
  refine awp_region_ 24 ?_
  refine rsl (.agg [(ai a1_0), (.tree (.pair .int (.pair .int (.pair .int .int))) a1_1), (.tree .int a1_2)]) (by kernel_rfl) ?_
  refine rcall (.agg [(ai y13.1), (.own (oi 464 21) (.pair .int (.pair .int (.pair .int .int))) 0 y13.2.1.length), (.own (oi 465 21) .int 0 y13.2.2.length)]) [((oi 464 21), some (.arr 51 (.pair .int (.pair .int (.pair .int .int))) y13.2.1)), ((oi 465 21), some (.arr 3 .int y13.2.2))] [(.agg [(ai a1_0), (.tree (.pair .int (.pair .int (.pair .int .int))) a1_1), (.tree .int a1_2)])] _ (caps := []) (args0 := [(.agg [(ai a1_0), (.tree (.pair .int (.pair .int (.pair .int .int))) a1_1), (.tree .int a1_2)])]) trivial (by kernel_rfl) (ok_laws_toCircuit h13) hb_laws_toCircuit ?_
  refine rsB 2 ?_
  refine rnil (tn_ ?_)
  refine ⟨_, Weak.refl _, ?_⟩
  refine awp_seqv_ ?_
  obtain ⟨y15, h15, h⟩ := ob_some h
  refine awp_region_ 33 ?_
  refine rs0 (ai a0) (by kernel_rfl) ?_
  refine rsl (.agg [(ai y13.1), (.own (oi 464 21) (.pair .int (.pair .int (.pair .int .int))) 0 y13.2.1.length), (.own (oi 465 21) .int 0 y13.2.2.length)]) (by kernel_rfl) ?_
  refine rcall (.tup [(.agg [(ai y15.1), (.own (oi 528 26) (.pair .int (.pair .int (.pair .int .int))) 0 y15.2.1.length), (.own (oi 529 26) .int 0 y15.2.2.1.length)]), (.bool y15.2.2.2)]) [((oi 528 26), some (.arr 51 (.pair .int (.pair .int (.pair .int .int))) y15.2.1)), ((oi 529 26), some (.arr 3 .int y15.2.2.1))] [(ai a0), (.agg [(ai y13.1), (.own (oi 464 21) (.pair .int (.pair .int (.pair .int .int))) 0 y13.2.1.length), (.own (oi 465 21) .int 0 y13.2.2.length)])] _ (caps := []) (args0 := [(ai a0), (.agg [(ai y13.1), (.tree (.pair .int (.pair .int (.pair .int .int))) y13.2.1), (.tree .int y13.2.2)])]) trivial (gm_cons (by kernel_rfl) (gm_cons (gd_agg (gm_cons (by kernel_rfl) (gm_cons (gd_own (e := 51) (by kernel_rfl) rfl) (gm_cons (gd_own (e := 3) (by kernel_rfl) rfl) gm_nil)))) gm_nil)) (ok_impl_FoldZeros h15) hb_impl_FoldZeros ?_
  refine rsB 6 ?_
  refine rnil (tn_ ?_)
  refine ⟨_, Weak.refl _, ?_⟩
  refine awp_seqv_ ?_
  refine awp_seqB h (fun (l17_m44 : Bool) S_ => S_ = ⟨mkTm [(0, (ai a0)), (3, (.box (oi 0 1) 0)), (6, (.box (oi 1 1) 0)), (7, (.bool y11.2.2.2)), (8, (.box (oi 2 1) 0)), (9, (.box (oi 3 1) 0)), (10, (.bool y15.2.2.2)), (44, (.bool l17_m44))], mkOb (someL [((oi 0 1), .cells 25 [(ai a1_0), (.tree (.pair .int (.pair .int (.pair .int .int))) a1_1), (.tree .int a1_2)]), ((oi 1 1), .cells 31 [(ai y11.1), (.own (oi 4 1) (.pair .int (.pair .int (.pair .int .int))) 0 y11.2.1.length), (.own (oi 5 1) .int 0 y11.2.2.1.length)]), ((oi 2 1), .cells 31 [(ai y13.1), (.own (oi 6 1) (.pair .int (.pair .int (.pair .int .int))) 0 y13.2.1.length), (.own (oi 7 1) .int 0 y13.2.2.length)]), ((oi 3 1), .cells 31 [(ai y15.1), (.own (oi 8 1) (.pair .int (.pair .int (.pair .int .int))) 0 y15.2.1.length), (.own (oi 9 1) .int 0 y15.2.2.1.length)]), ((oi 4 1), .arr 51 (.pair .int (.pair .int (.pair .int .int))) y11.2.1), ((oi 5 1), .arr 3 .int y11.2.2.1), ((oi 6 1), .arr 51 (.pair .int (.pair .int (.pair .int .int))) y13.2.1), ((oi 7 1), .arr 3 .int y13.2.2), ((oi 8 1), .arr 51 (.pair .int (.pair .int (.pair .int .int))) y15.2.1), ((oi 9 1), .arr 3 .int y15.2.2.1)]), 2⟩) ?_ ?_
  · intro v_ h
    obtain ⟨y18, h18, h⟩ := ob_some h
    rcases cond_some h with ⟨q19, h⟩ | ⟨q19, h⟩
    · refine awp_region_ 42 ?_
      refine rsl (.agg [(ai y15.1), (.own (oi 528 26) (.pair .int (.pair .int (.pair .int .int))) 0 y15.2.1.length), (.own (oi 529 26) .int 0 y15.2.2.1.length)]) (by kernel_rfl) ?_
      refine rsl (.agg [(ai y11.1), (.own (oi 400 13) (.pair .int (.pair .int (.pair .int .int))) 0 y11.2.1.length), (.own (oi 401 13) .int 0 y11.2.2.1.length)]) (by kernel_rfl) ?_
      refine rcall (.bool y18) [] [(.agg [(ai y15.1), (.own (oi 528 26) (.pair .int (.pair .int (.pair .int .int))) 0 y15.2.1.length), (.own (oi 529 26) .int 0 y15.2.2.1.length)]), (.agg [(ai y11.1), (.own (oi 400 13) (.pair .int (.pair .int (.pair .int .int))) 0 y11.2.1.length), (.own (oi 401 13) .int 0 y11.2.2.1.length)])] _ (caps := []) (args0 := [(.agg [(ai y15.1), (.tree (.pair .int (.pair .int (.pair .int .int))) y15.2.1), (.tree .int y15.2.2.1)]), (.agg [(ai y11.1), (.tree (.pair .int (.pair .int (.pair .int .int))) y11.2.1), (.tree .int y11.2.2.1)])]) trivial (gm_cons (gd_agg (gm_cons (by kernel_rfl) (gm_cons (gd_own (e := 51) (by kernel_rfl) rfl) (gm_cons (gd_own (e := 3) (by kernel_rfl) rfl) gm_nil)))) (gm_cons (gd_agg (gm_cons (by kernel_rfl) (gm_cons (gd_own (e := 51) (by kernel_rfl) rfl) (gm_cons (gd_own (e := 3) (by kernel_rfl) rfl) gm_nil)))) gm_nil)) (ok_laws_eqCircuit h18) hb_laws_eqCircuit ?_
      refine rs0 (.bool (!y18)) (by kernel_rfl) ?_
      refine rs0 (.bool (!y18)) (by kernel_rfl) ?_
      refine rs0 (.tup []) (s_skip (by kernel_rfl) q19) ?_
      refine rs0 (.tup []) (s_skip (by kernel_rfl) q19) ?_
      refine rs0 (.tup []) (s_skip (by kernel_rfl) q19) ?_
      refine rs0 (.bool true) (s_pickT (by kernel_rfl) q19) ?_
      refine rnil (tn_ ?_)
      obtain rfl := Option.some.inj h
      exact ⟨_, (weak_ren [((oi 0 1), (oi 3 1)), ((oi 1 1), (oi 6 17)), ((oi 4 1), (oi 400 13)), ((oi 5 1), (oi 401 13)), ((oi 2 1), (oi 8 22)), ((oi 6 1), (oi 464 21)), ((oi 7 1), (oi 465 21)), ((oi 3 1), (oi 9 30)), ((oi 8 1), (oi 528 26)), ((oi 9 1), (oi 529 26))]), rfl⟩
    refine awp_region_ 42 ?_
    refine rsl (.agg [(ai y15.1), (.own (oi 528 26) (.pair .int (.pair .int (.pair .int .int))) 0 y15.2.1.length), (.own (oi 529 26) .int 0 y15.2.2.1.length)]) (by kernel_rfl) ?_
    refine rsl (.agg [(ai y11.1), (.own (oi 400 13) (.pair .int (.pair .int (.pair .int .int))) 0 y11.2.1.length), (.own (oi 401 13) .int 0 y11.2.2.1.length)]) (by kernel_rfl) ?_
    refine rcall (.bool y18) [] [(.agg [(ai y15.1), (.own (oi 528 26) (.pair .int (.pair .int (.pair .int .int))) 0 y15.2.1.length), (.own (oi 529 26) .int 0 y15.2.2.1.length)]), (.agg [(ai y11.1), (.own (oi 400 13) (.pair .int (.pair .int (.pair .int .int))) 0 y11.2.1.length), (.own (oi 401 13) .int 0 y11.2.2.1.length)])] _ (caps := []) (args0 := [(.agg [(ai y15.1), (.tree (.pair .int (.pair .int (.pair .int .int))) y15.2.1), (.tree .int y15.2.2.1)]), (.agg [(ai y11.1), (.tree (.pair .int (.pair .int (.pair .int .int))) y11.2.1), (.tree .int y11.2.2.1)])]) trivial (gm_cons (gd_agg (gm_cons (by kernel_rfl) (gm_cons (gd_own (e := 51) (by kernel_rfl) rfl) (gm_cons (gd_own (e := 3) (by kernel_rfl) rfl) gm_nil)))) (gm_cons (gd_agg (gm_cons (by kernel_rfl) (gm_cons (gd_own (e := 51) (by kernel_rfl) rfl) (gm_cons (gd_own (e := 3) (by kernel_rfl) rfl) gm_nil)))) gm_nil)) (ok_laws_eqCircuit h18) hb_laws_eqCircuit ?_
    refine rs0 (.bool (!y18)) (by kernel_rfl) ?_
    refine rs0 (.bool (!y18)) (by kernel_rfl) ?_
    refine rs0 (.bool y15.2.2.2) (s_gd (by kernel_rfl) q19 (by kernel_rfl)) ?_
    refine rs0 (.bool y11.2.2.2) (s_gd (by kernel_rfl) q19 (by kernel_rfl)) ?_
    refine rs0 (.bool (y15.2.2.2 != y11.2.2.2)) (s_gd (by kernel_rfl) q19 (by kernel_rfl)) ?_
    refine rs0 (.bool (y15.2.2.2 != y11.2.2.2)) (s_pickF (by kernel_rfl) q19) ?_
    refine rnil (tn_ ?_)
    obtain rfl := Option.some.inj h
    exact ⟨_, (weak_ren [((oi 0 1), (oi 3 1)), ((oi 1 1), (oi 6 17)), ((oi 4 1), (oi 400 13)), ((oi 5 1), (oi 401 13)), ((oi 2 1), (oi 8 22)), ((oi 6 1), (oi 464 21)), ((oi 7 1), (oi 465 21)), ((oi 3 1), (oi 9 30)), ((oi 8 1), (oi 528 26)), ((oi 9 1), (oi 529 26))]), rfl⟩
  rintro l17_m44 _ rfl h
  (try dsimp only at h)
  rcases cond_some h with ⟨q20, h⟩ | ⟨q20, h⟩
  · refine awp_condT_ q20 ?_
    refine seqR ?_
    refine awp_ret_ (tr_ ?_)
    obtain rfl := Option.some.inj h
    exact ret_ [(.bool false)] (p_one rfl (l_sc (by kernel_rfl)) p_nil)
  refine awp_condF_ q20 ?_
  refine awp_skip_ (tn_ ?_)
  refine ⟨_, Weak.refl _, ?_⟩
  refine awp_seqv_ ?_
  refine awp_seqv_ ?_
  obtain ⟨y24, h24, h⟩ := ob_some h
  obtain ⟨y25, h25, h⟩ := ob_some h
  refine awp_regionD_ 7 ?_
  refine dsl (.agg [(ai y13.1), (.own (oi 6 1) (.pair .int (.pair .int (.pair .int .int))) 0 y13.2.1.length), (.own (oi 7 1) .int 0 y13.2.2.length)]) (by kernel_rfl) ?_
  refine dsl (.agg [(ai a1_0), (.tree (.pair .int (.pair .int (.pair .int .int))) a1_1), (.tree .int a1_2)]) (by kernel_rfl) ?_
  refine dcall (.agg [(ai y24.1), (.own (oi 752 4) (.pair .int (.pair .int (.pair .int .int))) 0 y24.2.1.length), (.own (oi 753 4) .int 0 y24.2.2.length)]) [((oi 752 4), some (.arr 51 (.pair .int (.pair .int (.pair .int .int))) y24.2.1)), ((oi 753 4), some (.arr 3 .int y24.2.2))] [(.agg [(ai a1_0), (.tree (.pair .int (.pair .int (.pair .int .int))) a1_1), (.tree .int a1_2)])] _ (caps := []) (args0 := [(.agg [(ai a1_0), (.tree (.pair .int (.pair .int (.pair .int .int))) a1_1), (.tree .int a1_2)])]) trivial (by kernel_rfl) (ok_laws_toCircuit h24) hb_laws_toCircuit ?_
  refine dcall (.bool y25) [] [(.agg [(ai y13.1), (.own (oi 6 1) (.pair .int (.pair .int (.pair .int .int))) 0 y13.2.1.length), (.own (oi 7 1) .int 0 y13.2.2.length)]), (.agg [(ai y24.1), (.own (oi 752 4) (.pair .int (.pair .int (.pair .int .int))) 0 y24.2.1.length), (.own (oi 753 4) .int 0 y24.2.2.length)])] _ (caps := []) (args0 := [(.agg [(ai y13.1), (.tree (.pair .int (.pair .int (.pair .int .int))) y13.2.1), (.tree .int y13.2.2)]), (.agg [(ai y24.1), (.tree (.pair .int (.pair .int (.pair .int .int))) y24.2.1), (.tree .int y24.2.2)])]) trivial (gm_cons (gd_agg (gm_cons (by kernel_rfl) (gm_cons (gd_own (e := 51) (by kernel_rfl) rfl) (gm_cons (gd_own (e := 3) (by kernel_rfl) rfl) gm_nil)))) (gm_cons (gd_agg (gm_cons (by kernel_rfl) (gm_cons (gd_own (e := 51) (by kernel_rfl) rfl) (gm_cons (gd_own (e := 3) (by kernel_rfl) rfl) gm_nil)))) gm_nil)) (ok_laws_eqCircuit h25) hb_laws_eqCircuit ?_
  refine ds0 (.bool (!y25)) (by kernel_rfl) ?_
  refine dnil (badB_spec (by kernel_rfl)) (tn_ ?_)
  refine ⟨_, Weak.refl _, ?_⟩
  rcases cond_some h with ⟨q26, h⟩ | ⟨q26, h⟩
  · refine awp_condT_ q26 ?_
    refine seqR ?_
    refine awp_ret_ (tr_ ?_)
    obtain rfl := Option.some.inj h
    exact ret_ [(.bool false)] (p_one rfl (l_sc (by kernel_rfl)) p_nil)
  refine awp_condF_ q26 ?_
  refine awp_skip_ (tn_ ?_)
  refine ⟨_, Weak.refl _, ?_⟩
  refine seqR ?_
  refine awp_seqv_ ?_
  obtain ⟨y30, h30, h⟩ := ob_some h
  obtain ⟨g31, h⟩ := og_some h
  obtain ⟨g32, h⟩ := og_some h
  refine awp_region_ 12 ?_
  refine rsl (.agg [(ai y13.1), (.own (oi 6 1) (.pair .int (.pair .int (.pair .int .int))) 0 y13.2.1.length), (.own (oi 7 1) .int 0 y13.2.2.length)]) (by kernel_rfl) ?_
  refine rs0 (ai 1) (by kernel_rfl) ?_
  refine rcallM (ai y30.2.2) [((oi 6 1), some (.arr 51 (.pair .int (.pair .int (.pair .int .int))) y30.1)), ((oi 7 1), some (.arr 3 .int y30.2.1)), ((oi 6 1), none), ((oi 7 1), none)] [((oi 0 0), (oi 6 1)), ((oi 1 0), (oi 7 1))] [(.agg [(ai y13.1), (.own (oi 6 1) (.pair .int (.pair .int (.pair .int .int))) 0 y13.2.1.length), (.own (oi 7 1) .int 0 y13.2.2.length)]), (ai 1)] (caps := []) trivial (ok_laws_markCircuit h30 rfl rfl) hb_laws_markCircuit ⟨(by kernel_rfl), ⟨(by kernel_rfl), trivial⟩⟩ (.cons (.agg (.cons (.ren (by kernel_rfl)) (.cons (.ren (by kernel_rfl)) (.cons (.ren (by kernel_rfl)) .nil)))) (.cons (.ren (by kernel_rfl)) .nil)) (reachL_mem (by kernel_rfl) (by kernel_rfl) ⟨(re_arg (by kernel_rfl)), ⟨(re_arg (by kernel_rfl)), trivial⟩⟩) ?_
  refine rsB 1 ?_
  refine rnil (tn_ ?_)
  refine ⟨_, Weak.refl _, ?_⟩
  refine awp_seqv_ ?_
  refine awp_seqB h (fun (l34_m65 : Bool) S_ => S_ = ⟨mkTm [(0, (ai a0)), (3, (.box (oi 0 1) 0)), (6, (.box (oi 1 1) 0)), (7, (.bool y11.2.2.2)), (9, (.box (oi 2 1) 0)), (65, (.bool l34_m65))], mkOb (someL [((oi 0 1), .cells 25 [(ai a1_0), (.tree (.pair .int (.pair .int (.pair .int .int))) a1_1), (.tree .int a1_2)]), ((oi 1 1), .cells 31 [(ai y11.1), (.own (oi 3 1) (.pair .int (.pair .int (.pair .int .int))) 0 y11.2.1.length), (.own (oi 4 1) .int 0 y11.2.2.1.length)]), ((oi 2 1), .cells 31 [(ai y15.1), (.own (oi 5 1) (.pair .int (.pair .int (.pair .int .int))) 0 y15.2.1.length), (.own (oi 6 1) .int 0 y15.2.2.1.length)]), ((oi 3 1), .arr 51 (.pair .int (.pair .int (.pair .int .int))) y11.2.1), ((oi 4 1), .arr 3 .int y11.2.2.1), ((oi 5 1), .arr 51 (.pair .int (.pair .int (.pair .int .int))) y15.2.1), ((oi 6 1), .arr 3 .int y15.2.2.1)]), 2⟩) ?_ ?_
  · intro v_ h
    rcases cond_some h with ⟨q35, h⟩ | ⟨q35, h⟩
    · have q35_ := of_decide_eq_true q35
      refine awp_region_ 25 ?_
      refine rs0 (ai y30.2.2) (by kernel_rfl) ?_
      refine rs0 (.bool (decide (y30.2.2 < 0))) (by kernel_rfl) ?_
      refine rs0 (.bool (decide (y30.2.2 < 0))) (by kernel_rfl) ?_
      refine rs0 (.tup []) (s_skip (by kernel_rfl) q35) ?_
      refine rs0 (.tup []) (s_skip (by kernel_rfl) q35) ?_
      refine rs0 (.tup []) (s_skip (by kernel_rfl) q35) ?_
      refine rs0 (.tup []) (s_skip (by kernel_rfl) q35) ?_
      refine rs0 (.bool true) (s_pickT (by kernel_rfl) q35) ?_
      refine rsB 5 ?_
      refine rnil (tn_ ?_)
      obtain rfl := Option.some.inj h
      exact ⟨_, (weak_ren [((oi 3 1), (oi 4 1)), ((oi 4 1), (oi 5 1)), ((oi 2 1), (oi 3 1)), ((oi 5 1), (oi 8 1)), ((oi 6 1), (oi 9 1))]), rfl⟩
    have q35_ := of_decide_eq_false q35
    obtain ⟨y36, h36, h⟩ := ob_some h
    rcases cond_some h with ⟨q37, h⟩ | ⟨q37, h⟩
    · refine awp_region_ 25 ?_
      refine rs0 (ai y30.2.2) (by kernel_rfl) ?_
      refine rs0 (.bool (decide (y30.2.2 < 0))) (by kernel_rfl) ?_
      refine rs0 (.bool (decide (y30.2.2 < 0))) (by kernel_rfl) ?_
      refine rsl (.agg [(ai y15.1), (.own (oi 8 1) (.pair .int (.pair .int (.pair .int .int))) 0 y15.2.1.length), (.own (oi 9 1) .int 0 y15.2.2.1.length)]) (s_gd (by kernel_rfl) q35 (by kernel_rfl)) ?_
      refine rsl (.agg [(ai y11.1), (.own (oi 4 1) (.pair .int (.pair .int (.pair .int .int))) 0 y11.2.1.length), (.own (oi 5 1) .int 0 y11.2.2.1.length)]) (s_gd (by kernel_rfl) q35 (by kernel_rfl)) ?_
      refine rcall (.bool y36) [] [(.agg [(ai y15.1), (.own (oi 8 1) (.pair .int (.pair .int (.pair .int .int))) 0 y15.2.1.length), (.own (oi 9 1) .int 0 y15.2.2.1.length)]), (.agg [(ai y11.1), (.own (oi 4 1) (.pair .int (.pair .int (.pair .int .int))) 0 y11.2.1.length), (.own (oi 5 1) .int 0 y11.2.2.1.length)])] _ (caps := []) (args0 := [(.agg [(ai y15.1), (.tree (.pair .int (.pair .int (.pair .int .int))) y15.2.1), (.tree .int y15.2.2.1)]), (.agg [(ai y11.1), (.tree (.pair .int (.pair .int (.pair .int .int))) y11.2.1), (.tree .int y11.2.2.1)])]) (gdOK_b (by kernel_rfl) q35) (gm_cons (gd_agg (gm_cons (by kernel_rfl) (gm_cons (gd_own (e := 51) (by kernel_rfl) rfl) (gm_cons (gd_own (e := 3) (by kernel_rfl) rfl) gm_nil)))) (gm_cons (gd_agg (gm_cons (by kernel_rfl) (gm_cons (gd_own (e := 51) (by kernel_rfl) rfl) (gm_cons (gd_own (e := 3) (by kernel_rfl) rfl) gm_nil)))) gm_nil)) (ok_laws_eqCircuit h36) hb_laws_eqCircuit ?_
      refine rs0 (.bool (!y36)) (s_gd (by kernel_rfl) q35 (by kernel_rfl)) ?_
      refine rs0 (.bool (!y36)) (s_pickF (by kernel_rfl) q35) ?_
      refine rs0 (.bool (!y36)) (by kernel_rfl) ?_
      refine rs0 (.tup []) (s_skip (by kernel_rfl) q37) ?_
      refine rs0 (.tup []) (s_skip (by kernel_rfl) q37) ?_
      refine rs0 (.tup []) (s_skip (by kernel_rfl) q37) ?_
      refine rs0 (.bool true) (s_pickT (by kernel_rfl) q37) ?_
      refine rnil (tn_ ?_)
      obtain rfl := Option.some.inj h
      exact ⟨_, (weak_ren [((oi 3 1), (oi 4 1)), ((oi 4 1), (oi 5 1)), ((oi 2 1), (oi 3 1)), ((oi 5 1), (oi 8 1)), ((oi 6 1), (oi 9 1))]), rfl⟩
    refine awp_region_ 25 ?_
    refine rs0 (ai y30.2.2) (by kernel_rfl) ?_
    refine rs0 (.bool (decide (y30.2.2 < 0))) (by kernel_rfl) ?_
    refine rs0 (.bool (decide (y30.2.2 < 0))) (by kernel_rfl) ?_
    refine rsl (.agg [(ai y15.1), (.own (oi 8 1) (.pair .int (.pair .int (.pair .int .int))) 0 y15.2.1.length), (.own (oi 9 1) .int 0 y15.2.2.1.length)]) (s_gd (by kernel_rfl) q35 (by kernel_rfl)) ?_
    refine rsl (.agg [(ai y11.1), (.own (oi 4 1) (.pair .int (.pair .int (.pair .int .int))) 0 y11.2.1.length), (.own (oi 5 1) .int 0 y11.2.2.1.length)]) (s_gd (by kernel_rfl) q35 (by kernel_rfl)) ?_
    refine rcall (.bool y36) [] [(.agg [(ai y15.1), (.own (oi 8 1) (.pair .int (.pair .int (.pair .int .int))) 0 y15.2.1.length), (.own (oi 9 1) .int 0 y15.2.2.1.length)]), (.agg [(ai y11.1), (.own (oi 4 1) (.pair .int (.pair .int (.pair .int .int))) 0 y11.2.1.length), (.own (oi 5 1) .int 0 y11.2.2.1.length)])] _ (caps := []) (args0 := [(.agg [(ai y15.1), (.tree (.pair .int (.pair .int (.pair .int .int))) y15.2.1), (.tree .int y15.2.2.1)]), (.agg [(ai y11.1), (.tree (.pair .int (.pair .int (.pair .int .int))) y11.2.1), (.tree .int y11.2.2.1)])]) (gdOK_b (by kernel_rfl) q35) (gm_cons (gd_agg (gm_cons (by kernel_rfl) (gm_cons (gd_own (e := 51) (by kernel_rfl) rfl) (gm_cons (gd_own (e := 3) (by kernel_rfl) rfl) gm_nil)))) (gm_cons (gd_agg (gm_cons (by kernel_rfl) (gm_cons (gd_own (e := 51) (by kernel_rfl) rfl) (gm_cons (gd_own (e := 3) (by kernel_rfl) rfl) gm_nil)))) gm_nil)) (ok_laws_eqCircuit h36) hb_laws_eqCircuit ?_
    refine rs0 (.bool (!y36)) (s_gd (by kernel_rfl) q35 (by kernel_rfl)) ?_
    refine rs0 (.bool (!y36)) (s_pickF (by kernel_rfl) q35) ?_
    refine rs0 (.bool (!y36)) (by kernel_rfl) ?_
    refine rs0 (.bool y15.2.2.2) (s_gd (by kernel_rfl) q37 (by kernel_rfl)) ?_
    refine rs0 (.bool y11.2.2.2) (s_gd (by kernel_rfl) q37 (by kernel_rfl)) ?_
    refine rs0 (.bool (y15.2.2.2 != y11.2.2.2)) (s_gd (by kernel_rfl) q37 (by kernel_rfl)) ?_
    refine rs0 (.bool (y15.2.2.2 != y11.2.2.2)) (s_pickF (by kernel_rfl) q37) ?_
    refine rnil (tn_ ?_)
    obtain rfl := Option.some.inj h
    exact ⟨_, (weak_ren [((oi 3 1), (oi 4 1)), ((oi 4 1), (oi 5 1)), ((oi 2 1), (oi 3 1)), ((oi 5 1), (oi 8 1)), ((oi 6 1), (oi 9 1))]), rfl⟩
  rintro l34_m65 _ rfl h
  (try dsimp only at h)
  rcases cond_some h with ⟨q38, h⟩ | ⟨q38, h⟩
  · refine awp_condT_ q38 ?_
    refine seqR ?_
    refine awp_ret_ (tr_ ?_)
    obtain rfl := Option.some.inj h
    exact ret_ [(.bool false)] (p_one rfl (l_sc (by kernel_rfl)) p_nil)
  refine awp_condF_ q38 ?_
  refine awp_skip_ (tn_ ?_)
  refine ⟨_, Weak.refl _, ?_⟩
  refine seqR ?_
  refine awp_seqv_ ?_
  obtain ⟨y42, h42, h⟩ := ob_some h
  obtain ⟨g43, h⟩ := og_some h
  obtain ⟨g44, h⟩ := og_some h
  refine awp_region_ 7 ?_
  refine rsl (.agg [(ai y15.1), (.own (oi 5 1) (.pair .int (.pair .int (.pair .int .int))) 0 y15.2.1.length), (.own (oi 6 1) .int 0 y15.2.2.1.length)]) (by kernel_rfl) ?_
  refine rs0 (ai 1) (by kernel_rfl) ?_
  refine rcallM (ai y42.2.2) [((oi 5 1), some (.arr 51 (.pair .int (.pair .int (.pair .int .int))) y42.1)), ((oi 6 1), some (.arr 3 .int y42.2.1)), ((oi 5 1), none), ((oi 6 1), none)] [((oi 0 0), (oi 5 1)), ((oi 1 0), (oi 6 1))] [(.agg [(ai y15.1), (.own (oi 5 1) (.pair .int (.pair .int (.pair .int .int))) 0 y15.2.1.length), (.own (oi 6 1) .int 0 y15.2.2.1.length)]), (ai 1)] (caps := []) trivial (ok_laws_markCircuit h42 rfl rfl) hb_laws_markCircuit ⟨(by kernel_rfl), ⟨(by kernel_rfl), trivial⟩⟩ (.cons (.agg (.cons (.ren (by kernel_rfl)) (.cons (.ren (by kernel_rfl)) (.cons (.ren (by kernel_rfl)) .nil)))) (.cons (.ren (by kernel_rfl)) .nil)) (reachL_mem (by kernel_rfl) (by kernel_rfl) ⟨(re_arg (by kernel_rfl)), ⟨(re_arg (by kernel_rfl)), trivial⟩⟩) ?_
  refine rsB 1 ?_
  refine rnil (tn_ ?_)
  refine ⟨_, Weak.refl _, ?_⟩
  refine seqR ?_
  refine awp_seqv_ ?_
  obtain ⟨y47, h47, h⟩ := ob_some h
  refine awp_region_ 12 ?_
  refine rsl (.agg [(ai y15.1), (.own (oi 5 1) (.pair .int (.pair .int (.pair .int .int))) 0 y15.2.1.length), (.own (oi 6 1) .int 0 y15.2.2.1.length)]) (by kernel_rfl) ?_
  refine rs0 (ai 1) (by kernel_rfl) ?_
  refine rcall (ai y47) [] [(.agg [(ai y15.1), (.own (oi 5 1) (.pair .int (.pair .int (.pair .int .int))) 0 y15.2.1.length), (.own (oi 6 1) .int 0 y15.2.2.1.length)]), (ai 1)] _ (caps := []) (args0 := [(.agg [(ai y15.1), (.tree (.pair .int (.pair .int (.pair .int .int))) y42.1), (.tree .int y42.2.1)]), (ai 1)]) trivial (gm_cons (gd_agg (gm_cons (by kernel_rfl) (gm_cons (gd_own (e := 51) (by kernel_rfl) g43.symm) (gm_cons (gd_own (e := 3) (by kernel_rfl) g44.symm) gm_nil)))) (gm_cons (by kernel_rfl) gm_nil)) (ok_laws_heldCircuit h47) hb_laws_heldCircuit ?_
  refine rsB 1 ?_
  refine rnil (tn_ ?_)
  refine ⟨_, Weak.refl _, ?_⟩
  refine awp_seqv_ ?_
  refine seqR ?_
  rcases cond_some h with ⟨q50, h⟩ | ⟨q50, h⟩
  · have q50_ := of_decide_eq_true q50
    refine awp_condT_ q50 ?_
    refine seqR ?_
    refine awp_ret_ (tr_ ?_)
    obtain rfl := Option.some.inj h
    exact ret_ [(.bool false)] (p_one rfl (l_sc (by kernel_rfl)) p_nil)
  have q50_ := of_decide_eq_false q50
  refine awp_condF_ q50 ?_
  refine awp_skip_ (tn_ ?_)
  refine ⟨_, Weak.refl _, ?_⟩
  refine awp_seqv_ ?_
  refine seqR ?_
  rcases cond_some h with ⟨q54, h⟩ | ⟨q54, h⟩
  · refine awp_condT_ q54 ?_
    refine seqR ?_
    refine awp_ret_ (tr_ ?_)
    obtain rfl := Option.some.inj h
    exact ret_ [(.bool false)] (p_one rfl (l_sc (by kernel_rfl)) p_nil)
  refine awp_condF_ q54 ?_
  refine awp_skip_ (tn_ ?_)
  refine ⟨_, Weak.refl _, ?_⟩
  refine awp_seqv_ ?_
  obtain ⟨y57, h57, h⟩ := ob_some h
  obtain ⟨y58, h58, h⟩ := ob_some h
  refine awp_region_ 27 ?_
  refine rs0 (ai a0) (by kernel_rfl) ?_
  refine rsl (.agg [(ai a1_0), (.tree (.pair .int (.pair .int (.pair .int .int))) a1_1), (.tree .int a1_2)]) (by kernel_rfl) ?_
  refine rcall (.agg [(ai y57.1), (.own (oi 1280 19) (.pair .int (.pair .int (.pair .int .int))) 0 y57.2.1.length), (.own (oi 1281 19) .int 0 y57.2.2.length)]) [((oi 1280 19), some (.arr 51 (.pair .int (.pair .int (.pair .int .int))) y57.2.1)), ((oi 1281 19), some (.arr 3 .int y57.2.2))] [(.agg [(ai a1_0), (.tree (.pair .int (.pair .int (.pair .int .int))) a1_1), (.tree .int a1_2)])] _ (caps := []) (args0 := [(.agg [(ai a1_0), (.tree (.pair .int (.pair .int (.pair .int .int))) a1_1), (.tree .int a1_2)])]) trivial (by kernel_rfl) (ok_laws_toCircuit h57) hb_laws_toCircuit ?_
  refine rcall (.tup [(.agg [(ai y58.1), (.own (oi 1296 20) (.pair .int (.pair .int (.pair .int .int))) 0 y58.2.1.length), (.own (oi 1297 20) .int 0 y58.2.2.1.length)]), (.bool y58.2.2.2)]) [((oi 1296 20), some (.arr 51 (.pair .int (.pair .int (.pair .int .int))) y58.2.1)), ((oi 1297 20), some (.arr 3 .int y58.2.2.1))] [(ai a0), (.agg [(ai y57.1), (.own (oi 1280 19) (.pair .int (.pair .int (.pair .int .int))) 0 y57.2.1.length), (.own (oi 1281 19) .int 0 y57.2.2.length)])] _ (caps := []) (args0 := [(ai a0), (.agg [(ai y57.1), (.tree (.pair .int (.pair .int (.pair .int .int))) y57.2.1), (.tree .int y57.2.2)])]) trivial (gm_cons (by kernel_rfl) (gm_cons (gd_agg (gm_cons (by kernel_rfl) (gm_cons (gd_own (e := 51) (by kernel_rfl) rfl) (gm_cons (gd_own (e := 3) (by kernel_rfl) rfl) gm_nil)))) gm_nil)) (ok_impl_FoldZeros h58) hb_impl_FoldZeros ?_
  refine rsB 6 ?_
  refine rnil (tn_ ?_)
  refine ⟨_, Weak.refl _, ?_⟩
  refine awp_seqv_ ?_
  refine awp_seqB h (fun (l60_m92 : Bool) S_ => S_ = ⟨mkTm [(9, (.box (oi 0 1) 0)), (12, (ai y42.2.2)), (92, (.bool l60_m92))], mkOb (someL [((oi 0 1), .cells 31 [(ai y15.1), (.own (oi 1 1) (.pair .int (.pair .int (.pair .int .int))) 0 y42.1.length), (.own (oi 2 1) .int 0 y42.2.1.length)]), ((oi 1 1), .arr 51 (.pair .int (.pair .int (.pair .int .int))) y42.1), ((oi 2 1), .arr 3 .int y42.2.1)]), 2⟩) ?_ ?_
  · intro v_ h
    obtain ⟨y61, h61, h⟩ := ob_some h
    rcases cond_some h with ⟨q62, h⟩ | ⟨q62, h⟩
    · refine awp_region_ 36 ?_
      refine rsl (.agg [(ai y58.1), (.own (oi 1296 20) (.pair .int (.pair .int (.pair .int .int))) 0 y58.2.1.length), (.own (oi 1297 20) .int 0 y58.2.2.1.length)]) (by kernel_rfl) ?_
      refine rsl (.agg [(ai y11.1), (.own (oi 3 1) (.pair .int (.pair .int (.pair .int .int))) 0 y11.2.1.length), (.own (oi 4 1) .int 0 y11.2.2.1.length)]) (by kernel_rfl) ?_
      refine rcall (.bool y61) [] [(.agg [(ai y58.1), (.own (oi 1296 20) (.pair .int (.pair .int (.pair .int .int))) 0 y58.2.1.length), (.own (oi 1297 20) .int 0 y58.2.2.1.length)]), (.agg [(ai y11.1), (.own (oi 3 1) (.pair .int (.pair .int (.pair .int .int))) 0 y11.2.1.length), (.own (oi 4 1) .int 0 y11.2.2.1.length)])] _ (caps := []) (args0 := [(.agg [(ai y58.1), (.tree (.pair .int (.pair .int (.pair .int .int))) y58.2.1), (.tree .int y58.2.2.1)]), (.agg [(ai y11.1), (.tree (.pair .int (.pair .int (.pair .int .int))) y11.2.1), (.tree .int y11.2.2.1)])]) trivial (gm_cons (gd_agg (gm_cons (by kernel_rfl) (gm_cons (gd_own (e := 51) (by kernel_rfl) rfl) (gm_cons (gd_own (e := 3) (by kernel_rfl) rfl) gm_nil)))) (gm_cons (gd_agg (gm_cons (by kernel_rfl) (gm_cons (gd_own (e := 51) (by kernel_rfl) rfl) (gm_cons (gd_own (e := 3) (by kernel_rfl) rfl) gm_nil)))) gm_nil)) (ok_laws_eqCircuit h61) hb_laws_eqCircuit ?_
      refine rs0 (.bool (!y61)) (by kernel_rfl) ?_
      refine rs0 (.bool (!y61)) (by kernel_rfl) ?_
      refine rs0 (.tup []) (s_skip (by kernel_rfl) q62) ?_
      refine rs0 (.tup []) (s_skip (by kernel_rfl) q62) ?_
      refine rs0 (.tup []) (s_skip (by kernel_rfl) q62) ?_
      refine rs0 (.bool true) (s_pickT (by kernel_rfl) q62) ?_
      refine rnil (tn_ ?_)
      obtain rfl := Option.some.inj h
      exact ⟨_, ((weak_ob_ (oi 2 1) (.cells 31 [(ai y15.1), (.own (oi 5 1) (.pair .int (.pair .int (.pair .int .int))) 0 y15.2.1.length), (.own (oi 6 1) .int 0 y15.2.2.1.length)]) (.cells 31 [(ai y15.1), (.own (oi 5 1) (.pair .int (.pair .int (.pair .int .int))) 0 y42.1.length), (.own (oi 6 1) .int 0 y15.2.2.1.length)]) (by kernel_rfl) (congrArg (fun z_ => (.cells 31 [(ai y15.1), (.own (oi 5 1) (.pair .int (.pair .int (.pair .int .int))) 0 z_), (.own (oi 6 1) .int 0 y15.2.2.1.length)] : Ob)) (g43.symm : y15.2.1.length = y42.1.length))).trans ((weak_ob_ (oi 2 1) (.cells 31 [(ai y15.1), (.own (oi 5 1) (.pair .int (.pair .int (.pair .int .int))) 0 y42.1.length), (.own (oi 6 1) .int 0 y15.2.2.1.length)]) (.cells 31 [(ai y15.1), (.own (oi 5 1) (.pair .int (.pair .int (.pair .int .int))) 0 y42.1.length), (.own (oi 6 1) .int 0 y42.2.1.length)]) (by kernel_rfl) (congrArg (fun z_ => (.cells 31 [(ai y15.1), (.own (oi 5 1) (.pair .int (.pair .int (.pair .int .int))) 0 y42.1.length), (.own (oi 6 1) .int 0 z_)] : Ob)) (g44.symm : y15.2.2.1.length = y42.2.1.length))).trans (weak_ren [((oi 0 1), (oi 2 1)), ((oi 1 1), (oi 5 1)), ((oi 2 1), (oi 6 1))]))), rfl⟩
    refine awp_region_ 36 ?_
    refine rsl (.agg [(ai y58.1), (.own (oi 1296 20) (.pair .int (.pair .int (.pair .int .int))) 0 y58.2.1.length), (.own (oi 1297 20) .int 0 y58.2.2.1.length)]) (by kernel_rfl) ?_
    refine rsl (.agg [(ai y11.1), (.own (oi 3 1) (.pair .int (.pair .int (.pair .int .int))) 0 y11.2.1.length), (.own (oi 4 1) .int 0 y11.2.2.1.length)]) (by kernel_rfl) ?_
    refine rcall (.bool y61) [] [(.agg [(ai y58.1), (.own (oi 1296 20) (.pair .int (.pair .int (.pair .int .int))) 0 y58.2.1.length), (.own (oi 1297 20) .int 0 y58.2.2.1.length)]), (.agg [(ai y11.1), (.own (oi 3 1) (.pair .int (.pair .int (.pair .int .int))) 0 y11.2.1.length), (.own (oi 4 1) .int 0 y11.2.2.1.length)])] _ (caps := []) (args0 := [(.agg [(ai y58.1), (.tree (.pair .int (.pair .int (.pair .int .int))) y58.2.1), (.tree .int y58.2.2.1)]), (.agg [(ai y11.1), (.tree (.pair .int (.pair .int (.pair .int .int))) y11.2.1), (.tree .int y11.2.2.1)])]) trivial (gm_cons (gd_agg (gm_cons (by kernel_rfl) (gm_cons (gd_own (e := 51) (by kernel_rfl) rfl) (gm_cons (gd_own (e := 3) (by kernel_rfl) rfl) gm_nil)))) (gm_cons (gd_agg (gm_cons (by kernel_rfl) (gm_cons (gd_own (e := 51) (by kernel_rfl) rfl) (gm_cons (gd_own (e := 3) (by kernel_rfl) rfl) gm_nil)))) gm_nil)) (ok_laws_eqCircuit h61) hb_laws_eqCircuit ?_
    refine rs0 (.bool (!y61)) (by kernel_rfl) ?_
    refine rs0 (.bool (!y61)) (by kernel_rfl) ?_
    refine rs0 (.bool y58.2.2.2) (s_gd (by kernel_rfl) q62 (by kernel_rfl)) ?_
    refine rs0 (.bool y11.2.2.2) (s_gd (by kernel_rfl) q62 (by kernel_rfl)) ?_
    refine rs0 (.bool (y58.2.2.2 != y11.2.2.2)) (s_gd (by kernel_rfl) q62 (by kernel_rfl)) ?_
    refine rs0 (.bool (y58.2.2.2 != y11.2.2.2)) (s_pickF (by kernel_rfl) q62) ?_
    refine rnil (tn_ ?_)
    obtain rfl := Option.some.inj h
    exact ⟨_, ((weak_ob_ (oi 2 1) (.cells 31 [(ai y15.1), (.own (oi 5 1) (.pair .int (.pair .int (.pair .int .int))) 0 y15.2.1.length), (.own (oi 6 1) .int 0 y15.2.2.1.length)]) (.cells 31 [(ai y15.1), (.own (oi 5 1) (.pair .int (.pair .int (.pair .int .int))) 0 y42.1.length), (.own (oi 6 1) .int 0 y15.2.2.1.length)]) (by kernel_rfl) (congrArg (fun z_ => (.cells 31 [(ai y15.1), (.own (oi 5 1) (.pair .int (.pair .int (.pair .int .int))) 0 z_), (.own (oi 6 1) .int 0 y15.2.2.1.length)] : Ob)) (g43.symm : y15.2.1.length = y42.1.length))).trans ((weak_ob_ (oi 2 1) (.cells 31 [(ai y15.1), (.own (oi 5 1) (.pair .int (.pair .int (.pair .int .int))) 0 y42.1.length), (.own (oi 6 1) .int 0 y15.2.2.1.length)]) (.cells 31 [(ai y15.1), (.own (oi 5 1) (.pair .int (.pair .int (.pair .int .int))) 0 y42.1.length), (.own (oi 6 1) .int 0 y42.2.1.length)]) (by kernel_rfl) (congrArg (fun z_ => (.cells 31 [(ai y15.1), (.own (oi 5 1) (.pair .int (.pair .int (.pair .int .int))) 0 y42.1.length), (.own (oi 6 1) .int 0 z_)] : Ob)) (g44.symm : y15.2.2.1.length = y42.2.1.length))).trans (weak_ren [((oi 0 1), (oi 2 1)), ((oi 1 1), (oi 5 1)), ((oi 2 1), (oi 6 1))]))), rfl⟩
  rintro l60_m92 _ rfl h
  (try dsimp only at h)
  rcases cond_some h with ⟨q63, h⟩ | ⟨q63, h⟩
  · refine awp_condT_ q63 ?_
    refine seqR ?_
    refine awp_ret_ (tr_ ?_)
    obtain rfl := Option.some.inj h
    exact ret_ [(.bool false)] (p_one rfl (l_sc (by kernel_rfl)) p_nil)
  refine awp_condF_ q63 ?_
  refine awp_skip_ (tn_ ?_)
  refine ⟨_, Weak.refl _, ?_⟩
  refine seqR ?_
  refine awp_seqv_ ?_
  obtain ⟨y67, h67, h⟩ := ob_some h
  refine awp_region_ 7 ?_
  refine rsl (.agg [(ai y15.1), (.own (oi 1 1) (.pair .int (.pair .int (.pair .int .int))) 0 y42.1.length), (.own (oi 2 1) .int 0 y42.2.1.length)]) (by kernel_rfl) ?_
  refine rs0 (ai 1) (by kernel_rfl) ?_
  refine rcall (ai y67) [] [(.agg [(ai y15.1), (.own (oi 1 1) (.pair .int (.pair .int (.pair .int .int))) 0 y42.1.length), (.own (oi 2 1) .int 0 y42.2.1.length)]), (ai 1)] _ (caps := []) (args0 := [(.agg [(ai y15.1), (.tree (.pair .int (.pair .int (.pair .int .int))) y42.1), (.tree .int y42.2.1)]), (ai 1)]) trivial (gm_cons (gd_agg (gm_cons (by kernel_rfl) (gm_cons (gd_own (e := 51) (by kernel_rfl) rfl) (gm_cons (gd_own (e := 3) (by kernel_rfl) rfl) gm_nil)))) (gm_cons (by kernel_rfl) gm_nil)) (ok_laws_heldCircuit h67) hb_laws_heldCircuit ?_
  refine rsB 1 ?_
  refine rnil (tn_ ?_)
  refine ⟨_, Weak.refl _, ?_⟩
  refine awp_seqv_ ?_
  refine seqR ?_
  rcases cond_some h with ⟨q70, h⟩ | ⟨q70, h⟩
  · have q70_ := of_decide_eq_true q70
    refine awp_condT_ q70 ?_
    refine seqR ?_
    refine awp_ret_ (tr_ ?_)
    obtain rfl := Option.some.inj h
    exact ret_ [(.bool false)] (p_one rfl (l_sc (by kernel_rfl)) p_nil)
  have q70_ := of_decide_eq_false q70
  refine awp_condF_ q70 ?_
  refine awp_skip_ (tn_ ?_)
  refine ⟨_, Weak.refl _, ?_⟩
  refine awp_seqv_ ?_
  refine seqR ?_
  rcases cond_some h with ⟨q74, h⟩ | ⟨q74, h⟩
  · refine awp_condT_ q74 ?_
    refine seqR ?_
    refine awp_ret_ (tr_ ?_)
    obtain rfl := Option.some.inj h
    exact ret_ [(.bool false)] (p_one rfl (l_sc (by kernel_rfl)) p_nil)
  refine awp_condF_ q74 ?_
  refine awp_skip_ (tn_ ?_)
  refine ⟨_, Weak.refl _, ?_⟩
  refine seqR ?_
  refine awp_ret_ ?_
  obtain rfl := Option.some.inj h
  exact ret_ [(.bool true)] (p_one rfl (l_sc (by kernel_rfl)) p_nil)
end Go.Proofs.YthjdknddcceigaaDoor
