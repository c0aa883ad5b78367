/- Partial functions in place of code, and that the code does what they say: NB. No condition. -/
import Derived.Test.YtefolocdfgelcaaDoorNA
namespace Go.Proofs.YtefolocdfgelcaaDoor
open Go.RowKit Go.Deep
set_option maxRecDepth 4000
def m_spec_l1In : AC :=
  (.seq (rg [xo 6 (qm (cb false))])
  (.seq (rg [xo 7 (qm (tm 0)), xo 8 (qm (tm 1)), xo 9 (qb .geq (tm 7) (tm 8)), xo 10 (qm (tm 9)), ⟨(some 11), (some (10, true)), (qm (tm 0))⟩, ⟨(some 12), (some (10, true)), (qm (tm 2))⟩, ⟨(some 13), (some (10, true)), (qb .leq (tm 11) (tm 12))⟩, xo 14 (.i (.pick (tm 10) (tm 13) (cb false))), xo 6 (qm (tm 14))])
  .ret))
def r_spec_l1In : List Res := [.tmp 6]
theorem c_spec_l1In : compiled Tryd.prog Tryd.f85 = some (m_spec_l1In, r_spec_l1In) := by kernel_rfl
theorem hb_spec_l1In : hasBody Tryd.prog 85 = true := by kernel_rfl
def L_spec_l1In (a0 : Int) (a1 : Int) (a2 : Int) : Option Bool :=
  Option.bind (cond (decide (a1 ≤ a0))
    (some (decide (a0 ≤ a2)))
    (some false)) fun l2_m6 =>
some l2_m6
def rv_spec_l1In (r : Bool) : RV := ⟨false, [(false, [.sc (.bool r)])]⟩
theorem ok_spec_l1In {a0 : Int} {a1 : Int} {a2 : Int} {r : Bool} (h : L_spec_l1In a0 a1 a2 = some r) : CallOK Tryd.prog Tab 85 [(ai a0), (ai a1), (ai a2)] (rv_spec_l1In r) := by
  refine call_of_ (by kernel_rfl) Tryd.func85 c_spec_l1In (n := 15) (by kernel_rfl) (by simp) (tl := [(0, (ai a0)), (1, (ai a1)), (2, (ai a2))]) rfl ?_
  unfold m_spec_l1In
  unfold L_spec_l1In at h
  refine seqR ?_
  refine awp_seqB h (fun (l2_m6 : Bool) S_ => S_ = ⟨mkTm [(6, (.bool l2_m6))], mkOb (someL []), 2⟩) ?_ ?_
  · intro v_ h
    rcases cond_some h with ⟨q3, h⟩ | ⟨q3, h⟩
    · have q3_ := of_decide_eq_true q3
      refine awp_region_ 11 ?_
      refine rs0 (ai a0) (by kernel_rfl) ?_
      refine rs0 (ai a1) (by kernel_rfl) ?_
      refine rs0 (.bool (decide (a1 ≤ a0))) (by kernel_rfl) ?_
      refine rs0 (.bool (decide (a1 ≤ a0))) (by kernel_rfl) ?_
      refine rs0 (ai a0) (s_gd (by kernel_rfl) q3 (by kernel_rfl)) ?_
      refine rs0 (ai a2) (s_gd (by kernel_rfl) q3 (by kernel_rfl)) ?_
      refine rs0 (.bool (decide (a0 ≤ a2))) (s_gd (by kernel_rfl) q3 (by kernel_rfl)) ?_
      refine rs0 (.bool (decide (a0 ≤ a2))) (s_pickT (by kernel_rfl) q3) ?_
      refine rsB 1 ?_
      refine rnil (tn_ ?_)
      obtain rfl := Option.some.inj h
      exact ⟨_, (weak_ren []), rfl⟩
    have q3_ := of_decide_eq_false q3
    refine awp_region_ 11 ?_
    refine rs0 (ai a0) (by kernel_rfl) ?_
    refine rs0 (ai a1) (by kernel_rfl) ?_
    refine rs0 (.bool (decide (a1 ≤ a0))) (by kernel_rfl) ?_
    refine rs0 (.bool (decide (a1 ≤ a0))) (by kernel_rfl) ?_
    refine rs0 (.tup []) (s_skip (by kernel_rfl) q3) ?_
    refine rs0 (.tup []) (s_skip (by kernel_rfl) q3) ?_
    refine rs0 (.tup []) (s_skip (by kernel_rfl) q3) ?_
    refine rs0 (.bool false) (s_pickF (by kernel_rfl) q3) ?_
    refine rsB 1 ?_
    refine rnil (tn_ ?_)
    obtain rfl := Option.some.inj h
    exact ⟨_, (weak_ren []), rfl⟩
  rintro l2_m6 _ rfl h
  (try dsimp only at h)
  refine awp_ret_ ?_
  obtain rfl := Option.some.inj h
  exact ret_ [(.bool l2_m6)] (p_one rfl (l_sc (by kernel_rfl)) p_nil)
def m_spec_fdGood_l1 : AC :=
  (.seq (.seq (rg [xo 7 (qm (tm 3)), xo 8 (qm (tm 3)), xo 9 (qb .mul (tm 7) (tm 8)), xo 10 (qm (tm 0)), xo 11 (qb .leq (tm 9) (tm 10))])
  (.cond (tm 11)
    .skip
    (.exit 0)))
  (.seq (.block 1 (.seq (rg [xo 14 (qm (tm 0)), xo 15 (qm (tm 3)), xo 16 (qb .rem (tm 14) (tm 15)), xo 17 (qb .eql (tm 16) (ci 0))])
  (.cond (tm 17)
    (.seq (rg [xo 2 (qm (cb false))])
    .ret)
    .skip)))
  (rg [xo 12 (qm (tm 3)), xo 13 (qb .add (tm 12) (ci 1)), xo 3 (qm (tm 13))])))
def m_spec_fdGood : AC :=
  (.seq (rg [xo 2 (qm (cb false))])
  (.seq (.seq (rg [xo 4 (qm (tm 0)), xo 5 (qc 85 [(tm 4), (ci 2), (ci 97)] [[], [], []]), xo 6 (.i (.not (tm 5)))])
  (.cond (tm 6)
    (.seq (rg [xo 2 (qm (cb false))])
    .ret)
    .skip))
  (.seq (.seq (rg [xo 3 (qm (ci 2))])
  (.block 0 (.loop m_spec_fdGood_l1)))
  (.seq (rg [xo 2 (qm (cb true))])
  .ret))))
def r_spec_fdGood : List Res := [.tmp 2]
theorem c_spec_fdGood : compiled Tryd.prog Tryd.f84 = some (m_spec_fdGood, r_spec_fdGood) := by kernel_rfl
theorem hb_spec_fdGood : hasBody Tryd.prog 84 = true := by kernel_rfl
def L_spec_fdGood_l1 (a0 : Int) (l9_m3 : Nat) : Option (Ctl Nat (Ctl Unit Bool)) :=
  cond (decide (IntKind.i64.wrap (((l9_m3 : Nat) : Int) * ((l9_m3 : Nat) : Int)) ≤ a0))
  (og (((l9_m3 : Nat) : Int) ≠ 0) <|
  cond ((Int.tmod a0 ((l9_m3 : Nat) : Int)) == 0)
    (some (Ctl.out (Ctl.out false)))
    (og (l9_m3 + 1 < 4611686018427387904) <|
    some (Ctl.next (l9_m3 + 1))))
  (some (Ctl.out (Ctl.next ())))
def L_spec_fdGood (a0 : Int) : Option Bool :=
  Option.bind (L_spec_l1In a0 2 97) fun y4 =>
cond (!y4)
  (some false)
  (seqC (loopM (fun s_ : Nat => L_spec_fdGood_l1 a0 s_) 4611686018427387904 2) fun _ =>
  some true)
def rv_spec_fdGood (r : Bool) : RV := ⟨false, [(false, [.sc (.bool r)])]⟩
theorem ok_spec_fdGood {a0 : Int} {r : Bool} (h : L_spec_fdGood a0 = some r) : CallOK Tryd.prog Tab 84 [(ai a0)] (rv_spec_fdGood r) := by
  refine call_of_ (by kernel_rfl) Tryd.func84 c_spec_fdGood (n := 18) (by kernel_rfl) (by simp) (tl := [(0, (ai a0))]) rfl ?_
  unfold m_spec_fdGood
  unfold L_spec_fdGood at h
  refine seqR ?_
  refine awp_seqv_ ?_
  refine awp_seqv_ ?_
  obtain ⟨y4, h4, h⟩ := ob_some h
  refine awp_region_ 5 ?_
  refine rs0 (ai a0) (by kernel_rfl) ?_
  refine rcall (.bool y4) [] [(ai a0), (ai 2), (ai 97)] _ (caps := []) (args0 := [(ai a0), (ai 2), (ai 97)]) trivial (by kernel_rfl) (ok_spec_l1In h4) hb_spec_l1In ?_
  refine rsB 1 ?_
  refine rnil (tn_ ?_)
  refine ⟨_, Weak.refl _, ?_⟩
  rcases cond_some h with ⟨q5, h⟩ | ⟨q5, h⟩
  · refine awp_condT_ q5 ?_
    refine seqR ?_
    refine awp_ret_ (tr_ ?_)
    obtain rfl := Option.some.inj h
    exact ret_ [(.bool false)] (p_one rfl (l_sc (by kernel_rfl)) p_nil)
  refine awp_condF_ q5 ?_
  refine awp_skip_ (tn_ ?_)
  refine ⟨_, Weak.refl _, ?_⟩
  refine awp_seqC h (fun (_ : Unit) S_ => S_ = ⟨mkTm [], mkOb (someL []), 2⟩) ?_ ?_
  · intro v_ h hk7
    refine seqR ?_
    refine awp_block_ ?_
    refine awp_loopL h (fun (l9_m3 : Nat) S_ => S_ = ⟨mkTm [(0, (ai a0)), (3, (ai ((l9_m3 : Nat) : Int)))], mkOb (someL []), 2⟩) ⟨_, (weak_ren []), rfl⟩ ?_
    rintro n_ l9_m3 _ c_ rfl h hn9
    (try dsimp only at h)
    unfold L_spec_fdGood_l1 at h
    unfold m_spec_fdGood_l1
    refine awp_seqv_ ?_
    refine seqR ?_
    rcases cond_some h with ⟨q12, h⟩ | ⟨q12, h⟩
    · have q12_ := of_decide_eq_true q12
      refine awp_condT_ q12 ?_
      refine awp_skip_ (tn_ ?_)
      refine ⟨_, Weak.refl _, ?_⟩
      refine awp_seqv_ ?_
      refine awp_block_ ?_
      refine awp_seqv_ ?_
      obtain ⟨g15, h⟩ := og_some h
      refine awp_region_ 11 ?_
      refine rs0 (ai a0) (by kernel_rfl) ?_
      refine rs0 (ai ((l9_m3 : Nat) : Int)) (by kernel_rfl) ?_
      refine rs0 (ai (Int.tmod a0 ((l9_m3 : Nat) : Int))) (s_rem (k := .i64) (a := a0) (b := ((l9_m3 : Nat) : Int)) (by kernel_rfl) (by kernel_rfl) g15) ?_
      refine rsB 1 ?_
      refine rnil (tn_ ?_)
      refine ⟨_, Weak.refl _, ?_⟩
      rcases cond_some h with ⟨q16, h⟩ | ⟨q16, h⟩
      · refine awp_condT_ q16 ?_
        refine seqR ?_
        refine awp_ret_ (br_ (tr_ (tr_ (br_ (tr_ ?_)))))
        obtain rfl := Option.some.inj h
        have h := hn9
        (try dsimp only at h)
        obtain rfl := Option.some.inj h
        have h := hk7
        (try dsimp only at h)
        obtain rfl := Option.some.inj h
        exact ret_ [(.bool false)] (p_one rfl (l_sc (by kernel_rfl)) p_nil)
      refine awp_condF_ q16 ?_
      refine awp_skip_ (bn_ (tn_ ?_))
      refine ⟨_, Weak.refl _, ?_⟩
      obtain ⟨g18, h⟩ := og_some h
      refine awp_region_ 14 ?_
      refine rs0 (ai ((l9_m3 : Nat) : Int)) (by kernel_rfl) ?_
      refine rs0 (ai ((l9_m3 + 1 : Nat) : Int)) (s_add1 (j := l9_m3) (by kernel_rfl) (by kernel_rfl) g18) ?_
      refine rsB 1 ?_
      refine rnil (tn_ ?_)
      obtain rfl := Option.some.inj h
      exact ⟨l9_m3 + 1, _, (weak_ren []), rfl, hn9⟩
    have q12_ := of_decide_eq_false q12
    refine awp_condF_ q12 ?_
    refine awp_exit_ (te_ (te_ (be_ (tn_ ?_))))
    obtain rfl := Option.some.inj h
    have h := hn9
    (try dsimp only at h)
    obtain rfl := Option.some.inj h
    exact ⟨(), _, rfl, (weak_ren []), rfl⟩
  rintro _ _ rfl h
  (try dsimp only at h)
  refine seqR ?_
  refine awp_ret_ ?_
  obtain rfl := Option.some.inj h
  exact ret_ [(.bool true)] (p_one rfl (l_sc (by kernel_rfl)) p_nil)
def m_spec_l1All_l1 : AC :=
  (.seq (rg [xo 12 (qb .lss (tm 11) (tm 10))])
  (.seq (.cond (tm 12)
    .skip
    (.exit 0))
  (.seq (.block 1 (.seq (rg [xo 13 (qx 1 (tm 9) (tm 11)), xo 14 (ql (tm 13)), xo 8 (qm (tm 14))])
  (.seq (rg [xo 15 (qm (tm 8)), xo 16 (qm (tm 1)), xo 17 (qm (tm 2)), xo 18 (qc 85 [(tm 15), (tm 16), (tm 17)] [[], [], []]), xo 19 (.i (.not (tm 18)))])
  (.cond (tm 19)
    (.seq (rg [xo 6 (qm (cb false))])
    .ret)
    .skip))))
  (rg [xo 20 (qb .add (tm 11) (ci 1)), xo 11 (qm (tm 20))]))))
def m_spec_l1All : AC :=
  (.seq (rg [xo 6 (qm (cb false))])
  (.seq (.seq (rg [xo 9 (qm (tm 0)), xo 10 (.i (.len (tm 9))), xo 11 (qm (ci 0))])
  (.block 0 (.loop m_spec_l1All_l1)))
  (.seq (rg [xo 6 (qm (cb true))])
  .ret)))
def r_spec_l1All : List Res := [.tmp 6]
theorem c_spec_l1All : compiled Tryd.prog Tryd.f86 = some (m_spec_l1All, r_spec_l1All) := by kernel_rfl
theorem hb_spec_l1All : hasBody Tryd.prog 86 = true := by kernel_rfl
def L_spec_l1All_l1 (a0 : List Int) (a1 : Int) (a2 : Int) (l4_m11 : Nat) : Option (Ctl Nat (Ctl Unit Bool)) :=
  cond (decide (((l4_m11 : Nat) : Int) < ((a0.length : Nat) : Int)))
  (Option.bind (a0[l4_m11]?) fun x10 =>
  Option.bind (L_spec_l1In x10 a1 a2) fun y12 =>
  cond (!y12)
    (some (Ctl.out (Ctl.out false)))
    (og (l4_m11 + 1 < 4611686018427387904) <|
    some (Ctl.next (l4_m11 + 1))))
  (some (Ctl.out (Ctl.next ())))
def L_spec_l1All (a0 : List Int) (a1 : Int) (a2 : Int) : Option Bool :=
  seqC (loopM (fun s_ : Nat => L_spec_l1All_l1 a0 a1 a2 s_) 4611686018427387904 0) fun _ =>
some true
def rv_spec_l1All (r : Bool) : RV := ⟨false, [(false, [.sc (.bool r)])]⟩
theorem ok_spec_l1All {a0 : List Int} {a1 : Int} {a2 : Int} {r : Bool} (h : L_spec_l1All a0 a1 a2 = some r) : CallOK Tryd.prog Tab 86 [(.tree .int a0), (ai a1), (ai a2)] (rv_spec_l1All r) := by
  refine call_of_ (by kernel_rfl) Tryd.func86 c_spec_l1All (n := 21) (by kernel_rfl) (by simp) (tl := [(0, (.tree .int a0)), (1, (ai a1)), (2, (ai a2))]) rfl ?_
  unfold m_spec_l1All
  unfold L_spec_l1All at h
  refine seqR ?_
  refine awp_seqC h (fun (_ : Unit) S_ => S_ = ⟨mkTm [], mkOb (someL []), 2⟩) ?_ ?_
  · intro v_ h hk2
    refine seqR ?_
    refine awp_block_ ?_
    refine awp_loopL h (fun (l4_m11 : Nat) S_ => S_ = ⟨mkTm [(1, (ai a1)), (2, (ai a2)), (9, (.tree .int a0)), (10, (ai ((a0.length : Nat) : Int))), (11, (ai ((l4_m11 : Nat) : Int)))], mkOb (someL []), 2⟩) ⟨_, (weak_ren []), rfl⟩ ?_
    rintro n_ l4_m11 _ c_ rfl h hn4
    (try dsimp only at h)
    unfold L_spec_l1All_l1 at h
    unfold m_spec_l1All_l1
    refine seqR ?_
    refine awp_seqv_ ?_
    rcases cond_some h with ⟨q7, h⟩ | ⟨q7, h⟩
    · have q7_ := of_decide_eq_true q7
      refine awp_condT_ q7 ?_
      refine awp_skip_ (tn_ ?_)
      refine ⟨_, Weak.refl _, ?_⟩
      refine awp_seqv_ ?_
      refine awp_block_ ?_
      refine awp_seqv_ ?_
      obtain ⟨x10, e10, h⟩ := ob_some h
      refine awp_region_ 6 ?_
      refine rs0 (.telt .int x10 0) (s_idxT (t := .int) (xs := a0) (k := .i64) (m := ((l4_m11 : Nat) : Int)) (by kernel_rfl) (by kernel_rfl) rfl (nat_nn _) rfl e10) ?_
      refine rsB 2 ?_
      refine rnil (tn_ ?_)
      refine ⟨_, Weak.refl _, ?_⟩
      refine awp_seqv_ ?_
      obtain ⟨y12, h12, h⟩ := ob_some h
      refine awp_region_ 11 ?_
      refine rs0 (ai x10) (by kernel_rfl) ?_
      refine rs0 (ai a1) (by kernel_rfl) ?_
      refine rs0 (ai a2) (by kernel_rfl) ?_
      refine rcall (.bool y12) [] [(ai x10), (ai a1), (ai a2)] _ (caps := []) (args0 := [(ai x10), (ai a1), (ai a2)]) trivial (by kernel_rfl) (ok_spec_l1In h12) hb_spec_l1In ?_
      refine rsB 1 ?_
      refine rnil (tn_ ?_)
      refine ⟨_, Weak.refl _, ?_⟩
      rcases cond_some h with ⟨q13, h⟩ | ⟨q13, h⟩
      · refine awp_condT_ q13 ?_
        refine seqR ?_
        refine awp_ret_ (br_ (tr_ (tr_ (br_ (tr_ ?_)))))
        obtain rfl := Option.some.inj h
        have h := hn4
        (try dsimp only at h)
        obtain rfl := Option.some.inj h
        have h := hk2
        (try dsimp only at h)
        obtain rfl := Option.some.inj h
        exact ret_ [(.bool false)] (p_one rfl (l_sc (by kernel_rfl)) p_nil)
      refine awp_condF_ q13 ?_
      refine awp_skip_ (bn_ (tn_ ?_))
      refine ⟨_, Weak.refl _, ?_⟩
      obtain ⟨g15, h⟩ := og_some h
      refine awp_region_ 13 ?_
      refine rs0 (ai ((l4_m11 + 1 : Nat) : Int)) (s_add1 (j := l4_m11) (by kernel_rfl) (by kernel_rfl) g15) ?_
      refine rsB 1 ?_
      refine rnil (tn_ ?_)
      obtain rfl := Option.some.inj h
      exact ⟨l4_m11 + 1, _, (weak_ren []), rfl, hn4⟩
    have q7_ := of_decide_eq_false q7
    refine awp_condF_ q7 ?_
    refine awp_exit_ (te_ (te_ (be_ (tn_ ?_))))
    obtain rfl := Option.some.inj h
    have h := hn4
    (try dsimp only at h)
    obtain rfl := Option.some.inj h
    exact ⟨(), _, rfl, (weak_ren []), rfl⟩
  rintro _ _ rfl h
  (try dsimp only at h)
  refine seqR ?_
  refine awp_ret_ ?_
  obtain rfl := Option.some.inj h
  exact ret_ [(.bool true)] (p_one rfl (l_sc (by kernel_rfl)) p_nil)
def m_spec_nwGood_l1 : AC :=
  (.seq (rg [xo 56 (qb .lss (tm 55) (tm 54))])
  (.seq (.cond (tm 56)
    .skip
    (.exit 0))
  (.seq (.block 1 (.seq (rg [xo 57 (qx 3 (tm 53) (tm 55)), xo 58 (.i (.ld false 3 (tm 57))), xo 6 (.i (.alloc 59 [(.int .i64 0), (.int .i64 0), (.int .i64 0)])), xn (.st false 3 (tm 6) (tm 58))])
  (.seq (rg [xo 59 (qf 0 (tm 6)), xo 60 (ql (tm 59)), xo 61 (qf 0 (tm 3)), xo 62 (ql (tm 61)), xo 63 (qb .sub (tm 62) (ci 1)), xo 64 (qc 85 [(tm 60), (ci 0), (tm 63)] [[], [], []]), xo 65 (.i (.not (tm 64))), xo 66 (qm (tm 65)), ⟨(some 67), (some (66, false)), (qf 1 (tm 6))⟩, ⟨(some 68), (some (66, false)), (ql (tm 67))⟩, ⟨(some 69), (some (66, false)), (qf 0 (tm 3))⟩, ⟨(some 70), (some (66, false)), (ql (tm 69))⟩, ⟨(some 71), (some (66, false)), (qb .sub (tm 70) (ci 1))⟩, ⟨(some 72), (some (66, false)), (qc 85 [(tm 68), (ci 0), (tm 71)] [[], [], []])⟩, ⟨(some 73), (some (66, false)), (.i (.not (tm 72)))⟩, xo 74 (.i (.pick (tm 66) (cb true) (tm 73))), xo 75 (qm (tm 74)), ⟨(some 76), (some (75, false)), (qf 0 (tm 6))⟩, ⟨(some 77), (some (75, false)), (ql (tm 76))⟩, ⟨(some 78), (some (75, false)), (qf 1 (tm 6))⟩, ⟨(some 79), (some (75, false)), (ql (tm 78))⟩, ⟨(some 80), (some (75, false)), (qb .eql (tm 77) (tm 79))⟩, xo 81 (.i (.pick (tm 75) (cb true) (tm 80))), xo 82 (qm (tm 81)), ⟨(some 83), (some (82, false)), (qf 2 (tm 6))⟩, ⟨(some 84), (some (82, false)), (ql (tm 83))⟩, ⟨(some 85), (some (82, false)), (qm (tm 0))⟩, ⟨(some 86), (some (82, false)), (qb .sub (tm 85) (ci 1))⟩, ⟨(some 87), (some (82, false)), (qc 85 [(tm 84), (ci 1), (tm 86)] [[], [], []])⟩, ⟨(some 88), (some (82, false)), (.i (.not (tm 87)))⟩, xo 89 (.i (.pick (tm 82) (cb true) (tm 88)))])
  (.cond (tm 89)
    (.seq (rg [xo 4 (qm (cb false))])
    .ret)
    .skip))))
  (rg [xo 90 (qb .add (tm 55) (ci 1)), xo 55 (qm (tm 90))]))))
def m_spec_nwGood : AC :=
  (.seq (rg [xo 3 (.i (.box 30 (tm 1))), xo 4 (qm (cb false))])
  (.seq (.seq (rg [xo 7 (qm (tm 0)), xo 8 (qc 84 [(tm 7)] [[]]), xo 9 (.i (.not (tm 8))), xo 10 (qm (tm 9)), ⟨(some 11), (some (10, false)), (qf 0 (tm 3))⟩, ⟨(some 12), (some (10, false)), (ql (tm 11))⟩, ⟨(some 13), (some (10, false)), (qc 85 [(tm 12), (ci 1), (ci 20)] [[], [], []])⟩, ⟨(some 14), (some (10, false)), (.i (.not (tm 13)))⟩, xo 15 (.i (.pick (tm 10) (cb true) (tm 14))), xo 16 (qm (tm 15)), ⟨(some 17), (some (16, false)), (qf 1 (tm 3))⟩, ⟨(some 18), (some (16, false)), (ql (tm 17))⟩, ⟨(some 19), (some (16, false)), (.i (.len (tm 18)))⟩, ⟨(some 20), (some (16, false)), (qb .gtr (tm 19) (ci 60))⟩, xo 21 (.i (.pick (tm 16) (cb true) (tm 20))), xo 22 (qm (tm 21)), ⟨(some 23), (some (22, false)), (qf 2 (tm 3))⟩, ⟨(some 24), (some (22, false)), (ql (tm 23))⟩, ⟨(some 25), (some (22, false)), (.i (.len (tm 24)))⟩, ⟨(some 26), (some (22, false)), (qb .gtr (tm 25) (ci 6))⟩, xo 27 (.i (.pick (tm 22) (cb true) (tm 26))), xo 28 (qm (tm 27)), ⟨(some 29), (some (28, false)), (qf 3 (tm 3))⟩, ⟨(some 30), (some (28, false)), (ql (tm 29))⟩, ⟨(some 31), (some (28, false)), (.i (.len (tm 30)))⟩, ⟨(some 32), (some (28, false)), (qb .gtr (tm 31) (ci 6))⟩, xo 33 (.i (.pick (tm 28) (cb true) (tm 32))), xo 34 (qm (tm 33)), ⟨(some 35), (some (34, false)), (qf 2 (tm 3))⟩, ⟨(some 36), (some (34, false)), (ql (tm 35))⟩, ⟨(some 37), (some (34, false)), (qf 0 (tm 3))⟩, ⟨(some 38), (some (34, false)), (ql (tm 37))⟩, ⟨(some 39), (some (34, false)), (qb .sub (tm 38) (ci 1))⟩, ⟨(some 40), (some (34, false)), (qc 86 [(tm 36), (ci 0), (tm 39)] [[(some .int)], [], []])⟩, ⟨(some 41), (some (34, false)), (.i (.not (tm 40)))⟩, xo 42 (.i (.pick (tm 34) (cb true) (tm 41))), xo 43 (qm (tm 42)), ⟨(some 44), (some (43, false)), (qf 3 (tm 3))⟩, ⟨(some 45), (some (43, false)), (ql (tm 44))⟩, ⟨(some 46), (some (43, false)), (qf 0 (tm 3))⟩, ⟨(some 47), (some (43, false)), (ql (tm 46))⟩, ⟨(some 48), (some (43, false)), (qb .sub (tm 47) (ci 1))⟩, ⟨(some 49), (some (43, false)), (qc 86 [(tm 45), (ci 0), (tm 48)] [[(some .int)], [], []])⟩, ⟨(some 50), (some (43, false)), (.i (.not (tm 49)))⟩, xo 51 (.i (.pick (tm 43) (cb true) (tm 50)))])
  (.cond (tm 51)
    (.seq (rg [xo 4 (qm (cb false))])
    .ret)
    .skip))
  (.seq (.seq (rg [xo 52 (qf 1 (tm 3)), xo 53 (ql (tm 52)), xo 54 (.i (.len (tm 53))), xo 55 (qm (ci 0))])
  (.block 0 (.loop m_spec_nwGood_l1)))
  (.seq (rg [xo 4 (qm (cb true))])
  .ret))))
def r_spec_nwGood : List Res := [.tmp 4]
theorem c_spec_nwGood : compiled Tryd.prog Tryd.f42 = some (m_spec_nwGood, r_spec_nwGood) := by kernel_rfl
theorem hb_spec_nwGood : hasBody Tryd.prog 42 = true := by kernel_rfl
def L_spec_nwGood_l1 (a1_1 : List (Int × Int × Int)) (a1_0 : Int) (a0 : Int) (l18_m55 : Nat) : Option (Ctl Nat (Ctl Unit Bool)) :=
  cond (decide (((l18_m55 : Nat) : Int) < ((a1_1.length : Nat) : Int)))
  (Option.bind (a1_1[l18_m55]?) fun x24 =>
  Option.bind (Option.bind (L_spec_l1In x24.1 0 (IntKind.i64.wrap (a1_0 - 1))) fun y26 =>
    cond (!y26)
      (some true)
      (Option.bind (L_spec_l1In x24.2.1 0 (IntKind.i64.wrap (a1_0 - 1))) fun y28 =>
      cond (!y28)
        (some true)
        (cond (x24.1 == x24.2.1)
          (some true)
          (Option.bind (L_spec_l1In x24.2.2 1 (IntKind.i64.wrap (a0 - 1))) fun y31 =>
          some (!y31))))) fun l25_m89 =>
  cond l25_m89
    (some (Ctl.out (Ctl.out false)))
    (og (l18_m55 + 1 < 4611686018427387904) <|
    some (Ctl.next (l18_m55 + 1))))
  (some (Ctl.out (Ctl.next ())))
def L_spec_nwGood (a0 : Int) (a1_0 : Int) (a1_1 : List (Int × Int × Int)) (a1_2 : List Int) (a1_3 : List Int) : Option Bool :=
  Option.bind (Option.bind (L_spec_fdGood a0) fun y4 =>
  cond (!y4)
    (some true)
    (Option.bind (L_spec_l1In a1_0 1 20) fun y6 =>
    cond (!y6)
      (some true)
      (cond (decide (60 < ((a1_1.length : Nat) : Int)))
        (some true)
        (cond (decide (6 < ((a1_2.length : Nat) : Int)))
          (some true)
          (cond (decide (6 < ((a1_3.length : Nat) : Int)))
            (some true)
            (Option.bind (L_spec_l1All a1_2 0 (IntKind.i64.wrap (a1_0 - 1))) fun y11 =>
            cond (!y11)
              (some true)
              (Option.bind (L_spec_l1All a1_3 0 (IntKind.i64.wrap (a1_0 - 1))) fun y13 =>
              some (!y13)))))))) fun l3_m51 =>
cond l3_m51
  (some false)
  (seqC (loopM (fun s_ : Nat => L_spec_nwGood_l1 a1_1 a1_0 a0 s_) 4611686018427387904 0) fun _ =>
  some true)
def rv_spec_nwGood (r : Bool) : RV := ⟨false, [(false, [.sc (.bool r)])]⟩
theorem ok_spec_nwGood {a0 : Int} {a1_0 : Int} {a1_1 : List (Int × Int × Int)} {a1_2 : List Int} {a1_3 : List Int} {r : Bool} (h : L_spec_nwGood a0 a1_0 a1_1 a1_2 a1_3 = some r) : CallOK Tryd.prog Tab 42 [(ai a0), (.agg [(ai a1_0), (.tree (.pair .int (.pair .int .int)) a1_1), (.tree .int a1_2), (.tree .int a1_3)])] (rv_spec_nwGood r) := by
  refine call_of_ (by kernel_rfl) Tryd.func42 c_spec_nwGood (n := 91) (by kernel_rfl) (by simp) (tl := [(0, (ai a0)), (1, (.agg [(ai a1_0), (.tree (.pair .int (.pair .int .int)) a1_1), (.tree .int a1_2), (.tree .int a1_3)]))]) rfl ?_
  unfold m_spec_nwGood
  unfold L_spec_nwGood at h
  refine seqR ?_
  refine awp_seqv_ ?_
  refine awp_seqB h (fun (l3_m51 : Bool) S_ => S_ = ⟨mkTm [(0, (ai a0)), (3, (.box (oi 0 1) 0)), (51, (.bool l3_m51))], mkOb (someL [((oi 0 1), .cells 30 [(ai a1_0), (.tree (.pair .int (.pair .int .int)) a1_1), (.tree .int a1_2), (.tree .int a1_3)])]), 2⟩) ?_ ?_
  · intro v_ h
    obtain ⟨y4, h4, h⟩ := ob_some h
    rcases cond_some h with ⟨q5, h⟩ | ⟨q5, h⟩
    · refine awp_region_ 48 ?_
      refine rs0 (ai a0) (by kernel_rfl) ?_
      refine rcall (.bool y4) [] [(ai a0)] _ (caps := []) (args0 := [(ai a0)]) trivial (by kernel_rfl) (ok_spec_fdGood h4) hb_spec_fdGood ?_
      refine rs0 (.bool (!y4)) (by kernel_rfl) ?_
      refine rs0 (.bool (!y4)) (by kernel_rfl) ?_
      refine rs0 (.tup []) (s_skip (by kernel_rfl) q5) ?_
      refine rs0 (.tup []) (s_skip (by kernel_rfl) q5) ?_
      refine rs0 (.tup []) (s_skip (by kernel_rfl) q5) ?_
      refine rs0 (.tup []) (s_skip (by kernel_rfl) q5) ?_
      refine rs0 (.bool true) (s_pickT (by kernel_rfl) q5) ?_
      refine rsB 36 ?_
      refine rnil (tn_ ?_)
      obtain rfl := Option.some.inj h
      exact ⟨_, (weak_ren [((oi 0 1), (oi 3 1))]), rfl⟩
    obtain ⟨y6, h6, h⟩ := ob_some h
    rcases cond_some h with ⟨q7, h⟩ | ⟨q7, h⟩
    · refine awp_region_ 48 ?_
      refine rs0 (ai a0) (by kernel_rfl) ?_
      refine rcall (.bool y4) [] [(ai a0)] _ (caps := []) (args0 := [(ai a0)]) trivial (by kernel_rfl) (ok_spec_fdGood h4) hb_spec_fdGood ?_
      refine rs0 (.bool (!y4)) (by kernel_rfl) ?_
      refine rs0 (.bool (!y4)) (by kernel_rfl) ?_
      refine rs0 (.box (oi 3 1) 0) (s_gd (by kernel_rfl) q5 (by kernel_rfl)) ?_
      refine rsl (ai a1_0) (s_gd (by kernel_rfl) q5 (by kernel_rfl)) ?_
      refine rcall (.bool y6) [] [(ai a1_0), (ai 1), (ai 20)] _ (caps := []) (args0 := [(ai a1_0), (ai 1), (ai 20)]) (gdOK_b (by kernel_rfl) q5) (by kernel_rfl) (ok_spec_l1In h6) hb_spec_l1In ?_
      refine rs0 (.bool (!y6)) (s_gd (by kernel_rfl) q5 (by kernel_rfl)) ?_
      refine rs0 (.bool (!y6)) (s_pickF (by kernel_rfl) q5) ?_
      refine rs0 (.bool (!y6)) (by kernel_rfl) ?_
      refine rs0 (.tup []) (s_skip (by kernel_rfl) q7) ?_
      refine rs0 (.tup []) (s_skip (by kernel_rfl) q7) ?_
      refine rs0 (.tup []) (s_skip (by kernel_rfl) q7) ?_
      refine rs0 (.tup []) (s_skip (by kernel_rfl) q7) ?_
      refine rs0 (.bool true) (s_pickT (by kernel_rfl) q7) ?_
      refine rsB 30 ?_
      refine rnil (tn_ ?_)
      obtain rfl := Option.some.inj h
      exact ⟨_, (weak_ren [((oi 0 1), (oi 3 1))]), rfl⟩
    rcases cond_some h with ⟨q8, h⟩ | ⟨q8, h⟩
    · have q8_ := of_decide_eq_true q8
      refine awp_region_ 48 ?_
      refine rs0 (ai a0) (by kernel_rfl) ?_
      refine rcall (.bool y4) [] [(ai a0)] _ (caps := []) (args0 := [(ai a0)]) trivial (by kernel_rfl) (ok_spec_fdGood h4) hb_spec_fdGood ?_
      refine rs0 (.bool (!y4)) (by kernel_rfl) ?_
      refine rs0 (.bool (!y4)) (by kernel_rfl) ?_
      refine rs0 (.box (oi 3 1) 0) (s_gd (by kernel_rfl) q5 (by kernel_rfl)) ?_
      refine rsl (ai a1_0) (s_gd (by kernel_rfl) q5 (by kernel_rfl)) ?_
      refine rcall (.bool y6) [] [(ai a1_0), (ai 1), (ai 20)] _ (caps := []) (args0 := [(ai a1_0), (ai 1), (ai 20)]) (gdOK_b (by kernel_rfl) q5) (by kernel_rfl) (ok_spec_l1In h6) hb_spec_l1In ?_
      refine rs0 (.bool (!y6)) (s_gd (by kernel_rfl) q5 (by kernel_rfl)) ?_
      refine rs0 (.bool (!y6)) (s_pickF (by kernel_rfl) q5) ?_
      refine rs0 (.bool (!y6)) (by kernel_rfl) ?_
      refine rs0 (.box (oi 3 1) 1) (s_gd (by kernel_rfl) q7 (by kernel_rfl)) ?_
      refine rsl (.tree (.pair .int (.pair .int .int)) a1_1) (s_gd (by kernel_rfl) q7 (by kernel_rfl)) ?_
      refine rs0 (ai ((a1_1.length : Nat) : Int)) (s_gd (by kernel_rfl) q7 (by kernel_rfl)) ?_
      refine rs0 (.bool (decide (60 < ((a1_1.length : Nat) : Int)))) (s_gd (by kernel_rfl) q7 (by kernel_rfl)) ?_
      refine rs0 (.bool (decide (60 < ((a1_1.length : Nat) : Int)))) (s_pickF (by kernel_rfl) q7) ?_
      refine rs0 (.bool (decide (60 < ((a1_1.length : Nat) : Int)))) (by kernel_rfl) ?_
      refine rs0 (.tup []) (s_skip (by kernel_rfl) q8) ?_
      refine rs0 (.tup []) (s_skip (by kernel_rfl) q8) ?_
      refine rs0 (.tup []) (s_skip (by kernel_rfl) q8) ?_
      refine rs0 (.tup []) (s_skip (by kernel_rfl) q8) ?_
      refine rs0 (.bool true) (s_pickT (by kernel_rfl) q8) ?_
      refine rsB 24 ?_
      refine rnil (tn_ ?_)
      obtain rfl := Option.some.inj h
      exact ⟨_, (weak_ren [((oi 0 1), (oi 3 1))]), rfl⟩
    have q8_ := of_decide_eq_false q8
    rcases cond_some h with ⟨q9, h⟩ | ⟨q9, h⟩
    · have q9_ := of_decide_eq_true q9
      refine awp_region_ 48 ?_
      refine rs0 (ai a0) (by kernel_rfl) ?_
      refine rcall (.bool y4) [] [(ai a0)] _ (caps := []) (args0 := [(ai a0)]) trivial (by kernel_rfl) (ok_spec_fdGood h4) hb_spec_fdGood ?_
      refine rs0 (.bool (!y4)) (by kernel_rfl) ?_
      refine rs0 (.bool (!y4)) (by kernel_rfl) ?_
      refine rs0 (.box (oi 3 1) 0) (s_gd (by kernel_rfl) q5 (by kernel_rfl)) ?_
      refine rsl (ai a1_0) (s_gd (by kernel_rfl) q5 (by kernel_rfl)) ?_
      refine rcall (.bool y6) [] [(ai a1_0), (ai 1), (ai 20)] _ (caps := []) (args0 := [(ai a1_0), (ai 1), (ai 20)]) (gdOK_b (by kernel_rfl) q5) (by kernel_rfl) (ok_spec_l1In h6) hb_spec_l1In ?_
      refine rs0 (.bool (!y6)) (s_gd (by kernel_rfl) q5 (by kernel_rfl)) ?_
      refine rs0 (.bool (!y6)) (s_pickF (by kernel_rfl) q5) ?_
      refine rs0 (.bool (!y6)) (by kernel_rfl) ?_
      refine rs0 (.box (oi 3 1) 1) (s_gd (by kernel_rfl) q7 (by kernel_rfl)) ?_
      refine rsl (.tree (.pair .int (.pair .int .int)) a1_1) (s_gd (by kernel_rfl) q7 (by kernel_rfl)) ?_
      refine rs0 (ai ((a1_1.length : Nat) : Int)) (s_gd (by kernel_rfl) q7 (by kernel_rfl)) ?_
      refine rs0 (.bool (decide (60 < ((a1_1.length : Nat) : Int)))) (s_gd (by kernel_rfl) q7 (by kernel_rfl)) ?_
      refine rs0 (.bool (decide (60 < ((a1_1.length : Nat) : Int)))) (s_pickF (by kernel_rfl) q7) ?_
      refine rs0 (.bool (decide (60 < ((a1_1.length : Nat) : Int)))) (by kernel_rfl) ?_
      refine rs0 (.box (oi 3 1) 2) (s_gd (by kernel_rfl) q8 (by kernel_rfl)) ?_
      refine rsl (.tree .int a1_2) (s_gd (by kernel_rfl) q8 (by kernel_rfl)) ?_
      refine rs0 (ai ((a1_2.length : Nat) : Int)) (s_gd (by kernel_rfl) q8 (by kernel_rfl)) ?_
      refine rs0 (.bool (decide (6 < ((a1_2.length : Nat) : Int)))) (s_gd (by kernel_rfl) q8 (by kernel_rfl)) ?_
      refine rs0 (.bool (decide (6 < ((a1_2.length : Nat) : Int)))) (s_pickF (by kernel_rfl) q8) ?_
      refine rs0 (.bool (decide (6 < ((a1_2.length : Nat) : Int)))) (by kernel_rfl) ?_
      refine rs0 (.tup []) (s_skip (by kernel_rfl) q9) ?_
      refine rs0 (.tup []) (s_skip (by kernel_rfl) q9) ?_
      refine rs0 (.tup []) (s_skip (by kernel_rfl) q9) ?_
      refine rs0 (.tup []) (s_skip (by kernel_rfl) q9) ?_
      refine rs0 (.bool true) (s_pickT (by kernel_rfl) q9) ?_
      refine rsB 18 ?_
      refine rnil (tn_ ?_)
      obtain rfl := Option.some.inj h
      exact ⟨_, (weak_ren [((oi 0 1), (oi 3 1))]), rfl⟩
    have q9_ := of_decide_eq_false q9
    rcases cond_some h with ⟨q10, h⟩ | ⟨q10, h⟩
    · have q10_ := of_decide_eq_true q10
      refine awp_region_ 48 ?_
      refine rs0 (ai a0) (by kernel_rfl) ?_
      refine rcall (.bool y4) [] [(ai a0)] _ (caps := []) (args0 := [(ai a0)]) trivial (by kernel_rfl) (ok_spec_fdGood h4) hb_spec_fdGood ?_
      refine rs0 (.bool (!y4)) (by kernel_rfl) ?_
      refine rs0 (.bool (!y4)) (by kernel_rfl) ?_
      refine rs0 (.box (oi 3 1) 0) (s_gd (by kernel_rfl) q5 (by kernel_rfl)) ?_
      refine rsl (ai a1_0) (s_gd (by kernel_rfl) q5 (by kernel_rfl)) ?_
      refine rcall (.bool y6) [] [(ai a1_0), (ai 1), (ai 20)] _ (caps := []) (args0 := [(ai a1_0), (ai 1), (ai 20)]) (gdOK_b (by kernel_rfl) q5) (by kernel_rfl) (ok_spec_l1In h6) hb_spec_l1In ?_
      refine rs0 (.bool (!y6)) (s_gd (by kernel_rfl) q5 (by kernel_rfl)) ?_
      refine rs0 (.bool (!y6)) (s_pickF (by kernel_rfl) q5) ?_
      refine rs0 (.bool (!y6)) (by kernel_rfl) ?_
      refine rs0 (.box (oi 3 1) 1) (s_gd (by kernel_rfl) q7 (by kernel_rfl)) ?_
      refine rsl (.tree (.pair .int (.pair .int .int)) a1_1) (s_gd (by kernel_rfl) q7 (by kernel_rfl)) ?_
      refine rs0 (ai ((a1_1.length : Nat) : Int)) (s_gd (by kernel_rfl) q7 (by kernel_rfl)) ?_
      refine rs0 (.bool (decide (60 < ((a1_1.length : Nat) : Int)))) (s_gd (by kernel_rfl) q7 (by kernel_rfl)) ?_
      refine rs0 (.bool (decide (60 < ((a1_1.length : Nat) : Int)))) (s_pickF (by kernel_rfl) q7) ?_
      refine rs0 (.bool (decide (60 < ((a1_1.length : Nat) : Int)))) (by kernel_rfl) ?_
      refine rs0 (.box (oi 3 1) 2) (s_gd (by kernel_rfl) q8 (by kernel_rfl)) ?_
      refine rsl (.tree .int a1_2) (s_gd (by kernel_rfl) q8 (by kernel_rfl)) ?_
      refine rs0 (ai ((a1_2.length : Nat) : Int)) (s_gd (by kernel_rfl) q8 (by kernel_rfl)) ?_
      refine rs0 (.bool (decide (6 < ((a1_2.length : Nat) : Int)))) (s_gd (by kernel_rfl) q8 (by kernel_rfl)) ?_
      refine rs0 (.bool (decide (6 < ((a1_2.length : Nat) : Int)))) (s_pickF (by kernel_rfl) q8) ?_
      refine rs0 (.bool (decide (6 < ((a1_2.length : Nat) : Int)))) (by kernel_rfl) ?_
      refine rs0 (.box (oi 3 1) 3) (s_gd (by kernel_rfl) q9 (by kernel_rfl)) ?_
      refine rsl (.tree .int a1_3) (s_gd (by kernel_rfl) q9 (by kernel_rfl)) ?_
      refine rs0 (ai ((a1_3.length : Nat) : Int)) (s_gd (by kernel_rfl) q9 (by kernel_rfl)) ?_
      refine rs0 (.bool (decide (6 < ((a1_3.length : Nat) : Int)))) (s_gd (by kernel_rfl) q9 (by kernel_rfl)) ?_
      refine rs0 (.bool (decide (6 < ((a1_3.length : Nat) : Int)))) (s_pickF (by kernel_rfl) q9) ?_
      refine rs0 (.bool (decide (6 < ((a1_3.length : Nat) : Int)))) (by kernel_rfl) ?_
      refine rs0 (.tup []) (s_skip (by kernel_rfl) q10) ?_
      refine rs0 (.tup []) (s_skip (by kernel_rfl) q10) ?_
      refine rs0 (.tup []) (s_skip (by kernel_rfl) q10) ?_
      refine rs0 (.tup []) (s_skip (by kernel_rfl) q10) ?_
      refine rs0 (.tup []) (s_skip (by kernel_rfl) q10) ?_
      refine rs0 (.tup []) (s_skip (by kernel_rfl) q10) ?_
      refine rs0 (.tup []) (s_skip (by kernel_rfl) q10) ?_
      refine rs0 (.bool true) (s_pickT (by kernel_rfl) q10) ?_
      refine rsB 9 ?_
      refine rnil (tn_ ?_)
      obtain rfl := Option.some.inj h
      exact ⟨_, (weak_ren [((oi 0 1), (oi 3 1))]), rfl⟩
    have q10_ := of_decide_eq_false q10
    obtain ⟨y11, h11, h⟩ := ob_some h
    rcases cond_some h with ⟨q12, h⟩ | ⟨q12, h⟩
    · refine awp_region_ 48 ?_
      refine rs0 (ai a0) (by kernel_rfl) ?_
      refine rcall (.bool y4) [] [(ai a0)] _ (caps := []) (args0 := [(ai a0)]) trivial (by kernel_rfl) (ok_spec_fdGood h4) hb_spec_fdGood ?_
      refine rs0 (.bool (!y4)) (by kernel_rfl) ?_
      refine rs0 (.bool (!y4)) (by kernel_rfl) ?_
      refine rs0 (.box (oi 3 1) 0) (s_gd (by kernel_rfl) q5 (by kernel_rfl)) ?_
      refine rsl (ai a1_0) (s_gd (by kernel_rfl) q5 (by kernel_rfl)) ?_
      refine rcall (.bool y6) [] [(ai a1_0), (ai 1), (ai 20)] _ (caps := []) (args0 := [(ai a1_0), (ai 1), (ai 20)]) (gdOK_b (by kernel_rfl) q5) (by kernel_rfl) (ok_spec_l1In h6) hb_spec_l1In ?_
      refine rs0 (.bool (!y6)) (s_gd (by kernel_rfl) q5 (by kernel_rfl)) ?_
      refine rs0 (.bool (!y6)) (s_pickF (by kernel_rfl) q5) ?_
      refine rs0 (.bool (!y6)) (by kernel_rfl) ?_
      refine rs0 (.box (oi 3 1) 1) (s_gd (by kernel_rfl) q7 (by kernel_rfl)) ?_
      refine rsl (.tree (.pair .int (.pair .int .int)) a1_1) (s_gd (by kernel_rfl) q7 (by kernel_rfl)) ?_
      refine rs0 (ai ((a1_1.length : Nat) : Int)) (s_gd (by kernel_rfl) q7 (by kernel_rfl)) ?_
      refine rs0 (.bool (decide (60 < ((a1_1.length : Nat) : Int)))) (s_gd (by kernel_rfl) q7 (by kernel_rfl)) ?_
      refine rs0 (.bool (decide (60 < ((a1_1.length : Nat) : Int)))) (s_pickF (by kernel_rfl) q7) ?_
      refine rs0 (.bool (decide (60 < ((a1_1.length : Nat) : Int)))) (by kernel_rfl) ?_
      refine rs0 (.box (oi 3 1) 2) (s_gd (by kernel_rfl) q8 (by kernel_rfl)) ?_
      refine rsl (.tree .int a1_2) (s_gd (by kernel_rfl) q8 (by kernel_rfl)) ?_
      refine rs0 (ai ((a1_2.length : Nat) : Int)) (s_gd (by kernel_rfl) q8 (by kernel_rfl)) ?_
      refine rs0 (.bool (decide (6 < ((a1_2.length : Nat) : Int)))) (s_gd (by kernel_rfl) q8 (by kernel_rfl)) ?_
      refine rs0 (.bool (decide (6 < ((a1_2.length : Nat) : Int)))) (s_pickF (by kernel_rfl) q8) ?_
      refine rs0 (.bool (decide (6 < ((a1_2.length : Nat) : Int)))) (by kernel_rfl) ?_
      refine rs0 (.box (oi 3 1) 3) (s_gd (by kernel_rfl) q9 (by kernel_rfl)) ?_
      refine rsl (.tree .int a1_3) (s_gd (by kernel_rfl) q9 (by kernel_rfl)) ?_
      refine rs0 (ai ((a1_3.length : Nat) : Int)) (s_gd (by kernel_rfl) q9 (by kernel_rfl)) ?_
      refine rs0 (.bool (decide (6 < ((a1_3.length : Nat) : Int)))) (s_gd (by kernel_rfl) q9 (by kernel_rfl)) ?_
      refine rs0 (.bool (decide (6 < ((a1_3.length : Nat) : Int)))) (s_pickF (by kernel_rfl) q9) ?_
      refine rs0 (.bool (decide (6 < ((a1_3.length : Nat) : Int)))) (by kernel_rfl) ?_
      refine rs0 (.box (oi 3 1) 2) (s_gd (by kernel_rfl) q10 (by kernel_rfl)) ?_
      refine rsl (.tree .int a1_2) (s_gd (by kernel_rfl) q10 (by kernel_rfl)) ?_
      refine rs0 (.box (oi 3 1) 0) (s_gd (by kernel_rfl) q10 (by kernel_rfl)) ?_
      refine rsl (ai a1_0) (s_gd (by kernel_rfl) q10 (by kernel_rfl)) ?_
      refine rs0 (ai (IntKind.i64.wrap (a1_0 - 1))) (s_gd (by kernel_rfl) q10 (by kernel_rfl)) ?_
      refine rcall (.bool y11) [] [(.tree .int a1_2), (ai 0), (ai (IntKind.i64.wrap (a1_0 - 1)))] _ (caps := []) (args0 := [(.tree .int a1_2), (ai 0), (ai (IntKind.i64.wrap (a1_0 - 1)))]) (gdOK_b (by kernel_rfl) q10) (by kernel_rfl) (ok_spec_l1All h11) hb_spec_l1All ?_
      refine rs0 (.bool (!y11)) (s_gd (by kernel_rfl) q10 (by kernel_rfl)) ?_
      refine rs0 (.bool (!y11)) (s_pickF (by kernel_rfl) q10) ?_
      refine rs0 (.bool (!y11)) (by kernel_rfl) ?_
      refine rs0 (.tup []) (s_skip (by kernel_rfl) q12) ?_
      refine rs0 (.tup []) (s_skip (by kernel_rfl) q12) ?_
      refine rs0 (.tup []) (s_skip (by kernel_rfl) q12) ?_
      refine rs0 (.tup []) (s_skip (by kernel_rfl) q12) ?_
      refine rs0 (.tup []) (s_skip (by kernel_rfl) q12) ?_
      refine rs0 (.tup []) (s_skip (by kernel_rfl) q12) ?_
      refine rs0 (.tup []) (s_skip (by kernel_rfl) q12) ?_
      refine rs0 (.bool true) (s_pickT (by kernel_rfl) q12) ?_
      refine rnil (tn_ ?_)
      obtain rfl := Option.some.inj h
      exact ⟨_, (weak_ren [((oi 0 1), (oi 3 1))]), rfl⟩
    obtain ⟨y13, h13, h⟩ := ob_some h
    refine awp_region_ 48 ?_
    refine rs0 (ai a0) (by kernel_rfl) ?_
    refine rcall (.bool y4) [] [(ai a0)] _ (caps := []) (args0 := [(ai a0)]) trivial (by kernel_rfl) (ok_spec_fdGood h4) hb_spec_fdGood ?_
    refine rs0 (.bool (!y4)) (by kernel_rfl) ?_
    refine rs0 (.bool (!y4)) (by kernel_rfl) ?_
    refine rs0 (.box (oi 3 1) 0) (s_gd (by kernel_rfl) q5 (by kernel_rfl)) ?_
    refine rsl (ai a1_0) (s_gd (by kernel_rfl) q5 (by kernel_rfl)) ?_
    refine rcall (.bool y6) [] [(ai a1_0), (ai 1), (ai 20)] _ (caps := []) (args0 := [(ai a1_0), (ai 1), (ai 20)]) (gdOK_b (by kernel_rfl) q5) (by kernel_rfl) (ok_spec_l1In h6) hb_spec_l1In ?_
    refine rs0 (.bool (!y6)) (s_gd (by kernel_rfl) q5 (by kernel_rfl)) ?_
    refine rs0 (.bool (!y6)) (s_pickF (by kernel_rfl) q5) ?_
    refine rs0 (.bool (!y6)) (by kernel_rfl) ?_
    refine rs0 (.box (oi 3 1) 1) (s_gd (by kernel_rfl) q7 (by kernel_rfl)) ?_
    refine rsl (.tree (.pair .int (.pair .int .int)) a1_1) (s_gd (by kernel_rfl) q7 (by kernel_rfl)) ?_
    refine rs0 (ai ((a1_1.length : Nat) : Int)) (s_gd (by kernel_rfl) q7 (by kernel_rfl)) ?_
    refine rs0 (.bool (decide (60 < ((a1_1.length : Nat) : Int)))) (s_gd (by kernel_rfl) q7 (by kernel_rfl)) ?_
    refine rs0 (.bool (decide (60 < ((a1_1.length : Nat) : Int)))) (s_pickF (by kernel_rfl) q7) ?_
    refine rs0 (.bool (decide (60 < ((a1_1.length : Nat) : Int)))) (by kernel_rfl) ?_
    refine rs0 (.box (oi 3 1) 2) (s_gd (by kernel_rfl) q8 (by kernel_rfl)) ?_
    refine rsl (.tree .int a1_2) (s_gd (by kernel_rfl) q8 (by kernel_rfl)) ?_
    refine rs0 (ai ((a1_2.length : Nat) : Int)) (s_gd (by kernel_rfl) q8 (by kernel_rfl)) ?_
    refine rs0 (.bool (decide (6 < ((a1_2.length : Nat) : Int)))) (s_gd (by kernel_rfl) q8 (by kernel_rfl)) ?_
    refine rs0 (.bool (decide (6 < ((a1_2.length : Nat) : Int)))) (s_pickF (by kernel_rfl) q8) ?_
    refine rs0 (.bool (decide (6 < ((a1_2.length : Nat) : Int)))) (by kernel_rfl) ?_
    refine rs0 (.box (oi 3 1) 3) (s_gd (by kernel_rfl) q9 (by kernel_rfl)) ?_
    refine rsl (.tree .int a1_3) (s_gd (by kernel_rfl) q9 (by kernel_rfl)) ?_
    refine rs0 (ai ((a1_3.length : Nat) : Int)) (s_gd (by kernel_rfl) q9 (by kernel_rfl)) ?_
    refine rs0 (.bool (decide (6 < ((a1_3.length : Nat) : Int)))) (s_gd (by kernel_rfl) q9 (by kernel_rfl)) ?_
    refine rs0 (.bool (decide (6 < ((a1_3.length : Nat) : Int)))) (s_pickF (by kernel_rfl) q9) ?_
    refine rs0 (.bool (decide (6 < ((a1_3.length : Nat) : Int)))) (by kernel_rfl) ?_
    refine rs0 (.box (oi 3 1) 2) (s_gd (by kernel_rfl) q10 (by kernel_rfl)) ?_
    refine rsl (.tree .int a1_2) (s_gd (by kernel_rfl) q10 (by kernel_rfl)) ?_
    refine rs0 (.box (oi 3 1) 0) (s_gd (by kernel_rfl) q10 (by kernel_rfl)) ?_
    refine rsl (ai a1_0) (s_gd (by kernel_rfl) q10 (by kernel_rfl)) ?_
    refine rs0 (ai (IntKind.i64.wrap (a1_0 - 1))) (s_gd (by kernel_rfl) q10 (by kernel_rfl)) ?_
    refine rcall (.bool y11) [] [(.tree .int a1_2), (ai 0), (ai (IntKind.i64.wrap (a1_0 - 1)))] _ (caps := []) (args0 := [(.tree .int a1_2), (ai 0), (ai (IntKind.i64.wrap (a1_0 - 1)))]) (gdOK_b (by kernel_rfl) q10) (by kernel_rfl) (ok_spec_l1All h11) hb_spec_l1All ?_
    refine rs0 (.bool (!y11)) (s_gd (by kernel_rfl) q10 (by kernel_rfl)) ?_
    refine rs0 (.bool (!y11)) (s_pickF (by kernel_rfl) q10) ?_
    refine rs0 (.bool (!y11)) (by kernel_rfl) ?_
    refine rs0 (.box (oi 3 1) 3) (s_gd (by kernel_rfl) q12 (by kernel_rfl)) ?_
    refine rsl (.tree .int a1_3) (s_gd (by kernel_rfl) q12 (by kernel_rfl)) ?_
    refine rs0 (.box (oi 3 1) 0) (s_gd (by kernel_rfl) q12 (by kernel_rfl)) ?_
    refine rsl (ai a1_0) (s_gd (by kernel_rfl) q12 (by kernel_rfl)) ?_
    refine rs0 (ai (IntKind.i64.wrap (a1_0 - 1))) (s_gd (by kernel_rfl) q12 (by kernel_rfl)) ?_
    refine rcall (.bool y13) [] [(.tree .int a1_3), (ai 0), (ai (IntKind.i64.wrap (a1_0 - 1)))] _ (caps := []) (args0 := [(.tree .int a1_3), (ai 0), (ai (IntKind.i64.wrap (a1_0 - 1)))]) (gdOK_b (by kernel_rfl) q12) (by kernel_rfl) (ok_spec_l1All h13) hb_spec_l1All ?_
    refine rs0 (.bool (!y13)) (s_gd (by kernel_rfl) q12 (by kernel_rfl)) ?_
    refine rs0 (.bool (!y13)) (s_pickF (by kernel_rfl) q12) ?_
    refine rnil (tn_ ?_)
    obtain rfl := Option.some.inj h
    exact ⟨_, (weak_ren [((oi 0 1), (oi 3 1))]), rfl⟩
  rintro l3_m51 _ rfl h
  (try dsimp only at h)
  rcases cond_some h with ⟨q14, h⟩ | ⟨q14, h⟩
  · refine awp_condT_ q14 ?_
    refine seqR ?_
    refine awp_ret_ (tr_ ?_)
    obtain rfl := Option.some.inj h
    exact ret_ [(.bool false)] (p_one rfl (l_sc (by kernel_rfl)) p_nil)
  refine awp_condF_ q14 ?_
  refine awp_skip_ (tn_ ?_)
  refine ⟨_, Weak.refl _, ?_⟩
  refine awp_seqC h (fun (_ : Unit) S_ => S_ = ⟨mkTm [], mkOb (someL []), 2⟩) ?_ ?_
  · intro v_ h hk16
    refine seqR ?_
    refine awp_block_ ?_
    refine awp_loopL h (fun (l18_m55 : Nat) S_ => S_ = ⟨mkTm [(0, (ai a0)), (3, (.box (oi 0 1) 0)), (53, (.tree (.pair .int (.pair .int .int)) a1_1)), (54, (ai ((a1_1.length : Nat) : Int))), (55, (ai ((l18_m55 : Nat) : Int)))], mkOb (someL [((oi 0 1), .cells 30 [(ai a1_0), (.tree (.pair .int (.pair .int .int)) a1_1), (.tree .int a1_2), (.tree .int a1_3)])]), 2⟩) ⟨_, (weak_ren []), rfl⟩ ?_
    rintro n_ l18_m55 _ c_ rfl h hn18
    (try dsimp only at h)
    unfold L_spec_nwGood_l1 at h
    unfold m_spec_nwGood_l1
    refine seqR ?_
    refine awp_seqv_ ?_
    rcases cond_some h with ⟨q21, h⟩ | ⟨q21, h⟩
    · have q21_ := of_decide_eq_true q21
      refine awp_condT_ q21 ?_
      refine awp_skip_ (tn_ ?_)
      refine ⟨_, Weak.refl _, ?_⟩
      refine awp_seqv_ ?_
      refine awp_block_ ?_
      refine awp_seqv_ ?_
      obtain ⟨x24, e24, h⟩ := ob_some h
      refine awp_region_ 7 ?_
      refine rs0 (.telt (.pair .int (.pair .int .int)) x24 0) (s_idxT (t := (.pair .int (.pair .int .int))) (xs := a1_1) (k := .i64) (m := ((l18_m55 : Nat) : Int)) (by kernel_rfl) (by kernel_rfl) rfl (nat_nn _) rfl e24) ?_
      refine rsB 3 ?_
      refine rnil (tn_ ?_)
      refine ⟨_, Weak.refl _, ?_⟩
      refine awp_seqB h (fun (l25_m89 : Bool) S_ => S_ = ⟨mkTm [(0, (ai a0)), (3, (.box (oi 0 1) 0)), (53, (.tree (.pair .int (.pair .int .int)) a1_1)), (54, (ai ((a1_1.length : Nat) : Int))), (55, (ai ((l18_m55 : Nat) : Int))), (89, (.bool l25_m89))], mkOb (someL [((oi 0 1), .cells 30 [(ai a1_0), (.tree (.pair .int (.pair .int .int)) a1_1), (.tree .int a1_2), (.tree .int a1_3)])]), 2⟩) ?_ ?_
      · intro v_ h
        obtain ⟨y26, h26, h⟩ := ob_some h
        rcases cond_some h with ⟨q27, h⟩ | ⟨q27, h⟩
        · refine awp_region_ 38 ?_
          refine rs0 (.box (oi 6 5) 0) (by kernel_rfl) ?_
          refine rsl (ai x24.1) (by kernel_rfl) ?_
          refine rs0 (.box (oi 0 1) 0) (by kernel_rfl) ?_
          refine rsl (ai a1_0) (by kernel_rfl) ?_
          refine rs0 (ai (IntKind.i64.wrap (a1_0 - 1))) (by kernel_rfl) ?_
          refine rcall (.bool y26) [] [(ai x24.1), (ai 0), (ai (IntKind.i64.wrap (a1_0 - 1)))] _ (caps := []) (args0 := [(ai x24.1), (ai 0), (ai (IntKind.i64.wrap (a1_0 - 1)))]) trivial (by kernel_rfl) (ok_spec_l1In h26) hb_spec_l1In ?_
          refine rs0 (.bool (!y26)) (by kernel_rfl) ?_
          refine rs0 (.bool (!y26)) (by kernel_rfl) ?_
          refine rs0 (.tup []) (s_skip (by kernel_rfl) q27) ?_
          refine rs0 (.tup []) (s_skip (by kernel_rfl) q27) ?_
          refine rs0 (.tup []) (s_skip (by kernel_rfl) q27) ?_
          refine rs0 (.tup []) (s_skip (by kernel_rfl) q27) ?_
          refine rs0 (.tup []) (s_skip (by kernel_rfl) q27) ?_
          refine rs0 (.tup []) (s_skip (by kernel_rfl) q27) ?_
          refine rs0 (.tup []) (s_skip (by kernel_rfl) q27) ?_
          refine rs0 (.bool true) (s_pickT (by kernel_rfl) q27) ?_
          refine rsB 15 ?_
          refine rnil (tn_ ?_)
          obtain rfl := Option.some.inj h
          exact ⟨_, (weak_ren []), rfl⟩
        obtain ⟨y28, h28, h⟩ := ob_some h
        rcases cond_some h with ⟨q29, h⟩ | ⟨q29, h⟩
        · refine awp_region_ 38 ?_
          refine rs0 (.box (oi 6 5) 0) (by kernel_rfl) ?_
          refine rsl (ai x24.1) (by kernel_rfl) ?_
          refine rs0 (.box (oi 0 1) 0) (by kernel_rfl) ?_
          refine rsl (ai a1_0) (by kernel_rfl) ?_
          refine rs0 (ai (IntKind.i64.wrap (a1_0 - 1))) (by kernel_rfl) ?_
          refine rcall (.bool y26) [] [(ai x24.1), (ai 0), (ai (IntKind.i64.wrap (a1_0 - 1)))] _ (caps := []) (args0 := [(ai x24.1), (ai 0), (ai (IntKind.i64.wrap (a1_0 - 1)))]) trivial (by kernel_rfl) (ok_spec_l1In h26) hb_spec_l1In ?_
          refine rs0 (.bool (!y26)) (by kernel_rfl) ?_
          refine rs0 (.bool (!y26)) (by kernel_rfl) ?_
          refine rs0 (.box (oi 6 5) 1) (s_gd (by kernel_rfl) q27 (by kernel_rfl)) ?_
          refine rsl (ai x24.2.1) (s_gd (by kernel_rfl) q27 (by kernel_rfl)) ?_
          refine rs0 (.box (oi 0 1) 0) (s_gd (by kernel_rfl) q27 (by kernel_rfl)) ?_
          refine rsl (ai a1_0) (s_gd (by kernel_rfl) q27 (by kernel_rfl)) ?_
          refine rs0 (ai (IntKind.i64.wrap (a1_0 - 1))) (s_gd (by kernel_rfl) q27 (by kernel_rfl)) ?_
          refine rcall (.bool y28) [] [(ai x24.2.1), (ai 0), (ai (IntKind.i64.wrap (a1_0 - 1)))] _ (caps := []) (args0 := [(ai x24.2.1), (ai 0), (ai (IntKind.i64.wrap (a1_0 - 1)))]) (gdOK_b (by kernel_rfl) q27) (by kernel_rfl) (ok_spec_l1In h28) hb_spec_l1In ?_
          refine rs0 (.bool (!y28)) (s_gd (by kernel_rfl) q27 (by kernel_rfl)) ?_
          refine rs0 (.bool (!y28)) (s_pickF (by kernel_rfl) q27) ?_
          refine rs0 (.bool (!y28)) (by kernel_rfl) ?_
          refine rs0 (.tup []) (s_skip (by kernel_rfl) q29) ?_
          refine rs0 (.tup []) (s_skip (by kernel_rfl) q29) ?_
          refine rs0 (.tup []) (s_skip (by kernel_rfl) q29) ?_
          refine rs0 (.tup []) (s_skip (by kernel_rfl) q29) ?_
          refine rs0 (.tup []) (s_skip (by kernel_rfl) q29) ?_
          refine rs0 (.bool true) (s_pickT (by kernel_rfl) q29) ?_
          refine rsB 8 ?_
          refine rnil (tn_ ?_)
          obtain rfl := Option.some.inj h
          exact ⟨_, (weak_ren []), rfl⟩
        rcases cond_some h with ⟨q30, h⟩ | ⟨q30, h⟩
        · refine awp_region_ 38 ?_
          refine rs0 (.box (oi 6 5) 0) (by kernel_rfl) ?_
          refine rsl (ai x24.1) (by kernel_rfl) ?_
          refine rs0 (.box (oi 0 1) 0) (by kernel_rfl) ?_
          refine rsl (ai a1_0) (by kernel_rfl) ?_
          refine rs0 (ai (IntKind.i64.wrap (a1_0 - 1))) (by kernel_rfl) ?_
          refine rcall (.bool y26) [] [(ai x24.1), (ai 0), (ai (IntKind.i64.wrap (a1_0 - 1)))] _ (caps := []) (args0 := [(ai x24.1), (ai 0), (ai (IntKind.i64.wrap (a1_0 - 1)))]) trivial (by kernel_rfl) (ok_spec_l1In h26) hb_spec_l1In ?_
          refine rs0 (.bool (!y26)) (by kernel_rfl) ?_
          refine rs0 (.bool (!y26)) (by kernel_rfl) ?_
          refine rs0 (.box (oi 6 5) 1) (s_gd (by kernel_rfl) q27 (by kernel_rfl)) ?_
          refine rsl (ai x24.2.1) (s_gd (by kernel_rfl) q27 (by kernel_rfl)) ?_
          refine rs0 (.box (oi 0 1) 0) (s_gd (by kernel_rfl) q27 (by kernel_rfl)) ?_
          refine rsl (ai a1_0) (s_gd (by kernel_rfl) q27 (by kernel_rfl)) ?_
          refine rs0 (ai (IntKind.i64.wrap (a1_0 - 1))) (s_gd (by kernel_rfl) q27 (by kernel_rfl)) ?_
          refine rcall (.bool y28) [] [(ai x24.2.1), (ai 0), (ai (IntKind.i64.wrap (a1_0 - 1)))] _ (caps := []) (args0 := [(ai x24.2.1), (ai 0), (ai (IntKind.i64.wrap (a1_0 - 1)))]) (gdOK_b (by kernel_rfl) q27) (by kernel_rfl) (ok_spec_l1In h28) hb_spec_l1In ?_
          refine rs0 (.bool (!y28)) (s_gd (by kernel_rfl) q27 (by kernel_rfl)) ?_
          refine rs0 (.bool (!y28)) (s_pickF (by kernel_rfl) q27) ?_
          refine rs0 (.bool (!y28)) (by kernel_rfl) ?_
          refine rs0 (.box (oi 6 5) 0) (s_gd (by kernel_rfl) q29 (by kernel_rfl)) ?_
          refine rsl (ai x24.1) (s_gd (by kernel_rfl) q29 (by kernel_rfl)) ?_
          refine rs0 (.box (oi 6 5) 1) (s_gd (by kernel_rfl) q29 (by kernel_rfl)) ?_
          refine rsl (ai x24.2.1) (s_gd (by kernel_rfl) q29 (by kernel_rfl)) ?_
          refine rs0 (.bool (x24.1 == x24.2.1)) (s_gd (by kernel_rfl) q29 (by kernel_rfl)) ?_
          refine rs0 (.bool (x24.1 == x24.2.1)) (s_pickF (by kernel_rfl) q29) ?_
          refine rs0 (.bool (x24.1 == x24.2.1)) (by kernel_rfl) ?_
          refine rs0 (.tup []) (s_skip (by kernel_rfl) q30) ?_
          refine rs0 (.tup []) (s_skip (by kernel_rfl) q30) ?_
          refine rs0 (.tup []) (s_skip (by kernel_rfl) q30) ?_
          refine rs0 (.tup []) (s_skip (by kernel_rfl) q30) ?_
          refine rs0 (.tup []) (s_skip (by kernel_rfl) q30) ?_
          refine rs0 (.tup []) (s_skip (by kernel_rfl) q30) ?_
          refine rs0 (.bool true) (s_pickT (by kernel_rfl) q30) ?_
          refine rnil (tn_ ?_)
          obtain rfl := Option.some.inj h
          exact ⟨_, (weak_ren []), rfl⟩
        obtain ⟨y31, h31, h⟩ := ob_some h
        refine awp_region_ 38 ?_
        refine rs0 (.box (oi 6 5) 0) (by kernel_rfl) ?_
        refine rsl (ai x24.1) (by kernel_rfl) ?_
        refine rs0 (.box (oi 0 1) 0) (by kernel_rfl) ?_
        refine rsl (ai a1_0) (by kernel_rfl) ?_
        refine rs0 (ai (IntKind.i64.wrap (a1_0 - 1))) (by kernel_rfl) ?_
        refine rcall (.bool y26) [] [(ai x24.1), (ai 0), (ai (IntKind.i64.wrap (a1_0 - 1)))] _ (caps := []) (args0 := [(ai x24.1), (ai 0), (ai (IntKind.i64.wrap (a1_0 - 1)))]) trivial (by kernel_rfl) (ok_spec_l1In h26) hb_spec_l1In ?_
        refine rs0 (.bool (!y26)) (by kernel_rfl) ?_
        refine rs0 (.bool (!y26)) (by kernel_rfl) ?_
        refine rs0 (.box (oi 6 5) 1) (s_gd (by kernel_rfl) q27 (by kernel_rfl)) ?_
        refine rsl (ai x24.2.1) (s_gd (by kernel_rfl) q27 (by kernel_rfl)) ?_
        refine rs0 (.box (oi 0 1) 0) (s_gd (by kernel_rfl) q27 (by kernel_rfl)) ?_
        refine rsl (ai a1_0) (s_gd (by kernel_rfl) q27 (by kernel_rfl)) ?_
        refine rs0 (ai (IntKind.i64.wrap (a1_0 - 1))) (s_gd (by kernel_rfl) q27 (by kernel_rfl)) ?_
        refine rcall (.bool y28) [] [(ai x24.2.1), (ai 0), (ai (IntKind.i64.wrap (a1_0 - 1)))] _ (caps := []) (args0 := [(ai x24.2.1), (ai 0), (ai (IntKind.i64.wrap (a1_0 - 1)))]) (gdOK_b (by kernel_rfl) q27) (by kernel_rfl) (ok_spec_l1In h28) hb_spec_l1In ?_
        refine rs0 (.bool (!y28)) (s_gd (by kernel_rfl) q27 (by kernel_rfl)) ?_
        refine rs0 (.bool (!y28)) (s_pickF (by kernel_rfl) q27) ?_
        refine rs0 (.bool (!y28)) (by kernel_rfl) ?_
        refine rs0 (.box (oi 6 5) 0) (s_gd (by kernel_rfl) q29 (by kernel_rfl)) ?_
        refine rsl (ai x24.1) (s_gd (by kernel_rfl) q29 (by kernel_rfl)) ?_
        refine rs0 (.box (oi 6 5) 1) (s_gd (by kernel_rfl) q29 (by kernel_rfl)) ?_
        refine rsl (ai x24.2.1) (s_gd (by kernel_rfl) q29 (by kernel_rfl)) ?_
        refine rs0 (.bool (x24.1 == x24.2.1)) (s_gd (by kernel_rfl) q29 (by kernel_rfl)) ?_
        refine rs0 (.bool (x24.1 == x24.2.1)) (s_pickF (by kernel_rfl) q29) ?_
        refine rs0 (.bool (x24.1 == x24.2.1)) (by kernel_rfl) ?_
        refine rs0 (.box (oi 6 5) 2) (s_gd (by kernel_rfl) q30 (by kernel_rfl)) ?_
        refine rsl (ai x24.2.2) (s_gd (by kernel_rfl) q30 (by kernel_rfl)) ?_
        refine rs0 (ai a0) (s_gd (by kernel_rfl) q30 (by kernel_rfl)) ?_
        refine rs0 (ai (IntKind.i64.wrap (a0 - 1))) (s_gd (by kernel_rfl) q30 (by kernel_rfl)) ?_
        refine rcall (.bool y31) [] [(ai x24.2.2), (ai 1), (ai (IntKind.i64.wrap (a0 - 1)))] _ (caps := []) (args0 := [(ai x24.2.2), (ai 1), (ai (IntKind.i64.wrap (a0 - 1)))]) (gdOK_b (by kernel_rfl) q30) (by kernel_rfl) (ok_spec_l1In h31) hb_spec_l1In ?_
        refine rs0 (.bool (!y31)) (s_gd (by kernel_rfl) q30 (by kernel_rfl)) ?_
        refine rs0 (.bool (!y31)) (s_pickF (by kernel_rfl) q30) ?_
        refine rnil (tn_ ?_)
        obtain rfl := Option.some.inj h
        exact ⟨_, (weak_ren []), rfl⟩
      rintro l25_m89 _ rfl h
      (try dsimp only at h)
      rcases cond_some h with ⟨q32, h⟩ | ⟨q32, h⟩
      · refine awp_condT_ q32 ?_
        refine seqR ?_
        refine awp_ret_ (br_ (tr_ (tr_ (br_ (tr_ ?_)))))
        obtain rfl := Option.some.inj h
        have h := hn18
        (try dsimp only at h)
        obtain rfl := Option.some.inj h
        have h := hk16
        (try dsimp only at h)
        obtain rfl := Option.some.inj h
        exact ret_ [(.bool false)] (p_one rfl (l_sc (by kernel_rfl)) p_nil)
      refine awp_condF_ q32 ?_
      refine awp_skip_ (bn_ (tn_ ?_))
      refine ⟨_, Weak.refl _, ?_⟩
      obtain ⟨g34, h⟩ := og_some h
      refine awp_region_ 4 ?_
      refine rs0 (ai ((l18_m55 + 1 : Nat) : Int)) (s_add1 (j := l18_m55) (by kernel_rfl) (by kernel_rfl) g34) ?_
      refine rsB 1 ?_
      refine rnil (tn_ ?_)
      obtain rfl := Option.some.inj h
      exact ⟨l18_m55 + 1, _, (weak_ren []), rfl, hn18⟩
    have q21_ := of_decide_eq_false q21
    refine awp_condF_ q21 ?_
    refine awp_exit_ (te_ (te_ (be_ (tn_ ?_))))
    obtain rfl := Option.some.inj h
    have h := hn18
    (try dsimp only at h)
    obtain rfl := Option.some.inj h
    exact ⟨(), _, rfl, (weak_ren []), rfl⟩
  rintro _ _ rfl h
  (try dsimp only at h)
  refine seqR ?_
  refine awp_ret_ ?_
  obtain rfl := Option.some.inj h
  exact ret_ [(.bool true)] (p_one rfl (l_sc (by kernel_rfl)) p_nil)
def m_impl_within : AC :=
  (.seq (rg [xo 6 (qm (cb false))])
  (.seq (rg [xo 7 (qm (tm 0)), xo 8 (qm (tm 1)), xo 9 (qb .geq (tm 7) (tm 8)), xo 10 (qm (tm 9)), ⟨(some 11), (some (10, true)), (qm (tm 0))⟩, ⟨(some 12), (some (10, true)), (qm (tm 2))⟩, ⟨(some 13), (some (10, true)), (qb .leq (tm 11) (tm 12))⟩, xo 14 (.i (.pick (tm 10) (tm 13) (cb false))), xo 6 (qm (tm 14))])
  .ret))
def r_impl_within : List Res := [.tmp 6]
theorem c_impl_within : compiled Tryd.prog Tryd.f89 = some (m_impl_within, r_impl_within) := by kernel_rfl
theorem hb_impl_within : hasBody Tryd.prog 89 = true := by kernel_rfl
def L_impl_within (a0 : Int) (a1 : Int) (a2 : Int) : Option Bool :=
  Option.bind (cond (decide (a1 ≤ a0))
    (some (decide (a0 ≤ a2)))
    (some false)) fun l2_m6 =>
some l2_m6
def rv_impl_within (r : Bool) : RV := ⟨false, [(false, [.sc (.bool r)])]⟩
theorem ok_impl_within {a0 : Int} {a1 : Int} {a2 : Int} {r : Bool} (h : L_impl_within a0 a1 a2 = some r) : CallOK Tryd.prog Tab 89 [(ai a0), (ai a1), (ai a2)] (rv_impl_within r) := by
  refine call_of_ (by kernel_rfl) Tryd.func89 c_impl_within (n := 15) (by kernel_rfl) (by simp) (tl := [(0, (ai a0)), (1, (ai a1)), (2, (ai a2))]) rfl ?_
  unfold m_impl_within
  unfold L_impl_within at h
  refine seqR ?_
  refine awp_seqB h (fun (l2_m6 : Bool) S_ => S_ = ⟨mkTm [(6, (.bool l2_m6))], mkOb (someL []), 2⟩) ?_ ?_
  · intro v_ h
    rcases cond_some h with ⟨q3, h⟩ | ⟨q3, h⟩
    · have q3_ := of_decide_eq_true q3
      refine awp_region_ 11 ?_
      refine rs0 (ai a0) (by kernel_rfl) ?_
      refine rs0 (ai a1) (by kernel_rfl) ?_
      refine rs0 (.bool (decide (a1 ≤ a0))) (by kernel_rfl) ?_
      refine rs0 (.bool (decide (a1 ≤ a0))) (by kernel_rfl) ?_
      refine rs0 (ai a0) (s_gd (by kernel_rfl) q3 (by kernel_rfl)) ?_
      refine rs0 (ai a2) (s_gd (by kernel_rfl) q3 (by kernel_rfl)) ?_
      refine rs0 (.bool (decide (a0 ≤ a2))) (s_gd (by kernel_rfl) q3 (by kernel_rfl)) ?_
      refine rs0 (.bool (decide (a0 ≤ a2))) (s_pickT (by kernel_rfl) q3) ?_
      refine rsB 1 ?_
      refine rnil (tn_ ?_)
      obtain rfl := Option.some.inj h
      exact ⟨_, (weak_ren []), rfl⟩
    have q3_ := of_decide_eq_false q3
    refine awp_region_ 11 ?_
    refine rs0 (ai a0) (by kernel_rfl) ?_
    refine rs0 (ai a1) (by kernel_rfl) ?_
    refine rs0 (.bool (decide (a1 ≤ a0))) (by kernel_rfl) ?_
    refine rs0 (.bool (decide (a1 ≤ a0))) (by kernel_rfl) ?_
    refine rs0 (.tup []) (s_skip (by kernel_rfl) q3) ?_
    refine rs0 (.tup []) (s_skip (by kernel_rfl) q3) ?_
    refine rs0 (.tup []) (s_skip (by kernel_rfl) q3) ?_
    refine rs0 (.bool false) (s_pickF (by kernel_rfl) q3) ?_
    refine rsB 1 ?_
    refine rnil (tn_ ?_)
    obtain rfl := Option.some.inj h
    exact ⟨_, (weak_ren []), rfl⟩
  rintro l2_m6 _ rfl h
  (try dsimp only at h)
  refine awp_ret_ ?_
  obtain rfl := Option.some.inj h
  exact ret_ [(.bool l2_m6)] (p_one rfl (l_sc (by kernel_rfl)) p_nil)
def m_impl_areBelow_l1 : AC :=
  (.seq (rg [xo 10 (qb .lss (tm 9) (tm 8))])
  (.seq (.cond (tm 10)
    .skip
    (.exit 0))
  (.seq (.block 1 (.seq (rg [xo 11 (qx 1 (tm 7) (tm 9)), xo 12 (ql (tm 11)), xo 6 (qm (tm 12))])
  (.seq (rg [xo 13 (qm (tm 6)), xo 14 (qm (tm 1)), xo 15 (qb .sub (tm 14) (ci 1)), xo 16 (qc 89 [(tm 13), (ci 0), (tm 15)] [[], [], []]), xo 17 (.i (.not (tm 16)))])
  (.cond (tm 17)
    (.seq (rg [xo 4 (qm (cb false))])
    .ret)
    .skip))))
  (rg [xo 18 (qb .add (tm 9) (ci 1)), xo 9 (qm (tm 18))]))))
def m_impl_areBelow : AC :=
  (.seq (rg [xo 4 (qm (cb false))])
  (.seq (.seq (rg [xo 7 (qm (tm 0)), xo 8 (.i (.len (tm 7))), xo 9 (qm (ci 0))])
  (.block 0 (.loop m_impl_areBelow_l1)))
  (.seq (rg [xo 4 (qm (cb true))])
  .ret)))
def r_impl_areBelow : List Res := [.tmp 4]
theorem c_impl_areBelow : compiled Tryd.prog Tryd.f90 = some (m_impl_areBelow, r_impl_areBelow) := by kernel_rfl
theorem hb_impl_areBelow : hasBody Tryd.prog 90 = true := by kernel_rfl
def L_impl_areBelow_l1 (a0 : List Int) (a1 : Int) (l4_m9 : Nat) : Option (Ctl Nat (Ctl Unit Bool)) :=
  cond (decide (((l4_m9 : Nat) : Int) < ((a0.length : Nat) : Int)))
  (Option.bind (a0[l4_m9]?) fun x10 =>
  Option.bind (L_impl_within x10 0 (IntKind.i64.wrap (a1 - 1))) fun y12 =>
  cond (!y12)
    (some (Ctl.out (Ctl.out false)))
    (og (l4_m9 + 1 < 4611686018427387904) <|
    some (Ctl.next (l4_m9 + 1))))
  (some (Ctl.out (Ctl.next ())))
def L_impl_areBelow (a0 : List Int) (a1 : Int) : Option Bool :=
  seqC (loopM (fun s_ : Nat => L_impl_areBelow_l1 a0 a1 s_) 4611686018427387904 0) fun _ =>
some true
def rv_impl_areBelow (r : Bool) : RV := ⟨false, [(false, [.sc (.bool r)])]⟩
theorem ok_impl_areBelow {a0 : List Int} {a1 : Int} {r : Bool} (h : L_impl_areBelow a0 a1 = some r) : CallOK Tryd.prog Tab 90 [(.tree .int a0), (ai a1)] (rv_impl_areBelow r) := by
  refine call_of_ (by kernel_rfl) Tryd.func90 c_impl_areBelow (n := 19) (by kernel_rfl) (by simp) (tl := [(0, (.tree .int a0)), (1, (ai a1))]) rfl ?_
  unfold m_impl_areBelow
  unfold L_impl_areBelow at h
  refine seqR ?_
  refine awp_seqC h (fun (_ : Unit) S_ => S_ = ⟨mkTm [], mkOb (someL []), 2⟩) ?_ ?_
  · intro v_ h hk2
    refine seqR ?_
    refine awp_block_ ?_
    refine awp_loopL h (fun (l4_m9 : Nat) S_ => S_ = ⟨mkTm [(1, (ai a1)), (7, (.tree .int a0)), (8, (ai ((a0.length : Nat) : Int))), (9, (ai ((l4_m9 : Nat) : Int)))], mkOb (someL []), 2⟩) ⟨_, (weak_ren []), rfl⟩ ?_
    rintro n_ l4_m9 _ c_ rfl h hn4
    (try dsimp only at h)
    unfold L_impl_areBelow_l1 at h
    unfold m_impl_areBelow_l1
    refine seqR ?_
    refine awp_seqv_ ?_
    rcases cond_some h with ⟨q7, h⟩ | ⟨q7, h⟩
    · have q7_ := of_decide_eq_true q7
      refine awp_condT_ q7 ?_
      refine awp_skip_ (tn_ ?_)
      refine ⟨_, Weak.refl _, ?_⟩
      refine awp_seqv_ ?_
      refine awp_block_ ?_
      refine awp_seqv_ ?_
      obtain ⟨x10, e10, h⟩ := ob_some h
      refine awp_region_ 6 ?_
      refine rs0 (.telt .int x10 0) (s_idxT (t := .int) (xs := a0) (k := .i64) (m := ((l4_m9 : Nat) : Int)) (by kernel_rfl) (by kernel_rfl) rfl (nat_nn _) rfl e10) ?_
      refine rsB 2 ?_
      refine rnil (tn_ ?_)
      refine ⟨_, Weak.refl _, ?_⟩
      refine awp_seqv_ ?_
      obtain ⟨y12, h12, h⟩ := ob_some h
      refine awp_region_ 11 ?_
      refine rs0 (ai x10) (by kernel_rfl) ?_
      refine rs0 (ai a1) (by kernel_rfl) ?_
      refine rs0 (ai (IntKind.i64.wrap (a1 - 1))) (by kernel_rfl) ?_
      refine rcall (.bool y12) [] [(ai x10), (ai 0), (ai (IntKind.i64.wrap (a1 - 1)))] _ (caps := []) (args0 := [(ai x10), (ai 0), (ai (IntKind.i64.wrap (a1 - 1)))]) trivial (by kernel_rfl) (ok_impl_within h12) hb_impl_within ?_
      refine rsB 1 ?_
      refine rnil (tn_ ?_)
      refine ⟨_, Weak.refl _, ?_⟩
      rcases cond_some h with ⟨q13, h⟩ | ⟨q13, h⟩
      · refine awp_condT_ q13 ?_
        refine seqR ?_
        refine awp_ret_ (br_ (tr_ (tr_ (br_ (tr_ ?_)))))
        obtain rfl := Option.some.inj h
        have h := hn4
        (try dsimp only at h)
        obtain rfl := Option.some.inj h
        have h := hk2
        (try dsimp only at h)
        obtain rfl := Option.some.inj h
        exact ret_ [(.bool false)] (p_one rfl (l_sc (by kernel_rfl)) p_nil)
      refine awp_condF_ q13 ?_
      refine awp_skip_ (bn_ (tn_ ?_))
      refine ⟨_, Weak.refl _, ?_⟩
      obtain ⟨g15, h⟩ := og_some h
      refine awp_region_ 13 ?_
      refine rs0 (ai ((l4_m9 + 1 : Nat) : Int)) (s_add1 (j := l4_m9) (by kernel_rfl) (by kernel_rfl) g15) ?_
      refine rsB 1 ?_
      refine rnil (tn_ ?_)
      obtain rfl := Option.some.inj h
      exact ⟨l4_m9 + 1, _, (weak_ren []), rfl, hn4⟩
    have q7_ := of_decide_eq_false q7
    refine awp_condF_ q7 ?_
    refine awp_exit_ (te_ (te_ (be_ (tn_ ?_))))
    obtain rfl := Option.some.inj h
    have h := hn4
    (try dsimp only at h)
    obtain rfl := Option.some.inj h
    exact ⟨(), _, rfl, (weak_ren []), rfl⟩
  rintro _ _ rfl h
  (try dsimp only at h)
  refine seqR ?_
  refine awp_ret_ ?_
  obtain rfl := Option.some.inj h
  exact ret_ [(.bool true)] (p_one rfl (l_sc (by kernel_rfl)) p_nil)
def m_impl_Branch_isBranch : AC :=
  (.seq (rg [xo 3 (.i (.box 59 (tm 0))), xo 6 (qm (cb false))])
  (.seq (rg [xo 7 (qf 0 (tm 3)), xo 8 (ql (tm 7)), xo 9 (qm (tm 2)), xo 10 (qb .sub (tm 9) (ci 1)), xo 11 (qc 89 [(tm 8), (ci 0), (tm 10)] [[], [], []]), xo 12 (qm (tm 11)), ⟨(some 13), (some (12, true)), (qf 1 (tm 3))⟩, ⟨(some 14), (some (12, true)), (ql (tm 13))⟩, ⟨(some 15), (some (12, true)), (qm (tm 2))⟩, ⟨(some 16), (some (12, true)), (qb .sub (tm 15) (ci 1))⟩, ⟨(some 17), (some (12, true)), (qc 89 [(tm 14), (ci 0), (tm 16)] [[], [], []])⟩, xo 18 (.i (.pick (tm 12) (tm 17) (cb false))), xo 19 (qm (tm 18)), ⟨(some 20), (some (19, true)), (qf 0 (tm 3))⟩, ⟨(some 21), (some (19, true)), (ql (tm 20))⟩, ⟨(some 22), (some (19, true)), (qf 1 (tm 3))⟩, ⟨(some 23), (some (19, true)), (ql (tm 22))⟩, ⟨(some 24), (some (19, true)), (qb .neq (tm 21) (tm 23))⟩, xo 25 (.i (.pick (tm 19) (tm 24) (cb false))), xo 26 (qm (tm 25)), ⟨(some 27), (some (26, true)), (qf 2 (tm 3))⟩, ⟨(some 28), (some (26, true)), (ql (tm 27))⟩, ⟨(some 29), (some (26, true)), (qm (tm 1))⟩, ⟨(some 30), (some (26, true)), (qb .sub (tm 29) (ci 1))⟩, ⟨(some 31), (some (26, true)), (qc 89 [(tm 28), (ci 1), (tm 30)] [[], [], []])⟩, xo 32 (.i (.pick (tm 26) (tm 31) (cb false))), xo 6 (qm (tm 32))])
  .ret))
def r_impl_Branch_isBranch : List Res := [.tmp 6]
theorem c_impl_Branch_isBranch : compiled Tryd.prog Tryd.f93 = some (m_impl_Branch_isBranch, r_impl_Branch_isBranch) := by kernel_rfl
theorem hb_impl_Branch_isBranch : hasBody Tryd.prog 93 = true := by kernel_rfl
def L_impl_Branch_isBranch (a0_0 : Int) (a0_1 : Int) (a0_2 : Int) (a1 : Int) (a2 : Int) : Option Bool :=
  Option.bind (Option.bind (L_impl_within a0_0 0 (IntKind.i64.wrap (a2 - 1))) fun y3 =>
  cond y3
    (Option.bind (L_impl_within a0_1 0 (IntKind.i64.wrap (a2 - 1))) fun y5 =>
    cond y5
      (cond (a0_0 != a0_1)
        (Option.bind (L_impl_within a0_2 1 (IntKind.i64.wrap (a1 - 1))) fun y8 =>
        some y8)
        (some false))
      (some false))
    (some false)) fun l2_m6 =>
some l2_m6
def rv_impl_Branch_isBranch (r : Bool) : RV := ⟨false, [(false, [.sc (.bool r)])]⟩
theorem ok_impl_Branch_isBranch {a0_0 : Int} {a0_1 : Int} {a0_2 : Int} {a1 : Int} {a2 : Int} {r : Bool} (h : L_impl_Branch_isBranch a0_0 a0_1 a0_2 a1 a2 = some r) : CallOK Tryd.prog Tab 93 [(.agg [(ai a0_0), (ai a0_1), (ai a0_2)]), (ai a1), (ai a2)] (rv_impl_Branch_isBranch r) := by
  refine call_of_ (by kernel_rfl) Tryd.func93 c_impl_Branch_isBranch (n := 33) (by kernel_rfl) (by simp) (tl := [(0, (.agg [(ai a0_0), (ai a0_1), (ai a0_2)])), (1, (ai a1)), (2, (ai a2))]) rfl ?_
  unfold m_impl_Branch_isBranch
  unfold L_impl_Branch_isBranch at h
  refine seqR ?_
  refine awp_seqB h (fun (l2_m6 : Bool) S_ => S_ = ⟨mkTm [(6, (.bool l2_m6))], mkOb (someL []), 2⟩) ?_ ?_
  · intro v_ h
    obtain ⟨y3, h3, h⟩ := ob_some h
    rcases cond_some h with ⟨q4, h⟩ | ⟨q4, h⟩
    · obtain ⟨y5, h5, h⟩ := ob_some h
      rcases cond_some h with ⟨q6, h⟩ | ⟨q6, h⟩
      · rcases cond_some h with ⟨q7, h⟩ | ⟨q7, h⟩
        · obtain ⟨y8, h8, h⟩ := ob_some h
          refine awp_region_ 30 ?_
          refine rs0 (.box (oi 3 1) 0) (by kernel_rfl) ?_
          refine rsl (ai a0_0) (by kernel_rfl) ?_
          refine rs0 (ai a2) (by kernel_rfl) ?_
          refine rs0 (ai (IntKind.i64.wrap (a2 - 1))) (by kernel_rfl) ?_
          refine rcall (.bool y3) [] [(ai a0_0), (ai 0), (ai (IntKind.i64.wrap (a2 - 1)))] _ (caps := []) (args0 := [(ai a0_0), (ai 0), (ai (IntKind.i64.wrap (a2 - 1)))]) trivial (by kernel_rfl) (ok_impl_within h3) hb_impl_within ?_
          refine rs0 (.bool y3) (by kernel_rfl) ?_
          refine rs0 (.box (oi 3 1) 1) (s_gd (by kernel_rfl) q4 (by kernel_rfl)) ?_
          refine rsl (ai a0_1) (s_gd (by kernel_rfl) q4 (by kernel_rfl)) ?_
          refine rs0 (ai a2) (s_gd (by kernel_rfl) q4 (by kernel_rfl)) ?_
          refine rs0 (ai (IntKind.i64.wrap (a2 - 1))) (s_gd (by kernel_rfl) q4 (by kernel_rfl)) ?_
          refine rcall (.bool y5) [] [(ai a0_1), (ai 0), (ai (IntKind.i64.wrap (a2 - 1)))] _ (caps := []) (args0 := [(ai a0_1), (ai 0), (ai (IntKind.i64.wrap (a2 - 1)))]) (gdOK_b (by kernel_rfl) q4) (by kernel_rfl) (ok_impl_within h5) hb_impl_within ?_
          refine rs0 (.bool y5) (s_pickT (by kernel_rfl) q4) ?_
          refine rs0 (.bool y5) (by kernel_rfl) ?_
          refine rs0 (.box (oi 3 1) 0) (s_gd (by kernel_rfl) q6 (by kernel_rfl)) ?_
          refine rsl (ai a0_0) (s_gd (by kernel_rfl) q6 (by kernel_rfl)) ?_
          refine rs0 (.box (oi 3 1) 1) (s_gd (by kernel_rfl) q6 (by kernel_rfl)) ?_
          refine rsl (ai a0_1) (s_gd (by kernel_rfl) q6 (by kernel_rfl)) ?_
          refine rs0 (.bool (a0_0 != a0_1)) (s_gd (by kernel_rfl) q6 (by kernel_rfl)) ?_
          refine rs0 (.bool (a0_0 != a0_1)) (s_pickT (by kernel_rfl) q6) ?_
          refine rs0 (.bool (a0_0 != a0_1)) (by kernel_rfl) ?_
          refine rs0 (.box (oi 3 1) 2) (s_gd (by kernel_rfl) q7 (by kernel_rfl)) ?_
          refine rsl (ai a0_2) (s_gd (by kernel_rfl) q7 (by kernel_rfl)) ?_
          refine rs0 (ai a1) (s_gd (by kernel_rfl) q7 (by kernel_rfl)) ?_
          refine rs0 (ai (IntKind.i64.wrap (a1 - 1))) (s_gd (by kernel_rfl) q7 (by kernel_rfl)) ?_
          refine rcall (.bool y8) [] [(ai a0_2), (ai 1), (ai (IntKind.i64.wrap (a1 - 1)))] _ (caps := []) (args0 := [(ai a0_2), (ai 1), (ai (IntKind.i64.wrap (a1 - 1)))]) (gdOK_b (by kernel_rfl) q7) (by kernel_rfl) (ok_impl_within h8) hb_impl_within ?_
          refine rs0 (.bool y8) (s_pickT (by kernel_rfl) q7) ?_
          refine rsB 1 ?_
          refine rnil (tn_ ?_)
          obtain rfl := Option.some.inj h
          exact ⟨_, (weak_ren []), rfl⟩
        refine awp_region_ 30 ?_
        refine rs0 (.box (oi 3 1) 0) (by kernel_rfl) ?_
        refine rsl (ai a0_0) (by kernel_rfl) ?_
        refine rs0 (ai a2) (by kernel_rfl) ?_
        refine rs0 (ai (IntKind.i64.wrap (a2 - 1))) (by kernel_rfl) ?_
        refine rcall (.bool y3) [] [(ai a0_0), (ai 0), (ai (IntKind.i64.wrap (a2 - 1)))] _ (caps := []) (args0 := [(ai a0_0), (ai 0), (ai (IntKind.i64.wrap (a2 - 1)))]) trivial (by kernel_rfl) (ok_impl_within h3) hb_impl_within ?_
        refine rs0 (.bool y3) (by kernel_rfl) ?_
        refine rs0 (.box (oi 3 1) 1) (s_gd (by kernel_rfl) q4 (by kernel_rfl)) ?_
        refine rsl (ai a0_1) (s_gd (by kernel_rfl) q4 (by kernel_rfl)) ?_
        refine rs0 (ai a2) (s_gd (by kernel_rfl) q4 (by kernel_rfl)) ?_
        refine rs0 (ai (IntKind.i64.wrap (a2 - 1))) (s_gd (by kernel_rfl) q4 (by kernel_rfl)) ?_
        refine rcall (.bool y5) [] [(ai a0_1), (ai 0), (ai (IntKind.i64.wrap (a2 - 1)))] _ (caps := []) (args0 := [(ai a0_1), (ai 0), (ai (IntKind.i64.wrap (a2 - 1)))]) (gdOK_b (by kernel_rfl) q4) (by kernel_rfl) (ok_impl_within h5) hb_impl_within ?_
        refine rs0 (.bool y5) (s_pickT (by kernel_rfl) q4) ?_
        refine rs0 (.bool y5) (by kernel_rfl) ?_
        refine rs0 (.box (oi 3 1) 0) (s_gd (by kernel_rfl) q6 (by kernel_rfl)) ?_
        refine rsl (ai a0_0) (s_gd (by kernel_rfl) q6 (by kernel_rfl)) ?_
        refine rs0 (.box (oi 3 1) 1) (s_gd (by kernel_rfl) q6 (by kernel_rfl)) ?_
        refine rsl (ai a0_1) (s_gd (by kernel_rfl) q6 (by kernel_rfl)) ?_
        refine rs0 (.bool (a0_0 != a0_1)) (s_gd (by kernel_rfl) q6 (by kernel_rfl)) ?_
        refine rs0 (.bool (a0_0 != a0_1)) (s_pickT (by kernel_rfl) q6) ?_
        refine rs0 (.bool (a0_0 != a0_1)) (by kernel_rfl) ?_
        refine rs0 (.tup []) (s_skip (by kernel_rfl) q7) ?_
        refine rs0 (.tup []) (s_skip (by kernel_rfl) q7) ?_
        refine rs0 (.tup []) (s_skip (by kernel_rfl) q7) ?_
        refine rs0 (.tup []) (s_skip (by kernel_rfl) q7) ?_
        refine rs0 (.tup []) (s_skip (by kernel_rfl) q7) ?_
        refine rs0 (.bool false) (s_pickF (by kernel_rfl) q7) ?_
        refine rsB 1 ?_
        refine rnil (tn_ ?_)
        obtain rfl := Option.some.inj h
        exact ⟨_, (weak_ren []), rfl⟩
      refine awp_region_ 30 ?_
      refine rs0 (.box (oi 3 1) 0) (by kernel_rfl) ?_
      refine rsl (ai a0_0) (by kernel_rfl) ?_
      refine rs0 (ai a2) (by kernel_rfl) ?_
      refine rs0 (ai (IntKind.i64.wrap (a2 - 1))) (by kernel_rfl) ?_
      refine rcall (.bool y3) [] [(ai a0_0), (ai 0), (ai (IntKind.i64.wrap (a2 - 1)))] _ (caps := []) (args0 := [(ai a0_0), (ai 0), (ai (IntKind.i64.wrap (a2 - 1)))]) trivial (by kernel_rfl) (ok_impl_within h3) hb_impl_within ?_
      refine rs0 (.bool y3) (by kernel_rfl) ?_
      refine rs0 (.box (oi 3 1) 1) (s_gd (by kernel_rfl) q4 (by kernel_rfl)) ?_
      refine rsl (ai a0_1) (s_gd (by kernel_rfl) q4 (by kernel_rfl)) ?_
      refine rs0 (ai a2) (s_gd (by kernel_rfl) q4 (by kernel_rfl)) ?_
      refine rs0 (ai (IntKind.i64.wrap (a2 - 1))) (s_gd (by kernel_rfl) q4 (by kernel_rfl)) ?_
      refine rcall (.bool y5) [] [(ai a0_1), (ai 0), (ai (IntKind.i64.wrap (a2 - 1)))] _ (caps := []) (args0 := [(ai a0_1), (ai 0), (ai (IntKind.i64.wrap (a2 - 1)))]) (gdOK_b (by kernel_rfl) q4) (by kernel_rfl) (ok_impl_within h5) hb_impl_within ?_
      refine rs0 (.bool y5) (s_pickT (by kernel_rfl) q4) ?_
      refine rs0 (.bool y5) (by kernel_rfl) ?_
      refine rs0 (.tup []) (s_skip (by kernel_rfl) q6) ?_
      refine rs0 (.tup []) (s_skip (by kernel_rfl) q6) ?_
      refine rs0 (.tup []) (s_skip (by kernel_rfl) q6) ?_
      refine rs0 (.tup []) (s_skip (by kernel_rfl) q6) ?_
      refine rs0 (.tup []) (s_skip (by kernel_rfl) q6) ?_
      refine rs0 (.bool false) (s_pickF (by kernel_rfl) q6) ?_
      refine rsB 8 ?_
      refine rnil (tn_ ?_)
      obtain rfl := Option.some.inj h
      exact ⟨_, (weak_ren []), rfl⟩
    refine awp_region_ 30 ?_
    refine rs0 (.box (oi 3 1) 0) (by kernel_rfl) ?_
    refine rsl (ai a0_0) (by kernel_rfl) ?_
    refine rs0 (ai a2) (by kernel_rfl) ?_
    refine rs0 (ai (IntKind.i64.wrap (a2 - 1))) (by kernel_rfl) ?_
    refine rcall (.bool y3) [] [(ai a0_0), (ai 0), (ai (IntKind.i64.wrap (a2 - 1)))] _ (caps := []) (args0 := [(ai a0_0), (ai 0), (ai (IntKind.i64.wrap (a2 - 1)))]) trivial (by kernel_rfl) (ok_impl_within h3) hb_impl_within ?_
    refine rs0 (.bool y3) (by kernel_rfl) ?_
    refine rs0 (.tup []) (s_skip (by kernel_rfl) q4) ?_
    refine rs0 (.tup []) (s_skip (by kernel_rfl) q4) ?_
    refine rs0 (.tup []) (s_skip (by kernel_rfl) q4) ?_
    refine rs0 (.tup []) (s_skip (by kernel_rfl) q4) ?_
    refine rs0 (.tup []) (s_skip (by kernel_rfl) q4) ?_
    refine rs0 (.bool false) (s_pickF (by kernel_rfl) q4) ?_
    refine rsB 15 ?_
    refine rnil (tn_ ?_)
    obtain rfl := Option.some.inj h
    exact ⟨_, (weak_ren []), rfl⟩
  rintro l2_m6 _ rfl h
  (try dsimp only at h)
  refine awp_ret_ ?_
  obtain rfl := Option.some.inj h
  exact ret_ [(.bool l2_m6)] (p_one rfl (l_sc (by kernel_rfl)) p_nil)
def m_impl_isNetwork_1 : AC :=
  (.seq (rg [xo 3 (.i (.box 59 (tm 0))), xo 4 (qm (cb false))])
  (.seq (rg [xo 5 (.i (.ld false 3 (tm 3))), xo 6 (ql (tm 1)), xo 7 (qf 0 (tm 2)), xo 8 (ql (tm 7)), xo 9 (qc 93 [(tm 5), (tm 6), (tm 8)] [[none, none, none], [], []]), xo 10 (.i (.not (tm 9))), xo 4 (qm (tm 10))])
  .ret))
def r_impl_isNetwork_1 : List Res := [.tmp 4]
theorem c_impl_isNetwork_1 : compiled Tryd.prog Tryd.f92 = some (m_impl_isNetwork_1, r_impl_isNetwork_1) := by kernel_rfl
theorem hb_impl_isNetwork_1 : hasBody Tryd.prog 92 = true := by kernel_rfl
def L_impl_isNetwork_1 (a0_0 : Int) (a0_1 : Int) (a0_2 : Int) (c0_0 : Int) (c1_0 : Int) (c1_1 : List (Int × Int × Int)) (c1_2 : List Int) (c1_3 : List Int) : Option Bool :=
  Option.bind (L_impl_Branch_isBranch a0_0 a0_1 a0_2 c0_0 c1_0) fun y3 =>
some (!y3)
def rv_impl_isNetwork_1 (r : Bool) : RV := ⟨false, [(false, [.sc (.bool r)])]⟩
theorem ok_impl_isNetwork_1 {a0_0 : Int} {a0_1 : Int} {a0_2 : Int} {c0_0 : Int} {c1_0 : Int} {c1_1 : List (Int × Int × Int)} {c1_2 : List Int} {c1_3 : List Int} {r : Bool} (h : L_impl_isNetwork_1 a0_0 a0_1 a0_2 c0_0 c1_0 c1_1 c1_2 c1_3 = some r) : CallOK Tryd.prog Tab 92 [(.agg [(ai a0_0), (ai a0_1), (ai a0_2)]), (.ref [(ai c0_0)]), (.ref [(ai c1_0), (.tree (.pair .int (.pair .int .int)) c1_1), (.tree .int c1_2), (.tree .int c1_3)])] (rv_impl_isNetwork_1 r) := by
  refine call_of_ (by kernel_rfl) Tryd.func92 c_impl_isNetwork_1 (n := 11) (by kernel_rfl) (by simp) (tl := [(0, (.agg [(ai a0_0), (ai a0_1), (ai a0_2)])), (1, (.ref [(ai c0_0)])), (2, (.ref [(ai c1_0), (.tree (.pair .int (.pair .int .int)) c1_1), (.tree .int c1_2), (.tree .int c1_3)]))]) rfl ?_
  unfold m_impl_isNetwork_1
  unfold L_impl_isNetwork_1 at h
  refine seqR ?_
  refine awp_seqv_ ?_
  obtain ⟨y3, h3, h⟩ := ob_some h
  refine awp_region_ 10 ?_
  refine rsl (.agg [(ai a0_0), (ai a0_1), (ai a0_2)]) (by kernel_rfl) ?_
  refine rs0 (ai c0_0) (by kernel_rfl) ?_
  refine rs0 (.ref [(ai c1_0), (.tree (.pair .int (.pair .int .int)) c1_1), (.tree .int c1_2), (.tree .int c1_3)]) (by kernel_rfl) ?_
  refine rs0 (ai c1_0) (by kernel_rfl) ?_
  refine rcall (.bool y3) [] [(.agg [(ai a0_0), (ai a0_1), (ai a0_2)]), (ai c0_0), (ai c1_0)] _ (caps := []) (args0 := [(.agg [(ai a0_0), (ai a0_1), (ai a0_2)]), (ai c0_0), (ai c1_0)]) trivial (by kernel_rfl) (ok_impl_Branch_isBranch h3) hb_impl_Branch_isBranch ?_
  refine rsB 2 ?_
  refine rnil (tn_ ?_)
  refine ⟨_, Weak.refl _, ?_⟩
  refine awp_ret_ ?_
  obtain rfl := Option.some.inj h
  exact ret_ [(.bool (!y3))] (p_one rfl (l_sc (by kernel_rfl)) p_nil)
def m_slices_IndexFunc_impl_Branch_impl_Branch_l1 : AC :=
  (.seq (rg [xo 9 (qb .lss (tm 8) (tm 7))])
  (.seq (.cond (tm 9)
    .skip
    (.exit 0))
  (.seq (.block 1 (.seq (rg [xo 10 (qm (tm 8)), xo 5 (qm (tm 10))])
  (.seq (rg [xo 11 (qm (tm 1)), xo 12 (qm (tm 0)), xo 13 (qm (tm 5)), xo 14 (qx 3 (tm 12) (tm 13)), xo 15 (.i (.ld false 3 (tm 14))), xo 16 (.call (tm 11) [(tm 15)] [[none, none, none]])])
  (.cond (tm 16)
    (.seq (rg [xo 17 (qm (tm 5)), xo 4 (qm (tm 17))])
    .ret)
    .skip))))
  (rg [xo 18 (qb .add (tm 8) (ci 1)), xo 8 (qm (tm 18))]))))
def m_slices_IndexFunc_impl_Branch_impl_Branch : AC :=
  (.seq (rg [xo 4 (qm (ci 0))])
  (.seq (.seq (rg [xo 6 (qm (tm 0)), xo 7 (.i (.len (tm 6))), xo 8 (qm (ci 0))])
  (.block 0 (.loop m_slices_IndexFunc_impl_Branch_impl_Branch_l1)))
  (.seq (rg [xo 4 (qm (ci (-1)))])
  .ret)))
def r_slices_IndexFunc_impl_Branch_impl_Branch : List Res := [.tmp 4]
theorem c_slices_IndexFunc_impl_Branch_impl_Branch : compiled Tryd.prog Tryd.f110 = some (m_slices_IndexFunc_impl_Branch_impl_Branch, r_slices_IndexFunc_impl_Branch_impl_Branch) := by kernel_rfl
theorem hb_slices_IndexFunc_impl_Branch_impl_Branch : hasBody Tryd.prog 110 = true := by kernel_rfl
def L_slices_IndexFunc_impl_Branch_impl_Branch_for_impl_isNetwork_1_l1 (a0 : List (Int × Int × Int)) (a1_0_0 : Int) (a1_1_0 : Int) (a1_1_1 : List (Int × Int × Int)) (a1_1_2 : List Int) (a1_1_3 : List Int) (l4_m8 : Nat) : Option (Ctl Nat (Ctl Unit Int)) :=
  cond (decide (((l4_m8 : Nat) : Int) < ((a0.length : Nat) : Int)))
  (Option.bind (a0[l4_m8]?) fun x11 =>
  Option.bind (L_impl_isNetwork_1 x11.1 x11.2.1 x11.2.2 a1_0_0 a1_1_0 a1_1_1 a1_1_2 a1_1_3) fun y12 =>
  cond y12
    (some (Ctl.out (Ctl.out ((l4_m8 : Nat) : Int))))
    (og (l4_m8 + 1 < 4611686018427387904) <|
    some (Ctl.next (l4_m8 + 1))))
  (some (Ctl.out (Ctl.next ())))
def L_slices_IndexFunc_impl_Branch_impl_Branch_for_impl_isNetwork_1 (a0 : List (Int × Int × Int)) (a1_0_0 : Int) (a1_1_0 : Int) (a1_1_1 : List (Int × Int × Int)) (a1_1_2 : List Int) (a1_1_3 : List Int) : Option Int :=
  seqC (loopM (fun s_ : Nat => L_slices_IndexFunc_impl_Branch_impl_Branch_for_impl_isNetwork_1_l1 a0 a1_0_0 a1_1_0 a1_1_1 a1_1_2 a1_1_3 s_) 4611686018427387904 0) fun _ =>
some (-1)
def rv_slices_IndexFunc_impl_Branch_impl_Branch_for_impl_isNetwork_1 (r : Int) : RV := ⟨false, [(false, [.sc (.int .i64 r)])]⟩
theorem ok_slices_IndexFunc_impl_Branch_impl_Branch_for_impl_isNetwork_1 {a0 : List (Int × Int × Int)} {a1_0_0 : Int} {a1_1_0 : Int} {a1_1_1 : List (Int × Int × Int)} {a1_1_2 : List Int} {a1_1_3 : List Int} {r : Int} (h : L_slices_IndexFunc_impl_Branch_impl_Branch_for_impl_isNetwork_1 a0 a1_0_0 a1_1_0 a1_1_1 a1_1_2 a1_1_3 = some r) : CallOK Tryd.prog Tab 110 [(.tree (.pair .int (.pair .int .int)) a0), (.fn 92 [(.ref [(ai a1_0_0)]), (.ref [(ai a1_1_0), (.tree (.pair .int (.pair .int .int)) a1_1_1), (.tree .int a1_1_2), (.tree .int a1_1_3)])])] (rv_slices_IndexFunc_impl_Branch_impl_Branch_for_impl_isNetwork_1 r) := by
  refine call_of_ (by kernel_rfl) Tryd.func110 c_slices_IndexFunc_impl_Branch_impl_Branch (n := 19) (by kernel_rfl) (by simp) (tl := [(0, (.tree (.pair .int (.pair .int .int)) a0)), (1, (.fn 92 [(.ref [(ai a1_0_0)]), (.ref [(ai a1_1_0), (.tree (.pair .int (.pair .int .int)) a1_1_1), (.tree .int a1_1_2), (.tree .int a1_1_3)])]))]) rfl ?_
  unfold m_slices_IndexFunc_impl_Branch_impl_Branch
  unfold L_slices_IndexFunc_impl_Branch_impl_Branch_for_impl_isNetwork_1 at h
  refine seqR ?_
  refine awp_seqC h (fun (_ : Unit) S_ => S_ = ⟨mkTm [], mkOb (someL []), 2⟩) ?_ ?_
  · intro v_ h hk2
    refine seqR ?_
    refine awp_block_ ?_
    refine awp_loopL h (fun (l4_m8 : Nat) S_ => S_ = ⟨mkTm [(0, (.tree (.pair .int (.pair .int .int)) a0)), (1, (.fn 92 [(.ref [(ai a1_0_0)]), (.ref [(ai a1_1_0), (.tree (.pair .int (.pair .int .int)) a1_1_1), (.tree .int a1_1_2), (.tree .int a1_1_3)])])), (7, (ai ((a0.length : Nat) : Int))), (8, (ai ((l4_m8 : Nat) : Int)))], mkOb (someL []), 2⟩) ⟨_, (weak_ren []), rfl⟩ ?_
    rintro n_ l4_m8 _ c_ rfl h hn4
    (try dsimp only at h)
    unfold L_slices_IndexFunc_impl_Branch_impl_Branch_for_impl_isNetwork_1_l1 at h
    unfold m_slices_IndexFunc_impl_Branch_impl_Branch_l1
    refine seqR ?_
    refine awp_seqv_ ?_
    rcases cond_some h with ⟨q7, h⟩ | ⟨q7, h⟩
    · have q7_ := of_decide_eq_true q7
      refine awp_condT_ q7 ?_
      refine awp_skip_ (tn_ ?_)
      refine ⟨_, Weak.refl _, ?_⟩
      refine awp_seqv_ ?_
      refine awp_block_ ?_
      refine seqR ?_
      refine awp_seqv_ ?_
      obtain ⟨x11, e11, h⟩ := ob_some h
      obtain ⟨y12, h12, h⟩ := ob_some h
      refine awp_region_ 11 ?_
      refine rs0 (.fn 92 [(.ref [(ai a1_0_0)]), (.ref [(ai a1_1_0), (.tree (.pair .int (.pair .int .int)) a1_1_1), (.tree .int a1_1_2), (.tree .int a1_1_3)])]) (by kernel_rfl) ?_
      refine rs0 (.tree (.pair .int (.pair .int .int)) a0) (by kernel_rfl) ?_
      refine rs0 (ai ((l4_m8 : Nat) : Int)) (by kernel_rfl) ?_
      refine rs0 (.telt (.pair .int (.pair .int .int)) x11 0) (s_idxT (t := (.pair .int (.pair .int .int))) (xs := a0) (k := .i64) (m := ((l4_m8 : Nat) : Int)) (by kernel_rfl) (by kernel_rfl) rfl (nat_nn _) rfl e11) ?_
      refine rs0 (.agg [(ai x11.1), (ai x11.2.1), (ai x11.2.2)]) (by kernel_rfl) ?_
      refine rcall (.bool y12) [] [(.agg [(ai x11.1), (ai x11.2.1), (ai x11.2.2)]), (.ref [(ai a1_0_0)]), (.ref [(ai a1_1_0), (.tree (.pair .int (.pair .int .int)) a1_1_1), (.tree .int a1_1_2), (.tree .int a1_1_3)])] _ (caps := [(.ref [(ai a1_0_0)]), (.ref [(ai a1_1_0), (.tree (.pair .int (.pair .int .int)) a1_1_1), (.tree .int a1_1_2), (.tree .int a1_1_3)])]) (args0 := [(.agg [(ai x11.1), (ai x11.2.1), (ai x11.2.2)]), (.ref [(ai a1_0_0)]), (.ref [(ai a1_1_0), (.tree (.pair .int (.pair .int .int)) a1_1_1), (.tree .int a1_1_2), (.tree .int a1_1_3)])]) trivial (by kernel_rfl) (ok_impl_isNetwork_1 h12) hb_impl_isNetwork_1 ?_
      refine rnil (tn_ ?_)
      refine ⟨_, Weak.refl _, ?_⟩
      rcases cond_some h with ⟨q13, h⟩ | ⟨q13, h⟩
      · refine awp_condT_ q13 ?_
        refine seqR ?_
        refine awp_ret_ (br_ (tr_ (tr_ (br_ (tr_ ?_)))))
        obtain rfl := Option.some.inj h
        have h := hn4
        (try dsimp only at h)
        obtain rfl := Option.some.inj h
        have h := hk2
        (try dsimp only at h)
        obtain rfl := Option.some.inj h
        exact ret_ [(ai ((l4_m8 : Nat) : Int))] (p_one rfl (l_sc (by kernel_rfl)) p_nil)
      refine awp_condF_ q13 ?_
      refine awp_skip_ (bn_ (tn_ ?_))
      refine ⟨_, Weak.refl _, ?_⟩
      obtain ⟨g15, h⟩ := og_some h
      refine awp_region_ 13 ?_
      refine rs0 (ai ((l4_m8 + 1 : Nat) : Int)) (s_add1 (j := l4_m8) (by kernel_rfl) (by kernel_rfl) g15) ?_
      refine rsB 1 ?_
      refine rnil (tn_ ?_)
      obtain rfl := Option.some.inj h
      exact ⟨l4_m8 + 1, _, (weak_ren []), rfl, hn4⟩
    have q7_ := of_decide_eq_false q7
    refine awp_condF_ q7 ?_
    refine awp_exit_ (te_ (te_ (be_ (tn_ ?_))))
    obtain rfl := Option.some.inj h
    have h := hn4
    (try dsimp only at h)
    obtain rfl := Option.some.inj h
    exact ⟨(), _, rfl, (weak_ren []), rfl⟩
  rintro _ _ rfl h
  (try dsimp only at h)
  refine seqR ?_
  refine awp_ret_ ?_
  obtain rfl := Option.some.inj h
  exact ret_ [(ai (-1))] (p_one rfl (l_sc (by kernel_rfl)) p_nil)
def m_slices_ContainsFunc_impl_Branch_impl_Branch : AC :=
  (.seq (rg [xo 4 (qm (cb false))])
  (.seq (rg [xo 5 (qm (tm 0)), xo 6 (qm (tm 1)), ⟨(some 7), none, (qc 110 [(tm 5), (tm 6)] [[(some (.pair .int (.pair .int .int)))], []])⟩, xo 8 (qb .geq (tm 7) (ci 0)), xo 4 (qm (tm 8))])
  .ret))
def r_slices_ContainsFunc_impl_Branch_impl_Branch : List Res := [.tmp 4]
theorem c_slices_ContainsFunc_impl_Branch_impl_Branch : compiled Tryd.prog Tryd.f91 = some (m_slices_ContainsFunc_impl_Branch_impl_Branch, r_slices_ContainsFunc_impl_Branch_impl_Branch) := by kernel_rfl
theorem hb_slices_ContainsFunc_impl_Branch_impl_Branch : hasBody Tryd.prog 91 = true := by kernel_rfl
def L_slices_ContainsFunc_impl_Branch_impl_Branch_for_impl_isNetwork_1 (a0 : List (Int × Int × Int)) (a1_0_0 : Int) (a1_1_0 : Int) (a1_1_1 : List (Int × Int × Int)) (a1_1_2 : List Int) (a1_1_3 : List Int) : Option Bool :=
  Option.bind (L_slices_IndexFunc_impl_Branch_impl_Branch_for_impl_isNetwork_1 a0 a1_0_0 a1_1_0 a1_1_1 a1_1_2 a1_1_3) fun y3 =>
some (decide (0 ≤ y3))
def rv_slices_ContainsFunc_impl_Branch_impl_Branch_for_impl_isNetwork_1 (r : Bool) : RV := ⟨false, [(false, [.sc (.bool r)])]⟩
theorem ok_slices_ContainsFunc_impl_Branch_impl_Branch_for_impl_isNetwork_1 {a0 : List (Int × Int × Int)} {a1_0_0 : Int} {a1_1_0 : Int} {a1_1_1 : List (Int × Int × Int)} {a1_1_2 : List Int} {a1_1_3 : List Int} {r : Bool} (h : L_slices_ContainsFunc_impl_Branch_impl_Branch_for_impl_isNetwork_1 a0 a1_0_0 a1_1_0 a1_1_1 a1_1_2 a1_1_3 = some r) : CallOK Tryd.prog Tab 91 [(.tree (.pair .int (.pair .int .int)) a0), (.fn 92 [(.ref [(ai a1_0_0)]), (.ref [(ai a1_1_0), (.tree (.pair .int (.pair .int .int)) a1_1_1), (.tree .int a1_1_2), (.tree .int a1_1_3)])])] (rv_slices_ContainsFunc_impl_Branch_impl_Branch_for_impl_isNetwork_1 r) := by
  refine call_of_ (by kernel_rfl) Tryd.func91 c_slices_ContainsFunc_impl_Branch_impl_Branch (n := 9) (by kernel_rfl) (by simp) (tl := [(0, (.tree (.pair .int (.pair .int .int)) a0)), (1, (.fn 92 [(.ref [(ai a1_0_0)]), (.ref [(ai a1_1_0), (.tree (.pair .int (.pair .int .int)) a1_1_1), (.tree .int a1_1_2), (.tree .int a1_1_3)])]))]) rfl ?_
  unfold m_slices_ContainsFunc_impl_Branch_impl_Branch
  unfold L_slices_ContainsFunc_impl_Branch_impl_Branch_for_impl_isNetwork_1 at h
  refine seqR ?_
  refine awp_seqv_ ?_
  obtain ⟨y3, h3, h⟩ := ob_some h
  refine awp_region_ 7 ?_
  refine rs0 (.tree (.pair .int (.pair .int .int)) a0) (by kernel_rfl) ?_
  refine rs0 (.fn 92 [(.ref [(ai a1_0_0)]), (.ref [(ai a1_1_0), (.tree (.pair .int (.pair .int .int)) a1_1_1), (.tree .int a1_1_2), (.tree .int a1_1_3)])]) (by kernel_rfl) ?_
  refine rcall (ai y3) [] [(.tree (.pair .int (.pair .int .int)) a0), (.fn 92 [(.ref [(ai a1_0_0)]), (.ref [(ai a1_1_0), (.tree (.pair .int (.pair .int .int)) a1_1_1), (.tree .int a1_1_2), (.tree .int a1_1_3)])])] _ (caps := []) (args0 := [(.tree (.pair .int (.pair .int .int)) a0), (.fn 92 [(.ref [(ai a1_0_0)]), (.ref [(ai a1_1_0), (.tree (.pair .int (.pair .int .int)) a1_1_1), (.tree .int a1_1_2), (.tree .int a1_1_3)])])]) trivial (by kernel_rfl) (ok_slices_IndexFunc_impl_Branch_impl_Branch_for_impl_isNetwork_1 h3) hb_slices_IndexFunc_impl_Branch_impl_Branch ?_
  refine rsB 2 ?_
  refine rnil (tn_ ?_)
  refine ⟨_, Weak.refl _, ?_⟩
  refine awp_ret_ ?_
  obtain rfl := Option.some.inj h
  exact ret_ [(.bool (decide (0 ≤ y3)))] (p_one rfl (l_sc (by kernel_rfl)) p_nil)
def m_impl_isNetwork : AC :=
  (.seq (rg [xo 2 (.i (.box 3 (tm 0))), xo 3 (.i (.box 30 (tm 1))), xo 4 (qm (cb false))])
  (.seq (.seq (rg [xo 5 (ql (tm 2)), xo 6 (qc 88 [(tm 5)] [[]]), xo 7 (.i (.not (tm 6))), xo 8 (qm (tm 7)), ⟨(some 9), (some (8, false)), (qf 0 (tm 3))⟩, ⟨(some 10), (some (8, false)), (ql (tm 9))⟩, ⟨(some 11), (some (8, false)), (qc 89 [(tm 10), (ci 1), (ci 20)] [[], [], []])⟩, ⟨(some 12), (some (8, false)), (.i (.not (tm 11)))⟩, xo 13 (.i (.pick (tm 8) (cb true) (tm 12))), xo 14 (qm (tm 13)), ⟨(some 15), (some (14, false)), (qf 1 (tm 3))⟩, ⟨(some 16), (some (14, false)), (ql (tm 15))⟩, ⟨(some 17), (some (14, false)), (.i (.len (tm 16)))⟩, ⟨(some 18), (some (14, false)), (qb .gtr (tm 17) (ci 60))⟩, xo 19 (.i (.pick (tm 14) (cb true) (tm 18))), xo 20 (qm (tm 19)), ⟨(some 21), (some (20, false)), (qf 2 (tm 3))⟩, ⟨(some 22), (some (20, false)), (ql (tm 21))⟩, ⟨(some 23), (some (20, false)), (.i (.len (tm 22)))⟩, ⟨(some 24), (some (20, false)), (qb .gtr (tm 23) (ci 6))⟩, xo 25 (.i (.pick (tm 20) (cb true) (tm 24))), xo 26 (qm (tm 25)), ⟨(some 27), (some (26, false)), (qf 3 (tm 3))⟩, ⟨(some 28), (some (26, false)), (ql (tm 27))⟩, ⟨(some 29), (some (26, false)), (.i (.len (tm 28)))⟩, ⟨(some 30), (some (26, false)), (qb .gtr (tm 29) (ci 6))⟩, xo 31 (.i (.pick (tm 26) (cb true) (tm 30)))])
  (.cond (tm 31)
    (.seq (rg [xo 4 (qm (cb false))])
    .ret)
    .skip))
  (.seq (.seq (rg [xo 32 (qf 2 (tm 3)), xo 33 (ql (tm 32)), xo 34 (qf 0 (tm 3)), xo 35 (ql (tm 34)), xo 36 (qc 90 [(tm 33), (tm 35)] [[(some .int)], []]), xo 37 (.i (.not (tm 36))), xo 38 (qm (tm 37)), ⟨(some 39), (some (38, false)), (qf 3 (tm 3))⟩, ⟨(some 40), (some (38, false)), (ql (tm 39))⟩, ⟨(some 41), (some (38, false)), (qf 0 (tm 3))⟩, ⟨(some 42), (some (38, false)), (ql (tm 41))⟩, ⟨(some 43), (some (38, false)), (qc 90 [(tm 40), (tm 42)] [[(some .int)], []])⟩, ⟨(some 44), (some (38, false)), (.i (.not (tm 43)))⟩, xo 45 (.i (.pick (tm 38) (cb true) (tm 44)))])
  (.cond (tm 45)
    (.seq (rg [xo 4 (qm (cb false))])
    .ret)
    .skip))
  (.seq (rg [xo 46 (qf 1 (tm 3)), xo 47 (ql (tm 46)), xo 48 (.i (.mkfn 92 [(tm 2), (tm 3)])), ⟨(some 49), none, (qc 91 [(tm 47), (tm 48)] [[(some (.pair .int (.pair .int .int)))], []])⟩, xo 50 (.i (.not (tm 49))), xo 4 (qm (tm 50))])
  .ret))))
def r_impl_isNetwork : List Res := [.tmp 4]
theorem c_impl_isNetwork : compiled Tryd.prog Tryd.f44 = some (m_impl_isNetwork, r_impl_isNetwork) := by kernel_rfl
theorem hb_impl_isNetwork : hasBody Tryd.prog 44 = true := by kernel_rfl
def L_impl_isNetwork (a0 : Int) (a1_0 : Int) (a1_1 : List (Int × Int × Int)) (a1_2 : List Int) (a1_3 : List Int) : Option Bool :=
  Option.bind (Option.bind (L_impl_isField a0) fun y4 =>
  cond (!y4)
    (some true)
    (Option.bind (L_impl_within a1_0 1 20) fun y6 =>
    cond (!y6)
      (some true)
      (cond (decide (60 < ((a1_1.length : Nat) : Int)))
        (some true)
        (cond (decide (6 < ((a1_2.length : Nat) : Int)))
          (some true)
          (some (decide (6 < ((a1_3.length : Nat) : Int)))))))) fun l3_m31 =>
cond l3_m31
  (some false)
  (Option.bind (Option.bind (L_impl_areBelow a1_2 a1_0) fun y14 =>
    cond (!y14)
      (some true)
      (Option.bind (L_impl_areBelow a1_3 a1_0) fun y16 =>
      some (!y16))) fun l13_m45 =>
  cond l13_m45
    (some false)
    (Option.bind (L_slices_ContainsFunc_impl_Branch_impl_Branch_for_impl_isNetwork_1 a1_1 a0 a1_0 a1_1 a1_2 a1_3) fun y20 =>
    some (!y20)))
def rv_impl_isNetwork (r : Bool) : RV := ⟨false, [(false, [.sc (.bool r)])]⟩
theorem ok_impl_isNetwork {a0 : Int} {a1_0 : Int} {a1_1 : List (Int × Int × Int)} {a1_2 : List Int} {a1_3 : List Int} {r : Bool} (h : L_impl_isNetwork a0 a1_0 a1_1 a1_2 a1_3 = some r) : CallOK Tryd.prog Tab 44 [(ai a0), (.agg [(ai a1_0), (.tree (.pair .int (.pair .int .int)) a1_1), (.tree .int a1_2), (.tree .int a1_3)])] (rv_impl_isNetwork r) := by
  refine call_of_ (by kernel_rfl) Tryd.func44 c_impl_isNetwork (n := 51) (by kernel_rfl) (by simp) (tl := [(0, (ai a0)), (1, (.agg [(ai a1_0), (.tree (.pair .int (.pair .int .int)) a1_1), (.tree .int a1_2), (.tree .int a1_3)]))]) rfl ?_
  unfold m_impl_isNetwork
  unfold L_impl_isNetwork at h
  refine seqR ?_
  refine awp_seqv_ ?_
  refine awp_seqB h (fun (l3_m31 : Bool) S_ => S_ = ⟨mkTm [(2, (.box (oi 0 1) 0)), (3, (.box (oi 1 1) 0)), (31, (.bool l3_m31))], mkOb (someL [((oi 0 1), .cells 3 [(ai a0)]), ((oi 1 1), .cells 30 [(ai a1_0), (.tree (.pair .int (.pair .int .int)) a1_1), (.tree .int a1_2), (.tree .int a1_3)])]), 2⟩) ?_ ?_
  · intro v_ h
    obtain ⟨y4, h4, h⟩ := ob_some h
    rcases cond_some h with ⟨q5, h⟩ | ⟨q5, h⟩
    · refine awp_region_ 31 ?_
      refine rsl (ai a0) (by kernel_rfl) ?_
      refine rcall (.bool y4) [] [(ai a0)] _ (caps := []) (args0 := [(ai a0)]) trivial (by kernel_rfl) (ok_impl_isField h4) hb_impl_isField ?_
      refine rs0 (.bool (!y4)) (by kernel_rfl) ?_
      refine rs0 (.bool (!y4)) (by kernel_rfl) ?_
      refine rs0 (.tup []) (s_skip (by kernel_rfl) q5) ?_
      refine rs0 (.tup []) (s_skip (by kernel_rfl) q5) ?_
      refine rs0 (.tup []) (s_skip (by kernel_rfl) q5) ?_
      refine rs0 (.tup []) (s_skip (by kernel_rfl) q5) ?_
      refine rs0 (.bool true) (s_pickT (by kernel_rfl) q5) ?_
      refine rsB 18 ?_
      refine rnil (tn_ ?_)
      obtain rfl := Option.some.inj h
      exact ⟨_, (weak_ren [((oi 0 1), (oi 2 1)), ((oi 1 1), (oi 3 2))]), rfl⟩
    obtain ⟨y6, h6, h⟩ := ob_some h
    rcases cond_some h with ⟨q7, h⟩ | ⟨q7, h⟩
    · refine awp_region_ 31 ?_
      refine rsl (ai a0) (by kernel_rfl) ?_
      refine rcall (.bool y4) [] [(ai a0)] _ (caps := []) (args0 := [(ai a0)]) trivial (by kernel_rfl) (ok_impl_isField h4) hb_impl_isField ?_
      refine rs0 (.bool (!y4)) (by kernel_rfl) ?_
      refine rs0 (.bool (!y4)) (by kernel_rfl) ?_
      refine rs0 (.box (oi 3 2) 0) (s_gd (by kernel_rfl) q5 (by kernel_rfl)) ?_
      refine rsl (ai a1_0) (s_gd (by kernel_rfl) q5 (by kernel_rfl)) ?_
      refine rcall (.bool y6) [] [(ai a1_0), (ai 1), (ai 20)] _ (caps := []) (args0 := [(ai a1_0), (ai 1), (ai 20)]) (gdOK_b (by kernel_rfl) q5) (by kernel_rfl) (ok_impl_within h6) hb_impl_within ?_
      refine rs0 (.bool (!y6)) (s_gd (by kernel_rfl) q5 (by kernel_rfl)) ?_
      refine rs0 (.bool (!y6)) (s_pickF (by kernel_rfl) q5) ?_
      refine rs0 (.bool (!y6)) (by kernel_rfl) ?_
      refine rs0 (.tup []) (s_skip (by kernel_rfl) q7) ?_
      refine rs0 (.tup []) (s_skip (by kernel_rfl) q7) ?_
      refine rs0 (.tup []) (s_skip (by kernel_rfl) q7) ?_
      refine rs0 (.tup []) (s_skip (by kernel_rfl) q7) ?_
      refine rs0 (.bool true) (s_pickT (by kernel_rfl) q7) ?_
      refine rsB 12 ?_
      refine rnil (tn_ ?_)
      obtain rfl := Option.some.inj h
      exact ⟨_, (weak_ren [((oi 0 1), (oi 2 1)), ((oi 1 1), (oi 3 2))]), rfl⟩
    rcases cond_some h with ⟨q8, h⟩ | ⟨q8, h⟩
    · have q8_ := of_decide_eq_true q8
      refine awp_region_ 31 ?_
      refine rsl (ai a0) (by kernel_rfl) ?_
      refine rcall (.bool y4) [] [(ai a0)] _ (caps := []) (args0 := [(ai a0)]) trivial (by kernel_rfl) (ok_impl_isField h4) hb_impl_isField ?_
      refine rs0 (.bool (!y4)) (by kernel_rfl) ?_
      refine rs0 (.bool (!y4)) (by kernel_rfl) ?_
      refine rs0 (.box (oi 3 2) 0) (s_gd (by kernel_rfl) q5 (by kernel_rfl)) ?_
      refine rsl (ai a1_0) (s_gd (by kernel_rfl) q5 (by kernel_rfl)) ?_
      refine rcall (.bool y6) [] [(ai a1_0), (ai 1), (ai 20)] _ (caps := []) (args0 := [(ai a1_0), (ai 1), (ai 20)]) (gdOK_b (by kernel_rfl) q5) (by kernel_rfl) (ok_impl_within h6) hb_impl_within ?_
      refine rs0 (.bool (!y6)) (s_gd (by kernel_rfl) q5 (by kernel_rfl)) ?_
      refine rs0 (.bool (!y6)) (s_pickF (by kernel_rfl) q5) ?_
      refine rs0 (.bool (!y6)) (by kernel_rfl) ?_
      refine rs0 (.box (oi 3 2) 1) (s_gd (by kernel_rfl) q7 (by kernel_rfl)) ?_
      refine rsl (.tree (.pair .int (.pair .int .int)) a1_1) (s_gd (by kernel_rfl) q7 (by kernel_rfl)) ?_
      refine rs0 (ai ((a1_1.length : Nat) : Int)) (s_gd (by kernel_rfl) q7 (by kernel_rfl)) ?_
      refine rs0 (.bool (decide (60 < ((a1_1.length : Nat) : Int)))) (s_gd (by kernel_rfl) q7 (by kernel_rfl)) ?_
      refine rs0 (.bool (decide (60 < ((a1_1.length : Nat) : Int)))) (s_pickF (by kernel_rfl) q7) ?_
      refine rs0 (.bool (decide (60 < ((a1_1.length : Nat) : Int)))) (by kernel_rfl) ?_
      refine rs0 (.tup []) (s_skip (by kernel_rfl) q8) ?_
      refine rs0 (.tup []) (s_skip (by kernel_rfl) q8) ?_
      refine rs0 (.tup []) (s_skip (by kernel_rfl) q8) ?_
      refine rs0 (.tup []) (s_skip (by kernel_rfl) q8) ?_
      refine rs0 (.bool true) (s_pickT (by kernel_rfl) q8) ?_
      refine rsB 6 ?_
      refine rnil (tn_ ?_)
      obtain rfl := Option.some.inj h
      exact ⟨_, (weak_ren [((oi 0 1), (oi 2 1)), ((oi 1 1), (oi 3 2))]), rfl⟩
    have q8_ := of_decide_eq_false q8
    rcases cond_some h with ⟨q9, h⟩ | ⟨q9, h⟩
    · have q9_ := of_decide_eq_true q9
      refine awp_region_ 31 ?_
      refine rsl (ai a0) (by kernel_rfl) ?_
      refine rcall (.bool y4) [] [(ai a0)] _ (caps := []) (args0 := [(ai a0)]) trivial (by kernel_rfl) (ok_impl_isField h4) hb_impl_isField ?_
      refine rs0 (.bool (!y4)) (by kernel_rfl) ?_
      refine rs0 (.bool (!y4)) (by kernel_rfl) ?_
      refine rs0 (.box (oi 3 2) 0) (s_gd (by kernel_rfl) q5 (by kernel_rfl)) ?_
      refine rsl (ai a1_0) (s_gd (by kernel_rfl) q5 (by kernel_rfl)) ?_
      refine rcall (.bool y6) [] [(ai a1_0), (ai 1), (ai 20)] _ (caps := []) (args0 := [(ai a1_0), (ai 1), (ai 20)]) (gdOK_b (by kernel_rfl) q5) (by kernel_rfl) (ok_impl_within h6) hb_impl_within ?_
      refine rs0 (.bool (!y6)) (s_gd (by kernel_rfl) q5 (by kernel_rfl)) ?_
      refine rs0 (.bool (!y6)) (s_pickF (by kernel_rfl) q5) ?_
      refine rs0 (.bool (!y6)) (by kernel_rfl) ?_
      refine rs0 (.box (oi 3 2) 1) (s_gd (by kernel_rfl) q7 (by kernel_rfl)) ?_
      refine rsl (.tree (.pair .int (.pair .int .int)) a1_1) (s_gd (by kernel_rfl) q7 (by kernel_rfl)) ?_
      refine rs0 (ai ((a1_1.length : Nat) : Int)) (s_gd (by kernel_rfl) q7 (by kernel_rfl)) ?_
      refine rs0 (.bool (decide (60 < ((a1_1.length : Nat) : Int)))) (s_gd (by kernel_rfl) q7 (by kernel_rfl)) ?_
      refine rs0 (.bool (decide (60 < ((a1_1.length : Nat) : Int)))) (s_pickF (by kernel_rfl) q7) ?_
      refine rs0 (.bool (decide (60 < ((a1_1.length : Nat) : Int)))) (by kernel_rfl) ?_
      refine rs0 (.box (oi 3 2) 2) (s_gd (by kernel_rfl) q8 (by kernel_rfl)) ?_
      refine rsl (.tree .int a1_2) (s_gd (by kernel_rfl) q8 (by kernel_rfl)) ?_
      refine rs0 (ai ((a1_2.length : Nat) : Int)) (s_gd (by kernel_rfl) q8 (by kernel_rfl)) ?_
      refine rs0 (.bool (decide (6 < ((a1_2.length : Nat) : Int)))) (s_gd (by kernel_rfl) q8 (by kernel_rfl)) ?_
      refine rs0 (.bool (decide (6 < ((a1_2.length : Nat) : Int)))) (s_pickF (by kernel_rfl) q8) ?_
      refine rs0 (.bool (decide (6 < ((a1_2.length : Nat) : Int)))) (by kernel_rfl) ?_
      refine rs0 (.tup []) (s_skip (by kernel_rfl) q9) ?_
      refine rs0 (.tup []) (s_skip (by kernel_rfl) q9) ?_
      refine rs0 (.tup []) (s_skip (by kernel_rfl) q9) ?_
      refine rs0 (.tup []) (s_skip (by kernel_rfl) q9) ?_
      refine rs0 (.bool true) (s_pickT (by kernel_rfl) q9) ?_
      refine rnil (tn_ ?_)
      obtain rfl := Option.some.inj h
      exact ⟨_, (weak_ren [((oi 0 1), (oi 2 1)), ((oi 1 1), (oi 3 2))]), rfl⟩
    have q9_ := of_decide_eq_false q9
    refine awp_region_ 31 ?_
    refine rsl (ai a0) (by kernel_rfl) ?_
    refine rcall (.bool y4) [] [(ai a0)] _ (caps := []) (args0 := [(ai a0)]) trivial (by kernel_rfl) (ok_impl_isField h4) hb_impl_isField ?_
    refine rs0 (.bool (!y4)) (by kernel_rfl) ?_
    refine rs0 (.bool (!y4)) (by kernel_rfl) ?_
    refine rs0 (.box (oi 3 2) 0) (s_gd (by kernel_rfl) q5 (by kernel_rfl)) ?_
    refine rsl (ai a1_0) (s_gd (by kernel_rfl) q5 (by kernel_rfl)) ?_
    refine rcall (.bool y6) [] [(ai a1_0), (ai 1), (ai 20)] _ (caps := []) (args0 := [(ai a1_0), (ai 1), (ai 20)]) (gdOK_b (by kernel_rfl) q5) (by kernel_rfl) (ok_impl_within h6) hb_impl_within ?_
    refine rs0 (.bool (!y6)) (s_gd (by kernel_rfl) q5 (by kernel_rfl)) ?_
    refine rs0 (.bool (!y6)) (s_pickF (by kernel_rfl) q5) ?_
    refine rs0 (.bool (!y6)) (by kernel_rfl) ?_
    refine rs0 (.box (oi 3 2) 1) (s_gd (by kernel_rfl) q7 (by kernel_rfl)) ?_
    refine rsl (.tree (.pair .int (.pair .int .int)) a1_1) (s_gd (by kernel_rfl) q7 (by kernel_rfl)) ?_
    refine rs0 (ai ((a1_1.length : Nat) : Int)) (s_gd (by kernel_rfl) q7 (by kernel_rfl)) ?_
    refine rs0 (.bool (decide (60 < ((a1_1.length : Nat) : Int)))) (s_gd (by kernel_rfl) q7 (by kernel_rfl)) ?_
    refine rs0 (.bool (decide (60 < ((a1_1.length : Nat) : Int)))) (s_pickF (by kernel_rfl) q7) ?_
    refine rs0 (.bool (decide (60 < ((a1_1.length : Nat) : Int)))) (by kernel_rfl) ?_
    refine rs0 (.box (oi 3 2) 2) (s_gd (by kernel_rfl) q8 (by kernel_rfl)) ?_
    refine rsl (.tree .int a1_2) (s_gd (by kernel_rfl) q8 (by kernel_rfl)) ?_
    refine rs0 (ai ((a1_2.length : Nat) : Int)) (s_gd (by kernel_rfl) q8 (by kernel_rfl)) ?_
    refine rs0 (.bool (decide (6 < ((a1_2.length : Nat) : Int)))) (s_gd (by kernel_rfl) q8 (by kernel_rfl)) ?_
    refine rs0 (.bool (decide (6 < ((a1_2.length : Nat) : Int)))) (s_pickF (by kernel_rfl) q8) ?_
    refine rs0 (.bool (decide (6 < ((a1_2.length : Nat) : Int)))) (by kernel_rfl) ?_
    refine rs0 (.box (oi 3 2) 3) (s_gd (by kernel_rfl) q9 (by kernel_rfl)) ?_
    refine rsl (.tree .int a1_3) (s_gd (by kernel_rfl) q9 (by kernel_rfl)) ?_
    refine rs0 (ai ((a1_3.length : Nat) : Int)) (s_gd (by kernel_rfl) q9 (by kernel_rfl)) ?_
    refine rs0 (.bool (decide (6 < ((a1_3.length : Nat) : Int)))) (s_gd (by kernel_rfl) q9 (by kernel_rfl)) ?_
    refine rs0 (.bool (decide (6 < ((a1_3.length : Nat) : Int)))) (s_pickF (by kernel_rfl) q9) ?_
    refine rnil (tn_ ?_)
    obtain rfl := Option.some.inj h
    exact ⟨_, (weak_ren [((oi 0 1), (oi 2 1)), ((oi 1 1), (oi 3 2))]), rfl⟩
  rintro l3_m31 _ rfl h
  (try dsimp only at h)
  rcases cond_some h with ⟨q10, h⟩ | ⟨q10, h⟩
  · refine awp_condT_ q10 ?_
    refine seqR ?_
    refine awp_ret_ (tr_ ?_)
    obtain rfl := Option.some.inj h
    exact ret_ [(.bool false)] (p_one rfl (l_sc (by kernel_rfl)) p_nil)
  refine awp_condF_ q10 ?_
  refine awp_skip_ (tn_ ?_)
  refine ⟨_, Weak.refl _, ?_⟩
  refine awp_seqv_ ?_
  refine awp_seqB h (fun (l13_m45 : Bool) S_ => S_ = ⟨mkTm [(2, (.box (oi 0 1) 0)), (3, (.box (oi 1 1) 0)), (45, (.bool l13_m45))], mkOb (someL [((oi 0 1), .cells 3 [(ai a0)]), ((oi 1 1), .cells 30 [(ai a1_0), (.tree (.pair .int (.pair .int .int)) a1_1), (.tree .int a1_2), (.tree .int a1_3)])]), 2⟩) ?_ ?_
  · intro v_ h
    obtain ⟨y14, h14, h⟩ := ob_some h
    rcases cond_some h with ⟨q15, h⟩ | ⟨q15, h⟩
    · refine awp_region_ 16 ?_
      refine rs0 (.box (oi 1 1) 2) (by kernel_rfl) ?_
      refine rsl (.tree .int a1_2) (by kernel_rfl) ?_
      refine rs0 (.box (oi 1 1) 0) (by kernel_rfl) ?_
      refine rsl (ai a1_0) (by kernel_rfl) ?_
      refine rcall (.bool y14) [] [(.tree .int a1_2), (ai a1_0)] _ (caps := []) (args0 := [(.tree .int a1_2), (ai a1_0)]) trivial (by kernel_rfl) (ok_impl_areBelow h14) hb_impl_areBelow ?_
      refine rs0 (.bool (!y14)) (by kernel_rfl) ?_
      refine rs0 (.bool (!y14)) (by kernel_rfl) ?_
      refine rs0 (.tup []) (s_skip (by kernel_rfl) q15) ?_
      refine rs0 (.tup []) (s_skip (by kernel_rfl) q15) ?_
      refine rs0 (.tup []) (s_skip (by kernel_rfl) q15) ?_
      refine rs0 (.tup []) (s_skip (by kernel_rfl) q15) ?_
      refine rs0 (.tup []) (s_skip (by kernel_rfl) q15) ?_
      refine rs0 (.tup []) (s_skip (by kernel_rfl) q15) ?_
      refine rs0 (.bool true) (s_pickT (by kernel_rfl) q15) ?_
      refine rnil (tn_ ?_)
      obtain rfl := Option.some.inj h
      exact ⟨_, (weak_ren []), rfl⟩
    obtain ⟨y16, h16, h⟩ := ob_some h
    refine awp_region_ 16 ?_
    refine rs0 (.box (oi 1 1) 2) (by kernel_rfl) ?_
    refine rsl (.tree .int a1_2) (by kernel_rfl) ?_
    refine rs0 (.box (oi 1 1) 0) (by kernel_rfl) ?_
    refine rsl (ai a1_0) (by kernel_rfl) ?_
    refine rcall (.bool y14) [] [(.tree .int a1_2), (ai a1_0)] _ (caps := []) (args0 := [(.tree .int a1_2), (ai a1_0)]) trivial (by kernel_rfl) (ok_impl_areBelow h14) hb_impl_areBelow ?_
    refine rs0 (.bool (!y14)) (by kernel_rfl) ?_
    refine rs0 (.bool (!y14)) (by kernel_rfl) ?_
    refine rs0 (.box (oi 1 1) 3) (s_gd (by kernel_rfl) q15 (by kernel_rfl)) ?_
    refine rsl (.tree .int a1_3) (s_gd (by kernel_rfl) q15 (by kernel_rfl)) ?_
    refine rs0 (.box (oi 1 1) 0) (s_gd (by kernel_rfl) q15 (by kernel_rfl)) ?_
    refine rsl (ai a1_0) (s_gd (by kernel_rfl) q15 (by kernel_rfl)) ?_
    refine rcall (.bool y16) [] [(.tree .int a1_3), (ai a1_0)] _ (caps := []) (args0 := [(.tree .int a1_3), (ai a1_0)]) (gdOK_b (by kernel_rfl) q15) (by kernel_rfl) (ok_impl_areBelow h16) hb_impl_areBelow ?_
    refine rs0 (.bool (!y16)) (s_gd (by kernel_rfl) q15 (by kernel_rfl)) ?_
    refine rs0 (.bool (!y16)) (s_pickF (by kernel_rfl) q15) ?_
    refine rnil (tn_ ?_)
    obtain rfl := Option.some.inj h
    exact ⟨_, (weak_ren []), rfl⟩
  rintro l13_m45 _ rfl h
  (try dsimp only at h)
  rcases cond_some h with ⟨q17, h⟩ | ⟨q17, h⟩
  · refine awp_condT_ q17 ?_
    refine seqR ?_
    refine awp_ret_ (tr_ ?_)
    obtain rfl := Option.some.inj h
    exact ret_ [(.bool false)] (p_one rfl (l_sc (by kernel_rfl)) p_nil)
  refine awp_condF_ q17 ?_
  refine awp_skip_ (tn_ ?_)
  refine ⟨_, Weak.refl _, ?_⟩
  refine awp_seqv_ ?_
  obtain ⟨y20, h20, h⟩ := ob_some h
  refine awp_region_ 8 ?_
  refine rs0 (.box (oi 1 1) 1) (by kernel_rfl) ?_
  refine rsl (.tree (.pair .int (.pair .int .int)) a1_1) (by kernel_rfl) ?_
  refine rs0 (.fn 92 [(.box (oi 0 1) 0), (.box (oi 1 1) 0)]) (by kernel_rfl) ?_
  refine rcall (.bool y20) [] [(.tree (.pair .int (.pair .int .int)) a1_1), (.fn 92 [(.box (oi 0 1) 0), (.box (oi 1 1) 0)])] _ (caps := []) (args0 := [(.tree (.pair .int (.pair .int .int)) a1_1), (.fn 92 [(.ref [(ai a0)]), (.ref [(ai a1_0), (.tree (.pair .int (.pair .int .int)) a1_1), (.tree .int a1_2), (.tree .int a1_3)])])]) trivial (by kernel_rfl) (ok_slices_ContainsFunc_impl_Branch_impl_Branch_for_impl_isNetwork_1 h20) hb_slices_ContainsFunc_impl_Branch_impl_Branch ?_
  refine rsB 2 ?_
  refine rnil (tn_ ?_)
  refine ⟨_, Weak.refl _, ?_⟩
  refine awp_ret_ ?_
  obtain rfl := Option.some.inj h
  exact ret_ [(.bool (!y20))] (p_one rfl (l_sc (by kernel_rfl)) p_nil)
end Go.Proofs.YtefolocdfgelcaaDoor
