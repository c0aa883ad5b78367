/- Partial functions in place of code, and that the code does what they say: NB. No condition. -/
import Derived.Test.YtefolocdfgelcaaDoorNA
namespace Go.Proofs.YtefolocdfgelcaaDoor
open Go.RowKit Go.Deep
set_option maxRecDepth 4000
def m_spec_l1In : AC :=
  (.seq (.region [⟨(some 6), none, (.i (.mov (.cst (.bool false))))⟩] false [])
  (.seq (.region [⟨(some 7), none, (.i (.mov (.tmp 0)))⟩, ⟨(some 8), none, (.i (.mov (.tmp 1)))⟩, ⟨(some 9), none, (.i (.bin .geq (.tmp 7) (.tmp 8)))⟩, ⟨(some 10), none, (.i (.mov (.tmp 9)))⟩, ⟨(some 11), (some (10, true)), (.i (.mov (.tmp 0)))⟩, ⟨(some 12), (some (10, true)), (.i (.mov (.tmp 2)))⟩, ⟨(some 13), (some (10, true)), (.i (.bin .leq (.tmp 11) (.tmp 12)))⟩, ⟨(some 14), none, (.i (.pick (.tmp 10) (.tmp 13) (.cst (.bool false))))⟩, ⟨(some 6), none, (.i (.mov (.tmp 14)))⟩] false [])
  .ret))
def r_spec_l1In : List Res := [.tmp 6]
theorem c_spec_l1In : compiled Tryd.prog Tryd.f85 = some (m_spec_l1In, r_spec_l1In) := by kernel_rfl
theorem hb_spec_l1In : hasBody Tryd.prog 85 = true := by kernel_rfl
def L_spec_l1In (a0 : Int) (a1 : Int) (a2 : Int) : Option Bool :=
  Option.bind (cond (decide (a1 ≤ a0))
    (some (decide (a0 ≤ a2)))
    (some false)) fun l2_m6 =>
some l2_m6
def rv_spec_l1In (r : Bool) : RV := ⟨false, [(false, [.sc (.bool r)])]⟩
theorem ok_spec_l1In {a0 : Int} {a1 : Int} {a2 : Int} {r : Bool} (h : L_spec_l1In a0 a1 a2 = some r) : CallOK Tryd.prog Tab 85 [(.int .i64 a0), (.int .i64 a1), (.int .i64 a2)] (rv_spec_l1In r) := by
  refine call_of_ (by kernel_rfl) Tryd.func85 c_spec_l1In (n := 15) (by kernel_rfl) (by simp) (tl := [(0, (.int .i64 a0)), (1, (.int .i64 a1)), (2, (.int .i64 a2))]) rfl ?_
  unfold m_spec_l1In
  unfold L_spec_l1In at h
  refine awp_seqv_ ?_
  refine awp_region_ 2 (by kernel_rfl) ?_
  refine rs0 (.bool false) (by kernel_rfl) ?_
  refine rnil (tn_ ?_)
  refine ⟨_, Weak.refl _, ?_⟩
  refine awp_seqB h (fun (l2_m6 : Bool) S_ => S_ = ⟨mkTm [(6, (.bool l2_m6))], mkOb (someL []), 2⟩) ?_ ?_
  · intro v_ h
    rcases cond_some h with ⟨q3, h⟩ | ⟨q3, h⟩
    · have q3_ := of_decide_eq_true q3
      refine awp_region_ 11 (by kernel_rfl) ?_
      refine rs0 (.int .i64 a0) (by kernel_rfl) ?_
      refine rs0 (.int .i64 a1) (by kernel_rfl) ?_
      refine rs0 (.bool (decide (a1 ≤ a0))) (by kernel_rfl) ?_
      refine rs0 (.bool (decide (a1 ≤ a0))) (by kernel_rfl) ?_
      refine rs0 (.int .i64 a0) (s_gd (by kernel_rfl) q3 (by kernel_rfl)) ?_
      refine rs0 (.int .i64 a2) (s_gd (by kernel_rfl) q3 (by kernel_rfl)) ?_
      refine rs0 (.bool (decide (a0 ≤ a2))) (s_gd (by kernel_rfl) q3 (by kernel_rfl)) ?_
      refine rs0 (.bool (decide (a0 ≤ a2))) (s_pickT (by kernel_rfl) q3) ?_
      refine rs0 (.bool (decide (a0 ≤ a2))) (by kernel_rfl) ?_
      refine rnil (tn_ ?_)
      obtain rfl := Option.some.inj h
      exact ⟨_, (weak_ren [] (by kernel_rfl) (obsR_of (by kernel_rfl)) (by kernel_rfl)), rfl⟩
    · have q3_ := of_decide_eq_false q3
      refine awp_region_ 11 (by kernel_rfl) ?_
      refine rs0 (.int .i64 a0) (by kernel_rfl) ?_
      refine rs0 (.int .i64 a1) (by kernel_rfl) ?_
      refine rs0 (.bool (decide (a1 ≤ a0))) (by kernel_rfl) ?_
      refine rs0 (.bool (decide (a1 ≤ a0))) (by kernel_rfl) ?_
      refine rs0 (.tup []) (s_skip (by kernel_rfl) q3) ?_
      refine rs0 (.tup []) (s_skip (by kernel_rfl) q3) ?_
      refine rs0 (.tup []) (s_skip (by kernel_rfl) q3) ?_
      refine rs0 (.bool false) (s_pickF (by kernel_rfl) q3) ?_
      refine rs0 (.bool false) (by kernel_rfl) ?_
      refine rnil (tn_ ?_)
      obtain rfl := Option.some.inj h
      exact ⟨_, (weak_ren [] (by kernel_rfl) (obsR_of (by kernel_rfl)) (by kernel_rfl)), rfl⟩
  · rintro l2_m6 _ rfl h
    (try dsimp only at h)
    refine awp_ret_ ?_
    obtain rfl := Option.some.inj h
    exact ret_ [(.bool l2_m6)] (by simp) (by kernel_rfl) (p_one rfl (l_sc (by kernel_rfl)) p_nil) (by kernel_rfl) (by kernel_rfl)
def m_spec_fdGood_l1 : AC :=
  (.seq (.seq (.region [⟨(some 7), none, (.i (.mov (.tmp 3)))⟩, ⟨(some 8), none, (.i (.mov (.tmp 3)))⟩, ⟨(some 9), none, (.i (.bin .mul (.tmp 7) (.tmp 8)))⟩, ⟨(some 10), none, (.i (.mov (.tmp 0)))⟩, ⟨(some 11), none, (.i (.bin .leq (.tmp 9) (.tmp 10)))⟩] false [])
  (.cond (.tmp 11)
    .skip
    (.exit 0)))
  (.seq (.block 1 (.seq (.region [⟨(some 14), none, (.i (.mov (.tmp 0)))⟩, ⟨(some 15), none, (.i (.mov (.tmp 3)))⟩, ⟨(some 16), none, (.i (.bin .rem (.tmp 14) (.tmp 15)))⟩, ⟨(some 17), none, (.i (.bin .eql (.tmp 16) (.cst (.int .i64 0))))⟩] false [])
  (.cond (.tmp 17)
    (.seq (.region [⟨(some 2), none, (.i (.mov (.cst (.bool false))))⟩] false [])
    .ret)
    .skip)))
  (.region [⟨(some 12), none, (.i (.mov (.tmp 3)))⟩, ⟨(some 13), none, (.i (.bin .add (.tmp 12) (.cst (.int .i64 1))))⟩, ⟨(some 3), none, (.i (.mov (.tmp 13)))⟩] false [])))
def m_spec_fdGood : AC :=
  (.seq (.region [⟨(some 2), none, (.i (.mov (.cst (.bool false))))⟩] false [])
  (.seq (.seq (.region [⟨(some 4), none, (.i (.mov (.tmp 0)))⟩, ⟨(some 5), none, (.call (.cst (.fn 85 [])) [(.tmp 4), (.cst (.int .i64 2)), (.cst (.int .i64 97))] [[], [], []])⟩, ⟨(some 6), none, (.i (.not (.tmp 5)))⟩] false [])
  (.cond (.tmp 6)
    (.seq (.region [⟨(some 2), none, (.i (.mov (.cst (.bool false))))⟩] false [])
    .ret)
    .skip))
  (.seq (.seq (.region [⟨(some 3), none, (.i (.mov (.cst (.int .i64 2))))⟩] false [])
  (.block 0 (.loop m_spec_fdGood_l1)))
  (.seq (.region [⟨(some 2), none, (.i (.mov (.cst (.bool true))))⟩] false [])
  .ret))))
def r_spec_fdGood : List Res := [.tmp 2]
theorem c_spec_fdGood : compiled Tryd.prog Tryd.f84 = some (m_spec_fdGood, r_spec_fdGood) := by kernel_rfl
theorem hb_spec_fdGood : hasBody Tryd.prog 84 = true := by kernel_rfl
def L_spec_fdGood_l1 (a0 : Int) (l9_m3 : Nat) : Option (Ctl Nat (Ctl Unit Bool)) :=
  cond (decide (IntKind.i64.wrap (((l9_m3 : Nat) : Int) * ((l9_m3 : Nat) : Int)) ≤ a0))
  (og (((l9_m3 : Nat) : Int) ≠ 0) <|
  cond ((Int.tmod a0 ((l9_m3 : Nat) : Int)) == 0)
    (some (Ctl.out (Ctl.out false)))
    (og (l9_m3 + 1 < 4611686018427387904) <|
    some (Ctl.next (l9_m3 + 1))))
  (some (Ctl.out (Ctl.next ())))
def L_spec_fdGood (a0 : Int) : Option Bool :=
  Option.bind (L_spec_l1In a0 2 97) fun y4 =>
cond (!y4)
  (some false)
  (seqC (loopM (fun s_ : Nat => L_spec_fdGood_l1 a0 s_) 4611686018427387904 2) fun _ =>
  some true)
def rv_spec_fdGood (r : Bool) : RV := ⟨false, [(false, [.sc (.bool r)])]⟩
theorem ok_spec_fdGood {a0 : Int} {r : Bool} (h : L_spec_fdGood a0 = some r) : CallOK Tryd.prog Tab 84 [(.int .i64 a0)] (rv_spec_fdGood r) := by
  refine call_of_ (by kernel_rfl) Tryd.func84 c_spec_fdGood (n := 18) (by kernel_rfl) (by simp) (tl := [(0, (.int .i64 a0))]) rfl ?_
  unfold m_spec_fdGood
  unfold L_spec_fdGood at h
  refine awp_seqv_ ?_
  refine awp_region_ 2 (by kernel_rfl) ?_
  refine rs0 (.bool false) (by kernel_rfl) ?_
  refine rnil (tn_ ?_)
  refine ⟨_, Weak.refl _, ?_⟩
  refine awp_seqv_ ?_
  refine awp_seqv_ ?_
  obtain ⟨y4, h4, h⟩ := ob_some h
  refine awp_region_ 5 (by kernel_rfl) ?_
  refine rs0 (.int .i64 a0) (by kernel_rfl) ?_
  refine rcall (.bool y4) [] [(.int .i64 a0), (.int .i64 2), (.int .i64 97)] _ (caps := []) (args0 := [(.int .i64 a0), (.int .i64 2), (.int .i64 97)]) trivial (by kernel_rfl) (by kernel_rfl) (by kernel_rfl) (by kernel_rfl) (ok_spec_l1In h4) hb_spec_l1In (by kernel_rfl) ?_
  refine rs0 (.bool (!y4)) (by kernel_rfl) ?_
  refine rnil (tn_ ?_)
  refine ⟨_, Weak.refl _, ?_⟩
  rcases cond_some h with ⟨q5, h⟩ | ⟨q5, h⟩
  · refine awp_condT_ q5 (by kernel_rfl) ?_
    refine awp_seqv_ ?_
    refine awp_region_ 6 (by kernel_rfl) ?_
    refine rs0 (.bool false) (by kernel_rfl) ?_
    refine rnil (tn_ ?_)
    refine ⟨_, Weak.refl _, ?_⟩
    refine awp_ret_ (tr_ ?_)
    obtain rfl := Option.some.inj h
    exact ret_ [(.bool false)] (by simp) (by kernel_rfl) (p_one rfl (l_sc (by kernel_rfl)) p_nil) (by kernel_rfl) (by kernel_rfl)
  · refine awp_condF_ q5 (by kernel_rfl) ?_
    refine awp_skip_ (tn_ ?_)
    refine ⟨_, Weak.refl _, ?_⟩
    refine awp_seqC h (fun (_ : Unit) S_ => S_ = ⟨mkTm [], mkOb (someL []), 2⟩) ?_ ?_
    · intro v_ h hk7
      refine awp_seqv_ ?_
      refine awp_region_ 6 (by kernel_rfl) ?_
      refine rs0 (.int .i64 2) (by kernel_rfl) ?_
      refine rnil (tn_ ?_)
      refine ⟨_, Weak.refl _, ?_⟩
      refine awp_block_ ?_
      refine awp_loopL h (fun (l9_m3 : Nat) S_ => S_ = ⟨mkTm [(0, (.int .i64 a0)), (3, (.int .i64 ((l9_m3 : Nat) : Int)))], mkOb (someL []), 2⟩) ⟨_, (weak_ren [] (by kernel_rfl) (obsR_of (by kernel_rfl)) (by kernel_rfl)), rfl⟩ ?_
      · rintro n_ l9_m3 _ c_ rfl h hn9
        (try dsimp only at h)
        unfold L_spec_fdGood_l1 at h
        unfold m_spec_fdGood_l1
        refine awp_seqv_ ?_
        refine awp_seqv_ ?_
        refine awp_region_ 7 (by kernel_rfl) ?_
        refine rs0 (.int .i64 ((l9_m3 : Nat) : Int)) (by kernel_rfl) ?_
        refine rs0 (.int .i64 ((l9_m3 : Nat) : Int)) (by kernel_rfl) ?_
        refine rs0 (.int .i64 (IntKind.i64.wrap (((l9_m3 : Nat) : Int) * ((l9_m3 : Nat) : Int)))) (by kernel_rfl) ?_
        refine rs0 (.int .i64 a0) (by kernel_rfl) ?_
        refine rs0 (.bool (decide (IntKind.i64.wrap (((l9_m3 : Nat) : Int) * ((l9_m3 : Nat) : Int)) ≤ a0))) (by kernel_rfl) ?_
        refine rnil (tn_ ?_)
        refine ⟨_, Weak.refl _, ?_⟩
        rcases cond_some h with ⟨q12, h⟩ | ⟨q12, h⟩
        · have q12_ := of_decide_eq_true q12
          refine awp_condT_ q12 (by kernel_rfl) ?_
          refine awp_skip_ (tn_ ?_)
          refine ⟨_, Weak.refl _, ?_⟩
          refine awp_seqv_ ?_
          refine awp_block_ ?_
          refine awp_seqv_ ?_
          obtain ⟨g15, h⟩ := og_some h
          refine awp_region_ 11 (by kernel_rfl) ?_
          refine rs0 (.int .i64 a0) (by kernel_rfl) ?_
          refine rs0 (.int .i64 ((l9_m3 : Nat) : Int)) (by kernel_rfl) ?_
          refine rs0 (.int .i64 (Int.tmod a0 ((l9_m3 : Nat) : Int))) (s_rem (k := .i64) (a := a0) (b := ((l9_m3 : Nat) : Int)) (by kernel_rfl) (by kernel_rfl) g15) ?_
          refine rs0 (.bool ((Int.tmod a0 ((l9_m3 : Nat) : Int)) == 0)) (by kernel_rfl) ?_
          refine rnil (tn_ ?_)
          refine ⟨_, Weak.refl _, ?_⟩
          rcases cond_some h with ⟨q16, h⟩ | ⟨q16, h⟩
          · refine awp_condT_ q16 (by kernel_rfl) ?_
            refine awp_seqv_ ?_
            refine awp_region_ 12 (by kernel_rfl) ?_
            refine rs0 (.bool false) (by kernel_rfl) ?_
            refine rnil (tn_ ?_)
            refine ⟨_, Weak.refl _, ?_⟩
            refine awp_ret_ (br_ (tr_ (tr_ (br_ (tr_ ?_)))))
            obtain rfl := Option.some.inj h
            have h := hn9
            (try dsimp only at h)
            obtain rfl := Option.some.inj h
            have h := hk7
            (try dsimp only at h)
            obtain rfl := Option.some.inj h
            exact ret_ [(.bool false)] (by simp) (by kernel_rfl) (p_one rfl (l_sc (by kernel_rfl)) p_nil) (by kernel_rfl) (by kernel_rfl)
          · refine awp_condF_ q16 (by kernel_rfl) ?_
            refine awp_skip_ (bn_ (tn_ ?_))
            refine ⟨_, Weak.refl _, ?_⟩
            obtain ⟨g18, h⟩ := og_some h
            refine awp_region_ 14 (by kernel_rfl) ?_
            refine rs0 (.int .i64 ((l9_m3 : Nat) : Int)) (by kernel_rfl) ?_
            refine rs0 (.int .i64 ((l9_m3 + 1 : Nat) : Int)) (s_add1 (j := l9_m3) (by kernel_rfl) (by kernel_rfl) g18) ?_
            refine rs0 (.int .i64 ((l9_m3 + 1 : Nat) : Int)) (by kernel_rfl) ?_
            refine rnil (tn_ ?_)
            obtain rfl := Option.some.inj h
            exact ⟨l9_m3 + 1, _, (weak_ren [] (by kernel_rfl) (obsR_of (by kernel_rfl)) (by kernel_rfl)), rfl, hn9⟩
        · have q12_ := of_decide_eq_false q12
          refine awp_condF_ q12 (by kernel_rfl) ?_
          refine awp_exit_ (te_ (te_ (be_ (tn_ ?_))))
          obtain rfl := Option.some.inj h
          have h := hn9
          (try dsimp only at h)
          obtain rfl := Option.some.inj h
          exact ⟨(), _, rfl, (weak_ren [] (by kernel_rfl) (obsR_of (by kernel_rfl)) (by kernel_rfl)), rfl⟩
    · rintro _ _ rfl h
      (try dsimp only at h)
      refine awp_seqv_ ?_
      refine awp_region_ 3 (by kernel_rfl) ?_
      refine rs0 (.bool true) (by kernel_rfl) ?_
      refine rnil (tn_ ?_)
      refine ⟨_, Weak.refl _, ?_⟩
      refine awp_ret_ ?_
      obtain rfl := Option.some.inj h
      exact ret_ [(.bool true)] (by simp) (by kernel_rfl) (p_one rfl (l_sc (by kernel_rfl)) p_nil) (by kernel_rfl) (by kernel_rfl)
def m_spec_l1All_l1 : AC :=
  (.seq (.region [⟨(some 12), none, (.i (.bin .lss (.tmp 11) (.tmp 10)))⟩] false [])
  (.seq (.cond (.tmp 12)
    .skip
    (.exit 0))
  (.seq (.block 1 (.seq (.region [⟨(some 13), none, (.i (.idx 1 (.tmp 9) (.tmp 11)))⟩, ⟨(some 14), none, (.i (.ld true 1 (.tmp 13)))⟩, ⟨(some 8), none, (.i (.mov (.tmp 14)))⟩] false [])
  (.seq (.region [⟨(some 15), none, (.i (.mov (.tmp 8)))⟩, ⟨(some 16), none, (.i (.mov (.tmp 1)))⟩, ⟨(some 17), none, (.i (.mov (.tmp 2)))⟩, ⟨(some 18), none, (.call (.cst (.fn 85 [])) [(.tmp 15), (.tmp 16), (.tmp 17)] [[], [], []])⟩, ⟨(some 19), none, (.i (.not (.tmp 18)))⟩] false [])
  (.cond (.tmp 19)
    (.seq (.region [⟨(some 6), none, (.i (.mov (.cst (.bool false))))⟩] false [])
    .ret)
    .skip))))
  (.region [⟨(some 20), none, (.i (.bin .add (.tmp 11) (.cst (.int .i64 1))))⟩, ⟨(some 11), none, (.i (.mov (.tmp 20)))⟩] false []))))
def m_spec_l1All : AC :=
  (.seq (.region [⟨(some 6), none, (.i (.mov (.cst (.bool false))))⟩] false [])
  (.seq (.seq (.region [⟨(some 9), none, (.i (.mov (.tmp 0)))⟩, ⟨(some 10), none, (.i (.len (.tmp 9)))⟩, ⟨(some 11), none, (.i (.mov (.cst (.int .i64 0))))⟩] false [])
  (.block 0 (.loop m_spec_l1All_l1)))
  (.seq (.region [⟨(some 6), none, (.i (.mov (.cst (.bool true))))⟩] false [])
  .ret)))
def r_spec_l1All : List Res := [.tmp 6]
theorem c_spec_l1All : compiled Tryd.prog Tryd.f86 = some (m_spec_l1All, r_spec_l1All) := by kernel_rfl
theorem hb_spec_l1All : hasBody Tryd.prog 86 = true := by kernel_rfl
def L_spec_l1All_l1 (a0 : List Int) (a1 : Int) (a2 : Int) (l4_m11 : Nat) : Option (Ctl Nat (Ctl Unit Bool)) :=
  cond (decide (((l4_m11 : Nat) : Int) < ((a0.length : Nat) : Int)))
  (Option.bind (a0[l4_m11]?) fun x10 =>
  Option.bind (L_spec_l1In x10 a1 a2) fun y12 =>
  cond (!y12)
    (some (Ctl.out (Ctl.out false)))
    (og (l4_m11 + 1 < 4611686018427387904) <|
    some (Ctl.next (l4_m11 + 1))))
  (some (Ctl.out (Ctl.next ())))
def L_spec_l1All (a0 : List Int) (a1 : Int) (a2 : Int) : Option Bool :=
  seqC (loopM (fun s_ : Nat => L_spec_l1All_l1 a0 a1 a2 s_) 4611686018427387904 0) fun _ =>
some true
def rv_spec_l1All (r : Bool) : RV := ⟨false, [(false, [.sc (.bool r)])]⟩
theorem ok_spec_l1All {a0 : List Int} {a1 : Int} {a2 : Int} {r : Bool} (h : L_spec_l1All a0 a1 a2 = some r) : CallOK Tryd.prog Tab 86 [(.tree .int a0), (.int .i64 a1), (.int .i64 a2)] (rv_spec_l1All r) := by
  refine call_of_ (by kernel_rfl) Tryd.func86 c_spec_l1All (n := 21) (by kernel_rfl) (by simp) (tl := [(0, (.tree .int a0)), (1, (.int .i64 a1)), (2, (.int .i64 a2))]) rfl ?_
  unfold m_spec_l1All
  unfold L_spec_l1All at h
  refine awp_seqv_ ?_
  refine awp_region_ 2 (by kernel_rfl) ?_
  refine rs0 (.bool false) (by kernel_rfl) ?_
  refine rnil (tn_ ?_)
  refine ⟨_, Weak.refl _, ?_⟩
  refine awp_seqC h (fun (_ : Unit) S_ => S_ = ⟨mkTm [], mkOb (someL []), 2⟩) ?_ ?_
  · intro v_ h hk2
    refine awp_seqv_ ?_
    refine awp_region_ 5 (by kernel_rfl) ?_
    refine rs0 (.tree .int a0) (by kernel_rfl) ?_
    refine rs0 (.int .i64 ((a0.length : Nat) : Int)) (by kernel_rfl) ?_
    refine rs0 (.int .i64 0) (by kernel_rfl) ?_
    refine rnil (tn_ ?_)
    refine ⟨_, Weak.refl _, ?_⟩
    refine awp_block_ ?_
    refine awp_loopL h (fun (l4_m11 : Nat) S_ => S_ = ⟨mkTm [(1, (.int .i64 a1)), (2, (.int .i64 a2)), (9, (.tree .int a0)), (10, (.int .i64 ((a0.length : Nat) : Int))), (11, (.int .i64 ((l4_m11 : Nat) : Int)))], mkOb (someL []), 2⟩) ⟨_, (weak_ren [] (by kernel_rfl) (obsR_of (by kernel_rfl)) (by kernel_rfl)), rfl⟩ ?_
    · rintro n_ l4_m11 _ c_ rfl h hn4
      (try dsimp only at h)
      unfold L_spec_l1All_l1 at h
      unfold m_spec_l1All_l1
      refine awp_seqv_ ?_
      refine awp_region_ 3 (by kernel_rfl) ?_
      refine rs0 (.bool (decide (((l4_m11 : Nat) : Int) < ((a0.length : Nat) : Int)))) (by kernel_rfl) ?_
      refine rnil (tn_ ?_)
      refine ⟨_, Weak.refl _, ?_⟩
      refine awp_seqv_ ?_
      rcases cond_some h with ⟨q7, h⟩ | ⟨q7, h⟩
      · have q7_ := of_decide_eq_true q7
        refine awp_condT_ q7 (by kernel_rfl) ?_
        refine awp_skip_ (tn_ ?_)
        refine ⟨_, Weak.refl _, ?_⟩
        refine awp_seqv_ ?_
        refine awp_block_ ?_
        refine awp_seqv_ ?_
        obtain ⟨x10, e10, h⟩ := ob_some h
        refine awp_region_ 6 (by kernel_rfl) ?_
        refine rs0 (.telt .int x10 0) (s_idxT (t := .int) (xs := a0) (k := .i64) (m := ((l4_m11 : Nat) : Int)) (by kernel_rfl) (by kernel_rfl) rfl (nat_nn _) rfl e10) ?_
        refine rs0 (.int .i64 x10) (by kernel_rfl) ?_
        refine rs0 (.int .i64 x10) (by kernel_rfl) ?_
        refine rnil (tn_ ?_)
        refine ⟨_, Weak.refl _, ?_⟩
        refine awp_seqv_ ?_
        obtain ⟨y12, h12, h⟩ := ob_some h
        refine awp_region_ 11 (by kernel_rfl) ?_
        refine rs0 (.int .i64 x10) (by kernel_rfl) ?_
        refine rs0 (.int .i64 a1) (by kernel_rfl) ?_
        refine rs0 (.int .i64 a2) (by kernel_rfl) ?_
        refine rcall (.bool y12) [] [(.int .i64 x10), (.int .i64 a1), (.int .i64 a2)] _ (caps := []) (args0 := [(.int .i64 x10), (.int .i64 a1), (.int .i64 a2)]) trivial (by kernel_rfl) (by kernel_rfl) (by kernel_rfl) (by kernel_rfl) (ok_spec_l1In h12) hb_spec_l1In (by kernel_rfl) ?_
        refine rs0 (.bool (!y12)) (by kernel_rfl) ?_
        refine rnil (tn_ ?_)
        refine ⟨_, Weak.refl _, ?_⟩
        rcases cond_some h with ⟨q13, h⟩ | ⟨q13, h⟩
        · refine awp_condT_ q13 (by kernel_rfl) ?_
          refine awp_seqv_ ?_
          refine awp_region_ 12 (by kernel_rfl) ?_
          refine rs0 (.bool false) (by kernel_rfl) ?_
          refine rnil (tn_ ?_)
          refine ⟨_, Weak.refl _, ?_⟩
          refine awp_ret_ (br_ (tr_ (tr_ (br_ (tr_ ?_)))))
          obtain rfl := Option.some.inj h
          have h := hn4
          (try dsimp only at h)
          obtain rfl := Option.some.inj h
          have h := hk2
          (try dsimp only at h)
          obtain rfl := Option.some.inj h
          exact ret_ [(.bool false)] (by simp) (by kernel_rfl) (p_one rfl (l_sc (by kernel_rfl)) p_nil) (by kernel_rfl) (by kernel_rfl)
        · refine awp_condF_ q13 (by kernel_rfl) ?_
          refine awp_skip_ (bn_ (tn_ ?_))
          refine ⟨_, Weak.refl _, ?_⟩
          obtain ⟨g15, h⟩ := og_some h
          refine awp_region_ 13 (by kernel_rfl) ?_
          refine rs0 (.int .i64 ((l4_m11 + 1 : Nat) : Int)) (s_add1 (j := l4_m11) (by kernel_rfl) (by kernel_rfl) g15) ?_
          refine rs0 (.int .i64 ((l4_m11 + 1 : Nat) : Int)) (by kernel_rfl) ?_
          refine rnil (tn_ ?_)
          obtain rfl := Option.some.inj h
          exact ⟨l4_m11 + 1, _, (weak_ren [] (by kernel_rfl) (obsR_of (by kernel_rfl)) (by kernel_rfl)), rfl, hn4⟩
      · have q7_ := of_decide_eq_false q7
        refine awp_condF_ q7 (by kernel_rfl) ?_
        refine awp_exit_ (te_ (te_ (be_ (tn_ ?_))))
        obtain rfl := Option.some.inj h
        have h := hn4
        (try dsimp only at h)
        obtain rfl := Option.some.inj h
        exact ⟨(), _, rfl, (weak_ren [] (by kernel_rfl) (obsR_of (by kernel_rfl)) (by kernel_rfl)), rfl⟩
  · rintro _ _ rfl h
    (try dsimp only at h)
    refine awp_seqv_ ?_
    refine awp_region_ 3 (by kernel_rfl) ?_
    refine rs0 (.bool true) (by kernel_rfl) ?_
    refine rnil (tn_ ?_)
    refine ⟨_, Weak.refl _, ?_⟩
    refine awp_ret_ ?_
    obtain rfl := Option.some.inj h
    exact ret_ [(.bool true)] (by simp) (by kernel_rfl) (p_one rfl (l_sc (by kernel_rfl)) p_nil) (by kernel_rfl) (by kernel_rfl)
def m_spec_nwGood_l1 : AC :=
  (.seq (.region [⟨(some 56), none, (.i (.bin .lss (.tmp 55) (.tmp 54)))⟩] false [])
  (.seq (.cond (.tmp 56)
    .skip
    (.exit 0))
  (.seq (.block 1 (.seq (.region [⟨(some 57), none, (.i (.idx 3 (.tmp 53) (.tmp 55)))⟩, ⟨(some 58), none, (.i (.ld false 3 (.tmp 57)))⟩, ⟨(some 6), none, (.i (.alloc 59 [(.int .i64 0), (.int .i64 0), (.int .i64 0)]))⟩, ⟨none, none, (.st false 3 (.tmp 6) (.tmp 58))⟩] false [])
  (.seq (.region [⟨(some 59), none, (.i (.fld 0 (.tmp 6)))⟩, ⟨(some 60), none, (.i (.ld true 1 (.tmp 59)))⟩, ⟨(some 61), none, (.i (.fld 0 (.tmp 3)))⟩, ⟨(some 62), none, (.i (.ld true 1 (.tmp 61)))⟩, ⟨(some 63), none, (.i (.bin .sub (.tmp 62) (.cst (.int .i64 1))))⟩, ⟨(some 64), none, (.call (.cst (.fn 85 [])) [(.tmp 60), (.cst (.int .i64 0)), (.tmp 63)] [[], [], []])⟩, ⟨(some 65), none, (.i (.not (.tmp 64)))⟩, ⟨(some 66), none, (.i (.mov (.tmp 65)))⟩, ⟨(some 67), (some (66, false)), (.i (.fld 1 (.tmp 6)))⟩, ⟨(some 68), (some (66, false)), (.i (.ld true 1 (.tmp 67)))⟩, ⟨(some 69), (some (66, false)), (.i (.fld 0 (.tmp 3)))⟩, ⟨(some 70), (some (66, false)), (.i (.ld true 1 (.tmp 69)))⟩, ⟨(some 71), (some (66, false)), (.i (.bin .sub (.tmp 70) (.cst (.int .i64 1))))⟩, ⟨(some 72), (some (66, false)), (.call (.cst (.fn 85 [])) [(.tmp 68), (.cst (.int .i64 0)), (.tmp 71)] [[], [], []])⟩, ⟨(some 73), (some (66, false)), (.i (.not (.tmp 72)))⟩, ⟨(some 74), none, (.i (.pick (.tmp 66) (.cst (.bool true)) (.tmp 73)))⟩, ⟨(some 75), none, (.i (.mov (.tmp 74)))⟩, ⟨(some 76), (some (75, false)), (.i (.fld 0 (.tmp 6)))⟩, ⟨(some 77), (some (75, false)), (.i (.ld true 1 (.tmp 76)))⟩, ⟨(some 78), (some (75, false)), (.i (.fld 1 (.tmp 6)))⟩, ⟨(some 79), (some (75, false)), (.i (.ld true 1 (.tmp 78)))⟩, ⟨(some 80), (some (75, false)), (.i (.bin .eql (.tmp 77) (.tmp 79)))⟩, ⟨(some 81), none, (.i (.pick (.tmp 75) (.cst (.bool true)) (.tmp 80)))⟩, ⟨(some 82), none, (.i (.mov (.tmp 81)))⟩, ⟨(some 83), (some (82, false)), (.i (.fld 2 (.tmp 6)))⟩, ⟨(some 84), (some (82, false)), (.i (.ld true 1 (.tmp 83)))⟩, ⟨(some 85), (some (82, false)), (.i (.mov (.tmp 0)))⟩, ⟨(some 86), (some (82, false)), (.i (.bin .sub (.tmp 85) (.cst (.int .i64 1))))⟩, ⟨(some 87), (some (82, false)), (.call (.cst (.fn 85 [])) [(.tmp 84), (.cst (.int .i64 1)), (.tmp 86)] [[], [], []])⟩, ⟨(some 88), (some (82, false)), (.i (.not (.tmp 87)))⟩, ⟨(some 89), none, (.i (.pick (.tmp 82) (.cst (.bool true)) (.tmp 88)))⟩] false [])
  (.cond (.tmp 89)
    (.seq (.region [⟨(some 4), none, (.i (.mov (.cst (.bool false))))⟩] false [])
    .ret)
    .skip))))
  (.region [⟨(some 90), none, (.i (.bin .add (.tmp 55) (.cst (.int .i64 1))))⟩, ⟨(some 55), none, (.i (.mov (.tmp 90)))⟩] false []))))
def m_spec_nwGood : AC :=
  (.seq (.region [⟨(some 3), none, (.i (.box 30 (.tmp 1)))⟩, ⟨(some 4), none, (.i (.mov (.cst (.bool false))))⟩] false [])
  (.seq (.seq (.region [⟨(some 7), none, (.i (.mov (.tmp 0)))⟩, ⟨(some 8), none, (.call (.cst (.fn 84 [])) [(.tmp 7)] [[]])⟩, ⟨(some 9), none, (.i (.not (.tmp 8)))⟩, ⟨(some 10), none, (.i (.mov (.tmp 9)))⟩, ⟨(some 11), (some (10, false)), (.i (.fld 0 (.tmp 3)))⟩, ⟨(some 12), (some (10, false)), (.i (.ld true 1 (.tmp 11)))⟩, ⟨(some 13), (some (10, false)), (.call (.cst (.fn 85 [])) [(.tmp 12), (.cst (.int .i64 1)), (.cst (.int .i64 20))] [[], [], []])⟩, ⟨(some 14), (some (10, false)), (.i (.not (.tmp 13)))⟩, ⟨(some 15), none, (.i (.pick (.tmp 10) (.cst (.bool true)) (.tmp 14)))⟩, ⟨(some 16), none, (.i (.mov (.tmp 15)))⟩, ⟨(some 17), (some (16, false)), (.i (.fld 1 (.tmp 3)))⟩, ⟨(some 18), (some (16, false)), (.i (.ld true 1 (.tmp 17)))⟩, ⟨(some 19), (some (16, false)), (.i (.len (.tmp 18)))⟩, ⟨(some 20), (some (16, false)), (.i (.bin .gtr (.tmp 19) (.cst (.int .i64 60))))⟩, ⟨(some 21), none, (.i (.pick (.tmp 16) (.cst (.bool true)) (.tmp 20)))⟩, ⟨(some 22), none, (.i (.mov (.tmp 21)))⟩, ⟨(some 23), (some (22, false)), (.i (.fld 2 (.tmp 3)))⟩, ⟨(some 24), (some (22, false)), (.i (.ld true 1 (.tmp 23)))⟩, ⟨(some 25), (some (22, false)), (.i (.len (.tmp 24)))⟩, ⟨(some 26), (some (22, false)), (.i (.bin .gtr (.tmp 25) (.cst (.int .i64 6))))⟩, ⟨(some 27), none, (.i (.pick (.tmp 22) (.cst (.bool true)) (.tmp 26)))⟩, ⟨(some 28), none, (.i (.mov (.tmp 27)))⟩, ⟨(some 29), (some (28, false)), (.i (.fld 3 (.tmp 3)))⟩, ⟨(some 30), (some (28, false)), (.i (.ld true 1 (.tmp 29)))⟩, ⟨(some 31), (some (28, false)), (.i (.len (.tmp 30)))⟩, ⟨(some 32), (some (28, false)), (.i (.bin .gtr (.tmp 31) (.cst (.int .i64 6))))⟩, ⟨(some 33), none, (.i (.pick (.tmp 28) (.cst (.bool true)) (.tmp 32)))⟩, ⟨(some 34), none, (.i (.mov (.tmp 33)))⟩, ⟨(some 35), (some (34, false)), (.i (.fld 2 (.tmp 3)))⟩, ⟨(some 36), (some (34, false)), (.i (.ld true 1 (.tmp 35)))⟩, ⟨(some 37), (some (34, false)), (.i (.fld 0 (.tmp 3)))⟩, ⟨(some 38), (some (34, false)), (.i (.ld true 1 (.tmp 37)))⟩, ⟨(some 39), (some (34, false)), (.i (.bin .sub (.tmp 38) (.cst (.int .i64 1))))⟩, ⟨(some 40), (some (34, false)), (.call (.cst (.fn 86 [])) [(.tmp 36), (.cst (.int .i64 0)), (.tmp 39)] [[(some .int)], [], []])⟩, ⟨(some 41), (some (34, false)), (.i (.not (.tmp 40)))⟩, ⟨(some 42), none, (.i (.pick (.tmp 34) (.cst (.bool true)) (.tmp 41)))⟩, ⟨(some 43), none, (.i (.mov (.tmp 42)))⟩, ⟨(some 44), (some (43, false)), (.i (.fld 3 (.tmp 3)))⟩, ⟨(some 45), (some (43, false)), (.i (.ld true 1 (.tmp 44)))⟩, ⟨(some 46), (some (43, false)), (.i (.fld 0 (.tmp 3)))⟩, ⟨(some 47), (some (43, false)), (.i (.ld true 1 (.tmp 46)))⟩, ⟨(some 48), (some (43, false)), (.i (.bin .sub (.tmp 47) (.cst (.int .i64 1))))⟩, ⟨(some 49), (some (43, false)), (.call (.cst (.fn 86 [])) [(.tmp 45), (.cst (.int .i64 0)), (.tmp 48)] [[(some .int)], [], []])⟩, ⟨(some 50), (some (43, false)), (.i (.not (.tmp 49)))⟩, ⟨(some 51), none, (.i (.pick (.tmp 43) (.cst (.bool true)) (.tmp 50)))⟩] false [])
  (.cond (.tmp 51)
    (.seq (.region [⟨(some 4), none, (.i (.mov (.cst (.bool false))))⟩] false [])
    .ret)
    .skip))
  (.seq (.seq (.region [⟨(some 52), none, (.i (.fld 1 (.tmp 3)))⟩, ⟨(some 53), none, (.i (.ld true 1 (.tmp 52)))⟩, ⟨(some 54), none, (.i (.len (.tmp 53)))⟩, ⟨(some 55), none, (.i (.mov (.cst (.int .i64 0))))⟩] false [])
  (.block 0 (.loop m_spec_nwGood_l1)))
  (.seq (.region [⟨(some 4), none, (.i (.mov (.cst (.bool true))))⟩] false [])
  .ret))))
def r_spec_nwGood : List Res := [.tmp 4]
theorem c_spec_nwGood : compiled Tryd.prog Tryd.f42 = some (m_spec_nwGood, r_spec_nwGood) := by kernel_rfl
theorem hb_spec_nwGood : hasBody Tryd.prog 42 = true := by kernel_rfl
def L_spec_nwGood_l1 (a1_1 : List (Int × Int × Int)) (a1_0 : Int) (a0 : Int) (l18_m55 : Nat) : Option (Ctl Nat (Ctl Unit Bool)) :=
  cond (decide (((l18_m55 : Nat) : Int) < ((a1_1.length : Nat) : Int)))
  (Option.bind (a1_1[l18_m55]?) fun x24 =>
  Option.bind (Option.bind (L_spec_l1In x24.1 0 (IntKind.i64.wrap (a1_0 - 1))) fun y26 =>
    cond (!y26)
      (some true)
      (Option.bind (L_spec_l1In x24.2.1 0 (IntKind.i64.wrap (a1_0 - 1))) fun y28 =>
      cond (!y28)
        (some true)
        (cond (x24.1 == x24.2.1)
          (some true)
          (Option.bind (L_spec_l1In x24.2.2 1 (IntKind.i64.wrap (a0 - 1))) fun y31 =>
          some (!y31))))) fun l25_m89 =>
  cond l25_m89
    (some (Ctl.out (Ctl.out false)))
    (og (l18_m55 + 1 < 4611686018427387904) <|
    some (Ctl.next (l18_m55 + 1))))
  (some (Ctl.out (Ctl.next ())))
def L_spec_nwGood (a0 : Int) (a1_0 : Int) (a1_1 : List (Int × Int × Int)) (a1_2 : List Int) (a1_3 : List Int) : Option Bool :=
  Option.bind (Option.bind (L_spec_fdGood a0) fun y4 =>
  cond (!y4)
    (some true)
    (Option.bind (L_spec_l1In a1_0 1 20) fun y6 =>
    cond (!y6)
      (some true)
      (cond (decide (60 < ((a1_1.length : Nat) : Int)))
        (some true)
        (cond (decide (6 < ((a1_2.length : Nat) : Int)))
          (some true)
          (cond (decide (6 < ((a1_3.length : Nat) : Int)))
            (some true)
            (Option.bind (L_spec_l1All a1_2 0 (IntKind.i64.wrap (a1_0 - 1))) fun y11 =>
            cond (!y11)
              (some true)
              (Option.bind (L_spec_l1All a1_3 0 (IntKind.i64.wrap (a1_0 - 1))) fun y13 =>
              some (!y13)))))))) fun l3_m51 =>
cond l3_m51
  (some false)
  (seqC (loopM (fun s_ : Nat => L_spec_nwGood_l1 a1_1 a1_0 a0 s_) 4611686018427387904 0) fun _ =>
  some true)
def rv_spec_nwGood (r : Bool) : RV := ⟨false, [(false, [.sc (.bool r)])]⟩
theorem ok_spec_nwGood {a0 : Int} {a1_0 : Int} {a1_1 : List (Int × Int × Int)} {a1_2 : List Int} {a1_3 : List Int} {r : Bool} (h : L_spec_nwGood a0 a1_0 a1_1 a1_2 a1_3 = some r) : CallOK Tryd.prog Tab 42 [(.int .i64 a0), (.agg [(.int .i64 a1_0), (.tree (.pair .int (.pair .int .int)) a1_1), (.tree .int a1_2), (.tree .int a1_3)])] (rv_spec_nwGood r) := by
  refine call_of_ (by kernel_rfl) Tryd.func42 c_spec_nwGood (n := 91) (by kernel_rfl) (by simp) (tl := [(0, (.int .i64 a0)), (1, (.agg [(.int .i64 a1_0), (.tree (.pair .int (.pair .int .int)) a1_1), (.tree .int a1_2), (.tree .int a1_3)]))]) rfl ?_
  unfold m_spec_nwGood
  unfold L_spec_nwGood at h
  refine awp_seqv_ ?_
  refine awp_region_ 3 (by kernel_rfl) ?_
  refine rs1 (.box ((3, 0), 1) 0) ((3, 0), 1) (.cells 30 [(.int .i64 a1_0), (.tree (.pair .int (.pair .int .int)) a1_1), (.tree .int a1_2), (.tree .int a1_3)]) (by kernel_rfl) ?_
  refine rs0 (.bool false) (by kernel_rfl) ?_
  refine rnil (tn_ ?_)
  refine ⟨_, Weak.refl _, ?_⟩
  refine awp_seqv_ ?_
  refine awp_seqB h (fun (l3_m51 : Bool) S_ => S_ = ⟨mkTm [(0, (.int .i64 a0)), (3, (.box ((0, 0), 1) 0)), (51, (.bool l3_m51))], mkOb (someL [(((0, 0), 1), .cells 30 [(.int .i64 a1_0), (.tree (.pair .int (.pair .int .int)) a1_1), (.tree .int a1_2), (.tree .int a1_3)])]), 2⟩) ?_ ?_
  · intro v_ h
    obtain ⟨y4, h4, h⟩ := ob_some h
    rcases cond_some h with ⟨q5, h⟩ | ⟨q5, h⟩
    · refine awp_region_ 48 (by kernel_rfl) ?_
      refine rs0 (.int .i64 a0) (by kernel_rfl) ?_
      refine rcall (.bool y4) [] [(.int .i64 a0)] _ (caps := []) (args0 := [(.int .i64 a0)]) trivial (by kernel_rfl) (by kernel_rfl) (by kernel_rfl) (by kernel_rfl) (ok_spec_fdGood h4) hb_spec_fdGood (by kernel_rfl) ?_
      refine rs0 (.bool (!y4)) (by kernel_rfl) ?_
      refine rs0 (.bool (!y4)) (by kernel_rfl) ?_
      refine rs0 (.tup []) (s_skip (by kernel_rfl) q5) ?_
      refine rs0 (.tup []) (s_skip (by kernel_rfl) q5) ?_
      refine rs0 (.tup []) (s_skip (by kernel_rfl) q5) ?_
      refine rs0 (.tup []) (s_skip (by kernel_rfl) q5) ?_
      refine rs0 (.bool true) (s_pickT (by kernel_rfl) q5) ?_
      refine rs0 (.bool true) (by kernel_rfl) ?_
      refine rs0 (.tup []) (by kernel_rfl) ?_
      refine rs0 (.tup []) (by kernel_rfl) ?_
      refine rs0 (.tup []) (by kernel_rfl) ?_
      refine rs0 (.tup []) (by kernel_rfl) ?_
      refine rs0 (.bool true) (by kernel_rfl) ?_
      refine rs0 (.bool true) (by kernel_rfl) ?_
      refine rs0 (.tup []) (by kernel_rfl) ?_
      refine rs0 (.tup []) (by kernel_rfl) ?_
      refine rs0 (.tup []) (by kernel_rfl) ?_
      refine rs0 (.tup []) (by kernel_rfl) ?_
      refine rs0 (.bool true) (by kernel_rfl) ?_
      refine rs0 (.bool true) (by kernel_rfl) ?_
      refine rs0 (.tup []) (by kernel_rfl) ?_
      refine rs0 (.tup []) (by kernel_rfl) ?_
      refine rs0 (.tup []) (by kernel_rfl) ?_
      refine rs0 (.tup []) (by kernel_rfl) ?_
      refine rs0 (.bool true) (by kernel_rfl) ?_
      refine rs0 (.bool true) (by kernel_rfl) ?_
      refine rs0 (.tup []) (by kernel_rfl) ?_
      refine rs0 (.tup []) (by kernel_rfl) ?_
      refine rs0 (.tup []) (by kernel_rfl) ?_
      refine rs0 (.tup []) (by kernel_rfl) ?_
      refine rs0 (.tup []) (by kernel_rfl) ?_
      refine rs0 (.tup []) (by kernel_rfl) ?_
      refine rs0 (.tup []) (by kernel_rfl) ?_
      refine rs0 (.bool true) (by kernel_rfl) ?_
      refine rs0 (.bool true) (by kernel_rfl) ?_
      refine rs0 (.tup []) (by kernel_rfl) ?_
      refine rs0 (.tup []) (by kernel_rfl) ?_
      refine rs0 (.tup []) (by kernel_rfl) ?_
      refine rs0 (.tup []) (by kernel_rfl) ?_
      refine rs0 (.tup []) (by kernel_rfl) ?_
      refine rs0 (.tup []) (by kernel_rfl) ?_
      refine rs0 (.tup []) (by kernel_rfl) ?_
      refine rs0 (.bool true) (by kernel_rfl) ?_
      refine rnil (tn_ ?_)
      obtain rfl := Option.some.inj h
      exact ⟨_, (weak_ren [(((0, 0), 1), ((3, 0), 1))] (by kernel_rfl) (obsR_of (by kernel_rfl)) (by kernel_rfl)), rfl⟩
    · obtain ⟨y6, h6, h⟩ := ob_some h
      rcases cond_some h with ⟨q7, h⟩ | ⟨q7, h⟩
      · refine awp_region_ 48 (by kernel_rfl) ?_
        refine rs0 (.int .i64 a0) (by kernel_rfl) ?_
        refine rcall (.bool y4) [] [(.int .i64 a0)] _ (caps := []) (args0 := [(.int .i64 a0)]) trivial (by kernel_rfl) (by kernel_rfl) (by kernel_rfl) (by kernel_rfl) (ok_spec_fdGood h4) hb_spec_fdGood (by kernel_rfl) ?_
        refine rs0 (.bool (!y4)) (by kernel_rfl) ?_
        refine rs0 (.bool (!y4)) (by kernel_rfl) ?_
        refine rs0 (.box ((3, 0), 1) 0) (s_gd (by kernel_rfl) q5 (by kernel_rfl)) ?_
        refine rsl (.int .i64 a1_0) (s_gd (by kernel_rfl) q5 (by kernel_rfl)) ?_
        refine rcall (.bool y6) [] [(.int .i64 a1_0), (.int .i64 1), (.int .i64 20)] _ (caps := []) (args0 := [(.int .i64 a1_0), (.int .i64 1), (.int .i64 20)]) (gdOK_b (by kernel_rfl) q5) (by kernel_rfl) (by kernel_rfl) (by kernel_rfl) (by kernel_rfl) (ok_spec_l1In h6) hb_spec_l1In (by kernel_rfl) ?_
        refine rs0 (.bool (!y6)) (s_gd (by kernel_rfl) q5 (by kernel_rfl)) ?_
        refine rs0 (.bool (!y6)) (s_pickF (by kernel_rfl) q5) ?_
        refine rs0 (.bool (!y6)) (by kernel_rfl) ?_
        refine rs0 (.tup []) (s_skip (by kernel_rfl) q7) ?_
        refine rs0 (.tup []) (s_skip (by kernel_rfl) q7) ?_
        refine rs0 (.tup []) (s_skip (by kernel_rfl) q7) ?_
        refine rs0 (.tup []) (s_skip (by kernel_rfl) q7) ?_
        refine rs0 (.bool true) (s_pickT (by kernel_rfl) q7) ?_
        refine rs0 (.bool true) (by kernel_rfl) ?_
        refine rs0 (.tup []) (by kernel_rfl) ?_
        refine rs0 (.tup []) (by kernel_rfl) ?_
        refine rs0 (.tup []) (by kernel_rfl) ?_
        refine rs0 (.tup []) (by kernel_rfl) ?_
        refine rs0 (.bool true) (by kernel_rfl) ?_
        refine rs0 (.bool true) (by kernel_rfl) ?_
        refine rs0 (.tup []) (by kernel_rfl) ?_
        refine rs0 (.tup []) (by kernel_rfl) ?_
        refine rs0 (.tup []) (by kernel_rfl) ?_
        refine rs0 (.tup []) (by kernel_rfl) ?_
        refine rs0 (.bool true) (by kernel_rfl) ?_
        refine rs0 (.bool true) (by kernel_rfl) ?_
        refine rs0 (.tup []) (by kernel_rfl) ?_
        refine rs0 (.tup []) (by kernel_rfl) ?_
        refine rs0 (.tup []) (by kernel_rfl) ?_
        refine rs0 (.tup []) (by kernel_rfl) ?_
        refine rs0 (.tup []) (by kernel_rfl) ?_
        refine rs0 (.tup []) (by kernel_rfl) ?_
        refine rs0 (.tup []) (by kernel_rfl) ?_
        refine rs0 (.bool true) (by kernel_rfl) ?_
        refine rs0 (.bool true) (by kernel_rfl) ?_
        refine rs0 (.tup []) (by kernel_rfl) ?_
        refine rs0 (.tup []) (by kernel_rfl) ?_
        refine rs0 (.tup []) (by kernel_rfl) ?_
        refine rs0 (.tup []) (by kernel_rfl) ?_
        refine rs0 (.tup []) (by kernel_rfl) ?_
        refine rs0 (.tup []) (by kernel_rfl) ?_
        refine rs0 (.tup []) (by kernel_rfl) ?_
        refine rs0 (.bool true) (by kernel_rfl) ?_
        refine rnil (tn_ ?_)
        obtain rfl := Option.some.inj h
        exact ⟨_, (weak_ren [(((0, 0), 1), ((3, 0), 1))] (by kernel_rfl) (obsR_of (by kernel_rfl)) (by kernel_rfl)), rfl⟩
      · rcases cond_some h with ⟨q8, h⟩ | ⟨q8, h⟩
        · have q8_ := of_decide_eq_true q8
          refine awp_region_ 48 (by kernel_rfl) ?_
          refine rs0 (.int .i64 a0) (by kernel_rfl) ?_
          refine rcall (.bool y4) [] [(.int .i64 a0)] _ (caps := []) (args0 := [(.int .i64 a0)]) trivial (by kernel_rfl) (by kernel_rfl) (by kernel_rfl) (by kernel_rfl) (ok_spec_fdGood h4) hb_spec_fdGood (by kernel_rfl) ?_
          refine rs0 (.bool (!y4)) (by kernel_rfl) ?_
          refine rs0 (.bool (!y4)) (by kernel_rfl) ?_
          refine rs0 (.box ((3, 0), 1) 0) (s_gd (by kernel_rfl) q5 (by kernel_rfl)) ?_
          refine rsl (.int .i64 a1_0) (s_gd (by kernel_rfl) q5 (by kernel_rfl)) ?_
          refine rcall (.bool y6) [] [(.int .i64 a1_0), (.int .i64 1), (.int .i64 20)] _ (caps := []) (args0 := [(.int .i64 a1_0), (.int .i64 1), (.int .i64 20)]) (gdOK_b (by kernel_rfl) q5) (by kernel_rfl) (by kernel_rfl) (by kernel_rfl) (by kernel_rfl) (ok_spec_l1In h6) hb_spec_l1In (by kernel_rfl) ?_
          refine rs0 (.bool (!y6)) (s_gd (by kernel_rfl) q5 (by kernel_rfl)) ?_
          refine rs0 (.bool (!y6)) (s_pickF (by kernel_rfl) q5) ?_
          refine rs0 (.bool (!y6)) (by kernel_rfl) ?_
          refine rs0 (.box ((3, 0), 1) 1) (s_gd (by kernel_rfl) q7 (by kernel_rfl)) ?_
          refine rsl (.tree (.pair .int (.pair .int .int)) a1_1) (s_gd (by kernel_rfl) q7 (by kernel_rfl)) ?_
          refine rs0 (.int .i64 ((a1_1.length : Nat) : Int)) (s_gd (by kernel_rfl) q7 (by kernel_rfl)) ?_
          refine rs0 (.bool (decide (60 < ((a1_1.length : Nat) : Int)))) (s_gd (by kernel_rfl) q7 (by kernel_rfl)) ?_
          refine rs0 (.bool (decide (60 < ((a1_1.length : Nat) : Int)))) (s_pickF (by kernel_rfl) q7) ?_
          refine rs0 (.bool (decide (60 < ((a1_1.length : Nat) : Int)))) (by kernel_rfl) ?_
          refine rs0 (.tup []) (s_skip (by kernel_rfl) q8) ?_
          refine rs0 (.tup []) (s_skip (by kernel_rfl) q8) ?_
          refine rs0 (.tup []) (s_skip (by kernel_rfl) q8) ?_
          refine rs0 (.tup []) (s_skip (by kernel_rfl) q8) ?_
          refine rs0 (.bool true) (s_pickT (by kernel_rfl) q8) ?_
          refine rs0 (.bool true) (by kernel_rfl) ?_
          refine rs0 (.tup []) (by kernel_rfl) ?_
          refine rs0 (.tup []) (by kernel_rfl) ?_
          refine rs0 (.tup []) (by kernel_rfl) ?_
          refine rs0 (.tup []) (by kernel_rfl) ?_
          refine rs0 (.bool true) (by kernel_rfl) ?_
          refine rs0 (.bool true) (by kernel_rfl) ?_
          refine rs0 (.tup []) (by kernel_rfl) ?_
          refine rs0 (.tup []) (by kernel_rfl) ?_
          refine rs0 (.tup []) (by kernel_rfl) ?_
          refine rs0 (.tup []) (by kernel_rfl) ?_
          refine rs0 (.tup []) (by kernel_rfl) ?_
          refine rs0 (.tup []) (by kernel_rfl) ?_
          refine rs0 (.tup []) (by kernel_rfl) ?_
          refine rs0 (.bool true) (by kernel_rfl) ?_
          refine rs0 (.bool true) (by kernel_rfl) ?_
          refine rs0 (.tup []) (by kernel_rfl) ?_
          refine rs0 (.tup []) (by kernel_rfl) ?_
          refine rs0 (.tup []) (by kernel_rfl) ?_
          refine rs0 (.tup []) (by kernel_rfl) ?_
          refine rs0 (.tup []) (by kernel_rfl) ?_
          refine rs0 (.tup []) (by kernel_rfl) ?_
          refine rs0 (.tup []) (by kernel_rfl) ?_
          refine rs0 (.bool true) (by kernel_rfl) ?_
          refine rnil (tn_ ?_)
          obtain rfl := Option.some.inj h
          exact ⟨_, (weak_ren [(((0, 0), 1), ((3, 0), 1))] (by kernel_rfl) (obsR_of (by kernel_rfl)) (by kernel_rfl)), rfl⟩
        · have q8_ := of_decide_eq_false q8
          rcases cond_some h with ⟨q9, h⟩ | ⟨q9, h⟩
          · have q9_ := of_decide_eq_true q9
            refine awp_region_ 48 (by kernel_rfl) ?_
            refine rs0 (.int .i64 a0) (by kernel_rfl) ?_
            refine rcall (.bool y4) [] [(.int .i64 a0)] _ (caps := []) (args0 := [(.int .i64 a0)]) trivial (by kernel_rfl) (by kernel_rfl) (by kernel_rfl) (by kernel_rfl) (ok_spec_fdGood h4) hb_spec_fdGood (by kernel_rfl) ?_
            refine rs0 (.bool (!y4)) (by kernel_rfl) ?_
            refine rs0 (.bool (!y4)) (by kernel_rfl) ?_
            refine rs0 (.box ((3, 0), 1) 0) (s_gd (by kernel_rfl) q5 (by kernel_rfl)) ?_
            refine rsl (.int .i64 a1_0) (s_gd (by kernel_rfl) q5 (by kernel_rfl)) ?_
            refine rcall (.bool y6) [] [(.int .i64 a1_0), (.int .i64 1), (.int .i64 20)] _ (caps := []) (args0 := [(.int .i64 a1_0), (.int .i64 1), (.int .i64 20)]) (gdOK_b (by kernel_rfl) q5) (by kernel_rfl) (by kernel_rfl) (by kernel_rfl) (by kernel_rfl) (ok_spec_l1In h6) hb_spec_l1In (by kernel_rfl) ?_
            refine rs0 (.bool (!y6)) (s_gd (by kernel_rfl) q5 (by kernel_rfl)) ?_
            refine rs0 (.bool (!y6)) (s_pickF (by kernel_rfl) q5) ?_
            refine rs0 (.bool (!y6)) (by kernel_rfl) ?_
            refine rs0 (.box ((3, 0), 1) 1) (s_gd (by kernel_rfl) q7 (by kernel_rfl)) ?_
            refine rsl (.tree (.pair .int (.pair .int .int)) a1_1) (s_gd (by kernel_rfl) q7 (by kernel_rfl)) ?_
            refine rs0 (.int .i64 ((a1_1.length : Nat) : Int)) (s_gd (by kernel_rfl) q7 (by kernel_rfl)) ?_
            refine rs0 (.bool (decide (60 < ((a1_1.length : Nat) : Int)))) (s_gd (by kernel_rfl) q7 (by kernel_rfl)) ?_
            refine rs0 (.bool (decide (60 < ((a1_1.length : Nat) : Int)))) (s_pickF (by kernel_rfl) q7) ?_
            refine rs0 (.bool (decide (60 < ((a1_1.length : Nat) : Int)))) (by kernel_rfl) ?_
            refine rs0 (.box ((3, 0), 1) 2) (s_gd (by kernel_rfl) q8 (by kernel_rfl)) ?_
            refine rsl (.tree .int a1_2) (s_gd (by kernel_rfl) q8 (by kernel_rfl)) ?_
            refine rs0 (.int .i64 ((a1_2.length : Nat) : Int)) (s_gd (by kernel_rfl) q8 (by kernel_rfl)) ?_
            refine rs0 (.bool (decide (6 < ((a1_2.length : Nat) : Int)))) (s_gd (by kernel_rfl) q8 (by kernel_rfl)) ?_
            refine rs0 (.bool (decide (6 < ((a1_2.length : Nat) : Int)))) (s_pickF (by kernel_rfl) q8) ?_
            refine rs0 (.bool (decide (6 < ((a1_2.length : Nat) : Int)))) (by kernel_rfl) ?_
            refine rs0 (.tup []) (s_skip (by kernel_rfl) q9) ?_
            refine rs0 (.tup []) (s_skip (by kernel_rfl) q9) ?_
            refine rs0 (.tup []) (s_skip (by kernel_rfl) q9) ?_
            refine rs0 (.tup []) (s_skip (by kernel_rfl) q9) ?_
            refine rs0 (.bool true) (s_pickT (by kernel_rfl) q9) ?_
            refine rs0 (.bool true) (by kernel_rfl) ?_
            refine rs0 (.tup []) (by kernel_rfl) ?_
            refine rs0 (.tup []) (by kernel_rfl) ?_
            refine rs0 (.tup []) (by kernel_rfl) ?_
            refine rs0 (.tup []) (by kernel_rfl) ?_
            refine rs0 (.tup []) (by kernel_rfl) ?_
            refine rs0 (.tup []) (by kernel_rfl) ?_
            refine rs0 (.tup []) (by kernel_rfl) ?_
            refine rs0 (.bool true) (by kernel_rfl) ?_
            refine rs0 (.bool true) (by kernel_rfl) ?_
            refine rs0 (.tup []) (by kernel_rfl) ?_
            refine rs0 (.tup []) (by kernel_rfl) ?_
            refine rs0 (.tup []) (by kernel_rfl) ?_
            refine rs0 (.tup []) (by kernel_rfl) ?_
            refine rs0 (.tup []) (by kernel_rfl) ?_
            refine rs0 (.tup []) (by kernel_rfl) ?_
            refine rs0 (.tup []) (by kernel_rfl) ?_
            refine rs0 (.bool true) (by kernel_rfl) ?_
            refine rnil (tn_ ?_)
            obtain rfl := Option.some.inj h
            exact ⟨_, (weak_ren [(((0, 0), 1), ((3, 0), 1))] (by kernel_rfl) (obsR_of (by kernel_rfl)) (by kernel_rfl)), rfl⟩
          · have q9_ := of_decide_eq_false q9
            rcases cond_some h with ⟨q10, h⟩ | ⟨q10, h⟩
            · have q10_ := of_decide_eq_true q10
              refine awp_region_ 48 (by kernel_rfl) ?_
              refine rs0 (.int .i64 a0) (by kernel_rfl) ?_
              refine rcall (.bool y4) [] [(.int .i64 a0)] _ (caps := []) (args0 := [(.int .i64 a0)]) trivial (by kernel_rfl) (by kernel_rfl) (by kernel_rfl) (by kernel_rfl) (ok_spec_fdGood h4) hb_spec_fdGood (by kernel_rfl) ?_
              refine rs0 (.bool (!y4)) (by kernel_rfl) ?_
              refine rs0 (.bool (!y4)) (by kernel_rfl) ?_
              refine rs0 (.box ((3, 0), 1) 0) (s_gd (by kernel_rfl) q5 (by kernel_rfl)) ?_
              refine rsl (.int .i64 a1_0) (s_gd (by kernel_rfl) q5 (by kernel_rfl)) ?_
              refine rcall (.bool y6) [] [(.int .i64 a1_0), (.int .i64 1), (.int .i64 20)] _ (caps := []) (args0 := [(.int .i64 a1_0), (.int .i64 1), (.int .i64 20)]) (gdOK_b (by kernel_rfl) q5) (by kernel_rfl) (by kernel_rfl) (by kernel_rfl) (by kernel_rfl) (ok_spec_l1In h6) hb_spec_l1In (by kernel_rfl) ?_
              refine rs0 (.bool (!y6)) (s_gd (by kernel_rfl) q5 (by kernel_rfl)) ?_
              refine rs0 (.bool (!y6)) (s_pickF (by kernel_rfl) q5) ?_
              refine rs0 (.bool (!y6)) (by kernel_rfl) ?_
              refine rs0 (.box ((3, 0), 1) 1) (s_gd (by kernel_rfl) q7 (by kernel_rfl)) ?_
              refine rsl (.tree (.pair .int (.pair .int .int)) a1_1) (s_gd (by kernel_rfl) q7 (by kernel_rfl)) ?_
              refine rs0 (.int .i64 ((a1_1.length : Nat) : Int)) (s_gd (by kernel_rfl) q7 (by kernel_rfl)) ?_
              refine rs0 (.bool (decide (60 < ((a1_1.length : Nat) : Int)))) (s_gd (by kernel_rfl) q7 (by kernel_rfl)) ?_
              refine rs0 (.bool (decide (60 < ((a1_1.length : Nat) : Int)))) (s_pickF (by kernel_rfl) q7) ?_
              refine rs0 (.bool (decide (60 < ((a1_1.length : Nat) : Int)))) (by kernel_rfl) ?_
              refine rs0 (.box ((3, 0), 1) 2) (s_gd (by kernel_rfl) q8 (by kernel_rfl)) ?_
              refine rsl (.tree .int a1_2) (s_gd (by kernel_rfl) q8 (by kernel_rfl)) ?_
              refine rs0 (.int .i64 ((a1_2.length : Nat) : Int)) (s_gd (by kernel_rfl) q8 (by kernel_rfl)) ?_
              refine rs0 (.bool (decide (6 < ((a1_2.length : Nat) : Int)))) (s_gd (by kernel_rfl) q8 (by kernel_rfl)) ?_
              refine rs0 (.bool (decide (6 < ((a1_2.length : Nat) : Int)))) (s_pickF (by kernel_rfl) q8) ?_
              refine rs0 (.bool (decide (6 < ((a1_2.length : Nat) : Int)))) (by kernel_rfl) ?_
              refine rs0 (.box ((3, 0), 1) 3) (s_gd (by kernel_rfl) q9 (by kernel_rfl)) ?_
              refine rsl (.tree .int a1_3) (s_gd (by kernel_rfl) q9 (by kernel_rfl)) ?_
              refine rs0 (.int .i64 ((a1_3.length : Nat) : Int)) (s_gd (by kernel_rfl) q9 (by kernel_rfl)) ?_
              refine rs0 (.bool (decide (6 < ((a1_3.length : Nat) : Int)))) (s_gd (by kernel_rfl) q9 (by kernel_rfl)) ?_
              refine rs0 (.bool (decide (6 < ((a1_3.length : Nat) : Int)))) (s_pickF (by kernel_rfl) q9) ?_
              refine rs0 (.bool (decide (6 < ((a1_3.length : Nat) : Int)))) (by kernel_rfl) ?_
              refine rs0 (.tup []) (s_skip (by kernel_rfl) q10) ?_
              refine rs0 (.tup []) (s_skip (by kernel_rfl) q10) ?_
              refine rs0 (.tup []) (s_skip (by kernel_rfl) q10) ?_
              refine rs0 (.tup []) (s_skip (by kernel_rfl) q10) ?_
              refine rs0 (.tup []) (s_skip (by kernel_rfl) q10) ?_
              refine rs0 (.tup []) (s_skip (by kernel_rfl) q10) ?_
              refine rs0 (.tup []) (s_skip (by kernel_rfl) q10) ?_
              refine rs0 (.bool true) (s_pickT (by kernel_rfl) q10) ?_
              refine rs0 (.bool true) (by kernel_rfl) ?_
              refine rs0 (.tup []) (by kernel_rfl) ?_
              refine rs0 (.tup []) (by kernel_rfl) ?_
              refine rs0 (.tup []) (by kernel_rfl) ?_
              refine rs0 (.tup []) (by kernel_rfl) ?_
              refine rs0 (.tup []) (by kernel_rfl) ?_
              refine rs0 (.tup []) (by kernel_rfl) ?_
              refine rs0 (.tup []) (by kernel_rfl) ?_
              refine rs0 (.bool true) (by kernel_rfl) ?_
              refine rnil (tn_ ?_)
              obtain rfl := Option.some.inj h
              exact ⟨_, (weak_ren [(((0, 0), 1), ((3, 0), 1))] (by kernel_rfl) (obsR_of (by kernel_rfl)) (by kernel_rfl)), rfl⟩
            · have q10_ := of_decide_eq_false q10
              obtain ⟨y11, h11, h⟩ := ob_some h
              rcases cond_some h with ⟨q12, h⟩ | ⟨q12, h⟩
              · refine awp_region_ 48 (by kernel_rfl) ?_
                refine rs0 (.int .i64 a0) (by kernel_rfl) ?_
                refine rcall (.bool y4) [] [(.int .i64 a0)] _ (caps := []) (args0 := [(.int .i64 a0)]) trivial (by kernel_rfl) (by kernel_rfl) (by kernel_rfl) (by kernel_rfl) (ok_spec_fdGood h4) hb_spec_fdGood (by kernel_rfl) ?_
                refine rs0 (.bool (!y4)) (by kernel_rfl) ?_
                refine rs0 (.bool (!y4)) (by kernel_rfl) ?_
                refine rs0 (.box ((3, 0), 1) 0) (s_gd (by kernel_rfl) q5 (by kernel_rfl)) ?_
                refine rsl (.int .i64 a1_0) (s_gd (by kernel_rfl) q5 (by kernel_rfl)) ?_
                refine rcall (.bool y6) [] [(.int .i64 a1_0), (.int .i64 1), (.int .i64 20)] _ (caps := []) (args0 := [(.int .i64 a1_0), (.int .i64 1), (.int .i64 20)]) (gdOK_b (by kernel_rfl) q5) (by kernel_rfl) (by kernel_rfl) (by kernel_rfl) (by kernel_rfl) (ok_spec_l1In h6) hb_spec_l1In (by kernel_rfl) ?_
                refine rs0 (.bool (!y6)) (s_gd (by kernel_rfl) q5 (by kernel_rfl)) ?_
                refine rs0 (.bool (!y6)) (s_pickF (by kernel_rfl) q5) ?_
                refine rs0 (.bool (!y6)) (by kernel_rfl) ?_
                refine rs0 (.box ((3, 0), 1) 1) (s_gd (by kernel_rfl) q7 (by kernel_rfl)) ?_
                refine rsl (.tree (.pair .int (.pair .int .int)) a1_1) (s_gd (by kernel_rfl) q7 (by kernel_rfl)) ?_
                refine rs0 (.int .i64 ((a1_1.length : Nat) : Int)) (s_gd (by kernel_rfl) q7 (by kernel_rfl)) ?_
                refine rs0 (.bool (decide (60 < ((a1_1.length : Nat) : Int)))) (s_gd (by kernel_rfl) q7 (by kernel_rfl)) ?_
                refine rs0 (.bool (decide (60 < ((a1_1.length : Nat) : Int)))) (s_pickF (by kernel_rfl) q7) ?_
                refine rs0 (.bool (decide (60 < ((a1_1.length : Nat) : Int)))) (by kernel_rfl) ?_
                refine rs0 (.box ((3, 0), 1) 2) (s_gd (by kernel_rfl) q8 (by kernel_rfl)) ?_
                refine rsl (.tree .int a1_2) (s_gd (by kernel_rfl) q8 (by kernel_rfl)) ?_
                refine rs0 (.int .i64 ((a1_2.length : Nat) : Int)) (s_gd (by kernel_rfl) q8 (by kernel_rfl)) ?_
                refine rs0 (.bool (decide (6 < ((a1_2.length : Nat) : Int)))) (s_gd (by kernel_rfl) q8 (by kernel_rfl)) ?_
                refine rs0 (.bool (decide (6 < ((a1_2.length : Nat) : Int)))) (s_pickF (by kernel_rfl) q8) ?_
                refine rs0 (.bool (decide (6 < ((a1_2.length : Nat) : Int)))) (by kernel_rfl) ?_
                refine rs0 (.box ((3, 0), 1) 3) (s_gd (by kernel_rfl) q9 (by kernel_rfl)) ?_
                refine rsl (.tree .int a1_3) (s_gd (by kernel_rfl) q9 (by kernel_rfl)) ?_
                refine rs0 (.int .i64 ((a1_3.length : Nat) : Int)) (s_gd (by kernel_rfl) q9 (by kernel_rfl)) ?_
                refine rs0 (.bool (decide (6 < ((a1_3.length : Nat) : Int)))) (s_gd (by kernel_rfl) q9 (by kernel_rfl)) ?_
                refine rs0 (.bool (decide (6 < ((a1_3.length : Nat) : Int)))) (s_pickF (by kernel_rfl) q9) ?_
                refine rs0 (.bool (decide (6 < ((a1_3.length : Nat) : Int)))) (by kernel_rfl) ?_
                refine rs0 (.box ((3, 0), 1) 2) (s_gd (by kernel_rfl) q10 (by kernel_rfl)) ?_
                refine rsl (.tree .int a1_2) (s_gd (by kernel_rfl) q10 (by kernel_rfl)) ?_
                refine rs0 (.box ((3, 0), 1) 0) (s_gd (by kernel_rfl) q10 (by kernel_rfl)) ?_
                refine rsl (.int .i64 a1_0) (s_gd (by kernel_rfl) q10 (by kernel_rfl)) ?_
                refine rs0 (.int .i64 (IntKind.i64.wrap (a1_0 - 1))) (s_gd (by kernel_rfl) q10 (by kernel_rfl)) ?_
                refine rcall (.bool y11) [] [(.tree .int a1_2), (.int .i64 0), (.int .i64 (IntKind.i64.wrap (a1_0 - 1)))] _ (caps := []) (args0 := [(.tree .int a1_2), (.int .i64 0), (.int .i64 (IntKind.i64.wrap (a1_0 - 1)))]) (gdOK_b (by kernel_rfl) q10) (by kernel_rfl) (by kernel_rfl) (by kernel_rfl) (by kernel_rfl) (ok_spec_l1All h11) hb_spec_l1All (by kernel_rfl) ?_
                refine rs0 (.bool (!y11)) (s_gd (by kernel_rfl) q10 (by kernel_rfl)) ?_
                refine rs0 (.bool (!y11)) (s_pickF (by kernel_rfl) q10) ?_
                refine rs0 (.bool (!y11)) (by kernel_rfl) ?_
                refine rs0 (.tup []) (s_skip (by kernel_rfl) q12) ?_
                refine rs0 (.tup []) (s_skip (by kernel_rfl) q12) ?_
                refine rs0 (.tup []) (s_skip (by kernel_rfl) q12) ?_
                refine rs0 (.tup []) (s_skip (by kernel_rfl) q12) ?_
                refine rs0 (.tup []) (s_skip (by kernel_rfl) q12) ?_
                refine rs0 (.tup []) (s_skip (by kernel_rfl) q12) ?_
                refine rs0 (.tup []) (s_skip (by kernel_rfl) q12) ?_
                refine rs0 (.bool true) (s_pickT (by kernel_rfl) q12) ?_
                refine rnil (tn_ ?_)
                obtain rfl := Option.some.inj h
                exact ⟨_, (weak_ren [(((0, 0), 1), ((3, 0), 1))] (by kernel_rfl) (obsR_of (by kernel_rfl)) (by kernel_rfl)), rfl⟩
              · obtain ⟨y13, h13, h⟩ := ob_some h
                refine awp_region_ 48 (by kernel_rfl) ?_
                refine rs0 (.int .i64 a0) (by kernel_rfl) ?_
                refine rcall (.bool y4) [] [(.int .i64 a0)] _ (caps := []) (args0 := [(.int .i64 a0)]) trivial (by kernel_rfl) (by kernel_rfl) (by kernel_rfl) (by kernel_rfl) (ok_spec_fdGood h4) hb_spec_fdGood (by kernel_rfl) ?_
                refine rs0 (.bool (!y4)) (by kernel_rfl) ?_
                refine rs0 (.bool (!y4)) (by kernel_rfl) ?_
                refine rs0 (.box ((3, 0), 1) 0) (s_gd (by kernel_rfl) q5 (by kernel_rfl)) ?_
                refine rsl (.int .i64 a1_0) (s_gd (by kernel_rfl) q5 (by kernel_rfl)) ?_
                refine rcall (.bool y6) [] [(.int .i64 a1_0), (.int .i64 1), (.int .i64 20)] _ (caps := []) (args0 := [(.int .i64 a1_0), (.int .i64 1), (.int .i64 20)]) (gdOK_b (by kernel_rfl) q5) (by kernel_rfl) (by kernel_rfl) (by kernel_rfl) (by kernel_rfl) (ok_spec_l1In h6) hb_spec_l1In (by kernel_rfl) ?_
                refine rs0 (.bool (!y6)) (s_gd (by kernel_rfl) q5 (by kernel_rfl)) ?_
                refine rs0 (.bool (!y6)) (s_pickF (by kernel_rfl) q5) ?_
                refine rs0 (.bool (!y6)) (by kernel_rfl) ?_
                refine rs0 (.box ((3, 0), 1) 1) (s_gd (by kernel_rfl) q7 (by kernel_rfl)) ?_
                refine rsl (.tree (.pair .int (.pair .int .int)) a1_1) (s_gd (by kernel_rfl) q7 (by kernel_rfl)) ?_
                refine rs0 (.int .i64 ((a1_1.length : Nat) : Int)) (s_gd (by kernel_rfl) q7 (by kernel_rfl)) ?_
                refine rs0 (.bool (decide (60 < ((a1_1.length : Nat) : Int)))) (s_gd (by kernel_rfl) q7 (by kernel_rfl)) ?_
                refine rs0 (.bool (decide (60 < ((a1_1.length : Nat) : Int)))) (s_pickF (by kernel_rfl) q7) ?_
                refine rs0 (.bool (decide (60 < ((a1_1.length : Nat) : Int)))) (by kernel_rfl) ?_
                refine rs0 (.box ((3, 0), 1) 2) (s_gd (by kernel_rfl) q8 (by kernel_rfl)) ?_
                refine rsl (.tree .int a1_2) (s_gd (by kernel_rfl) q8 (by kernel_rfl)) ?_
                refine rs0 (.int .i64 ((a1_2.length : Nat) : Int)) (s_gd (by kernel_rfl) q8 (by kernel_rfl)) ?_
                refine rs0 (.bool (decide (6 < ((a1_2.length : Nat) : Int)))) (s_gd (by kernel_rfl) q8 (by kernel_rfl)) ?_
                refine rs0 (.bool (decide (6 < ((a1_2.length : Nat) : Int)))) (s_pickF (by kernel_rfl) q8) ?_
                refine rs0 (.bool (decide (6 < ((a1_2.length : Nat) : Int)))) (by kernel_rfl) ?_
                refine rs0 (.box ((3, 0), 1) 3) (s_gd (by kernel_rfl) q9 (by kernel_rfl)) ?_
                refine rsl (.tree .int a1_3) (s_gd (by kernel_rfl) q9 (by kernel_rfl)) ?_
                refine rs0 (.int .i64 ((a1_3.length : Nat) : Int)) (s_gd (by kernel_rfl) q9 (by kernel_rfl)) ?_
                refine rs0 (.bool (decide (6 < ((a1_3.length : Nat) : Int)))) (s_gd (by kernel_rfl) q9 (by kernel_rfl)) ?_
                refine rs0 (.bool (decide (6 < ((a1_3.length : Nat) : Int)))) (s_pickF (by kernel_rfl) q9) ?_
                refine rs0 (.bool (decide (6 < ((a1_3.length : Nat) : Int)))) (by kernel_rfl) ?_
                refine rs0 (.box ((3, 0), 1) 2) (s_gd (by kernel_rfl) q10 (by kernel_rfl)) ?_
                refine rsl (.tree .int a1_2) (s_gd (by kernel_rfl) q10 (by kernel_rfl)) ?_
                refine rs0 (.box ((3, 0), 1) 0) (s_gd (by kernel_rfl) q10 (by kernel_rfl)) ?_
                refine rsl (.int .i64 a1_0) (s_gd (by kernel_rfl) q10 (by kernel_rfl)) ?_
                refine rs0 (.int .i64 (IntKind.i64.wrap (a1_0 - 1))) (s_gd (by kernel_rfl) q10 (by kernel_rfl)) ?_
                refine rcall (.bool y11) [] [(.tree .int a1_2), (.int .i64 0), (.int .i64 (IntKind.i64.wrap (a1_0 - 1)))] _ (caps := []) (args0 := [(.tree .int a1_2), (.int .i64 0), (.int .i64 (IntKind.i64.wrap (a1_0 - 1)))]) (gdOK_b (by kernel_rfl) q10) (by kernel_rfl) (by kernel_rfl) (by kernel_rfl) (by kernel_rfl) (ok_spec_l1All h11) hb_spec_l1All (by kernel_rfl) ?_
                refine rs0 (.bool (!y11)) (s_gd (by kernel_rfl) q10 (by kernel_rfl)) ?_
                refine rs0 (.bool (!y11)) (s_pickF (by kernel_rfl) q10) ?_
                refine rs0 (.bool (!y11)) (by kernel_rfl) ?_
                refine rs0 (.box ((3, 0), 1) 3) (s_gd (by kernel_rfl) q12 (by kernel_rfl)) ?_
                refine rsl (.tree .int a1_3) (s_gd (by kernel_rfl) q12 (by kernel_rfl)) ?_
                refine rs0 (.box ((3, 0), 1) 0) (s_gd (by kernel_rfl) q12 (by kernel_rfl)) ?_
                refine rsl (.int .i64 a1_0) (s_gd (by kernel_rfl) q12 (by kernel_rfl)) ?_
                refine rs0 (.int .i64 (IntKind.i64.wrap (a1_0 - 1))) (s_gd (by kernel_rfl) q12 (by kernel_rfl)) ?_
                refine rcall (.bool y13) [] [(.tree .int a1_3), (.int .i64 0), (.int .i64 (IntKind.i64.wrap (a1_0 - 1)))] _ (caps := []) (args0 := [(.tree .int a1_3), (.int .i64 0), (.int .i64 (IntKind.i64.wrap (a1_0 - 1)))]) (gdOK_b (by kernel_rfl) q12) (by kernel_rfl) (by kernel_rfl) (by kernel_rfl) (by kernel_rfl) (ok_spec_l1All h13) hb_spec_l1All (by kernel_rfl) ?_
                refine rs0 (.bool (!y13)) (s_gd (by kernel_rfl) q12 (by kernel_rfl)) ?_
                refine rs0 (.bool (!y13)) (s_pickF (by kernel_rfl) q12) ?_
                refine rnil (tn_ ?_)
                obtain rfl := Option.some.inj h
                exact ⟨_, (weak_ren [(((0, 0), 1), ((3, 0), 1))] (by kernel_rfl) (obsR_of (by kernel_rfl)) (by kernel_rfl)), rfl⟩
  · rintro l3_m51 _ rfl h
    (try dsimp only at h)
    rcases cond_some h with ⟨q14, h⟩ | ⟨q14, h⟩
    · refine awp_condT_ q14 (by kernel_rfl) ?_
      refine awp_seqv_ ?_
      refine awp_region_ 3 (by kernel_rfl) ?_
      refine rs0 (.bool false) (by kernel_rfl) ?_
      refine rnil (tn_ ?_)
      refine ⟨_, Weak.refl _, ?_⟩
      refine awp_ret_ (tr_ ?_)
      obtain rfl := Option.some.inj h
      exact ret_ [(.bool false)] (by simp) (by kernel_rfl) (p_one rfl (l_sc (by kernel_rfl)) p_nil) (by kernel_rfl) (by kernel_rfl)
    · refine awp_condF_ q14 (by kernel_rfl) ?_
      refine awp_skip_ (tn_ ?_)
      refine ⟨_, Weak.refl _, ?_⟩
      refine awp_seqC h (fun (_ : Unit) S_ => S_ = ⟨mkTm [], mkOb (someL []), 2⟩) ?_ ?_
      · intro v_ h hk16
        refine awp_seqv_ ?_
        refine awp_region_ 6 (by kernel_rfl) ?_
        refine rs0 (.box ((0, 0), 1) 1) (by kernel_rfl) ?_
        refine rsl (.tree (.pair .int (.pair .int .int)) a1_1) (by kernel_rfl) ?_
        refine rs0 (.int .i64 ((a1_1.length : Nat) : Int)) (by kernel_rfl) ?_
        refine rs0 (.int .i64 0) (by kernel_rfl) ?_
        refine rnil (tn_ ?_)
        refine ⟨_, Weak.refl _, ?_⟩
        refine awp_block_ ?_
        refine awp_loopL h (fun (l18_m55 : Nat) S_ => S_ = ⟨mkTm [(0, (.int .i64 a0)), (3, (.box ((0, 0), 1) 0)), (53, (.tree (.pair .int (.pair .int .int)) a1_1)), (54, (.int .i64 ((a1_1.length : Nat) : Int))), (55, (.int .i64 ((l18_m55 : Nat) : Int)))], mkOb (someL [(((0, 0), 1), .cells 30 [(.int .i64 a1_0), (.tree (.pair .int (.pair .int .int)) a1_1), (.tree .int a1_2), (.tree .int a1_3)])]), 2⟩) ⟨_, (weak_ren [] (by kernel_rfl) (obsR_of (by kernel_rfl)) (by kernel_rfl)), rfl⟩ ?_
        · rintro n_ l18_m55 _ c_ rfl h hn18
          (try dsimp only at h)
          unfold L_spec_nwGood_l1 at h
          unfold m_spec_nwGood_l1
          refine awp_seqv_ ?_
          refine awp_region_ 3 (by kernel_rfl) ?_
          refine rs0 (.bool (decide (((l18_m55 : Nat) : Int) < ((a1_1.length : Nat) : Int)))) (by kernel_rfl) ?_
          refine rnil (tn_ ?_)
          refine ⟨_, Weak.refl _, ?_⟩
          refine awp_seqv_ ?_
          rcases cond_some h with ⟨q21, h⟩ | ⟨q21, h⟩
          · have q21_ := of_decide_eq_true q21
            refine awp_condT_ q21 (by kernel_rfl) ?_
            refine awp_skip_ (tn_ ?_)
            refine ⟨_, Weak.refl _, ?_⟩
            refine awp_seqv_ ?_
            refine awp_block_ ?_
            refine awp_seqv_ ?_
            obtain ⟨x24, e24, h⟩ := ob_some h
            refine awp_region_ 7 (by kernel_rfl) ?_
            refine rs0 (.telt (.pair .int (.pair .int .int)) x24 0) (s_idxT (t := (.pair .int (.pair .int .int))) (xs := a1_1) (k := .i64) (m := ((l18_m55 : Nat) : Int)) (by kernel_rfl) (by kernel_rfl) rfl (nat_nn _) rfl e24) ?_
            refine rs0 (.agg [(.int .i64 x24.1), (.int .i64 x24.2.1), (.int .i64 x24.2.2)]) (by kernel_rfl) ?_
            refine rs1 (.box ((6, 0), 5) 0) ((6, 0), 5) (.cells 59 [(.int .i64 0), (.int .i64 0), (.int .i64 0)]) (by kernel_rfl) ?_
            refine rsn2 ((6, 0), 5) ((6, 0), 5) (.cells 59 [(.int .i64 x24.1), (.int .i64 x24.2.1), (.int .i64 x24.2.2)]) (by kernel_rfl) ?_
            refine rnil (tn_ ?_)
            refine ⟨_, Weak.refl _, ?_⟩
            refine awp_seqB h (fun (l25_m89 : Bool) S_ => S_ = ⟨mkTm [(0, (.int .i64 a0)), (3, (.box ((0, 0), 1) 0)), (53, (.tree (.pair .int (.pair .int .int)) a1_1)), (54, (.int .i64 ((a1_1.length : Nat) : Int))), (55, (.int .i64 ((l18_m55 : Nat) : Int))), (89, (.bool l25_m89))], mkOb (someL [(((0, 0), 1), .cells 30 [(.int .i64 a1_0), (.tree (.pair .int (.pair .int .int)) a1_1), (.tree .int a1_2), (.tree .int a1_3)])]), 2⟩) ?_ ?_
            · intro v_ h
              obtain ⟨y26, h26, h⟩ := ob_some h
              rcases cond_some h with ⟨q27, h⟩ | ⟨q27, h⟩
              · refine awp_region_ 38 (by kernel_rfl) ?_
                refine rs0 (.box ((6, 0), 5) 0) (by kernel_rfl) ?_
                refine rsl (.int .i64 x24.1) (by kernel_rfl) ?_
                refine rs0 (.box ((0, 0), 1) 0) (by kernel_rfl) ?_
                refine rsl (.int .i64 a1_0) (by kernel_rfl) ?_
                refine rs0 (.int .i64 (IntKind.i64.wrap (a1_0 - 1))) (by kernel_rfl) ?_
                refine rcall (.bool y26) [] [(.int .i64 x24.1), (.int .i64 0), (.int .i64 (IntKind.i64.wrap (a1_0 - 1)))] _ (caps := []) (args0 := [(.int .i64 x24.1), (.int .i64 0), (.int .i64 (IntKind.i64.wrap (a1_0 - 1)))]) trivial (by kernel_rfl) (by kernel_rfl) (by kernel_rfl) (by kernel_rfl) (ok_spec_l1In h26) hb_spec_l1In (by kernel_rfl) ?_
                refine rs0 (.bool (!y26)) (by kernel_rfl) ?_
                refine rs0 (.bool (!y26)) (by kernel_rfl) ?_
                refine rs0 (.tup []) (s_skip (by kernel_rfl) q27) ?_
                refine rs0 (.tup []) (s_skip (by kernel_rfl) q27) ?_
                refine rs0 (.tup []) (s_skip (by kernel_rfl) q27) ?_
                refine rs0 (.tup []) (s_skip (by kernel_rfl) q27) ?_
                refine rs0 (.tup []) (s_skip (by kernel_rfl) q27) ?_
                refine rs0 (.tup []) (s_skip (by kernel_rfl) q27) ?_
                refine rs0 (.tup []) (s_skip (by kernel_rfl) q27) ?_
                refine rs0 (.bool true) (s_pickT (by kernel_rfl) q27) ?_
                refine rs0 (.bool true) (by kernel_rfl) ?_
                refine rs0 (.tup []) (by kernel_rfl) ?_
                refine rs0 (.tup []) (by kernel_rfl) ?_
                refine rs0 (.tup []) (by kernel_rfl) ?_
                refine rs0 (.tup []) (by kernel_rfl) ?_
                refine rs0 (.tup []) (by kernel_rfl) ?_
                refine rs0 (.bool true) (by kernel_rfl) ?_
                refine rs0 (.bool true) (by kernel_rfl) ?_
                refine rs0 (.tup []) (by kernel_rfl) ?_
                refine rs0 (.tup []) (by kernel_rfl) ?_
                refine rs0 (.tup []) (by kernel_rfl) ?_
                refine rs0 (.tup []) (by kernel_rfl) ?_
                refine rs0 (.tup []) (by kernel_rfl) ?_
                refine rs0 (.tup []) (by kernel_rfl) ?_
                refine rs0 (.bool true) (by kernel_rfl) ?_
                refine rnil (tn_ ?_)
                obtain rfl := Option.some.inj h
                exact ⟨_, (weak_ren [] (by kernel_rfl) (obsR_of (by kernel_rfl)) (by kernel_rfl)), rfl⟩
              · obtain ⟨y28, h28, h⟩ := ob_some h
                rcases cond_some h with ⟨q29, h⟩ | ⟨q29, h⟩
                · refine awp_region_ 38 (by kernel_rfl) ?_
                  refine rs0 (.box ((6, 0), 5) 0) (by kernel_rfl) ?_
                  refine rsl (.int .i64 x24.1) (by kernel_rfl) ?_
                  refine rs0 (.box ((0, 0), 1) 0) (by kernel_rfl) ?_
                  refine rsl (.int .i64 a1_0) (by kernel_rfl) ?_
                  refine rs0 (.int .i64 (IntKind.i64.wrap (a1_0 - 1))) (by kernel_rfl) ?_
                  refine rcall (.bool y26) [] [(.int .i64 x24.1), (.int .i64 0), (.int .i64 (IntKind.i64.wrap (a1_0 - 1)))] _ (caps := []) (args0 := [(.int .i64 x24.1), (.int .i64 0), (.int .i64 (IntKind.i64.wrap (a1_0 - 1)))]) trivial (by kernel_rfl) (by kernel_rfl) (by kernel_rfl) (by kernel_rfl) (ok_spec_l1In h26) hb_spec_l1In (by kernel_rfl) ?_
                  refine rs0 (.bool (!y26)) (by kernel_rfl) ?_
                  refine rs0 (.bool (!y26)) (by kernel_rfl) ?_
                  refine rs0 (.box ((6, 0), 5) 1) (s_gd (by kernel_rfl) q27 (by kernel_rfl)) ?_
                  refine rsl (.int .i64 x24.2.1) (s_gd (by kernel_rfl) q27 (by kernel_rfl)) ?_
                  refine rs0 (.box ((0, 0), 1) 0) (s_gd (by kernel_rfl) q27 (by kernel_rfl)) ?_
                  refine rsl (.int .i64 a1_0) (s_gd (by kernel_rfl) q27 (by kernel_rfl)) ?_
                  refine rs0 (.int .i64 (IntKind.i64.wrap (a1_0 - 1))) (s_gd (by kernel_rfl) q27 (by kernel_rfl)) ?_
                  refine rcall (.bool y28) [] [(.int .i64 x24.2.1), (.int .i64 0), (.int .i64 (IntKind.i64.wrap (a1_0 - 1)))] _ (caps := []) (args0 := [(.int .i64 x24.2.1), (.int .i64 0), (.int .i64 (IntKind.i64.wrap (a1_0 - 1)))]) (gdOK_b (by kernel_rfl) q27) (by kernel_rfl) (by kernel_rfl) (by kernel_rfl) (by kernel_rfl) (ok_spec_l1In h28) hb_spec_l1In (by kernel_rfl) ?_
                  refine rs0 (.bool (!y28)) (s_gd (by kernel_rfl) q27 (by kernel_rfl)) ?_
                  refine rs0 (.bool (!y28)) (s_pickF (by kernel_rfl) q27) ?_
                  refine rs0 (.bool (!y28)) (by kernel_rfl) ?_
                  refine rs0 (.tup []) (s_skip (by kernel_rfl) q29) ?_
                  refine rs0 (.tup []) (s_skip (by kernel_rfl) q29) ?_
                  refine rs0 (.tup []) (s_skip (by kernel_rfl) q29) ?_
                  refine rs0 (.tup []) (s_skip (by kernel_rfl) q29) ?_
                  refine rs0 (.tup []) (s_skip (by kernel_rfl) q29) ?_
                  refine rs0 (.bool true) (s_pickT (by kernel_rfl) q29) ?_
                  refine rs0 (.bool true) (by kernel_rfl) ?_
                  refine rs0 (.tup []) (by kernel_rfl) ?_
                  refine rs0 (.tup []) (by kernel_rfl) ?_
                  refine rs0 (.tup []) (by kernel_rfl) ?_
                  refine rs0 (.tup []) (by kernel_rfl) ?_
                  refine rs0 (.tup []) (by kernel_rfl) ?_
                  refine rs0 (.tup []) (by kernel_rfl) ?_
                  refine rs0 (.bool true) (by kernel_rfl) ?_
                  refine rnil (tn_ ?_)
                  obtain rfl := Option.some.inj h
                  exact ⟨_, (weak_ren [] (by kernel_rfl) (obsR_of (by kernel_rfl)) (by kernel_rfl)), rfl⟩
                · rcases cond_some h with ⟨q30, h⟩ | ⟨q30, h⟩
                  · refine awp_region_ 38 (by kernel_rfl) ?_
                    refine rs0 (.box ((6, 0), 5) 0) (by kernel_rfl) ?_
                    refine rsl (.int .i64 x24.1) (by kernel_rfl) ?_
                    refine rs0 (.box ((0, 0), 1) 0) (by kernel_rfl) ?_
                    refine rsl (.int .i64 a1_0) (by kernel_rfl) ?_
                    refine rs0 (.int .i64 (IntKind.i64.wrap (a1_0 - 1))) (by kernel_rfl) ?_
                    refine rcall (.bool y26) [] [(.int .i64 x24.1), (.int .i64 0), (.int .i64 (IntKind.i64.wrap (a1_0 - 1)))] _ (caps := []) (args0 := [(.int .i64 x24.1), (.int .i64 0), (.int .i64 (IntKind.i64.wrap (a1_0 - 1)))]) trivial (by kernel_rfl) (by kernel_rfl) (by kernel_rfl) (by kernel_rfl) (ok_spec_l1In h26) hb_spec_l1In (by kernel_rfl) ?_
                    refine rs0 (.bool (!y26)) (by kernel_rfl) ?_
                    refine rs0 (.bool (!y26)) (by kernel_rfl) ?_
                    refine rs0 (.box ((6, 0), 5) 1) (s_gd (by kernel_rfl) q27 (by kernel_rfl)) ?_
                    refine rsl (.int .i64 x24.2.1) (s_gd (by kernel_rfl) q27 (by kernel_rfl)) ?_
                    refine rs0 (.box ((0, 0), 1) 0) (s_gd (by kernel_rfl) q27 (by kernel_rfl)) ?_
                    refine rsl (.int .i64 a1_0) (s_gd (by kernel_rfl) q27 (by kernel_rfl)) ?_
                    refine rs0 (.int .i64 (IntKind.i64.wrap (a1_0 - 1))) (s_gd (by kernel_rfl) q27 (by kernel_rfl)) ?_
                    refine rcall (.bool y28) [] [(.int .i64 x24.2.1), (.int .i64 0), (.int .i64 (IntKind.i64.wrap (a1_0 - 1)))] _ (caps := []) (args0 := [(.int .i64 x24.2.1), (.int .i64 0), (.int .i64 (IntKind.i64.wrap (a1_0 - 1)))]) (gdOK_b (by kernel_rfl) q27) (by kernel_rfl) (by kernel_rfl) (by kernel_rfl) (by kernel_rfl) (ok_spec_l1In h28) hb_spec_l1In (by kernel_rfl) ?_
                    refine rs0 (.bool (!y28)) (s_gd (by kernel_rfl) q27 (by kernel_rfl)) ?_
                    refine rs0 (.bool (!y28)) (s_pickF (by kernel_rfl) q27) ?_
                    refine rs0 (.bool (!y28)) (by kernel_rfl) ?_
                    refine rs0 (.box ((6, 0), 5) 0) (s_gd (by kernel_rfl) q29 (by kernel_rfl)) ?_
                    refine rsl (.int .i64 x24.1) (s_gd (by kernel_rfl) q29 (by kernel_rfl)) ?_
                    refine rs0 (.box ((6, 0), 5) 1) (s_gd (by kernel_rfl) q29 (by kernel_rfl)) ?_
                    refine rsl (.int .i64 x24.2.1) (s_gd (by kernel_rfl) q29 (by kernel_rfl)) ?_
                    refine rs0 (.bool (x24.1 == x24.2.1)) (s_gd (by kernel_rfl) q29 (by kernel_rfl)) ?_
                    refine rs0 (.bool (x24.1 == x24.2.1)) (s_pickF (by kernel_rfl) q29) ?_
                    refine rs0 (.bool (x24.1 == x24.2.1)) (by kernel_rfl) ?_
                    refine rs0 (.tup []) (s_skip (by kernel_rfl) q30) ?_
                    refine rs0 (.tup []) (s_skip (by kernel_rfl) q30) ?_
                    refine rs0 (.tup []) (s_skip (by kernel_rfl) q30) ?_
                    refine rs0 (.tup []) (s_skip (by kernel_rfl) q30) ?_
                    refine rs0 (.tup []) (s_skip (by kernel_rfl) q30) ?_
                    refine rs0 (.tup []) (s_skip (by kernel_rfl) q30) ?_
                    refine rs0 (.bool true) (s_pickT (by kernel_rfl) q30) ?_
                    refine rnil (tn_ ?_)
                    obtain rfl := Option.some.inj h
                    exact ⟨_, (weak_ren [] (by kernel_rfl) (obsR_of (by kernel_rfl)) (by kernel_rfl)), rfl⟩
                  · obtain ⟨y31, h31, h⟩ := ob_some h
                    refine awp_region_ 38 (by kernel_rfl) ?_
                    refine rs0 (.box ((6, 0), 5) 0) (by kernel_rfl) ?_
                    refine rsl (.int .i64 x24.1) (by kernel_rfl) ?_
                    refine rs0 (.box ((0, 0), 1) 0) (by kernel_rfl) ?_
                    refine rsl (.int .i64 a1_0) (by kernel_rfl) ?_
                    refine rs0 (.int .i64 (IntKind.i64.wrap (a1_0 - 1))) (by kernel_rfl) ?_
                    refine rcall (.bool y26) [] [(.int .i64 x24.1), (.int .i64 0), (.int .i64 (IntKind.i64.wrap (a1_0 - 1)))] _ (caps := []) (args0 := [(.int .i64 x24.1), (.int .i64 0), (.int .i64 (IntKind.i64.wrap (a1_0 - 1)))]) trivial (by kernel_rfl) (by kernel_rfl) (by kernel_rfl) (by kernel_rfl) (ok_spec_l1In h26) hb_spec_l1In (by kernel_rfl) ?_
                    refine rs0 (.bool (!y26)) (by kernel_rfl) ?_
                    refine rs0 (.bool (!y26)) (by kernel_rfl) ?_
                    refine rs0 (.box ((6, 0), 5) 1) (s_gd (by kernel_rfl) q27 (by kernel_rfl)) ?_
                    refine rsl (.int .i64 x24.2.1) (s_gd (by kernel_rfl) q27 (by kernel_rfl)) ?_
                    refine rs0 (.box ((0, 0), 1) 0) (s_gd (by kernel_rfl) q27 (by kernel_rfl)) ?_
                    refine rsl (.int .i64 a1_0) (s_gd (by kernel_rfl) q27 (by kernel_rfl)) ?_
                    refine rs0 (.int .i64 (IntKind.i64.wrap (a1_0 - 1))) (s_gd (by kernel_rfl) q27 (by kernel_rfl)) ?_
                    refine rcall (.bool y28) [] [(.int .i64 x24.2.1), (.int .i64 0), (.int .i64 (IntKind.i64.wrap (a1_0 - 1)))] _ (caps := []) (args0 := [(.int .i64 x24.2.1), (.int .i64 0), (.int .i64 (IntKind.i64.wrap (a1_0 - 1)))]) (gdOK_b (by kernel_rfl) q27) (by kernel_rfl) (by kernel_rfl) (by kernel_rfl) (by kernel_rfl) (ok_spec_l1In h28) hb_spec_l1In (by kernel_rfl) ?_
                    refine rs0 (.bool (!y28)) (s_gd (by kernel_rfl) q27 (by kernel_rfl)) ?_
                    refine rs0 (.bool (!y28)) (s_pickF (by kernel_rfl) q27) ?_
                    refine rs0 (.bool (!y28)) (by kernel_rfl) ?_
                    refine rs0 (.box ((6, 0), 5) 0) (s_gd (by kernel_rfl) q29 (by kernel_rfl)) ?_
                    refine rsl (.int .i64 x24.1) (s_gd (by kernel_rfl) q29 (by kernel_rfl)) ?_
                    refine rs0 (.box ((6, 0), 5) 1) (s_gd (by kernel_rfl) q29 (by kernel_rfl)) ?_
                    refine rsl (.int .i64 x24.2.1) (s_gd (by kernel_rfl) q29 (by kernel_rfl)) ?_
                    refine rs0 (.bool (x24.1 == x24.2.1)) (s_gd (by kernel_rfl) q29 (by kernel_rfl)) ?_
                    refine rs0 (.bool (x24.1 == x24.2.1)) (s_pickF (by kernel_rfl) q29) ?_
                    refine rs0 (.bool (x24.1 == x24.2.1)) (by kernel_rfl) ?_
                    refine rs0 (.box ((6, 0), 5) 2) (s_gd (by kernel_rfl) q30 (by kernel_rfl)) ?_
                    refine rsl (.int .i64 x24.2.2) (s_gd (by kernel_rfl) q30 (by kernel_rfl)) ?_
                    refine rs0 (.int .i64 a0) (s_gd (by kernel_rfl) q30 (by kernel_rfl)) ?_
                    refine rs0 (.int .i64 (IntKind.i64.wrap (a0 - 1))) (s_gd (by kernel_rfl) q30 (by kernel_rfl)) ?_
                    refine rcall (.bool y31) [] [(.int .i64 x24.2.2), (.int .i64 1), (.int .i64 (IntKind.i64.wrap (a0 - 1)))] _ (caps := []) (args0 := [(.int .i64 x24.2.2), (.int .i64 1), (.int .i64 (IntKind.i64.wrap (a0 - 1)))]) (gdOK_b (by kernel_rfl) q30) (by kernel_rfl) (by kernel_rfl) (by kernel_rfl) (by kernel_rfl) (ok_spec_l1In h31) hb_spec_l1In (by kernel_rfl) ?_
                    refine rs0 (.bool (!y31)) (s_gd (by kernel_rfl) q30 (by kernel_rfl)) ?_
                    refine rs0 (.bool (!y31)) (s_pickF (by kernel_rfl) q30) ?_
                    refine rnil (tn_ ?_)
                    obtain rfl := Option.some.inj h
                    exact ⟨_, (weak_ren [] (by kernel_rfl) (obsR_of (by kernel_rfl)) (by kernel_rfl)), rfl⟩
            · rintro l25_m89 _ rfl h
              (try dsimp only at h)
              rcases cond_some h with ⟨q32, h⟩ | ⟨q32, h⟩
              · refine awp_condT_ q32 (by kernel_rfl) ?_
                refine awp_seqv_ ?_
                refine awp_region_ 3 (by kernel_rfl) ?_
                refine rs0 (.bool false) (by kernel_rfl) ?_
                refine rnil (tn_ ?_)
                refine ⟨_, Weak.refl _, ?_⟩
                refine awp_ret_ (br_ (tr_ (tr_ (br_ (tr_ ?_)))))
                obtain rfl := Option.some.inj h
                have h := hn18
                (try dsimp only at h)
                obtain rfl := Option.some.inj h
                have h := hk16
                (try dsimp only at h)
                obtain rfl := Option.some.inj h
                exact ret_ [(.bool false)] (by simp) (by kernel_rfl) (p_one rfl (l_sc (by kernel_rfl)) p_nil) (by kernel_rfl) (by kernel_rfl)
              · refine awp_condF_ q32 (by kernel_rfl) ?_
                refine awp_skip_ (bn_ (tn_ ?_))
                refine ⟨_, Weak.refl _, ?_⟩
                obtain ⟨g34, h⟩ := og_some h
                refine awp_region_ 4 (by kernel_rfl) ?_
                refine rs0 (.int .i64 ((l18_m55 + 1 : Nat) : Int)) (s_add1 (j := l18_m55) (by kernel_rfl) (by kernel_rfl) g34) ?_
                refine rs0 (.int .i64 ((l18_m55 + 1 : Nat) : Int)) (by kernel_rfl) ?_
                refine rnil (tn_ ?_)
                obtain rfl := Option.some.inj h
                exact ⟨l18_m55 + 1, _, (weak_ren [] (by kernel_rfl) (obsR_of (by kernel_rfl)) (by kernel_rfl)), rfl, hn18⟩
          · have q21_ := of_decide_eq_false q21
            refine awp_condF_ q21 (by kernel_rfl) ?_
            refine awp_exit_ (te_ (te_ (be_ (tn_ ?_))))
            obtain rfl := Option.some.inj h
            have h := hn18
            (try dsimp only at h)
            obtain rfl := Option.some.inj h
            exact ⟨(), _, rfl, (weak_ren [] (by kernel_rfl) (obsR_of (by kernel_rfl)) (by kernel_rfl)), rfl⟩
      · rintro _ _ rfl h
        (try dsimp only at h)
        refine awp_seqv_ ?_
        refine awp_region_ 3 (by kernel_rfl) ?_
        refine rs0 (.bool true) (by kernel_rfl) ?_
        refine rnil (tn_ ?_)
        refine ⟨_, Weak.refl _, ?_⟩
        refine awp_ret_ ?_
        obtain rfl := Option.some.inj h
        exact ret_ [(.bool true)] (by simp) (by kernel_rfl) (p_one rfl (l_sc (by kernel_rfl)) p_nil) (by kernel_rfl) (by kernel_rfl)
def m_impl_within : AC :=
  (.seq (.region [⟨(some 6), none, (.i (.mov (.cst (.bool false))))⟩] false [])
  (.seq (.region [⟨(some 7), none, (.i (.mov (.tmp 0)))⟩, ⟨(some 8), none, (.i (.mov (.tmp 1)))⟩, ⟨(some 9), none, (.i (.bin .geq (.tmp 7) (.tmp 8)))⟩, ⟨(some 10), none, (.i (.mov (.tmp 9)))⟩, ⟨(some 11), (some (10, true)), (.i (.mov (.tmp 0)))⟩, ⟨(some 12), (some (10, true)), (.i (.mov (.tmp 2)))⟩, ⟨(some 13), (some (10, true)), (.i (.bin .leq (.tmp 11) (.tmp 12)))⟩, ⟨(some 14), none, (.i (.pick (.tmp 10) (.tmp 13) (.cst (.bool false))))⟩, ⟨(some 6), none, (.i (.mov (.tmp 14)))⟩] false [])
  .ret))
def r_impl_within : List Res := [.tmp 6]
theorem c_impl_within : compiled Tryd.prog Tryd.f89 = some (m_impl_within, r_impl_within) := by kernel_rfl
theorem hb_impl_within : hasBody Tryd.prog 89 = true := by kernel_rfl
def L_impl_within (a0 : Int) (a1 : Int) (a2 : Int) : Option Bool :=
  Option.bind (cond (decide (a1 ≤ a0))
    (some (decide (a0 ≤ a2)))
    (some false)) fun l2_m6 =>
some l2_m6
def rv_impl_within (r : Bool) : RV := ⟨false, [(false, [.sc (.bool r)])]⟩
theorem ok_impl_within {a0 : Int} {a1 : Int} {a2 : Int} {r : Bool} (h : L_impl_within a0 a1 a2 = some r) : CallOK Tryd.prog Tab 89 [(.int .i64 a0), (.int .i64 a1), (.int .i64 a2)] (rv_impl_within r) := by
  refine call_of_ (by kernel_rfl) Tryd.func89 c_impl_within (n := 15) (by kernel_rfl) (by simp) (tl := [(0, (.int .i64 a0)), (1, (.int .i64 a1)), (2, (.int .i64 a2))]) rfl ?_
  unfold m_impl_within
  unfold L_impl_within at h
  refine awp_seqv_ ?_
  refine awp_region_ 2 (by kernel_rfl) ?_
  refine rs0 (.bool false) (by kernel_rfl) ?_
  refine rnil (tn_ ?_)
  refine ⟨_, Weak.refl _, ?_⟩
  refine awp_seqB h (fun (l2_m6 : Bool) S_ => S_ = ⟨mkTm [(6, (.bool l2_m6))], mkOb (someL []), 2⟩) ?_ ?_
  · intro v_ h
    rcases cond_some h with ⟨q3, h⟩ | ⟨q3, h⟩
    · have q3_ := of_decide_eq_true q3
      refine awp_region_ 11 (by kernel_rfl) ?_
      refine rs0 (.int .i64 a0) (by kernel_rfl) ?_
      refine rs0 (.int .i64 a1) (by kernel_rfl) ?_
      refine rs0 (.bool (decide (a1 ≤ a0))) (by kernel_rfl) ?_
      refine rs0 (.bool (decide (a1 ≤ a0))) (by kernel_rfl) ?_
      refine rs0 (.int .i64 a0) (s_gd (by kernel_rfl) q3 (by kernel_rfl)) ?_
      refine rs0 (.int .i64 a2) (s_gd (by kernel_rfl) q3 (by kernel_rfl)) ?_
      refine rs0 (.bool (decide (a0 ≤ a2))) (s_gd (by kernel_rfl) q3 (by kernel_rfl)) ?_
      refine rs0 (.bool (decide (a0 ≤ a2))) (s_pickT (by kernel_rfl) q3) ?_
      refine rs0 (.bool (decide (a0 ≤ a2))) (by kernel_rfl) ?_
      refine rnil (tn_ ?_)
      obtain rfl := Option.some.inj h
      exact ⟨_, (weak_ren [] (by kernel_rfl) (obsR_of (by kernel_rfl)) (by kernel_rfl)), rfl⟩
    · have q3_ := of_decide_eq_false q3
      refine awp_region_ 11 (by kernel_rfl) ?_
      refine rs0 (.int .i64 a0) (by kernel_rfl) ?_
      refine rs0 (.int .i64 a1) (by kernel_rfl) ?_
      refine rs0 (.bool (decide (a1 ≤ a0))) (by kernel_rfl) ?_
      refine rs0 (.bool (decide (a1 ≤ a0))) (by kernel_rfl) ?_
      refine rs0 (.tup []) (s_skip (by kernel_rfl) q3) ?_
      refine rs0 (.tup []) (s_skip (by kernel_rfl) q3) ?_
      refine rs0 (.tup []) (s_skip (by kernel_rfl) q3) ?_
      refine rs0 (.bool false) (s_pickF (by kernel_rfl) q3) ?_
      refine rs0 (.bool false) (by kernel_rfl) ?_
      refine rnil (tn_ ?_)
      obtain rfl := Option.some.inj h
      exact ⟨_, (weak_ren [] (by kernel_rfl) (obsR_of (by kernel_rfl)) (by kernel_rfl)), rfl⟩
  · rintro l2_m6 _ rfl h
    (try dsimp only at h)
    refine awp_ret_ ?_
    obtain rfl := Option.some.inj h
    exact ret_ [(.bool l2_m6)] (by simp) (by kernel_rfl) (p_one rfl (l_sc (by kernel_rfl)) p_nil) (by kernel_rfl) (by kernel_rfl)
def m_impl_areBelow_l1 : AC :=
  (.seq (.region [⟨(some 10), none, (.i (.bin .lss (.tmp 9) (.tmp 8)))⟩] false [])
  (.seq (.cond (.tmp 10)
    .skip
    (.exit 0))
  (.seq (.block 1 (.seq (.region [⟨(some 11), none, (.i (.idx 1 (.tmp 7) (.tmp 9)))⟩, ⟨(some 12), none, (.i (.ld true 1 (.tmp 11)))⟩, ⟨(some 6), none, (.i (.mov (.tmp 12)))⟩] false [])
  (.seq (.region [⟨(some 13), none, (.i (.mov (.tmp 6)))⟩, ⟨(some 14), none, (.i (.mov (.tmp 1)))⟩, ⟨(some 15), none, (.i (.bin .sub (.tmp 14) (.cst (.int .i64 1))))⟩, ⟨(some 16), none, (.call (.cst (.fn 89 [])) [(.tmp 13), (.cst (.int .i64 0)), (.tmp 15)] [[], [], []])⟩, ⟨(some 17), none, (.i (.not (.tmp 16)))⟩] false [])
  (.cond (.tmp 17)
    (.seq (.region [⟨(some 4), none, (.i (.mov (.cst (.bool false))))⟩] false [])
    .ret)
    .skip))))
  (.region [⟨(some 18), none, (.i (.bin .add (.tmp 9) (.cst (.int .i64 1))))⟩, ⟨(some 9), none, (.i (.mov (.tmp 18)))⟩] false []))))
def m_impl_areBelow : AC :=
  (.seq (.region [⟨(some 4), none, (.i (.mov (.cst (.bool false))))⟩] false [])
  (.seq (.seq (.region [⟨(some 7), none, (.i (.mov (.tmp 0)))⟩, ⟨(some 8), none, (.i (.len (.tmp 7)))⟩, ⟨(some 9), none, (.i (.mov (.cst (.int .i64 0))))⟩] false [])
  (.block 0 (.loop m_impl_areBelow_l1)))
  (.seq (.region [⟨(some 4), none, (.i (.mov (.cst (.bool true))))⟩] false [])
  .ret)))
def r_impl_areBelow : List Res := [.tmp 4]
theorem c_impl_areBelow : compiled Tryd.prog Tryd.f90 = some (m_impl_areBelow, r_impl_areBelow) := by kernel_rfl
theorem hb_impl_areBelow : hasBody Tryd.prog 90 = true := by kernel_rfl
def L_impl_areBelow_l1 (a0 : List Int) (a1 : Int) (l4_m9 : Nat) : Option (Ctl Nat (Ctl Unit Bool)) :=
  cond (decide (((l4_m9 : Nat) : Int) < ((a0.length : Nat) : Int)))
  (Option.bind (a0[l4_m9]?) fun x10 =>
  Option.bind (L_impl_within x10 0 (IntKind.i64.wrap (a1 - 1))) fun y12 =>
  cond (!y12)
    (some (Ctl.out (Ctl.out false)))
    (og (l4_m9 + 1 < 4611686018427387904) <|
    some (Ctl.next (l4_m9 + 1))))
  (some (Ctl.out (Ctl.next ())))
def L_impl_areBelow (a0 : List Int) (a1 : Int) : Option Bool :=
  seqC (loopM (fun s_ : Nat => L_impl_areBelow_l1 a0 a1 s_) 4611686018427387904 0) fun _ =>
some true
def rv_impl_areBelow (r : Bool) : RV := ⟨false, [(false, [.sc (.bool r)])]⟩
theorem ok_impl_areBelow {a0 : List Int} {a1 : Int} {r : Bool} (h : L_impl_areBelow a0 a1 = some r) : CallOK Tryd.prog Tab 90 [(.tree .int a0), (.int .i64 a1)] (rv_impl_areBelow r) := by
  refine call_of_ (by kernel_rfl) Tryd.func90 c_impl_areBelow (n := 19) (by kernel_rfl) (by simp) (tl := [(0, (.tree .int a0)), (1, (.int .i64 a1))]) rfl ?_
  unfold m_impl_areBelow
  unfold L_impl_areBelow at h
  refine awp_seqv_ ?_
  refine awp_region_ 2 (by kernel_rfl) ?_
  refine rs0 (.bool false) (by kernel_rfl) ?_
  refine rnil (tn_ ?_)
  refine ⟨_, Weak.refl _, ?_⟩
  refine awp_seqC h (fun (_ : Unit) S_ => S_ = ⟨mkTm [], mkOb (someL []), 2⟩) ?_ ?_
  · intro v_ h hk2
    refine awp_seqv_ ?_
    refine awp_region_ 5 (by kernel_rfl) ?_
    refine rs0 (.tree .int a0) (by kernel_rfl) ?_
    refine rs0 (.int .i64 ((a0.length : Nat) : Int)) (by kernel_rfl) ?_
    refine rs0 (.int .i64 0) (by kernel_rfl) ?_
    refine rnil (tn_ ?_)
    refine ⟨_, Weak.refl _, ?_⟩
    refine awp_block_ ?_
    refine awp_loopL h (fun (l4_m9 : Nat) S_ => S_ = ⟨mkTm [(1, (.int .i64 a1)), (7, (.tree .int a0)), (8, (.int .i64 ((a0.length : Nat) : Int))), (9, (.int .i64 ((l4_m9 : Nat) : Int)))], mkOb (someL []), 2⟩) ⟨_, (weak_ren [] (by kernel_rfl) (obsR_of (by kernel_rfl)) (by kernel_rfl)), rfl⟩ ?_
    · rintro n_ l4_m9 _ c_ rfl h hn4
      (try dsimp only at h)
      unfold L_impl_areBelow_l1 at h
      unfold m_impl_areBelow_l1
      refine awp_seqv_ ?_
      refine awp_region_ 3 (by kernel_rfl) ?_
      refine rs0 (.bool (decide (((l4_m9 : Nat) : Int) < ((a0.length : Nat) : Int)))) (by kernel_rfl) ?_
      refine rnil (tn_ ?_)
      refine ⟨_, Weak.refl _, ?_⟩
      refine awp_seqv_ ?_
      rcases cond_some h with ⟨q7, h⟩ | ⟨q7, h⟩
      · have q7_ := of_decide_eq_true q7
        refine awp_condT_ q7 (by kernel_rfl) ?_
        refine awp_skip_ (tn_ ?_)
        refine ⟨_, Weak.refl _, ?_⟩
        refine awp_seqv_ ?_
        refine awp_block_ ?_
        refine awp_seqv_ ?_
        obtain ⟨x10, e10, h⟩ := ob_some h
        refine awp_region_ 6 (by kernel_rfl) ?_
        refine rs0 (.telt .int x10 0) (s_idxT (t := .int) (xs := a0) (k := .i64) (m := ((l4_m9 : Nat) : Int)) (by kernel_rfl) (by kernel_rfl) rfl (nat_nn _) rfl e10) ?_
        refine rs0 (.int .i64 x10) (by kernel_rfl) ?_
        refine rs0 (.int .i64 x10) (by kernel_rfl) ?_
        refine rnil (tn_ ?_)
        refine ⟨_, Weak.refl _, ?_⟩
        refine awp_seqv_ ?_
        obtain ⟨y12, h12, h⟩ := ob_some h
        refine awp_region_ 11 (by kernel_rfl) ?_
        refine rs0 (.int .i64 x10) (by kernel_rfl) ?_
        refine rs0 (.int .i64 a1) (by kernel_rfl) ?_
        refine rs0 (.int .i64 (IntKind.i64.wrap (a1 - 1))) (by kernel_rfl) ?_
        refine rcall (.bool y12) [] [(.int .i64 x10), (.int .i64 0), (.int .i64 (IntKind.i64.wrap (a1 - 1)))] _ (caps := []) (args0 := [(.int .i64 x10), (.int .i64 0), (.int .i64 (IntKind.i64.wrap (a1 - 1)))]) trivial (by kernel_rfl) (by kernel_rfl) (by kernel_rfl) (by kernel_rfl) (ok_impl_within h12) hb_impl_within (by kernel_rfl) ?_
        refine rs0 (.bool (!y12)) (by kernel_rfl) ?_
        refine rnil (tn_ ?_)
        refine ⟨_, Weak.refl _, ?_⟩
        rcases cond_some h with ⟨q13, h⟩ | ⟨q13, h⟩
        · refine awp_condT_ q13 (by kernel_rfl) ?_
          refine awp_seqv_ ?_
          refine awp_region_ 12 (by kernel_rfl) ?_
          refine rs0 (.bool false) (by kernel_rfl) ?_
          refine rnil (tn_ ?_)
          refine ⟨_, Weak.refl _, ?_⟩
          refine awp_ret_ (br_ (tr_ (tr_ (br_ (tr_ ?_)))))
          obtain rfl := Option.some.inj h
          have h := hn4
          (try dsimp only at h)
          obtain rfl := Option.some.inj h
          have h := hk2
          (try dsimp only at h)
          obtain rfl := Option.some.inj h
          exact ret_ [(.bool false)] (by simp) (by kernel_rfl) (p_one rfl (l_sc (by kernel_rfl)) p_nil) (by kernel_rfl) (by kernel_rfl)
        · refine awp_condF_ q13 (by kernel_rfl) ?_
          refine awp_skip_ (bn_ (tn_ ?_))
          refine ⟨_, Weak.refl _, ?_⟩
          obtain ⟨g15, h⟩ := og_some h
          refine awp_region_ 13 (by kernel_rfl) ?_
          refine rs0 (.int .i64 ((l4_m9 + 1 : Nat) : Int)) (s_add1 (j := l4_m9) (by kernel_rfl) (by kernel_rfl) g15) ?_
          refine rs0 (.int .i64 ((l4_m9 + 1 : Nat) : Int)) (by kernel_rfl) ?_
          refine rnil (tn_ ?_)
          obtain rfl := Option.some.inj h
          exact ⟨l4_m9 + 1, _, (weak_ren [] (by kernel_rfl) (obsR_of (by kernel_rfl)) (by kernel_rfl)), rfl, hn4⟩
      · have q7_ := of_decide_eq_false q7
        refine awp_condF_ q7 (by kernel_rfl) ?_
        refine awp_exit_ (te_ (te_ (be_ (tn_ ?_))))
        obtain rfl := Option.some.inj h
        have h := hn4
        (try dsimp only at h)
        obtain rfl := Option.some.inj h
        exact ⟨(), _, rfl, (weak_ren [] (by kernel_rfl) (obsR_of (by kernel_rfl)) (by kernel_rfl)), rfl⟩
  · rintro _ _ rfl h
    (try dsimp only at h)
    refine awp_seqv_ ?_
    refine awp_region_ 3 (by kernel_rfl) ?_
    refine rs0 (.bool true) (by kernel_rfl) ?_
    refine rnil (tn_ ?_)
    refine ⟨_, Weak.refl _, ?_⟩
    refine awp_ret_ ?_
    obtain rfl := Option.some.inj h
    exact ret_ [(.bool true)] (by simp) (by kernel_rfl) (p_one rfl (l_sc (by kernel_rfl)) p_nil) (by kernel_rfl) (by kernel_rfl)
def m_impl_Branch_isBranch : AC :=
  (.seq (.region [⟨(some 3), none, (.i (.box 59 (.tmp 0)))⟩, ⟨(some 6), none, (.i (.mov (.cst (.bool false))))⟩] false [])
  (.seq (.region [⟨(some 7), none, (.i (.fld 0 (.tmp 3)))⟩, ⟨(some 8), none, (.i (.ld true 1 (.tmp 7)))⟩, ⟨(some 9), none, (.i (.mov (.tmp 2)))⟩, ⟨(some 10), none, (.i (.bin .sub (.tmp 9) (.cst (.int .i64 1))))⟩, ⟨(some 11), none, (.call (.cst (.fn 89 [])) [(.tmp 8), (.cst (.int .i64 0)), (.tmp 10)] [[], [], []])⟩, ⟨(some 12), none, (.i (.mov (.tmp 11)))⟩, ⟨(some 13), (some (12, true)), (.i (.fld 1 (.tmp 3)))⟩, ⟨(some 14), (some (12, true)), (.i (.ld true 1 (.tmp 13)))⟩, ⟨(some 15), (some (12, true)), (.i (.mov (.tmp 2)))⟩, ⟨(some 16), (some (12, true)), (.i (.bin .sub (.tmp 15) (.cst (.int .i64 1))))⟩, ⟨(some 17), (some (12, true)), (.call (.cst (.fn 89 [])) [(.tmp 14), (.cst (.int .i64 0)), (.tmp 16)] [[], [], []])⟩, ⟨(some 18), none, (.i (.pick (.tmp 12) (.tmp 17) (.cst (.bool false))))⟩, ⟨(some 19), none, (.i (.mov (.tmp 18)))⟩, ⟨(some 20), (some (19, true)), (.i (.fld 0 (.tmp 3)))⟩, ⟨(some 21), (some (19, true)), (.i (.ld true 1 (.tmp 20)))⟩, ⟨(some 22), (some (19, true)), (.i (.fld 1 (.tmp 3)))⟩, ⟨(some 23), (some (19, true)), (.i (.ld true 1 (.tmp 22)))⟩, ⟨(some 24), (some (19, true)), (.i (.bin .neq (.tmp 21) (.tmp 23)))⟩, ⟨(some 25), none, (.i (.pick (.tmp 19) (.tmp 24) (.cst (.bool false))))⟩, ⟨(some 26), none, (.i (.mov (.tmp 25)))⟩, ⟨(some 27), (some (26, true)), (.i (.fld 2 (.tmp 3)))⟩, ⟨(some 28), (some (26, true)), (.i (.ld true 1 (.tmp 27)))⟩, ⟨(some 29), (some (26, true)), (.i (.mov (.tmp 1)))⟩, ⟨(some 30), (some (26, true)), (.i (.bin .sub (.tmp 29) (.cst (.int .i64 1))))⟩, ⟨(some 31), (some (26, true)), (.call (.cst (.fn 89 [])) [(.tmp 28), (.cst (.int .i64 1)), (.tmp 30)] [[], [], []])⟩, ⟨(some 32), none, (.i (.pick (.tmp 26) (.tmp 31) (.cst (.bool false))))⟩, ⟨(some 6), none, (.i (.mov (.tmp 32)))⟩] false [])
  .ret))
def r_impl_Branch_isBranch : List Res := [.tmp 6]
theorem c_impl_Branch_isBranch : compiled Tryd.prog Tryd.f93 = some (m_impl_Branch_isBranch, r_impl_Branch_isBranch) := by kernel_rfl
theorem hb_impl_Branch_isBranch : hasBody Tryd.prog 93 = true := by kernel_rfl
def L_impl_Branch_isBranch (a0_0 : Int) (a0_1 : Int) (a0_2 : Int) (a1 : Int) (a2 : Int) : Option Bool :=
  Option.bind (Option.bind (L_impl_within a0_0 0 (IntKind.i64.wrap (a2 - 1))) fun y3 =>
  cond y3
    (Option.bind (L_impl_within a0_1 0 (IntKind.i64.wrap (a2 - 1))) fun y5 =>
    cond y5
      (cond (a0_0 != a0_1)
        (Option.bind (L_impl_within a0_2 1 (IntKind.i64.wrap (a1 - 1))) fun y8 =>
        some y8)
        (some false))
      (some false))
    (some false)) fun l2_m6 =>
some l2_m6
def rv_impl_Branch_isBranch (r : Bool) : RV := ⟨false, [(false, [.sc (.bool r)])]⟩
theorem ok_impl_Branch_isBranch {a0_0 : Int} {a0_1 : Int} {a0_2 : Int} {a1 : Int} {a2 : Int} {r : Bool} (h : L_impl_Branch_isBranch a0_0 a0_1 a0_2 a1 a2 = some r) : CallOK Tryd.prog Tab 93 [(.agg [(.int .i64 a0_0), (.int .i64 a0_1), (.int .i64 a0_2)]), (.int .i64 a1), (.int .i64 a2)] (rv_impl_Branch_isBranch r) := by
  refine call_of_ (by kernel_rfl) Tryd.func93 c_impl_Branch_isBranch (n := 33) (by kernel_rfl) (by simp) (tl := [(0, (.agg [(.int .i64 a0_0), (.int .i64 a0_1), (.int .i64 a0_2)])), (1, (.int .i64 a1)), (2, (.int .i64 a2))]) rfl ?_
  unfold m_impl_Branch_isBranch
  unfold L_impl_Branch_isBranch at h
  refine awp_seqv_ ?_
  refine awp_region_ 3 (by kernel_rfl) ?_
  refine rs1 (.box ((3, 0), 1) 0) ((3, 0), 1) (.cells 59 [(.int .i64 a0_0), (.int .i64 a0_1), (.int .i64 a0_2)]) (by kernel_rfl) ?_
  refine rs0 (.bool false) (by kernel_rfl) ?_
  refine rnil (tn_ ?_)
  refine ⟨_, Weak.refl _, ?_⟩
  refine awp_seqB h (fun (l2_m6 : Bool) S_ => S_ = ⟨mkTm [(6, (.bool l2_m6))], mkOb (someL []), 2⟩) ?_ ?_
  · intro v_ h
    obtain ⟨y3, h3, h⟩ := ob_some h
    rcases cond_some h with ⟨q4, h⟩ | ⟨q4, h⟩
    · obtain ⟨y5, h5, h⟩ := ob_some h
      rcases cond_some h with ⟨q6, h⟩ | ⟨q6, h⟩
      · rcases cond_some h with ⟨q7, h⟩ | ⟨q7, h⟩
        · obtain ⟨y8, h8, h⟩ := ob_some h
          refine awp_region_ 30 (by kernel_rfl) ?_
          refine rs0 (.box ((3, 0), 1) 0) (by kernel_rfl) ?_
          refine rsl (.int .i64 a0_0) (by kernel_rfl) ?_
          refine rs0 (.int .i64 a2) (by kernel_rfl) ?_
          refine rs0 (.int .i64 (IntKind.i64.wrap (a2 - 1))) (by kernel_rfl) ?_
          refine rcall (.bool y3) [] [(.int .i64 a0_0), (.int .i64 0), (.int .i64 (IntKind.i64.wrap (a2 - 1)))] _ (caps := []) (args0 := [(.int .i64 a0_0), (.int .i64 0), (.int .i64 (IntKind.i64.wrap (a2 - 1)))]) trivial (by kernel_rfl) (by kernel_rfl) (by kernel_rfl) (by kernel_rfl) (ok_impl_within h3) hb_impl_within (by kernel_rfl) ?_
          refine rs0 (.bool y3) (by kernel_rfl) ?_
          refine rs0 (.box ((3, 0), 1) 1) (s_gd (by kernel_rfl) q4 (by kernel_rfl)) ?_
          refine rsl (.int .i64 a0_1) (s_gd (by kernel_rfl) q4 (by kernel_rfl)) ?_
          refine rs0 (.int .i64 a2) (s_gd (by kernel_rfl) q4 (by kernel_rfl)) ?_
          refine rs0 (.int .i64 (IntKind.i64.wrap (a2 - 1))) (s_gd (by kernel_rfl) q4 (by kernel_rfl)) ?_
          refine rcall (.bool y5) [] [(.int .i64 a0_1), (.int .i64 0), (.int .i64 (IntKind.i64.wrap (a2 - 1)))] _ (caps := []) (args0 := [(.int .i64 a0_1), (.int .i64 0), (.int .i64 (IntKind.i64.wrap (a2 - 1)))]) (gdOK_b (by kernel_rfl) q4) (by kernel_rfl) (by kernel_rfl) (by kernel_rfl) (by kernel_rfl) (ok_impl_within h5) hb_impl_within (by kernel_rfl) ?_
          refine rs0 (.bool y5) (s_pickT (by kernel_rfl) q4) ?_
          refine rs0 (.bool y5) (by kernel_rfl) ?_
          refine rs0 (.box ((3, 0), 1) 0) (s_gd (by kernel_rfl) q6 (by kernel_rfl)) ?_
          refine rsl (.int .i64 a0_0) (s_gd (by kernel_rfl) q6 (by kernel_rfl)) ?_
          refine rs0 (.box ((3, 0), 1) 1) (s_gd (by kernel_rfl) q6 (by kernel_rfl)) ?_
          refine rsl (.int .i64 a0_1) (s_gd (by kernel_rfl) q6 (by kernel_rfl)) ?_
          refine rs0 (.bool (a0_0 != a0_1)) (s_gd (by kernel_rfl) q6 (by kernel_rfl)) ?_
          refine rs0 (.bool (a0_0 != a0_1)) (s_pickT (by kernel_rfl) q6) ?_
          refine rs0 (.bool (a0_0 != a0_1)) (by kernel_rfl) ?_
          refine rs0 (.box ((3, 0), 1) 2) (s_gd (by kernel_rfl) q7 (by kernel_rfl)) ?_
          refine rsl (.int .i64 a0_2) (s_gd (by kernel_rfl) q7 (by kernel_rfl)) ?_
          refine rs0 (.int .i64 a1) (s_gd (by kernel_rfl) q7 (by kernel_rfl)) ?_
          refine rs0 (.int .i64 (IntKind.i64.wrap (a1 - 1))) (s_gd (by kernel_rfl) q7 (by kernel_rfl)) ?_
          refine rcall (.bool y8) [] [(.int .i64 a0_2), (.int .i64 1), (.int .i64 (IntKind.i64.wrap (a1 - 1)))] _ (caps := []) (args0 := [(.int .i64 a0_2), (.int .i64 1), (.int .i64 (IntKind.i64.wrap (a1 - 1)))]) (gdOK_b (by kernel_rfl) q7) (by kernel_rfl) (by kernel_rfl) (by kernel_rfl) (by kernel_rfl) (ok_impl_within h8) hb_impl_within (by kernel_rfl) ?_
          refine rs0 (.bool y8) (s_pickT (by kernel_rfl) q7) ?_
          refine rs0 (.bool y8) (by kernel_rfl) ?_
          refine rnil (tn_ ?_)
          obtain rfl := Option.some.inj h
          exact ⟨_, (weak_ren [] (by kernel_rfl) (obsR_of (by kernel_rfl)) (by kernel_rfl)), rfl⟩
        · refine awp_region_ 30 (by kernel_rfl) ?_
          refine rs0 (.box ((3, 0), 1) 0) (by kernel_rfl) ?_
          refine rsl (.int .i64 a0_0) (by kernel_rfl) ?_
          refine rs0 (.int .i64 a2) (by kernel_rfl) ?_
          refine rs0 (.int .i64 (IntKind.i64.wrap (a2 - 1))) (by kernel_rfl) ?_
          refine rcall (.bool y3) [] [(.int .i64 a0_0), (.int .i64 0), (.int .i64 (IntKind.i64.wrap (a2 - 1)))] _ (caps := []) (args0 := [(.int .i64 a0_0), (.int .i64 0), (.int .i64 (IntKind.i64.wrap (a2 - 1)))]) trivial (by kernel_rfl) (by kernel_rfl) (by kernel_rfl) (by kernel_rfl) (ok_impl_within h3) hb_impl_within (by kernel_rfl) ?_
          refine rs0 (.bool y3) (by kernel_rfl) ?_
          refine rs0 (.box ((3, 0), 1) 1) (s_gd (by kernel_rfl) q4 (by kernel_rfl)) ?_
          refine rsl (.int .i64 a0_1) (s_gd (by kernel_rfl) q4 (by kernel_rfl)) ?_
          refine rs0 (.int .i64 a2) (s_gd (by kernel_rfl) q4 (by kernel_rfl)) ?_
          refine rs0 (.int .i64 (IntKind.i64.wrap (a2 - 1))) (s_gd (by kernel_rfl) q4 (by kernel_rfl)) ?_
          refine rcall (.bool y5) [] [(.int .i64 a0_1), (.int .i64 0), (.int .i64 (IntKind.i64.wrap (a2 - 1)))] _ (caps := []) (args0 := [(.int .i64 a0_1), (.int .i64 0), (.int .i64 (IntKind.i64.wrap (a2 - 1)))]) (gdOK_b (by kernel_rfl) q4) (by kernel_rfl) (by kernel_rfl) (by kernel_rfl) (by kernel_rfl) (ok_impl_within h5) hb_impl_within (by kernel_rfl) ?_
          refine rs0 (.bool y5) (s_pickT (by kernel_rfl) q4) ?_
          refine rs0 (.bool y5) (by kernel_rfl) ?_
          refine rs0 (.box ((3, 0), 1) 0) (s_gd (by kernel_rfl) q6 (by kernel_rfl)) ?_
          refine rsl (.int .i64 a0_0) (s_gd (by kernel_rfl) q6 (by kernel_rfl)) ?_
          refine rs0 (.box ((3, 0), 1) 1) (s_gd (by kernel_rfl) q6 (by kernel_rfl)) ?_
          refine rsl (.int .i64 a0_1) (s_gd (by kernel_rfl) q6 (by kernel_rfl)) ?_
          refine rs0 (.bool (a0_0 != a0_1)) (s_gd (by kernel_rfl) q6 (by kernel_rfl)) ?_
          refine rs0 (.bool (a0_0 != a0_1)) (s_pickT (by kernel_rfl) q6) ?_
          refine rs0 (.bool (a0_0 != a0_1)) (by kernel_rfl) ?_
          refine rs0 (.tup []) (s_skip (by kernel_rfl) q7) ?_
          refine rs0 (.tup []) (s_skip (by kernel_rfl) q7) ?_
          refine rs0 (.tup []) (s_skip (by kernel_rfl) q7) ?_
          refine rs0 (.tup []) (s_skip (by kernel_rfl) q7) ?_
          refine rs0 (.tup []) (s_skip (by kernel_rfl) q7) ?_
          refine rs0 (.bool false) (s_pickF (by kernel_rfl) q7) ?_
          refine rs0 (.bool false) (by kernel_rfl) ?_
          refine rnil (tn_ ?_)
          obtain rfl := Option.some.inj h
          exact ⟨_, (weak_ren [] (by kernel_rfl) (obsR_of (by kernel_rfl)) (by kernel_rfl)), rfl⟩
      · refine awp_region_ 30 (by kernel_rfl) ?_
        refine rs0 (.box ((3, 0), 1) 0) (by kernel_rfl) ?_
        refine rsl (.int .i64 a0_0) (by kernel_rfl) ?_
        refine rs0 (.int .i64 a2) (by kernel_rfl) ?_
        refine rs0 (.int .i64 (IntKind.i64.wrap (a2 - 1))) (by kernel_rfl) ?_
        refine rcall (.bool y3) [] [(.int .i64 a0_0), (.int .i64 0), (.int .i64 (IntKind.i64.wrap (a2 - 1)))] _ (caps := []) (args0 := [(.int .i64 a0_0), (.int .i64 0), (.int .i64 (IntKind.i64.wrap (a2 - 1)))]) trivial (by kernel_rfl) (by kernel_rfl) (by kernel_rfl) (by kernel_rfl) (ok_impl_within h3) hb_impl_within (by kernel_rfl) ?_
        refine rs0 (.bool y3) (by kernel_rfl) ?_
        refine rs0 (.box ((3, 0), 1) 1) (s_gd (by kernel_rfl) q4 (by kernel_rfl)) ?_
        refine rsl (.int .i64 a0_1) (s_gd (by kernel_rfl) q4 (by kernel_rfl)) ?_
        refine rs0 (.int .i64 a2) (s_gd (by kernel_rfl) q4 (by kernel_rfl)) ?_
        refine rs0 (.int .i64 (IntKind.i64.wrap (a2 - 1))) (s_gd (by kernel_rfl) q4 (by kernel_rfl)) ?_
        refine rcall (.bool y5) [] [(.int .i64 a0_1), (.int .i64 0), (.int .i64 (IntKind.i64.wrap (a2 - 1)))] _ (caps := []) (args0 := [(.int .i64 a0_1), (.int .i64 0), (.int .i64 (IntKind.i64.wrap (a2 - 1)))]) (gdOK_b (by kernel_rfl) q4) (by kernel_rfl) (by kernel_rfl) (by kernel_rfl) (by kernel_rfl) (ok_impl_within h5) hb_impl_within (by kernel_rfl) ?_
        refine rs0 (.bool y5) (s_pickT (by kernel_rfl) q4) ?_
        refine rs0 (.bool y5) (by kernel_rfl) ?_
        refine rs0 (.tup []) (s_skip (by kernel_rfl) q6) ?_
        refine rs0 (.tup []) (s_skip (by kernel_rfl) q6) ?_
        refine rs0 (.tup []) (s_skip (by kernel_rfl) q6) ?_
        refine rs0 (.tup []) (s_skip (by kernel_rfl) q6) ?_
        refine rs0 (.tup []) (s_skip (by kernel_rfl) q6) ?_
        refine rs0 (.bool false) (s_pickF (by kernel_rfl) q6) ?_
        refine rs0 (.bool false) (by kernel_rfl) ?_
        refine rs0 (.tup []) (by kernel_rfl) ?_
        refine rs0 (.tup []) (by kernel_rfl) ?_
        refine rs0 (.tup []) (by kernel_rfl) ?_
        refine rs0 (.tup []) (by kernel_rfl) ?_
        refine rs0 (.tup []) (by kernel_rfl) ?_
        refine rs0 (.bool false) (by kernel_rfl) ?_
        refine rs0 (.bool false) (by kernel_rfl) ?_
        refine rnil (tn_ ?_)
        obtain rfl := Option.some.inj h
        exact ⟨_, (weak_ren [] (by kernel_rfl) (obsR_of (by kernel_rfl)) (by kernel_rfl)), rfl⟩
    · refine awp_region_ 30 (by kernel_rfl) ?_
      refine rs0 (.box ((3, 0), 1) 0) (by kernel_rfl) ?_
      refine rsl (.int .i64 a0_0) (by kernel_rfl) ?_
      refine rs0 (.int .i64 a2) (by kernel_rfl) ?_
      refine rs0 (.int .i64 (IntKind.i64.wrap (a2 - 1))) (by kernel_rfl) ?_
      refine rcall (.bool y3) [] [(.int .i64 a0_0), (.int .i64 0), (.int .i64 (IntKind.i64.wrap (a2 - 1)))] _ (caps := []) (args0 := [(.int .i64 a0_0), (.int .i64 0), (.int .i64 (IntKind.i64.wrap (a2 - 1)))]) trivial (by kernel_rfl) (by kernel_rfl) (by kernel_rfl) (by kernel_rfl) (ok_impl_within h3) hb_impl_within (by kernel_rfl) ?_
      refine rs0 (.bool y3) (by kernel_rfl) ?_
      refine rs0 (.tup []) (s_skip (by kernel_rfl) q4) ?_
      refine rs0 (.tup []) (s_skip (by kernel_rfl) q4) ?_
      refine rs0 (.tup []) (s_skip (by kernel_rfl) q4) ?_
      refine rs0 (.tup []) (s_skip (by kernel_rfl) q4) ?_
      refine rs0 (.tup []) (s_skip (by kernel_rfl) q4) ?_
      refine rs0 (.bool false) (s_pickF (by kernel_rfl) q4) ?_
      refine rs0 (.bool false) (by kernel_rfl) ?_
      refine rs0 (.tup []) (by kernel_rfl) ?_
      refine rs0 (.tup []) (by kernel_rfl) ?_
      refine rs0 (.tup []) (by kernel_rfl) ?_
      refine rs0 (.tup []) (by kernel_rfl) ?_
      refine rs0 (.tup []) (by kernel_rfl) ?_
      refine rs0 (.bool false) (by kernel_rfl) ?_
      refine rs0 (.bool false) (by kernel_rfl) ?_
      refine rs0 (.tup []) (by kernel_rfl) ?_
      refine rs0 (.tup []) (by kernel_rfl) ?_
      refine rs0 (.tup []) (by kernel_rfl) ?_
      refine rs0 (.tup []) (by kernel_rfl) ?_
      refine rs0 (.tup []) (by kernel_rfl) ?_
      refine rs0 (.bool false) (by kernel_rfl) ?_
      refine rs0 (.bool false) (by kernel_rfl) ?_
      refine rnil (tn_ ?_)
      obtain rfl := Option.some.inj h
      exact ⟨_, (weak_ren [] (by kernel_rfl) (obsR_of (by kernel_rfl)) (by kernel_rfl)), rfl⟩
  · rintro l2_m6 _ rfl h
    (try dsimp only at h)
    refine awp_ret_ ?_
    obtain rfl := Option.some.inj h
    exact ret_ [(.bool l2_m6)] (by simp) (by kernel_rfl) (p_one rfl (l_sc (by kernel_rfl)) p_nil) (by kernel_rfl) (by kernel_rfl)
def m_impl_isNetwork_1 : AC :=
  (.seq (.region [⟨(some 3), none, (.i (.box 59 (.tmp 0)))⟩, ⟨(some 4), none, (.i (.mov (.cst (.bool false))))⟩] false [])
  (.seq (.region [⟨(some 5), none, (.i (.ld false 3 (.tmp 3)))⟩, ⟨(some 6), none, (.i (.ld true 1 (.tmp 1)))⟩, ⟨(some 7), none, (.i (.fld 0 (.tmp 2)))⟩, ⟨(some 8), none, (.i (.ld true 1 (.tmp 7)))⟩, ⟨(some 9), none, (.call (.cst (.fn 93 [])) [(.tmp 5), (.tmp 6), (.tmp 8)] [[none, none, none], [], []])⟩, ⟨(some 10), none, (.i (.not (.tmp 9)))⟩, ⟨(some 4), none, (.i (.mov (.tmp 10)))⟩] false [])
  .ret))
def r_impl_isNetwork_1 : List Res := [.tmp 4]
theorem c_impl_isNetwork_1 : compiled Tryd.prog Tryd.f92 = some (m_impl_isNetwork_1, r_impl_isNetwork_1) := by kernel_rfl
theorem hb_impl_isNetwork_1 : hasBody Tryd.prog 92 = true := by kernel_rfl
def L_impl_isNetwork_1 (a0_0 : Int) (a0_1 : Int) (a0_2 : Int) (c0_0 : Int) (c1_0 : Int) (c1_1 : List (Int × Int × Int)) (c1_2 : List Int) (c1_3 : List Int) : Option Bool :=
  Option.bind (L_impl_Branch_isBranch a0_0 a0_1 a0_2 c0_0 c1_0) fun y3 =>
some (!y3)
def rv_impl_isNetwork_1 (r : Bool) : RV := ⟨false, [(false, [.sc (.bool r)])]⟩
theorem ok_impl_isNetwork_1 {a0_0 : Int} {a0_1 : Int} {a0_2 : Int} {c0_0 : Int} {c1_0 : Int} {c1_1 : List (Int × Int × Int)} {c1_2 : List Int} {c1_3 : List Int} {r : Bool} (h : L_impl_isNetwork_1 a0_0 a0_1 a0_2 c0_0 c1_0 c1_1 c1_2 c1_3 = some r) : CallOK Tryd.prog Tab 92 [(.agg [(.int .i64 a0_0), (.int .i64 a0_1), (.int .i64 a0_2)]), (.ref [(.int .i64 c0_0)]), (.ref [(.int .i64 c1_0), (.tree (.pair .int (.pair .int .int)) c1_1), (.tree .int c1_2), (.tree .int c1_3)])] (rv_impl_isNetwork_1 r) := by
  refine call_of_ (by kernel_rfl) Tryd.func92 c_impl_isNetwork_1 (n := 11) (by kernel_rfl) (by simp) (tl := [(0, (.agg [(.int .i64 a0_0), (.int .i64 a0_1), (.int .i64 a0_2)])), (1, (.ref [(.int .i64 c0_0)])), (2, (.ref [(.int .i64 c1_0), (.tree (.pair .int (.pair .int .int)) c1_1), (.tree .int c1_2), (.tree .int c1_3)]))]) rfl ?_
  unfold m_impl_isNetwork_1
  unfold L_impl_isNetwork_1 at h
  refine awp_seqv_ ?_
  refine awp_region_ 3 (by kernel_rfl) ?_
  refine rs1 (.box ((3, 0), 1) 0) ((3, 0), 1) (.cells 59 [(.int .i64 a0_0), (.int .i64 a0_1), (.int .i64 a0_2)]) (by kernel_rfl) ?_
  refine rs0 (.bool false) (by kernel_rfl) ?_
  refine rnil (tn_ ?_)
  refine ⟨_, Weak.refl _, ?_⟩
  refine awp_seqv_ ?_
  obtain ⟨y3, h3, h⟩ := ob_some h
  refine awp_region_ 10 (by kernel_rfl) ?_
  refine rsl (.agg [(.int .i64 a0_0), (.int .i64 a0_1), (.int .i64 a0_2)]) (by kernel_rfl) ?_
  refine rs0 (.int .i64 c0_0) (by kernel_rfl) ?_
  refine rs0 (.ref [(.int .i64 c1_0), (.tree (.pair .int (.pair .int .int)) c1_1), (.tree .int c1_2), (.tree .int c1_3)]) (by kernel_rfl) ?_
  refine rs0 (.int .i64 c1_0) (by kernel_rfl) ?_
  refine rcall (.bool y3) [] [(.agg [(.int .i64 a0_0), (.int .i64 a0_1), (.int .i64 a0_2)]), (.int .i64 c0_0), (.int .i64 c1_0)] _ (caps := []) (args0 := [(.agg [(.int .i64 a0_0), (.int .i64 a0_1), (.int .i64 a0_2)]), (.int .i64 c0_0), (.int .i64 c1_0)]) trivial (by kernel_rfl) (by kernel_rfl) (by kernel_rfl) (by kernel_rfl) (ok_impl_Branch_isBranch h3) hb_impl_Branch_isBranch (by kernel_rfl) ?_
  refine rs0 (.bool (!y3)) (by kernel_rfl) ?_
  refine rs0 (.bool (!y3)) (by kernel_rfl) ?_
  refine rnil (tn_ ?_)
  refine ⟨_, Weak.refl _, ?_⟩
  refine awp_ret_ ?_
  obtain rfl := Option.some.inj h
  exact ret_ [(.bool (!y3))] (by simp) (by kernel_rfl) (p_one rfl (l_sc (by kernel_rfl)) p_nil) (by kernel_rfl) (by kernel_rfl)
def m_slices_IndexFunc_impl_Branch_impl_Branch_l1 : AC :=
  (.seq (.region [⟨(some 9), none, (.i (.bin .lss (.tmp 8) (.tmp 7)))⟩] false [])
  (.seq (.cond (.tmp 9)
    .skip
    (.exit 0))
  (.seq (.block 1 (.seq (.region [⟨(some 10), none, (.i (.mov (.tmp 8)))⟩, ⟨(some 5), none, (.i (.mov (.tmp 10)))⟩] false [])
  (.seq (.region [⟨(some 11), none, (.i (.mov (.tmp 1)))⟩, ⟨(some 12), none, (.i (.mov (.tmp 0)))⟩, ⟨(some 13), none, (.i (.mov (.tmp 5)))⟩, ⟨(some 14), none, (.i (.idx 3 (.tmp 12) (.tmp 13)))⟩, ⟨(some 15), none, (.i (.ld false 3 (.tmp 14)))⟩, ⟨(some 16), none, (.call (.tmp 11) [(.tmp 15)] [[none, none, none]])⟩] false [])
  (.cond (.tmp 16)
    (.seq (.region [⟨(some 17), none, (.i (.mov (.tmp 5)))⟩, ⟨(some 4), none, (.i (.mov (.tmp 17)))⟩] false [])
    .ret)
    .skip))))
  (.region [⟨(some 18), none, (.i (.bin .add (.tmp 8) (.cst (.int .i64 1))))⟩, ⟨(some 8), none, (.i (.mov (.tmp 18)))⟩] false []))))
def m_slices_IndexFunc_impl_Branch_impl_Branch : AC :=
  (.seq (.region [⟨(some 4), none, (.i (.mov (.cst (.int .i64 0))))⟩] false [])
  (.seq (.seq (.region [⟨(some 6), none, (.i (.mov (.tmp 0)))⟩, ⟨(some 7), none, (.i (.len (.tmp 6)))⟩, ⟨(some 8), none, (.i (.mov (.cst (.int .i64 0))))⟩] false [])
  (.block 0 (.loop m_slices_IndexFunc_impl_Branch_impl_Branch_l1)))
  (.seq (.region [⟨(some 4), none, (.i (.mov (.cst (.int .i64 (-1)))))⟩] false [])
  .ret)))
def r_slices_IndexFunc_impl_Branch_impl_Branch : List Res := [.tmp 4]
theorem c_slices_IndexFunc_impl_Branch_impl_Branch : compiled Tryd.prog Tryd.f110 = some (m_slices_IndexFunc_impl_Branch_impl_Branch, r_slices_IndexFunc_impl_Branch_impl_Branch) := by kernel_rfl
theorem hb_slices_IndexFunc_impl_Branch_impl_Branch : hasBody Tryd.prog 110 = true := by kernel_rfl
def L_slices_IndexFunc_impl_Branch_impl_Branch_for_impl_isNetwork_1_l1 (a0 : List (Int × Int × Int)) (a1_0_0 : Int) (a1_1_0 : Int) (a1_1_1 : List (Int × Int × Int)) (a1_1_2 : List Int) (a1_1_3 : List Int) (l4_m8 : Nat) : Option (Ctl Nat (Ctl Unit Int)) :=
  cond (decide (((l4_m8 : Nat) : Int) < ((a0.length : Nat) : Int)))
  (Option.bind (a0[l4_m8]?) fun x11 =>
  Option.bind (L_impl_isNetwork_1 x11.1 x11.2.1 x11.2.2 a1_0_0 a1_1_0 a1_1_1 a1_1_2 a1_1_3) fun y12 =>
  cond y12
    (some (Ctl.out (Ctl.out ((l4_m8 : Nat) : Int))))
    (og (l4_m8 + 1 < 4611686018427387904) <|
    some (Ctl.next (l4_m8 + 1))))
  (some (Ctl.out (Ctl.next ())))
def L_slices_IndexFunc_impl_Branch_impl_Branch_for_impl_isNetwork_1 (a0 : List (Int × Int × Int)) (a1_0_0 : Int) (a1_1_0 : Int) (a1_1_1 : List (Int × Int × Int)) (a1_1_2 : List Int) (a1_1_3 : List Int) : Option Int :=
  seqC (loopM (fun s_ : Nat => L_slices_IndexFunc_impl_Branch_impl_Branch_for_impl_isNetwork_1_l1 a0 a1_0_0 a1_1_0 a1_1_1 a1_1_2 a1_1_3 s_) 4611686018427387904 0) fun _ =>
some (-1)
def rv_slices_IndexFunc_impl_Branch_impl_Branch_for_impl_isNetwork_1 (r : Int) : RV := ⟨false, [(false, [.sc (.int .i64 r)])]⟩
theorem ok_slices_IndexFunc_impl_Branch_impl_Branch_for_impl_isNetwork_1 {a0 : List (Int × Int × Int)} {a1_0_0 : Int} {a1_1_0 : Int} {a1_1_1 : List (Int × Int × Int)} {a1_1_2 : List Int} {a1_1_3 : List Int} {r : Int} (h : L_slices_IndexFunc_impl_Branch_impl_Branch_for_impl_isNetwork_1 a0 a1_0_0 a1_1_0 a1_1_1 a1_1_2 a1_1_3 = some r) : CallOK Tryd.prog Tab 110 [(.tree (.pair .int (.pair .int .int)) a0), (.fn 92 [(.ref [(.int .i64 a1_0_0)]), (.ref [(.int .i64 a1_1_0), (.tree (.pair .int (.pair .int .int)) a1_1_1), (.tree .int a1_1_2), (.tree .int a1_1_3)])])] (rv_slices_IndexFunc_impl_Branch_impl_Branch_for_impl_isNetwork_1 r) := by
  refine call_of_ (by kernel_rfl) Tryd.func110 c_slices_IndexFunc_impl_Branch_impl_Branch (n := 19) (by kernel_rfl) (by simp) (tl := [(0, (.tree (.pair .int (.pair .int .int)) a0)), (1, (.fn 92 [(.ref [(.int .i64 a1_0_0)]), (.ref [(.int .i64 a1_1_0), (.tree (.pair .int (.pair .int .int)) a1_1_1), (.tree .int a1_1_2), (.tree .int a1_1_3)])]))]) rfl ?_
  unfold m_slices_IndexFunc_impl_Branch_impl_Branch
  unfold L_slices_IndexFunc_impl_Branch_impl_Branch_for_impl_isNetwork_1 at h
  refine awp_seqv_ ?_
  refine awp_region_ 2 (by kernel_rfl) ?_
  refine rs0 (.int .i64 0) (by kernel_rfl) ?_
  refine rnil (tn_ ?_)
  refine ⟨_, Weak.refl _, ?_⟩
  refine awp_seqC h (fun (_ : Unit) S_ => S_ = ⟨mkTm [], mkOb (someL []), 2⟩) ?_ ?_
  · intro v_ h hk2
    refine awp_seqv_ ?_
    refine awp_region_ 5 (by kernel_rfl) ?_
    refine rs0 (.tree (.pair .int (.pair .int .int)) a0) (by kernel_rfl) ?_
    refine rs0 (.int .i64 ((a0.length : Nat) : Int)) (by kernel_rfl) ?_
    refine rs0 (.int .i64 0) (by kernel_rfl) ?_
    refine rnil (tn_ ?_)
    refine ⟨_, Weak.refl _, ?_⟩
    refine awp_block_ ?_
    refine awp_loopL h (fun (l4_m8 : Nat) S_ => S_ = ⟨mkTm [(0, (.tree (.pair .int (.pair .int .int)) a0)), (1, (.fn 92 [(.ref [(.int .i64 a1_0_0)]), (.ref [(.int .i64 a1_1_0), (.tree (.pair .int (.pair .int .int)) a1_1_1), (.tree .int a1_1_2), (.tree .int a1_1_3)])])), (7, (.int .i64 ((a0.length : Nat) : Int))), (8, (.int .i64 ((l4_m8 : Nat) : Int)))], mkOb (someL []), 2⟩) ⟨_, (weak_ren [] (by kernel_rfl) (obsR_of (by kernel_rfl)) (by kernel_rfl)), rfl⟩ ?_
    · rintro n_ l4_m8 _ c_ rfl h hn4
      (try dsimp only at h)
      unfold L_slices_IndexFunc_impl_Branch_impl_Branch_for_impl_isNetwork_1_l1 at h
      unfold m_slices_IndexFunc_impl_Branch_impl_Branch_l1
      refine awp_seqv_ ?_
      refine awp_region_ 3 (by kernel_rfl) ?_
      refine rs0 (.bool (decide (((l4_m8 : Nat) : Int) < ((a0.length : Nat) : Int)))) (by kernel_rfl) ?_
      refine rnil (tn_ ?_)
      refine ⟨_, Weak.refl _, ?_⟩
      refine awp_seqv_ ?_
      rcases cond_some h with ⟨q7, h⟩ | ⟨q7, h⟩
      · have q7_ := of_decide_eq_true q7
        refine awp_condT_ q7 (by kernel_rfl) ?_
        refine awp_skip_ (tn_ ?_)
        refine ⟨_, Weak.refl _, ?_⟩
        refine awp_seqv_ ?_
        refine awp_block_ ?_
        refine awp_seqv_ ?_
        refine awp_region_ 5 (by kernel_rfl) ?_
        refine rs0 (.int .i64 ((l4_m8 : Nat) : Int)) (by kernel_rfl) ?_
        refine rs0 (.int .i64 ((l4_m8 : Nat) : Int)) (by kernel_rfl) ?_
        refine rnil (tn_ ?_)
        refine ⟨_, Weak.refl _, ?_⟩
        refine awp_seqv_ ?_
        obtain ⟨x11, e11, h⟩ := ob_some h
        obtain ⟨y12, h12, h⟩ := ob_some h
        refine awp_region_ 11 (by kernel_rfl) ?_
        refine rs0 (.fn 92 [(.ref [(.int .i64 a1_0_0)]), (.ref [(.int .i64 a1_1_0), (.tree (.pair .int (.pair .int .int)) a1_1_1), (.tree .int a1_1_2), (.tree .int a1_1_3)])]) (by kernel_rfl) ?_
        refine rs0 (.tree (.pair .int (.pair .int .int)) a0) (by kernel_rfl) ?_
        refine rs0 (.int .i64 ((l4_m8 : Nat) : Int)) (by kernel_rfl) ?_
        refine rs0 (.telt (.pair .int (.pair .int .int)) x11 0) (s_idxT (t := (.pair .int (.pair .int .int))) (xs := a0) (k := .i64) (m := ((l4_m8 : Nat) : Int)) (by kernel_rfl) (by kernel_rfl) rfl (nat_nn _) rfl e11) ?_
        refine rs0 (.agg [(.int .i64 x11.1), (.int .i64 x11.2.1), (.int .i64 x11.2.2)]) (by kernel_rfl) ?_
        refine rcall (.bool y12) [] [(.agg [(.int .i64 x11.1), (.int .i64 x11.2.1), (.int .i64 x11.2.2)]), (.ref [(.int .i64 a1_0_0)]), (.ref [(.int .i64 a1_1_0), (.tree (.pair .int (.pair .int .int)) a1_1_1), (.tree .int a1_1_2), (.tree .int a1_1_3)])] _ (caps := [(.ref [(.int .i64 a1_0_0)]), (.ref [(.int .i64 a1_1_0), (.tree (.pair .int (.pair .int .int)) a1_1_1), (.tree .int a1_1_2), (.tree .int a1_1_3)])]) (args0 := [(.agg [(.int .i64 x11.1), (.int .i64 x11.2.1), (.int .i64 x11.2.2)]), (.ref [(.int .i64 a1_0_0)]), (.ref [(.int .i64 a1_1_0), (.tree (.pair .int (.pair .int .int)) a1_1_1), (.tree .int a1_1_2), (.tree .int a1_1_3)])]) trivial (by kernel_rfl) (by kernel_rfl) (by kernel_rfl) (by kernel_rfl) (ok_impl_isNetwork_1 h12) hb_impl_isNetwork_1 (by kernel_rfl) ?_
        refine rnil (tn_ ?_)
        refine ⟨_, Weak.refl _, ?_⟩
        rcases cond_some h with ⟨q13, h⟩ | ⟨q13, h⟩
        · refine awp_condT_ q13 (by kernel_rfl) ?_
          refine awp_seqv_ ?_
          refine awp_region_ 13 (by kernel_rfl) ?_
          refine rs0 (.int .i64 ((l4_m8 : Nat) : Int)) (by kernel_rfl) ?_
          refine rs0 (.int .i64 ((l4_m8 : Nat) : Int)) (by kernel_rfl) ?_
          refine rnil (tn_ ?_)
          refine ⟨_, Weak.refl _, ?_⟩
          refine awp_ret_ (br_ (tr_ (tr_ (br_ (tr_ ?_)))))
          obtain rfl := Option.some.inj h
          have h := hn4
          (try dsimp only at h)
          obtain rfl := Option.some.inj h
          have h := hk2
          (try dsimp only at h)
          obtain rfl := Option.some.inj h
          exact ret_ [(.int .i64 ((l4_m8 : Nat) : Int))] (by simp) (by kernel_rfl) (p_one rfl (l_sc (by kernel_rfl)) p_nil) (by kernel_rfl) (by kernel_rfl)
        · refine awp_condF_ q13 (by kernel_rfl) ?_
          refine awp_skip_ (bn_ (tn_ ?_))
          refine ⟨_, Weak.refl _, ?_⟩
          obtain ⟨g15, h⟩ := og_some h
          refine awp_region_ 13 (by kernel_rfl) ?_
          refine rs0 (.int .i64 ((l4_m8 + 1 : Nat) : Int)) (s_add1 (j := l4_m8) (by kernel_rfl) (by kernel_rfl) g15) ?_
          refine rs0 (.int .i64 ((l4_m8 + 1 : Nat) : Int)) (by kernel_rfl) ?_
          refine rnil (tn_ ?_)
          obtain rfl := Option.some.inj h
          exact ⟨l4_m8 + 1, _, (weak_ren [] (by kernel_rfl) (obsR_of (by kernel_rfl)) (by kernel_rfl)), rfl, hn4⟩
      · have q7_ := of_decide_eq_false q7
        refine awp_condF_ q7 (by kernel_rfl) ?_
        refine awp_exit_ (te_ (te_ (be_ (tn_ ?_))))
        obtain rfl := Option.some.inj h
        have h := hn4
        (try dsimp only at h)
        obtain rfl := Option.some.inj h
        exact ⟨(), _, rfl, (weak_ren [] (by kernel_rfl) (obsR_of (by kernel_rfl)) (by kernel_rfl)), rfl⟩
  · rintro _ _ rfl h
    (try dsimp only at h)
    refine awp_seqv_ ?_
    refine awp_region_ 3 (by kernel_rfl) ?_
    refine rs0 (.int .i64 (-1)) (by kernel_rfl) ?_
    refine rnil (tn_ ?_)
    refine ⟨_, Weak.refl _, ?_⟩
    refine awp_ret_ ?_
    obtain rfl := Option.some.inj h
    exact ret_ [(.int .i64 (-1))] (by simp) (by kernel_rfl) (p_one rfl (l_sc (by kernel_rfl)) p_nil) (by kernel_rfl) (by kernel_rfl)
def m_slices_ContainsFunc_impl_Branch_impl_Branch : AC :=
  (.seq (.region [⟨(some 4), none, (.i (.mov (.cst (.bool false))))⟩] false [])
  (.seq (.region [⟨(some 5), none, (.i (.mov (.tmp 0)))⟩, ⟨(some 6), none, (.i (.mov (.tmp 1)))⟩, ⟨(some 7), none, (.call (.cst (.fn 110 [])) [(.tmp 5), (.tmp 6)] [[(some (.pair .int (.pair .int .int)))], []])⟩, ⟨(some 8), none, (.i (.bin .geq (.tmp 7) (.cst (.int .i64 0))))⟩, ⟨(some 4), none, (.i (.mov (.tmp 8)))⟩] false [])
  .ret))
def r_slices_ContainsFunc_impl_Branch_impl_Branch : List Res := [.tmp 4]
theorem c_slices_ContainsFunc_impl_Branch_impl_Branch : compiled Tryd.prog Tryd.f91 = some (m_slices_ContainsFunc_impl_Branch_impl_Branch, r_slices_ContainsFunc_impl_Branch_impl_Branch) := by kernel_rfl
theorem hb_slices_ContainsFunc_impl_Branch_impl_Branch : hasBody Tryd.prog 91 = true := by kernel_rfl
def L_slices_ContainsFunc_impl_Branch_impl_Branch_for_impl_isNetwork_1 (a0 : List (Int × Int × Int)) (a1_0_0 : Int) (a1_1_0 : Int) (a1_1_1 : List (Int × Int × Int)) (a1_1_2 : List Int) (a1_1_3 : List Int) : Option Bool :=
  Option.bind (L_slices_IndexFunc_impl_Branch_impl_Branch_for_impl_isNetwork_1 a0 a1_0_0 a1_1_0 a1_1_1 a1_1_2 a1_1_3) fun y3 =>
some (decide (0 ≤ y3))
def rv_slices_ContainsFunc_impl_Branch_impl_Branch_for_impl_isNetwork_1 (r : Bool) : RV := ⟨false, [(false, [.sc (.bool r)])]⟩
theorem ok_slices_ContainsFunc_impl_Branch_impl_Branch_for_impl_isNetwork_1 {a0 : List (Int × Int × Int)} {a1_0_0 : Int} {a1_1_0 : Int} {a1_1_1 : List (Int × Int × Int)} {a1_1_2 : List Int} {a1_1_3 : List Int} {r : Bool} (h : L_slices_ContainsFunc_impl_Branch_impl_Branch_for_impl_isNetwork_1 a0 a1_0_0 a1_1_0 a1_1_1 a1_1_2 a1_1_3 = some r) : CallOK Tryd.prog Tab 91 [(.tree (.pair .int (.pair .int .int)) a0), (.fn 92 [(.ref [(.int .i64 a1_0_0)]), (.ref [(.int .i64 a1_1_0), (.tree (.pair .int (.pair .int .int)) a1_1_1), (.tree .int a1_1_2), (.tree .int a1_1_3)])])] (rv_slices_ContainsFunc_impl_Branch_impl_Branch_for_impl_isNetwork_1 r) := by
  refine call_of_ (by kernel_rfl) Tryd.func91 c_slices_ContainsFunc_impl_Branch_impl_Branch (n := 9) (by kernel_rfl) (by simp) (tl := [(0, (.tree (.pair .int (.pair .int .int)) a0)), (1, (.fn 92 [(.ref [(.int .i64 a1_0_0)]), (.ref [(.int .i64 a1_1_0), (.tree (.pair .int (.pair .int .int)) a1_1_1), (.tree .int a1_1_2), (.tree .int a1_1_3)])]))]) rfl ?_
  unfold m_slices_ContainsFunc_impl_Branch_impl_Branch
  unfold L_slices_ContainsFunc_impl_Branch_impl_Branch_for_impl_isNetwork_1 at h
  refine awp_seqv_ ?_
  refine awp_region_ 2 (by kernel_rfl) ?_
  refine rs0 (.bool false) (by kernel_rfl) ?_
  refine rnil (tn_ ?_)
  refine ⟨_, Weak.refl _, ?_⟩
  refine awp_seqv_ ?_
  obtain ⟨y3, h3, h⟩ := ob_some h
  refine awp_region_ 7 (by kernel_rfl) ?_
  refine rs0 (.tree (.pair .int (.pair .int .int)) a0) (by kernel_rfl) ?_
  refine rs0 (.fn 92 [(.ref [(.int .i64 a1_0_0)]), (.ref [(.int .i64 a1_1_0), (.tree (.pair .int (.pair .int .int)) a1_1_1), (.tree .int a1_1_2), (.tree .int a1_1_3)])]) (by kernel_rfl) ?_
  refine rcall (.int .i64 y3) [] [(.tree (.pair .int (.pair .int .int)) a0), (.fn 92 [(.ref [(.int .i64 a1_0_0)]), (.ref [(.int .i64 a1_1_0), (.tree (.pair .int (.pair .int .int)) a1_1_1), (.tree .int a1_1_2), (.tree .int a1_1_3)])])] _ (caps := []) (args0 := [(.tree (.pair .int (.pair .int .int)) a0), (.fn 92 [(.ref [(.int .i64 a1_0_0)]), (.ref [(.int .i64 a1_1_0), (.tree (.pair .int (.pair .int .int)) a1_1_1), (.tree .int a1_1_2), (.tree .int a1_1_3)])])]) trivial (by kernel_rfl) (by kernel_rfl) (by kernel_rfl) (by kernel_rfl) (ok_slices_IndexFunc_impl_Branch_impl_Branch_for_impl_isNetwork_1 h3) hb_slices_IndexFunc_impl_Branch_impl_Branch (by kernel_rfl) ?_
  refine rs0 (.bool (decide (0 ≤ y3))) (by kernel_rfl) ?_
  refine rs0 (.bool (decide (0 ≤ y3))) (by kernel_rfl) ?_
  refine rnil (tn_ ?_)
  refine ⟨_, Weak.refl _, ?_⟩
  refine awp_ret_ ?_
  obtain rfl := Option.some.inj h
  exact ret_ [(.bool (decide (0 ≤ y3)))] (by simp) (by kernel_rfl) (p_one rfl (l_sc (by kernel_rfl)) p_nil) (by kernel_rfl) (by kernel_rfl)
def m_impl_isNetwork : AC :=
  (.seq (.region [⟨(some 2), none, (.i (.box 3 (.tmp 0)))⟩, ⟨(some 3), none, (.i (.box 30 (.tmp 1)))⟩, ⟨(some 4), none, (.i (.mov (.cst (.bool false))))⟩] false [])
  (.seq (.seq (.region [⟨(some 5), none, (.i (.ld true 1 (.tmp 2)))⟩, ⟨(some 6), none, (.call (.cst (.fn 88 [])) [(.tmp 5)] [[]])⟩, ⟨(some 7), none, (.i (.not (.tmp 6)))⟩, ⟨(some 8), none, (.i (.mov (.tmp 7)))⟩, ⟨(some 9), (some (8, false)), (.i (.fld 0 (.tmp 3)))⟩, ⟨(some 10), (some (8, false)), (.i (.ld true 1 (.tmp 9)))⟩, ⟨(some 11), (some (8, false)), (.call (.cst (.fn 89 [])) [(.tmp 10), (.cst (.int .i64 1)), (.cst (.int .i64 20))] [[], [], []])⟩, ⟨(some 12), (some (8, false)), (.i (.not (.tmp 11)))⟩, ⟨(some 13), none, (.i (.pick (.tmp 8) (.cst (.bool true)) (.tmp 12)))⟩, ⟨(some 14), none, (.i (.mov (.tmp 13)))⟩, ⟨(some 15), (some (14, false)), (.i (.fld 1 (.tmp 3)))⟩, ⟨(some 16), (some (14, false)), (.i (.ld true 1 (.tmp 15)))⟩, ⟨(some 17), (some (14, false)), (.i (.len (.tmp 16)))⟩, ⟨(some 18), (some (14, false)), (.i (.bin .gtr (.tmp 17) (.cst (.int .i64 60))))⟩, ⟨(some 19), none, (.i (.pick (.tmp 14) (.cst (.bool true)) (.tmp 18)))⟩, ⟨(some 20), none, (.i (.mov (.tmp 19)))⟩, ⟨(some 21), (some (20, false)), (.i (.fld 2 (.tmp 3)))⟩, ⟨(some 22), (some (20, false)), (.i (.ld true 1 (.tmp 21)))⟩, ⟨(some 23), (some (20, false)), (.i (.len (.tmp 22)))⟩, ⟨(some 24), (some (20, false)), (.i (.bin .gtr (.tmp 23) (.cst (.int .i64 6))))⟩, ⟨(some 25), none, (.i (.pick (.tmp 20) (.cst (.bool true)) (.tmp 24)))⟩, ⟨(some 26), none, (.i (.mov (.tmp 25)))⟩, ⟨(some 27), (some (26, false)), (.i (.fld 3 (.tmp 3)))⟩, ⟨(some 28), (some (26, false)), (.i (.ld true 1 (.tmp 27)))⟩, ⟨(some 29), (some (26, false)), (.i (.len (.tmp 28)))⟩, ⟨(some 30), (some (26, false)), (.i (.bin .gtr (.tmp 29) (.cst (.int .i64 6))))⟩, ⟨(some 31), none, (.i (.pick (.tmp 26) (.cst (.bool true)) (.tmp 30)))⟩] false [])
  (.cond (.tmp 31)
    (.seq (.region [⟨(some 4), none, (.i (.mov (.cst (.bool false))))⟩] false [])
    .ret)
    .skip))
  (.seq (.seq (.region [⟨(some 32), none, (.i (.fld 2 (.tmp 3)))⟩, ⟨(some 33), none, (.i (.ld true 1 (.tmp 32)))⟩, ⟨(some 34), none, (.i (.fld 0 (.tmp 3)))⟩, ⟨(some 35), none, (.i (.ld true 1 (.tmp 34)))⟩, ⟨(some 36), none, (.call (.cst (.fn 90 [])) [(.tmp 33), (.tmp 35)] [[(some .int)], []])⟩, ⟨(some 37), none, (.i (.not (.tmp 36)))⟩, ⟨(some 38), none, (.i (.mov (.tmp 37)))⟩, ⟨(some 39), (some (38, false)), (.i (.fld 3 (.tmp 3)))⟩, ⟨(some 40), (some (38, false)), (.i (.ld true 1 (.tmp 39)))⟩, ⟨(some 41), (some (38, false)), (.i (.fld 0 (.tmp 3)))⟩, ⟨(some 42), (some (38, false)), (.i (.ld true 1 (.tmp 41)))⟩, ⟨(some 43), (some (38, false)), (.call (.cst (.fn 90 [])) [(.tmp 40), (.tmp 42)] [[(some .int)], []])⟩, ⟨(some 44), (some (38, false)), (.i (.not (.tmp 43)))⟩, ⟨(some 45), none, (.i (.pick (.tmp 38) (.cst (.bool true)) (.tmp 44)))⟩] false [])
  (.cond (.tmp 45)
    (.seq (.region [⟨(some 4), none, (.i (.mov (.cst (.bool false))))⟩] false [])
    .ret)
    .skip))
  (.seq (.region [⟨(some 46), none, (.i (.fld 1 (.tmp 3)))⟩, ⟨(some 47), none, (.i (.ld true 1 (.tmp 46)))⟩, ⟨(some 48), none, (.i (.mkfn 92 [(.tmp 2), (.tmp 3)]))⟩, ⟨(some 49), none, (.call (.cst (.fn 91 [])) [(.tmp 47), (.tmp 48)] [[(some (.pair .int (.pair .int .int)))], []])⟩, ⟨(some 50), none, (.i (.not (.tmp 49)))⟩, ⟨(some 4), none, (.i (.mov (.tmp 50)))⟩] false [])
  .ret))))
def r_impl_isNetwork : List Res := [.tmp 4]
theorem c_impl_isNetwork : compiled Tryd.prog Tryd.f44 = some (m_impl_isNetwork, r_impl_isNetwork) := by kernel_rfl
theorem hb_impl_isNetwork : hasBody Tryd.prog 44 = true := by kernel_rfl
def L_impl_isNetwork (a0 : Int) (a1_0 : Int) (a1_1 : List (Int × Int × Int)) (a1_2 : List Int) (a1_3 : List Int) : Option Bool :=
  Option.bind (Option.bind (L_impl_isField a0) fun y4 =>
  cond (!y4)
    (some true)
    (Option.bind (L_impl_within a1_0 1 20) fun y6 =>
    cond (!y6)
      (some true)
      (cond (decide (60 < ((a1_1.length : Nat) : Int)))
        (some true)
        (cond (decide (6 < ((a1_2.length : Nat) : Int)))
          (some true)
          (some (decide (6 < ((a1_3.length : Nat) : Int)))))))) fun l3_m31 =>
cond l3_m31
  (some false)
  (Option.bind (Option.bind (L_impl_areBelow a1_2 a1_0) fun y14 =>
    cond (!y14)
      (some true)
      (Option.bind (L_impl_areBelow a1_3 a1_0) fun y16 =>
      some (!y16))) fun l13_m45 =>
  cond l13_m45
    (some false)
    (Option.bind (L_slices_ContainsFunc_impl_Branch_impl_Branch_for_impl_isNetwork_1 a1_1 a0 a1_0 a1_1 a1_2 a1_3) fun y20 =>
    some (!y20)))
def rv_impl_isNetwork (r : Bool) : RV := ⟨false, [(false, [.sc (.bool r)])]⟩
theorem ok_impl_isNetwork {a0 : Int} {a1_0 : Int} {a1_1 : List (Int × Int × Int)} {a1_2 : List Int} {a1_3 : List Int} {r : Bool} (h : L_impl_isNetwork a0 a1_0 a1_1 a1_2 a1_3 = some r) : CallOK Tryd.prog Tab 44 [(.int .i64 a0), (.agg [(.int .i64 a1_0), (.tree (.pair .int (.pair .int .int)) a1_1), (.tree .int a1_2), (.tree .int a1_3)])] (rv_impl_isNetwork r) := by
  refine call_of_ (by kernel_rfl) Tryd.func44 c_impl_isNetwork (n := 51) (by kernel_rfl) (by simp) (tl := [(0, (.int .i64 a0)), (1, (.agg [(.int .i64 a1_0), (.tree (.pair .int (.pair .int .int)) a1_1), (.tree .int a1_2), (.tree .int a1_3)]))]) rfl ?_
  unfold m_impl_isNetwork
  unfold L_impl_isNetwork at h
  refine awp_seqv_ ?_
  refine awp_region_ 4 (by kernel_rfl) ?_
  refine rs1 (.box ((2, 0), 1) 0) ((2, 0), 1) (.cells 3 [(.int .i64 a0)]) (by kernel_rfl) ?_
  refine rs1 (.box ((3, 0), 2) 0) ((3, 0), 2) (.cells 30 [(.int .i64 a1_0), (.tree (.pair .int (.pair .int .int)) a1_1), (.tree .int a1_2), (.tree .int a1_3)]) (by kernel_rfl) ?_
  refine rs0 (.bool false) (by kernel_rfl) ?_
  refine rnil (tn_ ?_)
  refine ⟨_, Weak.refl _, ?_⟩
  refine awp_seqv_ ?_
  refine awp_seqB h (fun (l3_m31 : Bool) S_ => S_ = ⟨mkTm [(2, (.box ((0, 0), 1) 0)), (3, (.box ((1, 0), 1) 0)), (31, (.bool l3_m31))], mkOb (someL [(((0, 0), 1), .cells 3 [(.int .i64 a0)]), (((1, 0), 1), .cells 30 [(.int .i64 a1_0), (.tree (.pair .int (.pair .int .int)) a1_1), (.tree .int a1_2), (.tree .int a1_3)])]), 2⟩) ?_ ?_
  · intro v_ h
    obtain ⟨y4, h4, h⟩ := ob_some h
    rcases cond_some h with ⟨q5, h⟩ | ⟨q5, h⟩
    · refine awp_region_ 31 (by kernel_rfl) ?_
      refine rsl (.int .i64 a0) (by kernel_rfl) ?_
      refine rcall (.bool y4) [] [(.int .i64 a0)] _ (caps := []) (args0 := [(.int .i64 a0)]) trivial (by kernel_rfl) (by kernel_rfl) (by kernel_rfl) (by kernel_rfl) (ok_impl_isField h4) hb_impl_isField (by kernel_rfl) ?_
      refine rs0 (.bool (!y4)) (by kernel_rfl) ?_
      refine rs0 (.bool (!y4)) (by kernel_rfl) ?_
      refine rs0 (.tup []) (s_skip (by kernel_rfl) q5) ?_
      refine rs0 (.tup []) (s_skip (by kernel_rfl) q5) ?_
      refine rs0 (.tup []) (s_skip (by kernel_rfl) q5) ?_
      refine rs0 (.tup []) (s_skip (by kernel_rfl) q5) ?_
      refine rs0 (.bool true) (s_pickT (by kernel_rfl) q5) ?_
      refine rs0 (.bool true) (by kernel_rfl) ?_
      refine rs0 (.tup []) (by kernel_rfl) ?_
      refine rs0 (.tup []) (by kernel_rfl) ?_
      refine rs0 (.tup []) (by kernel_rfl) ?_
      refine rs0 (.tup []) (by kernel_rfl) ?_
      refine rs0 (.bool true) (by kernel_rfl) ?_
      refine rs0 (.bool true) (by kernel_rfl) ?_
      refine rs0 (.tup []) (by kernel_rfl) ?_
      refine rs0 (.tup []) (by kernel_rfl) ?_
      refine rs0 (.tup []) (by kernel_rfl) ?_
      refine rs0 (.tup []) (by kernel_rfl) ?_
      refine rs0 (.bool true) (by kernel_rfl) ?_
      refine rs0 (.bool true) (by kernel_rfl) ?_
      refine rs0 (.tup []) (by kernel_rfl) ?_
      refine rs0 (.tup []) (by kernel_rfl) ?_
      refine rs0 (.tup []) (by kernel_rfl) ?_
      refine rs0 (.tup []) (by kernel_rfl) ?_
      refine rs0 (.bool true) (by kernel_rfl) ?_
      refine rnil (tn_ ?_)
      obtain rfl := Option.some.inj h
      exact ⟨_, (weak_ren [(((0, 0), 1), ((2, 0), 1)), (((1, 0), 1), ((3, 0), 2))] (by kernel_rfl) (obsR_of (by kernel_rfl)) (by kernel_rfl)), rfl⟩
    · obtain ⟨y6, h6, h⟩ := ob_some h
      rcases cond_some h with ⟨q7, h⟩ | ⟨q7, h⟩
      · refine awp_region_ 31 (by kernel_rfl) ?_
        refine rsl (.int .i64 a0) (by kernel_rfl) ?_
        refine rcall (.bool y4) [] [(.int .i64 a0)] _ (caps := []) (args0 := [(.int .i64 a0)]) trivial (by kernel_rfl) (by kernel_rfl) (by kernel_rfl) (by kernel_rfl) (ok_impl_isField h4) hb_impl_isField (by kernel_rfl) ?_
        refine rs0 (.bool (!y4)) (by kernel_rfl) ?_
        refine rs0 (.bool (!y4)) (by kernel_rfl) ?_
        refine rs0 (.box ((3, 0), 2) 0) (s_gd (by kernel_rfl) q5 (by kernel_rfl)) ?_
        refine rsl (.int .i64 a1_0) (s_gd (by kernel_rfl) q5 (by kernel_rfl)) ?_
        refine rcall (.bool y6) [] [(.int .i64 a1_0), (.int .i64 1), (.int .i64 20)] _ (caps := []) (args0 := [(.int .i64 a1_0), (.int .i64 1), (.int .i64 20)]) (gdOK_b (by kernel_rfl) q5) (by kernel_rfl) (by kernel_rfl) (by kernel_rfl) (by kernel_rfl) (ok_impl_within h6) hb_impl_within (by kernel_rfl) ?_
        refine rs0 (.bool (!y6)) (s_gd (by kernel_rfl) q5 (by kernel_rfl)) ?_
        refine rs0 (.bool (!y6)) (s_pickF (by kernel_rfl) q5) ?_
        refine rs0 (.bool (!y6)) (by kernel_rfl) ?_
        refine rs0 (.tup []) (s_skip (by kernel_rfl) q7) ?_
        refine rs0 (.tup []) (s_skip (by kernel_rfl) q7) ?_
        refine rs0 (.tup []) (s_skip (by kernel_rfl) q7) ?_
        refine rs0 (.tup []) (s_skip (by kernel_rfl) q7) ?_
        refine rs0 (.bool true) (s_pickT (by kernel_rfl) q7) ?_
        refine rs0 (.bool true) (by kernel_rfl) ?_
        refine rs0 (.tup []) (by kernel_rfl) ?_
        refine rs0 (.tup []) (by kernel_rfl) ?_
        refine rs0 (.tup []) (by kernel_rfl) ?_
        refine rs0 (.tup []) (by kernel_rfl) ?_
        refine rs0 (.bool true) (by kernel_rfl) ?_
        refine rs0 (.bool true) (by kernel_rfl) ?_
        refine rs0 (.tup []) (by kernel_rfl) ?_
        refine rs0 (.tup []) (by kernel_rfl) ?_
        refine rs0 (.tup []) (by kernel_rfl) ?_
        refine rs0 (.tup []) (by kernel_rfl) ?_
        refine rs0 (.bool true) (by kernel_rfl) ?_
        refine rnil (tn_ ?_)
        obtain rfl := Option.some.inj h
        exact ⟨_, (weak_ren [(((0, 0), 1), ((2, 0), 1)), (((1, 0), 1), ((3, 0), 2))] (by kernel_rfl) (obsR_of (by kernel_rfl)) (by kernel_rfl)), rfl⟩
      · rcases cond_some h with ⟨q8, h⟩ | ⟨q8, h⟩
        · have q8_ := of_decide_eq_true q8
          refine awp_region_ 31 (by kernel_rfl) ?_
          refine rsl (.int .i64 a0) (by kernel_rfl) ?_
          refine rcall (.bool y4) [] [(.int .i64 a0)] _ (caps := []) (args0 := [(.int .i64 a0)]) trivial (by kernel_rfl) (by kernel_rfl) (by kernel_rfl) (by kernel_rfl) (ok_impl_isField h4) hb_impl_isField (by kernel_rfl) ?_
          refine rs0 (.bool (!y4)) (by kernel_rfl) ?_
          refine rs0 (.bool (!y4)) (by kernel_rfl) ?_
          refine rs0 (.box ((3, 0), 2) 0) (s_gd (by kernel_rfl) q5 (by kernel_rfl)) ?_
          refine rsl (.int .i64 a1_0) (s_gd (by kernel_rfl) q5 (by kernel_rfl)) ?_
          refine rcall (.bool y6) [] [(.int .i64 a1_0), (.int .i64 1), (.int .i64 20)] _ (caps := []) (args0 := [(.int .i64 a1_0), (.int .i64 1), (.int .i64 20)]) (gdOK_b (by kernel_rfl) q5) (by kernel_rfl) (by kernel_rfl) (by kernel_rfl) (by kernel_rfl) (ok_impl_within h6) hb_impl_within (by kernel_rfl) ?_
          refine rs0 (.bool (!y6)) (s_gd (by kernel_rfl) q5 (by kernel_rfl)) ?_
          refine rs0 (.bool (!y6)) (s_pickF (by kernel_rfl) q5) ?_
          refine rs0 (.bool (!y6)) (by kernel_rfl) ?_
          refine rs0 (.box ((3, 0), 2) 1) (s_gd (by kernel_rfl) q7 (by kernel_rfl)) ?_
          refine rsl (.tree (.pair .int (.pair .int .int)) a1_1) (s_gd (by kernel_rfl) q7 (by kernel_rfl)) ?_
          refine rs0 (.int .i64 ((a1_1.length : Nat) : Int)) (s_gd (by kernel_rfl) q7 (by kernel_rfl)) ?_
          refine rs0 (.bool (decide (60 < ((a1_1.length : Nat) : Int)))) (s_gd (by kernel_rfl) q7 (by kernel_rfl)) ?_
          refine rs0 (.bool (decide (60 < ((a1_1.length : Nat) : Int)))) (s_pickF (by kernel_rfl) q7) ?_
          refine rs0 (.bool (decide (60 < ((a1_1.length : Nat) : Int)))) (by kernel_rfl) ?_
          refine rs0 (.tup []) (s_skip (by kernel_rfl) q8) ?_
          refine rs0 (.tup []) (s_skip (by kernel_rfl) q8) ?_
          refine rs0 (.tup []) (s_skip (by kernel_rfl) q8) ?_
          refine rs0 (.tup []) (s_skip (by kernel_rfl) q8) ?_
          refine rs0 (.bool true) (s_pickT (by kernel_rfl) q8) ?_
          refine rs0 (.bool true) (by kernel_rfl) ?_
          refine rs0 (.tup []) (by kernel_rfl) ?_
          refine rs0 (.tup []) (by kernel_rfl) ?_
          refine rs0 (.tup []) (by kernel_rfl) ?_
          refine rs0 (.tup []) (by kernel_rfl) ?_
          refine rs0 (.bool true) (by kernel_rfl) ?_
          refine rnil (tn_ ?_)
          obtain rfl := Option.some.inj h
          exact ⟨_, (weak_ren [(((0, 0), 1), ((2, 0), 1)), (((1, 0), 1), ((3, 0), 2))] (by kernel_rfl) (obsR_of (by kernel_rfl)) (by kernel_rfl)), rfl⟩
        · have q8_ := of_decide_eq_false q8
          rcases cond_some h with ⟨q9, h⟩ | ⟨q9, h⟩
          · have q9_ := of_decide_eq_true q9
            refine awp_region_ 31 (by kernel_rfl) ?_
            refine rsl (.int .i64 a0) (by kernel_rfl) ?_
            refine rcall (.bool y4) [] [(.int .i64 a0)] _ (caps := []) (args0 := [(.int .i64 a0)]) trivial (by kernel_rfl) (by kernel_rfl) (by kernel_rfl) (by kernel_rfl) (ok_impl_isField h4) hb_impl_isField (by kernel_rfl) ?_
            refine rs0 (.bool (!y4)) (by kernel_rfl) ?_
            refine rs0 (.bool (!y4)) (by kernel_rfl) ?_
            refine rs0 (.box ((3, 0), 2) 0) (s_gd (by kernel_rfl) q5 (by kernel_rfl)) ?_
            refine rsl (.int .i64 a1_0) (s_gd (by kernel_rfl) q5 (by kernel_rfl)) ?_
            refine rcall (.bool y6) [] [(.int .i64 a1_0), (.int .i64 1), (.int .i64 20)] _ (caps := []) (args0 := [(.int .i64 a1_0), (.int .i64 1), (.int .i64 20)]) (gdOK_b (by kernel_rfl) q5) (by kernel_rfl) (by kernel_rfl) (by kernel_rfl) (by kernel_rfl) (ok_impl_within h6) hb_impl_within (by kernel_rfl) ?_
            refine rs0 (.bool (!y6)) (s_gd (by kernel_rfl) q5 (by kernel_rfl)) ?_
            refine rs0 (.bool (!y6)) (s_pickF (by kernel_rfl) q5) ?_
            refine rs0 (.bool (!y6)) (by kernel_rfl) ?_
            refine rs0 (.box ((3, 0), 2) 1) (s_gd (by kernel_rfl) q7 (by kernel_rfl)) ?_
            refine rsl (.tree (.pair .int (.pair .int .int)) a1_1) (s_gd (by kernel_rfl) q7 (by kernel_rfl)) ?_
            refine rs0 (.int .i64 ((a1_1.length : Nat) : Int)) (s_gd (by kernel_rfl) q7 (by kernel_rfl)) ?_
            refine rs0 (.bool (decide (60 < ((a1_1.length : Nat) : Int)))) (s_gd (by kernel_rfl) q7 (by kernel_rfl)) ?_
            refine rs0 (.bool (decide (60 < ((a1_1.length : Nat) : Int)))) (s_pickF (by kernel_rfl) q7) ?_
            refine rs0 (.bool (decide (60 < ((a1_1.length : Nat) : Int)))) (by kernel_rfl) ?_
            refine rs0 (.box ((3, 0), 2) 2) (s_gd (by kernel_rfl) q8 (by kernel_rfl)) ?_
            refine rsl (.tree .int a1_2) (s_gd (by kernel_rfl) q8 (by kernel_rfl)) ?_
            refine rs0 (.int .i64 ((a1_2.length : Nat) : Int)) (s_gd (by kernel_rfl) q8 (by kernel_rfl)) ?_
            refine rs0 (.bool (decide (6 < ((a1_2.length : Nat) : Int)))) (s_gd (by kernel_rfl) q8 (by kernel_rfl)) ?_
            refine rs0 (.bool (decide (6 < ((a1_2.length : Nat) : Int)))) (s_pickF (by kernel_rfl) q8) ?_
            refine rs0 (.bool (decide (6 < ((a1_2.length : Nat) : Int)))) (by kernel_rfl) ?_
            refine rs0 (.tup []) (s_skip (by kernel_rfl) q9) ?_
            refine rs0 (.tup []) (s_skip (by kernel_rfl) q9) ?_
            refine rs0 (.tup []) (s_skip (by kernel_rfl) q9) ?_
            refine rs0 (.tup []) (s_skip (by kernel_rfl) q9) ?_
            refine rs0 (.bool true) (s_pickT (by kernel_rfl) q9) ?_
            refine rnil (tn_ ?_)
            obtain rfl := Option.some.inj h
            exact ⟨_, (weak_ren [(((0, 0), 1), ((2, 0), 1)), (((1, 0), 1), ((3, 0), 2))] (by kernel_rfl) (obsR_of (by kernel_rfl)) (by kernel_rfl)), rfl⟩
          · have q9_ := of_decide_eq_false q9
            refine awp_region_ 31 (by kernel_rfl) ?_
            refine rsl (.int .i64 a0) (by kernel_rfl) ?_
            refine rcall (.bool y4) [] [(.int .i64 a0)] _ (caps := []) (args0 := [(.int .i64 a0)]) trivial (by kernel_rfl) (by kernel_rfl) (by kernel_rfl) (by kernel_rfl) (ok_impl_isField h4) hb_impl_isField (by kernel_rfl) ?_
            refine rs0 (.bool (!y4)) (by kernel_rfl) ?_
            refine rs0 (.bool (!y4)) (by kernel_rfl) ?_
            refine rs0 (.box ((3, 0), 2) 0) (s_gd (by kernel_rfl) q5 (by kernel_rfl)) ?_
            refine rsl (.int .i64 a1_0) (s_gd (by kernel_rfl) q5 (by kernel_rfl)) ?_
            refine rcall (.bool y6) [] [(.int .i64 a1_0), (.int .i64 1), (.int .i64 20)] _ (caps := []) (args0 := [(.int .i64 a1_0), (.int .i64 1), (.int .i64 20)]) (gdOK_b (by kernel_rfl) q5) (by kernel_rfl) (by kernel_rfl) (by kernel_rfl) (by kernel_rfl) (ok_impl_within h6) hb_impl_within (by kernel_rfl) ?_
            refine rs0 (.bool (!y6)) (s_gd (by kernel_rfl) q5 (by kernel_rfl)) ?_
            refine rs0 (.bool (!y6)) (s_pickF (by kernel_rfl) q5) ?_
            refine rs0 (.bool (!y6)) (by kernel_rfl) ?_
            refine rs0 (.box ((3, 0), 2) 1) (s_gd (by kernel_rfl) q7 (by kernel_rfl)) ?_
            refine rsl (.tree (.pair .int (.pair .int .int)) a1_1) (s_gd (by kernel_rfl) q7 (by kernel_rfl)) ?_
            refine rs0 (.int .i64 ((a1_1.length : Nat) : Int)) (s_gd (by kernel_rfl) q7 (by kernel_rfl)) ?_
            refine rs0 (.bool (decide (60 < ((a1_1.length : Nat) : Int)))) (s_gd (by kernel_rfl) q7 (by kernel_rfl)) ?_
            refine rs0 (.bool (decide (60 < ((a1_1.length : Nat) : Int)))) (s_pickF (by kernel_rfl) q7) ?_
            refine rs0 (.bool (decide (60 < ((a1_1.length : Nat) : Int)))) (by kernel_rfl) ?_
            refine rs0 (.box ((3, 0), 2) 2) (s_gd (by kernel_rfl) q8 (by kernel_rfl)) ?_
            refine rsl (.tree .int a1_2) (s_gd (by kernel_rfl) q8 (by kernel_rfl)) ?_
            refine rs0 (.int .i64 ((a1_2.length : Nat) : Int)) (s_gd (by kernel_rfl) q8 (by kernel_rfl)) ?_
            refine rs0 (.bool (decide (6 < ((a1_2.length : Nat) : Int)))) (s_gd (by kernel_rfl) q8 (by kernel_rfl)) ?_
            refine rs0 (.bool (decide (6 < ((a1_2.length : Nat) : Int)))) (s_pickF (by kernel_rfl) q8) ?_
            refine rs0 (.bool (decide (6 < ((a1_2.length : Nat) : Int)))) (by kernel_rfl) ?_
            refine rs0 (.box ((3, 0), 2) 3) (s_gd (by kernel_rfl) q9 (by kernel_rfl)) ?_
            refine rsl (.tree .int a1_3) (s_gd (by kernel_rfl) q9 (by kernel_rfl)) ?_
            refine rs0 (.int .i64 ((a1_3.length : Nat) : Int)) (s_gd (by kernel_rfl) q9 (by kernel_rfl)) ?_
            refine rs0 (.bool (decide (6 < ((a1_3.length : Nat) : Int)))) (s_gd (by kernel_rfl) q9 (by kernel_rfl)) ?_
            refine rs0 (.bool (decide (6 < ((a1_3.length : Nat) : Int)))) (s_pickF (by kernel_rfl) q9) ?_
            refine rnil (tn_ ?_)
            obtain rfl := Option.some.inj h
            exact ⟨_, (weak_ren [(((0, 0), 1), ((2, 0), 1)), (((1, 0), 1), ((3, 0), 2))] (by kernel_rfl) (obsR_of (by kernel_rfl)) (by kernel_rfl)), rfl⟩
  · rintro l3_m31 _ rfl h
    (try dsimp only at h)
    rcases cond_some h with ⟨q10, h⟩ | ⟨q10, h⟩
    · refine awp_condT_ q10 (by kernel_rfl) ?_
      refine awp_seqv_ ?_
      refine awp_region_ 3 (by kernel_rfl) ?_
      refine rs0 (.bool false) (by kernel_rfl) ?_
      refine rnil (tn_ ?_)
      refine ⟨_, Weak.refl _, ?_⟩
      refine awp_ret_ (tr_ ?_)
      obtain rfl := Option.some.inj h
      exact ret_ [(.bool false)] (by simp) (by kernel_rfl) (p_one rfl (l_sc (by kernel_rfl)) p_nil) (by kernel_rfl) (by kernel_rfl)
    · refine awp_condF_ q10 (by kernel_rfl) ?_
      refine awp_skip_ (tn_ ?_)
      refine ⟨_, Weak.refl _, ?_⟩
      refine awp_seqv_ ?_
      refine awp_seqB h (fun (l13_m45 : Bool) S_ => S_ = ⟨mkTm [(2, (.box ((0, 0), 1) 0)), (3, (.box ((1, 0), 1) 0)), (45, (.bool l13_m45))], mkOb (someL [(((0, 0), 1), .cells 3 [(.int .i64 a0)]), (((1, 0), 1), .cells 30 [(.int .i64 a1_0), (.tree (.pair .int (.pair .int .int)) a1_1), (.tree .int a1_2), (.tree .int a1_3)])]), 2⟩) ?_ ?_
      · intro v_ h
        obtain ⟨y14, h14, h⟩ := ob_some h
        rcases cond_some h with ⟨q15, h⟩ | ⟨q15, h⟩
        · refine awp_region_ 16 (by kernel_rfl) ?_
          refine rs0 (.box ((1, 0), 1) 2) (by kernel_rfl) ?_
          refine rsl (.tree .int a1_2) (by kernel_rfl) ?_
          refine rs0 (.box ((1, 0), 1) 0) (by kernel_rfl) ?_
          refine rsl (.int .i64 a1_0) (by kernel_rfl) ?_
          refine rcall (.bool y14) [] [(.tree .int a1_2), (.int .i64 a1_0)] _ (caps := []) (args0 := [(.tree .int a1_2), (.int .i64 a1_0)]) trivial (by kernel_rfl) (by kernel_rfl) (by kernel_rfl) (by kernel_rfl) (ok_impl_areBelow h14) hb_impl_areBelow (by kernel_rfl) ?_
          refine rs0 (.bool (!y14)) (by kernel_rfl) ?_
          refine rs0 (.bool (!y14)) (by kernel_rfl) ?_
          refine rs0 (.tup []) (s_skip (by kernel_rfl) q15) ?_
          refine rs0 (.tup []) (s_skip (by kernel_rfl) q15) ?_
          refine rs0 (.tup []) (s_skip (by kernel_rfl) q15) ?_
          refine rs0 (.tup []) (s_skip (by kernel_rfl) q15) ?_
          refine rs0 (.tup []) (s_skip (by kernel_rfl) q15) ?_
          refine rs0 (.tup []) (s_skip (by kernel_rfl) q15) ?_
          refine rs0 (.bool true) (s_pickT (by kernel_rfl) q15) ?_
          refine rnil (tn_ ?_)
          obtain rfl := Option.some.inj h
          exact ⟨_, (weak_ren [] (by kernel_rfl) (obsR_of (by kernel_rfl)) (by kernel_rfl)), rfl⟩
        · obtain ⟨y16, h16, h⟩ := ob_some h
          refine awp_region_ 16 (by kernel_rfl) ?_
          refine rs0 (.box ((1, 0), 1) 2) (by kernel_rfl) ?_
          refine rsl (.tree .int a1_2) (by kernel_rfl) ?_
          refine rs0 (.box ((1, 0), 1) 0) (by kernel_rfl) ?_
          refine rsl (.int .i64 a1_0) (by kernel_rfl) ?_
          refine rcall (.bool y14) [] [(.tree .int a1_2), (.int .i64 a1_0)] _ (caps := []) (args0 := [(.tree .int a1_2), (.int .i64 a1_0)]) trivial (by kernel_rfl) (by kernel_rfl) (by kernel_rfl) (by kernel_rfl) (ok_impl_areBelow h14) hb_impl_areBelow (by kernel_rfl) ?_
          refine rs0 (.bool (!y14)) (by kernel_rfl) ?_
          refine rs0 (.bool (!y14)) (by kernel_rfl) ?_
          refine rs0 (.box ((1, 0), 1) 3) (s_gd (by kernel_rfl) q15 (by kernel_rfl)) ?_
          refine rsl (.tree .int a1_3) (s_gd (by kernel_rfl) q15 (by kernel_rfl)) ?_
          refine rs0 (.box ((1, 0), 1) 0) (s_gd (by kernel_rfl) q15 (by kernel_rfl)) ?_
          refine rsl (.int .i64 a1_0) (s_gd (by kernel_rfl) q15 (by kernel_rfl)) ?_
          refine rcall (.bool y16) [] [(.tree .int a1_3), (.int .i64 a1_0)] _ (caps := []) (args0 := [(.tree .int a1_3), (.int .i64 a1_0)]) (gdOK_b (by kernel_rfl) q15) (by kernel_rfl) (by kernel_rfl) (by kernel_rfl) (by kernel_rfl) (ok_impl_areBelow h16) hb_impl_areBelow (by kernel_rfl) ?_
          refine rs0 (.bool (!y16)) (s_gd (by kernel_rfl) q15 (by kernel_rfl)) ?_
          refine rs0 (.bool (!y16)) (s_pickF (by kernel_rfl) q15) ?_
          refine rnil (tn_ ?_)
          obtain rfl := Option.some.inj h
          exact ⟨_, (weak_ren [] (by kernel_rfl) (obsR_of (by kernel_rfl)) (by kernel_rfl)), rfl⟩
      · rintro l13_m45 _ rfl h
        (try dsimp only at h)
        rcases cond_some h with ⟨q17, h⟩ | ⟨q17, h⟩
        · refine awp_condT_ q17 (by kernel_rfl) ?_
          refine awp_seqv_ ?_
          refine awp_region_ 3 (by kernel_rfl) ?_
          refine rs0 (.bool false) (by kernel_rfl) ?_
          refine rnil (tn_ ?_)
          refine ⟨_, Weak.refl _, ?_⟩
          refine awp_ret_ (tr_ ?_)
          obtain rfl := Option.some.inj h
          exact ret_ [(.bool false)] (by simp) (by kernel_rfl) (p_one rfl (l_sc (by kernel_rfl)) p_nil) (by kernel_rfl) (by kernel_rfl)
        · refine awp_condF_ q17 (by kernel_rfl) ?_
          refine awp_skip_ (tn_ ?_)
          refine ⟨_, Weak.refl _, ?_⟩
          refine awp_seqv_ ?_
          obtain ⟨y20, h20, h⟩ := ob_some h
          refine awp_region_ 8 (by kernel_rfl) ?_
          refine rs0 (.box ((1, 0), 1) 1) (by kernel_rfl) ?_
          refine rsl (.tree (.pair .int (.pair .int .int)) a1_1) (by kernel_rfl) ?_
          refine rs0 (.fn 92 [(.box ((0, 0), 1) 0), (.box ((1, 0), 1) 0)]) (by kernel_rfl) ?_
          refine rcall (.bool y20) [] [(.tree (.pair .int (.pair .int .int)) a1_1), (.fn 92 [(.box ((0, 0), 1) 0), (.box ((1, 0), 1) 0)])] _ (caps := []) (args0 := [(.tree (.pair .int (.pair .int .int)) a1_1), (.fn 92 [(.ref [(.int .i64 a0)]), (.ref [(.int .i64 a1_0), (.tree (.pair .int (.pair .int .int)) a1_1), (.tree .int a1_2), (.tree .int a1_3)])])]) trivial (by kernel_rfl) (by kernel_rfl) (by kernel_rfl) (by kernel_rfl) (ok_slices_ContainsFunc_impl_Branch_impl_Branch_for_impl_isNetwork_1 h20) hb_slices_ContainsFunc_impl_Branch_impl_Branch (by kernel_rfl) ?_
          refine rs0 (.bool (!y20)) (by kernel_rfl) ?_
          refine rs0 (.bool (!y20)) (by kernel_rfl) ?_
          refine rnil (tn_ ?_)
          refine ⟨_, Weak.refl _, ?_⟩
          refine awp_ret_ ?_
          obtain rfl := Option.some.inj h
          exact ret_ [(.bool (!y20))] (by simp) (by kernel_rfl) (p_one rfl (l_sc (by kernel_rfl)) p_nil) (by kernel_rfl) (by kernel_rfl)
end Go.Proofs.YtefolocdfgelcaaDoor
