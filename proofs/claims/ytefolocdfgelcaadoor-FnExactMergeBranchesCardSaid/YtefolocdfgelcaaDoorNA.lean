/- Partial functions in place of code, and that the code does what they say: NA. No condition. -/
import Derived.Test.YtefolocdfgelcaaDoorShL
namespace Go.Proofs.YtefolocdfgelcaaDoor
open Go.RowKit Go.Deep
set_option maxRecDepth 4000
def m_laws_szBranchS : AC :=
  (.seq (rg [xo 4 (qm (ci 0))])
  (.seq (rg [xo 5 (qm (tm 1)), xo 6 (qm (tm 0)), xo 7 (.i (.len (tm 6))), xo 8 (qb .sub (tm 5) (tm 7)), xo 1 (qm (tm 8))])
  (.seq (.seq (rg [xo 9 (qm (tm 1)), xo 10 (qb .lss (tm 9) (ci 0))])
  (.cond (tm 10)
    (.seq (rg [xo 4 (qm (ci (-1)))])
    .ret)
    .skip))
  (.seq (rg [xo 11 (qm (tm 1)), xo 4 (qm (tm 11))])
  .ret))))
def r_laws_szBranchS : List Res := [.tmp 4]
theorem c_laws_szBranchS : compiled Tryd.prog Tryd.f40 = some (m_laws_szBranchS, r_laws_szBranchS) := by kernel_rfl
theorem hb_laws_szBranchS : hasBody Tryd.prog 40 = true := by kernel_rfl
def L_laws_szBranchS (a0 : List (Int × Int × Int)) (a1 : Int) : Option Int :=
  cond (decide (IntKind.i64.wrap (a1 - ((a0.length : Nat) : Int)) < 0))
  (some (-1))
  (some (IntKind.i64.wrap (a1 - ((a0.length : Nat) : Int))))
def rv_laws_szBranchS (r : Int) : RV := ⟨false, [(false, [.sc (.int .i64 r)])]⟩
theorem ok_laws_szBranchS {a0 : List (Int × Int × Int)} {a1 : Int} {r : Int} (h : L_laws_szBranchS a0 a1 = some r) : CallOK Tryd.prog Tab 40 [(.tree (.pair .int (.pair .int .int)) a0), (ai a1)] (rv_laws_szBranchS r) := by
  refine call_of_ (by kernel_rfl) Tryd.func40 c_laws_szBranchS (n := 12) (by kernel_rfl) (by simp) (tl := [(0, (.tree (.pair .int (.pair .int .int)) a0)), (1, (ai a1))]) rfl ?_
  unfold m_laws_szBranchS
  unfold L_laws_szBranchS at h
  refine seqR ?_
  refine seqR ?_
  refine awp_seqv_ ?_
  refine seqR ?_
  rcases cond_some h with ⟨q5, h⟩ | ⟨q5, h⟩
  · have q5_ := of_decide_eq_true q5
    refine awp_condT_ q5 ?_
    refine seqR ?_
    refine awp_ret_ (tr_ ?_)
    obtain rfl := Option.some.inj h
    exact ret_ [(ai (-1))] (p_one rfl (l_sc (by kernel_rfl)) p_nil)
  have q5_ := of_decide_eq_false q5
  refine awp_condF_ q5 ?_
  refine awp_skip_ (tn_ ?_)
  refine ⟨_, Weak.refl _, ?_⟩
  refine seqR ?_
  refine awp_ret_ ?_
  obtain rfl := Option.some.inj h
  exact ret_ [(ai (IntKind.i64.wrap (a1 - ((a0.length : Nat) : Int))))] (p_one rfl (l_sc (by kernel_rfl)) p_nil)
def m_laws_szIntS : AC :=
  (.seq (rg [xo 4 (qm (ci 0))])
  (.seq (rg [xo 5 (qm (tm 1)), xo 6 (qm (tm 0)), xo 7 (.i (.len (tm 6))), xo 8 (qb .sub (tm 5) (tm 7)), xo 1 (qm (tm 8))])
  (.seq (.seq (rg [xo 9 (qm (tm 1)), xo 10 (qb .lss (tm 9) (ci 0))])
  (.cond (tm 10)
    (.seq (rg [xo 4 (qm (ci (-1)))])
    .ret)
    .skip))
  (.seq (rg [xo 11 (qm (tm 1)), xo 4 (qm (tm 11))])
  .ret))))
def r_laws_szIntS : List Res := [.tmp 4]
theorem c_laws_szIntS : compiled Tryd.prog Tryd.f41 = some (m_laws_szIntS, r_laws_szIntS) := by kernel_rfl
theorem hb_laws_szIntS : hasBody Tryd.prog 41 = true := by kernel_rfl
def L_laws_szIntS (a0 : List Int) (a1 : Int) : Option Int :=
  cond (decide (IntKind.i64.wrap (a1 - ((a0.length : Nat) : Int)) < 0))
  (some (-1))
  (some (IntKind.i64.wrap (a1 - ((a0.length : Nat) : Int))))
def rv_laws_szIntS (r : Int) : RV := ⟨false, [(false, [.sc (.int .i64 r)])]⟩
theorem ok_laws_szIntS {a0 : List Int} {a1 : Int} {r : Int} (h : L_laws_szIntS a0 a1 = some r) : CallOK Tryd.prog Tab 41 [(.tree .int a0), (ai a1)] (rv_laws_szIntS r) := by
  refine call_of_ (by kernel_rfl) Tryd.func41 c_laws_szIntS (n := 12) (by kernel_rfl) (by simp) (tl := [(0, (.tree .int a0)), (1, (ai a1))]) rfl ?_
  unfold m_laws_szIntS
  unfold L_laws_szIntS at h
  refine seqR ?_
  refine seqR ?_
  refine awp_seqv_ ?_
  refine seqR ?_
  rcases cond_some h with ⟨q5, h⟩ | ⟨q5, h⟩
  · have q5_ := of_decide_eq_true q5
    refine awp_condT_ q5 ?_
    refine seqR ?_
    refine awp_ret_ (tr_ ?_)
    obtain rfl := Option.some.inj h
    exact ret_ [(ai (-1))] (p_one rfl (l_sc (by kernel_rfl)) p_nil)
  have q5_ := of_decide_eq_false q5
  refine awp_condF_ q5 ?_
  refine awp_skip_ (tn_ ?_)
  refine ⟨_, Weak.refl _, ?_⟩
  refine seqR ?_
  refine awp_ret_ ?_
  obtain rfl := Option.some.inj h
  exact ret_ [(ai (IntKind.i64.wrap (a1 - ((a0.length : Nat) : Int))))] (p_one rfl (l_sc (by kernel_rfl)) p_nil)
def m_laws_szNetwork : AC :=
  (.seq (rg [xo 2 (.i (.box 25 (tm 0))), xo 4 (qm (ci 0))])
  (.seq (rg [xo 5 (qf 1 (tm 2)), xo 6 (ql (tm 5)), xo 7 (qm (tm 1)), ⟨(some 8), none, (qc 40 [(tm 6), (tm 7)] [[(some (.pair .int (.pair .int .int)))], []])⟩, xo 1 (qm (tm 8))])
  (.seq (.seq (rg [xo 9 (qm (tm 1)), xo 10 (qb .lss (tm 9) (ci 0))])
  (.cond (tm 10)
    (.seq (rg [xo 4 (qm (ci (-1)))])
    .ret)
    .skip))
  (.seq (rg [xo 11 (qf 2 (tm 2)), xo 12 (ql (tm 11)), xo 13 (qm (tm 1)), xo 14 (qc 41 [(tm 12), (tm 13)] [[(some .int)], []]), xo 1 (qm (tm 14))])
  (.seq (.seq (rg [xo 15 (qm (tm 1)), xo 16 (qb .lss (tm 15) (ci 0))])
  (.cond (tm 16)
    (.seq (rg [xo 4 (qm (ci (-1)))])
    .ret)
    .skip))
  (.seq (rg [xo 17 (qf 3 (tm 2)), xo 18 (ql (tm 17)), xo 19 (qm (tm 1)), xo 20 (qc 41 [(tm 18), (tm 19)] [[(some .int)], []]), xo 1 (qm (tm 20))])
  (.seq (.seq (rg [xo 21 (qm (tm 1)), xo 22 (qb .lss (tm 21) (ci 0))])
  (.cond (tm 22)
    (.seq (rg [xo 4 (qm (ci (-1)))])
    .ret)
    .skip))
  (.seq (rg [xo 23 (qm (tm 1)), xo 4 (qm (tm 23))])
  .ret))))))))
def r_laws_szNetwork : List Res := [.tmp 4]
theorem c_laws_szNetwork : compiled Tryd.prog Tryd.f12 = some (m_laws_szNetwork, r_laws_szNetwork) := by kernel_rfl
theorem hb_laws_szNetwork : hasBody Tryd.prog 12 = true := by kernel_rfl
def L_laws_szNetwork (a0_0 : Int) (a0_1 : List (Int × Int × Int)) (a0_2 : List Int) (a0_3 : List Int) (a1 : Int) : Option Int :=
  Option.bind (L_laws_szBranchS a0_1 a1) fun y3 =>
cond (decide (y3 < 0))
  (some (-1))
  (Option.bind (L_laws_szIntS a0_2 y3) fun y9 =>
  cond (decide (y9 < 0))
    (some (-1))
    (Option.bind (L_laws_szIntS a0_3 y9) fun y15 =>
    cond (decide (y15 < 0))
      (some (-1))
      (some y15)))
def rv_laws_szNetwork (r : Int) : RV := ⟨false, [(false, [.sc (.int .i64 r)])]⟩
theorem ok_laws_szNetwork {a0_0 : Int} {a0_1 : List (Int × Int × Int)} {a0_2 : List Int} {a0_3 : List Int} {a1 : Int} {r : Int} (h : L_laws_szNetwork a0_0 a0_1 a0_2 a0_3 a1 = some r) : CallOK Tryd.prog Tab 12 [(.agg [(ai a0_0), (.tree (.pair .int (.pair .int .int)) a0_1), (.tree .int a0_2), (.tree .int a0_3)]), (ai a1)] (rv_laws_szNetwork r) := by
  refine call_of_ (by kernel_rfl) Tryd.func12 c_laws_szNetwork (n := 24) (by kernel_rfl) (by simp) (tl := [(0, (.agg [(ai a0_0), (.tree (.pair .int (.pair .int .int)) a0_1), (.tree .int a0_2), (.tree .int a0_3)])), (1, (ai a1))]) rfl ?_
  unfold m_laws_szNetwork
  unfold L_laws_szNetwork at h
  refine seqR ?_
  refine awp_seqv_ ?_
  obtain ⟨y3, h3, h⟩ := ob_some h
  refine awp_region_ 8 ?_
  refine rs0 (.box (oi 2 1) 1) (by kernel_rfl) ?_
  refine rsl (.tree (.pair .int (.pair .int .int)) a0_1) (by kernel_rfl) ?_
  refine rs0 (ai a1) (by kernel_rfl) ?_
  refine rcall (ai y3) [] [(.tree (.pair .int (.pair .int .int)) a0_1), (ai a1)] _ (caps := []) (args0 := [(.tree (.pair .int (.pair .int .int)) a0_1), (ai a1)]) trivial (by kernel_rfl) (ok_laws_szBranchS h3) hb_laws_szBranchS ?_
  refine rsB 1 ?_
  refine rnil (tn_ ?_)
  refine ⟨_, Weak.refl _, ?_⟩
  refine awp_seqv_ ?_
  refine seqR ?_
  rcases cond_some h with ⟨q6, h⟩ | ⟨q6, h⟩
  · have q6_ := of_decide_eq_true q6
    refine awp_condT_ q6 ?_
    refine seqR ?_
    refine awp_ret_ (tr_ ?_)
    obtain rfl := Option.some.inj h
    exact ret_ [(ai (-1))] (p_one rfl (l_sc (by kernel_rfl)) p_nil)
  have q6_ := of_decide_eq_false q6
  refine awp_condF_ q6 ?_
  refine awp_skip_ (tn_ ?_)
  refine ⟨_, Weak.refl _, ?_⟩
  refine awp_seqv_ ?_
  obtain ⟨y9, h9, h⟩ := ob_some h
  refine awp_region_ 15 ?_
  refine rs0 (.box (oi 2 1) 2) (by kernel_rfl) ?_
  refine rsl (.tree .int a0_2) (by kernel_rfl) ?_
  refine rs0 (ai y3) (by kernel_rfl) ?_
  refine rcall (ai y9) [] [(.tree .int a0_2), (ai y3)] _ (caps := []) (args0 := [(.tree .int a0_2), (ai y3)]) trivial (by kernel_rfl) (ok_laws_szIntS h9) hb_laws_szIntS ?_
  refine rsB 1 ?_
  refine rnil (tn_ ?_)
  refine ⟨_, Weak.refl _, ?_⟩
  refine awp_seqv_ ?_
  refine seqR ?_
  rcases cond_some h with ⟨q12, h⟩ | ⟨q12, h⟩
  · have q12_ := of_decide_eq_true q12
    refine awp_condT_ q12 ?_
    refine seqR ?_
    refine awp_ret_ (tr_ ?_)
    obtain rfl := Option.some.inj h
    exact ret_ [(ai (-1))] (p_one rfl (l_sc (by kernel_rfl)) p_nil)
  have q12_ := of_decide_eq_false q12
  refine awp_condF_ q12 ?_
  refine awp_skip_ (tn_ ?_)
  refine ⟨_, Weak.refl _, ?_⟩
  refine awp_seqv_ ?_
  obtain ⟨y15, h15, h⟩ := ob_some h
  refine awp_region_ 22 ?_
  refine rs0 (.box (oi 2 1) 3) (by kernel_rfl) ?_
  refine rsl (.tree .int a0_3) (by kernel_rfl) ?_
  refine rs0 (ai y9) (by kernel_rfl) ?_
  refine rcall (ai y15) [] [(.tree .int a0_3), (ai y9)] _ (caps := []) (args0 := [(.tree .int a0_3), (ai y9)]) trivial (by kernel_rfl) (ok_laws_szIntS h15) hb_laws_szIntS ?_
  refine rsB 1 ?_
  refine rnil (tn_ ?_)
  refine ⟨_, Weak.refl _, ?_⟩
  refine awp_seqv_ ?_
  refine seqR ?_
  rcases cond_some h with ⟨q18, h⟩ | ⟨q18, h⟩
  · have q18_ := of_decide_eq_true q18
    refine awp_condT_ q18 ?_
    refine seqR ?_
    refine awp_ret_ (tr_ ?_)
    obtain rfl := Option.some.inj h
    exact ret_ [(ai (-1))] (p_one rfl (l_sc (by kernel_rfl)) p_nil)
  have q18_ := of_decide_eq_false q18
  refine awp_condF_ q18 ?_
  refine awp_skip_ (tn_ ?_)
  refine ⟨_, Weak.refl _, ?_⟩
  refine seqR ?_
  refine awp_ret_ ?_
  obtain rfl := Option.some.inj h
  exact ret_ [(ai y15)] (p_one rfl (l_sc (by kernel_rfl)) p_nil)
def m_laws_toBranch : AC :=
  (.seq (rg [xo 1 (.i (.box 86 (tm 0))), xo 2 (.i (.alloc 59 [(.int .i64 0), (.int .i64 0), (.int .i64 0)]))])
  (.seq (rg [xo 3 (.i (.alloc 59 [(.int .i64 0), (.int .i64 0), (.int .i64 0)]))])
  (.seq (rg [xo 4 (qf 0 (tm 1)), xo 5 (ql (tm 4)), xo 6 (qf 0 (tm 3)), xn (qs (tm 6) (tm 5))])
  (.seq (rg [xo 7 (qf 1 (tm 1)), xo 8 (ql (tm 7)), xo 9 (qf 1 (tm 3)), xn (qs (tm 9) (tm 8))])
  (.seq (rg [xo 10 (qf 2 (tm 1)), xo 11 (ql (tm 10)), xo 12 (qf 2 (tm 3)), xn (qs (tm 12) (tm 11))])
  (.seq (rg [xo 13 (.i (.ld false 3 (tm 3))), xn (.st false 3 (tm 2) (tm 13))])
  .ret))))))
def r_laws_toBranch : List Res := [.cell 2 false 3]
theorem c_laws_toBranch : compiled Tryd.prog Tryd.f87 = some (m_laws_toBranch, r_laws_toBranch) := by kernel_rfl
theorem hb_laws_toBranch : hasBody Tryd.prog 87 = true := by kernel_rfl
def L_laws_toBranch (a0_0 : Int) (a0_1 : Int) (a0_2 : Int) : Option (Int × Int × Int) :=
  some (a0_0, a0_1, a0_2)
def rv_laws_toBranch (r : Int × Int × Int) : RV := ⟨false, [(true, [.sc (.int .i64 r.1), .sc (.int .i64 r.2.1), .sc (.int .i64 r.2.2)])]⟩
theorem ok_laws_toBranch {a0_0 : Int} {a0_1 : Int} {a0_2 : Int} {r : Int × Int × Int} (h : L_laws_toBranch a0_0 a0_1 a0_2 = some r) : CallOK Tryd.prog Tab 87 [(.agg [(ai a0_0), (ai a0_1), (ai a0_2)])] (rv_laws_toBranch r) := by
  refine call_of_ (by kernel_rfl) Tryd.func87 c_laws_toBranch (n := 14) (by kernel_rfl) (by simp) (tl := [(0, (.agg [(ai a0_0), (ai a0_1), (ai a0_2)]))]) rfl ?_
  unfold m_laws_toBranch
  unfold L_laws_toBranch at h
  refine seqR ?_
  refine seqR ?_
  refine seqR ?_
  refine seqR ?_
  refine seqR ?_
  refine seqR ?_
  refine awp_ret_ ?_
  obtain rfl := Option.some.inj h
  exact ret_ [(.agg [(ai a0_0), (ai a0_1), (ai a0_2)])] (p_agg (l_cons (l_sc (by kernel_rfl)) (l_cons (l_sc (by kernel_rfl)) (l_cons (l_sc (by kernel_rfl)) l_nil))) p_nil)
def m_laws_toBranchS_l1 : AC :=
  (.seq (.seq (rg [xo 8 (qm (tm 4)), xo 9 (qm (tm 0)), xo 10 (.i (.len (tm 9))), xo 11 (qb .lss (tm 8) (tm 10))])
  (.cond (tm 11)
    .skip
    (.exit 0)))
  (.seq (.block 1 (rg [xo 14 (qm (tm 3)), xo 15 (qm (tm 4)), xo 16 (qm (tm 0)), xo 17 (qm (tm 4)), xo 18 (qx 3 (tm 16) (tm 17)), xo 19 (.i (.ld false 3 (tm 18))), xo 20 (qc 87 [(tm 19)] [[none, none, none]]), xo 21 (qx 3 (tm 14) (tm 15)), xn (.st false 3 (tm 21) (tm 20))]))
  (rg [xo 12 (qm (tm 4)), xo 13 (qb .add (tm 12) (ci 1)), xo 4 (qm (tm 13))])))
def m_laws_toBranchS : AC :=
  (.seq (rg [xo 2 (qm (.cst .nils))])
  (.seq (rg [xo 5 (qm (tm 0)), xo 6 (.i (.len (tm 5))), xo 7 (.make 59 (.pair .int (.pair .int .int)) 24 (tm 6) (tm 6)), xo 3 (qm (tm 7))])
  (.seq (.seq (rg [xo 4 (qm (ci 0))])
  (.block 0 (.loop m_laws_toBranchS_l1)))
  (.seq (rg [xo 22 (qm (tm 3)), xo 2 (qm (tm 22))])
  .ret))))
def r_laws_toBranchS : List Res := [.tmp 2]
theorem c_laws_toBranchS : compiled Tryd.prog Tryd.f43 = some (m_laws_toBranchS, r_laws_toBranchS) := by kernel_rfl
theorem hb_laws_toBranchS : hasBody Tryd.prog 43 = true := by kernel_rfl
def L_laws_toBranchS_l1 (a0 : List (Int × Int × Int)) (l6_m4 : Nat) (l6_m3 : List (Int × Int × Int)) : Option (Ctl (Nat × (List (Int × Int × Int))) (List (Int × Int × Int))) :=
  cond (decide (((l6_m4 : Nat) : Int) < ((a0.length : Nat) : Int)))
  (Option.bind (a0[l6_m4]?) fun x11 =>
  Option.bind (L_laws_toBranch x11.1 x11.2.1 x11.2.2) fun y12 =>
  Option.bind (l6_m3[l6_m4]?) fun x13 =>
  og (l6_m4 + 1 < 4611686018427387904) <|
  some (Ctl.next (l6_m4 + 1, l6_m3.set l6_m4 y12)))
  (some (Ctl.out l6_m3))
def L_laws_toBranchS (a0 : List (Int × Int × Int)) : Option (List (Int × Int × Int)) :=
  og (0 ≤ ((a0.length : Nat) : Int) ∧ ((a0.length : Nat) : Int) ≤ ((a0.length : Nat) : Int) ∧ ((a0.length : Nat) : Int) ≤ 1073741824 ∧ (24 : Int) * ((a0.length : Nat) : Int) ≤ 140737488355328) <|
Option.bind (loopM (fun s_ : Nat × (List (Int × Int × Int)) => L_laws_toBranchS_l1 a0 s_.1 s_.2) 4611686018427387904 (0, List.replicate a0.length ((0, 0, 0) : Int × Int × Int))) fun l4_m3 =>
some l4_m3
def rv_laws_toBranchS (r : List (Int × Int × Int)) : RV := ⟨false, [(false, [.new 59 (.pair .int (.pair .int .int)) r])]⟩
theorem ok_laws_toBranchS {a0 : List (Int × Int × Int)} {r : List (Int × Int × Int)} (h : L_laws_toBranchS a0 = some r) : CallOK Tryd.prog Tab 43 [(.tree (.pair .int (.pair .int .int)) a0)] (rv_laws_toBranchS r) := by
  refine call_of_ (by kernel_rfl) Tryd.func43 c_laws_toBranchS (n := 23) (by kernel_rfl) (by simp) (tl := [(0, (.tree (.pair .int (.pair .int .int)) a0))]) rfl ?_
  unfold m_laws_toBranchS
  unfold L_laws_toBranchS at h
  refine seqR ?_
  refine awp_seqv_ ?_
  obtain ⟨g3, h⟩ := og_some h
  refine awp_region_ 6 ?_
  refine rs0 (.tree (.pair .int (.pair .int .int)) a0) (by kernel_rfl) ?_
  refine rs0 (ai ((a0.length : Nat) : Int)) (by kernel_rfl) ?_
  refine rs1 (.own (oi 7 4) (.pair .int (.pair .int .int)) 0 a0.length) (oi 7 4) (.arr 59 (.pair .int (.pair .int .int)) (List.replicate a0.length ((0, 0, 0) : Int × Int × Int))) (s_make (t := (.pair .int (.pair .int .int))) (k := .i64) (k' := .i64) (m := ((a0.length : Nat) : Int)) (m' := ((a0.length : Nat) : Int)) (by kernel_rfl) (by kernel_rfl) g3 rfl) ?_
  refine rsB 1 ?_
  refine rnil (tn_ ?_)
  refine ⟨_, Weak.refl _, ?_⟩
  refine awp_seqB h (fun (l4_m3 : List (Int × Int × Int)) S_ => S_ = ⟨mkTm [(3, (.own (oi 0 1) (.pair .int (.pair .int .int)) 0 l4_m3.length))], mkOb (someL [((oi 0 1), .arr 59 (.pair .int (.pair .int .int)) l4_m3)]), 2⟩) ?_ ?_
  · intro v_ h
    refine seqR ?_
    refine awp_block_ ?_
    refine awp_loopL h (fun t_ S_ => ∃ (l6_m4 : Nat), ∃ (l6_m3 : List (Int × Int × Int)), t_ = (l6_m4, l6_m3) ∧ S_ = ⟨mkTm [(0, (.tree (.pair .int (.pair .int .int)) a0)), (3, (.own (oi 0 1) (.pair .int (.pair .int .int)) 0 l6_m3.length)), (4, (ai ((l6_m4 : Nat) : Int)))], mkOb (someL [((oi 0 1), .arr 59 (.pair .int (.pair .int .int)) l6_m3)]), 2⟩) ⟨_, ((weak_tm_ 3 (.own (oi 7 4) (.pair .int (.pair .int .int)) 0 a0.length) (.own (oi 7 4) (.pair .int (.pair .int .int)) 0 ((List.replicate a0.length ((0, 0, 0) : Int × Int × Int)).length)) (by kernel_rfl) (congrArg (fun z_ => ((.own (oi 7 4) (.pair .int (.pair .int .int)) 0 z_) : AV)) (List.length_replicate.symm : a0.length = (List.replicate a0.length ((0, 0, 0) : Int × Int × Int)).length))).trans (weak_ren [((oi 0 1), (oi 7 4))])), ⟨0, List.replicate a0.length ((0, 0, 0) : Int × Int × Int), rfl, rfl⟩⟩ ?_
    rintro n_ _ _ c_ ⟨l6_m4, l6_m3, rfl, rfl⟩ h hn6
    (try dsimp only at h)
    unfold L_laws_toBranchS_l1 at h
    unfold m_laws_toBranchS_l1
    refine awp_seqv_ ?_
    refine seqR ?_
    rcases cond_some h with ⟨q9, h⟩ | ⟨q9, h⟩
    · have q9_ := of_decide_eq_true q9
      refine awp_condT_ q9 ?_
      refine awp_skip_ (tn_ ?_)
      refine ⟨_, Weak.refl _, ?_⟩
      refine awp_seqv_ ?_
      refine awp_block_ ?_
      obtain ⟨x11, e11, h⟩ := ob_some h
      obtain ⟨y12, h12, h⟩ := ob_some h
      obtain ⟨x13, e13, h⟩ := ob_some h
      refine awp_region_ 15 ?_
      refine rs0 (.own (oi 0 1) (.pair .int (.pair .int .int)) 0 l6_m3.length) (by kernel_rfl) ?_
      refine rs0 (ai ((l6_m4 : Nat) : Int)) (by kernel_rfl) ?_
      refine rs0 (.tree (.pair .int (.pair .int .int)) a0) (by kernel_rfl) ?_
      refine rs0 (ai ((l6_m4 : Nat) : Int)) (by kernel_rfl) ?_
      refine rs0 (.telt (.pair .int (.pair .int .int)) x11 0) (s_idxT (t := (.pair .int (.pair .int .int))) (xs := a0) (k := .i64) (m := ((l6_m4 : Nat) : Int)) (by kernel_rfl) (by kernel_rfl) rfl (nat_nn _) rfl e11) ?_
      refine rs0 (.agg [(ai x11.1), (ai x11.2.1), (ai x11.2.2)]) (by kernel_rfl) ?_
      refine rcall (.agg [(ai y12.1), (ai y12.2.1), (ai y12.2.2)]) [] [(.agg [(ai x11.1), (ai x11.2.1), (ai x11.2.2)])] _ (caps := []) (args0 := [(.agg [(ai x11.1), (ai x11.2.1), (ai x11.2.2)])]) trivial (by kernel_rfl) (ok_laws_toBranch h12) hb_laws_toBranch ?_
      refine rs0 (.elt (oi 0 1) l6_m4 0) (s_idxO (t := (.pair .int (.pair .int .int))) (o := (oi 0 1)) (len := l6_m3.length) (k := .i64) (m := ((l6_m4 : Nat) : Int)) (by kernel_rfl) (by kernel_rfl) rfl (nat_nn _) rfl (getN_lt e13)) ?_
      refine rsn2 (oi 0 1) (oi 0 1) (.arr 59 (.pair .int (.pair .int .int)) (l6_m3.set l6_m4 y12)) (s_stE (i := (oi 0 1)) (j := l6_m4) (k := 0) (e := 59) (t := (.pair .int (.pair .int .int))) (xs := l6_m3) (cs := [(ai y12.1), (ai y12.2.1), (ai y12.2.2)]) (x1 := y12) (by kernel_rfl) (by kernel_rfl) e13 (by kernel_rfl) (by kernel_rfl)) ?_
      refine rnil (bn_ (tn_ ?_))
      refine ⟨_, Weak.refl _, ?_⟩
      obtain ⟨g14, h⟩ := og_some h
      refine awp_region_ 18 ?_
      refine rs0 (ai ((l6_m4 : Nat) : Int)) (by kernel_rfl) ?_
      refine rs0 (ai ((l6_m4 + 1 : Nat) : Int)) (s_add1 (j := l6_m4) (by kernel_rfl) (by kernel_rfl) g14) ?_
      refine rsB 1 ?_
      refine rnil (tn_ ?_)
      obtain rfl := Option.some.inj h
      exact ⟨(l6_m4 + 1, l6_m3.set l6_m4 y12), _, ((weak_tm_ 3 (.own (oi 0 1) (.pair .int (.pair .int .int)) 0 l6_m3.length) (.own (oi 0 1) (.pair .int (.pair .int .int)) 0 ((l6_m3.set l6_m4 y12).length)) (by kernel_rfl) (congrArg (fun z_ => ((.own (oi 0 1) (.pair .int (.pair .int .int)) 0 z_) : AV)) (((rfl : l6_m3.length = l6_m3.length).trans List.length_set.symm) : l6_m3.length = (l6_m3.set l6_m4 y12).length))).trans (weak_ren [])), ⟨l6_m4 + 1, l6_m3.set l6_m4 y12, rfl, rfl⟩, hn6⟩
    have q9_ := of_decide_eq_false q9
    refine awp_condF_ q9 ?_
    refine awp_exit_ (te_ (te_ (be_ (tn_ ?_))))
    obtain rfl := Option.some.inj h
    have h := hn6
    (try dsimp only at h)
    obtain rfl := Option.some.inj h
    exact ⟨_, (weak_ren []), rfl⟩
  rintro l4_m3 _ rfl h
  (try dsimp only at h)
  refine seqR ?_
  refine awp_ret_ ?_
  obtain rfl := Option.some.inj h
  exact ret_ [(.own (oi 0 1) (.pair .int (.pair .int .int)) 0 l4_m3.length)] (p_one rfl (l_own (by kernel_rfl) rfl) p_nil)
def m_laws_toIntS_l1 : AC :=
  (.seq (.seq (rg [xo 8 (qm (tm 4)), xo 9 (qm (tm 0)), xo 10 (.i (.len (tm 9))), xo 11 (qb .lss (tm 8) (tm 10))])
  (.cond (tm 11)
    .skip
    (.exit 0)))
  (.seq (.block 1 (rg [xo 14 (qm (tm 3)), xo 15 (qm (tm 4)), xo 16 (qm (tm 0)), xo 17 (qm (tm 4)), xo 18 (qx 1 (tm 16) (tm 17)), xo 19 (ql (tm 18)), xo 20 (qx 1 (tm 14) (tm 15)), xn (qs (tm 20) (tm 19))]))
  (rg [xo 12 (qm (tm 4)), xo 13 (qb .add (tm 12) (ci 1)), xo 4 (qm (tm 13))])))
def m_laws_toIntS : AC :=
  (.seq (rg [xo 2 (qm (.cst .nils))])
  (.seq (rg [xo 5 (qm (tm 0)), xo 6 (.i (.len (tm 5))), xo 7 (.make 3 .int 8 (tm 6) (tm 6)), xo 3 (qm (tm 7))])
  (.seq (.seq (rg [xo 4 (qm (ci 0))])
  (.block 0 (.loop m_laws_toIntS_l1)))
  (.seq (rg [xo 21 (qm (tm 3)), xo 2 (qm (tm 21))])
  .ret))))
def r_laws_toIntS : List Res := [.tmp 2]
theorem c_laws_toIntS : compiled Tryd.prog Tryd.f18 = some (m_laws_toIntS, r_laws_toIntS) := by kernel_rfl
theorem hb_laws_toIntS : hasBody Tryd.prog 18 = true := by kernel_rfl
def L_laws_toIntS_l1 (a0 : List Int) (l6_m4 : Nat) (l6_m3 : List Int) : Option (Ctl (Nat × List Int) (List Int)) :=
  cond (decide (((l6_m4 : Nat) : Int) < ((a0.length : Nat) : Int)))
  (Option.bind (a0[l6_m4]?) fun x11 =>
  Option.bind (l6_m3[l6_m4]?) fun x12 =>
  og (l6_m4 + 1 < 4611686018427387904) <|
  some (Ctl.next (l6_m4 + 1, l6_m3.set l6_m4 x11)))
  (some (Ctl.out l6_m3))
def L_laws_toIntS (a0 : List Int) : Option (List Int) :=
  og (0 ≤ ((a0.length : Nat) : Int) ∧ ((a0.length : Nat) : Int) ≤ ((a0.length : Nat) : Int) ∧ ((a0.length : Nat) : Int) ≤ 1073741824 ∧ (8 : Int) * ((a0.length : Nat) : Int) ≤ 140737488355328) <|
Option.bind (loopM (fun s_ : Nat × List Int => L_laws_toIntS_l1 a0 s_.1 s_.2) 4611686018427387904 (0, List.replicate a0.length (0 : Int))) fun l4_m3 =>
some l4_m3
def rv_laws_toIntS (r : List Int) : RV := ⟨false, [(false, [.new 3 .int r])]⟩
theorem ok_laws_toIntS {a0 : List Int} {r : List Int} (h : L_laws_toIntS a0 = some r) : CallOK Tryd.prog Tab 18 [(.tree .int a0)] (rv_laws_toIntS r) := by
  refine call_of_ (by kernel_rfl) Tryd.func18 c_laws_toIntS (n := 22) (by kernel_rfl) (by simp) (tl := [(0, (.tree .int a0))]) rfl ?_
  unfold m_laws_toIntS
  unfold L_laws_toIntS at h
  refine seqR ?_
  refine awp_seqv_ ?_
  obtain ⟨g3, h⟩ := og_some h
  refine awp_region_ 6 ?_
  refine rs0 (.tree .int a0) (by kernel_rfl) ?_
  refine rs0 (ai ((a0.length : Nat) : Int)) (by kernel_rfl) ?_
  refine rs1 (.own (oi 7 4) .int 0 a0.length) (oi 7 4) (.arr 3 .int (List.replicate a0.length (0 : Int))) (s_make (t := .int) (k := .i64) (k' := .i64) (m := ((a0.length : Nat) : Int)) (m' := ((a0.length : Nat) : Int)) (by kernel_rfl) (by kernel_rfl) g3 rfl) ?_
  refine rsB 1 ?_
  refine rnil (tn_ ?_)
  refine ⟨_, Weak.refl _, ?_⟩
  refine awp_seqB h (fun (l4_m3 : List Int) S_ => S_ = ⟨mkTm [(3, (.own (oi 0 1) .int 0 l4_m3.length))], mkOb (someL [((oi 0 1), .arr 3 .int l4_m3)]), 2⟩) ?_ ?_
  · intro v_ h
    refine seqR ?_
    refine awp_block_ ?_
    refine awp_loopL h (fun t_ S_ => ∃ (l6_m4 : Nat), ∃ (l6_m3 : List Int), t_ = (l6_m4, l6_m3) ∧ S_ = ⟨mkTm [(0, (.tree .int a0)), (3, (.own (oi 0 1) .int 0 l6_m3.length)), (4, (ai ((l6_m4 : Nat) : Int)))], mkOb (someL [((oi 0 1), .arr 3 .int l6_m3)]), 2⟩) ⟨_, ((weak_tm_ 3 (.own (oi 7 4) .int 0 a0.length) (.own (oi 7 4) .int 0 ((List.replicate a0.length (0 : Int)).length)) (by kernel_rfl) (congrArg (fun z_ => ((.own (oi 7 4) .int 0 z_) : AV)) (List.length_replicate.symm : a0.length = (List.replicate a0.length (0 : Int)).length))).trans (weak_ren [((oi 0 1), (oi 7 4))])), ⟨0, List.replicate a0.length (0 : Int), rfl, rfl⟩⟩ ?_
    rintro n_ _ _ c_ ⟨l6_m4, l6_m3, rfl, rfl⟩ h hn6
    (try dsimp only at h)
    unfold L_laws_toIntS_l1 at h
    unfold m_laws_toIntS_l1
    refine awp_seqv_ ?_
    refine seqR ?_
    rcases cond_some h with ⟨q9, h⟩ | ⟨q9, h⟩
    · have q9_ := of_decide_eq_true q9
      refine awp_condT_ q9 ?_
      refine awp_skip_ (tn_ ?_)
      refine ⟨_, Weak.refl _, ?_⟩
      refine awp_seqv_ ?_
      refine awp_block_ ?_
      obtain ⟨x11, e11, h⟩ := ob_some h
      obtain ⟨x12, e12, h⟩ := ob_some h
      refine awp_region_ 14 ?_
      refine rs0 (.own (oi 0 1) .int 0 l6_m3.length) (by kernel_rfl) ?_
      refine rs0 (ai ((l6_m4 : Nat) : Int)) (by kernel_rfl) ?_
      refine rs0 (.tree .int a0) (by kernel_rfl) ?_
      refine rs0 (ai ((l6_m4 : Nat) : Int)) (by kernel_rfl) ?_
      refine rs0 (.telt .int x11 0) (s_idxT (t := .int) (xs := a0) (k := .i64) (m := ((l6_m4 : Nat) : Int)) (by kernel_rfl) (by kernel_rfl) rfl (nat_nn _) rfl e11) ?_
      refine rs0 (ai x11) (by kernel_rfl) ?_
      refine rs0 (.elt (oi 0 1) l6_m4 0) (s_idxO (t := .int) (o := (oi 0 1)) (len := l6_m3.length) (k := .i64) (m := ((l6_m4 : Nat) : Int)) (by kernel_rfl) (by kernel_rfl) rfl (nat_nn _) rfl (getN_lt e12)) ?_
      refine rsn2 (oi 0 1) (oi 0 1) (.arr 3 .int (l6_m3.set l6_m4 x11)) (s_stE (i := (oi 0 1)) (j := l6_m4) (k := 0) (e := 3) (t := .int) (xs := l6_m3) (cs := [(ai x11)]) (x1 := x11) (by kernel_rfl) (by kernel_rfl) e12 (by kernel_rfl) (by kernel_rfl)) ?_
      refine rnil (bn_ (tn_ ?_))
      refine ⟨_, Weak.refl _, ?_⟩
      obtain ⟨g13, h⟩ := og_some h
      refine awp_region_ 17 ?_
      refine rs0 (ai ((l6_m4 : Nat) : Int)) (by kernel_rfl) ?_
      refine rs0 (ai ((l6_m4 + 1 : Nat) : Int)) (s_add1 (j := l6_m4) (by kernel_rfl) (by kernel_rfl) g13) ?_
      refine rsB 1 ?_
      refine rnil (tn_ ?_)
      obtain rfl := Option.some.inj h
      exact ⟨(l6_m4 + 1, l6_m3.set l6_m4 x11), _, ((weak_tm_ 3 (.own (oi 0 1) .int 0 l6_m3.length) (.own (oi 0 1) .int 0 ((l6_m3.set l6_m4 x11).length)) (by kernel_rfl) (congrArg (fun z_ => ((.own (oi 0 1) .int 0 z_) : AV)) (((rfl : l6_m3.length = l6_m3.length).trans List.length_set.symm) : l6_m3.length = (l6_m3.set l6_m4 x11).length))).trans (weak_ren [])), ⟨l6_m4 + 1, l6_m3.set l6_m4 x11, rfl, rfl⟩, hn6⟩
    have q9_ := of_decide_eq_false q9
    refine awp_condF_ q9 ?_
    refine awp_exit_ (te_ (te_ (be_ (tn_ ?_))))
    obtain rfl := Option.some.inj h
    have h := hn6
    (try dsimp only at h)
    obtain rfl := Option.some.inj h
    exact ⟨_, (weak_ren []), rfl⟩
  rintro l4_m3 _ rfl h
  (try dsimp only at h)
  refine seqR ?_
  refine awp_ret_ ?_
  obtain rfl := Option.some.inj h
  exact ret_ [(.own (oi 0 1) .int 0 l4_m3.length)] (p_one rfl (l_own (by kernel_rfl) rfl) p_nil)
def m_laws_toNetwork : AC :=
  (.seq (rg [xo 1 (.i (.box 25 (tm 0))), xo 2 (.i (.alloc 30 [(.int .i64 0), .nils, .nils, .nils]))])
  (.seq (rg [xo 3 (.i (.alloc 30 [(.int .i64 0), .nils, .nils, .nils]))])
  (.seq (rg [xo 4 (qf 0 (tm 1)), xo 5 (ql (tm 4)), xo 6 (qf 0 (tm 3)), xn (qs (tm 6) (tm 5))])
  (.seq (rg [xo 7 (qf 1 (tm 1)), xo 8 (ql (tm 7)), ⟨(some 9), none, (qc 43 [(tm 8)] [[(some (.pair .int (.pair .int .int)))]])⟩, xo 10 (qf 1 (tm 3)), xn (qs (tm 10) (tm 9))])
  (.seq (rg [xo 11 (qf 2 (tm 1)), xo 12 (ql (tm 11)), xo 13 (qc 18 [(tm 12)] [[(some .int)]]), xo 14 (qf 2 (tm 3)), xn (qs (tm 14) (tm 13))])
  (.seq (rg [xo 15 (qf 3 (tm 1)), xo 16 (ql (tm 15)), xo 17 (qc 18 [(tm 16)] [[(some .int)]]), xo 18 (qf 3 (tm 3)), xn (qs (tm 18) (tm 17))])
  (.seq (rg [xo 19 (.i (.ld false 4 (tm 3))), xn (.st false 4 (tm 2) (tm 19))])
  .ret)))))))
def r_laws_toNetwork : List Res := [.cell 2 false 4]
theorem c_laws_toNetwork : compiled Tryd.prog Tryd.f14 = some (m_laws_toNetwork, r_laws_toNetwork) := by kernel_rfl
theorem hb_laws_toNetwork : hasBody Tryd.prog 14 = true := by kernel_rfl
def L_laws_toNetwork (a0_0 : Int) (a0_1 : List (Int × Int × Int)) (a0_2 : List Int) (a0_3 : List Int) : Option (Int × (List (Int × Int × Int)) × List Int × List Int) :=
  Option.bind (L_laws_toBranchS a0_1) fun y5 =>
Option.bind (L_laws_toIntS a0_2) fun y7 =>
Option.bind (L_laws_toIntS a0_3) fun y9 =>
some (a0_0, y5, y7, y9)
def rv_laws_toNetwork (r : Int × (List (Int × Int × Int)) × List Int × List Int) : RV := ⟨false, [(true, [.sc (.int .i64 r.1), .new 59 (.pair .int (.pair .int .int)) r.2.1, .new 3 .int r.2.2.1, .new 3 .int r.2.2.2])]⟩
theorem ok_laws_toNetwork {a0_0 : Int} {a0_1 : List (Int × Int × Int)} {a0_2 : List Int} {a0_3 : List Int} {r : Int × (List (Int × Int × Int)) × List Int × List Int} (h : L_laws_toNetwork a0_0 a0_1 a0_2 a0_3 = some r) : CallOK Tryd.prog Tab 14 [(.agg [(ai a0_0), (.tree (.pair .int (.pair .int .int)) a0_1), (.tree .int a0_2), (.tree .int a0_3)])] (rv_laws_toNetwork r) := by
  refine call_of_ (by kernel_rfl) Tryd.func14 c_laws_toNetwork (n := 20) (by kernel_rfl) (by simp) (tl := [(0, (.agg [(ai a0_0), (.tree (.pair .int (.pair .int .int)) a0_1), (.tree .int a0_2), (.tree .int a0_3)]))]) rfl ?_
  unfold m_laws_toNetwork
  unfold L_laws_toNetwork at h
  refine seqR ?_
  refine seqR ?_
  refine seqR ?_
  refine awp_seqv_ ?_
  obtain ⟨y5, h5, h⟩ := ob_some h
  refine awp_region_ 13 ?_
  refine rs0 (.box (oi 1 1) 1) (by kernel_rfl) ?_
  refine rsl (.tree (.pair .int (.pair .int .int)) a0_1) (by kernel_rfl) ?_
  refine rcall (.own (oi 144 10) (.pair .int (.pair .int .int)) 0 y5.length) [((oi 144 10), some (.arr 59 (.pair .int (.pair .int .int)) y5))] [(.tree (.pair .int (.pair .int .int)) a0_1)] _ (caps := []) (args0 := [(.tree (.pair .int (.pair .int .int)) a0_1)]) trivial (by kernel_rfl) (ok_laws_toBranchS h5) hb_laws_toBranchS ?_
  refine rsB 2 ?_
  refine rnil (tn_ ?_)
  refine ⟨_, Weak.refl _, ?_⟩
  refine awp_seqv_ ?_
  obtain ⟨y7, h7, h⟩ := ob_some h
  refine awp_region_ 18 ?_
  refine rs0 (.box (oi 1 1) 2) (by kernel_rfl) ?_
  refine rsl (.tree .int a0_2) (by kernel_rfl) ?_
  refine rcall (.own (oi 208 15) .int 0 y7.length) [((oi 208 15), some (.arr 3 .int y7))] [(.tree .int a0_2)] _ (caps := []) (args0 := [(.tree .int a0_2)]) trivial (by kernel_rfl) (ok_laws_toIntS h7) hb_laws_toIntS ?_
  refine rsB 2 ?_
  refine rnil (tn_ ?_)
  refine ⟨_, Weak.refl _, ?_⟩
  refine awp_seqv_ ?_
  obtain ⟨y9, h9, h⟩ := ob_some h
  refine awp_region_ 23 ?_
  refine rs0 (.box (oi 1 1) 3) (by kernel_rfl) ?_
  refine rsl (.tree .int a0_3) (by kernel_rfl) ?_
  refine rcall (.own (oi 272 20) .int 0 y9.length) [((oi 272 20), some (.arr 3 .int y9))] [(.tree .int a0_3)] _ (caps := []) (args0 := [(.tree .int a0_3)]) trivial (by kernel_rfl) (ok_laws_toIntS h9) hb_laws_toIntS ?_
  refine rsB 2 ?_
  refine rnil (tn_ ?_)
  refine ⟨_, Weak.refl _, ?_⟩
  refine seqR ?_
  refine awp_ret_ ?_
  obtain rfl := Option.some.inj h
  exact ret_ [(.agg [(ai a0_0), (.own (oi 144 10) (.pair .int (.pair .int .int)) 0 y5.length), (.own (oi 208 15) .int 0 y7.length), (.own (oi 272 20) .int 0 y9.length)])] (p_agg (l_cons (l_sc (by kernel_rfl)) (l_cons (l_own (by kernel_rfl) rfl) (l_cons (l_own (by kernel_rfl) rfl) (l_cons (l_own (by kernel_rfl) rfl) l_nil)))) p_nil)
def m_laws_eqBranch : AC :=
  (.seq (rg [xo 2 (.i (.box 59 (tm 0))), xo 3 (.i (.box 59 (tm 1))), xo 4 (qm (cb false))])
  (.seq (.seq (rg [xo 5 (qf 0 (tm 2)), xo 6 (ql (tm 5)), xo 7 (qf 0 (tm 3)), xo 8 (ql (tm 7)), xo 9 (qb .neq (tm 6) (tm 8))])
  (.cond (tm 9)
    (.seq (rg [xo 4 (qm (cb false))])
    .ret)
    .skip))
  (.seq (.seq (rg [xo 10 (qf 1 (tm 2)), xo 11 (ql (tm 10)), xo 12 (qf 1 (tm 3)), xo 13 (ql (tm 12)), xo 14 (qb .neq (tm 11) (tm 13))])
  (.cond (tm 14)
    (.seq (rg [xo 4 (qm (cb false))])
    .ret)
    .skip))
  (.seq (.seq (rg [xo 15 (qf 2 (tm 2)), xo 16 (ql (tm 15)), xo 17 (qf 2 (tm 3)), xo 18 (ql (tm 17)), xo 19 (qb .neq (tm 16) (tm 18))])
  (.cond (tm 19)
    (.seq (rg [xo 4 (qm (cb false))])
    .ret)
    .skip))
  (.seq (rg [xo 4 (qm (cb true))])
  .ret)))))
def r_laws_eqBranch : List Res := [.tmp 4]
theorem c_laws_eqBranch : compiled Tryd.prog Tryd.f94 = some (m_laws_eqBranch, r_laws_eqBranch) := by kernel_rfl
theorem hb_laws_eqBranch : hasBody Tryd.prog 94 = true := by kernel_rfl
def L_laws_eqBranch (a0_0 : Int) (a0_1 : Int) (a0_2 : Int) (a1_0 : Int) (a1_1 : Int) (a1_2 : Int) : Option Bool :=
  cond (a0_0 != a1_0)
  (some false)
  (cond (a0_1 != a1_1)
    (some false)
    (cond (a0_2 != a1_2)
      (some false)
      (some true)))
def rv_laws_eqBranch (r : Bool) : RV := ⟨false, [(false, [.sc (.bool r)])]⟩
theorem ok_laws_eqBranch {a0_0 : Int} {a0_1 : Int} {a0_2 : Int} {a1_0 : Int} {a1_1 : Int} {a1_2 : Int} {r : Bool} (h : L_laws_eqBranch a0_0 a0_1 a0_2 a1_0 a1_1 a1_2 = some r) : CallOK Tryd.prog Tab 94 [(.agg [(ai a0_0), (ai a0_1), (ai a0_2)]), (.agg [(ai a1_0), (ai a1_1), (ai a1_2)])] (rv_laws_eqBranch r) := by
  refine call_of_ (by kernel_rfl) Tryd.func94 c_laws_eqBranch (n := 20) (by kernel_rfl) (by simp) (tl := [(0, (.agg [(ai a0_0), (ai a0_1), (ai a0_2)])), (1, (.agg [(ai a1_0), (ai a1_1), (ai a1_2)]))]) rfl ?_
  unfold m_laws_eqBranch
  unfold L_laws_eqBranch at h
  refine seqR ?_
  refine awp_seqv_ ?_
  refine seqR ?_
  rcases cond_some h with ⟨q4, h⟩ | ⟨q4, h⟩
  · refine awp_condT_ q4 ?_
    refine seqR ?_
    refine awp_ret_ (tr_ ?_)
    obtain rfl := Option.some.inj h
    exact ret_ [(.bool false)] (p_one rfl (l_sc (by kernel_rfl)) p_nil)
  refine awp_condF_ q4 ?_
  refine awp_skip_ (tn_ ?_)
  refine ⟨_, Weak.refl _, ?_⟩
  refine awp_seqv_ ?_
  refine seqR ?_
  rcases cond_some h with ⟨q8, h⟩ | ⟨q8, h⟩
  · refine awp_condT_ q8 ?_
    refine seqR ?_
    refine awp_ret_ (tr_ ?_)
    obtain rfl := Option.some.inj h
    exact ret_ [(.bool false)] (p_one rfl (l_sc (by kernel_rfl)) p_nil)
  refine awp_condF_ q8 ?_
  refine awp_skip_ (tn_ ?_)
  refine ⟨_, Weak.refl _, ?_⟩
  refine awp_seqv_ ?_
  refine seqR ?_
  rcases cond_some h with ⟨q12, h⟩ | ⟨q12, h⟩
  · refine awp_condT_ q12 ?_
    refine seqR ?_
    refine awp_ret_ (tr_ ?_)
    obtain rfl := Option.some.inj h
    exact ret_ [(.bool false)] (p_one rfl (l_sc (by kernel_rfl)) p_nil)
  refine awp_condF_ q12 ?_
  refine awp_skip_ (tn_ ?_)
  refine ⟨_, Weak.refl _, ?_⟩
  refine seqR ?_
  refine awp_ret_ ?_
  obtain rfl := Option.some.inj h
  exact ret_ [(.bool true)] (p_one rfl (l_sc (by kernel_rfl)) p_nil)
def m_laws_eqBranchS_l1 : AC :=
  (.seq (.seq (rg [xo 11 (qm (tm 5)), xo 12 (qm (tm 0)), xo 13 (.i (.len (tm 12))), xo 14 (qb .lss (tm 11) (tm 13))])
  (.cond (tm 14)
    .skip
    (.exit 0)))
  (.seq (.block 1 (.seq (.region [xo 17 (qm (tm 0)), xo 18 (qm (tm 5)), xo 19 (qx 3 (tm 17) (tm 18)), xo 20 (.i (.ld false 3 (tm 19))), xo 21 (qm (tm 1)), xo 22 (qm (tm 5)), xo 23 (qx 3 (tm 21) (tm 22)), xo 24 (.i (.ld false 3 (tm 23))), xo 25 (qc 94 [(tm 20), (tm 24)] [[none, none, none], [none, none, none]]), xo 26 (.i (.not (tm 25)))] true [])
  (.cond (tm 26)
    (.seq (rg [xo 4 (qm (cb false))])
    .ret)
    .skip)))
  (rg [xo 15 (qm (tm 5)), xo 16 (qb .add (tm 15) (ci 1)), xo 5 (qm (tm 16))])))
def m_laws_eqBranchS : AC :=
  (.seq (rg [xo 4 (qm (cb false))])
  (.seq (.seq (rg [xo 6 (qm (tm 0)), xo 7 (.i (.len (tm 6))), xo 8 (qm (tm 1)), xo 9 (.i (.len (tm 8))), xo 10 (qb .neq (tm 7) (tm 9))])
  (.cond (tm 10)
    (.seq (rg [xo 4 (qm (cb false))])
    .ret)
    .skip))
  (.seq (.seq (rg [xo 5 (qm (ci 0))])
  (.block 0 (.loop m_laws_eqBranchS_l1)))
  (.seq (rg [xo 4 (qm (cb true))])
  .ret))))
def r_laws_eqBranchS : List Res := [.tmp 4]
theorem c_laws_eqBranchS : compiled Tryd.prog Tryd.f45 = some (m_laws_eqBranchS, r_laws_eqBranchS) := by kernel_rfl
theorem hb_laws_eqBranchS : hasBody Tryd.prog 45 = true := by kernel_rfl
def L_laws_eqBranchS_l1 (a0 : List (Int × Int × Int)) (a1 : List (Int × Int × Int)) (l8_m5 : Nat) : Option (Ctl Nat (Ctl Unit Bool)) :=
  cond (decide (((l8_m5 : Nat) : Int) < ((a0.length : Nat) : Int)))
  (Option.bind (a0[l8_m5]?) fun x14 =>
  Option.bind (a1[l8_m5]?) fun x15 =>
  Option.bind (L_laws_eqBranch x14.1 x14.2.1 x14.2.2 x15.1 x15.2.1 x15.2.2) fun y16 =>
  cond (!y16)
    (some (Ctl.out (Ctl.out false)))
    (og (l8_m5 + 1 < 4611686018427387904) <|
    some (Ctl.next (l8_m5 + 1))))
  (some (Ctl.out (Ctl.next ())))
def L_laws_eqBranchS (a0 : List (Int × Int × Int)) (a1 : List (Int × Int × Int)) : Option Bool :=
  cond (((a0.length : Nat) : Int) != ((a1.length : Nat) : Int))
  (some false)
  (seqC (loopM (fun s_ : Nat => L_laws_eqBranchS_l1 a0 a1 s_) 4611686018427387904 0) fun _ =>
  some true)
def rv_laws_eqBranchS (r : Bool) : RV := ⟨false, [(false, [.sc (.bool r)])]⟩
theorem ok_laws_eqBranchS {a0 : List (Int × Int × Int)} {a1 : List (Int × Int × Int)} {r : Bool} (h : L_laws_eqBranchS a0 a1 = some r) : CallOK Tryd.prog Tab 45 [(.tree (.pair .int (.pair .int .int)) a0), (.tree (.pair .int (.pair .int .int)) a1)] (rv_laws_eqBranchS r) := by
  refine call_of_ (by kernel_rfl) Tryd.func45 c_laws_eqBranchS (n := 27) (by kernel_rfl) (by simp) (tl := [(0, (.tree (.pair .int (.pair .int .int)) a0)), (1, (.tree (.pair .int (.pair .int .int)) a1))]) rfl ?_
  unfold m_laws_eqBranchS
  unfold L_laws_eqBranchS at h
  refine seqR ?_
  refine awp_seqv_ ?_
  refine seqR ?_
  rcases cond_some h with ⟨q4, h⟩ | ⟨q4, h⟩
  · refine awp_condT_ q4 ?_
    refine seqR ?_
    refine awp_ret_ (tr_ ?_)
    obtain rfl := Option.some.inj h
    exact ret_ [(.bool false)] (p_one rfl (l_sc (by kernel_rfl)) p_nil)
  refine awp_condF_ q4 ?_
  refine awp_skip_ (tn_ ?_)
  refine ⟨_, Weak.refl _, ?_⟩
  refine awp_seqC h (fun (_ : Unit) S_ => S_ = ⟨mkTm [], mkOb (someL []), 2⟩) ?_ ?_
  · intro v_ h hk6
    refine seqR ?_
    refine awp_block_ ?_
    refine awp_loopL h (fun (l8_m5 : Nat) S_ => S_ = ⟨mkTm [(0, (.tree (.pair .int (.pair .int .int)) a0)), (1, (.tree (.pair .int (.pair .int .int)) a1)), (5, (ai ((l8_m5 : Nat) : Int)))], mkOb (someL []), 2⟩) ⟨_, (weak_ren []), rfl⟩ ?_
    rintro n_ l8_m5 _ c_ rfl h hn8
    (try dsimp only at h)
    unfold L_laws_eqBranchS_l1 at h
    unfold m_laws_eqBranchS_l1
    refine awp_seqv_ ?_
    refine seqR ?_
    rcases cond_some h with ⟨q11, h⟩ | ⟨q11, h⟩
    · have q11_ := of_decide_eq_true q11
      refine awp_condT_ q11 ?_
      refine awp_skip_ (tn_ ?_)
      refine ⟨_, Weak.refl _, ?_⟩
      refine awp_seqv_ ?_
      refine awp_block_ ?_
      refine awp_seqv_ ?_
      obtain ⟨x14, e14, h⟩ := ob_some h
      obtain ⟨x15, e15, h⟩ := ob_some h
      obtain ⟨y16, h16, h⟩ := ob_some h
      refine awp_regionD_ 16 ?_
      refine ds0 (.tree (.pair .int (.pair .int .int)) a0) (by kernel_rfl) ?_
      refine ds0 (ai ((l8_m5 : Nat) : Int)) (by kernel_rfl) ?_
      refine ds0 (.telt (.pair .int (.pair .int .int)) x14 0) (s_idxT (t := (.pair .int (.pair .int .int))) (xs := a0) (k := .i64) (m := ((l8_m5 : Nat) : Int)) (by kernel_rfl) (by kernel_rfl) rfl (nat_nn _) rfl e14) ?_
      refine ds0 (.agg [(ai x14.1), (ai x14.2.1), (ai x14.2.2)]) (by kernel_rfl) ?_
      refine ds0 (.tree (.pair .int (.pair .int .int)) a1) (by kernel_rfl) ?_
      refine ds0 (ai ((l8_m5 : Nat) : Int)) (by kernel_rfl) ?_
      refine ds0 (.telt (.pair .int (.pair .int .int)) x15 0) (s_idxT (t := (.pair .int (.pair .int .int))) (xs := a1) (k := .i64) (m := ((l8_m5 : Nat) : Int)) (by kernel_rfl) (by kernel_rfl) rfl (nat_nn _) rfl e15) ?_
      refine ds0 (.agg [(ai x15.1), (ai x15.2.1), (ai x15.2.2)]) (by kernel_rfl) ?_
      refine dcall (.bool y16) [] [(.agg [(ai x14.1), (ai x14.2.1), (ai x14.2.2)]), (.agg [(ai x15.1), (ai x15.2.1), (ai x15.2.2)])] _ (caps := []) (args0 := [(.agg [(ai x14.1), (ai x14.2.1), (ai x14.2.2)]), (.agg [(ai x15.1), (ai x15.2.1), (ai x15.2.2)])]) trivial (by kernel_rfl) (ok_laws_eqBranch h16) hb_laws_eqBranch ?_
      refine ds0 (.bool (!y16)) (by kernel_rfl) ?_
      refine dnil (badB_spec (by kernel_rfl)) (tn_ ?_)
      refine ⟨_, Weak.refl _, ?_⟩
      rcases cond_some h with ⟨q17, h⟩ | ⟨q17, h⟩
      · refine awp_condT_ q17 ?_
        refine seqR ?_
        refine awp_ret_ (br_ (tr_ (tr_ (br_ (tr_ ?_)))))
        obtain rfl := Option.some.inj h
        have h := hn8
        (try dsimp only at h)
        obtain rfl := Option.some.inj h
        have h := hk6
        (try dsimp only at h)
        obtain rfl := Option.some.inj h
        exact ret_ [(.bool false)] (p_one rfl (l_sc (by kernel_rfl)) p_nil)
      refine awp_condF_ q17 ?_
      refine awp_skip_ (bn_ (tn_ ?_))
      refine ⟨_, Weak.refl _, ?_⟩
      obtain ⟨g19, h⟩ := og_some h
      refine awp_region_ 19 ?_
      refine rs0 (ai ((l8_m5 : Nat) : Int)) (by kernel_rfl) ?_
      refine rs0 (ai ((l8_m5 + 1 : Nat) : Int)) (s_add1 (j := l8_m5) (by kernel_rfl) (by kernel_rfl) g19) ?_
      refine rsB 1 ?_
      refine rnil (tn_ ?_)
      obtain rfl := Option.some.inj h
      exact ⟨l8_m5 + 1, _, (weak_ren []), rfl, hn8⟩
    have q11_ := of_decide_eq_false q11
    refine awp_condF_ q11 ?_
    refine awp_exit_ (te_ (te_ (be_ (tn_ ?_))))
    obtain rfl := Option.some.inj h
    have h := hn8
    (try dsimp only at h)
    obtain rfl := Option.some.inj h
    exact ⟨(), _, rfl, (weak_ren []), rfl⟩
  rintro _ _ rfl h
  (try dsimp only at h)
  refine seqR ?_
  refine awp_ret_ ?_
  obtain rfl := Option.some.inj h
  exact ret_ [(.bool true)] (p_one rfl (l_sc (by kernel_rfl)) p_nil)
def m_laws_eqIntS_l1 : AC :=
  (.seq (.seq (rg [xo 11 (qm (tm 5)), xo 12 (qm (tm 0)), xo 13 (.i (.len (tm 12))), xo 14 (qb .lss (tm 11) (tm 13))])
  (.cond (tm 14)
    .skip
    (.exit 0)))
  (.seq (.block 1 (.seq (.region [xo 17 (qm (tm 0)), xo 18 (qm (tm 5)), xo 19 (qx 1 (tm 17) (tm 18)), xo 20 (ql (tm 19)), xo 21 (qm (tm 1)), xo 22 (qm (tm 5)), xo 23 (qx 1 (tm 21) (tm 22)), xo 24 (ql (tm 23)), xo 25 (qb .neq (tm 20) (tm 24))] true [])
  (.cond (tm 25)
    (.seq (rg [xo 4 (qm (cb false))])
    .ret)
    .skip)))
  (rg [xo 15 (qm (tm 5)), xo 16 (qb .add (tm 15) (ci 1)), xo 5 (qm (tm 16))])))
def m_laws_eqIntS : AC :=
  (.seq (rg [xo 4 (qm (cb false))])
  (.seq (.seq (rg [xo 6 (qm (tm 0)), xo 7 (.i (.len (tm 6))), xo 8 (qm (tm 1)), xo 9 (.i (.len (tm 8))), xo 10 (qb .neq (tm 7) (tm 9))])
  (.cond (tm 10)
    (.seq (rg [xo 4 (qm (cb false))])
    .ret)
    .skip))
  (.seq (.seq (rg [xo 5 (qm (ci 0))])
  (.block 0 (.loop m_laws_eqIntS_l1)))
  (.seq (rg [xo 4 (qm (cb true))])
  .ret))))
def r_laws_eqIntS : List Res := [.tmp 4]
theorem c_laws_eqIntS : compiled Tryd.prog Tryd.f20 = some (m_laws_eqIntS, r_laws_eqIntS) := by kernel_rfl
theorem hb_laws_eqIntS : hasBody Tryd.prog 20 = true := by kernel_rfl
def L_laws_eqIntS_l1 (a0 : List Int) (a1 : List Int) (l8_m5 : Nat) : Option (Ctl Nat (Ctl Unit Bool)) :=
  cond (decide (((l8_m5 : Nat) : Int) < ((a0.length : Nat) : Int)))
  (Option.bind (a0[l8_m5]?) fun x14 =>
  Option.bind (a1[l8_m5]?) fun x15 =>
  cond (x14 != x15)
    (some (Ctl.out (Ctl.out false)))
    (og (l8_m5 + 1 < 4611686018427387904) <|
    some (Ctl.next (l8_m5 + 1))))
  (some (Ctl.out (Ctl.next ())))
def L_laws_eqIntS (a0 : List Int) (a1 : List Int) : Option Bool :=
  cond (((a0.length : Nat) : Int) != ((a1.length : Nat) : Int))
  (some false)
  (seqC (loopM (fun s_ : Nat => L_laws_eqIntS_l1 a0 a1 s_) 4611686018427387904 0) fun _ =>
  some true)
def rv_laws_eqIntS (r : Bool) : RV := ⟨false, [(false, [.sc (.bool r)])]⟩
theorem ok_laws_eqIntS {a0 : List Int} {a1 : List Int} {r : Bool} (h : L_laws_eqIntS a0 a1 = some r) : CallOK Tryd.prog Tab 20 [(.tree .int a0), (.tree .int a1)] (rv_laws_eqIntS r) := by
  refine call_of_ (by kernel_rfl) Tryd.func20 c_laws_eqIntS (n := 26) (by kernel_rfl) (by simp) (tl := [(0, (.tree .int a0)), (1, (.tree .int a1))]) rfl ?_
  unfold m_laws_eqIntS
  unfold L_laws_eqIntS at h
  refine seqR ?_
  refine awp_seqv_ ?_
  refine seqR ?_
  rcases cond_some h with ⟨q4, h⟩ | ⟨q4, h⟩
  · refine awp_condT_ q4 ?_
    refine seqR ?_
    refine awp_ret_ (tr_ ?_)
    obtain rfl := Option.some.inj h
    exact ret_ [(.bool false)] (p_one rfl (l_sc (by kernel_rfl)) p_nil)
  refine awp_condF_ q4 ?_
  refine awp_skip_ (tn_ ?_)
  refine ⟨_, Weak.refl _, ?_⟩
  refine awp_seqC h (fun (_ : Unit) S_ => S_ = ⟨mkTm [], mkOb (someL []), 2⟩) ?_ ?_
  · intro v_ h hk6
    refine seqR ?_
    refine awp_block_ ?_
    refine awp_loopL h (fun (l8_m5 : Nat) S_ => S_ = ⟨mkTm [(0, (.tree .int a0)), (1, (.tree .int a1)), (5, (ai ((l8_m5 : Nat) : Int)))], mkOb (someL []), 2⟩) ⟨_, (weak_ren []), rfl⟩ ?_
    rintro n_ l8_m5 _ c_ rfl h hn8
    (try dsimp only at h)
    unfold L_laws_eqIntS_l1 at h
    unfold m_laws_eqIntS_l1
    refine awp_seqv_ ?_
    refine seqR ?_
    rcases cond_some h with ⟨q11, h⟩ | ⟨q11, h⟩
    · have q11_ := of_decide_eq_true q11
      refine awp_condT_ q11 ?_
      refine awp_skip_ (tn_ ?_)
      refine ⟨_, Weak.refl _, ?_⟩
      refine awp_seqv_ ?_
      refine awp_block_ ?_
      refine awp_seqv_ ?_
      obtain ⟨x14, e14, h⟩ := ob_some h
      obtain ⟨x15, e15, h⟩ := ob_some h
      refine awp_regionD_ 15 ?_
      refine ds0 (.tree .int a0) (by kernel_rfl) ?_
      refine ds0 (ai ((l8_m5 : Nat) : Int)) (by kernel_rfl) ?_
      refine ds0 (.telt .int x14 0) (s_idxT (t := .int) (xs := a0) (k := .i64) (m := ((l8_m5 : Nat) : Int)) (by kernel_rfl) (by kernel_rfl) rfl (nat_nn _) rfl e14) ?_
      refine ds0 (ai x14) (by kernel_rfl) ?_
      refine ds0 (.tree .int a1) (by kernel_rfl) ?_
      refine ds0 (ai ((l8_m5 : Nat) : Int)) (by kernel_rfl) ?_
      refine ds0 (.telt .int x15 0) (s_idxT (t := .int) (xs := a1) (k := .i64) (m := ((l8_m5 : Nat) : Int)) (by kernel_rfl) (by kernel_rfl) rfl (nat_nn _) rfl e15) ?_
      refine ds0 (ai x15) (by kernel_rfl) ?_
      refine ds0 (.bool (x14 != x15)) (by kernel_rfl) ?_
      refine dnil (badB_spec (by kernel_rfl)) (tn_ ?_)
      refine ⟨_, Weak.refl _, ?_⟩
      rcases cond_some h with ⟨q16, h⟩ | ⟨q16, h⟩
      · refine awp_condT_ q16 ?_
        refine seqR ?_
        refine awp_ret_ (br_ (tr_ (tr_ (br_ (tr_ ?_)))))
        obtain rfl := Option.some.inj h
        have h := hn8
        (try dsimp only at h)
        obtain rfl := Option.some.inj h
        have h := hk6
        (try dsimp only at h)
        obtain rfl := Option.some.inj h
        exact ret_ [(.bool false)] (p_one rfl (l_sc (by kernel_rfl)) p_nil)
      refine awp_condF_ q16 ?_
      refine awp_skip_ (bn_ (tn_ ?_))
      refine ⟨_, Weak.refl _, ?_⟩
      obtain ⟨g18, h⟩ := og_some h
      refine awp_region_ 18 ?_
      refine rs0 (ai ((l8_m5 : Nat) : Int)) (by kernel_rfl) ?_
      refine rs0 (ai ((l8_m5 + 1 : Nat) : Int)) (s_add1 (j := l8_m5) (by kernel_rfl) (by kernel_rfl) g18) ?_
      refine rsB 1 ?_
      refine rnil (tn_ ?_)
      obtain rfl := Option.some.inj h
      exact ⟨l8_m5 + 1, _, (weak_ren []), rfl, hn8⟩
    have q11_ := of_decide_eq_false q11
    refine awp_condF_ q11 ?_
    refine awp_exit_ (te_ (te_ (be_ (tn_ ?_))))
    obtain rfl := Option.some.inj h
    have h := hn8
    (try dsimp only at h)
    obtain rfl := Option.some.inj h
    exact ⟨(), _, rfl, (weak_ren []), rfl⟩
  rintro _ _ rfl h
  (try dsimp only at h)
  refine seqR ?_
  refine awp_ret_ ?_
  obtain rfl := Option.some.inj h
  exact ret_ [(.bool true)] (p_one rfl (l_sc (by kernel_rfl)) p_nil)
def m_laws_eqNetwork : AC :=
  (.seq (rg [xo 2 (.i (.box 30 (tm 0))), xo 3 (.i (.box 30 (tm 1))), xo 4 (qm (cb false))])
  (.seq (.seq (rg [xo 5 (qf 0 (tm 2)), xo 6 (ql (tm 5)), xo 7 (qf 0 (tm 3)), xo 8 (ql (tm 7)), xo 9 (qb .neq (tm 6) (tm 8))])
  (.cond (tm 9)
    (.seq (rg [xo 4 (qm (cb false))])
    .ret)
    .skip))
  (.seq (.seq (rg [xo 10 (qf 1 (tm 2)), xo 11 (ql (tm 10)), xo 12 (qf 1 (tm 3)), xo 13 (ql (tm 12)), ⟨(some 14), none, (qc 45 [(tm 11), (tm 13)] [[(some (.pair .int (.pair .int .int)))], [(some (.pair .int (.pair .int .int)))]])⟩, xo 15 (.i (.not (tm 14)))])
  (.cond (tm 15)
    (.seq (rg [xo 4 (qm (cb false))])
    .ret)
    .skip))
  (.seq (.seq (rg [xo 16 (qf 2 (tm 2)), xo 17 (ql (tm 16)), xo 18 (qf 2 (tm 3)), xo 19 (ql (tm 18)), xo 20 (qc 20 [(tm 17), (tm 19)] [[(some .int)], [(some .int)]]), xo 21 (.i (.not (tm 20)))])
  (.cond (tm 21)
    (.seq (rg [xo 4 (qm (cb false))])
    .ret)
    .skip))
  (.seq (.seq (rg [xo 22 (qf 3 (tm 2)), xo 23 (ql (tm 22)), xo 24 (qf 3 (tm 3)), xo 25 (ql (tm 24)), xo 26 (qc 20 [(tm 23), (tm 25)] [[(some .int)], [(some .int)]]), xo 27 (.i (.not (tm 26)))])
  (.cond (tm 27)
    (.seq (rg [xo 4 (qm (cb false))])
    .ret)
    .skip))
  (.seq (rg [xo 4 (qm (cb true))])
  .ret))))))
def r_laws_eqNetwork : List Res := [.tmp 4]
theorem c_laws_eqNetwork : compiled Tryd.prog Tryd.f16 = some (m_laws_eqNetwork, r_laws_eqNetwork) := by kernel_rfl
theorem hb_laws_eqNetwork : hasBody Tryd.prog 16 = true := by kernel_rfl
def L_laws_eqNetwork (a0_0 : Int) (a0_1 : List (Int × Int × Int)) (a0_2 : List Int) (a0_3 : List Int) (a1_0 : Int) (a1_1 : List (Int × Int × Int)) (a1_2 : List Int) (a1_3 : List Int) : Option Bool :=
  cond (a0_0 != a1_0)
  (some false)
  (Option.bind (L_laws_eqBranchS a0_1 a1_1) fun y8 =>
  cond (!y8)
    (some false)
    (Option.bind (L_laws_eqIntS a0_2 a1_2) fun y13 =>
    cond (!y13)
      (some false)
      (Option.bind (L_laws_eqIntS a0_3 a1_3) fun y18 =>
      cond (!y18)
        (some false)
        (some true))))
def rv_laws_eqNetwork (r : Bool) : RV := ⟨false, [(false, [.sc (.bool r)])]⟩
theorem ok_laws_eqNetwork {a0_0 : Int} {a0_1 : List (Int × Int × Int)} {a0_2 : List Int} {a0_3 : List Int} {a1_0 : Int} {a1_1 : List (Int × Int × Int)} {a1_2 : List Int} {a1_3 : List Int} {r : Bool} (h : L_laws_eqNetwork a0_0 a0_1 a0_2 a0_3 a1_0 a1_1 a1_2 a1_3 = some r) : CallOK Tryd.prog Tab 16 [(.agg [(ai a0_0), (.tree (.pair .int (.pair .int .int)) a0_1), (.tree .int a0_2), (.tree .int a0_3)]), (.agg [(ai a1_0), (.tree (.pair .int (.pair .int .int)) a1_1), (.tree .int a1_2), (.tree .int a1_3)])] (rv_laws_eqNetwork r) := by
  refine call_of_ (by kernel_rfl) Tryd.func16 c_laws_eqNetwork (n := 28) (by kernel_rfl) (by simp) (tl := [(0, (.agg [(ai a0_0), (.tree (.pair .int (.pair .int .int)) a0_1), (.tree .int a0_2), (.tree .int a0_3)])), (1, (.agg [(ai a1_0), (.tree (.pair .int (.pair .int .int)) a1_1), (.tree .int a1_2), (.tree .int a1_3)]))]) rfl ?_
  unfold m_laws_eqNetwork
  unfold L_laws_eqNetwork at h
  refine seqR ?_
  refine awp_seqv_ ?_
  refine seqR ?_
  rcases cond_some h with ⟨q4, h⟩ | ⟨q4, h⟩
  · refine awp_condT_ q4 ?_
    refine seqR ?_
    refine awp_ret_ (tr_ ?_)
    obtain rfl := Option.some.inj h
    exact ret_ [(.bool false)] (p_one rfl (l_sc (by kernel_rfl)) p_nil)
  refine awp_condF_ q4 ?_
  refine awp_skip_ (tn_ ?_)
  refine ⟨_, Weak.refl _, ?_⟩
  refine awp_seqv_ ?_
  refine awp_seqv_ ?_
  obtain ⟨y8, h8, h⟩ := ob_some h
  refine awp_region_ 15 ?_
  refine rs0 (.box (oi 2 1) 1) (by kernel_rfl) ?_
  refine rsl (.tree (.pair .int (.pair .int .int)) a0_1) (by kernel_rfl) ?_
  refine rs0 (.box (oi 3 2) 1) (by kernel_rfl) ?_
  refine rsl (.tree (.pair .int (.pair .int .int)) a1_1) (by kernel_rfl) ?_
  refine rcall (.bool y8) [] [(.tree (.pair .int (.pair .int .int)) a0_1), (.tree (.pair .int (.pair .int .int)) a1_1)] _ (caps := []) (args0 := [(.tree (.pair .int (.pair .int .int)) a0_1), (.tree (.pair .int (.pair .int .int)) a1_1)]) trivial (by kernel_rfl) (ok_laws_eqBranchS h8) hb_laws_eqBranchS ?_
  refine rsB 1 ?_
  refine rnil (tn_ ?_)
  refine ⟨_, Weak.refl _, ?_⟩
  rcases cond_some h with ⟨q9, h⟩ | ⟨q9, h⟩
  · refine awp_condT_ q9 ?_
    refine seqR ?_
    refine awp_ret_ (tr_ ?_)
    obtain rfl := Option.some.inj h
    exact ret_ [(.bool false)] (p_one rfl (l_sc (by kernel_rfl)) p_nil)
  refine awp_condF_ q9 ?_
  refine awp_skip_ (tn_ ?_)
  refine ⟨_, Weak.refl _, ?_⟩
  refine awp_seqv_ ?_
  refine awp_seqv_ ?_
  obtain ⟨y13, h13, h⟩ := ob_some h
  refine awp_region_ 21 ?_
  refine rs0 (.box (oi 2 1) 2) (by kernel_rfl) ?_
  refine rsl (.tree .int a0_2) (by kernel_rfl) ?_
  refine rs0 (.box (oi 3 2) 2) (by kernel_rfl) ?_
  refine rsl (.tree .int a1_2) (by kernel_rfl) ?_
  refine rcall (.bool y13) [] [(.tree .int a0_2), (.tree .int a1_2)] _ (caps := []) (args0 := [(.tree .int a0_2), (.tree .int a1_2)]) trivial (by kernel_rfl) (ok_laws_eqIntS h13) hb_laws_eqIntS ?_
  refine rsB 1 ?_
  refine rnil (tn_ ?_)
  refine ⟨_, Weak.refl _, ?_⟩
  rcases cond_some h with ⟨q14, h⟩ | ⟨q14, h⟩
  · refine awp_condT_ q14 ?_
    refine seqR ?_
    refine awp_ret_ (tr_ ?_)
    obtain rfl := Option.some.inj h
    exact ret_ [(.bool false)] (p_one rfl (l_sc (by kernel_rfl)) p_nil)
  refine awp_condF_ q14 ?_
  refine awp_skip_ (tn_ ?_)
  refine ⟨_, Weak.refl _, ?_⟩
  refine awp_seqv_ ?_
  refine awp_seqv_ ?_
  obtain ⟨y18, h18, h⟩ := ob_some h
  refine awp_region_ 27 ?_
  refine rs0 (.box (oi 2 1) 3) (by kernel_rfl) ?_
  refine rsl (.tree .int a0_3) (by kernel_rfl) ?_
  refine rs0 (.box (oi 3 2) 3) (by kernel_rfl) ?_
  refine rsl (.tree .int a1_3) (by kernel_rfl) ?_
  refine rcall (.bool y18) [] [(.tree .int a0_3), (.tree .int a1_3)] _ (caps := []) (args0 := [(.tree .int a0_3), (.tree .int a1_3)]) trivial (by kernel_rfl) (ok_laws_eqIntS h18) hb_laws_eqIntS ?_
  refine rsB 1 ?_
  refine rnil (tn_ ?_)
  refine ⟨_, Weak.refl _, ?_⟩
  rcases cond_some h with ⟨q19, h⟩ | ⟨q19, h⟩
  · refine awp_condT_ q19 ?_
    refine seqR ?_
    refine awp_ret_ (tr_ ?_)
    obtain rfl := Option.some.inj h
    exact ret_ [(.bool false)] (p_one rfl (l_sc (by kernel_rfl)) p_nil)
  refine awp_condF_ q19 ?_
  refine awp_skip_ (tn_ ?_)
  refine ⟨_, Weak.refl _, ?_⟩
  refine seqR ?_
  refine awp_ret_ ?_
  obtain rfl := Option.some.inj h
  exact ret_ [(.bool true)] (p_one rfl (l_sc (by kernel_rfl)) p_nil)
def m_laws_markBranchS_l1 : AC :=
  (.seq (.seq (rg [xo 6 (qm (tm 5)), xo 7 (qm (tm 0)), xo 8 (.i (.len (tm 7))), xo 9 (qb .lss (tm 6) (tm 8))])
  (.cond (tm 9)
    .skip
    (.exit 0)))
  (.seq (.block 1 (.seq (rg [xo 12 (qm (tm 0)), xo 13 (qm (tm 5)), xo 14 (qm (tm 1)), xo 15 (qx 3 (tm 12) (tm 13)), xo 16 (qf 0 (tm 15)), xn (qs (tm 16) (tm 14))])
  (.seq (rg [xo 17 (qm (tm 1)), xo 18 (qb .add (tm 17) (ci 1)), xo 1 (qm (tm 18))])
  (.seq (rg [xo 19 (qm (tm 0)), xo 20 (qm (tm 5)), xo 21 (qm (tm 1)), xo 22 (qx 3 (tm 19) (tm 20)), xo 23 (qf 1 (tm 22)), xn (qs (tm 23) (tm 21))])
  (.seq (rg [xo 24 (qm (tm 1)), xo 25 (qb .add (tm 24) (ci 1)), xo 1 (qm (tm 25))])
  (.seq (rg [xo 26 (qm (tm 0)), xo 27 (qm (tm 5)), xo 28 (qm (tm 1)), xo 29 (qx 3 (tm 26) (tm 27)), xo 30 (qf 2 (tm 29)), xn (qs (tm 30) (tm 28))])
  (rg [xo 31 (qm (tm 1)), xo 32 (qb .add (tm 31) (ci 1)), xo 1 (qm (tm 32))])))))))
  (rg [xo 10 (qm (tm 5)), xo 11 (qb .add (tm 10) (ci 1)), xo 5 (qm (tm 11))])))
def m_laws_markBranchS : AC :=
  (.seq (rg [xo 4 (qm (ci 0))])
  (.seq (.seq (rg [xo 5 (qm (ci 0))])
  (.block 0 (.loop m_laws_markBranchS_l1)))
  (.seq (rg [xo 33 (qm (tm 1)), xo 4 (qm (tm 33))])
  .ret)))
def r_laws_markBranchS : List Res := [.tmp 4]
theorem c_laws_markBranchS : compiled Tryd.prog Tryd.f55 = some (m_laws_markBranchS, r_laws_markBranchS) := by kernel_rfl
theorem hb_laws_markBranchS : hasBody Tryd.prog 55 = true := by kernel_rfl
def L_laws_markBranchS_l1  (l5_m1 : Int) (l5_m5 : Nat) (l5_m0 : List (Int × Int × Int)) : Option (Ctl (Int × Nat × (List (Int × Int × Int))) (Int × (List (Int × Int × Int)))) :=
  cond (decide (((l5_m5 : Nat) : Int) < ((l5_m0.length : Nat) : Int)))
  (Option.bind (l5_m0[l5_m5]?) fun x11 =>
  Option.bind ((l5_m0.set l5_m5 (l5_m1, x11.2))[l5_m5]?) fun x14 =>
  Option.bind (((l5_m0.set l5_m5 (l5_m1, x11.2)).set l5_m5 (x14.1, IntKind.i64.wrap (l5_m1 + 1), x14.2.2))[l5_m5]?) fun x17 =>
  og (l5_m5 + 1 < 4611686018427387904) <|
  some (Ctl.next (IntKind.i64.wrap (IntKind.i64.wrap (IntKind.i64.wrap (l5_m1 + 1) + 1) + 1), l5_m5 + 1, ((l5_m0.set l5_m5 (l5_m1, x11.2)).set l5_m5 (x14.1, IntKind.i64.wrap (l5_m1 + 1), x14.2.2)).set l5_m5 (x17.1, x17.2.1, IntKind.i64.wrap (IntKind.i64.wrap (l5_m1 + 1) + 1)))))
  (some (Ctl.out (l5_m1, l5_m0)))
def L_laws_markBranchS (a0 : List (Int × Int × Int)) (a1 : Int) : Option ((List (Int × Int × Int)) × Int) :=
  Option.bind (loopM (fun s_ : Int × Nat × (List (Int × Int × Int)) => L_laws_markBranchS_l1 s_.1 s_.2.1 s_.2.2) 4611686018427387904 (a1, 0, a0)) fun (l3_m1, l3_p0) =>
some (l3_p0, l3_m1)
theorem ok_laws_markBranchS {a0 : List (Int × Int × Int)} {a1 : Int} {r : (List (Int × Int × Int)) × Int} (h : L_laws_markBranchS a0 a1 = some r) {n_a0 : Nat} (hn_a0 : n_a0 = a0.length) : CallM Tryd.prog Tab 55 [(.own (oi 0 0) (.pair .int (.pair .int .int)) 0 n_a0), (ai a1)] [((oi 0 0), .arr 59 (.pair .int (.pair .int .int)) a0)] (ai r.2) [((oi 0 0), .arr 59 (.pair .int (.pair .int .int)) r.1)] := by
  refine callM_of_ (by kernel_rfl) Tryd.func55 c_laws_markBranchS (n := 34) (by kernel_rfl) (by simp) (tl := [(0, (.own (oi 0 0) (.pair .int (.pair .int .int)) 0 n_a0)), (1, (ai a1))]) rfl (by kernel_rfl) ⟨trivial, trivial⟩ ⟨trivial, trivial⟩ ?_
  unfold m_laws_markBranchS
  unfold L_laws_markBranchS at h
  refine seqR ?_
  refine awp_seqB h (fun t_ S_ => ∃ (l3_m1 : Int), ∃ (l3_p0 : List (Int × Int × Int)), t_ = (l3_m1, l3_p0) ∧ S_ = ⟨mkTm [(1, (ai l3_m1))], mkOb (someL [((oi 0 0), .arr 59 (.pair .int (.pair .int .int)) l3_p0)]), 2⟩) ?_ ?_
  · intro v_ h
    refine seqR ?_
    refine awp_block_ ?_
    refine awp_loopL h (fun t_ S_ => ∃ (l5_m1 : Int), ∃ (l5_m5 : Nat), ∃ (l5_m0 : List (Int × Int × Int)), t_ = (l5_m1, l5_m5, l5_m0) ∧ S_ = ⟨mkTm [(0, (.own (oi 0 0) (.pair .int (.pair .int .int)) 0 l5_m0.length)), (1, (ai l5_m1)), (5, (ai ((l5_m5 : Nat) : Int)))], mkOb (someL [((oi 0 0), .arr 59 (.pair .int (.pair .int .int)) l5_m0)]), 2⟩) ⟨_, ((weak_tm_ 0 (.own (oi 0 0) (.pair .int (.pair .int .int)) 0 n_a0) (.own (oi 0 0) (.pair .int (.pair .int .int)) 0 a0.length) (by kernel_rfl) (congrArg (fun z_ => ((.own (oi 0 0) (.pair .int (.pair .int .int)) 0 z_) : AV)) (hn_a0 : n_a0 = a0.length))).trans (weak_ren [])), ⟨a1, 0, a0, rfl, rfl⟩⟩ ?_
    rintro n_ _ _ c_ ⟨l5_m1, l5_m5, l5_m0, rfl, rfl⟩ h hn5
    (try dsimp only at h)
    unfold L_laws_markBranchS_l1 at h
    unfold m_laws_markBranchS_l1
    refine awp_seqv_ ?_
    refine seqR ?_
    rcases cond_some h with ⟨q8, h⟩ | ⟨q8, h⟩
    · have q8_ := of_decide_eq_true q8
      refine awp_condT_ q8 ?_
      refine awp_skip_ (tn_ ?_)
      refine ⟨_, Weak.refl _, ?_⟩
      refine awp_seqv_ ?_
      refine awp_block_ ?_
      refine awp_seqv_ ?_
      obtain ⟨x11, e11, h⟩ := ob_some h
      refine awp_region_ 12 ?_
      refine rs0 (.own (oi 0 0) (.pair .int (.pair .int .int)) 0 l5_m0.length) (by kernel_rfl) ?_
      refine rs0 (ai ((l5_m5 : Nat) : Int)) (by kernel_rfl) ?_
      refine rs0 (ai l5_m1) (by kernel_rfl) ?_
      refine rs0 (.elt (oi 0 0) l5_m5 0) (s_idxO (t := (.pair .int (.pair .int .int))) (o := (oi 0 0)) (len := l5_m0.length) (k := .i64) (m := ((l5_m5 : Nat) : Int)) (by kernel_rfl) (by kernel_rfl) rfl (nat_nn _) rfl (getN_lt e11)) ?_
      refine rs0 (.elt (oi 0 0) l5_m5 0) (by kernel_rfl) ?_
      refine rsn2 (oi 0 0) (oi 0 0) (.arr 59 (.pair .int (.pair .int .int)) (l5_m0.set l5_m5 (l5_m1, x11.2))) (s_stE (i := (oi 0 0)) (j := l5_m5) (k := 0) (e := 59) (t := (.pair .int (.pair .int .int))) (xs := l5_m0) (cs := [(ai l5_m1), (ai x11.2.1), (ai x11.2.2)]) (x1 := (l5_m1, x11.2)) (by kernel_rfl) (by kernel_rfl) e11 (by kernel_rfl) (by kernel_rfl)) ?_
      refine rnil (tn_ ?_)
      refine ⟨_, Weak.refl _, ?_⟩
      refine seqR ?_
      refine awp_seqv_ ?_
      obtain ⟨x14, e14, h⟩ := ob_some h
      refine awp_region_ 21 ?_
      refine rs0 (.own (oi 0 0) (.pair .int (.pair .int .int)) 0 l5_m0.length) (by kernel_rfl) ?_
      refine rs0 (ai ((l5_m5 : Nat) : Int)) (by kernel_rfl) ?_
      refine rs0 (ai (IntKind.i64.wrap (l5_m1 + 1))) (by kernel_rfl) ?_
      refine rs0 (.elt (oi 0 0) l5_m5 0) (s_idxO (t := (.pair .int (.pair .int .int))) (o := (oi 0 0)) (len := l5_m0.length) (k := .i64) (m := ((l5_m5 : Nat) : Int)) (by kernel_rfl) (by kernel_rfl) rfl (nat_nn _) rfl (by rw [((rfl : l5_m0.length = l5_m0.length).trans List.length_set.symm)]; exact getN_lt e14)) ?_
      refine rs0 (.elt (oi 0 0) l5_m5 1) (by kernel_rfl) ?_
      refine rsn2 (oi 0 0) (oi 0 0) (.arr 59 (.pair .int (.pair .int .int)) ((l5_m0.set l5_m5 (l5_m1, x11.2)).set l5_m5 (x14.1, IntKind.i64.wrap (l5_m1 + 1), x14.2.2))) (s_stE (i := (oi 0 0)) (j := l5_m5) (k := 1) (e := 59) (t := (.pair .int (.pair .int .int))) (xs := l5_m0.set l5_m5 (l5_m1, x11.2)) (cs := [(ai x14.1), (ai (IntKind.i64.wrap (l5_m1 + 1))), (ai x14.2.2)]) (x1 := (x14.1, IntKind.i64.wrap (l5_m1 + 1), x14.2.2)) (by kernel_rfl) (by kernel_rfl) e14 (by kernel_rfl) (by kernel_rfl)) ?_
      refine rnil (tn_ ?_)
      refine ⟨_, Weak.refl _, ?_⟩
      refine seqR ?_
      refine awp_seqv_ ?_
      obtain ⟨x17, e17, h⟩ := ob_some h
      refine awp_region_ 30 ?_
      refine rs0 (.own (oi 0 0) (.pair .int (.pair .int .int)) 0 l5_m0.length) (by kernel_rfl) ?_
      refine rs0 (ai ((l5_m5 : Nat) : Int)) (by kernel_rfl) ?_
      refine rs0 (ai (IntKind.i64.wrap (IntKind.i64.wrap (l5_m1 + 1) + 1))) (by kernel_rfl) ?_
      refine rs0 (.elt (oi 0 0) l5_m5 0) (s_idxO (t := (.pair .int (.pair .int .int))) (o := (oi 0 0)) (len := l5_m0.length) (k := .i64) (m := ((l5_m5 : Nat) : Int)) (by kernel_rfl) (by kernel_rfl) rfl (nat_nn _) rfl (by rw [(((rfl : l5_m0.length = l5_m0.length).trans List.length_set.symm).trans List.length_set.symm)]; exact getN_lt e17)) ?_
      refine rs0 (.elt (oi 0 0) l5_m5 2) (by kernel_rfl) ?_
      refine rsn2 (oi 0 0) (oi 0 0) (.arr 59 (.pair .int (.pair .int .int)) (((l5_m0.set l5_m5 (l5_m1, x11.2)).set l5_m5 (x14.1, IntKind.i64.wrap (l5_m1 + 1), x14.2.2)).set l5_m5 (x17.1, x17.2.1, IntKind.i64.wrap (IntKind.i64.wrap (l5_m1 + 1) + 1)))) (s_stE (i := (oi 0 0)) (j := l5_m5) (k := 2) (e := 59) (t := (.pair .int (.pair .int .int))) (xs := (l5_m0.set l5_m5 (l5_m1, x11.2)).set l5_m5 (x14.1, IntKind.i64.wrap (l5_m1 + 1), x14.2.2)) (cs := [(ai x17.1), (ai x17.2.1), (ai (IntKind.i64.wrap (IntKind.i64.wrap (l5_m1 + 1) + 1)))]) (x1 := (x17.1, x17.2.1, IntKind.i64.wrap (IntKind.i64.wrap (l5_m1 + 1) + 1))) (by kernel_rfl) (by kernel_rfl) e17 (by kernel_rfl) (by kernel_rfl)) ?_
      refine rnil (tn_ ?_)
      refine ⟨_, Weak.refl _, ?_⟩
      refine awp_region_ 33 ?_
      refine rsB 3 ?_
      refine rnil (bn_ (tn_ ?_))
      refine ⟨_, Weak.refl _, ?_⟩
      obtain ⟨g18, h⟩ := og_some h
      refine awp_region_ 36 ?_
      refine rs0 (ai ((l5_m5 : Nat) : Int)) (by kernel_rfl) ?_
      refine rs0 (ai ((l5_m5 + 1 : Nat) : Int)) (s_add1 (j := l5_m5) (by kernel_rfl) (by kernel_rfl) g18) ?_
      refine rsB 1 ?_
      refine rnil (tn_ ?_)
      obtain rfl := Option.some.inj h
      exact ⟨(IntKind.i64.wrap (IntKind.i64.wrap (IntKind.i64.wrap (l5_m1 + 1) + 1) + 1), l5_m5 + 1, ((l5_m0.set l5_m5 (l5_m1, x11.2)).set l5_m5 (x14.1, IntKind.i64.wrap (l5_m1 + 1), x14.2.2)).set l5_m5 (x17.1, x17.2.1, IntKind.i64.wrap (IntKind.i64.wrap (l5_m1 + 1) + 1))), _, ((weak_tm_ 0 (.own (oi 0 0) (.pair .int (.pair .int .int)) 0 l5_m0.length) (.own (oi 0 0) (.pair .int (.pair .int .int)) 0 ((((l5_m0.set l5_m5 (l5_m1, x11.2)).set l5_m5 (x14.1, IntKind.i64.wrap (l5_m1 + 1), x14.2.2)).set l5_m5 (x17.1, x17.2.1, IntKind.i64.wrap (IntKind.i64.wrap (l5_m1 + 1) + 1))).length)) (by kernel_rfl) (congrArg (fun z_ => ((.own (oi 0 0) (.pair .int (.pair .int .int)) 0 z_) : AV)) (((((rfl : l5_m0.length = l5_m0.length).trans List.length_set.symm).trans List.length_set.symm).trans List.length_set.symm) : l5_m0.length = (((l5_m0.set l5_m5 (l5_m1, x11.2)).set l5_m5 (x14.1, IntKind.i64.wrap (l5_m1 + 1), x14.2.2)).set l5_m5 (x17.1, x17.2.1, IntKind.i64.wrap (IntKind.i64.wrap (l5_m1 + 1) + 1))).length))).trans (weak_ren [])), ⟨IntKind.i64.wrap (IntKind.i64.wrap (IntKind.i64.wrap (l5_m1 + 1) + 1) + 1), l5_m5 + 1, ((l5_m0.set l5_m5 (l5_m1, x11.2)).set l5_m5 (x14.1, IntKind.i64.wrap (l5_m1 + 1), x14.2.2)).set l5_m5 (x17.1, x17.2.1, IntKind.i64.wrap (IntKind.i64.wrap (l5_m1 + 1) + 1)), rfl, rfl⟩, hn5⟩
    have q8_ := of_decide_eq_false q8
    refine awp_condF_ q8 ?_
    refine awp_exit_ (te_ (te_ (be_ (tn_ ?_))))
    obtain rfl := Option.some.inj h
    have h := hn5
    (try dsimp only at h)
    obtain rfl := Option.some.inj h
    exact ⟨_, (weak_ren []), ⟨l5_m1, l5_m0, rfl, rfl⟩⟩
  rintro _ _ ⟨l3_m1, l3_p0, rfl, rfl⟩ h
  (try dsimp only at h)
  refine seqR ?_
  refine awp_ret_ ?_
  obtain rfl := Option.some.inj h
  exact retM_ [(ai l3_m1)] (weak_ren (tl := [(4, (ai l3_m1))]) (g := 2) [])
def m_laws_markIntS_l1 : AC :=
  (.seq (.seq (rg [xo 6 (qm (tm 5)), xo 7 (qm (tm 0)), xo 8 (.i (.len (tm 7))), xo 9 (qb .lss (tm 6) (tm 8))])
  (.cond (tm 9)
    .skip
    (.exit 0)))
  (.seq (.block 1 (.seq (rg [xo 12 (qm (tm 0)), xo 13 (qm (tm 5)), xo 14 (qm (tm 1)), xo 15 (qx 1 (tm 12) (tm 13)), xn (qs (tm 15) (tm 14))])
  (rg [xo 16 (qm (tm 1)), xo 17 (qb .add (tm 16) (ci 1)), xo 1 (qm (tm 17))])))
  (rg [xo 10 (qm (tm 5)), xo 11 (qb .add (tm 10) (ci 1)), xo 5 (qm (tm 11))])))
def m_laws_markIntS : AC :=
  (.seq (rg [xo 4 (qm (ci 0))])
  (.seq (.seq (rg [xo 5 (qm (ci 0))])
  (.block 0 (.loop m_laws_markIntS_l1)))
  (.seq (rg [xo 18 (qm (tm 1)), xo 4 (qm (tm 18))])
  .ret)))
def r_laws_markIntS : List Res := [.tmp 4]
theorem c_laws_markIntS : compiled Tryd.prog Tryd.f56 = some (m_laws_markIntS, r_laws_markIntS) := by kernel_rfl
theorem hb_laws_markIntS : hasBody Tryd.prog 56 = true := by kernel_rfl
def L_laws_markIntS_l1  (l5_m1 : Int) (l5_m5 : Nat) (l5_m0 : List Int) : Option (Ctl (Int × Nat × List Int) (Int × List Int)) :=
  cond (decide (((l5_m5 : Nat) : Int) < ((l5_m0.length : Nat) : Int)))
  (Option.bind (l5_m0[l5_m5]?) fun x11 =>
  og (l5_m5 + 1 < 4611686018427387904) <|
  some (Ctl.next (IntKind.i64.wrap (l5_m1 + 1), l5_m5 + 1, l5_m0.set l5_m5 l5_m1)))
  (some (Ctl.out (l5_m1, l5_m0)))
def L_laws_markIntS (a0 : List Int) (a1 : Int) : Option (List Int × Int) :=
  Option.bind (loopM (fun s_ : Int × Nat × List Int => L_laws_markIntS_l1 s_.1 s_.2.1 s_.2.2) 4611686018427387904 (a1, 0, a0)) fun (l3_m1, l3_p0) =>
some (l3_p0, l3_m1)
theorem ok_laws_markIntS {a0 : List Int} {a1 : Int} {r : List Int × Int} (h : L_laws_markIntS a0 a1 = some r) {n_a0 : Nat} (hn_a0 : n_a0 = a0.length) : CallM Tryd.prog Tab 56 [(.own (oi 0 0) .int 0 n_a0), (ai a1)] [((oi 0 0), .arr 3 .int a0)] (ai r.2) [((oi 0 0), .arr 3 .int r.1)] := by
  refine callM_of_ (by kernel_rfl) Tryd.func56 c_laws_markIntS (n := 19) (by kernel_rfl) (by simp) (tl := [(0, (.own (oi 0 0) .int 0 n_a0)), (1, (ai a1))]) rfl (by kernel_rfl) ⟨trivial, trivial⟩ ⟨trivial, trivial⟩ ?_
  unfold m_laws_markIntS
  unfold L_laws_markIntS at h
  refine seqR ?_
  refine awp_seqB h (fun t_ S_ => ∃ (l3_m1 : Int), ∃ (l3_p0 : List Int), t_ = (l3_m1, l3_p0) ∧ S_ = ⟨mkTm [(1, (ai l3_m1))], mkOb (someL [((oi 0 0), .arr 3 .int l3_p0)]), 2⟩) ?_ ?_
  · intro v_ h
    refine seqR ?_
    refine awp_block_ ?_
    refine awp_loopL h (fun t_ S_ => ∃ (l5_m1 : Int), ∃ (l5_m5 : Nat), ∃ (l5_m0 : List Int), t_ = (l5_m1, l5_m5, l5_m0) ∧ S_ = ⟨mkTm [(0, (.own (oi 0 0) .int 0 l5_m0.length)), (1, (ai l5_m1)), (5, (ai ((l5_m5 : Nat) : Int)))], mkOb (someL [((oi 0 0), .arr 3 .int l5_m0)]), 2⟩) ⟨_, ((weak_tm_ 0 (.own (oi 0 0) .int 0 n_a0) (.own (oi 0 0) .int 0 a0.length) (by kernel_rfl) (congrArg (fun z_ => ((.own (oi 0 0) .int 0 z_) : AV)) (hn_a0 : n_a0 = a0.length))).trans (weak_ren [])), ⟨a1, 0, a0, rfl, rfl⟩⟩ ?_
    rintro n_ _ _ c_ ⟨l5_m1, l5_m5, l5_m0, rfl, rfl⟩ h hn5
    (try dsimp only at h)
    unfold L_laws_markIntS_l1 at h
    unfold m_laws_markIntS_l1
    refine awp_seqv_ ?_
    refine seqR ?_
    rcases cond_some h with ⟨q8, h⟩ | ⟨q8, h⟩
    · have q8_ := of_decide_eq_true q8
      refine awp_condT_ q8 ?_
      refine awp_skip_ (tn_ ?_)
      refine ⟨_, Weak.refl _, ?_⟩
      refine awp_seqv_ ?_
      refine awp_block_ ?_
      refine awp_seqv_ ?_
      obtain ⟨x11, e11, h⟩ := ob_some h
      refine awp_region_ 11 ?_
      refine rs0 (.own (oi 0 0) .int 0 l5_m0.length) (by kernel_rfl) ?_
      refine rs0 (ai ((l5_m5 : Nat) : Int)) (by kernel_rfl) ?_
      refine rs0 (ai l5_m1) (by kernel_rfl) ?_
      refine rs0 (.elt (oi 0 0) l5_m5 0) (s_idxO (t := .int) (o := (oi 0 0)) (len := l5_m0.length) (k := .i64) (m := ((l5_m5 : Nat) : Int)) (by kernel_rfl) (by kernel_rfl) rfl (nat_nn _) rfl (getN_lt e11)) ?_
      refine rsn2 (oi 0 0) (oi 0 0) (.arr 3 .int (l5_m0.set l5_m5 l5_m1)) (s_stE (i := (oi 0 0)) (j := l5_m5) (k := 0) (e := 3) (t := .int) (xs := l5_m0) (cs := [(ai l5_m1)]) (x1 := l5_m1) (by kernel_rfl) (by kernel_rfl) e11 (by kernel_rfl) (by kernel_rfl)) ?_
      refine rnil (tn_ ?_)
      refine ⟨_, Weak.refl _, ?_⟩
      refine awp_region_ 14 ?_
      refine rsB 3 ?_
      refine rnil (bn_ (tn_ ?_))
      refine ⟨_, Weak.refl _, ?_⟩
      obtain ⟨g12, h⟩ := og_some h
      refine awp_region_ 17 ?_
      refine rs0 (ai ((l5_m5 : Nat) : Int)) (by kernel_rfl) ?_
      refine rs0 (ai ((l5_m5 + 1 : Nat) : Int)) (s_add1 (j := l5_m5) (by kernel_rfl) (by kernel_rfl) g12) ?_
      refine rsB 1 ?_
      refine rnil (tn_ ?_)
      obtain rfl := Option.some.inj h
      exact ⟨(IntKind.i64.wrap (l5_m1 + 1), l5_m5 + 1, l5_m0.set l5_m5 l5_m1), _, ((weak_tm_ 0 (.own (oi 0 0) .int 0 l5_m0.length) (.own (oi 0 0) .int 0 ((l5_m0.set l5_m5 l5_m1).length)) (by kernel_rfl) (congrArg (fun z_ => ((.own (oi 0 0) .int 0 z_) : AV)) (((rfl : l5_m0.length = l5_m0.length).trans List.length_set.symm) : l5_m0.length = (l5_m0.set l5_m5 l5_m1).length))).trans (weak_ren [])), ⟨IntKind.i64.wrap (l5_m1 + 1), l5_m5 + 1, l5_m0.set l5_m5 l5_m1, rfl, rfl⟩, hn5⟩
    have q8_ := of_decide_eq_false q8
    refine awp_condF_ q8 ?_
    refine awp_exit_ (te_ (te_ (be_ (tn_ ?_))))
    obtain rfl := Option.some.inj h
    have h := hn5
    (try dsimp only at h)
    obtain rfl := Option.some.inj h
    exact ⟨_, (weak_ren []), ⟨l5_m1, l5_m0, rfl, rfl⟩⟩
  rintro _ _ ⟨l3_m1, l3_p0, rfl, rfl⟩ h
  (try dsimp only at h)
  refine seqR ?_
  refine awp_ret_ ?_
  obtain rfl := Option.some.inj h
  exact retM_ [(ai l3_m1)] (weak_ren (tl := [(4, (ai l3_m1))]) (g := 2) [])
def m_laws_markNetwork : AC :=
  (.seq (rg [xo 2 (.i (.box 30 (tm 0))), xo 4 (qm (ci 0))])
  (.seq (rg [xo 5 (qf 1 (tm 2)), xo 6 (ql (tm 5)), xo 7 (qm (tm 1)), ⟨(some 8), none, (qc 55 [(tm 6), (tm 7)] [[(some (.pair .int (.pair .int .int)))], []])⟩, xo 1 (qm (tm 8))])
  (.seq (rg [xo 9 (qf 2 (tm 2)), xo 10 (ql (tm 9)), xo 11 (qm (tm 1)), xo 12 (qc 56 [(tm 10), (tm 11)] [[(some .int)], []]), xo 1 (qm (tm 12))])
  (.seq (rg [xo 13 (qf 3 (tm 2)), xo 14 (ql (tm 13)), xo 15 (qm (tm 1)), xo 16 (qc 56 [(tm 14), (tm 15)] [[(some .int)], []]), xo 1 (qm (tm 16))])
  (.seq (rg [xo 17 (qm (tm 1)), xo 4 (qm (tm 17))])
  .ret)))))
def r_laws_markNetwork : List Res := [.tmp 4]
theorem c_laws_markNetwork : compiled Tryd.prog Tryd.f23 = some (m_laws_markNetwork, r_laws_markNetwork) := by kernel_rfl
theorem hb_laws_markNetwork : hasBody Tryd.prog 23 = true := by kernel_rfl
def L_laws_markNetwork (a0_0 : Int) (a0_1 : List (Int × Int × Int)) (a0_2 : List Int) (a0_3 : List Int) (a1 : Int) : Option ((List (Int × Int × Int)) × List Int × List Int × Int) :=
  Option.bind (L_laws_markBranchS a0_1 a1) fun y4 =>
og (y4.1.length = (a0_1.length)) <|
Option.bind (L_laws_markIntS a0_2 y4.2) fun y7 =>
og (y7.1.length = (a0_2.length)) <|
Option.bind (L_laws_markIntS a0_3 y7.2) fun y10 =>
og (y10.1.length = (a0_3.length)) <|
some (y4.1, y7.1, y10.1, y10.2)
theorem ok_laws_markNetwork {a0_0 : Int} {a0_1 : List (Int × Int × Int)} {a0_2 : List Int} {a0_3 : List Int} {a1 : Int} {r : (List (Int × Int × Int)) × List Int × List Int × Int} (h : L_laws_markNetwork a0_0 a0_1 a0_2 a0_3 a1 = some r) {n_a0_1 : Nat} (hn_a0_1 : n_a0_1 = a0_1.length) {n_a0_2 : Nat} (hn_a0_2 : n_a0_2 = a0_2.length) {n_a0_3 : Nat} (hn_a0_3 : n_a0_3 = a0_3.length) : CallM Tryd.prog Tab 23 [(.agg [(ai a0_0), (.own (oi 0 0) (.pair .int (.pair .int .int)) 0 n_a0_1), (.own (oi 1 0) .int 0 n_a0_2), (.own (oi 2 0) .int 0 n_a0_3)]), (ai a1)] [((oi 0 0), .arr 59 (.pair .int (.pair .int .int)) a0_1), ((oi 1 0), .arr 3 .int a0_2), ((oi 2 0), .arr 3 .int a0_3)] (ai r.2.2.2) [((oi 0 0), .arr 59 (.pair .int (.pair .int .int)) r.1), ((oi 1 0), .arr 3 .int r.2.1), ((oi 2 0), .arr 3 .int r.2.2.1)] := by
  refine callM_of_ (by kernel_rfl) Tryd.func23 c_laws_markNetwork (n := 18) (by kernel_rfl) (by simp) (tl := [(0, (.agg [(ai a0_0), (.own (oi 0 0) (.pair .int (.pair .int .int)) 0 n_a0_1), (.own (oi 1 0) .int 0 n_a0_2), (.own (oi 2 0) .int 0 n_a0_3)])), (1, (ai a1))]) rfl (by kernel_rfl) ⟨trivial, ⟨trivial, ⟨trivial, trivial⟩⟩⟩ ⟨trivial, ⟨trivial, ⟨trivial, trivial⟩⟩⟩ ?_
  unfold m_laws_markNetwork
  unfold L_laws_markNetwork at h
  (try rw [← hn_a0_1] at h)
  (try rw [← hn_a0_2] at h)
  (try rw [← hn_a0_3] at h)
  refine seqR ?_
  refine awp_seqv_ ?_
  obtain ⟨y4, h4, h⟩ := ob_some h
  obtain ⟨g5, h⟩ := og_some h
  refine awp_region_ 8 ?_
  refine rs0 (.box (oi 2 1) 1) (by kernel_rfl) ?_
  refine rsl (.own (oi 0 0) (.pair .int (.pair .int .int)) 0 n_a0_1) (by kernel_rfl) ?_
  refine rs0 (ai a1) (by kernel_rfl) ?_
  refine rcallM (ai y4.2) [((oi 0 0), some (.arr 59 (.pair .int (.pair .int .int)) y4.1)), ((oi 0 0), none)] [] [(.own (oi 0 0) (.pair .int (.pair .int .int)) 0 n_a0_1), (ai a1)] (caps := []) trivial (ok_laws_markBranchS h4 hn_a0_1) hb_laws_markBranchS ⟨(by kernel_rfl), trivial⟩ (.cons (.ren (by kernel_rfl)) (.cons (.ren (by kernel_rfl)) .nil)) (reachL_mem (by kernel_rfl) (by kernel_rfl) ⟨(re_arg (by kernel_rfl)), trivial⟩) ?_
  refine rsB 1 ?_
  refine rnil (tn_ ?_)
  refine ⟨_, Weak.refl _, ?_⟩
  refine awp_seqv_ ?_
  obtain ⟨y7, h7, h⟩ := ob_some h
  obtain ⟨g8, h⟩ := og_some h
  refine awp_region_ 13 ?_
  refine rs0 (.box (oi 2 1) 2) (by kernel_rfl) ?_
  refine rsl (.own (oi 1 0) .int 0 n_a0_2) (by kernel_rfl) ?_
  refine rs0 (ai y4.2) (by kernel_rfl) ?_
  refine rcallM (ai y7.2) [((oi 1 0), some (.arr 3 .int y7.1)), ((oi 1 0), none)] [((oi 0 0), (oi 1 0))] [(.own (oi 1 0) .int 0 n_a0_2), (ai y4.2)] (caps := []) trivial (ok_laws_markIntS h7 hn_a0_2) hb_laws_markIntS ⟨(by kernel_rfl), trivial⟩ (.cons (.ren (by kernel_rfl)) (.cons (.ren (by kernel_rfl)) .nil)) (reachL_mem (by kernel_rfl) (by kernel_rfl) ⟨(re_arg (by kernel_rfl)), trivial⟩) ?_
  refine rsB 1 ?_
  refine rnil (tn_ ?_)
  refine ⟨_, Weak.refl _, ?_⟩
  refine awp_seqv_ ?_
  obtain ⟨y10, h10, h⟩ := ob_some h
  obtain ⟨g11, h⟩ := og_some h
  refine awp_region_ 18 ?_
  refine rs0 (.box (oi 2 1) 3) (by kernel_rfl) ?_
  refine rsl (.own (oi 2 0) .int 0 n_a0_3) (by kernel_rfl) ?_
  refine rs0 (ai y7.2) (by kernel_rfl) ?_
  refine rcallM (ai y10.2) [((oi 2 0), some (.arr 3 .int y10.1)), ((oi 2 0), none)] [((oi 0 0), (oi 2 0))] [(.own (oi 2 0) .int 0 n_a0_3), (ai y7.2)] (caps := []) trivial (ok_laws_markIntS h10 hn_a0_3) hb_laws_markIntS ⟨(by kernel_rfl), trivial⟩ (.cons (.ren (by kernel_rfl)) (.cons (.ren (by kernel_rfl)) .nil)) (reachL_mem (by kernel_rfl) (by kernel_rfl) ⟨(re_arg (by kernel_rfl)), trivial⟩) ?_
  refine rsB 1 ?_
  refine rnil (tn_ ?_)
  refine ⟨_, Weak.refl _, ?_⟩
  refine seqR ?_
  refine awp_ret_ ?_
  obtain rfl := Option.some.inj h
  exact retM_ [(ai y10.2)] (weak_ren (tl := [(4, (ai y10.2))]) (g := 2) [])
def m_laws_heldBranchS_l1 : AC :=
  (.seq (.seq (rg [xo 6 (qm (tm 5)), xo 7 (qm (tm 0)), xo 8 (.i (.len (tm 7))), xo 9 (qb .lss (tm 6) (tm 8))])
  (.cond (tm 9)
    .skip
    (.exit 0)))
  (.seq (.block 1 (.seq (.seq (rg [xo 12 (qm (tm 0)), xo 13 (qm (tm 5)), xo 14 (qx 3 (tm 12) (tm 13)), xo 15 (qf 0 (tm 14)), xo 16 (ql (tm 15)), xo 17 (qm (tm 1)), xo 18 (qb .neq (tm 16) (tm 17))])
  (.cond (tm 18)
    (.seq (rg [xo 4 (qm (ci (-1)))])
    .ret)
    .skip))
  (.seq (rg [xo 19 (qm (tm 1)), xo 20 (qb .add (tm 19) (ci 1)), xo 1 (qm (tm 20))])
  (.seq (.seq (rg [xo 21 (qm (tm 0)), xo 22 (qm (tm 5)), xo 23 (qx 3 (tm 21) (tm 22)), xo 24 (qf 1 (tm 23)), xo 25 (ql (tm 24)), xo 26 (qm (tm 1)), xo 27 (qb .neq (tm 25) (tm 26))])
  (.cond (tm 27)
    (.seq (rg [xo 4 (qm (ci (-1)))])
    .ret)
    .skip))
  (.seq (rg [xo 28 (qm (tm 1)), xo 29 (qb .add (tm 28) (ci 1)), xo 1 (qm (tm 29))])
  (.seq (.seq (rg [xo 30 (qm (tm 0)), xo 31 (qm (tm 5)), xo 32 (qx 3 (tm 30) (tm 31)), xo 33 (qf 2 (tm 32)), xo 34 (ql (tm 33)), xo 35 (qm (tm 1)), xo 36 (qb .neq (tm 34) (tm 35))])
  (.cond (tm 36)
    (.seq (rg [xo 4 (qm (ci (-1)))])
    .ret)
    .skip))
  (rg [xo 37 (qm (tm 1)), xo 38 (qb .add (tm 37) (ci 1)), xo 1 (qm (tm 38))])))))))
  (rg [xo 10 (qm (tm 5)), xo 11 (qb .add (tm 10) (ci 1)), xo 5 (qm (tm 11))])))
def m_laws_heldBranchS : AC :=
  (.seq (rg [xo 4 (qm (ci 0))])
  (.seq (.seq (rg [xo 5 (qm (ci 0))])
  (.block 0 (.loop m_laws_heldBranchS_l1)))
  (.seq (rg [xo 39 (qm (tm 1)), xo 4 (qm (tm 39))])
  .ret)))
def r_laws_heldBranchS : List Res := [.tmp 4]
theorem c_laws_heldBranchS : compiled Tryd.prog Tryd.f57 = some (m_laws_heldBranchS, r_laws_heldBranchS) := by kernel_rfl
theorem hb_laws_heldBranchS : hasBody Tryd.prog 57 = true := by kernel_rfl
def L_laws_heldBranchS_l1 (a0 : List (Int × Int × Int)) (l4_m1 : Int) (l4_m5 : Nat) : Option (Ctl (Int × Nat) (Ctl Int Int)) :=
  cond (decide (((l4_m5 : Nat) : Int) < ((a0.length : Nat) : Int)))
  (Option.bind (a0[l4_m5]?) fun x11 =>
  cond (x11.1 != l4_m1)
    (some (Ctl.out (Ctl.out (-1))))
    (cond (x11.2.1 != (IntKind.i64.wrap (l4_m1 + 1)))
      (some (Ctl.out (Ctl.out (-1))))
      (cond (x11.2.2 != (IntKind.i64.wrap (IntKind.i64.wrap (l4_m1 + 1) + 1)))
        (some (Ctl.out (Ctl.out (-1))))
        (og (l4_m5 + 1 < 4611686018427387904) <|
        some (Ctl.next (IntKind.i64.wrap (IntKind.i64.wrap (IntKind.i64.wrap (l4_m1 + 1) + 1) + 1), l4_m5 + 1))))))
  (some (Ctl.out (Ctl.next l4_m1)))
def L_laws_heldBranchS (a0 : List (Int × Int × Int)) (a1 : Int) : Option Int :=
  seqC (loopM (fun s_ : Int × Nat => L_laws_heldBranchS_l1 a0 s_.1 s_.2) 4611686018427387904 (a1, 0)) fun l2_m1 =>
some l2_m1
def rv_laws_heldBranchS (r : Int) : RV := ⟨false, [(false, [.sc (.int .i64 r)])]⟩
theorem ok_laws_heldBranchS {a0 : List (Int × Int × Int)} {a1 : Int} {r : Int} (h : L_laws_heldBranchS a0 a1 = some r) : CallOK Tryd.prog Tab 57 [(.tree (.pair .int (.pair .int .int)) a0), (ai a1)] (rv_laws_heldBranchS r) := by
  refine call_of_ (by kernel_rfl) Tryd.func57 c_laws_heldBranchS (n := 40) (by kernel_rfl) (by simp) (tl := [(0, (.tree (.pair .int (.pair .int .int)) a0)), (1, (ai a1))]) rfl ?_
  unfold m_laws_heldBranchS
  unfold L_laws_heldBranchS at h
  refine seqR ?_
  refine awp_seqC h (fun (l2_m1 : Int) S_ => S_ = ⟨mkTm [(1, (ai l2_m1))], mkOb (someL []), 2⟩) ?_ ?_
  · intro v_ h hk2
    refine seqR ?_
    refine awp_block_ ?_
    refine awp_loopL h (fun t_ S_ => ∃ (l4_m1 : Int), ∃ (l4_m5 : Nat), t_ = (l4_m1, l4_m5) ∧ S_ = ⟨mkTm [(0, (.tree (.pair .int (.pair .int .int)) a0)), (1, (ai l4_m1)), (5, (ai ((l4_m5 : Nat) : Int)))], mkOb (someL []), 2⟩) ⟨_, (weak_ren []), ⟨a1, 0, rfl, rfl⟩⟩ ?_
    rintro n_ _ _ c_ ⟨l4_m1, l4_m5, rfl, rfl⟩ h hn4
    (try dsimp only at h)
    unfold L_laws_heldBranchS_l1 at h
    unfold m_laws_heldBranchS_l1
    refine awp_seqv_ ?_
    refine seqR ?_
    rcases cond_some h with ⟨q7, h⟩ | ⟨q7, h⟩
    · have q7_ := of_decide_eq_true q7
      refine awp_condT_ q7 ?_
      refine awp_skip_ (tn_ ?_)
      refine ⟨_, Weak.refl _, ?_⟩
      refine awp_seqv_ ?_
      refine awp_block_ ?_
      refine awp_seqv_ ?_
      refine awp_seqv_ ?_
      obtain ⟨x11, e11, h⟩ := ob_some h
      refine awp_region_ 13 ?_
      refine rs0 (.tree (.pair .int (.pair .int .int)) a0) (by kernel_rfl) ?_
      refine rs0 (ai ((l4_m5 : Nat) : Int)) (by kernel_rfl) ?_
      refine rs0 (.telt (.pair .int (.pair .int .int)) x11 0) (s_idxT (t := (.pair .int (.pair .int .int))) (xs := a0) (k := .i64) (m := ((l4_m5 : Nat) : Int)) (by kernel_rfl) (by kernel_rfl) rfl (nat_nn _) rfl e11) ?_
      refine rsB 4 ?_
      refine rnil (tn_ ?_)
      refine ⟨_, Weak.refl _, ?_⟩
      rcases cond_some h with ⟨q12, h⟩ | ⟨q12, h⟩
      · refine awp_condT_ q12 ?_
        refine seqR ?_
        refine awp_ret_ (tr_ (br_ (tr_ (tr_ (br_ (tr_ ?_))))))
        obtain rfl := Option.some.inj h
        have h := hn4
        (try dsimp only at h)
        obtain rfl := Option.some.inj h
        have h := hk2
        (try dsimp only at h)
        obtain rfl := Option.some.inj h
        exact ret_ [(ai (-1))] (p_one rfl (l_sc (by kernel_rfl)) p_nil)
      refine awp_condF_ q12 ?_
      refine awp_skip_ (tn_ ?_)
      refine ⟨_, Weak.refl _, ?_⟩
      refine seqR ?_
      refine awp_seqv_ ?_
      refine awp_seqv_ ?_
      refine awp_region_ 23 ?_
      refine rs0 (.tree (.pair .int (.pair .int .int)) a0) (by kernel_rfl) ?_
      refine rs0 (ai ((l4_m5 : Nat) : Int)) (by kernel_rfl) ?_
      refine rs0 (.telt (.pair .int (.pair .int .int)) x11 0) (s_idxT (t := (.pair .int (.pair .int .int))) (xs := a0) (k := .i64) (m := ((l4_m5 : Nat) : Int)) (by kernel_rfl) (by kernel_rfl) rfl (nat_nn _) rfl e11) ?_
      refine rsB 4 ?_
      refine rnil (tn_ ?_)
      refine ⟨_, Weak.refl _, ?_⟩
      rcases cond_some h with ⟨q17, h⟩ | ⟨q17, h⟩
      · refine awp_condT_ q17 ?_
        refine seqR ?_
        refine awp_ret_ (tr_ (br_ (tr_ (tr_ (br_ (tr_ ?_))))))
        obtain rfl := Option.some.inj h
        have h := hn4
        (try dsimp only at h)
        obtain rfl := Option.some.inj h
        have h := hk2
        (try dsimp only at h)
        obtain rfl := Option.some.inj h
        exact ret_ [(ai (-1))] (p_one rfl (l_sc (by kernel_rfl)) p_nil)
      refine awp_condF_ q17 ?_
      refine awp_skip_ (tn_ ?_)
      refine ⟨_, Weak.refl _, ?_⟩
      refine seqR ?_
      refine awp_seqv_ ?_
      refine awp_seqv_ ?_
      refine awp_region_ 33 ?_
      refine rs0 (.tree (.pair .int (.pair .int .int)) a0) (by kernel_rfl) ?_
      refine rs0 (ai ((l4_m5 : Nat) : Int)) (by kernel_rfl) ?_
      refine rs0 (.telt (.pair .int (.pair .int .int)) x11 0) (s_idxT (t := (.pair .int (.pair .int .int))) (xs := a0) (k := .i64) (m := ((l4_m5 : Nat) : Int)) (by kernel_rfl) (by kernel_rfl) rfl (nat_nn _) rfl e11) ?_
      refine rsB 4 ?_
      refine rnil (tn_ ?_)
      refine ⟨_, Weak.refl _, ?_⟩
      rcases cond_some h with ⟨q22, h⟩ | ⟨q22, h⟩
      · refine awp_condT_ q22 ?_
        refine seqR ?_
        refine awp_ret_ (tr_ (br_ (tr_ (tr_ (br_ (tr_ ?_))))))
        obtain rfl := Option.some.inj h
        have h := hn4
        (try dsimp only at h)
        obtain rfl := Option.some.inj h
        have h := hk2
        (try dsimp only at h)
        obtain rfl := Option.some.inj h
        exact ret_ [(ai (-1))] (p_one rfl (l_sc (by kernel_rfl)) p_nil)
      refine awp_condF_ q22 ?_
      refine awp_skip_ (tn_ ?_)
      refine ⟨_, Weak.refl _, ?_⟩
      refine awp_region_ 36 ?_
      refine rsB 3 ?_
      refine rnil (bn_ (tn_ ?_))
      refine ⟨_, Weak.refl _, ?_⟩
      obtain ⟨g24, h⟩ := og_some h
      refine awp_region_ 39 ?_
      refine rs0 (ai ((l4_m5 : Nat) : Int)) (by kernel_rfl) ?_
      refine rs0 (ai ((l4_m5 + 1 : Nat) : Int)) (s_add1 (j := l4_m5) (by kernel_rfl) (by kernel_rfl) g24) ?_
      refine rsB 1 ?_
      refine rnil (tn_ ?_)
      obtain rfl := Option.some.inj h
      exact ⟨(IntKind.i64.wrap (IntKind.i64.wrap (IntKind.i64.wrap (l4_m1 + 1) + 1) + 1), l4_m5 + 1), _, (weak_ren []), ⟨IntKind.i64.wrap (IntKind.i64.wrap (IntKind.i64.wrap (l4_m1 + 1) + 1) + 1), l4_m5 + 1, rfl, rfl⟩, hn4⟩
    have q7_ := of_decide_eq_false q7
    refine awp_condF_ q7 ?_
    refine awp_exit_ (te_ (te_ (be_ (tn_ ?_))))
    obtain rfl := Option.some.inj h
    have h := hn4
    (try dsimp only at h)
    obtain rfl := Option.some.inj h
    exact ⟨l4_m1, _, rfl, (weak_ren []), rfl⟩
  rintro l2_m1 _ rfl h
  (try dsimp only at h)
  refine seqR ?_
  refine awp_ret_ ?_
  obtain rfl := Option.some.inj h
  exact ret_ [(ai l2_m1)] (p_one rfl (l_sc (by kernel_rfl)) p_nil)
def m_laws_heldIntS_l1 : AC :=
  (.seq (.seq (rg [xo 6 (qm (tm 5)), xo 7 (qm (tm 0)), xo 8 (.i (.len (tm 7))), xo 9 (qb .lss (tm 6) (tm 8))])
  (.cond (tm 9)
    .skip
    (.exit 0)))
  (.seq (.block 1 (.seq (.seq (rg [xo 12 (qm (tm 0)), xo 13 (qm (tm 5)), xo 14 (qx 1 (tm 12) (tm 13)), xo 15 (ql (tm 14)), xo 16 (qm (tm 1)), xo 17 (qb .neq (tm 15) (tm 16))])
  (.cond (tm 17)
    (.seq (rg [xo 4 (qm (ci (-1)))])
    .ret)
    .skip))
  (rg [xo 18 (qm (tm 1)), xo 19 (qb .add (tm 18) (ci 1)), xo 1 (qm (tm 19))])))
  (rg [xo 10 (qm (tm 5)), xo 11 (qb .add (tm 10) (ci 1)), xo 5 (qm (tm 11))])))
def m_laws_heldIntS : AC :=
  (.seq (rg [xo 4 (qm (ci 0))])
  (.seq (.seq (rg [xo 5 (qm (ci 0))])
  (.block 0 (.loop m_laws_heldIntS_l1)))
  (.seq (rg [xo 20 (qm (tm 1)), xo 4 (qm (tm 20))])
  .ret)))
def r_laws_heldIntS : List Res := [.tmp 4]
theorem c_laws_heldIntS : compiled Tryd.prog Tryd.f58 = some (m_laws_heldIntS, r_laws_heldIntS) := by kernel_rfl
theorem hb_laws_heldIntS : hasBody Tryd.prog 58 = true := by kernel_rfl
def L_laws_heldIntS_l1 (a0 : List Int) (l4_m1 : Int) (l4_m5 : Nat) : Option (Ctl (Int × Nat) (Ctl Int Int)) :=
  cond (decide (((l4_m5 : Nat) : Int) < ((a0.length : Nat) : Int)))
  (Option.bind (a0[l4_m5]?) fun x11 =>
  cond (x11 != l4_m1)
    (some (Ctl.out (Ctl.out (-1))))
    (og (l4_m5 + 1 < 4611686018427387904) <|
    some (Ctl.next (IntKind.i64.wrap (l4_m1 + 1), l4_m5 + 1))))
  (some (Ctl.out (Ctl.next l4_m1)))
def L_laws_heldIntS (a0 : List Int) (a1 : Int) : Option Int :=
  seqC (loopM (fun s_ : Int × Nat => L_laws_heldIntS_l1 a0 s_.1 s_.2) 4611686018427387904 (a1, 0)) fun l2_m1 =>
some l2_m1
def rv_laws_heldIntS (r : Int) : RV := ⟨false, [(false, [.sc (.int .i64 r)])]⟩
theorem ok_laws_heldIntS {a0 : List Int} {a1 : Int} {r : Int} (h : L_laws_heldIntS a0 a1 = some r) : CallOK Tryd.prog Tab 58 [(.tree .int a0), (ai a1)] (rv_laws_heldIntS r) := by
  refine call_of_ (by kernel_rfl) Tryd.func58 c_laws_heldIntS (n := 21) (by kernel_rfl) (by simp) (tl := [(0, (.tree .int a0)), (1, (ai a1))]) rfl ?_
  unfold m_laws_heldIntS
  unfold L_laws_heldIntS at h
  refine seqR ?_
  refine awp_seqC h (fun (l2_m1 : Int) S_ => S_ = ⟨mkTm [(1, (ai l2_m1))], mkOb (someL []), 2⟩) ?_ ?_
  · intro v_ h hk2
    refine seqR ?_
    refine awp_block_ ?_
    refine awp_loopL h (fun t_ S_ => ∃ (l4_m1 : Int), ∃ (l4_m5 : Nat), t_ = (l4_m1, l4_m5) ∧ S_ = ⟨mkTm [(0, (.tree .int a0)), (1, (ai l4_m1)), (5, (ai ((l4_m5 : Nat) : Int)))], mkOb (someL []), 2⟩) ⟨_, (weak_ren []), ⟨a1, 0, rfl, rfl⟩⟩ ?_
    rintro n_ _ _ c_ ⟨l4_m1, l4_m5, rfl, rfl⟩ h hn4
    (try dsimp only at h)
    unfold L_laws_heldIntS_l1 at h
    unfold m_laws_heldIntS_l1
    refine awp_seqv_ ?_
    refine seqR ?_
    rcases cond_some h with ⟨q7, h⟩ | ⟨q7, h⟩
    · have q7_ := of_decide_eq_true q7
      refine awp_condT_ q7 ?_
      refine awp_skip_ (tn_ ?_)
      refine ⟨_, Weak.refl _, ?_⟩
      refine awp_seqv_ ?_
      refine awp_block_ ?_
      refine awp_seqv_ ?_
      refine awp_seqv_ ?_
      obtain ⟨x11, e11, h⟩ := ob_some h
      refine awp_region_ 12 ?_
      refine rs0 (.tree .int a0) (by kernel_rfl) ?_
      refine rs0 (ai ((l4_m5 : Nat) : Int)) (by kernel_rfl) ?_
      refine rs0 (.telt .int x11 0) (s_idxT (t := .int) (xs := a0) (k := .i64) (m := ((l4_m5 : Nat) : Int)) (by kernel_rfl) (by kernel_rfl) rfl (nat_nn _) rfl e11) ?_
      refine rsB 3 ?_
      refine rnil (tn_ ?_)
      refine ⟨_, Weak.refl _, ?_⟩
      rcases cond_some h with ⟨q12, h⟩ | ⟨q12, h⟩
      · refine awp_condT_ q12 ?_
        refine seqR ?_
        refine awp_ret_ (tr_ (br_ (tr_ (tr_ (br_ (tr_ ?_))))))
        obtain rfl := Option.some.inj h
        have h := hn4
        (try dsimp only at h)
        obtain rfl := Option.some.inj h
        have h := hk2
        (try dsimp only at h)
        obtain rfl := Option.some.inj h
        exact ret_ [(ai (-1))] (p_one rfl (l_sc (by kernel_rfl)) p_nil)
      refine awp_condF_ q12 ?_
      refine awp_skip_ (tn_ ?_)
      refine ⟨_, Weak.refl _, ?_⟩
      refine awp_region_ 15 ?_
      refine rsB 3 ?_
      refine rnil (bn_ (tn_ ?_))
      refine ⟨_, Weak.refl _, ?_⟩
      obtain ⟨g14, h⟩ := og_some h
      refine awp_region_ 18 ?_
      refine rs0 (ai ((l4_m5 : Nat) : Int)) (by kernel_rfl) ?_
      refine rs0 (ai ((l4_m5 + 1 : Nat) : Int)) (s_add1 (j := l4_m5) (by kernel_rfl) (by kernel_rfl) g14) ?_
      refine rsB 1 ?_
      refine rnil (tn_ ?_)
      obtain rfl := Option.some.inj h
      exact ⟨(IntKind.i64.wrap (l4_m1 + 1), l4_m5 + 1), _, (weak_ren []), ⟨IntKind.i64.wrap (l4_m1 + 1), l4_m5 + 1, rfl, rfl⟩, hn4⟩
    have q7_ := of_decide_eq_false q7
    refine awp_condF_ q7 ?_
    refine awp_exit_ (te_ (te_ (be_ (tn_ ?_))))
    obtain rfl := Option.some.inj h
    have h := hn4
    (try dsimp only at h)
    obtain rfl := Option.some.inj h
    exact ⟨l4_m1, _, rfl, (weak_ren []), rfl⟩
  rintro l2_m1 _ rfl h
  (try dsimp only at h)
  refine seqR ?_
  refine awp_ret_ ?_
  obtain rfl := Option.some.inj h
  exact ret_ [(ai l2_m1)] (p_one rfl (l_sc (by kernel_rfl)) p_nil)
def m_laws_heldNetwork : AC :=
  (.seq (rg [xo 2 (.i (.box 30 (tm 0))), xo 4 (qm (ci 0))])
  (.seq (rg [xo 5 (qf 1 (tm 2)), xo 6 (ql (tm 5)), xo 7 (qm (tm 1)), ⟨(some 8), none, (qc 57 [(tm 6), (tm 7)] [[(some (.pair .int (.pair .int .int)))], []])⟩, xo 1 (qm (tm 8))])
  (.seq (.seq (rg [xo 9 (qm (tm 1)), xo 10 (qb .lss (tm 9) (ci 0))])
  (.cond (tm 10)
    (.seq (rg [xo 4 (qm (ci (-1)))])
    .ret)
    .skip))
  (.seq (rg [xo 11 (qf 2 (tm 2)), xo 12 (ql (tm 11)), xo 13 (qm (tm 1)), xo 14 (qc 58 [(tm 12), (tm 13)] [[(some .int)], []]), xo 1 (qm (tm 14))])
  (.seq (.seq (rg [xo 15 (qm (tm 1)), xo 16 (qb .lss (tm 15) (ci 0))])
  (.cond (tm 16)
    (.seq (rg [xo 4 (qm (ci (-1)))])
    .ret)
    .skip))
  (.seq (rg [xo 17 (qf 3 (tm 2)), xo 18 (ql (tm 17)), xo 19 (qm (tm 1)), xo 20 (qc 58 [(tm 18), (tm 19)] [[(some .int)], []]), xo 1 (qm (tm 20))])
  (.seq (.seq (rg [xo 21 (qm (tm 1)), xo 22 (qb .lss (tm 21) (ci 0))])
  (.cond (tm 22)
    (.seq (rg [xo 4 (qm (ci (-1)))])
    .ret)
    .skip))
  (.seq (rg [xo 23 (qm (tm 1)), xo 4 (qm (tm 23))])
  .ret))))))))
def r_laws_heldNetwork : List Res := [.tmp 4]
theorem c_laws_heldNetwork : compiled Tryd.prog Tryd.f24 = some (m_laws_heldNetwork, r_laws_heldNetwork) := by kernel_rfl
theorem hb_laws_heldNetwork : hasBody Tryd.prog 24 = true := by kernel_rfl
def L_laws_heldNetwork (a0_0 : Int) (a0_1 : List (Int × Int × Int)) (a0_2 : List Int) (a0_3 : List Int) (a1 : Int) : Option Int :=
  Option.bind (L_laws_heldBranchS a0_1 a1) fun y3 =>
cond (decide (y3 < 0))
  (some (-1))
  (Option.bind (L_laws_heldIntS a0_2 y3) fun y9 =>
  cond (decide (y9 < 0))
    (some (-1))
    (Option.bind (L_laws_heldIntS a0_3 y9) fun y15 =>
    cond (decide (y15 < 0))
      (some (-1))
      (some y15)))
def rv_laws_heldNetwork (r : Int) : RV := ⟨false, [(false, [.sc (.int .i64 r)])]⟩
theorem ok_laws_heldNetwork {a0_0 : Int} {a0_1 : List (Int × Int × Int)} {a0_2 : List Int} {a0_3 : List Int} {a1 : Int} {r : Int} (h : L_laws_heldNetwork a0_0 a0_1 a0_2 a0_3 a1 = some r) : CallOK Tryd.prog Tab 24 [(.agg [(ai a0_0), (.tree (.pair .int (.pair .int .int)) a0_1), (.tree .int a0_2), (.tree .int a0_3)]), (ai a1)] (rv_laws_heldNetwork r) := by
  refine call_of_ (by kernel_rfl) Tryd.func24 c_laws_heldNetwork (n := 24) (by kernel_rfl) (by simp) (tl := [(0, (.agg [(ai a0_0), (.tree (.pair .int (.pair .int .int)) a0_1), (.tree .int a0_2), (.tree .int a0_3)])), (1, (ai a1))]) rfl ?_
  unfold m_laws_heldNetwork
  unfold L_laws_heldNetwork at h
  refine seqR ?_
  refine awp_seqv_ ?_
  obtain ⟨y3, h3, h⟩ := ob_some h
  refine awp_region_ 8 ?_
  refine rs0 (.box (oi 2 1) 1) (by kernel_rfl) ?_
  refine rsl (.tree (.pair .int (.pair .int .int)) a0_1) (by kernel_rfl) ?_
  refine rs0 (ai a1) (by kernel_rfl) ?_
  refine rcall (ai y3) [] [(.tree (.pair .int (.pair .int .int)) a0_1), (ai a1)] _ (caps := []) (args0 := [(.tree (.pair .int (.pair .int .int)) a0_1), (ai a1)]) trivial (by kernel_rfl) (ok_laws_heldBranchS h3) hb_laws_heldBranchS ?_
  refine rsB 1 ?_
  refine rnil (tn_ ?_)
  refine ⟨_, Weak.refl _, ?_⟩
  refine awp_seqv_ ?_
  refine seqR ?_
  rcases cond_some h with ⟨q6, h⟩ | ⟨q6, h⟩
  · have q6_ := of_decide_eq_true q6
    refine awp_condT_ q6 ?_
    refine seqR ?_
    refine awp_ret_ (tr_ ?_)
    obtain rfl := Option.some.inj h
    exact ret_ [(ai (-1))] (p_one rfl (l_sc (by kernel_rfl)) p_nil)
  have q6_ := of_decide_eq_false q6
  refine awp_condF_ q6 ?_
  refine awp_skip_ (tn_ ?_)
  refine ⟨_, Weak.refl _, ?_⟩
  refine awp_seqv_ ?_
  obtain ⟨y9, h9, h⟩ := ob_some h
  refine awp_region_ 15 ?_
  refine rs0 (.box (oi 2 1) 2) (by kernel_rfl) ?_
  refine rsl (.tree .int a0_2) (by kernel_rfl) ?_
  refine rs0 (ai y3) (by kernel_rfl) ?_
  refine rcall (ai y9) [] [(.tree .int a0_2), (ai y3)] _ (caps := []) (args0 := [(.tree .int a0_2), (ai y3)]) trivial (by kernel_rfl) (ok_laws_heldIntS h9) hb_laws_heldIntS ?_
  refine rsB 1 ?_
  refine rnil (tn_ ?_)
  refine ⟨_, Weak.refl _, ?_⟩
  refine awp_seqv_ ?_
  refine seqR ?_
  rcases cond_some h with ⟨q12, h⟩ | ⟨q12, h⟩
  · have q12_ := of_decide_eq_true q12
    refine awp_condT_ q12 ?_
    refine seqR ?_
    refine awp_ret_ (tr_ ?_)
    obtain rfl := Option.some.inj h
    exact ret_ [(ai (-1))] (p_one rfl (l_sc (by kernel_rfl)) p_nil)
  have q12_ := of_decide_eq_false q12
  refine awp_condF_ q12 ?_
  refine awp_skip_ (tn_ ?_)
  refine ⟨_, Weak.refl _, ?_⟩
  refine awp_seqv_ ?_
  obtain ⟨y15, h15, h⟩ := ob_some h
  refine awp_region_ 22 ?_
  refine rs0 (.box (oi 2 1) 3) (by kernel_rfl) ?_
  refine rsl (.tree .int a0_3) (by kernel_rfl) ?_
  refine rs0 (ai y9) (by kernel_rfl) ?_
  refine rcall (ai y15) [] [(.tree .int a0_3), (ai y9)] _ (caps := []) (args0 := [(.tree .int a0_3), (ai y9)]) trivial (by kernel_rfl) (ok_laws_heldIntS h15) hb_laws_heldIntS ?_
  refine rsB 1 ?_
  refine rnil (tn_ ?_)
  refine ⟨_, Weak.refl _, ?_⟩
  refine awp_seqv_ ?_
  refine seqR ?_
  rcases cond_some h with ⟨q18, h⟩ | ⟨q18, h⟩
  · have q18_ := of_decide_eq_true q18
    refine awp_condT_ q18 ?_
    refine seqR ?_
    refine awp_ret_ (tr_ ?_)
    obtain rfl := Option.some.inj h
    exact ret_ [(ai (-1))] (p_one rfl (l_sc (by kernel_rfl)) p_nil)
  have q18_ := of_decide_eq_false q18
  refine awp_condF_ q18 ?_
  refine awp_skip_ (tn_ ?_)
  refine ⟨_, Weak.refl _, ?_⟩
  refine seqR ?_
  refine awp_ret_ ?_
  obtain rfl := Option.some.inj h
  exact ret_ [(ai y15)] (p_one rfl (l_sc (by kernel_rfl)) p_nil)
end Go.Proofs.YtefolocdfgelcaaDoor
