/- Lemmas on the program and on partial functions that stand in place of its code (part 5); no condition beyond those that each one states. -/
import Derived.Test.YtbdkmfmhlmnlmaaDoorZ4
namespace Go.Proofs.YtbdkmfmhlmnlmaaDoor
open Go.RowKit Go.Deep
set_option maxRecDepth 4000
def m_laws_szGateS : AC :=
 (.seq (rg [xo 4 (qm (ci 0))])
 (.seq (rg [xo 5 (qm (tm 1)), xo 6 (qm (tm 0)), xo 7 (.i (.len (tm 6))), xo 8 (qb .sub (tm 5) (tm 7)), xo 1 (qm (tm 8))])
 (.seq (.seq (rg [xo 9 (qm (tm 1)), xo 10 (qb .lss (tm 9) (ci 0))])
 (.cond (tm 10)
  (.seq (rg [xo 4 (qm (ci (-1)))])
  .ret)
  .skip))
 (.seq (rg [xo 11 (qm (tm 1)), xo 4 (qm (tm 11))])
 .ret))))
def r_laws_szGateS : List Res := [.tmp 4]
theorem c_laws_szGateS : compiled Tryd.prog Tryd.f13 = some (m_laws_szGateS, r_laws_szGateS) := by kernel_rfl
def L_laws_szGateS (a0 : List (Int × Int × Int × Int)) (a1 : Int) : Option Int :=
 cond (decide (IntKind.i64.wrap (a1 - ((a0.length : Nat) : Int)) < 0))
 (some (-1))
 (some (IntKind.i64.wrap (a1 - ((a0.length : Nat) : Int))))
def rv_laws_szGateS (r : Int) : RV := ⟨false, [(false, [.sc (.int .i64 r)])]⟩
theorem ok_laws_szGateS {a0 : List (Int × Int × Int × Int)} {a1 : Int} {r : Int} (h : L_laws_szGateS a0 a1 = some r) : CallOK Tryd.prog Tab 13 [(.tree T4 a0), (ai a1)] (rv_laws_szGateS r) := by
 refine call_of_ (by kernel_rfl) Tryd.func13 c_laws_szGateS (n := 12) (by kernel_rfl) (by simp) (tl := [(0, (.tree T4 a0)), (1, (ai a1))]) rfl ?_
 unfold m_laws_szGateS
 unfold L_laws_szGateS at h
 refine seqR ?_
 refine seqR ?_
 refine awp_seqv_ ?_
 refine seqR ?_
 rcases cond_some h with ⟨q5, h⟩ | ⟨q5, h⟩
 ·have q5_ := of_decide_eq_true q5
  refine awp_condT_ q5 ?_
  refine seqR ?_
  refine awp_ret_ (tr_ ?_)
  obtain rfl := zj h
  exact ret_ [(ai (-1))] (p_one rfl zl p_nil)
 have q5_ := of_decide_eq_false q5
 refine awp_condF_ q5 ?_
 refine awp_skip_ (tn_ ?_)
 refine wr_ ?_
 refine seqR ?_
 refine awp_ret_ ?_
 obtain rfl := zj h
 exact ret_ [(ai (IntKind.i64.wrap (a1 - ((a0.length : Nat) : Int))))] (p_one rfl zl p_nil)
def m_laws_szCircuit : AC :=
 (.seq (rg [xo 2 (.i (.box 25 (tm 0))), xo 4 (qm (ci 0))])
 (.seq (rg [xo 5 (qf 1 (tm 2)), xo 6 (ql (tm 5)), xo 7 (qm (tm 1)), ⟨(some 8), none, (qc 13 [(tm 6), (tm 7)] [[(some T4)], []])⟩, xo 1 (qm (tm 8))])
 (.seq (.seq (rg [xo 9 (qm (tm 1)), xo 10 (qb .lss (tm 9) (ci 0))])
 (.cond (tm 10)
  (.seq (rg [xo 4 (qm (ci (-1)))])
  .ret)
  .skip))
 (.seq (rg [xo 11 (qf 2 (tm 2)), xo 12 (ql (tm 11)), xo 13 (qm (tm 1)), xo 14 (qc 14 [(tm 12), (tm 13)] [[(some .int)], []]), xo 1 (qm (tm 14))])
 (.seq (.seq (rg [xo 15 (qm (tm 1)), xo 16 (qb .lss (tm 15) (ci 0))])
 (.cond (tm 16)
  (.seq (rg [xo 4 (qm (ci (-1)))])
  .ret)
  .skip))
 (.seq (rg [xo 17 (qm (tm 1)), xo 4 (qm (tm 17))])
 .ret))))))
def r_laws_szCircuit : List Res := [.tmp 4]
theorem c_laws_szCircuit : compiled Tryd.prog Tryd.f4 = some (m_laws_szCircuit, r_laws_szCircuit) := by kernel_rfl
def L_laws_szCircuit (a0_0 : Int) (a0_1 : List (Int × Int × Int × Int)) (a0_2 : List Int) (a1 : Int) : Option Int :=
 Option.bind (L_laws_szGateS a0_1 a1) fun y3 =>
cond (decide (y3 < 0))
 (some (-1))
 (Option.bind (L_laws_szIntS a0_2 y3) fun y9 =>
 cond (decide (y9 < 0))
  (some (-1))
  (some y9))
def rv_laws_szCircuit (r : Int) : RV := ⟨false, [(false, [.sc (.int .i64 r)])]⟩
theorem ok_laws_szCircuit {a0_0 : Int} {a0_1 : List (Int × Int × Int × Int)} {a0_2 : List Int} {a1 : Int} {r : Int} (h : L_laws_szCircuit a0_0 a0_1 a0_2 a1 = some r) : CallOK Tryd.prog Tab 4 [(.agg [(ai a0_0), (.tree T4 a0_1), (.tree .int a0_2)]), (ai a1)] (rv_laws_szCircuit r) := by
 refine call_of_ (by kernel_rfl) Tryd.func4 c_laws_szCircuit (n := 18) (by kernel_rfl) (by simp) (tl := [(0, (.agg [(ai a0_0), (.tree T4 a0_1), (.tree .int a0_2)])), (1, (ai a1))]) rfl ?_
 unfold m_laws_szCircuit
 unfold L_laws_szCircuit at h
 refine seqR ?_
 refine awp_seqv_ ?_
 obtain ⟨y3, h3, h⟩ := ob_some h
 refine awp_region_ 8 ?_
 refine rz0 (.box (oi 2 1) 1) ?_
 refine rzl (.tree T4 a0_1) ?_
 refine rz0 (ai a1) ?_
 refine zc (ai y3) [] [(.tree T4 a0_1), (ai a1)] (ok_laws_szGateS h3) ?_
 refine rsB 1 ?_
 refine rnil (tn_ ?_)
 refine wr_ ?_
 refine awp_seqv_ ?_
 refine seqR ?_
 rcases cond_some h with ⟨q6, h⟩ | ⟨q6, h⟩
 ·have q6_ := of_decide_eq_true q6
  refine awp_condT_ q6 ?_
  refine seqR ?_
  refine awp_ret_ (tr_ ?_)
  obtain rfl := zj h
  exact ret_ [(ai (-1))] (p_one rfl zl p_nil)
 have q6_ := of_decide_eq_false q6
 refine awp_condF_ q6 ?_
 refine awp_skip_ (tn_ ?_)
 refine wr_ ?_
 refine awp_seqv_ ?_
 obtain ⟨y9, h9, h⟩ := ob_some h
 refine awp_region_ 15 ?_
 refine rz0 (.box (oi 2 1) 2) ?_
 refine rzl (.tree .int a0_2) ?_
 refine rz0 (ai y3) ?_
 refine zc (ai y9) [] [(.tree .int a0_2), (ai y3)] (ok_laws_szIntS h9) ?_
 refine rsB 1 ?_
 refine rnil (tn_ ?_)
 refine wr_ ?_
 refine awp_seqv_ ?_
 refine seqR ?_
 rcases cond_some h with ⟨q12, h⟩ | ⟨q12, h⟩
 ·have q12_ := of_decide_eq_true q12
  refine awp_condT_ q12 ?_
  refine seqR ?_
  refine awp_ret_ (tr_ ?_)
  obtain rfl := zj h
  exact ret_ [(ai (-1))] (p_one rfl zl p_nil)
 have q12_ := of_decide_eq_false q12
 refine awp_condF_ q12 ?_
 refine awp_skip_ (tn_ ?_)
 refine wr_ ?_
 refine seqR ?_
 refine awp_ret_ ?_
 obtain rfl := zj h
 exact ret_ [(ai y9)] (p_one rfl zl p_nil)
def m_laws_toGate : AC :=
 (.seq (rg [xo 1 (.i (.box 70 (tm 0))), xo 2 (.i (.alloc 58 [(.int .i64 0), (.int .i64 0), (.int .i64 0), (.int .i64 0)]))])
 (.seq (rg [xo 3 (.i (.alloc 58 [(.int .i64 0), (.int .i64 0), (.int .i64 0), (.int .i64 0)]))])
 (.seq (rg [xo 4 (qf 0 (tm 1)), xo 5 (ql (tm 4)), xo 6 (qf 0 (tm 3)), xn (qs (tm 6) (tm 5))])
 (.seq (rg [xo 7 (qf 1 (tm 1)), xo 8 (ql (tm 7)), xo 9 (qf 1 (tm 3)), xn (qs (tm 9) (tm 8))])
 (.seq (rg [xo 10 (qf 2 (tm 1)), xo 11 (ql (tm 10)), xo 12 (qf 2 (tm 3)), xn (qs (tm 12) (tm 11))])
 (.seq (rg [xo 13 (qf 3 (tm 1)), xo 14 (ql (tm 13)), xo 15 (qf 3 (tm 3)), xn (qs (tm 15) (tm 14))])
 (.seq (rg [xo 16 (.i (.ld false 4 (tm 3))), xn (.st false 4 (tm 2) (tm 16))])
 .ret)))))))
def r_laws_toGate : List Res := [.cell 2 false 4]
theorem c_laws_toGate : compiled Tryd.prog Tryd.f41 = some (m_laws_toGate, r_laws_toGate) := by kernel_rfl
def L_laws_toGate (a0_0 : Int) (a0_1 : Int) (a0_2 : Int) (a0_3 : Int) : Option (Int × Int × Int × Int) :=
 some (a0_0, a0_1, a0_2, a0_3)
def rv_laws_toGate (r : Int × Int × Int × Int) : RV := ⟨false, [(true, [.sc (.int .i64 r.1), .sc (.int .i64 r.2.1), .sc (.int .i64 r.2.2.1), .sc (.int .i64 r.2.2.2)])]⟩
theorem ok_laws_toGate {a0_0 : Int} {a0_1 : Int} {a0_2 : Int} {a0_3 : Int} {r : Int × Int × Int × Int} (h : L_laws_toGate a0_0 a0_1 a0_2 a0_3 = some r) : CallOK Tryd.prog Tab 41 [(.agg [(ai a0_0), (ai a0_1), (ai a0_2), (ai a0_3)])] (rv_laws_toGate r) := by
 refine call_of_ (by kernel_rfl) Tryd.func41 c_laws_toGate (n := 17) (by kernel_rfl) (by simp) (tl := [(0, (.agg [(ai a0_0), (ai a0_1), (ai a0_2), (ai a0_3)]))]) rfl ?_
 unfold m_laws_toGate
 unfold L_laws_toGate at h
 refine seqR ?_
 refine seqR ?_
 refine seqR ?_
 refine seqR ?_
 refine seqR ?_
 refine seqR ?_
 refine seqR ?_
 refine awp_ret_ ?_
 obtain rfl := zj h
 exact ret_ [(.agg [(ai a0_0), (ai a0_1), (ai a0_2), (ai a0_3)])] (p_agg (l_cons zl (l_cons zl (l_cons zl (l_cons zl l_nil)))) p_nil)
def m_laws_toGateS_l1 : AC :=
 (.seq (.seq (rg [xo 8 (qm (tm 4)), xo 9 (qm (tm 0)), xo 10 (.i (.len (tm 9))), xo 11 (qb .lss (tm 8) (tm 10))])
 (.cond (tm 11)
  .skip
  (.exit 0)))
 (.seq (.block 1 (rg [xo 14 (qm (tm 3)), xo 15 (qm (tm 4)), xo 16 (qm (tm 0)), xo 17 (qm (tm 4)), xo 18 (qx 4 (tm 16) (tm 17)), xo 19 (.i (.ld false 4 (tm 18))), xo 20 (qc 41 [(tm 19)] [[none, none, none, none]]), xo 21 (qx 4 (tm 14) (tm 15)), xn (.st false 4 (tm 21) (tm 20))]))
 (rg [xo 12 (qm (tm 4)), xo 13 (qb .add (tm 12) (ci 1)), xo 4 (qm (tm 13))])))
def m_laws_toGateS : AC :=
 (.seq (rg [xo 2 (qm (.cst .nils))])
 (.seq (rg [xo 5 (qm (tm 0)), xo 6 (.i (.len (tm 5))), ⟨(some 7), none, (.make 58 T4 32 (tm 6) (tm 6))⟩, xo 3 (qm (tm 7))])
 (.seq (.seq (rg [xo 4 (qm (ci 0))])
 (.block 0 (.loop m_laws_toGateS_l1)))
 (.seq (rg [xo 22 (qm (tm 3)), xo 2 (qm (tm 22))])
 .ret))))
def r_laws_toGateS : List Res := [.tmp 2]
theorem c_laws_toGateS : compiled Tryd.prog Tryd.f18 = some (m_laws_toGateS, r_laws_toGateS) := by kernel_rfl
def L_laws_toGateS_l1 (a0 : List (Int × Int × Int × Int)) (l6_m4 : Nat) (l6_m3 : List (Int × Int × Int × Int)) : Option (Ctl (Nat × (List (Int × Int × Int × Int))) (List (Int × Int × Int × Int))) :=
 cond (decide (((l6_m4 : Nat) : Int) < ((a0.length : Nat) : Int)))
 (Option.bind (a0[l6_m4]?) fun x11 =>
 Option.bind (L_laws_toGate x11.1 x11.2.1 x11.2.2.1 x11.2.2.2) fun y12 =>
 Option.bind (l6_m3[l6_m4]?) fun x13 =>
 og (l6_m4 + 1 < 4611686018427387904) <|
 some (Ctl.next (l6_m4 + 1, l6_m3.set l6_m4 y12)))
 (some (Ctl.out l6_m3))
def L_laws_toGateS (a0 : List (Int × Int × Int × Int)) : Option (List (Int × Int × Int × Int)) :=
 og (0 <= ((a0.length : Nat) : Int) ∧ ((a0.length : Nat) : Int) <= ((a0.length : Nat) : Int) ∧ ((a0.length : Nat) : Int) <= 1073741824 ∧ (32 : Int) * ((a0.length : Nat) : Int) <= 140737488355328) <|
Option.bind (loopM (fun s_ : Nat × (List (Int × Int × Int × Int)) => L_laws_toGateS_l1 a0 s_.1 s_.2) 4611686018427387904 (0, List.replicate a0.length ((0, 0, 0, 0) : Int × Int × Int × Int))) fun l4_m3 =>
some l4_m3
def rv_laws_toGateS (r : List (Int × Int × Int × Int)) : RV := ⟨false, [(false, [.new 58 T4 r])]⟩
theorem ok_laws_toGateS {a0 : List (Int × Int × Int × Int)} {r : List (Int × Int × Int × Int)} (h : L_laws_toGateS a0 = some r) : CallOK Tryd.prog Tab 18 [(.tree T4 a0)] (rv_laws_toGateS r) := by
 refine call_of_ (by kernel_rfl) Tryd.func18 c_laws_toGateS (n := 23) (by kernel_rfl) (by simp) (tl := [(0, (.tree T4 a0))]) rfl ?_
 unfold m_laws_toGateS
 unfold L_laws_toGateS at h
 refine seqR ?_
 refine awp_seqv_ ?_
 obtain ⟨g3, h⟩ := og_some h
 refine awp_region_ 6 ?_
 refine rz0 (.tree T4 a0) ?_
 refine rz0 (ai ((a0.length : Nat) : Int)) ?_
 refine rs1 (.own (oi 7 4) T4 0 a0.length) (oi 7 4) (.arr 58 T4 (List.replicate a0.length ((0, 0, 0, 0) : Int × Int × Int × Int))) (s_make (t := T4) (k := .i64) (k' := .i64) (m := ((a0.length : Nat) : Int)) (m' := ((a0.length : Nat) : Int)) (by kernel_rfl) (by kernel_rfl) g3 rfl) ?_
 refine rsB 1 ?_
 refine rnil (tn_ ?_)
 refine wr_ ?_
 refine awp_seqB h (fun (l4_m3 : List (Int × Int × Int × Int)) S_ => S_ = ⟨mkTm [(3, (.own (oi 0 1) T4 0 l4_m3.length))], mkOb (someL [((oi 0 1), .arr 58 T4 l4_m3)]), 2⟩) ?_ ?_
 ·intro v_ h
  refine seqR ?_
  refine awp_block_ ?_
  refine awp_loopL h (fun t_ S_ => ∃ (l6_m4 : Nat), ∃ (l6_m3 : List (Int × Int × Int × Int)), t_ = (l6_m4, l6_m3) ∧ S_ = ⟨mkTm [(0, (.tree T4 a0)), (3, (.own (oi 0 1) T4 0 l6_m3.length)), (4, (ai ((l6_m4 : Nat) : Int)))], mkOb (someL [((oi 0 1), .arr 58 T4 l6_m3)]), 2⟩) ⟨_, ((weak_tm_ 3 (.own (oi 7 4) T4 0 a0.length) (.own (oi 7 4) T4 0 ((List.replicate a0.length ((0, 0, 0, 0) : Int × Int × Int × Int)).length)) (by kernel_rfl) (congrArg (fun z_ => ((.own (oi 7 4) T4 0 z_) : AV)) (List.length_replicate.symm : a0.length = (List.replicate a0.length ((0, 0, 0, 0) : Int × Int × Int × Int)).length))).trans (weak_ren [((oi 0 1), (oi 7 4))])), ⟨0, List.replicate a0.length ((0, 0, 0, 0) : Int × Int × Int × Int), rfl, rfl⟩⟩ ?_
  rintro n_ _ _ c_ ⟨l6_m4, l6_m3, rfl, rfl⟩ h hn6
  (try dsimp only at h)
  unfold L_laws_toGateS_l1 at h
  unfold m_laws_toGateS_l1
  refine awp_seqv_ ?_
  refine seqR ?_
  rcases cond_some h with ⟨q9, h⟩ | ⟨q9, h⟩
  ·have q9_ := of_decide_eq_true q9
   refine awp_condT_ q9 ?_
   refine awp_skip_ (tn_ ?_)
   refine wr_ ?_
   refine awp_seqv_ ?_
   refine awp_block_ ?_
   obtain ⟨x11, e11, h⟩ := ob_some h
   obtain ⟨y12, h12, h⟩ := ob_some h
   obtain ⟨x13, e13, h⟩ := ob_some h
   refine awp_region_ 15 ?_
   refine rz0 (.own (oi 0 1) T4 0 l6_m3.length) ?_
   refine rz0 (ai ((l6_m4 : Nat) : Int)) ?_
   refine rz0 (.tree T4 a0) ?_
   refine rz0 (ai ((l6_m4 : Nat) : Int)) ?_
   refine rs0 (.telt T4 x11 0) (zi (t := T4) (xs := a0) (k := .i64) (m := ((l6_m4 : Nat) : Int)) (nat_nn _) e11) ?_
   refine rz0 (.agg [(ai x11.1), (ai x11.2.1), (ai x11.2.2.1), (ai x11.2.2.2)]) ?_
   refine zc (.agg [(ai y12.1), (ai y12.2.1), (ai y12.2.2.1), (ai y12.2.2.2)]) [] [(.agg [(ai x11.1), (ai x11.2.1), (ai x11.2.2.1), (ai x11.2.2.2)])] (ok_laws_toGate h12) ?_
   refine rs0 (.elt (oi 0 1) l6_m4 0) (zo (t := T4) (o := (oi 0 1)) (len := l6_m3.length) (k := .i64) (m := ((l6_m4 : Nat) : Int)) (nat_nn _) (getN_lt e13)) ?_
   refine rsn2 (oi 0 1) (oi 0 1) (.arr 58 T4 (l6_m3.set l6_m4 y12)) (s_stE (i := (oi 0 1)) (j := l6_m4) (k := 0) (e := 58) (t := T4) (xs := l6_m3) (cs := [(ai y12.1), (ai y12.2.1), (ai y12.2.2.1), (ai y12.2.2.2)]) (x1 := y12) (by kernel_rfl) (by kernel_rfl) e13 (by kernel_rfl) (by kernel_rfl)) ?_
   refine rnil (bn_ (tn_ ?_))
   refine wr_ ?_
   obtain ⟨g14, h⟩ := og_some h
   refine awp_region_ 18 ?_
   refine rz0 (ai ((l6_m4 : Nat) : Int)) ?_
   refine rs0 (ai ((l6_m4 + 1 : Nat) : Int)) (za g14) ?_
   refine rsB 1 ?_
   refine rnil (tn_ ?_)
   obtain rfl := zj h
   exact ⟨(l6_m4 + 1, l6_m3.set l6_m4 y12), _, ((weak_tm_ 3 (.own (oi 0 1) T4 0 l6_m3.length) (.own (oi 0 1) T4 0 ((l6_m3.set l6_m4 y12).length)) (by kernel_rfl) (congrArg (fun z_ => ((.own (oi 0 1) T4 0 z_) : AV)) (((rfl : l6_m3.length = l6_m3.length).trans List.length_set.symm) : l6_m3.length = (l6_m3.set l6_m4 y12).length))).trans (weak_ren [])), ⟨l6_m4 + 1, l6_m3.set l6_m4 y12, rfl, rfl⟩, hn6⟩
  have q9_ := of_decide_eq_false q9
  refine awp_condF_ q9 ?_
  refine awp_exit_ (te_ (te_ (be_ (tn_ ?_))))
  obtain rfl := zj h
  have h := hn6
  (try dsimp only at h)
  obtain rfl := zj h
  exact ⟨_, (weak_ren []), rfl⟩
 rintro l4_m3 _ rfl h
 (try dsimp only at h)
 refine seqR ?_
 refine awp_ret_ ?_
 obtain rfl := zj h
 exact ret_ [(.own (oi 0 1) T4 0 l4_m3.length)] (p_one rfl (l_own (by kernel_rfl) rfl) p_nil)
def m_laws_toCircuit : AC :=
 (.seq (rg [xo 1 (.i (.box 25 (tm 0))), xo 2 (.i (.alloc 34 [(.int .i64 0), .nils, .nils]))])
 (.seq (rg [xo 3 (.i (.alloc 34 [(.int .i64 0), .nils, .nils]))])
 (.seq (rg [xo 4 (qf 0 (tm 1)), xo 5 (ql (tm 4)), xo 6 (qf 0 (tm 3)), xn (qs (tm 6) (tm 5))])
 (.seq (rg [xo 7 (qf 1 (tm 1)), xo 8 (ql (tm 7)), ⟨(some 9), none, (qc 18 [(tm 8)] [[(some T4)]])⟩, xo 10 (qf 1 (tm 3)), xn (qs (tm 10) (tm 9))])
 (.seq (rg [xo 11 (qf 2 (tm 1)), xo 12 (ql (tm 11)), xo 13 (qc 19 [(tm 12)] [[(some .int)]]), xo 14 (qf 2 (tm 3)), xn (qs (tm 14) (tm 13))])
 (.seq (rg [xo 15 (.i (.ld false 3 (tm 3))), xn (.st false 3 (tm 2) (tm 15))])
 .ret))))))
def r_laws_toCircuit : List Res := [.cell 2 false 3]
theorem c_laws_toCircuit : compiled Tryd.prog Tryd.f6 = some (m_laws_toCircuit, r_laws_toCircuit) := by kernel_rfl
theorem hb_laws_toCircuit : hasBody Tryd.prog 6 = true := by kernel_rfl
def L_laws_toCircuit (a0_0 : Int) (a0_1 : List (Int × Int × Int × Int)) (a0_2 : List Int) : Option (Int × (List (Int × Int × Int × Int)) × List Int) :=
 Option.bind (L_laws_toGateS a0_1) fun y5 =>
Option.bind (L_laws_toIntS a0_2) fun y7 =>
some (a0_0, y5, y7)
def rv_laws_toCircuit (r : Int × (List (Int × Int × Int × Int)) × List Int) : RV := ⟨false, [(true, [.sc (.int .i64 r.1), .new 58 T4 r.2.1, .new 3 .int r.2.2])]⟩
theorem ok_laws_toCircuit {a0_0 : Int} {a0_1 : List (Int × Int × Int × Int)} {a0_2 : List Int} {r : Int × (List (Int × Int × Int × Int)) × List Int} (h : L_laws_toCircuit a0_0 a0_1 a0_2 = some r) : CallOK Tryd.prog Tab 6 [(.agg [(ai a0_0), (.tree T4 a0_1), (.tree .int a0_2)])] (rv_laws_toCircuit r) := by
 refine call_of_ (by kernel_rfl) Tryd.func6 c_laws_toCircuit (n := 16) (by kernel_rfl) (by simp) (tl := [(0, (.agg [(ai a0_0), (.tree T4 a0_1), (.tree .int a0_2)]))]) rfl ?_
 unfold m_laws_toCircuit
 unfold L_laws_toCircuit at h
 refine seqR ?_
 refine seqR ?_
 refine seqR ?_
 refine awp_seqv_ ?_
 obtain ⟨y5, h5, h⟩ := ob_some h
 refine awp_region_ 13 ?_
 refine rz0 (.box (oi 1 1) 1) ?_
 refine rzl (.tree T4 a0_1) ?_
 refine zc (.own (oi 144 10) T4 0 y5.length) [((oi 144 10), some (.arr 58 T4 y5))] [(.tree T4 a0_1)] (ok_laws_toGateS h5) ?_
 refine rsB 2 ?_
 refine rnil (tn_ ?_)
 refine wr_ ?_
 refine awp_seqv_ ?_
 obtain ⟨y7, h7, h⟩ := ob_some h
 refine awp_region_ 18 ?_
 refine rz0 (.box (oi 1 1) 2) ?_
 refine rzl (.tree .int a0_2) ?_
 refine zc (.own (oi 208 15) .int 0 y7.length) [((oi 208 15), some (.arr 3 .int y7))] [(.tree .int a0_2)] (ok_laws_toIntS h7) ?_
 refine rsB 2 ?_
 refine rnil (tn_ ?_)
 refine wr_ ?_
 refine seqR ?_
 refine awp_ret_ ?_
 obtain rfl := zj h
 exact ret_ [(.agg [(ai a0_0), (.own (oi 144 10) T4 0 y5.length), (.own (oi 208 15) .int 0 y7.length)])] (p_agg (l_cons zl (l_cons (l_own (by kernel_rfl) rfl) (l_cons (l_own (by kernel_rfl) rfl) l_nil))) p_nil)
def m_laws_eqGate : AC :=
 (.seq (rg [xo 2 (.i (.box 58 (tm 0))), xo 3 (.i (.box 58 (tm 1))), xo 4 (qm (cb false))])
 (.seq (.seq (rg [xo 5 (qf 0 (tm 2)), xo 6 (ql (tm 5)), xo 7 (qf 0 (tm 3)), xo 8 (ql (tm 7)), xo 9 (qb .neq (tm 6) (tm 8))])
 (.cond (tm 9)
  (.seq (rg [xo 4 (qm (cb false))])
  .ret)
  .skip))
 (.seq (.seq (rg [xo 10 (qf 1 (tm 2)), xo 11 (ql (tm 10)), xo 12 (qf 1 (tm 3)), xo 13 (ql (tm 12)), xo 14 (qb .neq (tm 11) (tm 13))])
 (.cond (tm 14)
  (.seq (rg [xo 4 (qm (cb false))])
  .ret)
  .skip))
 (.seq (.seq (rg [xo 15 (qf 2 (tm 2)), xo 16 (ql (tm 15)), xo 17 (qf 2 (tm 3)), xo 18 (ql (tm 17)), xo 19 (qb .neq (tm 16) (tm 18))])
 (.cond (tm 19)
  (.seq (rg [xo 4 (qm (cb false))])
  .ret)
  .skip))
 (.seq (.seq (rg [xo 20 (qf 3 (tm 2)), xo 21 (ql (tm 20)), xo 22 (qf 3 (tm 3)), xo 23 (ql (tm 22)), xo 24 (qb .neq (tm 21) (tm 23))])
 (.cond (tm 24)
  (.seq (rg [xo 4 (qm (cb false))])
  .ret)
  .skip))
 (.seq (rg [xo 4 (qm (cb true))])
 .ret))))))
def r_laws_eqGate : List Res := [.tmp 4]
theorem c_laws_eqGate : compiled Tryd.prog Tryd.f55 = some (m_laws_eqGate, r_laws_eqGate) := by kernel_rfl
theorem hb_laws_eqGate : hasBody Tryd.prog 55 = true := by kernel_rfl
def L_laws_eqGate (a0_0 : Int) (a0_1 : Int) (a0_2 : Int) (a0_3 : Int) (a1_0 : Int) (a1_1 : Int) (a1_2 : Int) (a1_3 : Int) : Option Bool :=
 cond (a0_0 != a1_0)
 (some false)
 (cond (a0_1 != a1_1)
  (some false)
  (cond (a0_2 != a1_2)
   (some false)
   (cond (a0_3 != a1_3)
    (some false)
    (some true))))
def rv_laws_eqGate (r : Bool) : RV := ⟨false, [(false, [.sc (.bool r)])]⟩
theorem ok_laws_eqGate {a0_0 : Int} {a0_1 : Int} {a0_2 : Int} {a0_3 : Int} {a1_0 : Int} {a1_1 : Int} {a1_2 : Int} {a1_3 : Int} {r : Bool} (h : L_laws_eqGate a0_0 a0_1 a0_2 a0_3 a1_0 a1_1 a1_2 a1_3 = some r) : CallOK Tryd.prog Tab 55 [(.agg [(ai a0_0), (ai a0_1), (ai a0_2), (ai a0_3)]), (.agg [(ai a1_0), (ai a1_1), (ai a1_2), (ai a1_3)])] (rv_laws_eqGate r) := by
 refine call_of_ (by kernel_rfl) Tryd.func55 c_laws_eqGate (n := 25) (by kernel_rfl) (by simp) (tl := [(0, (.agg [(ai a0_0), (ai a0_1), (ai a0_2), (ai a0_3)])), (1, (.agg [(ai a1_0), (ai a1_1), (ai a1_2), (ai a1_3)]))]) rfl ?_
 unfold m_laws_eqGate
 unfold L_laws_eqGate at h
 refine seqR ?_
 refine awp_seqv_ ?_
 refine seqR ?_
 rcases cond_some h with ⟨q4, h⟩ | ⟨q4, h⟩
 ·refine awp_condT_ q4 ?_
  refine seqR ?_
  refine awp_ret_ (tr_ ?_)
  obtain rfl := zj h
  exact ret_ [(.bool false)] (p_one rfl zl p_nil)
 refine awp_condF_ q4 ?_
 refine awp_skip_ (tn_ ?_)
 refine wr_ ?_
 refine awp_seqv_ ?_
 refine seqR ?_
 rcases cond_some h with ⟨q8, h⟩ | ⟨q8, h⟩
 ·refine awp_condT_ q8 ?_
  refine seqR ?_
  refine awp_ret_ (tr_ ?_)
  obtain rfl := zj h
  exact ret_ [(.bool false)] (p_one rfl zl p_nil)
 refine awp_condF_ q8 ?_
 refine awp_skip_ (tn_ ?_)
 refine wr_ ?_
 refine awp_seqv_ ?_
 refine seqR ?_
 rcases cond_some h with ⟨q12, h⟩ | ⟨q12, h⟩
 ·refine awp_condT_ q12 ?_
  refine seqR ?_
  refine awp_ret_ (tr_ ?_)
  obtain rfl := zj h
  exact ret_ [(.bool false)] (p_one rfl zl p_nil)
 refine awp_condF_ q12 ?_
 refine awp_skip_ (tn_ ?_)
 refine wr_ ?_
 refine awp_seqv_ ?_
 refine seqR ?_
 rcases cond_some h with ⟨q16, h⟩ | ⟨q16, h⟩
 ·refine awp_condT_ q16 ?_
  refine seqR ?_
  refine awp_ret_ (tr_ ?_)
  obtain rfl := zj h
  exact ret_ [(.bool false)] (p_one rfl zl p_nil)
 refine awp_condF_ q16 ?_
 refine awp_skip_ (tn_ ?_)
 refine wr_ ?_
 refine seqR ?_
 refine awp_ret_ ?_
 obtain rfl := zj h
 exact ret_ [(.bool true)] (p_one rfl zl p_nil)
def m_laws_eqGateS_l1 : AC :=
 (.seq (.seq (rg [xo 11 (qm (tm 5)), xo 12 (qm (tm 0)), xo 13 (.i (.len (tm 12))), xo 14 (qb .lss (tm 11) (tm 13))])
 (.cond (tm 14)
  .skip
  (.exit 0)))
 (.seq (.block 1 (.seq (.region [xo 17 (qm (tm 0)), xo 18 (qm (tm 5)), xo 19 (qx 4 (tm 17) (tm 18)), xo 20 (.i (.ld false 4 (tm 19))), xo 21 (qm (tm 1)), xo 22 (qm (tm 5)), xo 23 (qx 4 (tm 21) (tm 22)), xo 24 (.i (.ld false 4 (tm 23))), xo 25 (qc 55 [(tm 20), (tm 24)] [[none, none, none, none], [none, none, none, none]]), xo 26 (.i (.not (tm 25)))] true [])
 (.cond (tm 26)
  (.seq (rg [xo 4 (qm (cb false))])
  .ret)
  .skip)))
 (rg [xo 15 (qm (tm 5)), xo 16 (qb .add (tm 15) (ci 1)), xo 5 (qm (tm 16))])))
def m_laws_eqGateS : AC :=
 (.seq (rg [xo 4 (qm (cb false))])
 (.seq (.seq (rg [xo 6 (qm (tm 0)), xo 7 (.i (.len (tm 6))), xo 8 (qm (tm 1)), xo 9 (.i (.len (tm 8))), xo 10 (qb .neq (tm 7) (tm 9))])
 (.cond (tm 10)
  (.seq (rg [xo 4 (qm (cb false))])
  .ret)
  .skip))
 (.seq (.seq (rg [xo 5 (qm (ci 0))])
 (.block 0 (.loop m_laws_eqGateS_l1)))
 (.seq (rg [xo 4 (qm (cb true))])
 .ret))))
def r_laws_eqGateS : List Res := [.tmp 4]
theorem c_laws_eqGateS : compiled Tryd.prog Tryd.f23 = some (m_laws_eqGateS, r_laws_eqGateS) := by kernel_rfl
def L_laws_eqGateS_l1 (a0 : List (Int × Int × Int × Int)) (a1 : List (Int × Int × Int × Int)) (l8_m5 : Nat) : Option (Ctl Nat (Ctl Unit Bool)) :=
 cond (decide (((l8_m5 : Nat) : Int) < ((a0.length : Nat) : Int)))
 (Option.bind (a0[l8_m5]?) fun x14 =>
 Option.bind (a1[l8_m5]?) fun x15 =>
 Option.bind (L_laws_eqGate x14.1 x14.2.1 x14.2.2.1 x14.2.2.2 x15.1 x15.2.1 x15.2.2.1 x15.2.2.2) fun y16 =>
 cond (!y16)
  (some (Ctl.out (Ctl.out false)))
  (og (l8_m5 + 1 < 4611686018427387904) <|
  some (Ctl.next (l8_m5 + 1))))
 (some (Ctl.out (Ctl.next ())))
def L_laws_eqGateS (a0 : List (Int × Int × Int × Int)) (a1 : List (Int × Int × Int × Int)) : Option Bool :=
 cond (((a0.length : Nat) : Int) != ((a1.length : Nat) : Int))
 (some false)
 (seqC (loopM (fun s_ : Nat => L_laws_eqGateS_l1 a0 a1 s_) 4611686018427387904 0) fun _ =>
 some true)
def rv_laws_eqGateS (r : Bool) : RV := ⟨false, [(false, [.sc (.bool r)])]⟩
theorem ok_laws_eqGateS {a0 : List (Int × Int × Int × Int)} {a1 : List (Int × Int × Int × Int)} {r : Bool} (h : L_laws_eqGateS a0 a1 = some r) : CallOK Tryd.prog Tab 23 [(.tree T4 a0), (.tree T4 a1)] (rv_laws_eqGateS r) := by
 refine call_of_ (by kernel_rfl) Tryd.func23 c_laws_eqGateS (n := 27) (by kernel_rfl) (by simp) (tl := [(0, (.tree T4 a0)), (1, (.tree T4 a1))]) rfl ?_
 unfold m_laws_eqGateS
 unfold L_laws_eqGateS at h
 refine seqR ?_
 refine awp_seqv_ ?_
 refine seqR ?_
 rcases cond_some h with ⟨q4, h⟩ | ⟨q4, h⟩
 ·refine awp_condT_ q4 ?_
  refine seqR ?_
  refine awp_ret_ (tr_ ?_)
  obtain rfl := zj h
  exact ret_ [(.bool false)] (p_one rfl zl p_nil)
 refine awp_condF_ q4 ?_
 refine awp_skip_ (tn_ ?_)
 refine wr_ ?_
 refine awp_seqC h (fun (_ : Unit) S_ => S_ = ⟨mkTm [], mkOb (someL []), 2⟩) ?_ ?_
 ·intro v_ h hk6
  refine seqR ?_
  refine awp_block_ ?_
  refine awp_loopL h (fun (l8_m5 : Nat) S_ => S_ = ⟨mkTm [(0, (.tree T4 a0)), (1, (.tree T4 a1)), (5, (ai ((l8_m5 : Nat) : Int)))], mkOb (someL []), 2⟩) ⟨_, (weak_ren []), rfl⟩ ?_
  rintro n_ l8_m5 _ c_ rfl h hn8
  (try dsimp only at h)
  unfold L_laws_eqGateS_l1 at h
  unfold m_laws_eqGateS_l1
  refine awp_seqv_ ?_
  refine seqR ?_
  rcases cond_some h with ⟨q11, h⟩ | ⟨q11, h⟩
  ·have q11_ := of_decide_eq_true q11
   refine awp_condT_ q11 ?_
   refine awp_skip_ (tn_ ?_)
   refine wr_ ?_
   refine awp_seqv_ ?_
   refine awp_block_ ?_
   refine awp_seqv_ ?_
   obtain ⟨x14, e14, h⟩ := ob_some h
   obtain ⟨x15, e15, h⟩ := ob_some h
   obtain ⟨y16, h16, h⟩ := ob_some h
   refine awp_regionD_ 16 ?_
   refine dz0 (.tree T4 a0) ?_
   refine dz0 (ai ((l8_m5 : Nat) : Int)) ?_
   refine ds0 (.telt T4 x14 0) (zi (t := T4) (xs := a0) (k := .i64) (m := ((l8_m5 : Nat) : Int)) (nat_nn _) e14) ?_
   refine dz0 (.agg [(ai x14.1), (ai x14.2.1), (ai x14.2.2.1), (ai x14.2.2.2)]) ?_
   refine dz0 (.tree T4 a1) ?_
   refine dz0 (ai ((l8_m5 : Nat) : Int)) ?_
   refine ds0 (.telt T4 x15 0) (zi (t := T4) (xs := a1) (k := .i64) (m := ((l8_m5 : Nat) : Int)) (nat_nn _) e15) ?_
   refine dz0 (.agg [(ai x15.1), (ai x15.2.1), (ai x15.2.2.1), (ai x15.2.2.2)]) ?_
   refine dcall (.bool y16) [] [(.agg [(ai x14.1), (ai x14.2.1), (ai x14.2.2.1), (ai x14.2.2.2)]), (.agg [(ai x15.1), (ai x15.2.1), (ai x15.2.2.1), (ai x15.2.2.2)])] _ (caps := []) (args0 := [(.agg [(ai x14.1), (ai x14.2.1), (ai x14.2.2.1), (ai x14.2.2.2)]), (.agg [(ai x15.1), (ai x15.2.1), (ai x15.2.2.1), (ai x15.2.2.2)])]) trivial (by kernel_rfl) (ok_laws_eqGate h16) hb_laws_eqGate ?_
   refine dz0 (.bool (!y16)) ?_
   refine dnil (badB_spec (by kernel_rfl)) (tn_ ?_)
   refine wr_ ?_
   rcases cond_some h with ⟨q17, h⟩ | ⟨q17, h⟩
   ·refine awp_condT_ q17 ?_
    refine seqR ?_
    refine awp_ret_ (br_ (tr_ (tr_ (br_ (tr_ ?_)))))
    obtain rfl := zj h
    have h := hn8
    (try dsimp only at h)
    obtain rfl := zj h
    have h := hk6
    (try dsimp only at h)
    obtain rfl := zj h
    exact ret_ [(.bool false)] (p_one rfl zl p_nil)
   refine awp_condF_ q17 ?_
   refine awp_skip_ (bn_ (tn_ ?_))
   refine wr_ ?_
   obtain ⟨g19, h⟩ := og_some h
   refine awp_region_ 19 ?_
   refine rz0 (ai ((l8_m5 : Nat) : Int)) ?_
   refine rs0 (ai ((l8_m5 + 1 : Nat) : Int)) (za g19) ?_
   refine rsB 1 ?_
   refine rnil (tn_ ?_)
   obtain rfl := zj h
   exact ⟨l8_m5 + 1, _, (weak_ren []), rfl, hn8⟩
  have q11_ := of_decide_eq_false q11
  refine awp_condF_ q11 ?_
  refine awp_exit_ (te_ (te_ (be_ (tn_ ?_))))
  obtain rfl := zj h
  have h := hn8
  (try dsimp only at h)
  obtain rfl := zj h
  exact ⟨(), _, rfl, (weak_ren []), rfl⟩
 rintro _ _ rfl h
 (try dsimp only at h)
 refine seqR ?_
 refine awp_ret_ ?_
 obtain rfl := zj h
 exact ret_ [(.bool true)] (p_one rfl zl p_nil)
def m_laws_eqCircuit : AC :=
 (.seq (rg [xo 2 (.i (.box 34 (tm 0))), xo 3 (.i (.box 34 (tm 1))), xo 4 (qm (cb false))])
 (.seq (.seq (rg [xo 5 (qf 0 (tm 2)), xo 6 (ql (tm 5)), xo 7 (qf 0 (tm 3)), xo 8 (ql (tm 7)), xo 9 (qb .neq (tm 6) (tm 8))])
 (.cond (tm 9)
  (.seq (rg [xo 4 (qm (cb false))])
  .ret)
  .skip))
 (.seq (.seq (rg [xo 10 (qf 1 (tm 2)), xo 11 (ql (tm 10)), xo 12 (qf 1 (tm 3)), xo 13 (ql (tm 12)), ⟨(some 14), none, (qc 23 [(tm 11), (tm 13)] [[(some T4)], [(some T4)]])⟩, xo 15 (.i (.not (tm 14)))])
 (.cond (tm 15)
  (.seq (rg [xo 4 (qm (cb false))])
  .ret)
  .skip))
 (.seq (.seq (rg [xo 16 (qf 2 (tm 2)), xo 17 (ql (tm 16)), xo 18 (qf 2 (tm 3)), xo 19 (ql (tm 18)), xo 20 (qc 24 [(tm 17), (tm 19)] [[(some .int)], [(some .int)]]), xo 21 (.i (.not (tm 20)))])
 (.cond (tm 21)
  (.seq (rg [xo 4 (qm (cb false))])
  .ret)
  .skip))
 (.seq (rg [xo 4 (qm (cb true))])
 .ret)))))
def r_laws_eqCircuit : List Res := [.tmp 4]
theorem c_laws_eqCircuit : compiled Tryd.prog Tryd.f9 = some (m_laws_eqCircuit, r_laws_eqCircuit) := by kernel_rfl
theorem hb_laws_eqCircuit : hasBody Tryd.prog 9 = true := by kernel_rfl
def L_laws_eqCircuit (a0_0 : Int) (a0_1 : List (Int × Int × Int × Int)) (a0_2 : List Int) (a1_0 : Int) (a1_1 : List (Int × Int × Int × Int)) (a1_2 : List Int) : Option Bool :=
 cond (a0_0 != a1_0)
 (some false)
 (Option.bind (L_laws_eqGateS a0_1 a1_1) fun y8 =>
 cond (!y8)
  (some false)
  (Option.bind (L_laws_eqIntS a0_2 a1_2) fun y13 =>
  cond (!y13)
   (some false)
   (some true)))
def rv_laws_eqCircuit (r : Bool) : RV := ⟨false, [(false, [.sc (.bool r)])]⟩
theorem ok_laws_eqCircuit {a0_0 : Int} {a0_1 : List (Int × Int × Int × Int)} {a0_2 : List Int} {a1_0 : Int} {a1_1 : List (Int × Int × Int × Int)} {a1_2 : List Int} {r : Bool} (h : L_laws_eqCircuit a0_0 a0_1 a0_2 a1_0 a1_1 a1_2 = some r) : CallOK Tryd.prog Tab 9 [(.agg [(ai a0_0), (.tree T4 a0_1), (.tree .int a0_2)]), (.agg [(ai a1_0), (.tree T4 a1_1), (.tree .int a1_2)])] (rv_laws_eqCircuit r) := by
 refine call_of_ (by kernel_rfl) Tryd.func9 c_laws_eqCircuit (n := 22) (by kernel_rfl) (by simp) (tl := [(0, (.agg [(ai a0_0), (.tree T4 a0_1), (.tree .int a0_2)])), (1, (.agg [(ai a1_0), (.tree T4 a1_1), (.tree .int a1_2)]))]) rfl ?_
 unfold m_laws_eqCircuit
 unfold L_laws_eqCircuit at h
 refine seqR ?_
 refine awp_seqv_ ?_
 refine seqR ?_
 rcases cond_some h with ⟨q4, h⟩ | ⟨q4, h⟩
 ·refine awp_condT_ q4 ?_
  refine seqR ?_
  refine awp_ret_ (tr_ ?_)
  obtain rfl := zj h
  exact ret_ [(.bool false)] (p_one rfl zl p_nil)
 refine awp_condF_ q4 ?_
 refine awp_skip_ (tn_ ?_)
 refine wr_ ?_
 refine awp_seqv_ ?_
 refine awp_seqv_ ?_
 obtain ⟨y8, h8, h⟩ := ob_some h
 refine awp_region_ 15 ?_
 refine rz0 (.box (oi 2 1) 1) ?_
 refine rzl (.tree T4 a0_1) ?_
 refine rz0 (.box (oi 3 2) 1) ?_
 refine rzl (.tree T4 a1_1) ?_
 refine zc (.bool y8) [] [(.tree T4 a0_1), (.tree T4 a1_1)] (ok_laws_eqGateS h8) ?_
 refine rsB 1 ?_
 refine rnil (tn_ ?_)
 refine wr_ ?_
 rcases cond_some h with ⟨q9, h⟩ | ⟨q9, h⟩
 ·refine awp_condT_ q9 ?_
  refine seqR ?_
  refine awp_ret_ (tr_ ?_)
  obtain rfl := zj h
  exact ret_ [(.bool false)] (p_one rfl zl p_nil)
 refine awp_condF_ q9 ?_
 refine awp_skip_ (tn_ ?_)
 refine wr_ ?_
 refine awp_seqv_ ?_
 refine awp_seqv_ ?_
 obtain ⟨y13, h13, h⟩ := ob_some h
 refine awp_region_ 21 ?_
 refine rz0 (.box (oi 2 1) 2) ?_
 refine rzl (.tree .int a0_2) ?_
 refine rz0 (.box (oi 3 2) 2) ?_
 refine rzl (.tree .int a1_2) ?_
 refine zc (.bool y13) [] [(.tree .int a0_2), (.tree .int a1_2)] (ok_laws_eqIntS h13) ?_
 refine rsB 1 ?_
 refine rnil (tn_ ?_)
 refine wr_ ?_
 rcases cond_some h with ⟨q14, h⟩ | ⟨q14, h⟩
 ·refine awp_condT_ q14 ?_
  refine seqR ?_
  refine awp_ret_ (tr_ ?_)
  obtain rfl := zj h
  exact ret_ [(.bool false)] (p_one rfl zl p_nil)
 refine awp_condF_ q14 ?_
 refine awp_skip_ (tn_ ?_)
 refine wr_ ?_
 refine seqR ?_
 refine awp_ret_ ?_
 obtain rfl := zj h
 exact ret_ [(.bool true)] (p_one rfl zl p_nil)
def m_laws_markGateS_l1 : AC :=
 (.seq (.seq (rg [xo 6 (qm (tm 5)), xo 7 (qm (tm 0)), xo 8 (.i (.len (tm 7))), xo 9 (qb .lss (tm 6) (tm 8))])
 (.cond (tm 9)
  .skip
  (.exit 0)))
 (.seq (.block 1 (.seq (rg [xo 12 (qm (tm 0)), xo 13 (qm (tm 5)), xo 14 (qm (tm 1)), xo 15 (qx 4 (tm 12) (tm 13)), xo 16 (qf 0 (tm 15)), xn (qs (tm 16) (tm 14))])
 (.seq (rg [xo 17 (qm (tm 1)), xo 18 (qb .add (tm 17) (ci 1)), xo 1 (qm (tm 18))])
 (.seq (rg [xo 19 (qm (tm 0)), xo 20 (qm (tm 5)), xo 21 (qm (tm 1)), xo 22 (qx 4 (tm 19) (tm 20)), xo 23 (qf 1 (tm 22)), xn (qs (tm 23) (tm 21))])
 (.seq (rg [xo 24 (qm (tm 1)), xo 25 (qb .add (tm 24) (ci 1)), xo 1 (qm (tm 25))])
 (.seq (rg [xo 26 (qm (tm 0)), xo 27 (qm (tm 5)), xo 28 (qm (tm 1)), xo 29 (qx 4 (tm 26) (tm 27)), xo 30 (qf 2 (tm 29)), xn (qs (tm 30) (tm 28))])
 (.seq (rg [xo 31 (qm (tm 1)), xo 32 (qb .add (tm 31) (ci 1)), xo 1 (qm (tm 32))])
 (.seq (rg [xo 33 (qm (tm 0)), xo 34 (qm (tm 5)), xo 35 (qm (tm 1)), xo 36 (qx 4 (tm 33) (tm 34)), xo 37 (qf 3 (tm 36)), xn (qs (tm 37) (tm 35))])
 (rg [xo 38 (qm (tm 1)), xo 39 (qb .add (tm 38) (ci 1)), xo 1 (qm (tm 39))])))))))))
 (rg [xo 10 (qm (tm 5)), xo 11 (qb .add (tm 10) (ci 1)), xo 5 (qm (tm 11))])))
def m_laws_markGateS : AC :=
 (.seq (rg [xo 4 (qm (ci 0))])
 (.seq (.seq (rg [xo 5 (qm (ci 0))])
 (.block 0 (.loop m_laws_markGateS_l1)))
 (.seq (rg [xo 40 (qm (tm 1)), xo 4 (qm (tm 40))])
 .ret)))
def r_laws_markGateS : List Res := [.tmp 4]
theorem c_laws_markGateS : compiled Tryd.prog Tryd.f25 = some (m_laws_markGateS, r_laws_markGateS) := by kernel_rfl
theorem hb_laws_markGateS : hasBody Tryd.prog 25 = true := by kernel_rfl
def L_laws_markGateS_l1  (l5_m1 : Int) (l5_m5 : Nat) (l5_m0 : List (Int × Int × Int × Int)) : Option (Ctl (Int × Nat × (List (Int × Int × Int × Int))) (Int × (List (Int × Int × Int × Int)))) :=
 cond (decide (((l5_m5 : Nat) : Int) < ((l5_m0.length : Nat) : Int)))
 (Option.bind (l5_m0[l5_m5]?) fun x11 =>
 Option.bind ((l5_m0.set l5_m5 (l5_m1, x11.2))[l5_m5]?) fun x14 =>
 Option.bind (((l5_m0.set l5_m5 (l5_m1, x11.2)).set l5_m5 (x14.1, IntKind.i64.wrap (l5_m1 + 1), x14.2.2))[l5_m5]?) fun x17 =>
 Option.bind ((((l5_m0.set l5_m5 (l5_m1, x11.2)).set l5_m5 (x14.1, IntKind.i64.wrap (l5_m1 + 1), x14.2.2)).set l5_m5 (x17.1, x17.2.1, IntKind.i64.wrap (IntKind.i64.wrap (l5_m1 + 1) + 1), x17.2.2.2))[l5_m5]?) fun x20 =>
 og (l5_m5 + 1 < 4611686018427387904) <|
 some (Ctl.next (IntKind.i64.wrap (IntKind.i64.wrap (IntKind.i64.wrap (IntKind.i64.wrap (l5_m1 + 1) + 1) + 1) + 1), l5_m5 + 1, (((l5_m0.set l5_m5 (l5_m1, x11.2)).set l5_m5 (x14.1, IntKind.i64.wrap (l5_m1 + 1), x14.2.2)).set l5_m5 (x17.1, x17.2.1, IntKind.i64.wrap (IntKind.i64.wrap (l5_m1 + 1) + 1), x17.2.2.2)).set l5_m5 (x20.1, x20.2.1, x20.2.2.1, IntKind.i64.wrap (IntKind.i64.wrap (IntKind.i64.wrap (l5_m1 + 1) + 1) + 1)))))
 (some (Ctl.out (l5_m1, l5_m0)))
def L_laws_markGateS (a0 : List (Int × Int × Int × Int)) (a1 : Int) : Option ((List (Int × Int × Int × Int)) × Int) :=
 Option.bind (loopM (fun s_ : Int × Nat × (List (Int × Int × Int × Int)) => L_laws_markGateS_l1 s_.1 s_.2.1 s_.2.2) 4611686018427387904 (a1, 0, a0)) fun (l3_m1, l3_p0) =>
some (l3_p0, l3_m1)
theorem ok_laws_markGateS {a0 : List (Int × Int × Int × Int)} {a1 : Int} {r : (List (Int × Int × Int × Int)) × Int} (h : L_laws_markGateS a0 a1 = some r) {n_a0 : Nat} (hn_a0 : n_a0 = a0.length) : CallM Tryd.prog Tab 25 [(.own (oi 0 0) T4 0 n_a0), (ai a1)] [((oi 0 0), .arr 58 T4 a0)] (ai r.2) [((oi 0 0), .arr 58 T4 r.1)] := by
 refine callM_of_ (by kernel_rfl) Tryd.func25 c_laws_markGateS (n := 41) (by kernel_rfl) (by simp) (tl := [(0, (.own (oi 0 0) T4 0 n_a0)), (1, (ai a1))]) rfl (by kernel_rfl) ⟨trivial, trivial⟩ ⟨trivial, trivial⟩ ?_
 unfold m_laws_markGateS
 unfold L_laws_markGateS at h
 refine seqR ?_
 refine awp_seqB h (fun t_ S_ => ∃ (l3_m1 : Int), ∃ (l3_p0 : List (Int × Int × Int × Int)), t_ = (l3_m1, l3_p0) ∧ S_ = ⟨mkTm [(1, (ai l3_m1))], mkOb (someL [((oi 0 0), .arr 58 T4 l3_p0)]), 2⟩) ?_ ?_
 ·intro v_ h
  refine seqR ?_
  refine awp_block_ ?_
  refine awp_loopL h (fun t_ S_ => ∃ (l5_m1 : Int), ∃ (l5_m5 : Nat), ∃ (l5_m0 : List (Int × Int × Int × Int)), t_ = (l5_m1, l5_m5, l5_m0) ∧ S_ = ⟨mkTm [(0, (.own (oi 0 0) T4 0 l5_m0.length)), (1, (ai l5_m1)), (5, (ai ((l5_m5 : Nat) : Int)))], mkOb (someL [((oi 0 0), .arr 58 T4 l5_m0)]), 2⟩) ⟨_, ((weak_tm_ 0 (.own (oi 0 0) T4 0 n_a0) (.own (oi 0 0) T4 0 a0.length) (by kernel_rfl) (congrArg (fun z_ => ((.own (oi 0 0) T4 0 z_) : AV)) (hn_a0 : n_a0 = a0.length))).trans (weak_ren [])), ⟨a1, 0, a0, rfl, rfl⟩⟩ ?_
  rintro n_ _ _ c_ ⟨l5_m1, l5_m5, l5_m0, rfl, rfl⟩ h hn5
  (try dsimp only at h)
  unfold L_laws_markGateS_l1 at h
  unfold m_laws_markGateS_l1
  refine awp_seqv_ ?_
  refine seqR ?_
  rcases cond_some h with ⟨q8, h⟩ | ⟨q8, h⟩
  ·have q8_ := of_decide_eq_true q8
   refine awp_condT_ q8 ?_
   refine awp_skip_ (tn_ ?_)
   refine wr_ ?_
   refine awp_seqv_ ?_
   refine awp_block_ ?_
   refine awp_seqv_ ?_
   obtain ⟨x11, e11, h⟩ := ob_some h
   refine awp_region_ 12 ?_
   refine rz0 (.own (oi 0 0) T4 0 l5_m0.length) ?_
   refine rz0 (ai ((l5_m5 : Nat) : Int)) ?_
   refine rz0 (ai l5_m1) ?_
   refine rs0 (.elt (oi 0 0) l5_m5 0) (zo (t := T4) (o := (oi 0 0)) (len := l5_m0.length) (k := .i64) (m := ((l5_m5 : Nat) : Int)) (nat_nn _) (getN_lt e11)) ?_
   refine rz0 (.elt (oi 0 0) l5_m5 0) ?_
   refine rsn2 (oi 0 0) (oi 0 0) (.arr 58 T4 (l5_m0.set l5_m5 (l5_m1, x11.2))) (s_stE (i := (oi 0 0)) (j := l5_m5) (k := 0) (e := 58) (t := T4) (xs := l5_m0) (cs := [(ai l5_m1), (ai x11.2.1), (ai x11.2.2.1), (ai x11.2.2.2)]) (x1 := (l5_m1, x11.2)) (by kernel_rfl) (by kernel_rfl) e11 (by kernel_rfl) (by kernel_rfl)) ?_
   refine rnil (tn_ ?_)
   refine wr_ ?_
   refine seqR ?_
   refine awp_seqv_ ?_
   obtain ⟨x14, e14, h⟩ := ob_some h
   refine awp_region_ 21 ?_
   refine rz0 (.own (oi 0 0) T4 0 l5_m0.length) ?_
   refine rz0 (ai ((l5_m5 : Nat) : Int)) ?_
   refine rz0 (ai (IntKind.i64.wrap (l5_m1 + 1))) ?_
   refine rs0 (.elt (oi 0 0) l5_m5 0) (zo (t := T4) (o := (oi 0 0)) (len := l5_m0.length) (k := .i64) (m := ((l5_m5 : Nat) : Int)) (nat_nn _) (Nat.lt_of_lt_of_le (getN_lt e14) (Nat.le_of_eq (Eq.symm ((rfl : l5_m0.length = l5_m0.length).trans List.length_set.symm))))) ?_
   refine rz0 (.elt (oi 0 0) l5_m5 1) ?_
   refine rsn2 (oi 0 0) (oi 0 0) (.arr 58 T4 ((l5_m0.set l5_m5 (l5_m1, x11.2)).set l5_m5 (x14.1, IntKind.i64.wrap (l5_m1 + 1), x14.2.2))) (s_stE (i := (oi 0 0)) (j := l5_m5) (k := 1) (e := 58) (t := T4) (xs := l5_m0.set l5_m5 (l5_m1, x11.2)) (cs := [(ai x14.1), (ai (IntKind.i64.wrap (l5_m1 + 1))), (ai x14.2.2.1), (ai x14.2.2.2)]) (x1 := (x14.1, IntKind.i64.wrap (l5_m1 + 1), x14.2.2)) (by kernel_rfl) (by kernel_rfl) e14 (by kernel_rfl) (by kernel_rfl)) ?_
   refine rnil (tn_ ?_)
   refine wr_ ?_
   refine seqR ?_
   refine awp_seqv_ ?_
   obtain ⟨x17, e17, h⟩ := ob_some h
   refine awp_region_ 30 ?_
   refine rz0 (.own (oi 0 0) T4 0 l5_m0.length) ?_
   refine rz0 (ai ((l5_m5 : Nat) : Int)) ?_
   refine rz0 (ai (IntKind.i64.wrap (IntKind.i64.wrap (l5_m1 + 1) + 1))) ?_
   refine rs0 (.elt (oi 0 0) l5_m5 0) (zo (t := T4) (o := (oi 0 0)) (len := l5_m0.length) (k := .i64) (m := ((l5_m5 : Nat) : Int)) (nat_nn _) (Nat.lt_of_lt_of_le (getN_lt e17) (Nat.le_of_eq (Eq.symm (((rfl : l5_m0.length = l5_m0.length).trans List.length_set.symm).trans List.length_set.symm))))) ?_
   refine rz0 (.elt (oi 0 0) l5_m5 2) ?_
   refine rsn2 (oi 0 0) (oi 0 0) (.arr 58 T4 (((l5_m0.set l5_m5 (l5_m1, x11.2)).set l5_m5 (x14.1, IntKind.i64.wrap (l5_m1 + 1), x14.2.2)).set l5_m5 (x17.1, x17.2.1, IntKind.i64.wrap (IntKind.i64.wrap (l5_m1 + 1) + 1), x17.2.2.2))) (s_stE (i := (oi 0 0)) (j := l5_m5) (k := 2) (e := 58) (t := T4) (xs := (l5_m0.set l5_m5 (l5_m1, x11.2)).set l5_m5 (x14.1, IntKind.i64.wrap (l5_m1 + 1), x14.2.2)) (cs := [(ai x17.1), (ai x17.2.1), (ai (IntKind.i64.wrap (IntKind.i64.wrap (l5_m1 + 1) + 1))), (ai x17.2.2.2)]) (x1 := (x17.1, x17.2.1, IntKind.i64.wrap (IntKind.i64.wrap (l5_m1 + 1) + 1), x17.2.2.2)) (by kernel_rfl) (by kernel_rfl) e17 (by kernel_rfl) (by kernel_rfl)) ?_
   refine rnil (tn_ ?_)
   refine wr_ ?_
   refine seqR ?_
   refine awp_seqv_ ?_
   obtain ⟨x20, e20, h⟩ := ob_some h
   refine awp_region_ 39 ?_
   refine rz0 (.own (oi 0 0) T4 0 l5_m0.length) ?_
   refine rz0 (ai ((l5_m5 : Nat) : Int)) ?_
   refine rz0 (ai (IntKind.i64.wrap (IntKind.i64.wrap (IntKind.i64.wrap (l5_m1 + 1) + 1) + 1))) ?_
   refine rs0 (.elt (oi 0 0) l5_m5 0) (zo (t := T4) (o := (oi 0 0)) (len := l5_m0.length) (k := .i64) (m := ((l5_m5 : Nat) : Int)) (nat_nn _) (Nat.lt_of_lt_of_le (getN_lt e20) (Nat.le_of_eq (Eq.symm ((((rfl : l5_m0.length = l5_m0.length).trans List.length_set.symm).trans List.length_set.symm).trans List.length_set.symm))))) ?_
   refine rz0 (.elt (oi 0 0) l5_m5 3) ?_
   refine rsn2 (oi 0 0) (oi 0 0) (.arr 58 T4 ((((l5_m0.set l5_m5 (l5_m1, x11.2)).set l5_m5 (x14.1, IntKind.i64.wrap (l5_m1 + 1), x14.2.2)).set l5_m5 (x17.1, x17.2.1, IntKind.i64.wrap (IntKind.i64.wrap (l5_m1 + 1) + 1), x17.2.2.2)).set l5_m5 (x20.1, x20.2.1, x20.2.2.1, IntKind.i64.wrap (IntKind.i64.wrap (IntKind.i64.wrap (l5_m1 + 1) + 1) + 1)))) (s_stE (i := (oi 0 0)) (j := l5_m5) (k := 3) (e := 58) (t := T4) (xs := ((l5_m0.set l5_m5 (l5_m1, x11.2)).set l5_m5 (x14.1, IntKind.i64.wrap (l5_m1 + 1), x14.2.2)).set l5_m5 (x17.1, x17.2.1, IntKind.i64.wrap (IntKind.i64.wrap (l5_m1 + 1) + 1), x17.2.2.2)) (cs := [(ai x20.1), (ai x20.2.1), (ai x20.2.2.1), (ai (IntKind.i64.wrap (IntKind.i64.wrap (IntKind.i64.wrap (l5_m1 + 1) + 1) + 1)))]) (x1 := (x20.1, x20.2.1, x20.2.2.1, IntKind.i64.wrap (IntKind.i64.wrap (IntKind.i64.wrap (l5_m1 + 1) + 1) + 1))) (by kernel_rfl) (by kernel_rfl) e20 (by kernel_rfl) (by kernel_rfl)) ?_
   refine rnil (tn_ ?_)
   refine wr_ ?_
   refine awp_region_ 42 ?_
   refine rsB 3 ?_
   refine rnil (bn_ (tn_ ?_))
   refine wr_ ?_
   obtain ⟨g21, h⟩ := og_some h
   refine awp_region_ 45 ?_
   refine rz0 (ai ((l5_m5 : Nat) : Int)) ?_
   refine rs0 (ai ((l5_m5 + 1 : Nat) : Int)) (za g21) ?_
   refine rsB 1 ?_
   refine rnil (tn_ ?_)
   obtain rfl := zj h
   exact ⟨(IntKind.i64.wrap (IntKind.i64.wrap (IntKind.i64.wrap (IntKind.i64.wrap (l5_m1 + 1) + 1) + 1) + 1), l5_m5 + 1, (((l5_m0.set l5_m5 (l5_m1, x11.2)).set l5_m5 (x14.1, IntKind.i64.wrap (l5_m1 + 1), x14.2.2)).set l5_m5 (x17.1, x17.2.1, IntKind.i64.wrap (IntKind.i64.wrap (l5_m1 + 1) + 1), x17.2.2.2)).set l5_m5 (x20.1, x20.2.1, x20.2.2.1, IntKind.i64.wrap (IntKind.i64.wrap (IntKind.i64.wrap (l5_m1 + 1) + 1) + 1))), _, ((weak_tm_ 0 (.own (oi 0 0) T4 0 l5_m0.length) (.own (oi 0 0) T4 0 (((((l5_m0.set l5_m5 (l5_m1, x11.2)).set l5_m5 (x14.1, IntKind.i64.wrap (l5_m1 + 1), x14.2.2)).set l5_m5 (x17.1, x17.2.1, IntKind.i64.wrap (IntKind.i64.wrap (l5_m1 + 1) + 1), x17.2.2.2)).set l5_m5 (x20.1, x20.2.1, x20.2.2.1, IntKind.i64.wrap (IntKind.i64.wrap (IntKind.i64.wrap (l5_m1 + 1) + 1) + 1))).length)) (by kernel_rfl) (congrArg (fun z_ => ((.own (oi 0 0) T4 0 z_) : AV)) ((((((rfl : l5_m0.length = l5_m0.length).trans List.length_set.symm).trans List.length_set.symm).trans List.length_set.symm).trans List.length_set.symm) : l5_m0.length = ((((l5_m0.set l5_m5 (l5_m1, x11.2)).set l5_m5 (x14.1, IntKind.i64.wrap (l5_m1 + 1), x14.2.2)).set l5_m5 (x17.1, x17.2.1, IntKind.i64.wrap (IntKind.i64.wrap (l5_m1 + 1) + 1), x17.2.2.2)).set l5_m5 (x20.1, x20.2.1, x20.2.2.1, IntKind.i64.wrap (IntKind.i64.wrap (IntKind.i64.wrap (l5_m1 + 1) + 1) + 1))).length))).trans (weak_ren [])), ⟨IntKind.i64.wrap (IntKind.i64.wrap (IntKind.i64.wrap (IntKind.i64.wrap (l5_m1 + 1) + 1) + 1) + 1), l5_m5 + 1, (((l5_m0.set l5_m5 (l5_m1, x11.2)).set l5_m5 (x14.1, IntKind.i64.wrap (l5_m1 + 1), x14.2.2)).set l5_m5 (x17.1, x17.2.1, IntKind.i64.wrap (IntKind.i64.wrap (l5_m1 + 1) + 1), x17.2.2.2)).set l5_m5 (x20.1, x20.2.1, x20.2.2.1, IntKind.i64.wrap (IntKind.i64.wrap (IntKind.i64.wrap (l5_m1 + 1) + 1) + 1)), rfl, rfl⟩, hn5⟩
  have q8_ := of_decide_eq_false q8
  refine awp_condF_ q8 ?_
  refine awp_exit_ (te_ (te_ (be_ (tn_ ?_))))
  obtain rfl := zj h
  have h := hn5
  (try dsimp only at h)
  obtain rfl := zj h
  exact ⟨_, (weak_ren []), ⟨l5_m1, l5_m0, rfl, rfl⟩⟩
 rintro _ _ ⟨l3_m1, l3_p0, rfl, rfl⟩ h
 (try dsimp only at h)
 refine seqR ?_
 refine awp_ret_ ?_
 obtain rfl := zj h
 exact retM_ [(ai l3_m1)] (weak_ren (tl := [(4, (ai l3_m1))]) (g := 2) [])
def m_laws_markCircuit : AC :=
 (.seq (rg [xo 2 (.i (.box 34 (tm 0))), xo 4 (qm (ci 0))])
 (.seq (rg [xo 5 (qf 1 (tm 2)), xo 6 (ql (tm 5)), xo 7 (qm (tm 1)), ⟨(some 8), none, (qc 25 [(tm 6), (tm 7)] [[(some T4)], []])⟩, xo 1 (qm (tm 8))])
 (.seq (rg [xo 9 (qf 2 (tm 2)), xo 10 (ql (tm 9)), xo 11 (qm (tm 1)), xo 12 (qc 26 [(tm 10), (tm 11)] [[(some .int)], []]), xo 1 (qm (tm 12))])
 (.seq (rg [xo 13 (qm (tm 1)), xo 4 (qm (tm 13))])
 .ret))))
def r_laws_markCircuit : List Res := [.tmp 4]
theorem c_laws_markCircuit : compiled Tryd.prog Tryd.f10 = some (m_laws_markCircuit, r_laws_markCircuit) := by kernel_rfl
theorem hb_laws_markCircuit : hasBody Tryd.prog 10 = true := by kernel_rfl
def L_laws_markCircuit (a0_0 : Int) (a0_1 : List (Int × Int × Int × Int)) (a0_2 : List Int) (a1 : Int) : Option ((List (Int × Int × Int × Int)) × List Int × Int) :=
 Option.bind (L_laws_markGateS a0_1 a1) fun y4 =>
og (y4.1.length = (a0_1.length)) <|
Option.bind (L_laws_markIntS a0_2 y4.2) fun y7 =>
og (y7.1.length = (a0_2.length)) <|
some (y4.1, y7.1, y7.2)
theorem ok_laws_markCircuit {a0_0 : Int} {a0_1 : List (Int × Int × Int × Int)} {a0_2 : List Int} {a1 : Int} {r : (List (Int × Int × Int × Int)) × List Int × Int} (h : L_laws_markCircuit a0_0 a0_1 a0_2 a1 = some r) {n_a0_1 : Nat} (hn_a0_1 : n_a0_1 = a0_1.length) {n_a0_2 : Nat} (hn_a0_2 : n_a0_2 = a0_2.length) : CallM Tryd.prog Tab 10 [(.agg [(ai a0_0), (.own (oi 0 0) T4 0 n_a0_1), (.own (oi 1 0) .int 0 n_a0_2)]), (ai a1)] [((oi 0 0), .arr 58 T4 a0_1), ((oi 1 0), .arr 3 .int a0_2)] (ai r.2.2) [((oi 0 0), .arr 58 T4 r.1), ((oi 1 0), .arr 3 .int r.2.1)] := by
 refine callM_of_ (by kernel_rfl) Tryd.func10 c_laws_markCircuit (n := 14) (by kernel_rfl) (by simp) (tl := [(0, (.agg [(ai a0_0), (.own (oi 0 0) T4 0 n_a0_1), (.own (oi 1 0) .int 0 n_a0_2)])), (1, (ai a1))]) rfl (by kernel_rfl) ⟨trivial, ⟨trivial, trivial⟩⟩ ⟨trivial, ⟨trivial, trivial⟩⟩ ?_
 unfold m_laws_markCircuit
 unfold L_laws_markCircuit at h
 (try rw [← hn_a0_1] at h)
 (try rw [← hn_a0_2] at h)
 refine seqR ?_
 refine awp_seqv_ ?_
 obtain ⟨y4, h4, h⟩ := ob_some h
 obtain ⟨g5, h⟩ := og_some h
 refine awp_region_ 8 ?_
 refine rz0 (.box (oi 2 1) 1) ?_
 refine rzl (.own (oi 0 0) T4 0 n_a0_1) ?_
 refine rz0 (ai a1) ?_
 refine rcallM (ai y4.2) [((oi 0 0), some (.arr 58 T4 y4.1)), ((oi 0 0), none)] [] [(.own (oi 0 0) T4 0 n_a0_1), (ai a1)] (caps := []) trivial (ok_laws_markGateS h4 hn_a0_1) hb_laws_markGateS ⟨(by kernel_rfl), trivial⟩ (.cons (.ren (by kernel_rfl)) (.cons (.ren (by kernel_rfl)) .nil)) (reachL_mem (by kernel_rfl) (by kernel_rfl) ⟨(re_arg (by kernel_rfl)), trivial⟩) ?_
 refine rsB 1 ?_
 refine rnil (tn_ ?_)
 refine wr_ ?_
 refine awp_seqv_ ?_
 obtain ⟨y7, h7, h⟩ := ob_some h
 obtain ⟨g8, h⟩ := og_some h
 refine awp_region_ 13 ?_
 refine rz0 (.box (oi 2 1) 2) ?_
 refine rzl (.own (oi 1 0) .int 0 n_a0_2) ?_
 refine rz0 (ai y4.2) ?_
 refine rcallM (ai y7.2) [((oi 1 0), some (.arr 3 .int y7.1)), ((oi 1 0), none)] [((oi 0 0), (oi 1 0))] [(.own (oi 1 0) .int 0 n_a0_2), (ai y4.2)] (caps := []) trivial (ok_laws_markIntS h7 hn_a0_2) hb_laws_markIntS ⟨(by kernel_rfl), trivial⟩ (.cons (.ren (by kernel_rfl)) (.cons (.ren (by kernel_rfl)) .nil)) (reachL_mem (by kernel_rfl) (by kernel_rfl) ⟨(re_arg (by kernel_rfl)), trivial⟩) ?_
 refine rsB 1 ?_
 refine rnil (tn_ ?_)
 refine wr_ ?_
 refine seqR ?_
 refine awp_ret_ ?_
 obtain rfl := zj h
 exact retM_ [(ai y7.2)] (weak_ren (tl := [(4, (ai y7.2))]) (g := 2) [])
end Go.Proofs.YtbdkmfmhlmnlmaaDoor
namespace Go.Proofs.YtbdkmfmhlmnlmaaDoor
open Go.RowKit Go.Deep
set_option maxRecDepth 4000
def m_spec_crOperands : AC :=
 (.seq (rg [xo 1 (.i (.box 58 (tm 0))), xo 2 (qm (.cst .nils))])
 (.seq (.seq (rg [xo 3 (qf 0 (tm 1)), xo 4 (ql (tm 3))])
 (.block 0 (.seq (rg [xo 6 (qb .eql (tm 4) (ci 3)), xo 5 (qm (tm 6))])
 (.cond (tm 5)
  (.seq (rg [xo 7 (qf 1 (tm 1)), xo 8 (ql (tm 7)), xo 9 (qf 2 (tm 1)), xo 10 (ql (tm 9)), xo 11 (.mkS 3 .int [(tm 8), (tm 10)]), xo 2 (qm (tm 11))])
  .ret)
  (.seq (.seq (rg [xo 13 (qb .eql (tm 4) (ci 4)), xo 12 (qm (tm 13))])
  (.cond (tm 12)
   .skip
   (rg [xo 14 (qb .eql (tm 4) (ci 5)), xo 12 (qm (tm 14))])))
  (.cond (tm 12)
   (.seq (rg [xo 15 (qf 1 (tm 1)), xo 16 (ql (tm 15)), xo 17 (.mkS 3 .int [(tm 16)]), xo 2 (qm (tm 17))])
   .ret)
   .skip))))))
 (.seq (rg [xo 2 (qm (.cst .nils))])
 .ret)))
def r_spec_crOperands : List Res := [.tmp 2]
theorem c_spec_crOperands : compiled Tryd.prog Tryd.f56 = some (m_spec_crOperands, r_spec_crOperands) := by kernel_rfl
def L_spec_crOperands (a0_0 : Int) (a0_1 : Int) (a0_2 : Int) (a0_3 : Int) : Option (List Int) :=
 cond (a0_0 == 3)
 (some ([a0_1, a0_2]))
 (Option.bind (cond (a0_0 == 4)
   (some (a0_0 == 4))
   (some (a0_0 == 5))) fun l7_m12 =>
 cond l7_m12
  (some ([a0_1]))
  (some []))
def rv_spec_crOperands (r : List Int) : RV := ⟨false, [(false, [.new 3 .int r])]⟩
theorem ok_spec_crOperands {a0_0 : Int} {a0_1 : Int} {a0_2 : Int} {a0_3 : Int} {r : List Int} (h : L_spec_crOperands a0_0 a0_1 a0_2 a0_3 = some r) : CallOK Tryd.prog Tab 56 [(.agg [(ai a0_0), (ai a0_1), (ai a0_2), (ai a0_3)])] (rv_spec_crOperands r) := by
 refine call_of_ (by kernel_rfl) Tryd.func56 c_spec_crOperands (n := 18) (by kernel_rfl) (by simp) (tl := [(0, (.agg [(ai a0_0), (ai a0_1), (ai a0_2), (ai a0_3)]))]) rfl ?_
 unfold m_spec_crOperands
 unfold L_spec_crOperands at h
 refine seqR ?_
 refine awp_seqv_ ?_
 refine seqR ?_
 refine awp_block_ ?_
 refine seqR ?_
 rcases cond_some h with ⟨q5, h⟩ | ⟨q5, h⟩
 ·refine awp_condT_ q5 ?_
  refine seqR ?_
  refine awp_ret_ (br_ (tr_ ?_))
  obtain rfl := zj h
  exact ret_ [(.own (oi 11 11) .int 0 2)] (p_one rfl (l_own (by kernel_rfl) rfl) p_nil)
 refine awp_condF_ q5 ?_
 refine awp_seqB h (fun (l7_m12 : Bool) S_ => S_ = ⟨mkTm [(1, (.box (oi 0 1) 0)), (12, (.bool l7_m12))], mkOb (someL [((oi 0 1), .cells 58 [(ai a0_0), (ai a0_1), (ai a0_2), (ai a0_3)])]), 2⟩) ?_ ?_
 ·intro v_ h
  refine seqR ?_
  rcases cond_some h with ⟨q9, h⟩ | ⟨q9, h⟩
  ·refine awp_condT_ q9 ?_
   refine awp_skip_ (tn_ ?_)
   obtain rfl := zj h
   exact ⟨_, (weak_ren [((oi 0 1), (oi 1 1))]), rfl⟩
  refine awp_condF_ q9 ?_
  refine awp_region_ 11 ?_
  refine rsB 2 ?_
  refine rnil (tn_ ?_)
  obtain rfl := zj h
  exact ⟨_, (weak_ren [((oi 0 1), (oi 1 1))]), rfl⟩
 rintro l7_m12 _ rfl h
 (try dsimp only at h)
 rcases cond_some h with ⟨q10, h⟩ | ⟨q10, h⟩
 ·refine awp_condT_ q10 ?_
  refine seqR ?_
  refine awp_ret_ (br_ (tr_ ?_))
  obtain rfl := zj h
  exact ret_ [(.own (oi 17 4) .int 0 1)] (p_one rfl (l_own (by kernel_rfl) rfl) p_nil)
 refine awp_condF_ q10 ?_
 refine awp_skip_ (bn_ (tn_ ?_))
 refine wr_ ?_
 refine seqR ?_
 refine awp_ret_ ?_
 obtain rfl := zj h
 exact ret_ [.nils] (p_one rfl (l_nils rfl) p_nil)
def m_spec_crGate : AC :=
 (.seq (rg [xo 5 (.i (.box 58 (tm 1))), xo 8 (qm (cb false))])
 (.seq (.seq (rg [xo 9 (.i (.ld false 4 (tm 5))), xo 10 (qc 56 [(tm 9)] [[none, none, none, none]]), xo 11 (qm (tm 3)), xo 12 (qb .sub (tm 11) (ci 1)), xo 13 (qc 31 [(tm 10), (ci 0), (tm 12)] [[(some .int)], [], []]), xo 14 (.i (.not (tm 13))), xo 15 (qm (tm 14)), ⟨(some 16), (some (15, false)), (qf 0 (tm 5))⟩, ⟨(some 17), (some (15, false)), (ql (tm 16))⟩, ⟨(some 18), (some (15, false)), (qb .neq (tm 17) (ci 3))⟩, ⟨(some 19), (some (15, false)), (qm (tm 18))⟩, ⟨(some 20), (some (19, true)), (qf 2 (tm 5))⟩, ⟨(some 21), (some (19, true)), (ql (tm 20))⟩, ⟨(some 22), (some (19, true)), (qb .neq (tm 21) (ci 0))⟩, ⟨(some 23), (some (15, false)), (.i (.pick (tm 19) (tm 22) (cb false)))⟩, xo 24 (.i (.pick (tm 15) (cb true) (tm 23)))])
 (.cond (tm 24)
  (.seq (rg [xo 8 (qm (cb false))])
  .ret)
  .skip))
 (.seq (.seq (rg [xo 25 (qf 0 (tm 5)), xo 26 (ql (tm 25))])
 (.block 0 (.seq (rg [xo 28 (qb .eql (tm 26) (ci 1)), xo 27 (qm (tm 28))])
 (.cond (tm 27)
  (.seq (rg [xo 29 (qf 3 (tm 5)), xo 30 (ql (tm 29)), xo 31 (qm (tm 2)), xo 32 (qb .sub (tm 31) (ci 1)), xo 33 (qc 30 [(tm 30), (ci 0), (tm 32)] [[], [], []]), xo 34 (qm (tm 33)), ⟨(some 35), (some (34, true)), (qf 1 (tm 5))⟩, ⟨(some 36), (some (34, true)), (ql (tm 35))⟩, ⟨(some 37), (some (34, true)), (qb .eql (tm 36) (ci 0))⟩, xo 38 (.i (.pick (tm 34) (tm 37) (cb false))), xo 8 (qm (tm 38))])
  .ret)
  (.seq (rg [xo 40 (qb .eql (tm 26) (ci 2)), xo 39 (qm (tm 40))])
  (.cond (tm 39)
   (.seq (rg [xo 41 (qf 3 (tm 5)), xo 42 (ql (tm 41)), xo 43 (qb .eql (tm 42) (ci 0)), xo 44 (qm (tm 43)), ⟨(some 45), (some (44, true)), (qf 1 (tm 5))⟩, ⟨(some 46), (some (44, true)), (ql (tm 45))⟩, ⟨(some 47), (some (44, true)), (qb .eql (tm 46) (ci 0))⟩, xo 48 (.i (.pick (tm 44) (tm 47) (cb false))), xo 8 (qm (tm 48))])
   .ret)
   (.seq (.seq (rg [xo 50 (qb .eql (tm 26) (ci 3)), xo 49 (qm (tm 50))])
   (.cond (tm 49)
    .skip
    (rg [xo 51 (qb .eql (tm 26) (ci 5)), xo 49 (qm (tm 51))])))
   (.cond (tm 49)
    (.seq (rg [xo 52 (qf 3 (tm 5)), xo 53 (ql (tm 52)), xo 54 (qb .eql (tm 53) (ci 0)), xo 8 (qm (tm 54))])
    .ret)
    (.seq (rg [xo 56 (qb .eql (tm 26) (ci 4)), xo 55 (qm (tm 56))])
    (.cond (tm 55)
     (.seq (rg [xo 57 (qf 3 (tm 5)), xo 58 (ql (tm 57)), xo 59 (qm (tm 0)), xo 60 (qb .sub (tm 59) (ci 1)), xo 61 (qc 30 [(tm 58), (ci 0), (tm 60)] [[], [], []]), xo 8 (qm (tm 61))])
     .ret)
     .skip))))))))))
 (.seq (rg [xo 8 (qm (cb false))])
 .ret))))
def r_spec_crGate : List Res := [.tmp 8]
theorem c_spec_crGate : compiled Tryd.prog Tryd.f32 = some (m_spec_crGate, r_spec_crGate) := by kernel_rfl
def L_spec_crGate (a0 : Int) (a1_0 : Int) (a1_1 : Int) (a1_2 : Int) (a1_3 : Int) (a2 : Int) (a3 : Int) : Option Bool :=
 Option.bind (Option.bind (L_spec_crOperands a1_0 a1_1 a1_2 a1_3) fun y4 =>
 Option.bind (L_spec_l1All y4 0 (IntKind.i64.wrap (a3 - 1))) fun y5 =>
 cond (!y5)
  (some true)
  (cond (a1_0 != 3)
   (some (a1_2 != 0))
   (some false))) fun l3_m24 =>
cond l3_m24
 (some false)
 (cond (a1_0 == 1)
  (Option.bind (Option.bind (L_spec_l1In a1_3 0 (IntKind.i64.wrap (a2 - 1))) fun y15 =>
   cond y15
    (some (a1_1 == 0))
    (some false)) fun l14_m8 =>
  some l14_m8)
  (cond (a1_0 == 2)
   (Option.bind (cond (a1_3 == 0)
     (some (a1_1 == 0))
     (some false)) fun l19_m8 =>
   some l19_m8)
   (Option.bind (cond (a1_0 == 3)
     (some (a1_0 == 3))
     (some (a1_0 == 5))) fun l21_m49 =>
   cond l21_m49
    (some (a1_3 == 0))
    (cond (a1_0 == 4)
     (Option.bind (L_spec_l1In a1_3 0 (IntKind.i64.wrap (a0 - 1))) fun y29 =>
     some y29)
     (some false)))))
def rv_spec_crGate (r : Bool) : RV := ⟨false, [(false, [.sc (.bool r)])]⟩
theorem ok_spec_crGate {a0 : Int} {a1_0 : Int} {a1_1 : Int} {a1_2 : Int} {a1_3 : Int} {a2 : Int} {a3 : Int} {r : Bool} (h : L_spec_crGate a0 a1_0 a1_1 a1_2 a1_3 a2 a3 = some r) : CallOK Tryd.prog Tab 32 [(ai a0), (.agg [(ai a1_0), (ai a1_1), (ai a1_2), (ai a1_3)]), (ai a2), (ai a3)] (rv_spec_crGate r) := by
 refine call_of_ (by kernel_rfl) Tryd.func32 c_spec_crGate (n := 62) (by kernel_rfl) (by simp) (tl := [(0, (ai a0)), (1, (.agg [(ai a1_0), (ai a1_1), (ai a1_2), (ai a1_3)])), (2, (ai a2)), (3, (ai a3))]) rfl ?_
 unfold m_spec_crGate
 unfold L_spec_crGate at h
 refine seqR ?_
 refine awp_seqv_ ?_
 refine awp_seqB h (fun (l3_m24 : Bool) S_ => S_ = ⟨mkTm [(0, (ai a0)), (2, (ai a2)), (5, (.box (oi 0 1) 0)), (24, (.bool l3_m24))], mkOb (someL [((oi 0 1), .cells 58 [(ai a1_0), (ai a1_1), (ai a1_2), (ai a1_3)])]), 2⟩) ?_ ?_
 ·intro v_ h
  obtain ⟨y4, h4, h⟩ := ob_some h
  obtain ⟨y5, h5, h⟩ := ob_some h
  rcases cond_some h with ⟨q6, h⟩ | ⟨q6, h⟩
  ·refine awp_region_ 19 ?_
   refine rzl (.agg [(ai a1_0), (ai a1_1), (ai a1_2), (ai a1_3)]) ?_
   refine zc (.own (oi 160 4) .int 0 y4.length) [((oi 160 4), some (.arr 3 .int y4))] [(.agg [(ai a1_0), (ai a1_1), (ai a1_2), (ai a1_3)])] (ok_spec_crOperands h4) ?_
   refine rz0 (ai a3) ?_
   refine rz0 (ai (IntKind.i64.wrap (a3 - 1))) ?_
   refine rcall (.bool y5) [] [(.own (oi 160 4) .int 0 y4.length), (ai 0), (ai (IntKind.i64.wrap (a3 - 1)))] _ (caps := []) (args0 := [(.tree .int y4), (ai 0), (ai (IntKind.i64.wrap (a3 - 1)))]) trivial (gm_cons (gd_own (e := 3) (by kernel_rfl) rfl) (gm_cons (by kernel_rfl) (gm_cons (by kernel_rfl) gm_nil))) (ok_spec_l1All h5) hb_spec_l1All ?_
   refine rz0 (.bool (!y5)) ?_
   refine rz0 (.bool (!y5)) ?_
   refine zs q6 ?_
   refine zs q6 ?_
   refine zs q6 ?_
   refine zs q6 ?_
   refine rs0 (.tup []) (s_skipU (by kernel_rfl)) ?_
   refine rs0 (.tup []) (s_skipU (by kernel_rfl)) ?_
   refine rs0 (.tup []) (s_skipU (by kernel_rfl)) ?_
   refine zs q6 ?_
   refine rs0 (.bool true) (zT q6) ?_
   refine rnil (tn_ ?_)
   obtain rfl := zj h
   exact ⟨_, (weak_ren [((oi 0 1), (oi 5 1))]), rfl⟩
  rcases cond_some h with ⟨q7, h⟩ | ⟨q7, h⟩
  ·refine awp_region_ 19 ?_
   refine rzl (.agg [(ai a1_0), (ai a1_1), (ai a1_2), (ai a1_3)]) ?_
   refine zc (.own (oi 160 4) .int 0 y4.length) [((oi 160 4), some (.arr 3 .int y4))] [(.agg [(ai a1_0), (ai a1_1), (ai a1_2), (ai a1_3)])] (ok_spec_crOperands h4) ?_
   refine rz0 (ai a3) ?_
   refine rz0 (ai (IntKind.i64.wrap (a3 - 1))) ?_
   refine rcall (.bool y5) [] [(.own (oi 160 4) .int 0 y4.length), (ai 0), (ai (IntKind.i64.wrap (a3 - 1)))] _ (caps := []) (args0 := [(.tree .int y4), (ai 0), (ai (IntKind.i64.wrap (a3 - 1)))]) trivial (gm_cons (gd_own (e := 3) (by kernel_rfl) rfl) (gm_cons (by kernel_rfl) (gm_cons (by kernel_rfl) gm_nil))) (ok_spec_l1All h5) hb_spec_l1All ?_
   refine rz0 (.bool (!y5)) ?_
   refine rz0 (.bool (!y5)) ?_
   refine rs0 (.box (oi 5 1) 0) (zg q6) ?_
   refine rsl (ai a1_0) (zg q6) ?_
   refine rs0 (.bool (a1_0 != 3)) (zg q6) ?_
   refine rs0 (.bool (a1_0 != 3)) (zg q6) ?_
   refine rs0 (.box (oi 5 1) 2) (zg q7) ?_
   refine rsl (ai a1_2) (zg q7) ?_
   refine rs0 (.bool (a1_2 != 0)) (zg q7) ?_
   refine rs0 (.bool (a1_2 != 0)) (s_gd (by kernel_rfl) q6 (zT q7)) ?_
   refine rs0 (.bool (a1_2 != 0)) (zF q6) ?_
   refine rnil (tn_ ?_)
   obtain rfl := zj h
   exact ⟨_, (weak_ren [((oi 0 1), (oi 5 1))]), rfl⟩
  refine awp_region_ 19 ?_
  refine rzl (.agg [(ai a1_0), (ai a1_1), (ai a1_2), (ai a1_3)]) ?_
  refine zc (.own (oi 160 4) .int 0 y4.length) [((oi 160 4), some (.arr 3 .int y4))] [(.agg [(ai a1_0), (ai a1_1), (ai a1_2), (ai a1_3)])] (ok_spec_crOperands h4) ?_
  refine rz0 (ai a3) ?_
  refine rz0 (ai (IntKind.i64.wrap (a3 - 1))) ?_
  refine rcall (.bool y5) [] [(.own (oi 160 4) .int 0 y4.length), (ai 0), (ai (IntKind.i64.wrap (a3 - 1)))] _ (caps := []) (args0 := [(.tree .int y4), (ai 0), (ai (IntKind.i64.wrap (a3 - 1)))]) trivial (gm_cons (gd_own (e := 3) (by kernel_rfl) rfl) (gm_cons (by kernel_rfl) (gm_cons (by kernel_rfl) gm_nil))) (ok_spec_l1All h5) hb_spec_l1All ?_
  refine rz0 (.bool (!y5)) ?_
  refine rz0 (.bool (!y5)) ?_
  refine rs0 (.box (oi 5 1) 0) (zg q6) ?_
  refine rsl (ai a1_0) (zg q6) ?_
  refine rs0 (.bool (a1_0 != 3)) (zg q6) ?_
  refine rs0 (.bool (a1_0 != 3)) (zg q6) ?_
  refine zs q7 ?_
  refine zs q7 ?_
  refine zs q7 ?_
  refine rs0 (.bool false) (s_gd (by kernel_rfl) q6 (zF q7)) ?_
  refine rs0 (.bool false) (zF q6) ?_
  refine rnil (tn_ ?_)
  obtain rfl := zj h
  exact ⟨_, (weak_ren [((oi 0 1), (oi 5 1))]), rfl⟩
 rintro l3_m24 _ rfl h
 (try dsimp only at h)
 rcases cond_some h with ⟨q8, h⟩ | ⟨q8, h⟩
 ·refine awp_condT_ q8 ?_
  refine seqR ?_
  refine awp_ret_ (tr_ ?_)
  obtain rfl := zj h
  exact ret_ [(.bool false)] (p_one rfl zl p_nil)
 refine awp_condF_ q8 ?_
 refine awp_skip_ (tn_ ?_)
 refine wr_ ?_
 refine awp_seqv_ ?_
 refine seqR ?_
 refine awp_block_ ?_
 refine seqR ?_
 rcases cond_some h with ⟨q13, h⟩ | ⟨q13, h⟩
 ·refine awp_condT_ q13 ?_
  refine awp_seqB h (fun (l14_m8 : Bool) S_ => S_ = ⟨mkTm [(8, (.bool l14_m8))], mkOb (someL []), 2⟩) ?_ ?_
  ·intro v_ h
   obtain ⟨y15, h15, h⟩ := ob_some h
   rcases cond_some h with ⟨q16, h⟩ | ⟨q16, h⟩
   ·refine awp_region_ 17 ?_
    refine rz0 (.box (oi 0 1) 3) ?_
    refine rzl (ai a1_3) ?_
    refine rz0 (ai a2) ?_
    refine rz0 (ai (IntKind.i64.wrap (a2 - 1))) ?_
    refine zc (.bool y15) [] [(ai a1_3), (ai 0), (ai (IntKind.i64.wrap (a2 - 1)))] (ok_spec_l1In h15) ?_
    refine rz0 (.bool y15) ?_
    refine rs0 (.box (oi 0 1) 1) (zg q16) ?_
    refine rsl (ai a1_1) (zg q16) ?_
    refine rs0 (.bool (a1_1 == 0)) (zg q16) ?_
    refine rs0 (.bool (a1_1 == 0)) (zT q16) ?_
    refine rsB 1 ?_
    refine rnil (tn_ ?_)
    obtain rfl := zj h
    exact ⟨_, (weak_ren []), rfl⟩
   refine awp_region_ 17 ?_
   refine rz0 (.box (oi 0 1) 3) ?_
   refine rzl (ai a1_3) ?_
   refine rz0 (ai a2) ?_
   refine rz0 (ai (IntKind.i64.wrap (a2 - 1))) ?_
   refine zc (.bool y15) [] [(ai a1_3), (ai 0), (ai (IntKind.i64.wrap (a2 - 1)))] (ok_spec_l1In h15) ?_
   refine rz0 (.bool y15) ?_
   refine zs q16 ?_
   refine zs q16 ?_
   refine zs q16 ?_
   refine rs0 (.bool false) (zF q16) ?_
   refine rsB 1 ?_
   refine rnil (tn_ ?_)
   obtain rfl := zj h
   exact ⟨_, (weak_ren []), rfl⟩
  rintro l14_m8 _ rfl h
  (try dsimp only at h)
  refine awp_ret_ (br_ (tr_ ?_))
  obtain rfl := zj h
  exact ret_ [(.bool l14_m8)] (p_one rfl zl p_nil)
 refine awp_condF_ q13 ?_
 refine seqR ?_
 rcases cond_some h with ⟨q18, h⟩ | ⟨q18, h⟩
 ·refine awp_condT_ q18 ?_
  refine awp_seqB h (fun (l19_m8 : Bool) S_ => S_ = ⟨mkTm [(8, (.bool l19_m8))], mkOb (someL []), 2⟩) ?_ ?_
  ·intro v_ h
   rcases cond_some h with ⟨q20, h⟩ | ⟨q20, h⟩
   ·refine awp_region_ 17 ?_
    refine rz0 (.box (oi 0 1) 3) ?_
    refine rzl (ai a1_3) ?_
    refine rz0 (.bool (a1_3 == 0)) ?_
    refine rz0 (.bool (a1_3 == 0)) ?_
    refine rs0 (.box (oi 0 1) 1) (zg q20) ?_
    refine rsl (ai a1_1) (zg q20) ?_
    refine rs0 (.bool (a1_1 == 0)) (zg q20) ?_
    refine rs0 (.bool (a1_1 == 0)) (zT q20) ?_
    refine rsB 1 ?_
    refine rnil (tn_ ?_)
    obtain rfl := zj h
    exact ⟨_, (weak_ren []), rfl⟩
   refine awp_region_ 17 ?_
   refine rz0 (.box (oi 0 1) 3) ?_
   refine rzl (ai a1_3) ?_
   refine rz0 (.bool (a1_3 == 0)) ?_
   refine rz0 (.bool (a1_3 == 0)) ?_
   refine zs q20 ?_
   refine zs q20 ?_
   refine zs q20 ?_
   refine rs0 (.bool false) (zF q20) ?_
   refine rsB 1 ?_
   refine rnil (tn_ ?_)
   obtain rfl := zj h
   exact ⟨_, (weak_ren []), rfl⟩
  rintro l19_m8 _ rfl h
  (try dsimp only at h)
  refine awp_ret_ (br_ (tr_ ?_))
  obtain rfl := zj h
  exact ret_ [(.bool l19_m8)] (p_one rfl zl p_nil)
 refine awp_condF_ q18 ?_
 refine awp_seqB h (fun (l21_m49 : Bool) S_ => S_ = ⟨mkTm [(0, (ai a0)), (5, (.box (oi 0 1) 0)), (26, (ai a1_0)), (49, (.bool l21_m49))], mkOb (someL [((oi 0 1), .cells 58 [(ai a1_0), (ai a1_1), (ai a1_2), (ai a1_3)])]), 2⟩) ?_ ?_
 ·intro v_ h
  refine seqR ?_
  rcases cond_some h with ⟨q23, h⟩ | ⟨q23, h⟩
  ·refine awp_condT_ q23 ?_
   refine awp_skip_ (tn_ ?_)
   obtain rfl := zj h
   exact ⟨_, (weak_ren []), rfl⟩
  refine awp_condF_ q23 ?_
  refine awp_region_ 12 ?_
  refine rsB 2 ?_
  refine rnil (tn_ ?_)
  obtain rfl := zj h
  exact ⟨_, (weak_ren []), rfl⟩
 rintro l21_m49 _ rfl h
 (try dsimp only at h)
 rcases cond_some h with ⟨q24, h⟩ | ⟨q24, h⟩
 ·refine awp_condT_ q24 ?_
  refine seqR ?_
  refine awp_ret_ (br_ (tr_ ?_))
  obtain rfl := zj h
  exact ret_ [(.bool (a1_3 == 0))] (p_one rfl zl p_nil)
 refine awp_condF_ q24 ?_
 refine seqR ?_
 rcases cond_some h with ⟨q27, h⟩ | ⟨q27, h⟩
 ·refine awp_condT_ q27 ?_
  refine awp_seqv_ ?_
  obtain ⟨y29, h29, h⟩ := ob_some h
  refine awp_region_ 10 ?_
  refine rz0 (.box (oi 0 1) 3) ?_
  refine rzl (ai a1_3) ?_
  refine rz0 (ai a0) ?_
  refine rz0 (ai (IntKind.i64.wrap (a0 - 1))) ?_
  refine zc (.bool y29) [] [(ai a1_3), (ai 0), (ai (IntKind.i64.wrap (a0 - 1)))] (ok_spec_l1In h29) ?_
  refine rsB 1 ?_
  refine rnil (tn_ ?_)
  refine wr_ ?_
  refine awp_ret_ (br_ (tr_ ?_))
  obtain rfl := zj h
  exact ret_ [(.bool y29)] (p_one rfl zl p_nil)
 refine awp_condF_ q27 ?_
 refine awp_skip_ (bn_ (tn_ ?_))
 refine wr_ ?_
 refine seqR ?_
 refine awp_ret_ ?_
 obtain rfl := zj h
 exact ret_ [(.bool false)] (p_one rfl zl p_nil)
def m_spec_crCombines : AC :=
 (.seq (rg [xo 1 (.i (.box 58 (tm 0))), xo 2 (qm (cb false))])
 (.seq (rg [xo 3 (qf 0 (tm 1)), xo 4 (ql (tm 3)), xo 5 (qb .eql (tm 4) (ci 3)), xo 6 (qm (tm 5)), ⟨(some 7), (some (6, false)), (qf 0 (tm 1))⟩, ⟨(some 8), (some (6, false)), (ql (tm 7))⟩, ⟨(some 9), (some (6, false)), (qb .eql (tm 8) (ci 4))⟩, xo 10 (.i (.pick (tm 6) (cb true) (tm 9))), xo 2 (qm (tm 10))])
 .ret))
def r_spec_crCombines : List Res := [.tmp 2]
theorem c_spec_crCombines : compiled Tryd.prog Tryd.f33 = some (m_spec_crCombines, r_spec_crCombines) := by kernel_rfl
def L_spec_crCombines (a0_0 : Int) (a0_1 : Int) (a0_2 : Int) (a0_3 : Int) : Option Bool :=
 Option.bind (cond (a0_0 == 3)
  (some true)
  (some (a0_0 == 4))) fun l2_m2 =>
some l2_m2
def rv_spec_crCombines (r : Bool) : RV := ⟨false, [(false, [.sc (.bool r)])]⟩
theorem ok_spec_crCombines {a0_0 : Int} {a0_1 : Int} {a0_2 : Int} {a0_3 : Int} {r : Bool} (h : L_spec_crCombines a0_0 a0_1 a0_2 a0_3 = some r) : CallOK Tryd.prog Tab 33 [(.agg [(ai a0_0), (ai a0_1), (ai a0_2), (ai a0_3)])] (rv_spec_crCombines r) := by
 refine call_of_ (by kernel_rfl) Tryd.func33 c_spec_crCombines (n := 11) (by kernel_rfl) (by simp) (tl := [(0, (.agg [(ai a0_0), (ai a0_1), (ai a0_2), (ai a0_3)]))]) rfl ?_
 unfold m_spec_crCombines
 unfold L_spec_crCombines at h
 refine seqR ?_
 refine awp_seqB h (fun (l2_m2 : Bool) S_ => S_ = ⟨mkTm [(2, (.bool l2_m2))], mkOb (someL []), 2⟩) ?_ ?_
 ·intro v_ h
  rcases cond_some h with ⟨q3, h⟩ | ⟨q3, h⟩
  ·refine awp_region_ 12 ?_
   refine rz0 (.box (oi 1 1) 0) ?_
   refine rzl (ai a0_0) ?_
   refine rz0 (.bool (a0_0 == 3)) ?_
   refine rz0 (.bool (a0_0 == 3)) ?_
   refine zs q3 ?_
   refine zs q3 ?_
   refine zs q3 ?_
   refine rs0 (.bool true) (zT q3) ?_
   refine rsB 1 ?_
   refine rnil (tn_ ?_)
   obtain rfl := zj h
   exact ⟨_, (weak_ren []), rfl⟩
  refine awp_region_ 12 ?_
  refine rz0 (.box (oi 1 1) 0) ?_
  refine rzl (ai a0_0) ?_
  refine rz0 (.bool (a0_0 == 3)) ?_
  refine rz0 (.bool (a0_0 == 3)) ?_
  refine rs0 (.box (oi 1 1) 0) (zg q3) ?_
  refine rsl (ai a0_0) (zg q3) ?_
  refine rs0 (.bool (a0_0 == 4)) (zg q3) ?_
  refine rs0 (.bool (a0_0 == 4)) (zF q3) ?_
  refine rsB 1 ?_
  refine rnil (tn_ ?_)
  obtain rfl := zj h
  exact ⟨_, (weak_ren []), rfl⟩
 rintro l2_m2 _ rfl h
 (try dsimp only at h)
 refine awp_ret_ ?_
 obtain rfl := zj h
 exact ret_ [(.bool l2_m2)] (p_one rfl zl p_nil)
def m_spec_crOrder_l4 : AC :=
 (.seq (rg [xo 52 (qb .lss (tm 51) (tm 50))])
 (.seq (.cond (tm 52)
  .skip
  (.exit 6))
 (.seq (.block 7 (.seq (rg [xo 53 (qx 1 (tm 49) (tm 51)), xo 54 (ql (tm 53)), xo 12 (qm (tm 54))])
 (rg [xo 55 (qm (tm 10)), xo 56 (qm (tm 55)), ⟨(some 57), (some (56, true)), (qm (tm 4))⟩, ⟨(some 58), (some (56, true)), (qm (tm 12))⟩, ⟨(some 59), (some (56, true)), (qx 1 (tm 57) (tm 58))⟩, ⟨(some 60), (some (56, true)), (ql (tm 59))⟩, xo 61 (.i (.pick (tm 56) (tm 60) (cb false))), xo 10 (qm (tm 61))])))
 (rg [xo 62 (qb .add (tm 51) (ci 1)), xo 51 (qm (tm 62))]))))
def m_spec_crOrder_l3 : AC :=
 (.seq (rg [xo 36 (qb .lss (tm 35) (tm 34))])
 (.seq (.cond (tm 36)
  .skip
  (.exit 4))
 (.seq (.block 5 (.seq (rg [xo 37 (qm (tm 35)), xo 38 (qx 4 (tm 33) (tm 35)), xo 39 (.i (.ld false 4 (tm 38))), xo 9 (.i (.alloc 58 [(.int .i64 0), (.int .i64 0), (.int .i64 0), (.int .i64 0)])), xo 8 (qm (tm 37)), xn (.st false 4 (tm 9) (tm 39))])
 (.seq (.seq (rg [xo 40 (qm (tm 4)), xo 41 (qm (tm 8)), xo 42 (qx 1 (tm 40) (tm 41)), xo 43 (ql (tm 42)), xo 44 (qm (tm 43)), ⟨(some 45), (some (44, false)), (qm (tm 7))⟩, ⟨(some 46), (some (44, false)), (qb .geq (tm 45) (ci 0))⟩, xo 47 (.i (.pick (tm 44) (cb true) (tm 46)))])
 (.cond (tm 47)
  (.exit 5)
  .skip))
 (.seq (rg [xo 10 (qm (cb true))])
 (.seq (.seq (rg [xo 48 (.i (.ld false 4 (tm 9))), xo 49 (qc 56 [(tm 48)] [[none, none, none, none]]), xo 50 (.i (.len (tm 49))), xo 51 (qm (ci 0))])
 (.block 6 (.loop m_spec_crOrder_l4)))
 (.seq (rg [xo 63 (qm (tm 10))])
 (.cond (tm 63)
  (rg [xo 64 (qm (tm 8)), xo 7 (qm (tm 64))])
  .skip)))))))
 (rg [xo 65 (qb .add (tm 35) (ci 1)), xo 35 (qm (tm 65))]))))
def m_spec_crOrder_l2 : AC :=
 (.block 3 (.seq (rg [xo 7 (qm (ci (-1)))])
 (.seq (.seq (rg [xo 32 (qf 1 (tm 1)), xo 33 (ql (tm 32)), xo 34 (.i (.len (tm 33))), xo 35 (qm (ci 0))])
 (.block 4 (.loop m_spec_crOrder_l3)))
 (.seq (.seq (rg [xo 66 (qm (tm 7)), xo 67 (qb .lss (tm 66) (ci 0))])
 (.cond (tm 67)
  (.seq (rg [xo 68 (qm (tm 3)), xo 2 (qm (tm 68))])
  .ret)
  .skip))
 (.seq (rg [xo 69 (qm (tm 4)), xo 70 (qm (tm 7)), xo 71 (qx 1 (tm 69) (tm 70)), xn (qs (tm 71) (cb true))])
 (rg [xo 72 (qm (tm 3)), xo 73 (qm (tm 7)), xo 74 (.mkS 3 .int [(tm 73)]), xo 75 (.append 3 .int 8 (tm 72) (tm 74)), xo 3 (qm (tm 75))]))))))
def m_spec_crOrder_l1 : AC :=
 (.seq (rg [xo 21 (qb .lss (tm 20) (tm 19))])
 (.seq (.cond (tm 21)
  .skip
  (.exit 0))
 (.seq (.block 1 (.seq (rg [xo 22 (qm (tm 20)), xo 23 (qx 4 (tm 18) (tm 20)), xo 24 (.i (.ld false 4 (tm 23))), xo 6 (.i (.alloc 58 [(.int .i64 0), (.int .i64 0), (.int .i64 0), (.int .i64 0)])), xo 5 (qm (tm 22)), xn (.st false 4 (tm 6) (tm 24))])
 (rg [xo 25 (qm (tm 4)), xo 26 (qm (tm 5)), xo 27 (.i (.ld false 4 (tm 6))), xo 28 (qc 33 [(tm 27)] [[none, none, none, none]]), xo 29 (.i (.not (tm 28))), xo 30 (qx 1 (tm 25) (tm 26)), xn (qs (tm 30) (tm 29))])))
 (rg [xo 31 (qb .add (tm 20) (ci 1)), xo 20 (qm (tm 31))]))))
def m_spec_crOrder : AC :=
 (.seq (rg [xo 1 (.i (.box 34 (tm 0))), xo 2 (qm (.cst .nils))])
 (.seq (rg [xo 3 (qm (.cst .nils))])
 (.seq (rg [xo 13 (qf 1 (tm 1)), xo 14 (ql (tm 13)), xo 15 (.i (.len (tm 14))), xo 16 (.make 4 .bool 1 (tm 15) (tm 15)), xo 4 (qm (tm 16))])
 (.seq (.seq (rg [xo 17 (qf 1 (tm 1)), xo 18 (ql (tm 17)), xo 19 (.i (.len (tm 18))), xo 20 (qm (ci 0))])
 (.block 0 (.loop m_spec_crOrder_l1)))
 (.block 2 (.loop m_spec_crOrder_l2))))))
def r_spec_crOrder : List Res := [.tmp 2]
theorem c_spec_crOrder : compiled Tryd.prog Tryd.f34 = some (m_spec_crOrder, r_spec_crOrder) := by kernel_rfl
def L_spec_crOrder_l1 (a0_1 : List (Int × Int × Int × Int)) (l7_m20 : Nat) (l7_m4 : List Bool) : Option (Ctl (Nat × List Bool) (List Bool)) :=
 cond (decide (((l7_m20 : Nat) : Int) < ((a0_1.length : Nat) : Int)))
 (Option.bind (a0_1[l7_m20]?) fun x13 =>
 Option.bind (L_spec_crCombines x13.1 x13.2.1 x13.2.2.1 x13.2.2.2) fun y14 =>
 Option.bind (l7_m4[l7_m20]?) fun x15 =>
 og (l7_m20 + 1 < 4611686018427387904) <|
 some (Ctl.next (l7_m20 + 1, l7_m4.set l7_m20 (!y14))))
 (some (Ctl.out l7_m4))
def L_spec_crOrder_l4 (y36 : List Int) (l17_m4 : List Bool) (l37_m10 : Bool) (l37_m51 : Nat) : Option (Ctl (Bool × Nat) Bool) :=
 cond (decide (((l37_m51 : Nat) : Int) < ((y36.length : Nat) : Int)))
 (Option.bind (Option.bind (y36[l37_m51]?) fun x43 =>
  cond l37_m10
   (Option.bind (getI l17_m4 x43) fun x45 =>
   some x45)
   (some false)) fun l41_m10 =>
 og (l37_m51 + 1 < 4611686018427387904) <|
 some (Ctl.next (l41_m10, l37_m51 + 1)))
 (some (Ctl.out l37_m10))
def L_spec_crOrder_l3 (a0_1 : List (Int × Int × Int × Int)) (l17_m4 : List Bool) (l21_m7 : Int) (l21_m35 : Nat) : Option (Ctl (Int × Nat) Int) :=
 cond (decide (((l21_m35 : Nat) : Int) < ((a0_1.length : Nat) : Int)))
 (Option.bind (Option.bind (a0_1[l21_m35]?) fun x27 =>
  Option.bind (Option.bind (l17_m4[l21_m35]?) fun x30 =>
   cond x30
    (some true)
    (some (decide (0 <= l21_m7)))) fun l29_m47 =>
  cond l29_m47
   (some l21_m7)
   (Option.bind (Option.bind (L_spec_crOperands x27.1 x27.2.1 x27.2.2.1 x27.2.2.2) fun y36 =>
    loopM (fun s_ : Bool × Nat => L_spec_crOrder_l4 y36 l17_m4 s_.1 s_.2) 4611686018427387904 (true, 0)) fun l34_m10 =>
   cond l34_m10
    (some ((l21_m35 : Nat) : Int))
    (some l21_m7))) fun l25_m7 =>
 og (l21_m35 + 1 < 4611686018427387904) <|
 some (Ctl.next (l25_m7, l21_m35 + 1)))
 (some (Ctl.out l21_m7))
def L_spec_crOrder_l2 (a0_1 : List (Int × Int × Int × Int)) (l17_m3 : List Int) (l17_m4 : List Bool) : Option (Ctl (List Int × List Bool) (List Int)) :=
 Option.bind (loopM (fun s_ : Int × Nat => L_spec_crOrder_l3 a0_1 l17_m4 s_.1 s_.2) 4611686018427387904 ((-1), 0)) fun l19_m7 =>
cond (decide (l19_m7 < 0))
 (some (Ctl.out l17_m3))
 (Option.bind (getI l17_m4 l19_m7) fun x55 =>
 og (l17_m3.length + 1 <= 1073741824 ∧ (l17_m3.length + 1) * 8 <= 140737488355328) <|
 some (Ctl.next (l17_m3 ++ ([l19_m7]), l17_m4.set l19_m7.toNat true)))
def L_spec_crOrder (a0_0 : Int) (a0_1 : List (Int × Int × Int × Int)) (a0_2 : List Int) : Option (List Int) :=
 og (0 <= ((a0_1.length : Nat) : Int) ∧ ((a0_1.length : Nat) : Int) <= ((a0_1.length : Nat) : Int) ∧ ((a0_1.length : Nat) : Int) <= 1073741824 ∧ (1 : Int) * ((a0_1.length : Nat) : Int) <= 140737488355328) <|
Option.bind (loopM (fun s_ : Nat × List Bool => L_spec_crOrder_l1 a0_1 s_.1 s_.2) 4611686018427387904 (0, List.replicate a0_1.length (false : Bool))) fun l5_m4 =>
loopM (fun s_ : List Int × List Bool => L_spec_crOrder_l2 a0_1 s_.1 s_.2) 4611686018427387904 ([], l5_m4)
def rv_spec_crOrder (r : List Int) : RV := ⟨false, [(false, [.new 3 .int r])]⟩
theorem ok_spec_crOrder {a0_0 : Int} {a0_1 : List (Int × Int × Int × Int)} {a0_2 : List Int} {r : List Int} (h : L_spec_crOrder a0_0 a0_1 a0_2 = some r) : CallOK Tryd.prog Tab 34 [(.agg [(ai a0_0), (.tree T4 a0_1), (.tree .int a0_2)])] (rv_spec_crOrder r) := by
 refine call_of_ (by kernel_rfl) Tryd.func34 c_spec_crOrder (n := 76) (by kernel_rfl) (by simp) (tl := [(0, (.agg [(ai a0_0), (.tree T4 a0_1), (.tree .int a0_2)]))]) rfl ?_
 unfold m_spec_crOrder
 unfold L_spec_crOrder at h
 refine seqR ?_
 refine seqR ?_
 refine awp_seqv_ ?_
 obtain ⟨g4, h⟩ := og_some h
 refine awp_region_ 9 ?_
 refine rz0 (.box (oi 1 1) 1) ?_
 refine rzl (.tree T4 a0_1) ?_
 refine rz0 (ai ((a0_1.length : Nat) : Int)) ?_
 refine rs1 (.own (oi 16 7) .bool 0 a0_1.length) (oi 16 7) (.arr 4 .bool (List.replicate a0_1.length (false : Bool))) (s_make (t := .bool) (k := .i64) (k' := .i64) (m := ((a0_1.length : Nat) : Int)) (m' := ((a0_1.length : Nat) : Int)) (by kernel_rfl) (by kernel_rfl) g4 rfl) ?_
 refine rsB 1 ?_
 refine rnil (tn_ ?_)
 refine wr_ ?_
 refine awp_seqB h (fun (l5_m4 : List Bool) S_ => S_ = ⟨mkTm [(1, (.box (oi 0 1) 0)), (3, .nils), (4, (.own (oi 1 1) .bool 0 l5_m4.length))], mkOb (someL [((oi 0 1), .cells 34 [(ai a0_0), (.tree T4 a0_1), (.tree .int a0_2)]), ((oi 1 1), .arr 4 .bool l5_m4)]), 2⟩) ?_ ?_
 ·intro v_ h
  refine seqR ?_
  refine awp_block_ ?_
  refine awp_loopL h (fun t_ S_ => ∃ (l7_m20 : Nat), ∃ (l7_m4 : List Bool), t_ = (l7_m20, l7_m4) ∧ S_ = ⟨mkTm [(1, (.box (oi 0 1) 0)), (3, .nils), (4, (.own (oi 1 1) .bool 0 l7_m4.length)), (18, (.tree T4 a0_1)), (19, (ai ((a0_1.length : Nat) : Int))), (20, (ai ((l7_m20 : Nat) : Int)))], mkOb (someL [((oi 0 1), .cells 34 [(ai a0_0), (.tree T4 a0_1), (.tree .int a0_2)]), ((oi 1 1), .arr 4 .bool l7_m4)]), 2⟩) ⟨_, ((weak_tm_ 4 (.own (oi 16 7) .bool 0 a0_1.length) (.own (oi 16 7) .bool 0 ((List.replicate a0_1.length (false : Bool)).length)) (by kernel_rfl) (congrArg (fun z_ => ((.own (oi 16 7) .bool 0 z_) : AV)) (List.length_replicate.symm : a0_1.length = (List.replicate a0_1.length (false : Bool)).length))).trans (weak_ren [((oi 0 1), (oi 1 1)), ((oi 1 1), (oi 16 7))])), ⟨0, List.replicate a0_1.length (false : Bool), rfl, rfl⟩⟩ ?_
  rintro n_ _ _ c_ ⟨l7_m20, l7_m4, rfl, rfl⟩ h hn7
  (try dsimp only at h)
  unfold L_spec_crOrder_l1 at h
  unfold m_spec_crOrder_l1
  refine seqR ?_
  refine awp_seqv_ ?_
  rcases cond_some h with ⟨q10, h⟩ | ⟨q10, h⟩
  ·have q10_ := of_decide_eq_true q10
   refine awp_condT_ q10 ?_
   refine awp_skip_ (tn_ ?_)
   refine wr_ ?_
   refine awp_seqv_ ?_
   refine awp_block_ ?_
   refine awp_seqv_ ?_
   obtain ⟨x13, e13, h⟩ := ob_some h
   refine awp_region_ 9 ?_
   refine rz0 (ai ((l7_m20 : Nat) : Int)) ?_
   refine rs0 (.telt T4 x13 0) (zi (t := T4) (xs := a0_1) (k := .i64) (m := ((l7_m20 : Nat) : Int)) (nat_nn _) e13) ?_
   refine rsB 4 ?_
   refine rnil (tn_ ?_)
   refine wr_ ?_
   obtain ⟨y14, h14, h⟩ := ob_some h
   obtain ⟨x15, e15, h⟩ := ob_some h
   refine awp_region_ 16 ?_
   refine rz0 (.own (oi 1 1) .bool 0 l7_m4.length) ?_
   refine rz0 (ai ((l7_m20 : Nat) : Int)) ?_
   refine rzl (.agg [(ai x13.1), (ai x13.2.1), (ai x13.2.2.1), (ai x13.2.2.2)]) ?_
   refine zc (.bool y14) [] [(.agg [(ai x13.1), (ai x13.2.1), (ai x13.2.2.1), (ai x13.2.2.2)])] (ok_spec_crCombines h14) ?_
   refine rz0 (.bool (!y14)) ?_
   refine rs0 (.elt (oi 1 1) l7_m20 0) (zo (t := .bool) (o := (oi 1 1)) (len := l7_m4.length) (k := .i64) (m := ((l7_m20 : Nat) : Int)) (nat_nn _) (getN_lt e15)) ?_
   refine rsn2 (oi 1 1) (oi 1 1) (.arr 4 .bool (l7_m4.set l7_m20 (!y14))) (s_stE (i := (oi 1 1)) (j := l7_m20) (k := 0) (e := 4) (t := .bool) (xs := l7_m4) (cs := [(.bool (!y14))]) (x1 := !y14) (by kernel_rfl) (by kernel_rfl) e15 (by kernel_rfl) (by kernel_rfl)) ?_
   refine rnil (bn_ (tn_ ?_))
   refine wr_ ?_
   obtain ⟨g16, h⟩ := og_some h
   refine awp_region_ 18 ?_
   refine rs0 (ai ((l7_m20 + 1 : Nat) : Int)) (za g16) ?_
   refine rsB 1 ?_
   refine rnil (tn_ ?_)
   obtain rfl := zj h
   exact ⟨(l7_m20 + 1, l7_m4.set l7_m20 (!y14)), _, ((weak_tm_ 4 (.own (oi 1 1) .bool 0 l7_m4.length) (.own (oi 1 1) .bool 0 ((l7_m4.set l7_m20 (!y14)).length)) (by kernel_rfl) (congrArg (fun z_ => ((.own (oi 1 1) .bool 0 z_) : AV)) (((rfl : l7_m4.length = l7_m4.length).trans List.length_set.symm) : l7_m4.length = (l7_m4.set l7_m20 (!y14)).length))).trans (weak_ren [])), ⟨l7_m20 + 1, l7_m4.set l7_m20 (!y14), rfl, rfl⟩, hn7⟩
  have q10_ := of_decide_eq_false q10
  refine awp_condF_ q10 ?_
  refine awp_exit_ (te_ (te_ (be_ (tn_ ?_))))
  obtain rfl := zj h
  have h := hn7
  (try dsimp only at h)
  obtain rfl := zj h
  exact ⟨_, (weak_ren []), rfl⟩
 rintro l5_m4 _ rfl h
 (try dsimp only at h)
 refine awp_block_ ?_
 refine awp_loopL h (fun t_ S_ => ∃ (l17_m3 : List Int), ∃ (l17_m4 : List Bool), t_ = (l17_m3, l17_m4) ∧ S_ = ⟨mkTm [(1, (.box (oi 0 1) 0)), (3, (.own (oi 1 1) .int 0 l17_m3.length)), (4, (.own (oi 2 1) .bool 0 l17_m4.length))], mkOb (someL [((oi 0 1), .cells 34 [(ai a0_0), (.tree T4 a0_1), (.tree .int a0_2)]), ((oi 1 1), .arr 3 .int l17_m3), ((oi 2 1), .arr 4 .bool l17_m4)]), 2⟩) ⟨_, ((weak_nil_ 3 3 .int rfl (by kernel_rfl)).trans (weak_ren [((oi 1 1), (oi 3 2)), ((oi 2 1), (oi 1 1))])), ⟨[], l5_m4, rfl, rfl⟩⟩ ?_
 rintro n_ _ _ c_ ⟨l17_m3, l17_m4, rfl, rfl⟩ h hn17
 (try dsimp only at h)
 unfold L_spec_crOrder_l2 at h
 unfold m_spec_crOrder_l2
 refine awp_block_ ?_
 refine seqR ?_
 refine awp_seqB h (fun (l19_m7 : Int) S_ => S_ = ⟨mkTm [(1, (.box (oi 0 1) 0)), (3, (.own (oi 1 1) .int 0 l17_m3.length)), (4, (.own (oi 2 1) .bool 0 l17_m4.length)), (7, (ai l19_m7))], mkOb (someL [((oi 0 1), .cells 34 [(ai a0_0), (.tree T4 a0_1), (.tree .int a0_2)]), ((oi 1 1), .arr 3 .int l17_m3), ((oi 2 1), .arr 4 .bool l17_m4)]), 2⟩) ?_ ?_
 ·intro v_ h
  refine seqR ?_
  refine awp_block_ ?_
  refine awp_loopL h (fun t_ S_ => ∃ (l21_m7 : Int), ∃ (l21_m35 : Nat), t_ = (l21_m7, l21_m35) ∧ S_ = ⟨mkTm [(1, (.box (oi 0 1) 0)), (3, (.own (oi 1 1) .int 0 l17_m3.length)), (4, (.own (oi 2 1) .bool 0 l17_m4.length)), (7, (ai l21_m7)), (33, (.tree T4 a0_1)), (34, (ai ((a0_1.length : Nat) : Int))), (35, (ai ((l21_m35 : Nat) : Int)))], mkOb (someL [((oi 0 1), .cells 34 [(ai a0_0), (.tree T4 a0_1), (.tree .int a0_2)]), ((oi 1 1), .arr 3 .int l17_m3), ((oi 2 1), .arr 4 .bool l17_m4)]), 2⟩) ⟨_, (weak_ren []), ⟨(-1), 0, rfl, rfl⟩⟩ ?_
  rintro n_ _ _ c_ ⟨l21_m7, l21_m35, rfl, rfl⟩ h hn21
  (try dsimp only at h)
  unfold L_spec_crOrder_l3 at h
  unfold m_spec_crOrder_l3
  refine seqR ?_
  refine awp_seqv_ ?_
  rcases cond_some h with ⟨q24, h⟩ | ⟨q24, h⟩
  ·have q24_ := of_decide_eq_true q24
   refine awp_condT_ q24 ?_
   refine awp_skip_ (tn_ ?_)
   refine wr_ ?_
   refine awp_seqB h (fun (l25_m7 : Int) S_ => S_ = ⟨mkTm [(1, (.box (oi 0 1) 0)), (3, (.own (oi 1 1) .int 0 l17_m3.length)), (4, (.own (oi 2 1) .bool 0 l17_m4.length)), (7, (ai l25_m7)), (33, (.tree T4 a0_1)), (34, (ai ((a0_1.length : Nat) : Int))), (35, (ai ((l21_m35 : Nat) : Int)))], mkOb (someL [((oi 0 1), .cells 34 [(ai a0_0), (.tree T4 a0_1), (.tree .int a0_2)]), ((oi 1 1), .arr 3 .int l17_m3), ((oi 2 1), .arr 4 .bool l17_m4)]), 2⟩) ?_ ?_
   ·intro v_ h
    refine awp_block_ ?_
    refine awp_seqv_ ?_
    obtain ⟨x27, e27, h⟩ := ob_some h
    refine awp_region_ 9 ?_
    refine rz0 (ai ((l21_m35 : Nat) : Int)) ?_
    refine rs0 (.telt T4 x27 0) (zi (t := T4) (xs := a0_1) (k := .i64) (m := ((l21_m35 : Nat) : Int)) (nat_nn _) e27) ?_
    refine rsB 4 ?_
    refine rnil (tn_ ?_)
    refine wr_ ?_
    refine awp_seqv_ ?_
    refine awp_seqB h (fun (l29_m47 : Bool) S_ => S_ = ⟨mkTm [(1, (.box (oi 0 1) 0)), (3, (.own (oi 1 1) .int 0 l17_m3.length)), (4, (.own (oi 2 1) .bool 0 l17_m4.length)), (7, (ai l21_m7)), (8, (ai ((l21_m35 : Nat) : Int))), (9, (.box (oi 3 1) 0)), (33, (.tree T4 a0_1)), (34, (ai ((a0_1.length : Nat) : Int))), (35, (ai ((l21_m35 : Nat) : Int))), (47, (.bool l29_m47))], mkOb (someL [((oi 0 1), .cells 34 [(ai a0_0), (.tree T4 a0_1), (.tree .int a0_2)]), ((oi 1 1), .arr 3 .int l17_m3), ((oi 2 1), .arr 4 .bool l17_m4), ((oi 3 1), .cells 58 [(ai x27.1), (ai x27.2.1), (ai x27.2.2.1), (ai x27.2.2.2)])]), 2⟩) ?_ ?_
    ·intro v_ h
     obtain ⟨x30, e30, h⟩ := ob_some h
     rcases cond_some h with ⟨q31, h⟩ | ⟨q31, h⟩
     ·refine awp_region_ 17 ?_
      refine rz0 (.own (oi 2 1) .bool 0 l17_m4.length) ?_
      refine rz0 (ai ((l21_m35 : Nat) : Int)) ?_
      refine rs0 (.elt (oi 2 1) l21_m35 0) (zo (t := .bool) (o := (oi 2 1)) (len := l17_m4.length) (k := .i64) (m := ((l21_m35 : Nat) : Int)) (nat_nn _) (getN_lt e30)) ?_
      refine rsl (.bool x30) (s_ldE (i := (oi 2 1)) (j := l21_m35) (k := 0) (e := 4) (t := .bool) (xs := l17_m4) (by kernel_rfl) (by kernel_rfl) e30 (by kernel_rfl)) ?_
      refine rz0 (.bool x30) ?_
      refine zs q31 ?_
      refine zs q31 ?_
      refine rs0 (.bool true) (zT q31) ?_
      refine rnil (tn_ ?_)
      obtain rfl := zj h
      exact ⟨_, (weak_ren [((oi 3 1), (oi 9 6))]), rfl⟩
     refine awp_region_ 17 ?_
     refine rz0 (.own (oi 2 1) .bool 0 l17_m4.length) ?_
     refine rz0 (ai ((l21_m35 : Nat) : Int)) ?_
     refine rs0 (.elt (oi 2 1) l21_m35 0) (zo (t := .bool) (o := (oi 2 1)) (len := l17_m4.length) (k := .i64) (m := ((l21_m35 : Nat) : Int)) (nat_nn _) (getN_lt e30)) ?_
     refine rsl (.bool x30) (s_ldE (i := (oi 2 1)) (j := l21_m35) (k := 0) (e := 4) (t := .bool) (xs := l17_m4) (by kernel_rfl) (by kernel_rfl) e30 (by kernel_rfl)) ?_
     refine rz0 (.bool x30) ?_
     refine rs0 (ai l21_m7) (zg q31) ?_
     refine rs0 (.bool (decide (0 <= l21_m7))) (zg q31) ?_
     refine rs0 (.bool (decide (0 <= l21_m7))) (zF q31) ?_
     refine rnil (tn_ ?_)
     obtain rfl := zj h
     exact ⟨_, (weak_ren [((oi 3 1), (oi 9 6))]), rfl⟩
    rintro l29_m47 _ rfl h
    (try dsimp only at h)
    rcases cond_some h with ⟨q32, h⟩ | ⟨q32, h⟩
    ·refine awp_condT_ q32 ?_
     refine awp_exit_ (te_ (be_ (tn_ ?_)))
     obtain rfl := zj h
     exact ⟨_, (weak_ren []), rfl⟩
    refine awp_condF_ q32 ?_
    refine awp_skip_ (tn_ ?_)
    refine wr_ ?_
    refine seqR ?_
    refine awp_seqB h (fun (l34_m10 : Bool) S_ => S_ = ⟨mkTm [(1, (.box (oi 0 1) 0)), (3, (.own (oi 1 1) .int 0 l17_m3.length)), (4, (.own (oi 2 1) .bool 0 l17_m4.length)), (7, (ai l21_m7)), (8, (ai ((l21_m35 : Nat) : Int))), (10, (.bool l34_m10)), (33, (.tree T4 a0_1)), (34, (ai ((a0_1.length : Nat) : Int))), (35, (ai ((l21_m35 : Nat) : Int)))], mkOb (someL [((oi 0 1), .cells 34 [(ai a0_0), (.tree T4 a0_1), (.tree .int a0_2)]), ((oi 1 1), .arr 3 .int l17_m3), ((oi 2 1), .arr 4 .bool l17_m4)]), 2⟩) ?_ ?_
    ·intro v_ h
     refine awp_seqv_ ?_
     obtain ⟨y36, h36, h⟩ := ob_some h
     refine awp_region_ 7 ?_
     refine rzl (.agg [(ai x27.1), (ai x27.2.1), (ai x27.2.2.1), (ai x27.2.2.2)]) ?_
     refine zc (.own (oi 784 4) .int 0 y36.length) [((oi 784 4), some (.arr 3 .int y36))] [(.agg [(ai x27.1), (ai x27.2.1), (ai x27.2.2.1), (ai x27.2.2.2)])] (ok_spec_crOperands h36) ?_
     refine rsB 2 ?_
     refine rnil (tn_ ?_)
     refine wr_ ?_
     refine awp_block_ ?_
     refine awp_loopL h (fun t_ S_ => ∃ (l37_m10 : Bool), ∃ (l37_m51 : Nat), t_ = (l37_m10, l37_m51) ∧ S_ = ⟨mkTm [(1, (.box (oi 0 1) 0)), (3, (.own (oi 1 1) .int 0 l17_m3.length)), (4, (.own (oi 2 1) .bool 0 l17_m4.length)), (7, (ai l21_m7)), (8, (ai ((l21_m35 : Nat) : Int))), (10, (.bool l37_m10)), (33, (.tree T4 a0_1)), (34, (ai ((a0_1.length : Nat) : Int))), (35, (ai ((l21_m35 : Nat) : Int))), (49, (.own (oi 3 1) .int 0 y36.length)), (50, (ai ((y36.length : Nat) : Int))), (51, (ai ((l37_m51 : Nat) : Int)))], mkOb (someL [((oi 0 1), .cells 34 [(ai a0_0), (.tree T4 a0_1), (.tree .int a0_2)]), ((oi 1 1), .arr 3 .int l17_m3), ((oi 2 1), .arr 4 .bool l17_m4), ((oi 3 1), .arr 3 .int y36)]), 2⟩) ⟨_, (weak_ren [((oi 3 1), (oi 784 4))]), ⟨true, 0, rfl, rfl⟩⟩ ?_
     rintro n_ _ _ c_ ⟨l37_m10, l37_m51, rfl, rfl⟩ h hn37
     (try dsimp only at h)
     unfold L_spec_crOrder_l4 at h
     unfold m_spec_crOrder_l4
     refine seqR ?_
     refine awp_seqv_ ?_
     rcases cond_some h with ⟨q40, h⟩ | ⟨q40, h⟩
     ·have q40_ := of_decide_eq_true q40
      refine awp_condT_ q40 ?_
      refine awp_skip_ (tn_ ?_)
      refine wr_ ?_
      refine awp_seqB h (fun (l41_m10 : Bool) S_ => S_ = ⟨mkTm [(1, (.box (oi 0 1) 0)), (3, (.own (oi 1 1) .int 0 l17_m3.length)), (4, (.own (oi 2 1) .bool 0 l17_m4.length)), (7, (ai l21_m7)), (8, (ai ((l21_m35 : Nat) : Int))), (10, (.bool l41_m10)), (33, (.tree T4 a0_1)), (34, (ai ((a0_1.length : Nat) : Int))), (35, (ai ((l21_m35 : Nat) : Int))), (49, (.own (oi 3 1) .int 0 y36.length)), (50, (ai ((y36.length : Nat) : Int))), (51, (ai ((l37_m51 : Nat) : Int)))], mkOb (someL [((oi 0 1), .cells 34 [(ai a0_0), (.tree T4 a0_1), (.tree .int a0_2)]), ((oi 1 1), .arr 3 .int l17_m3), ((oi 2 1), .arr 4 .bool l17_m4), ((oi 3 1), .arr 3 .int y36)]), 2⟩) ?_ ?_
      ·intro v_ h
       refine awp_block_ ?_
       refine awp_seqv_ ?_
       obtain ⟨x43, e43, h⟩ := ob_some h
       refine awp_region_ 6 ?_
       refine rs0 (.elt (oi 3 1) l37_m51 0) (zo (t := .int) (o := (oi 3 1)) (len := y36.length) (k := .i64) (m := ((l37_m51 : Nat) : Int)) (nat_nn _) (getN_lt e43)) ?_
       refine rsl (ai x43) (s_ldE (i := (oi 3 1)) (j := l37_m51) (k := 0) (e := 3) (t := .int) (xs := y36) (by kernel_rfl) (by kernel_rfl) e43 (by kernel_rfl)) ?_
       refine rsB 1 ?_
       refine rnil (tn_ ?_)
       refine wr_ ?_
       rcases cond_some h with ⟨q44, h⟩ | ⟨q44, h⟩
       ·obtain ⟨x45, f45, h⟩ := ob_some h
        obtain ⟨p45, b45, e45⟩ := getI_some f45
        refine awp_region_ 14 ?_
        refine rz0 (.bool l37_m10) ?_
        refine rz0 (.bool l37_m10) ?_
        refine rs0 (.own (oi 2 1) .bool 0 l17_m4.length) (zg q44) ?_
        refine rs0 (ai x43) (zg q44) ?_
        refine rs0 (.elt (oi 2 1) x43.toNat 0) (s_gd (by kernel_rfl) q44 (zo (t := .bool) (o := (oi 2 1)) (len := l17_m4.length) (k := .i64) (m := x43) p45 (getN_lt e45))) ?_
        refine rsl (.bool x45) (s_gd (by kernel_rfl) q44 (s_ldE (i := (oi 2 1)) (j := x43.toNat) (k := 0) (e := 4) (t := .bool) (xs := l17_m4) (by kernel_rfl) (by kernel_rfl) e45 (by kernel_rfl))) ?_
        refine rs0 (.bool x45) (zT q44) ?_
        refine rsB 1 ?_
        refine rnil (bn_ (tn_ ?_))
        obtain rfl := zj h
        exact ⟨_, (weak_ren []), rfl⟩
       refine awp_region_ 14 ?_
       refine rz0 (.bool l37_m10) ?_
       refine rz0 (.bool l37_m10) ?_
       refine zs q44 ?_
       refine zs q44 ?_
       refine zs q44 ?_
       refine zs q44 ?_
       refine rs0 (.bool false) (zF q44) ?_
       refine rsB 1 ?_
       refine rnil (bn_ (tn_ ?_))
       obtain rfl := zj h
       exact ⟨_, (weak_ren []), rfl⟩
      rintro l41_m10 _ rfl h
      (try dsimp only at h)
      obtain ⟨g46, h⟩ := og_some h
      refine awp_region_ 4 ?_
      refine rs0 (ai ((l37_m51 + 1 : Nat) : Int)) (za g46) ?_
      refine rsB 1 ?_
      refine rnil (tn_ ?_)
      obtain rfl := zj h
      exact ⟨(l41_m10, l37_m51 + 1), _, (weak_ren []), ⟨l41_m10, l37_m51 + 1, rfl, rfl⟩, hn37⟩
     have q40_ := of_decide_eq_false q40
     refine awp_condF_ q40 ?_
     refine awp_exit_ (te_ (te_ (be_ (tn_ ?_))))
     obtain rfl := zj h
     have h := hn37
     (try dsimp only at h)
     obtain rfl := zj h
     exact ⟨_, (weak_ren []), rfl⟩
    rintro l34_m10 _ rfl h
    (try dsimp only at h)
    refine seqR ?_
    rcases cond_some h with ⟨q48, h⟩ | ⟨q48, h⟩
    ·refine awp_condT_ q48 ?_
     refine awp_region_ 5 ?_
     refine rsB 2 ?_
     refine rnil (bn_ (tn_ ?_))
     obtain rfl := zj h
     exact ⟨_, (weak_ren []), rfl⟩
    refine awp_condF_ q48 ?_
    refine awp_skip_ (bn_ (tn_ ?_))
    obtain rfl := zj h
    exact ⟨_, (weak_ren []), rfl⟩
   rintro l25_m7 _ rfl h
   (try dsimp only at h)
   obtain ⟨g49, h⟩ := og_some h
   refine awp_region_ 4 ?_
   refine rs0 (ai ((l21_m35 + 1 : Nat) : Int)) (za g49) ?_
   refine rsB 1 ?_
   refine rnil (tn_ ?_)
   obtain rfl := zj h
   exact ⟨(l25_m7, l21_m35 + 1), _, (weak_ren []), ⟨l25_m7, l21_m35 + 1, rfl, rfl⟩, hn21⟩
  have q24_ := of_decide_eq_false q24
  refine awp_condF_ q24 ?_
  refine awp_exit_ (te_ (te_ (be_ (tn_ ?_))))
  obtain rfl := zj h
  have h := hn21
  (try dsimp only at h)
  obtain rfl := zj h
  exact ⟨_, (weak_ren []), rfl⟩
 rintro l19_m7 _ rfl h
 (try dsimp only at h)
 refine awp_seqv_ ?_
 refine seqR ?_
 rcases cond_some h with ⟨q52, h⟩ | ⟨q52, h⟩
 ·have q52_ := of_decide_eq_true q52
  refine awp_condT_ q52 ?_
  refine seqR ?_
  refine awp_ret_ (tr_ (br_ (tr_ (br_ ?_))))
  obtain rfl := zj h
  have h := hn17
  (try dsimp only at h)
  obtain rfl := zj h
  exact ret_ [(.own (oi 1 1) .int 0 l17_m3.length)] (p_one rfl (l_own (by kernel_rfl) rfl) p_nil)
 have q52_ := of_decide_eq_false q52
 refine awp_condF_ q52 ?_
 refine awp_skip_ (tn_ ?_)
 refine wr_ ?_
 refine awp_seqv_ ?_
 obtain ⟨x55, f55, h⟩ := ob_some h
 obtain ⟨p55, b55, e55⟩ := getI_some f55
 refine awp_region_ 8 ?_
 refine rz0 (.own (oi 2 1) .bool 0 l17_m4.length) ?_
 refine rz0 (ai l19_m7) ?_
 refine rs0 (.elt (oi 2 1) l19_m7.toNat 0) (zo (t := .bool) (o := (oi 2 1)) (len := l17_m4.length) (k := .i64) (m := l19_m7) p55 (getN_lt e55)) ?_
 refine rsn2 (oi 2 1) (oi 2 1) (.arr 4 .bool (l17_m4.set l19_m7.toNat true)) (s_stE (i := (oi 2 1)) (j := l19_m7.toNat) (k := 0) (e := 4) (t := .bool) (xs := l17_m4) (cs := [(.bool true)]) (x1 := true) (by kernel_rfl) (by kernel_rfl) e55 (by kernel_rfl) (by kernel_rfl)) ?_
 refine rnil (tn_ ?_)
 refine wr_ ?_
 obtain ⟨g56, h⟩ := og_some h
 refine awp_region_ 13 ?_
 refine rz0 (.own (oi 1 1) .int 0 l17_m3.length) ?_
 refine rz0 (ai l19_m7) ?_
 refine rs1 (.own (oi 74 10) .int 0 1) (oi 74 10) (.arr 3 .int ([l19_m7])) (by kernel_rfl) ?_
 refine rs2 (.own (oi 1 11) .int 0 ((l17_m3 ++ ([l19_m7])).length)) (oi 1 1) (oi 1 11) (.arr 3 .int (l17_m3 ++ ([l19_m7]))) (s_appO (t := .int) (t' := .int) (xs := l17_m3) (ys := [l19_m7]) (zs := l17_m3 ++ ([l19_m7])) (j := (oi 1 1)) (len := l17_m3.length) (c := (.own (oi 74 10) .int 0 1)) (by kernel_rfl) (by kernel_rfl) rfl (by kernel_rfl) (sr_own (e := 3) (by kernel_rfl) rfl) rfl g56) ?_
 refine rsB 1 ?_
 refine rnil (bn_ (tn_ ?_))
 obtain rfl := zj h
 exact ⟨(l17_m3 ++ ([l19_m7]), l17_m4.set l19_m7.toNat true), _, ((weak_tm_ 4 (.own (oi 2 1) .bool 0 l17_m4.length) (.own (oi 2 1) .bool 0 ((l17_m4.set l19_m7.toNat true).length)) (by kernel_rfl) (congrArg (fun z_ => ((.own (oi 2 1) .bool 0 z_) : AV)) (((rfl : l17_m4.length = l17_m4.length).trans List.length_set.symm) : l17_m4.length = (l17_m4.set l19_m7.toNat true).length))).trans (weak_ren [((oi 1 1), (oi 1 11))])), ⟨l17_m3 ++ ([l19_m7]), l17_m4.set l19_m7.toNat true, rfl, rfl⟩, hn17⟩
def m_spec_crGood_l1 : AC :=
 (.seq (rg [xo 44 (qb .lss (tm 43) (tm 42))])
 (.seq (.cond (tm 44)
  .skip
  (.exit 0))
 (.seq (.block 1 (.seq (rg [xo 45 (qx 4 (tm 41) (tm 43)), xo 46 (.i (.ld false 4 (tm 45))), xo 7 (.i (.alloc 58 [(.int .i64 0), (.int .i64 0), (.int .i64 0), (.int .i64 0)])), xn (.st false 4 (tm 7) (tm 46))])
 (.seq (.seq (rg [xo 47 (qm (tm 0)), xo 48 (.i (.ld false 4 (tm 7))), xo 49 (qf 0 (tm 3)), xo 50 (ql (tm 49)), xo 51 (qf 1 (tm 3)), xo 52 (ql (tm 51)), xo 53 (.i (.len (tm 52))), xo 54 (qc 32 [(tm 47), (tm 48), (tm 50), (tm 53)] [[], [none, none, none, none], [], []]), xo 55 (.i (.not (tm 54)))])
 (.cond (tm 55)
  (.seq (rg [xo 4 (qm (cb false))])
  .ret)
  .skip))
 (.seq (rg [xo 56 (.i (.ld false 4 (tm 7))), xo 57 (qc 33 [(tm 56)] [[none, none, none, none]])])
 (.cond (tm 57)
  (rg [xo 58 (qm (tm 5)), xo 59 (qb .add (tm 58) (ci 1)), xo 5 (qm (tm 59))])
  .skip)))))
 (rg [xo 60 (qb .add (tm 43) (ci 1)), xo 43 (qm (tm 60))]))))
def m_spec_crGood : AC :=
 (.seq (rg [xo 3 (.i (.box 34 (tm 1))), xo 4 (qm (cb false))])
 (.seq (.seq (rg [xo 8 (qm (tm 0)), xo 9 (qc 29 [(tm 8)] [[]]), xo 10 (.i (.not (tm 9))), xo 11 (qm (tm 10)), ⟨(some 12), (some (11, false)), (qf 0 (tm 3))⟩, ⟨(some 13), (some (11, false)), (ql (tm 12))⟩, ⟨(some 14), (some (11, false)), (qc 30 [(tm 13), (ci 0), (ci 8)] [[], [], []])⟩, ⟨(some 15), (some (11, false)), (.i (.not (tm 14)))⟩, xo 16 (.i (.pick (tm 11) (cb true) (tm 15))), xo 17 (qm (tm 16)), ⟨(some 18), (some (17, false)), (qf 1 (tm 3))⟩, ⟨(some 19), (some (17, false)), (ql (tm 18))⟩, ⟨(some 20), (some (17, false)), (.i (.len (tm 19)))⟩, ⟨(some 21), (some (17, false)), (qc 30 [(tm 20), (ci 1), (ci 40)] [[], [], []])⟩, ⟨(some 22), (some (17, false)), (.i (.not (tm 21)))⟩, xo 23 (.i (.pick (tm 17) (cb true) (tm 22))), xo 24 (qm (tm 23)), ⟨(some 25), (some (24, false)), (qf 2 (tm 3))⟩, ⟨(some 26), (some (24, false)), (ql (tm 25))⟩, ⟨(some 27), (some (24, false)), (.i (.len (tm 26)))⟩, ⟨(some 28), (some (24, false)), (qb .gtr (tm 27) (ci 8))⟩, xo 29 (.i (.pick (tm 24) (cb true) (tm 28))), xo 30 (qm (tm 29)), ⟨(some 31), (some (30, false)), (qf 2 (tm 3))⟩, ⟨(some 32), (some (30, false)), (ql (tm 31))⟩, ⟨(some 33), (some (30, false)), (qf 1 (tm 3))⟩, ⟨(some 34), (some (30, false)), (ql (tm 33))⟩, ⟨(some 35), (some (30, false)), (.i (.len (tm 34)))⟩, ⟨(some 36), (some (30, false)), (qb .sub (tm 35) (ci 1))⟩, ⟨(some 37), (some (30, false)), (qc 31 [(tm 32), (ci 0), (tm 36)] [[(some .int)], [], []])⟩, ⟨(some 38), (some (30, false)), (.i (.not (tm 37)))⟩, xo 39 (.i (.pick (tm 30) (cb true) (tm 38)))])
 (.cond (tm 39)
  (.seq (rg [xo 4 (qm (cb false))])
  .ret)
  .skip))
 (.seq (rg [xo 5 (qm (ci 0))])
 (.seq (.seq (rg [xo 40 (qf 1 (tm 3)), xo 41 (ql (tm 40)), xo 42 (.i (.len (tm 41))), xo 43 (qm (ci 0))])
 (.block 0 (.loop m_spec_crGood_l1)))
 (.seq (rg [xo 61 (.i (.ld false 3 (tm 3))), ⟨(some 62), none, (qc 34 [(tm 61)] [[none, (some T4), (some .int)]])⟩, xo 63 (.i (.len (tm 62))), xo 64 (qm (tm 5)), xo 65 (qb .eql (tm 63) (tm 64)), xo 4 (qm (tm 65))])
 .ret)))))
def r_spec_crGood : List Res := [.tmp 4]
theorem c_spec_crGood : compiled Tryd.prog Tryd.f15 = some (m_spec_crGood, r_spec_crGood) := by kernel_rfl
def L_spec_crGood_l1 (a1_1 : List (Int × Int × Int × Int)) (a0 : Int) (a1_0 : Int) (l17_m5 : Nat) (l17_m43 : Nat) : Option (Ctl (Nat × Nat) (Ctl Nat Bool)) :=
 cond (decide (((l17_m43 : Nat) : Int) < ((a1_1.length : Nat) : Int)))
 (seqC (Option.bind (a1_1[l17_m43]?) fun x23 =>
  Option.bind (L_spec_crGate a0 x23.1 x23.2.1 x23.2.2.1 x23.2.2.2 a1_0 ((a1_1.length : Nat) : Int)) fun y26 =>
  cond (!y26)
   (some (Ctl.out (Ctl.out (Ctl.out false))))
   (Option.bind (L_spec_crCombines x23.1 x23.2.1 x23.2.2.1 x23.2.2.2) fun y30 =>
   cond y30
    (og (l17_m5 + 1 < 4611686018427387904) <|
    some (Ctl.next (l17_m5 + 1)))
    (some (Ctl.next l17_m5)))) fun l21_m5 =>
 og (l17_m43 + 1 < 4611686018427387904) <|
 some (Ctl.next (l21_m5, l17_m43 + 1)))
 (some (Ctl.out (Ctl.next l17_m5)))
def L_spec_crGood (a0 : Int) (a1_0 : Int) (a1_1 : List (Int × Int × Int × Int)) (a1_2 : List Int) : Option Bool :=
 Option.bind (Option.bind (L_spec_fdGood a0) fun y4 =>
 cond (!y4)
  (some true)
  (Option.bind (L_spec_l1In a1_0 0 8) fun y6 =>
  cond (!y6)
   (some true)
   (Option.bind (L_spec_l1In ((a1_1.length : Nat) : Int) 1 40) fun y8 =>
   cond (!y8)
    (some true)
    (cond (decide (8 < ((a1_2.length : Nat) : Int)))
     (some true)
     (Option.bind (L_spec_l1All a1_2 0 (IntKind.i64.wrap (((a1_1.length : Nat) : Int) - 1))) fun y11 =>
     some (!y11)))))) fun l3_m39 =>
cond l3_m39
 (some false)
 (seqC (loopM (fun s_ : Nat × Nat => L_spec_crGood_l1 a1_1 a0 a1_0 s_.1 s_.2) 4611686018427387904 (0, 0)) fun l15_m5 =>
 Option.bind (L_spec_crOrder a1_0 a1_1 a1_2) fun y35 =>
 some (((y35.length : Nat) : Int) == ((l15_m5 : Nat) : Int)))
def rv_spec_crGood (r : Bool) : RV := ⟨false, [(false, [.sc (.bool r)])]⟩
theorem ok_spec_crGood {a0 : Int} {a1_0 : Int} {a1_1 : List (Int × Int × Int × Int)} {a1_2 : List Int} {r : Bool} (h : L_spec_crGood a0 a1_0 a1_1 a1_2 = some r) : CallOK Tryd.prog Tab 15 [(ai a0), (.agg [(ai a1_0), (.tree T4 a1_1), (.tree .int a1_2)])] (rv_spec_crGood r) := by
 refine call_of_ (by kernel_rfl) Tryd.func15 c_spec_crGood (n := 66) (by kernel_rfl) (by simp) (tl := [(0, (ai a0)), (1, (.agg [(ai a1_0), (.tree T4 a1_1), (.tree .int a1_2)]))]) rfl ?_
 unfold m_spec_crGood
 unfold L_spec_crGood at h
 refine seqR ?_
 refine awp_seqv_ ?_
 refine awp_seqB h (fun (l3_m39 : Bool) S_ => S_ = ⟨mkTm [(0, (ai a0)), (3, (.box (oi 0 1) 0)), (39, (.bool l3_m39))], mkOb (someL [((oi 0 1), .cells 34 [(ai a1_0), (.tree T4 a1_1), (.tree .int a1_2)])]), 2⟩) ?_ ?_
 ·intro v_ h
  obtain ⟨y4, h4, h⟩ := ob_some h
  rcases cond_some h with ⟨q5, h⟩ | ⟨q5, h⟩
  ·refine awp_region_ 35 ?_
   refine rz0 (ai a0) ?_
   refine zc (.bool y4) [] [(ai a0)] (ok_spec_fdGood h4) ?_
   refine rz0 (.bool (!y4)) ?_
   refine rz0 (.bool (!y4)) ?_
   refine zs q5 ?_
   refine zs q5 ?_
   refine zs q5 ?_
   refine zs q5 ?_
   refine rs0 (.bool true) (zT q5) ?_
   refine rsB 23 ?_
   refine rnil (tn_ ?_)
   obtain rfl := zj h
   exact ⟨_, (weak_ren [((oi 0 1), (oi 3 1))]), rfl⟩
  obtain ⟨y6, h6, h⟩ := ob_some h
  rcases cond_some h with ⟨q7, h⟩ | ⟨q7, h⟩
  ·refine awp_region_ 35 ?_
   refine rz0 (ai a0) ?_
   refine zc (.bool y4) [] [(ai a0)] (ok_spec_fdGood h4) ?_
   refine rz0 (.bool (!y4)) ?_
   refine rz0 (.bool (!y4)) ?_
   refine rs0 (.box (oi 3 1) 0) (zg q5) ?_
   refine rsl (ai a1_0) (zg q5) ?_
   refine rcall (.bool y6) [] [(ai a1_0), (ai 0), (ai 8)] _ (caps := []) (args0 := [(ai a1_0), (ai 0), (ai 8)]) (gdOK_b (by kernel_rfl) q5) (by kernel_rfl) (ok_spec_l1In h6) hb_spec_l1In ?_
   refine rs0 (.bool (!y6)) (zg q5) ?_
   refine rs0 (.bool (!y6)) (zF q5) ?_
   refine rz0 (.bool (!y6)) ?_
   refine zs q7 ?_
   refine zs q7 ?_
   refine zs q7 ?_
   refine zs q7 ?_
   refine zs q7 ?_
   refine rs0 (.bool true) (zT q7) ?_
   refine rsB 16 ?_
   refine rnil (tn_ ?_)
   obtain rfl := zj h
   exact ⟨_, (weak_ren [((oi 0 1), (oi 3 1))]), rfl⟩
  obtain ⟨y8, h8, h⟩ := ob_some h
  rcases cond_some h with ⟨q9, h⟩ | ⟨q9, h⟩
  ·refine awp_region_ 35 ?_
   refine rz0 (ai a0) ?_
   refine zc (.bool y4) [] [(ai a0)] (ok_spec_fdGood h4) ?_
   refine rz0 (.bool (!y4)) ?_
   refine rz0 (.bool (!y4)) ?_
   refine rs0 (.box (oi 3 1) 0) (zg q5) ?_
   refine rsl (ai a1_0) (zg q5) ?_
   refine rcall (.bool y6) [] [(ai a1_0), (ai 0), (ai 8)] _ (caps := []) (args0 := [(ai a1_0), (ai 0), (ai 8)]) (gdOK_b (by kernel_rfl) q5) (by kernel_rfl) (ok_spec_l1In h6) hb_spec_l1In ?_
   refine rs0 (.bool (!y6)) (zg q5) ?_
   refine rs0 (.bool (!y6)) (zF q5) ?_
   refine rz0 (.bool (!y6)) ?_
   refine rs0 (.box (oi 3 1) 1) (zg q7) ?_
   refine rsl (.tree T4 a1_1) (zg q7) ?_
   refine rs0 (ai ((a1_1.length : Nat) : Int)) (zg q7) ?_
   refine rcall (.bool y8) [] [(ai ((a1_1.length : Nat) : Int)), (ai 1), (ai 40)] _ (caps := []) (args0 := [(ai ((a1_1.length : Nat) : Int)), (ai 1), (ai 40)]) (gdOK_b (by kernel_rfl) q7) (by kernel_rfl) (ok_spec_l1In h8) hb_spec_l1In ?_
   refine rs0 (.bool (!y8)) (zg q7) ?_
   refine rs0 (.bool (!y8)) (zF q7) ?_
   refine rz0 (.bool (!y8)) ?_
   refine zs q9 ?_
   refine zs q9 ?_
   refine zs q9 ?_
   refine zs q9 ?_
   refine rs0 (.bool true) (zT q9) ?_
   refine rsB 10 ?_
   refine rnil (tn_ ?_)
   obtain rfl := zj h
   exact ⟨_, (weak_ren [((oi 0 1), (oi 3 1))]), rfl⟩
  rcases cond_some h with ⟨q10, h⟩ | ⟨q10, h⟩
  ·have q10_ := of_decide_eq_true q10
   refine awp_region_ 35 ?_
   refine rz0 (ai a0) ?_
   refine zc (.bool y4) [] [(ai a0)] (ok_spec_fdGood h4) ?_
   refine rz0 (.bool (!y4)) ?_
   refine rz0 (.bool (!y4)) ?_
   refine rs0 (.box (oi 3 1) 0) (zg q5) ?_
   refine rsl (ai a1_0) (zg q5) ?_
   refine rcall (.bool y6) [] [(ai a1_0), (ai 0), (ai 8)] _ (caps := []) (args0 := [(ai a1_0), (ai 0), (ai 8)]) (gdOK_b (by kernel_rfl) q5) (by kernel_rfl) (ok_spec_l1In h6) hb_spec_l1In ?_
   refine rs0 (.bool (!y6)) (zg q5) ?_
   refine rs0 (.bool (!y6)) (zF q5) ?_
   refine rz0 (.bool (!y6)) ?_
   refine rs0 (.box (oi 3 1) 1) (zg q7) ?_
   refine rsl (.tree T4 a1_1) (zg q7) ?_
   refine rs0 (ai ((a1_1.length : Nat) : Int)) (zg q7) ?_
   refine rcall (.bool y8) [] [(ai ((a1_1.length : Nat) : Int)), (ai 1), (ai 40)] _ (caps := []) (args0 := [(ai ((a1_1.length : Nat) : Int)), (ai 1), (ai 40)]) (gdOK_b (by kernel_rfl) q7) (by kernel_rfl) (ok_spec_l1In h8) hb_spec_l1In ?_
   refine rs0 (.bool (!y8)) (zg q7) ?_
   refine rs0 (.bool (!y8)) (zF q7) ?_
   refine rz0 (.bool (!y8)) ?_
   refine rs0 (.box (oi 3 1) 2) (zg q9) ?_
   refine rsl (.tree .int a1_2) (zg q9) ?_
   refine rs0 (ai ((a1_2.length : Nat) : Int)) (zg q9) ?_
   refine rs0 (.bool (decide (8 < ((a1_2.length : Nat) : Int)))) (zg q9) ?_
   refine rs0 (.bool (decide (8 < ((a1_2.length : Nat) : Int)))) (zF q9) ?_
   refine rz0 (.bool (decide (8 < ((a1_2.length : Nat) : Int)))) ?_
   refine zs q10 ?_
   refine zs q10 ?_
   refine zs q10 ?_
   refine zs q10 ?_
   refine zs q10 ?_
   refine zs q10 ?_
   refine zs q10 ?_
   refine zs q10 ?_
   refine rs0 (.bool true) (zT q10) ?_
   refine rnil (tn_ ?_)
   obtain rfl := zj h
   exact ⟨_, (weak_ren [((oi 0 1), (oi 3 1))]), rfl⟩
  have q10_ := of_decide_eq_false q10
  obtain ⟨y11, h11, h⟩ := ob_some h
  refine awp_region_ 35 ?_
  refine rz0 (ai a0) ?_
  refine zc (.bool y4) [] [(ai a0)] (ok_spec_fdGood h4) ?_
  refine rz0 (.bool (!y4)) ?_
  refine rz0 (.bool (!y4)) ?_
  refine rs0 (.box (oi 3 1) 0) (zg q5) ?_
  refine rsl (ai a1_0) (zg q5) ?_
  refine rcall (.bool y6) [] [(ai a1_0), (ai 0), (ai 8)] _ (caps := []) (args0 := [(ai a1_0), (ai 0), (ai 8)]) (gdOK_b (by kernel_rfl) q5) (by kernel_rfl) (ok_spec_l1In h6) hb_spec_l1In ?_
  refine rs0 (.bool (!y6)) (zg q5) ?_
  refine rs0 (.bool (!y6)) (zF q5) ?_
  refine rz0 (.bool (!y6)) ?_
  refine rs0 (.box (oi 3 1) 1) (zg q7) ?_
  refine rsl (.tree T4 a1_1) (zg q7) ?_
  refine rs0 (ai ((a1_1.length : Nat) : Int)) (zg q7) ?_
  refine rcall (.bool y8) [] [(ai ((a1_1.length : Nat) : Int)), (ai 1), (ai 40)] _ (caps := []) (args0 := [(ai ((a1_1.length : Nat) : Int)), (ai 1), (ai 40)]) (gdOK_b (by kernel_rfl) q7) (by kernel_rfl) (ok_spec_l1In h8) hb_spec_l1In ?_
  refine rs0 (.bool (!y8)) (zg q7) ?_
  refine rs0 (.bool (!y8)) (zF q7) ?_
  refine rz0 (.bool (!y8)) ?_
  refine rs0 (.box (oi 3 1) 2) (zg q9) ?_
  refine rsl (.tree .int a1_2) (zg q9) ?_
  refine rs0 (ai ((a1_2.length : Nat) : Int)) (zg q9) ?_
  refine rs0 (.bool (decide (8 < ((a1_2.length : Nat) : Int)))) (zg q9) ?_
  refine rs0 (.bool (decide (8 < ((a1_2.length : Nat) : Int)))) (zF q9) ?_
  refine rz0 (.bool (decide (8 < ((a1_2.length : Nat) : Int)))) ?_
  refine rs0 (.box (oi 3 1) 2) (zg q10) ?_
  refine rsl (.tree .int a1_2) (zg q10) ?_
  refine rs0 (.box (oi 3 1) 1) (zg q10) ?_
  refine rsl (.tree T4 a1_1) (zg q10) ?_
  refine rs0 (ai ((a1_1.length : Nat) : Int)) (zg q10) ?_
  refine rs0 (ai (IntKind.i64.wrap (((a1_1.length : Nat) : Int) - 1))) (zg q10) ?_
  refine rcall (.bool y11) [] [(.tree .int a1_2), (ai 0), (ai (IntKind.i64.wrap (((a1_1.length : Nat) : Int) - 1)))] _ (caps := []) (args0 := [(.tree .int a1_2), (ai 0), (ai (IntKind.i64.wrap (((a1_1.length : Nat) : Int) - 1)))]) (gdOK_b (by kernel_rfl) q10) (by kernel_rfl) (ok_spec_l1All h11) hb_spec_l1All ?_
  refine rs0 (.bool (!y11)) (zg q10) ?_
  refine rs0 (.bool (!y11)) (zF q10) ?_
  refine rnil (tn_ ?_)
  obtain rfl := zj h
  exact ⟨_, (weak_ren [((oi 0 1), (oi 3 1))]), rfl⟩
 rintro l3_m39 _ rfl h
 (try dsimp only at h)
 rcases cond_some h with ⟨q12, h⟩ | ⟨q12, h⟩
 ·refine awp_condT_ q12 ?_
  refine seqR ?_
  refine awp_ret_ (tr_ ?_)
  obtain rfl := zj h
  exact ret_ [(.bool false)] (p_one rfl zl p_nil)
 refine awp_condF_ q12 ?_
 refine awp_skip_ (tn_ ?_)
 refine wr_ ?_
 refine seqR ?_
 refine awp_seqC h (fun (l15_m5 : Nat) S_ => S_ = ⟨mkTm [(3, (.box (oi 0 1) 0)), (5, (ai ((l15_m5 : Nat) : Int)))], mkOb (someL [((oi 0 1), .cells 34 [(ai a1_0), (.tree T4 a1_1), (.tree .int a1_2)])]), 2⟩) ?_ ?_
 ·intro v_ h hk15
  refine seqR ?_
  refine awp_block_ ?_
  refine awp_loopL h (fun t_ S_ => ∃ (l17_m5 : Nat), ∃ (l17_m43 : Nat), t_ = (l17_m5, l17_m43) ∧ S_ = ⟨mkTm [(0, (ai a0)), (3, (.box (oi 0 1) 0)), (5, (ai ((l17_m5 : Nat) : Int))), (41, (.tree T4 a1_1)), (42, (ai ((a1_1.length : Nat) : Int))), (43, (ai ((l17_m43 : Nat) : Int)))], mkOb (someL [((oi 0 1), .cells 34 [(ai a1_0), (.tree T4 a1_1), (.tree .int a1_2)])]), 2⟩) ⟨_, (weak_ren []), ⟨0, 0, rfl, rfl⟩⟩ ?_
  rintro n_ _ _ c_ ⟨l17_m5, l17_m43, rfl, rfl⟩ h hn17
  (try dsimp only at h)
  unfold L_spec_crGood_l1 at h
  unfold m_spec_crGood_l1
  refine seqR ?_
  refine awp_seqv_ ?_
  rcases cond_some h with ⟨q20, h⟩ | ⟨q20, h⟩
  ·have q20_ := of_decide_eq_true q20
   refine awp_condT_ q20 ?_
   refine awp_skip_ (tn_ ?_)
   refine wr_ ?_
   refine awp_seqC h (fun (l21_m5 : Nat) S_ => S_ = ⟨mkTm [(0, (ai a0)), (3, (.box (oi 0 1) 0)), (5, (ai ((l21_m5 : Nat) : Int))), (41, (.tree T4 a1_1)), (42, (ai ((a1_1.length : Nat) : Int))), (43, (ai ((l17_m43 : Nat) : Int)))], mkOb (someL [((oi 0 1), .cells 34 [(ai a1_0), (.tree T4 a1_1), (.tree .int a1_2)])]), 2⟩) ?_ ?_
   ·intro v_ h hk21
    refine awp_block_ ?_
    refine awp_seqv_ ?_
    obtain ⟨x23, e23, h⟩ := ob_some h
    refine awp_region_ 7 ?_
    refine rs0 (.telt T4 x23 0) (zi (t := T4) (xs := a1_1) (k := .i64) (m := ((l17_m43 : Nat) : Int)) (nat_nn _) e23) ?_
    refine rsB 3 ?_
    refine rnil (tn_ ?_)
    refine wr_ ?_
    refine awp_seqv_ ?_
    refine awp_seqv_ ?_
    obtain ⟨y26, h26, h⟩ := ob_some h
    refine awp_region_ 16 ?_
    refine rz0 (ai a0) ?_
    refine rzl (.agg [(ai x23.1), (ai x23.2.1), (ai x23.2.2.1), (ai x23.2.2.2)]) ?_
    refine rz0 (.box (oi 0 1) 0) ?_
    refine rzl (ai a1_0) ?_
    refine rz0 (.box (oi 0 1) 1) ?_
    refine rzl (.tree T4 a1_1) ?_
    refine rz0 (ai ((a1_1.length : Nat) : Int)) ?_
    refine zc (.bool y26) [] [(ai a0), (.agg [(ai x23.1), (ai x23.2.1), (ai x23.2.2.1), (ai x23.2.2.2)]), (ai a1_0), (ai ((a1_1.length : Nat) : Int))] (ok_spec_crGate h26) ?_
    refine rsB 1 ?_
    refine rnil (tn_ ?_)
    refine wr_ ?_
    rcases cond_some h with ⟨q27, h⟩ | ⟨q27, h⟩
    ·refine awp_condT_ q27 ?_
     refine seqR ?_
     refine awp_ret_ (tr_ (br_ (tr_ (tr_ (br_ (tr_ ?_))))))
     obtain rfl := zj h
     have h := hk21
     (try dsimp only at h)
     obtain rfl := zj h
     have h := hn17
     (try dsimp only at h)
     obtain rfl := zj h
     have h := hk15
     (try dsimp only at h)
     obtain rfl := zj h
     exact ret_ [(.bool false)] (p_one rfl zl p_nil)
    refine awp_condF_ q27 ?_
    refine awp_skip_ (tn_ ?_)
    refine wr_ ?_
    refine awp_seqv_ ?_
    obtain ⟨y30, h30, h⟩ := ob_some h
    refine awp_region_ 18 ?_
    refine rzl (.agg [(ai x23.1), (ai x23.2.1), (ai x23.2.2.1), (ai x23.2.2.2)]) ?_
    refine zc (.bool y30) [] [(.agg [(ai x23.1), (ai x23.2.1), (ai x23.2.2.1), (ai x23.2.2.2)])] (ok_spec_crCombines h30) ?_
    refine rnil (tn_ ?_)
    refine wr_ ?_
    rcases cond_some h with ⟨q31, h⟩ | ⟨q31, h⟩
    ·refine awp_condT_ q31 ?_
     obtain ⟨g32, h⟩ := og_some h
     refine awp_region_ 21 ?_
     refine rz0 (ai ((l17_m5 : Nat) : Int)) ?_
     refine rs0 (ai ((l17_m5 + 1 : Nat) : Int)) (za g32) ?_
     refine rsB 1 ?_
     refine rnil (bn_ (tn_ ?_))
     obtain rfl := zj h
     exact ⟨l17_m5 + 1, _, rfl, (weak_ren []), rfl⟩
    refine awp_condF_ q31 ?_
    refine awp_skip_ (bn_ (tn_ ?_))
    obtain rfl := zj h
    exact ⟨l17_m5, _, rfl, (weak_ren []), rfl⟩
   rintro l21_m5 _ rfl h
   (try dsimp only at h)
   obtain ⟨g33, h⟩ := og_some h
   refine awp_region_ 4 ?_
   refine rs0 (ai ((l17_m43 + 1 : Nat) : Int)) (za g33) ?_
   refine rsB 1 ?_
   refine rnil (tn_ ?_)
   obtain rfl := zj h
   exact ⟨(l21_m5, l17_m43 + 1), _, (weak_ren []), ⟨l21_m5, l17_m43 + 1, rfl, rfl⟩, hn17⟩
  have q20_ := of_decide_eq_false q20
  refine awp_condF_ q20 ?_
  refine awp_exit_ (te_ (te_ (be_ (tn_ ?_))))
  obtain rfl := zj h
  have h := hn17
  (try dsimp only at h)
  obtain rfl := zj h
  exact ⟨l17_m5, _, rfl, (weak_ren []), rfl⟩
 rintro l15_m5 _ rfl h
 (try dsimp only at h)
 refine awp_seqv_ ?_
 obtain ⟨y35, h35, h⟩ := ob_some h
 refine awp_region_ 8 ?_
 refine rzl (.agg [(ai a1_0), (.tree T4 a1_1), (.tree .int a1_2)]) ?_
 refine zc (.own (oi 992 3) .int 0 y35.length) [((oi 992 3), some (.arr 3 .int y35))] [(.agg [(ai a1_0), (.tree T4 a1_1), (.tree .int a1_2)])] (ok_spec_crOrder h35) ?_
 refine rsB 4 ?_
 refine rnil (tn_ ?_)
 refine wr_ ?_
 refine awp_ret_ ?_
 obtain rfl := zj h
 exact ret_ [(.bool (((y35.length : Nat) : Int) == ((l15_m5 : Nat) : Int)))] (p_one rfl zl p_nil)
def m_impl_Gate_operands : AC :=
 (.seq (rg [xo 1 (.i (.box 58 (tm 0))), xo 2 (qm (.cst .nils))])
 (.seq (.seq (rg [xo 3 (qf 0 (tm 1)), xo 4 (ql (tm 3))])
 (.block 0 (.seq (rg [xo 6 (qb .eql (tm 4) (ci 3)), xo 5 (qm (tm 6))])
 (.cond (tm 5)
  (.seq (rg [xo 7 (qf 1 (tm 1)), xo 8 (ql (tm 7)), xo 9 (qf 2 (tm 1)), xo 10 (ql (tm 9)), xo 11 (.mkS 3 .int [(tm 8), (tm 10)]), xo 2 (qm (tm 11))])
  .ret)
  (.seq (.seq (rg [xo 13 (qb .eql (tm 4) (ci 4)), xo 12 (qm (tm 13))])
  (.cond (tm 12)
   .skip
   (rg [xo 14 (qb .eql (tm 4) (ci 5)), xo 12 (qm (tm 14))])))
  (.cond (tm 12)
   (.seq (rg [xo 15 (qf 1 (tm 1)), xo 16 (ql (tm 15)), xo 17 (.mkS 3 .int [(tm 16)]), xo 2 (qm (tm 17))])
   .ret)
   .skip))))))
 (.seq (rg [xo 2 (qm (.cst .nils))])
 .ret)))
def r_impl_Gate_operands : List Res := [.tmp 2]
theorem c_impl_Gate_operands : compiled Tryd.prog Tryd.f58 = some (m_impl_Gate_operands, r_impl_Gate_operands) := by kernel_rfl
theorem hb_impl_Gate_operands : hasBody Tryd.prog 58 = true := by kernel_rfl
def L_impl_Gate_operands (a0_0 : Int) (a0_1 : Int) (a0_2 : Int) (a0_3 : Int) : Option (List Int) :=
 cond (a0_0 == 3)
 (some ([a0_1, a0_2]))
 (Option.bind (cond (a0_0 == 4)
   (some (a0_0 == 4))
   (some (a0_0 == 5))) fun l7_m12 =>
 cond l7_m12
  (some ([a0_1]))
  (some []))
def rv_impl_Gate_operands (r : List Int) : RV := ⟨false, [(false, [.new 3 .int r])]⟩
theorem ok_impl_Gate_operands {a0_0 : Int} {a0_1 : Int} {a0_2 : Int} {a0_3 : Int} {r : List Int} (h : L_impl_Gate_operands a0_0 a0_1 a0_2 a0_3 = some r) : CallOK Tryd.prog Tab 58 [(.agg [(ai a0_0), (ai a0_1), (ai a0_2), (ai a0_3)])] (rv_impl_Gate_operands r) := by
 refine call_of_ (by kernel_rfl) Tryd.func58 c_impl_Gate_operands (n := 18) (by kernel_rfl) (by simp) (tl := [(0, (.agg [(ai a0_0), (ai a0_1), (ai a0_2), (ai a0_3)]))]) rfl ?_
 unfold m_impl_Gate_operands
 unfold L_impl_Gate_operands at h
 refine seqR ?_
 refine awp_seqv_ ?_
 refine seqR ?_
 refine awp_block_ ?_
 refine seqR ?_
 rcases cond_some h with ⟨q5, h⟩ | ⟨q5, h⟩
 ·refine awp_condT_ q5 ?_
  refine seqR ?_
  refine awp_ret_ (br_ (tr_ ?_))
  obtain rfl := zj h
  exact ret_ [(.own (oi 11 11) .int 0 2)] (p_one rfl (l_own (by kernel_rfl) rfl) p_nil)
 refine awp_condF_ q5 ?_
 refine awp_seqB h (fun (l7_m12 : Bool) S_ => S_ = ⟨mkTm [(1, (.box (oi 0 1) 0)), (12, (.bool l7_m12))], mkOb (someL [((oi 0 1), .cells 58 [(ai a0_0), (ai a0_1), (ai a0_2), (ai a0_3)])]), 2⟩) ?_ ?_
 ·intro v_ h
  refine seqR ?_
  rcases cond_some h with ⟨q9, h⟩ | ⟨q9, h⟩
  ·refine awp_condT_ q9 ?_
   refine awp_skip_ (tn_ ?_)
   obtain rfl := zj h
   exact ⟨_, (weak_ren [((oi 0 1), (oi 1 1))]), rfl⟩
  refine awp_condF_ q9 ?_
  refine awp_region_ 11 ?_
  refine rsB 2 ?_
  refine rnil (tn_ ?_)
  obtain rfl := zj h
  exact ⟨_, (weak_ren [((oi 0 1), (oi 1 1))]), rfl⟩
 rintro l7_m12 _ rfl h
 (try dsimp only at h)
 rcases cond_some h with ⟨q10, h⟩ | ⟨q10, h⟩
 ·refine awp_condT_ q10 ?_
  refine seqR ?_
  refine awp_ret_ (br_ (tr_ ?_))
  obtain rfl := zj h
  exact ret_ [(.own (oi 17 4) .int 0 1)] (p_one rfl (l_own (by kernel_rfl) rfl) p_nil)
 refine awp_condF_ q10 ?_
 refine awp_skip_ (bn_ (tn_ ?_))
 refine wr_ ?_
 refine seqR ?_
 refine awp_ret_ ?_
 obtain rfl := zj h
 exact ret_ [.nils] (p_one rfl (l_nils rfl) p_nil)
def m_impl_Circuit_isGate : AC :=
 (.seq (rg [xo 3 (.i (.box 34 (tm 0))), xo 5 (.i (.box 58 (tm 2))), xo 6 (qm (cb false))])
 (.seq (.seq (.region [xo 7 (.i (.ld false 4 (tm 5))), xo 8 (qc 58 [(tm 7)] [[none, none, none, none]]), xo 9 (qf 1 (tm 3)), xo 10 (ql (tm 9)), xo 11 (.i (.len (tm 10))), xo 12 (qc 44 [(tm 8), (tm 11)] [[(some .int)], []]), xo 13 (.i (.not (tm 12)))] true [(1, 3)])
 (.cond (tm 13)
  (.seq (rg [xo 6 (qm (cb false))])
  .ret)
  .skip))
 (.seq (.seq (rg [xo 14 (qf 0 (tm 5)), xo 15 (ql (tm 14))])
 (.block 0 (.seq (rg [xo 17 (qb .eql (tm 15) (ci 1)), xo 16 (qm (tm 17))])
 (.cond (tm 16)
  (.seq (rg [xo 18 (qf 1 (tm 5)), xo 19 (ql (tm 18)), xo 20 (qb .eql (tm 19) (ci 0)), xo 21 (qm (tm 20)), ⟨(some 22), (some (21, true)), (qf 2 (tm 5))⟩, ⟨(some 23), (some (21, true)), (ql (tm 22))⟩, ⟨(some 24), (some (21, true)), (qb .eql (tm 23) (ci 0))⟩, xo 25 (.i (.pick (tm 21) (tm 24) (cb false))), xo 26 (qm (tm 25)), ⟨(some 27), (some (26, true)), (qf 3 (tm 5))⟩, ⟨(some 28), (some (26, true)), (ql (tm 27))⟩, ⟨(some 29), (some (26, true)), (qf 0 (tm 3))⟩, ⟨(some 30), (some (26, true)), (ql (tm 29))⟩, ⟨(some 31), (some (26, true)), (qb .sub (tm 30) (ci 1))⟩, ⟨(some 32), (some (26, true)), (qc 43 [(tm 28), (ci 0), (tm 31)] [[], [], []])⟩, xo 33 (.i (.pick (tm 26) (tm 32) (cb false))), xo 6 (qm (tm 33))])
  .ret)
  (.seq (rg [xo 35 (qb .eql (tm 15) (ci 2)), xo 34 (qm (tm 35))])
  (.cond (tm 34)
   (.seq (rg [xo 36 (.i (.ld false 4 (tm 5))), xo 37 (.build [(.int .i64 0), (.int .i64 0), (.int .i64 0), (.int .i64 0)] [(0, 1, (ci 2))]), xo 38 (.i (.cmp false 7 (tm 36) (tm 37))), xo 6 (qm (tm 38))])
   .ret)
   (.seq (rg [xo 40 (qb .eql (tm 15) (ci 3)), xo 39 (qm (tm 40))])
   (.cond (tm 39)
    (.seq (rg [xo 41 (qf 3 (tm 5)), xo 42 (ql (tm 41)), xo 43 (qb .eql (tm 42) (ci 0)), xo 6 (qm (tm 43))])
    .ret)
    (.seq (rg [xo 45 (qb .eql (tm 15) (ci 4)), xo 44 (qm (tm 45))])
    (.cond (tm 44)
     (.seq (rg [xo 46 (qf 2 (tm 5)), xo 47 (ql (tm 46)), xo 48 (qb .eql (tm 47) (ci 0)), xo 49 (qm (tm 48)), ⟨(some 50), (some (49, true)), (qm (tm 1))⟩, ⟨(some 51), (some (49, true)), (qf 3 (tm 5))⟩, ⟨(some 52), (some (49, true)), (ql (tm 51))⟩, ⟨(some 53), (some (49, true)), (qc 59 [(tm 50), (tm 52)] [[], []])⟩, xo 54 (.i (.pick (tm 49) (tm 53) (cb false))), xo 6 (qm (tm 54))])
     .ret)
     (.seq (rg [xo 56 (qb .eql (tm 15) (ci 5)), xo 55 (qm (tm 56))])
     (.cond (tm 55)
      (.seq (rg [xo 57 (qf 2 (tm 5)), xo 58 (ql (tm 57)), xo 59 (qb .eql (tm 58) (ci 0)), xo 60 (qm (tm 59)), ⟨(some 61), (some (60, true)), (qf 3 (tm 5))⟩, ⟨(some 62), (some (60, true)), (ql (tm 61))⟩, ⟨(some 63), (some (60, true)), (qb .eql (tm 62) (ci 0))⟩, xo 64 (.i (.pick (tm 60) (tm 63) (cb false))), xo 6 (qm (tm 64))])
      .ret)
      .skip))))))))))))
 (.seq (rg [xo 6 (qm (cb false))])
 .ret))))
def r_impl_Circuit_isGate : List Res := [.tmp 6]
theorem c_impl_Circuit_isGate : compiled Tryd.prog Tryd.f45 = some (m_impl_Circuit_isGate, r_impl_Circuit_isGate) := by kernel_rfl
def L_impl_Circuit_isGate (a0_0 : Int) (a0_1 : List (Int × Int × Int × Int)) (a0_2 : List Int) (a1 : Int) (a2_0 : Int) (a2_1 : Int) (a2_2 : Int) (a2_3 : Int) : Option Bool :=
 Option.bind (L_impl_Gate_operands a2_0 a2_1 a2_2 a2_3) fun y4 =>
Option.bind (L_impl_areBelow y4 ((a0_1.length : Nat) : Int)) fun y5 =>
cond (!y5)
 (some false)
 (cond (a2_0 == 1)
  (Option.bind (cond (a2_1 == 0)
    (cond (a2_2 == 0)
     (Option.bind (L_impl_within a2_3 0 (IntKind.i64.wrap (a0_0 - 1))) fun y15 =>
     some y15)
     (some false))
    (some false)) fun l12_m6 =>
  some l12_m6)
  (cond (a2_0 == 2)
   (some ([a2_0, a2_1, a2_2, a2_3] == [2, 0, 0, 0]))
   (cond (a2_0 == 3)
    (some (a2_3 == 0))
    (cond (a2_0 == 4)
     (Option.bind (cond (a2_2 == 0)
       (Option.bind (L_impl_isElement a1 a2_3) fun y26 =>
       some y26)
       (some false)) fun l24_m6 =>
     some l24_m6)
     (cond (a2_0 == 5)
      (Option.bind (cond (a2_2 == 0)
        (some (a2_3 == 0))
        (some false)) fun l29_m6 =>
      some l29_m6)
      (some false))))))
def rv_impl_Circuit_isGate (r : Bool) : RV := ⟨false, [(false, [.sc (.bool r)])]⟩
theorem ok_impl_Circuit_isGate {a0_0 : Int} {a0_1 : List (Int × Int × Int × Int)} {a0_2 : List Int} {a1 : Int} {a2_0 : Int} {a2_1 : Int} {a2_2 : Int} {a2_3 : Int} {r : Bool} (h : L_impl_Circuit_isGate a0_0 a0_1 a0_2 a1 a2_0 a2_1 a2_2 a2_3 = some r) : CallOK Tryd.prog Tab 45 [(.agg [(ai a0_0), (.tree T4 a0_1), (.tree .int a0_2)]), (ai a1), (.agg [(ai a2_0), (ai a2_1), (ai a2_2), (ai a2_3)])] (rv_impl_Circuit_isGate r) := by
 refine call_of_ (by kernel_rfl) Tryd.func45 c_impl_Circuit_isGate (n := 65) (by kernel_rfl) (by simp) (tl := [(0, (.agg [(ai a0_0), (.tree T4 a0_1), (.tree .int a0_2)])), (1, (ai a1)), (2, (.agg [(ai a2_0), (ai a2_1), (ai a2_2), (ai a2_3)]))]) rfl ?_
 unfold m_impl_Circuit_isGate
 unfold L_impl_Circuit_isGate at h
 refine seqR ?_
 refine awp_seqv_ ?_
 refine awp_seqv_ ?_
 obtain ⟨y4, h4, h⟩ := ob_some h
 obtain ⟨y5, h5, h⟩ := ob_some h
 refine awp_regionD_ 11 ?_
 refine dzl (.agg [(ai a2_0), (ai a2_1), (ai a2_2), (ai a2_3)]) ?_
 refine dcall (.own (oi 128 5) .int 0 y4.length) [((oi 128 5), some (.arr 3 .int y4))] [(.agg [(ai a2_0), (ai a2_1), (ai a2_2), (ai a2_3)])] _ (caps := []) (args0 := [(.agg [(ai a2_0), (ai a2_1), (ai a2_2), (ai a2_3)])]) trivial (by kernel_rfl) (ok_impl_Gate_operands h4) hb_impl_Gate_operands ?_
 refine dz0 (.box (oi 3 1) 1) ?_
 refine dzl (.tree T4 a0_1) ?_
 refine dz0 (ai ((a0_1.length : Nat) : Int)) ?_
 refine dcall (.bool y5) [] [(.own (oi 128 5) .int 0 y4.length), (ai ((a0_1.length : Nat) : Int))] _ (caps := []) (args0 := [(.tree .int y4), (ai ((a0_1.length : Nat) : Int))]) trivial (gm_cons (gd_own (e := 3) (by kernel_rfl) rfl) (gm_cons (by kernel_rfl) gm_nil)) (ok_impl_areBelow h5) hb_impl_areBelow ?_
 refine dz0 (.bool (!y5)) ?_
 refine dnil (badB_spec (by kernel_rfl)) (tn_ ?_)
 refine wr_ ?_
 rcases cond_some h with ⟨q6, h⟩ | ⟨q6, h⟩
 ·refine awp_condT_ q6 ?_
  refine seqR ?_
  refine awp_ret_ (tr_ ?_)
  obtain rfl := zj h
  exact ret_ [(.bool false)] (p_one rfl zl p_nil)
 refine awp_condF_ q6 ?_
 refine awp_skip_ (tn_ ?_)
 refine wr_ ?_
 refine awp_seqv_ ?_
 refine seqR ?_
 refine awp_block_ ?_
 refine seqR ?_
 rcases cond_some h with ⟨q11, h⟩ | ⟨q11, h⟩
 ·refine awp_condT_ q11 ?_
  refine awp_seqB h (fun (l12_m6 : Bool) S_ => S_ = ⟨mkTm [(6, (.bool l12_m6))], mkOb (someL []), 2⟩) ?_ ?_
  ·intro v_ h
   rcases cond_some h with ⟨q13, h⟩ | ⟨q13, h⟩
   ·rcases cond_some h with ⟨q14, h⟩ | ⟨q14, h⟩
    ·obtain ⟨y15, h15, h⟩ := ob_some h
     refine awp_region_ 32 ?_
     refine rz0 (.box (oi 5 2) 1) ?_
     refine rzl (ai a2_1) ?_
     refine rz0 (.bool (a2_1 == 0)) ?_
     refine rz0 (.bool (a2_1 == 0)) ?_
     refine rs0 (.box (oi 5 2) 2) (zg q13) ?_
     refine rsl (ai a2_2) (zg q13) ?_
     refine rs0 (.bool (a2_2 == 0)) (zg q13) ?_
     refine rs0 (.bool (a2_2 == 0)) (zT q13) ?_
     refine rz0 (.bool (a2_2 == 0)) ?_
     refine rs0 (.box (oi 5 2) 3) (zg q14) ?_
     refine rsl (ai a2_3) (zg q14) ?_
     refine rs0 (.box (oi 3 1) 0) (zg q14) ?_
     refine rsl (ai a0_0) (zg q14) ?_
     refine rs0 (ai (IntKind.i64.wrap (a0_0 - 1))) (zg q14) ?_
     refine rcall (.bool y15) [] [(ai a2_3), (ai 0), (ai (IntKind.i64.wrap (a0_0 - 1)))] _ (caps := []) (args0 := [(ai a2_3), (ai 0), (ai (IntKind.i64.wrap (a0_0 - 1)))]) (gdOK_b (by kernel_rfl) q14) (by kernel_rfl) (ok_impl_within h15) hb_impl_within ?_
     refine rs0 (.bool y15) (zT q14) ?_
     refine rsB 1 ?_
     refine rnil (tn_ ?_)
     obtain rfl := zj h
     exact ⟨_, (weak_ren []), rfl⟩
    refine awp_region_ 32 ?_
    refine rz0 (.box (oi 5 2) 1) ?_
    refine rzl (ai a2_1) ?_
    refine rz0 (.bool (a2_1 == 0)) ?_
    refine rz0 (.bool (a2_1 == 0)) ?_
    refine rs0 (.box (oi 5 2) 2) (zg q13) ?_
    refine rsl (ai a2_2) (zg q13) ?_
    refine rs0 (.bool (a2_2 == 0)) (zg q13) ?_
    refine rs0 (.bool (a2_2 == 0)) (zT q13) ?_
    refine rz0 (.bool (a2_2 == 0)) ?_
    refine zs q14 ?_
    refine zs q14 ?_
    refine zs q14 ?_
    refine zs q14 ?_
    refine zs q14 ?_
    refine zs q14 ?_
    refine rs0 (.bool false) (zF q14) ?_
    refine rsB 1 ?_
    refine rnil (tn_ ?_)
    obtain rfl := zj h
    exact ⟨_, (weak_ren []), rfl⟩
   refine awp_region_ 32 ?_
   refine rz0 (.box (oi 5 2) 1) ?_
   refine rzl (ai a2_1) ?_
   refine rz0 (.bool (a2_1 == 0)) ?_
   refine rz0 (.bool (a2_1 == 0)) ?_
   refine zs q13 ?_
   refine zs q13 ?_
   refine zs q13 ?_
   refine rs0 (.bool false) (zF q13) ?_
   refine rsB 9 ?_
   refine rnil (tn_ ?_)
   obtain rfl := zj h
   exact ⟨_, (weak_ren []), rfl⟩
  rintro l12_m6 _ rfl h
  (try dsimp only at h)
  refine awp_ret_ (br_ (tr_ ?_))
  obtain rfl := zj h
  exact ret_ [(.bool l12_m6)] (p_one rfl zl p_nil)
 refine awp_condF_ q11 ?_
 refine seqR ?_
 rcases cond_some h with ⟨q17, h⟩ | ⟨q17, h⟩
 ·refine awp_condT_ q17 ?_
  refine seqR ?_
  refine awp_ret_ (br_ (tr_ ?_))
  obtain rfl := zj h
  exact ret_ [(.bool ([a2_0, a2_1, a2_2, a2_3] == [2, 0, 0, 0]))] (p_one rfl zl p_nil)
 refine awp_condF_ q17 ?_
 refine seqR ?_
 rcases cond_some h with ⟨q20, h⟩ | ⟨q20, h⟩
 ·refine awp_condT_ q20 ?_
  refine seqR ?_
  refine awp_ret_ (br_ (tr_ ?_))
  obtain rfl := zj h
  exact ret_ [(.bool (a2_3 == 0))] (p_one rfl zl p_nil)
 refine awp_condF_ q20 ?_
 refine seqR ?_
 rcases cond_some h with ⟨q23, h⟩ | ⟨q23, h⟩
 ·refine awp_condT_ q23 ?_
  refine awp_seqB h (fun (l24_m6 : Bool) S_ => S_ = ⟨mkTm [(6, (.bool l24_m6))], mkOb (someL []), 2⟩) ?_ ?_
  ·intro v_ h
   rcases cond_some h with ⟨q25, h⟩ | ⟨q25, h⟩
   ·obtain ⟨y26, h26, h⟩ := ob_some h
    refine awp_region_ 31 ?_
    refine rz0 (.box (oi 5 2) 2) ?_
    refine rzl (ai a2_2) ?_
    refine rz0 (.bool (a2_2 == 0)) ?_
    refine rz0 (.bool (a2_2 == 0)) ?_
    refine rs0 (ai a1) (zg q25) ?_
    refine rs0 (.box (oi 5 2) 3) (zg q25) ?_
    refine rsl (ai a2_3) (zg q25) ?_
    refine rcall (.bool y26) [] [(ai a1), (ai a2_3)] _ (caps := []) (args0 := [(ai a1), (ai a2_3)]) (gdOK_b (by kernel_rfl) q25) (by kernel_rfl) (ok_impl_isElement h26) hb_impl_isElement ?_
    refine rs0 (.bool y26) (zT q25) ?_
    refine rsB 1 ?_
    refine rnil (tn_ ?_)
    obtain rfl := zj h
    exact ⟨_, (weak_ren []), rfl⟩
   refine awp_region_ 31 ?_
   refine rz0 (.box (oi 5 2) 2) ?_
   refine rzl (ai a2_2) ?_
   refine rz0 (.bool (a2_2 == 0)) ?_
   refine rz0 (.bool (a2_2 == 0)) ?_
   refine zs q25 ?_
   refine zs q25 ?_
   refine zs q25 ?_
   refine zs q25 ?_
   refine rs0 (.bool false) (zF q25) ?_
   refine rsB 1 ?_
   refine rnil (tn_ ?_)
   obtain rfl := zj h
   exact ⟨_, (weak_ren []), rfl⟩
  rintro l24_m6 _ rfl h
  (try dsimp only at h)
  refine awp_ret_ (br_ (tr_ ?_))
  obtain rfl := zj h
  exact ret_ [(.bool l24_m6)] (p_one rfl zl p_nil)
 refine awp_condF_ q23 ?_
 refine seqR ?_
 rcases cond_some h with ⟨q28, h⟩ | ⟨q28, h⟩
 ·refine awp_condT_ q28 ?_
  refine awp_seqB h (fun (l29_m6 : Bool) S_ => S_ = ⟨mkTm [(6, (.bool l29_m6))], mkOb (someL []), 2⟩) ?_ ?_
  ·intro v_ h
   rcases cond_some h with ⟨q30, h⟩ | ⟨q30, h⟩
   ·refine awp_region_ 32 ?_
    refine rz0 (.box (oi 5 2) 2) ?_
    refine rzl (ai a2_2) ?_
    refine rz0 (.bool (a2_2 == 0)) ?_
    refine rz0 (.bool (a2_2 == 0)) ?_
    refine rs0 (.box (oi 5 2) 3) (zg q30) ?_
    refine rsl (ai a2_3) (zg q30) ?_
    refine rs0 (.bool (a2_3 == 0)) (zg q30) ?_
    refine rs0 (.bool (a2_3 == 0)) (zT q30) ?_
    refine rsB 1 ?_
    refine rnil (tn_ ?_)
    obtain rfl := zj h
    exact ⟨_, (weak_ren []), rfl⟩
   refine awp_region_ 32 ?_
   refine rz0 (.box (oi 5 2) 2) ?_
   refine rzl (ai a2_2) ?_
   refine rz0 (.bool (a2_2 == 0)) ?_
   refine rz0 (.bool (a2_2 == 0)) ?_
   refine zs q30 ?_
   refine zs q30 ?_
   refine zs q30 ?_
   refine rs0 (.bool false) (zF q30) ?_
   refine rsB 1 ?_
   refine rnil (tn_ ?_)
   obtain rfl := zj h
   exact ⟨_, (weak_ren []), rfl⟩
  rintro l29_m6 _ rfl h
  (try dsimp only at h)
  refine awp_ret_ (br_ (tr_ ?_))
  obtain rfl := zj h
  exact ret_ [(.bool l29_m6)] (p_one rfl zl p_nil)
 refine awp_condF_ q28 ?_
 refine awp_skip_ (bn_ (tn_ ?_))
 refine wr_ ?_
 refine seqR ?_
 refine awp_ret_ ?_
 obtain rfl := zj h
 exact ret_ [(.bool false)] (p_one rfl zl p_nil)
def m_impl_Gate_needs : AC :=
 (.seq (rg [xo 1 (.i (.box 58 (tm 0))), xo 2 (qm (.cst .nils))])
 (.seq (.seq (rg [xo 3 (qf 0 (tm 1)), xo 4 (ql (tm 3)), xo 5 (qb .eql (tm 4) (ci 3)), xo 6 (qm (tm 5)), ⟨(some 7), (some (6, false)), (qf 0 (tm 1))⟩, ⟨(some 8), (some (6, false)), (ql (tm 7))⟩, ⟨(some 9), (some (6, false)), (qb .eql (tm 8) (ci 4))⟩, xo 10 (.i (.pick (tm 6) (cb true) (tm 9)))])
 (.cond (tm 10)
  (.seq (rg [xo 11 (.i (.ld false 4 (tm 1))), xo 12 (qc 58 [(tm 11)] [[none, none, none, none]]), xo 2 (qm (tm 12))])
  .ret)
  .skip))
 (.seq (rg [xo 2 (qm (.cst .nils))])
 .ret)))
def r_impl_Gate_needs : List Res := [.tmp 2]
theorem c_impl_Gate_needs : compiled Tryd.prog Tryd.f60 = some (m_impl_Gate_needs, r_impl_Gate_needs) := by kernel_rfl
theorem hb_impl_Gate_needs : hasBody Tryd.prog 60 = true := by kernel_rfl
def L_impl_Gate_needs (a0_0 : Int) (a0_1 : Int) (a0_2 : Int) (a0_3 : Int) : Option (List Int) :=
 Option.bind (cond (a0_0 == 3)
  (some true)
  (some (a0_0 == 4))) fun l3_m10 =>
cond l3_m10
 (Option.bind (L_impl_Gate_operands a0_0 a0_1 a0_2 a0_3) fun y7 =>
 some y7)
 (some [])
def rv_impl_Gate_needs (r : List Int) : RV := ⟨false, [(false, [.new 3 .int r])]⟩
theorem ok_impl_Gate_needs {a0_0 : Int} {a0_1 : Int} {a0_2 : Int} {a0_3 : Int} {r : List Int} (h : L_impl_Gate_needs a0_0 a0_1 a0_2 a0_3 = some r) : CallOK Tryd.prog Tab 60 [(.agg [(ai a0_0), (ai a0_1), (ai a0_2), (ai a0_3)])] (rv_impl_Gate_needs r) := by
 refine call_of_ (by kernel_rfl) Tryd.func60 c_impl_Gate_needs (n := 13) (by kernel_rfl) (by simp) (tl := [(0, (.agg [(ai a0_0), (ai a0_1), (ai a0_2), (ai a0_3)]))]) rfl ?_
 unfold m_impl_Gate_needs
 unfold L_impl_Gate_needs at h
 refine seqR ?_
 refine awp_seqv_ ?_
 refine awp_seqB h (fun (l3_m10 : Bool) S_ => S_ = ⟨mkTm [(1, (.box (oi 0 1) 0)), (10, (.bool l3_m10))], mkOb (someL [((oi 0 1), .cells 58 [(ai a0_0), (ai a0_1), (ai a0_2), (ai a0_3)])]), 2⟩) ?_ ?_
 ·intro v_ h
  rcases cond_some h with ⟨q4, h⟩ | ⟨q4, h⟩
  ·refine awp_region_ 11 ?_
   refine rz0 (.box (oi 1 1) 0) ?_
   refine rzl (ai a0_0) ?_
   refine rz0 (.bool (a0_0 == 3)) ?_
   refine rz0 (.bool (a0_0 == 3)) ?_
   refine zs q4 ?_
   refine zs q4 ?_
   refine zs q4 ?_
   refine rs0 (.bool true) (zT q4) ?_
   refine rnil (tn_ ?_)
   obtain rfl := zj h
   exact ⟨_, (weak_ren [((oi 0 1), (oi 1 1))]), rfl⟩
  refine awp_region_ 11 ?_
  refine rz0 (.box (oi 1 1) 0) ?_
  refine rzl (ai a0_0) ?_
  refine rz0 (.bool (a0_0 == 3)) ?_
  refine rz0 (.bool (a0_0 == 3)) ?_
  refine rs0 (.box (oi 1 1) 0) (zg q4) ?_
  refine rsl (ai a0_0) (zg q4) ?_
  refine rs0 (.bool (a0_0 == 4)) (zg q4) ?_
  refine rs0 (.bool (a0_0 == 4)) (zF q4) ?_
  refine rnil (tn_ ?_)
  obtain rfl := zj h
  exact ⟨_, (weak_ren [((oi 0 1), (oi 1 1))]), rfl⟩
 rintro l3_m10 _ rfl h
 (try dsimp only at h)
 rcases cond_some h with ⟨q5, h⟩ | ⟨q5, h⟩
 ·refine awp_condT_ q5 ?_
  refine awp_seqv_ ?_
  obtain ⟨y7, h7, h⟩ := ob_some h
  refine awp_region_ 5 ?_
  refine rzl (.agg [(ai a0_0), (ai a0_1), (ai a0_2), (ai a0_3)]) ?_
  refine zc (.own (oi 192 3) .int 0 y7.length) [((oi 192 3), some (.arr 3 .int y7))] [(.agg [(ai a0_0), (ai a0_1), (ai a0_2), (ai a0_3)])] (ok_impl_Gate_operands h7) ?_
  refine rsB 1 ?_
  refine rnil (tn_ ?_)
  refine wr_ ?_
  refine awp_ret_ (tr_ ?_)
  obtain rfl := zj h
  exact ret_ [(.own (oi 192 3) .int 0 y7.length)] (p_one rfl (l_own (by kernel_rfl) rfl) p_nil)
 refine awp_condF_ q5 ?_
 refine awp_skip_ (tn_ ?_)
 refine wr_ ?_
 refine seqR ?_
 refine awp_ret_ ?_
 obtain rfl := zj h
 exact ret_ [.nils] (p_one rfl (l_nils rfl) p_nil)
def m_impl_Circuit_schedule_1_1 : AC :=
 (.seq (rg [xo 3 (qm (cb false))])
 (.seq (rg [xo 4 (ql (tm 1)), xo 5 (qm (tm 0)), xo 6 (.i (.look 85 false (tm 4) (tm 5))), xo 3 (qm (tm 6))])
 .ret))
def r_impl_Circuit_schedule_1_1 : List Res := [.tmp 3]
theorem c_impl_Circuit_schedule_1_1 : compiled Tryd.prog Tryd.f64 = some (m_impl_Circuit_schedule_1_1, r_impl_Circuit_schedule_1_1) := by kernel_rfl
theorem hb_impl_Circuit_schedule_1_1 : hasBody Tryd.prog 64 = true := by kernel_rfl
def L_impl_Circuit_schedule_1_1 (a0 : Int) (c0_0 : List (Int × Bool)) : Option Bool :=
 og (i64R a0) <|
some ((mget c0_0 a0).getD false)
def rv_impl_Circuit_schedule_1_1 (r : Bool) : RV := ⟨false, [(false, [.sc (.bool r)])]⟩
theorem ok_impl_Circuit_schedule_1_1 {a0 : Int} {c0_0 : List (Int × Bool)} {r : Bool} (h : L_impl_Circuit_schedule_1_1 a0 c0_0 = some r) : CallOK Tryd.prog Tab 64 [(ai a0), (.ref [(.mtree 85 .bool c0_0)])] (rv_impl_Circuit_schedule_1_1 r) := by
 refine call_of_ (by kernel_rfl) Tryd.func64 c_impl_Circuit_schedule_1_1 (n := 7) (by kernel_rfl) (by simp) (tl := [(0, (ai a0)), (1, (.ref [(.mtree 85 .bool c0_0)]))]) rfl ?_
 unfold m_impl_Circuit_schedule_1_1
 unfold L_impl_Circuit_schedule_1_1 at h
 refine seqR ?_
 refine awp_seqv_ ?_
 obtain ⟨g3, h⟩ := og_some h
 refine awp_region_ 6 ?_
 refine rz0 (.mtree 85 .bool c0_0) ?_
 refine rz0 (ai a0) ?_
 refine rs0 (.bool ((mget c0_0 a0).getD false)) (s_lookT (t := .bool) (es := c0_0) (k := a0) (by kernel_rfl) (by kernel_rfl) g3) ?_
 refine rsB 1 ?_
 refine rnil (tn_ ?_)
 refine wr_ ?_
 refine awp_ret_ ?_
 obtain rfl := zj h
 exact ret_ [(.bool ((mget c0_0 a0).getD false))] (p_one rfl zl p_nil)
def m_slices_IndexFunc_int_int_l1 : AC :=
 (.seq (rg [xo 9 (qb .lss (tm 8) (tm 7))])
 (.seq (.cond (tm 9)
  .skip
  (.exit 0))
 (.seq (.block 1 (.seq (rg [xo 10 (qm (tm 8)), xo 5 (qm (tm 10))])
 (.seq (rg [xo 11 (qm (tm 1)), xo 12 (qm (tm 0)), xo 13 (qm (tm 5)), xo 14 (qx 1 (tm 12) (tm 13)), xo 15 (ql (tm 14)), xo 16 (.call (tm 11) [(tm 15)] [[]])])
 (.cond (tm 16)
  (.seq (rg [xo 17 (qm (tm 5)), xo 4 (qm (tm 17))])
  .ret)
  .skip))))
 (rg [xo 18 (qb .add (tm 8) (ci 1)), xo 8 (qm (tm 18))]))))
def m_slices_IndexFunc_int_int : AC :=
 (.seq (rg [xo 4 (qm (ci 0))])
 (.seq (.seq (rg [xo 6 (qm (tm 0)), xo 7 (.i (.len (tm 6))), xo 8 (qm (ci 0))])
 (.block 0 (.loop m_slices_IndexFunc_int_int_l1)))
 (.seq (rg [xo 4 (qm (ci (-1)))])
 .ret)))
def r_slices_IndexFunc_int_int : List Res := [.tmp 4]
theorem c_slices_IndexFunc_int_int : compiled Tryd.prog Tryd.f51 = some (m_slices_IndexFunc_int_int, r_slices_IndexFunc_int_int) := by kernel_rfl
theorem hb_slices_IndexFunc_int_int : hasBody Tryd.prog 51 = true := by kernel_rfl
def L_slices_IndexFunc_int_int_for_impl_Circuit_schedule_1_1_l1 (a0 : List Int) (a1_0_0 : List (Int × Bool)) (l4_m8 : Nat) : Option (Ctl Nat (Ctl Unit Int)) :=
 cond (decide (((l4_m8 : Nat) : Int) < ((a0.length : Nat) : Int)))
 (Option.bind (a0[l4_m8]?) fun x11 =>
 Option.bind (L_impl_Circuit_schedule_1_1 x11 a1_0_0) fun y12 =>
 cond y12
  (some (Ctl.out (Ctl.out ((l4_m8 : Nat) : Int))))
  (og (l4_m8 + 1 < 4611686018427387904) <|
  some (Ctl.next (l4_m8 + 1))))
 (some (Ctl.out (Ctl.next ())))
def L_slices_IndexFunc_int_int_for_impl_Circuit_schedule_1_1 (a0 : List Int) (a1_0_0 : List (Int × Bool)) : Option Int :=
 seqC (loopM (fun s_ : Nat => L_slices_IndexFunc_int_int_for_impl_Circuit_schedule_1_1_l1 a0 a1_0_0 s_) 4611686018427387904 0) fun _ =>
some (-1)
def rv_slices_IndexFunc_int_int_for_impl_Circuit_schedule_1_1 (r : Int) : RV := ⟨false, [(false, [.sc (.int .i64 r)])]⟩
theorem ok_slices_IndexFunc_int_int_for_impl_Circuit_schedule_1_1 {a0 : List Int} {a1_0_0 : List (Int × Bool)} {r : Int} (h : L_slices_IndexFunc_int_int_for_impl_Circuit_schedule_1_1 a0 a1_0_0 = some r) : CallOK Tryd.prog Tab 51 [(.tree .int a0), (.fn 64 [(.ref [(.mtree 85 .bool a1_0_0)])])] (rv_slices_IndexFunc_int_int_for_impl_Circuit_schedule_1_1 r) := by
 refine call_of_ (by kernel_rfl) Tryd.func51 c_slices_IndexFunc_int_int (n := 19) (by kernel_rfl) (by simp) (tl := [(0, (.tree .int a0)), (1, (.fn 64 [(.ref [(.mtree 85 .bool a1_0_0)])]))]) rfl ?_
 unfold m_slices_IndexFunc_int_int
 unfold L_slices_IndexFunc_int_int_for_impl_Circuit_schedule_1_1 at h
 refine seqR ?_
 refine awp_seqC h (fun (_ : Unit) S_ => S_ = ⟨mkTm [], mkOb (someL []), 2⟩) ?_ ?_
 ·intro v_ h hk2
  refine seqR ?_
  refine awp_block_ ?_
  refine awp_loopL h (fun (l4_m8 : Nat) S_ => S_ = ⟨mkTm [(0, (.tree .int a0)), (1, (.fn 64 [(.ref [(.mtree 85 .bool a1_0_0)])])), (7, (ai ((a0.length : Nat) : Int))), (8, (ai ((l4_m8 : Nat) : Int)))], mkOb (someL []), 2⟩) ⟨_, (weak_ren []), rfl⟩ ?_
  rintro n_ l4_m8 _ c_ rfl h hn4
  (try dsimp only at h)
  unfold L_slices_IndexFunc_int_int_for_impl_Circuit_schedule_1_1_l1 at h
  unfold m_slices_IndexFunc_int_int_l1
  refine seqR ?_
  refine awp_seqv_ ?_
  rcases cond_some h with ⟨q7, h⟩ | ⟨q7, h⟩
  ·have q7_ := of_decide_eq_true q7
   refine awp_condT_ q7 ?_
   refine awp_skip_ (tn_ ?_)
   refine wr_ ?_
   refine awp_seqv_ ?_
   refine awp_block_ ?_
   refine seqR ?_
   refine awp_seqv_ ?_
   obtain ⟨x11, e11, h⟩ := ob_some h
   obtain ⟨y12, h12, h⟩ := ob_some h
   refine awp_region_ 11 ?_
   refine rz0 (.fn 64 [(.ref [(.mtree 85 .bool a1_0_0)])]) ?_
   refine rz0 (.tree .int a0) ?_
   refine rz0 (ai ((l4_m8 : Nat) : Int)) ?_
   refine rs0 (.telt .int x11 0) (zi (t := .int) (xs := a0) (k := .i64) (m := ((l4_m8 : Nat) : Int)) (nat_nn _) e11) ?_
   refine rz0 (ai x11) ?_
   refine rcall (.bool y12) [] [(ai x11), (.ref [(.mtree 85 .bool a1_0_0)])] _ (caps := [(.ref [(.mtree 85 .bool a1_0_0)])]) (args0 := [(ai x11), (.ref [(.mtree 85 .bool a1_0_0)])]) trivial (by kernel_rfl) (ok_impl_Circuit_schedule_1_1 h12) hb_impl_Circuit_schedule_1_1 ?_
   refine rnil (tn_ ?_)
   refine wr_ ?_
   rcases cond_some h with ⟨q13, h⟩ | ⟨q13, h⟩
   ·refine awp_condT_ q13 ?_
    refine seqR ?_
    refine awp_ret_ (br_ (tr_ (tr_ (br_ (tr_ ?_)))))
    obtain rfl := zj h
    have h := hn4
    (try dsimp only at h)
    obtain rfl := zj h
    have h := hk2
    (try dsimp only at h)
    obtain rfl := zj h
    exact ret_ [(ai ((l4_m8 : Nat) : Int))] (p_one rfl zl p_nil)
   refine awp_condF_ q13 ?_
   refine awp_skip_ (bn_ (tn_ ?_))
   refine wr_ ?_
   obtain ⟨g15, h⟩ := og_some h
   refine awp_region_ 13 ?_
   refine rs0 (ai ((l4_m8 + 1 : Nat) : Int)) (za g15) ?_
   refine rsB 1 ?_
   refine rnil (tn_ ?_)
   obtain rfl := zj h
   exact ⟨l4_m8 + 1, _, (weak_ren []), rfl, hn4⟩
  have q7_ := of_decide_eq_false q7
  refine awp_condF_ q7 ?_
  refine awp_exit_ (te_ (te_ (be_ (tn_ ?_))))
  obtain rfl := zj h
  have h := hn4
  (try dsimp only at h)
  obtain rfl := zj h
  exact ⟨(), _, rfl, (weak_ren []), rfl⟩
 rintro _ _ rfl h
 (try dsimp only at h)
 refine seqR ?_
 refine awp_ret_ ?_
 obtain rfl := zj h
 exact ret_ [(ai (-1))] (p_one rfl zl p_nil)
def m_slices_ContainsFunc_int_int : AC :=
 (.seq (rg [xo 4 (qm (cb false))])
 (.seq (rg [xo 5 (qm (tm 0)), xo 6 (qm (tm 1)), xo 7 (qc 51 [(tm 5), (tm 6)] [[(some .int)], []]), xo 8 (qb .geq (tm 7) (ci 0)), xo 4 (qm (tm 8))])
 .ret))
def r_slices_ContainsFunc_int_int : List Res := [.tmp 4]
theorem c_slices_ContainsFunc_int_int : compiled Tryd.prog Tryd.f63 = some (m_slices_ContainsFunc_int_int, r_slices_ContainsFunc_int_int) := by kernel_rfl
theorem hb_slices_ContainsFunc_int_int : hasBody Tryd.prog 63 = true := by kernel_rfl
def L_slices_ContainsFunc_int_int_for_impl_Circuit_schedule_1_1 (a0 : List Int) (a1_0_0 : List (Int × Bool)) : Option Bool :=
 Option.bind (L_slices_IndexFunc_int_int_for_impl_Circuit_schedule_1_1 a0 a1_0_0) fun y3 =>
some (decide (0 <= y3))
def rv_slices_ContainsFunc_int_int_for_impl_Circuit_schedule_1_1 (r : Bool) : RV := ⟨false, [(false, [.sc (.bool r)])]⟩
theorem ok_slices_ContainsFunc_int_int_for_impl_Circuit_schedule_1_1 {a0 : List Int} {a1_0_0 : List (Int × Bool)} {r : Bool} (h : L_slices_ContainsFunc_int_int_for_impl_Circuit_schedule_1_1 a0 a1_0_0 = some r) : CallOK Tryd.prog Tab 63 [(.tree .int a0), (.fn 64 [(.ref [(.mtree 85 .bool a1_0_0)])])] (rv_slices_ContainsFunc_int_int_for_impl_Circuit_schedule_1_1 r) := by
 refine call_of_ (by kernel_rfl) Tryd.func63 c_slices_ContainsFunc_int_int (n := 9) (by kernel_rfl) (by simp) (tl := [(0, (.tree .int a0)), (1, (.fn 64 [(.ref [(.mtree 85 .bool a1_0_0)])]))]) rfl ?_
 unfold m_slices_ContainsFunc_int_int
 unfold L_slices_ContainsFunc_int_int_for_impl_Circuit_schedule_1_1 at h
 refine seqR ?_
 refine awp_seqv_ ?_
 obtain ⟨y3, h3, h⟩ := ob_some h
 refine awp_region_ 7 ?_
 refine rz0 (.tree .int a0) ?_
 refine rz0 (.fn 64 [(.ref [(.mtree 85 .bool a1_0_0)])]) ?_
 refine zc (ai y3) [] [(.tree .int a0), (.fn 64 [(.ref [(.mtree 85 .bool a1_0_0)])])] (ok_slices_IndexFunc_int_int_for_impl_Circuit_schedule_1_1 h3) ?_
 refine rsB 2 ?_
 refine rnil (tn_ ?_)
 refine wr_ ?_
 refine awp_ret_ ?_
 obtain rfl := zj h
 exact ret_ [(.bool (decide (0 <= y3)))] (p_one rfl zl p_nil)
def m_impl_Circuit_schedule_1 : AC :=
 (.seq (rg [xo 4 (qm (cb false))])
 (.seq (rg [xo 5 (ql (tm 1)), xo 6 (qm (tm 0)), xo 7 (.i (.look 85 false (tm 5) (tm 6))), xo 8 (qm (tm 7)), ⟨(some 9), (some (8, true)), (qf 1 (tm 2))⟩, ⟨(some 10), (some (8, true)), (ql (tm 9))⟩, ⟨(some 11), (some (8, true)), (qm (tm 0))⟩, ⟨(some 12), (some (8, true)), (qx 4 (tm 10) (tm 11))⟩, ⟨(some 13), (some (8, true)), (.i (.ld false 4 (tm 12)))⟩, ⟨(some 14), (some (8, true)), (qc 60 [(tm 13)] [[none, none, none, none]])⟩, ⟨(some 15), (some (8, true)), (.i (.mkfn 64 [(tm 1)]))⟩, ⟨(some 16), (some (8, true)), (qc 63 [(tm 14), (tm 15)] [[(some .int)], []])⟩, ⟨(some 17), (some (8, true)), (.i (.not (tm 16)))⟩, xo 18 (.i (.pick (tm 8) (tm 17) (cb false))), xo 4 (qm (tm 18))])
 .ret))
def r_impl_Circuit_schedule_1 : List Res := [.tmp 4]
theorem c_impl_Circuit_schedule_1 : compiled Tryd.prog Tryd.f62 = some (m_impl_Circuit_schedule_1, r_impl_Circuit_schedule_1) := by kernel_rfl
theorem hb_impl_Circuit_schedule_1 : hasBody Tryd.prog 62 = true := by kernel_rfl
def L_impl_Circuit_schedule_1 (a0 : Int) (c0_0 : List (Int × Bool)) (c1_0 : Int) (c1_1 : List (Int × Int × Int × Int)) (c1_2 : List Int) : Option Bool :=
 Option.bind (og (i64R a0) <|
 cond ((mget c0_0 a0).getD false)
  (Option.bind (getI c1_1 a0) fun x5 =>
  Option.bind (L_impl_Gate_needs x5.1 x5.2.1 x5.2.2.1 x5.2.2.2) fun y6 =>
  Option.bind (L_slices_ContainsFunc_int_int_for_impl_Circuit_schedule_1_1 y6 c0_0) fun y7 =>
  some (!y7))
  (some false)) fun l2_m4 =>
some l2_m4
def rv_impl_Circuit_schedule_1 (r : Bool) : RV := ⟨false, [(false, [.sc (.bool r)])]⟩
theorem ok_impl_Circuit_schedule_1 {a0 : Int} {c0_0 : List (Int × Bool)} {c1_0 : Int} {c1_1 : List (Int × Int × Int × Int)} {c1_2 : List Int} {r : Bool} (h : L_impl_Circuit_schedule_1 a0 c0_0 c1_0 c1_1 c1_2 = some r) : CallOK Tryd.prog Tab 62 [(ai a0), (.ref [(.mtree 85 .bool c0_0)]), (.ref [(ai c1_0), (.tree T4 c1_1), (.tree .int c1_2)])] (rv_impl_Circuit_schedule_1 r) := by
 refine call_of_ (by kernel_rfl) Tryd.func62 c_impl_Circuit_schedule_1 (n := 19) (by kernel_rfl) (by simp) (tl := [(0, (ai a0)), (1, (.ref [(.mtree 85 .bool c0_0)])), (2, (.ref [(ai c1_0), (.tree T4 c1_1), (.tree .int c1_2)]))]) rfl ?_
 unfold m_impl_Circuit_schedule_1
 unfold L_impl_Circuit_schedule_1 at h
 refine seqR ?_
 refine awp_seqB h (fun (l2_m4 : Bool) S_ => S_ = ⟨mkTm [(4, (.bool l2_m4))], mkOb (someL []), 2⟩) ?_ ?_
 ·intro v_ h
  obtain ⟨g3, h⟩ := og_some h
  rcases cond_some h with ⟨q4, h⟩ | ⟨q4, h⟩
  ·obtain ⟨x5, f5, h⟩ := ob_some h
   obtain ⟨p5, b5, e5⟩ := getI_some f5
   obtain ⟨y6, h6, h⟩ := ob_some h
   obtain ⟨y7, h7, h⟩ := ob_some h
   refine awp_region_ 17 ?_
   refine rz0 (.mtree 85 .bool c0_0) ?_
   refine rz0 (ai a0) ?_
   refine rs0 (.bool ((mget c0_0 a0).getD false)) (s_lookT (t := .bool) (es := c0_0) (k := a0) (by kernel_rfl) (by kernel_rfl) g3) ?_
   refine rz0 (.bool ((mget c0_0 a0).getD false)) ?_
   refine rs0 (.ref [(.tree T4 c1_1), (.tree .int c1_2)]) (zg q4) ?_
   refine rs0 (.tree T4 c1_1) (zg q4) ?_
   refine rs0 (ai a0) (zg q4) ?_
   refine rs0 (.telt T4 x5 0) (s_gd (by kernel_rfl) q4 (zi (t := T4) (xs := c1_1) (k := .i64) (m := a0) p5 e5)) ?_
   refine rs0 (.agg [(ai x5.1), (ai x5.2.1), (ai x5.2.2.1), (ai x5.2.2.2)]) (zg q4) ?_
   refine rcall (.own (oi 224 11) .int 0 y6.length) [((oi 224 11), some (.arr 3 .int y6))] [(.agg [(ai x5.1), (ai x5.2.1), (ai x5.2.2.1), (ai x5.2.2.2)])] _ (caps := []) (args0 := [(.agg [(ai x5.1), (ai x5.2.1), (ai x5.2.2.1), (ai x5.2.2.2)])]) (gdOK_b (by kernel_rfl) q4) (by kernel_rfl) (ok_impl_Gate_needs h6) hb_impl_Gate_needs ?_
   refine rs0 (.fn 64 [(.ref [(.mtree 85 .bool c0_0)])]) (zg q4) ?_
   refine rcall (.bool y7) [] [(.own (oi 224 11) .int 0 y6.length), (.fn 64 [(.ref [(.mtree 85 .bool c0_0)])])] _ (caps := []) (args0 := [(.tree .int y6), (.fn 64 [(.ref [(.mtree 85 .bool c0_0)])])]) (gdOK_b (by kernel_rfl) q4) (gm_cons (gd_own (e := 3) (by kernel_rfl) rfl) (gm_cons (by kernel_rfl) gm_nil)) (ok_slices_ContainsFunc_int_int_for_impl_Circuit_schedule_1_1 h7) hb_slices_ContainsFunc_int_int ?_
   refine rs0 (.bool (!y7)) (zg q4) ?_
   refine rs0 (.bool (!y7)) (zT q4) ?_
   refine rsB 1 ?_
   refine rnil (tn_ ?_)
   obtain rfl := zj h
   exact ⟨_, (weak_ren []), rfl⟩
  refine awp_region_ 17 ?_
  refine rz0 (.mtree 85 .bool c0_0) ?_
  refine rz0 (ai a0) ?_
  refine rs0 (.bool ((mget c0_0 a0).getD false)) (s_lookT (t := .bool) (es := c0_0) (k := a0) (by kernel_rfl) (by kernel_rfl) g3) ?_
  refine rz0 (.bool ((mget c0_0 a0).getD false)) ?_
  refine zs q4 ?_
  refine zs q4 ?_
  refine zs q4 ?_
  refine zs q4 ?_
  refine zs q4 ?_
  refine zs q4 ?_
  refine zs q4 ?_
  refine zs q4 ?_
  refine zs q4 ?_
  refine rs0 (.bool false) (zF q4) ?_
  refine rsB 1 ?_
  refine rnil (tn_ ?_)
  obtain rfl := zj h
  exact ⟨_, (weak_ren []), rfl⟩
 rintro l2_m4 _ rfl h
 (try dsimp only at h)
 refine awp_ret_ ?_
 obtain rfl := zj h
 exact ret_ [(.bool l2_m4)] (p_one rfl zl p_nil)
def L_slices_IndexFunc_int_int_for_impl_Circuit_schedule_1_l1 (a0 : List Int) (a1_0_0 : List (Int × Bool)) (a1_1_0 : Int) (a1_1_1 : List (Int × Int × Int × Int)) (a1_1_2 : List Int) (l4_m8 : Nat) : Option (Ctl Nat (Ctl Unit Int)) :=
 cond (decide (((l4_m8 : Nat) : Int) < ((a0.length : Nat) : Int)))
 (Option.bind (a0[l4_m8]?) fun x11 =>
 Option.bind (L_impl_Circuit_schedule_1 x11 a1_0_0 a1_1_0 a1_1_1 a1_1_2) fun y12 =>
 cond y12
  (some (Ctl.out (Ctl.out ((l4_m8 : Nat) : Int))))
  (og (l4_m8 + 1 < 4611686018427387904) <|
  some (Ctl.next (l4_m8 + 1))))
 (some (Ctl.out (Ctl.next ())))
def L_slices_IndexFunc_int_int_for_impl_Circuit_schedule_1 (a0 : List Int) (a1_0_0 : List (Int × Bool)) (a1_1_0 : Int) (a1_1_1 : List (Int × Int × Int × Int)) (a1_1_2 : List Int) : Option Int :=
 seqC (loopM (fun s_ : Nat => L_slices_IndexFunc_int_int_for_impl_Circuit_schedule_1_l1 a0 a1_0_0 a1_1_0 a1_1_1 a1_1_2 s_) 4611686018427387904 0) fun _ =>
some (-1)
def rv_slices_IndexFunc_int_int_for_impl_Circuit_schedule_1 (r : Int) : RV := ⟨false, [(false, [.sc (.int .i64 r)])]⟩
theorem ok_slices_IndexFunc_int_int_for_impl_Circuit_schedule_1 {a0 : List Int} {a1_0_0 : List (Int × Bool)} {a1_1_0 : Int} {a1_1_1 : List (Int × Int × Int × Int)} {a1_1_2 : List Int} {r : Int} (h : L_slices_IndexFunc_int_int_for_impl_Circuit_schedule_1 a0 a1_0_0 a1_1_0 a1_1_1 a1_1_2 = some r) : CallOK Tryd.prog Tab 51 [(.tree .int a0), (.fn 62 [(.ref [(.mtree 85 .bool a1_0_0)]), (.ref [(ai a1_1_0), (.tree T4 a1_1_1), (.tree .int a1_1_2)])])] (rv_slices_IndexFunc_int_int_for_impl_Circuit_schedule_1 r) := by
 refine call_of_ (by kernel_rfl) Tryd.func51 c_slices_IndexFunc_int_int (n := 19) (by kernel_rfl) (by simp) (tl := [(0, (.tree .int a0)), (1, (.fn 62 [(.ref [(.mtree 85 .bool a1_0_0)]), (.ref [(ai a1_1_0), (.tree T4 a1_1_1), (.tree .int a1_1_2)])]))]) rfl ?_
 unfold m_slices_IndexFunc_int_int
 unfold L_slices_IndexFunc_int_int_for_impl_Circuit_schedule_1 at h
 refine seqR ?_
 refine awp_seqC h (fun (_ : Unit) S_ => S_ = ⟨mkTm [], mkOb (someL []), 2⟩) ?_ ?_
 ·intro v_ h hk2
  refine seqR ?_
  refine awp_block_ ?_
  refine awp_loopL h (fun (l4_m8 : Nat) S_ => S_ = ⟨mkTm [(0, (.tree .int a0)), (1, (.fn 62 [(.ref [(.mtree 85 .bool a1_0_0)]), (.ref [(ai a1_1_0), (.tree T4 a1_1_1), (.tree .int a1_1_2)])])), (7, (ai ((a0.length : Nat) : Int))), (8, (ai ((l4_m8 : Nat) : Int)))], mkOb (someL []), 2⟩) ⟨_, (weak_ren []), rfl⟩ ?_
  rintro n_ l4_m8 _ c_ rfl h hn4
  (try dsimp only at h)
  unfold L_slices_IndexFunc_int_int_for_impl_Circuit_schedule_1_l1 at h
  unfold m_slices_IndexFunc_int_int_l1
  refine seqR ?_
  refine awp_seqv_ ?_
  rcases cond_some h with ⟨q7, h⟩ | ⟨q7, h⟩
  ·have q7_ := of_decide_eq_true q7
   refine awp_condT_ q7 ?_
   refine awp_skip_ (tn_ ?_)
   refine wr_ ?_
   refine awp_seqv_ ?_
   refine awp_block_ ?_
   refine seqR ?_
   refine awp_seqv_ ?_
   obtain ⟨x11, e11, h⟩ := ob_some h
   obtain ⟨y12, h12, h⟩ := ob_some h
   refine awp_region_ 11 ?_
   refine rz0 (.fn 62 [(.ref [(.mtree 85 .bool a1_0_0)]), (.ref [(ai a1_1_0), (.tree T4 a1_1_1), (.tree .int a1_1_2)])]) ?_
   refine rz0 (.tree .int a0) ?_
   refine rz0 (ai ((l4_m8 : Nat) : Int)) ?_
   refine rs0 (.telt .int x11 0) (zi (t := .int) (xs := a0) (k := .i64) (m := ((l4_m8 : Nat) : Int)) (nat_nn _) e11) ?_
   refine rz0 (ai x11) ?_
   refine rcall (.bool y12) [] [(ai x11), (.ref [(.mtree 85 .bool a1_0_0)]), (.ref [(ai a1_1_0), (.tree T4 a1_1_1), (.tree .int a1_1_2)])] _ (caps := [(.ref [(.mtree 85 .bool a1_0_0)]), (.ref [(ai a1_1_0), (.tree T4 a1_1_1), (.tree .int a1_1_2)])]) (args0 := [(ai x11), (.ref [(.mtree 85 .bool a1_0_0)]), (.ref [(ai a1_1_0), (.tree T4 a1_1_1), (.tree .int a1_1_2)])]) trivial (by kernel_rfl) (ok_impl_Circuit_schedule_1 h12) hb_impl_Circuit_schedule_1 ?_
   refine rnil (tn_ ?_)
   refine wr_ ?_
   rcases cond_some h with ⟨q13, h⟩ | ⟨q13, h⟩
   ·refine awp_condT_ q13 ?_
    refine seqR ?_
    refine awp_ret_ (br_ (tr_ (tr_ (br_ (tr_ ?_)))))
    obtain rfl := zj h
    have h := hn4
    (try dsimp only at h)
    obtain rfl := zj h
    have h := hk2
    (try dsimp only at h)
    obtain rfl := zj h
    exact ret_ [(ai ((l4_m8 : Nat) : Int))] (p_one rfl zl p_nil)
   refine awp_condF_ q13 ?_
   refine awp_skip_ (bn_ (tn_ ?_))
   refine wr_ ?_
   obtain ⟨g15, h⟩ := og_some h
   refine awp_region_ 13 ?_
   refine rs0 (ai ((l4_m8 + 1 : Nat) : Int)) (za g15) ?_
   refine rsB 1 ?_
   refine rnil (tn_ ?_)
   obtain rfl := zj h
   exact ⟨l4_m8 + 1, _, (weak_ren []), rfl, hn4⟩
  have q7_ := of_decide_eq_false q7
  refine awp_condF_ q7 ?_
  refine awp_exit_ (te_ (te_ (be_ (tn_ ?_))))
  obtain rfl := zj h
  have h := hn4
  (try dsimp only at h)
  obtain rfl := zj h
  exact ⟨(), _, rfl, (weak_ren []), rfl⟩
 rintro _ _ rfl h
 (try dsimp only at h)
 refine seqR ?_
 refine awp_ret_ ?_
 obtain rfl := zj h
 exact ret_ [(ai (-1))] (p_one rfl zl p_nil)
def m_impl_Circuit_schedule_l2 : AC :=
 (.seq (.seq (rg [xo 26 (ql (tm 4)), xo 27 (.i (.lenM 85 (tm 26))), xo 28 (qb .gtr (tm 27) (ci 0))])
 (.cond (tm 28)
  .skip
  (.exit 2)))
 (.block 3 (.seq (rg [xo 29 (qf 1 (tm 1)), xo 30 (ql (tm 29)), xo 31 (.i (.len (tm 30))), xo 32 (qc 61 [(tm 31)] [[]]), xo 33 (.i (.mkfn 62 [(tm 4), (tm 1)])), xo 34 (qc 51 [(tm 32), (tm 33)] [[(some .int)], []]), xo 8 (qm (tm 34))])
 (.seq (.seq (rg [xo 35 (qm (tm 8)), xo 36 (qb .lss (tm 35) (ci 0))])
 (.cond (tm 36)
  (.seq (rg [xo 2 (qm (.cst .nils)), xo 3 (qm (cb false))])
  .ret)
  .skip))
 (.seq (rg [xo 37 (ql (tm 4)), xo 38 (qm (tm 8)), xn (.del 85 (tm 37) (tm 38))])
 (rg [xo 39 (qm (tm 7)), xo 40 (qm (tm 8)), xo 41 (.mkS 3 .int [(tm 40)]), xo 42 (.append 3 .int 8 (tm 39) (tm 41)), xo 7 (qm (tm 42))]))))))
def m_impl_Circuit_schedule_l1 : AC :=
 (.seq (rg [xo 14 (qb .lss (tm 13) (tm 12))])
 (.seq (.cond (tm 14)
  .skip
  (.exit 0))
 (.seq (.block 1 (.seq (rg [xo 15 (qm (tm 13)), xo 16 (qx 4 (tm 11) (tm 13)), xo 17 (.i (.ld false 4 (tm 16))), xo 6 (.i (.alloc 58 [(.int .i64 0), (.int .i64 0), (.int .i64 0), (.int .i64 0)])), xo 5 (qm (tm 15)), xn (.st false 4 (tm 6) (tm 17))])
 (.seq (rg [xo 18 (.i (.ld false 4 (tm 6))), xo 19 (qc 60 [(tm 18)] [[none, none, none, none]]), xo 20 (.i (.len (tm 19))), xo 21 (qb .gtr (tm 20) (ci 0))])
 (.cond (tm 21)
  (rg [xo 22 (ql (tm 4)), xo 23 (qm (tm 5)), xn (.upd 85 (tm 22) (tm 23) (cb true))])
  .skip))))
 (rg [xo 24 (qb .add (tm 13) (ci 1)), xo 13 (qm (tm 24))]))))
def m_impl_Circuit_schedule : AC :=
 (.seq (rg [xo 1 (.i (.box 34 (tm 0))), xo 2 (qm (.cst .nils)), xo 3 (qm (cb false))])
 (.seq (rg [xo 9 (.makeM 85 .bool), xo 4 (.i (.alloc 85 [.any])), xn (qs (tm 4) (tm 9))])
 (.seq (.seq (rg [xo 10 (qf 1 (tm 1)), xo 11 (ql (tm 10)), xo 12 (.i (.len (tm 11))), xo 13 (qm (ci 0))])
 (.block 0 (.loop m_impl_Circuit_schedule_l1)))
 (.seq (rg [xo 25 (.mkS 3 .int []), xo 7 (qm (tm 25))])
 (.seq (.block 2 (.loop m_impl_Circuit_schedule_l2))
 (.seq (rg [xo 43 (qm (tm 7)), xo 2 (qm (tm 43)), xo 3 (qm (cb true))])
 .ret))))))
def r_impl_Circuit_schedule : List Res := [.tmp 2, .tmp 3]
theorem c_impl_Circuit_schedule : compiled Tryd.prog Tryd.f46 = some (m_impl_Circuit_schedule, r_impl_Circuit_schedule) := by kernel_rfl
def L_impl_Circuit_schedule_l1 (a0_1 : List (Int × Int × Int × Int)) (l5_m13 : Nat) (l5_m4_0 : List (Int × Bool)) : Option (Ctl (Nat × (List (Int × Bool))) (List (Int × Bool))) :=
 cond (decide (((l5_m13 : Nat) : Int) < ((a0_1.length : Nat) : Int)))
 (Option.bind (Option.bind (a0_1[l5_m13]?) fun x11 =>
  Option.bind (L_impl_Gate_needs x11.1 x11.2.1 x11.2.2.1 x11.2.2.2) fun y13 =>
  cond (decide (0 < ((y13.length : Nat) : Int)))
   (og (i64R ((l5_m13 : Nat) : Int) ∧ l5_m4_0.length < 1073741824) <|
   some (mput l5_m4_0 ((l5_m13 : Nat) : Int) true))
   (some l5_m4_0)) fun l9_m4_0 =>
 og (l5_m13 + 1 < 4611686018427387904) <|
 some (Ctl.next (l5_m13 + 1, l9_m4_0)))
 (some (Ctl.out l5_m4_0))
def L_impl_Circuit_schedule_l2 (a0_1 : List (Int × Int × Int × Int)) (a0_0 : Int) (a0_2 : List Int) (l19_m7 : List Int) (l19_m4_0 : List (Int × Bool)) : Option (Ctl (List Int × (List (Int × Bool))) (Ctl (List Int) (List Int × Bool))) :=
 cond (decide (0 < ((l19_m4_0.length : Nat) : Int)))
 (Option.bind (L_impl_upTo ((a0_1.length : Nat) : Int)) fun y24 =>
 Option.bind (L_slices_IndexFunc_int_int_for_impl_Circuit_schedule_1 y24 l19_m4_0 a0_0 a0_1 a0_2) fun y25 =>
 cond (decide (y25 < 0))
  (some (Ctl.out (Ctl.out ([], false))))
  (og (i64R y25) <|
  og (l19_m7.length + 1 <= 1073741824 ∧ (l19_m7.length + 1) * 8 <= 140737488355328) <|
  some (Ctl.next (l19_m7 ++ ([y25]), mdel l19_m4_0 y25))))
 (some (Ctl.out (Ctl.next l19_m7)))
def L_impl_Circuit_schedule (a0_0 : Int) (a0_1 : List (Int × Int × Int × Int)) (a0_2 : List Int) : Option (List Int × Bool) :=
 Option.bind (loopM (fun s_ : Nat × (List (Int × Bool)) => L_impl_Circuit_schedule_l1 a0_1 s_.1 s_.2) 4611686018427387904 (0, [])) fun l3_m4_0 =>
seqC (loopM (fun s_ : List Int × (List (Int × Bool)) => L_impl_Circuit_schedule_l2 a0_1 a0_0 a0_2 s_.1 s_.2) 4611686018427387904 ([], l3_m4_0)) fun l18_m7 =>
some (l18_m7, true)
def rv_impl_Circuit_schedule (r : List Int × Bool) : RV := ⟨true, [(false, [.new 3 .int r.1]), (false, [.sc (.bool r.2)])]⟩
theorem ok_impl_Circuit_schedule {a0_0 : Int} {a0_1 : List (Int × Int × Int × Int)} {a0_2 : List Int} {r : List Int × Bool} (h : L_impl_Circuit_schedule a0_0 a0_1 a0_2 = some r) : CallOK Tryd.prog Tab 46 [(.agg [(ai a0_0), (.tree T4 a0_1), (.tree .int a0_2)])] (rv_impl_Circuit_schedule r) := by
 refine call_of_ (by kernel_rfl) Tryd.func46 c_impl_Circuit_schedule (n := 44) (by kernel_rfl) (by simp) (tl := [(0, (.agg [(ai a0_0), (.tree T4 a0_1), (.tree .int a0_2)]))]) rfl ?_
 unfold m_impl_Circuit_schedule
 unfold L_impl_Circuit_schedule at h
 refine seqR ?_
 refine seqR ?_
 refine awp_seqB h (fun (l3_m4_0 : List (Int × Bool)) S_ => S_ = ⟨mkTm [(1, (.box (oi 0 1) 0)), (4, (.box (oi 1 1) 0))], mkOb (someL [((oi 0 1), .cells 34 [(ai a0_0), (.tree T4 a0_1), (.tree .int a0_2)]), ((oi 1 1), .cells 85 [(.mp (oi 2 1))]), ((oi 2 1), .map 85 .bool l3_m4_0)]), 2⟩) ?_ ?_
 ·intro v_ h
  refine seqR ?_
  refine awp_block_ ?_
  refine awp_loopL h (fun t_ S_ => ∃ (l5_m13 : Nat), ∃ (l5_m4_0 : List (Int × Bool)), t_ = (l5_m13, l5_m4_0) ∧ S_ = ⟨mkTm [(1, (.box (oi 0 1) 0)), (4, (.box (oi 1 1) 0)), (11, (.tree T4 a0_1)), (12, (ai ((a0_1.length : Nat) : Int))), (13, (ai ((l5_m13 : Nat) : Int)))], mkOb (someL [((oi 0 1), .cells 34 [(ai a0_0), (.tree T4 a0_1), (.tree .int a0_2)]), ((oi 1 1), .cells 85 [(.mp (oi 2 1))]), ((oi 2 1), .map 85 .bool l5_m4_0)]), 2⟩) ⟨_, (weak_ren [((oi 0 1), (oi 1 1)), ((oi 1 1), (oi 4 5)), ((oi 2 1), (oi 9 4))]), ⟨0, [], rfl, rfl⟩⟩ ?_
  rintro n_ _ _ c_ ⟨l5_m13, l5_m4_0, rfl, rfl⟩ h hn5
  (try dsimp only at h)
  unfold L_impl_Circuit_schedule_l1 at h
  unfold m_impl_Circuit_schedule_l1
  refine seqR ?_
  refine awp_seqv_ ?_
  rcases cond_some h with ⟨q8, h⟩ | ⟨q8, h⟩
  ·have q8_ := of_decide_eq_true q8
   refine awp_condT_ q8 ?_
   refine awp_skip_ (tn_ ?_)
   refine wr_ ?_
   refine awp_seqB h (fun (l9_m4_0 : List (Int × Bool)) S_ => S_ = ⟨mkTm [(1, (.box (oi 0 1) 0)), (4, (.box (oi 1 1) 0)), (11, (.tree T4 a0_1)), (12, (ai ((a0_1.length : Nat) : Int))), (13, (ai ((l5_m13 : Nat) : Int)))], mkOb (someL [((oi 0 1), .cells 34 [(ai a0_0), (.tree T4 a0_1), (.tree .int a0_2)]), ((oi 1 1), .cells 85 [(.mp (oi 2 1))]), ((oi 2 1), .map 85 .bool l9_m4_0)]), 2⟩) ?_ ?_
   ·intro v_ h
    refine awp_block_ ?_
    refine awp_seqv_ ?_
    obtain ⟨x11, e11, h⟩ := ob_some h
    refine awp_region_ 9 ?_
    refine rz0 (ai ((l5_m13 : Nat) : Int)) ?_
    refine rs0 (.telt T4 x11 0) (zi (t := T4) (xs := a0_1) (k := .i64) (m := ((l5_m13 : Nat) : Int)) (nat_nn _) e11) ?_
    refine rsB 4 ?_
    refine rnil (tn_ ?_)
    refine wr_ ?_
    refine awp_seqv_ ?_
    obtain ⟨y13, h13, h⟩ := ob_some h
    refine awp_region_ 13 ?_
    refine rzl (.agg [(ai x11.1), (ai x11.2.1), (ai x11.2.2.1), (ai x11.2.2.2)]) ?_
    refine zc (.own (oi 304 10) .int 0 y13.length) [((oi 304 10), some (.arr 3 .int y13))] [(.agg [(ai x11.1), (ai x11.2.1), (ai x11.2.2.1), (ai x11.2.2.2)])] (ok_impl_Gate_needs h13) ?_
    refine rsB 2 ?_
    refine rnil (tn_ ?_)
    refine wr_ ?_
    rcases cond_some h with ⟨q14, h⟩ | ⟨q14, h⟩
    ·have q14_ := of_decide_eq_true q14
     refine awp_condT_ q14 ?_
     obtain ⟨g15, h⟩ := og_some h
     refine awp_region_ 16 ?_
     refine rzl (.mp (oi 2 1)) ?_
     refine rz0 (ai ((l5_m13 : Nat) : Int)) ?_
     refine rsn2 (oi 2 1) (oi 2 1) (.map 85 .bool (mput l5_m4_0 ((l5_m13 : Nat) : Int) true)) (s_updB (es := l5_m4_0) (k := ((l5_m13 : Nat) : Int)) (nv := true) (by kernel_rfl) (by kernel_rfl) (by kernel_rfl) (by kernel_rfl) g15) ?_
     refine rnil (bn_ (tn_ ?_))
     obtain rfl := zj h
     exact ⟨_, (weak_ren []), rfl⟩
    have q14_ := of_decide_eq_false q14
    refine awp_condF_ q14 ?_
    refine awp_skip_ (bn_ (tn_ ?_))
    obtain rfl := zj h
    exact ⟨_, (weak_ren []), rfl⟩
   rintro l9_m4_0 _ rfl h
   (try dsimp only at h)
   obtain ⟨g16, h⟩ := og_some h
   refine awp_region_ 4 ?_
   refine rs0 (ai ((l5_m13 + 1 : Nat) : Int)) (za g16) ?_
   refine rsB 1 ?_
   refine rnil (tn_ ?_)
   obtain rfl := zj h
   exact ⟨(l5_m13 + 1, l9_m4_0), _, (weak_ren []), ⟨l5_m13 + 1, l9_m4_0, rfl, rfl⟩, hn5⟩
  have q8_ := of_decide_eq_false q8
  refine awp_condF_ q8 ?_
  refine awp_exit_ (te_ (te_ (be_ (tn_ ?_))))
  obtain rfl := zj h
  have h := hn5
  (try dsimp only at h)
  obtain rfl := zj h
  exact ⟨_, (weak_ren []), rfl⟩
 rintro l3_m4_0 _ rfl h
 (try dsimp only at h)
 refine seqR ?_
 refine awp_seqC h (fun (l18_m7 : List Int) S_ => S_ = ⟨mkTm [(7, (.own (oi 0 1) .int 0 l18_m7.length))], mkOb (someL [((oi 0 1), .arr 3 .int l18_m7)]), 2⟩) ?_ ?_
 ·intro v_ h hk18
  refine awp_block_ ?_
  refine awp_loopL h (fun t_ S_ => ∃ (l19_m7 : List Int), ∃ (l19_m4_0 : List (Int × Bool)), t_ = (l19_m7, l19_m4_0) ∧ S_ = ⟨mkTm [(1, (.box (oi 0 1) 0)), (4, (.box (oi 1 1) 0)), (7, (.own (oi 2 1) .int 0 l19_m7.length))], mkOb (someL [((oi 0 1), .cells 34 [(ai a0_0), (.tree T4 a0_1), (.tree .int a0_2)]), ((oi 1 1), .cells 85 [(.mp (oi 3 1))]), ((oi 2 1), .arr 3 .int l19_m7), ((oi 3 1), .map 85 .bool l19_m4_0)]), 2⟩) ⟨_, (weak_ren [((oi 3 1), (oi 2 1)), ((oi 2 1), (oi 25 2))]), ⟨[], l3_m4_0, rfl, rfl⟩⟩ ?_
  rintro n_ _ _ c_ ⟨l19_m7, l19_m4_0, rfl, rfl⟩ h hn19
  (try dsimp only at h)
  unfold L_impl_Circuit_schedule_l2 at h
  unfold m_impl_Circuit_schedule_l2
  refine awp_seqv_ ?_
  refine seqR ?_
  rcases cond_some h with ⟨q22, h⟩ | ⟨q22, h⟩
  ·have q22_ := of_decide_eq_true q22
   refine awp_condT_ q22 ?_
   refine awp_skip_ (tn_ ?_)
   refine wr_ ?_
   refine awp_block_ ?_
   refine awp_seqv_ ?_
   obtain ⟨y24, h24, h⟩ := ob_some h
   obtain ⟨y25, h25, h⟩ := ob_some h
   refine awp_region_ 12 ?_
   refine rz0 (.box (oi 0 1) 1) ?_
   refine rzl (.tree T4 a0_1) ?_
   refine rz0 (ai ((a0_1.length : Nat) : Int)) ?_
   refine zc (.own (oi 512 8) .int 0 y24.length) [((oi 512 8), some (.arr 3 .int y24))] [(ai ((a0_1.length : Nat) : Int))] (ok_impl_upTo h24) ?_
   refine rz0 (.fn 62 [(.box (oi 1 1) 0), (.box (oi 0 1) 0)]) ?_
   refine rcall (ai y25) [] [(.own (oi 512 8) .int 0 y24.length), (.fn 62 [(.box (oi 1 1) 0), (.box (oi 0 1) 0)])] _ (caps := []) (args0 := [(.tree .int y24), (.fn 62 [(.ref [(.mtree 85 .bool l19_m4_0)]), (.ref [(ai a0_0), (.tree T4 a0_1), (.tree .int a0_2)])])]) trivial (gm_cons (gd_own (e := 3) (by kernel_rfl) rfl) (gm_cons (by kernel_rfl) gm_nil)) (ok_slices_IndexFunc_int_int_for_impl_Circuit_schedule_1 h25) hb_slices_IndexFunc_int_int ?_
   refine rsB 1 ?_
   refine rnil (tn_ ?_)
   refine wr_ ?_
   refine awp_seqv_ ?_
   refine seqR ?_
   rcases cond_some h with ⟨q28, h⟩ | ⟨q28, h⟩
   ·have q28_ := of_decide_eq_true q28
    refine awp_condT_ q28 ?_
    refine seqR ?_
    refine awp_ret_ (tr_ (br_ (tr_ (br_ (tr_ ?_)))))
    obtain rfl := zj h
    have h := hn19
    (try dsimp only at h)
    obtain rfl := zj h
    have h := hk18
    (try dsimp only at h)
    obtain rfl := zj h
    exact ret_ [.nils, (.bool false)] (p_one rfl (l_nils rfl) (p_one rfl zl p_nil))
   have q28_ := of_decide_eq_false q28
   refine awp_condF_ q28 ?_
   refine awp_skip_ (tn_ ?_)
   refine wr_ ?_
   refine awp_seqv_ ?_
   obtain ⟨g31, h⟩ := og_some h
   refine awp_region_ 17 ?_
   refine rzl (.mp (oi 3 1)) ?_
   refine rz0 (ai y25) ?_
   refine rsn2 (oi 3 1) (oi 3 1) (.map 85 .bool (mdel l19_m4_0 y25)) (s_del (t := .bool) (es := l19_m4_0) (k := y25) (by kernel_rfl) (by kernel_rfl) (by kernel_rfl) g31) ?_
   refine rnil (tn_ ?_)
   refine wr_ ?_
   obtain ⟨g32, h⟩ := og_some h
   refine awp_region_ 22 ?_
   refine rz0 (.own (oi 2 1) .int 0 l19_m7.length) ?_
   refine rz0 (ai y25) ?_
   refine rs1 (.own (oi 41 19) .int 0 1) (oi 41 19) (.arr 3 .int ([y25])) (by kernel_rfl) ?_
   refine rs2 (.own (oi 2 20) .int 0 ((l19_m7 ++ ([y25])).length)) (oi 2 1) (oi 2 20) (.arr 3 .int (l19_m7 ++ ([y25]))) (s_appO (t := .int) (t' := .int) (xs := l19_m7) (ys := [y25]) (zs := l19_m7 ++ ([y25])) (j := (oi 2 1)) (len := l19_m7.length) (c := (.own (oi 41 19) .int 0 1)) (by kernel_rfl) (by kernel_rfl) rfl (by kernel_rfl) (sr_own (e := 3) (by kernel_rfl) rfl) rfl g32) ?_
   refine rsB 1 ?_
   refine rnil (bn_ (tn_ ?_))
   obtain rfl := zj h
   exact ⟨(l19_m7 ++ ([y25]), mdel l19_m4_0 y25), _, (weak_ren [((oi 2 1), (oi 2 20))]), ⟨l19_m7 ++ ([y25]), mdel l19_m4_0 y25, rfl, rfl⟩, hn19⟩
  have q22_ := of_decide_eq_false q22
  refine awp_condF_ q22 ?_
  refine awp_exit_ (te_ (te_ (be_ (tn_ ?_))))
  obtain rfl := zj h
  have h := hn19
  (try dsimp only at h)
  obtain rfl := zj h
  exact ⟨l19_m7, _, rfl, (weak_ren [((oi 0 1), (oi 2 1))]), rfl⟩
 rintro l18_m7 _ rfl h
 (try dsimp only at h)
 refine seqR ?_
 refine awp_ret_ ?_
 obtain rfl := zj h
 exact ret_ [(.own (oi 0 1) .int 0 l18_m7.length), (.bool true)] (p_one rfl (l_own (by kernel_rfl) rfl) (p_one rfl zl p_nil))
def m_impl_isCircuit_l1 : AC :=
 (.seq (rg [xo 44 (qb .lss (tm 43) (tm 42))])
 (.seq (.cond (tm 44)
  .skip
  (.exit 0))
 (.seq (.block 1 (.seq (rg [xo 45 (qx 4 (tm 41) (tm 43)), xo 46 (.i (.ld false 4 (tm 45))), xo 6 (.i (.alloc 58 [(.int .i64 0), (.int .i64 0), (.int .i64 0), (.int .i64 0)])), xn (.st false 4 (tm 6) (tm 46))])
 (.seq (rg [xo 47 (.i (.ld false 3 (tm 3))), xo 48 (qm (tm 0)), xo 49 (.i (.ld false 4 (tm 6))), ⟨(some 50), none, (qc 45 [(tm 47), (tm 48), (tm 49)] [[none, (some T4), (some .int)], [], [none, none, none, none]])⟩, xo 51 (.i (.not (tm 50)))])
 (.cond (tm 51)
  (.seq (rg [xo 4 (qm (cb false))])
  .ret)
  .skip))))
 (rg [xo 52 (qb .add (tm 43) (ci 1)), xo 43 (qm (tm 52))]))))
def m_impl_isCircuit : AC :=
 (.seq (rg [xo 3 (.i (.box 34 (tm 1))), xo 4 (qm (cb false))])
 (.seq (.seq (rg [xo 9 (qm (tm 0)), xo 10 (qc 42 [(tm 9)] [[]]), xo 11 (.i (.not (tm 10))), xo 12 (qm (tm 11)), ⟨(some 13), (some (12, false)), (qf 0 (tm 3))⟩, ⟨(some 14), (some (12, false)), (ql (tm 13))⟩, ⟨(some 15), (some (12, false)), (qc 43 [(tm 14), (ci 0), (ci 8)] [[], [], []])⟩, ⟨(some 16), (some (12, false)), (.i (.not (tm 15)))⟩, xo 17 (.i (.pick (tm 12) (cb true) (tm 16))), xo 18 (qm (tm 17)), ⟨(some 19), (some (18, false)), (qf 1 (tm 3))⟩, ⟨(some 20), (some (18, false)), (ql (tm 19))⟩, ⟨(some 21), (some (18, false)), (.i (.len (tm 20)))⟩, ⟨(some 22), (some (18, false)), (qc 43 [(tm 21), (ci 1), (ci 40)] [[], [], []])⟩, ⟨(some 23), (some (18, false)), (.i (.not (tm 22)))⟩, xo 24 (.i (.pick (tm 18) (cb true) (tm 23))), xo 25 (qm (tm 24)), ⟨(some 26), (some (25, false)), (qf 2 (tm 3))⟩, ⟨(some 27), (some (25, false)), (ql (tm 26))⟩, ⟨(some 28), (some (25, false)), (.i (.len (tm 27)))⟩, ⟨(some 29), (some (25, false)), (qb .gtr (tm 28) (ci 8))⟩, xo 30 (.i (.pick (tm 25) (cb true) (tm 29))), xo 31 (qm (tm 30)), ⟨(some 32), (some (31, false)), (qf 2 (tm 3))⟩, ⟨(some 33), (some (31, false)), (ql (tm 32))⟩, ⟨(some 34), (some (31, false)), (qf 1 (tm 3))⟩, ⟨(some 35), (some (31, false)), (ql (tm 34))⟩, ⟨(some 36), (some (31, false)), (.i (.len (tm 35)))⟩, ⟨(some 37), (some (31, false)), (qc 44 [(tm 33), (tm 36)] [[(some .int)], []])⟩, ⟨(some 38), (some (31, false)), (.i (.not (tm 37)))⟩, xo 39 (.i (.pick (tm 31) (cb true) (tm 38)))])
 (.cond (tm 39)
  (.seq (rg [xo 4 (qm (cb false))])
  .ret)
  .skip))
 (.seq (.seq (rg [xo 40 (qf 1 (tm 3)), xo 41 (ql (tm 40)), xo 42 (.i (.len (tm 41))), xo 43 (qm (ci 0))])
 (.block 0 (.loop m_impl_isCircuit_l1)))
 (.seq (rg [xo 54 (.i (.ld false 3 (tm 3))), ⟨(some 55), none, (qc 46 [(tm 54)] [[none, (some T4), (some .int)]])⟩, xo 53 (qm (tm 55)), xo 56 (.i (.extr 0 (tm 53))), xo 57 (.i (.extr 1 (tm 53))), xo 7 (qm (tm 56)), xo 8 (qm (tm 57))])
 (.seq (rg [xo 58 (qm (tm 8)), xo 4 (qm (tm 58))])
 .ret)))))
def r_impl_isCircuit : List Res := [.tmp 4]
theorem c_impl_isCircuit : compiled Tryd.prog Tryd.f20 = some (m_impl_isCircuit, r_impl_isCircuit) := by kernel_rfl
def L_impl_isCircuit_l1 (a1_1 : List (Int × Int × Int × Int)) (a1_0 : Int) (a1_2 : List Int) (a0 : Int) (l16_m43 : Nat) : Option (Ctl Nat (Ctl Unit Bool)) :=
 cond (decide (((l16_m43 : Nat) : Int) < ((a1_1.length : Nat) : Int)))
 (Option.bind (a1_1[l16_m43]?) fun x22 =>
 Option.bind (L_impl_Circuit_isGate a1_0 a1_1 a1_2 a0 x22.1 x22.2.1 x22.2.2.1 x22.2.2.2) fun y24 =>
 cond (!y24)
  (some (Ctl.out (Ctl.out false)))
  (og (l16_m43 + 1 < 4611686018427387904) <|
  some (Ctl.next (l16_m43 + 1))))
 (some (Ctl.out (Ctl.next ())))
def L_impl_isCircuit (a0 : Int) (a1_0 : Int) (a1_1 : List (Int × Int × Int × Int)) (a1_2 : List Int) : Option Bool :=
 Option.bind (Option.bind (L_impl_isField a0) fun y4 =>
 cond (!y4)
  (some true)
  (Option.bind (L_impl_within a1_0 0 8) fun y6 =>
  cond (!y6)
   (some true)
   (Option.bind (L_impl_within ((a1_1.length : Nat) : Int) 1 40) fun y8 =>
   cond (!y8)
    (some true)
    (cond (decide (8 < ((a1_2.length : Nat) : Int)))
     (some true)
     (Option.bind (L_impl_areBelow a1_2 ((a1_1.length : Nat) : Int)) fun y11 =>
     some (!y11)))))) fun l3_m39 =>
cond l3_m39
 (some false)
 (seqC (loopM (fun s_ : Nat => L_impl_isCircuit_l1 a1_1 a1_0 a1_2 a0 s_) 4611686018427387904 0) fun _ =>
 Option.bind (L_impl_Circuit_schedule a1_0 a1_1 a1_2) fun y29 =>
 some y29.2)
def rv_impl_isCircuit (r : Bool) : RV := ⟨false, [(false, [.sc (.bool r)])]⟩
theorem ok_impl_isCircuit {a0 : Int} {a1_0 : Int} {a1_1 : List (Int × Int × Int × Int)} {a1_2 : List Int} {r : Bool} (h : L_impl_isCircuit a0 a1_0 a1_1 a1_2 = some r) : CallOK Tryd.prog Tab 20 [(ai a0), (.agg [(ai a1_0), (.tree T4 a1_1), (.tree .int a1_2)])] (rv_impl_isCircuit r) := by
 refine call_of_ (by kernel_rfl) Tryd.func20 c_impl_isCircuit (n := 59) (by kernel_rfl) (by simp) (tl := [(0, (ai a0)), (1, (.agg [(ai a1_0), (.tree T4 a1_1), (.tree .int a1_2)]))]) rfl ?_
 unfold m_impl_isCircuit
 unfold L_impl_isCircuit at h
 refine seqR ?_
 refine awp_seqv_ ?_
 refine awp_seqB h (fun (l3_m39 : Bool) S_ => S_ = ⟨mkTm [(0, (ai a0)), (3, (.box (oi 0 1) 0)), (39, (.bool l3_m39))], mkOb (someL [((oi 0 1), .cells 34 [(ai a1_0), (.tree T4 a1_1), (.tree .int a1_2)])]), 2⟩) ?_ ?_
 ·intro v_ h
  obtain ⟨y4, h4, h⟩ := ob_some h
  rcases cond_some h with ⟨q5, h⟩ | ⟨q5, h⟩
  ·refine awp_region_ 34 ?_
   refine rz0 (ai a0) ?_
   refine zc (.bool y4) [] [(ai a0)] (ok_impl_isField h4) ?_
   refine rz0 (.bool (!y4)) ?_
   refine rz0 (.bool (!y4)) ?_
   refine zs q5 ?_
   refine zs q5 ?_
   refine zs q5 ?_
   refine zs q5 ?_
   refine rs0 (.bool true) (zT q5) ?_
   refine rsB 22 ?_
   refine rnil (tn_ ?_)
   obtain rfl := zj h
   exact ⟨_, (weak_ren [((oi 0 1), (oi 3 1))]), rfl⟩
  obtain ⟨y6, h6, h⟩ := ob_some h
  rcases cond_some h with ⟨q7, h⟩ | ⟨q7, h⟩
  ·refine awp_region_ 34 ?_
   refine rz0 (ai a0) ?_
   refine zc (.bool y4) [] [(ai a0)] (ok_impl_isField h4) ?_
   refine rz0 (.bool (!y4)) ?_
   refine rz0 (.bool (!y4)) ?_
   refine rs0 (.box (oi 3 1) 0) (zg q5) ?_
   refine rsl (ai a1_0) (zg q5) ?_
   refine rcall (.bool y6) [] [(ai a1_0), (ai 0), (ai 8)] _ (caps := []) (args0 := [(ai a1_0), (ai 0), (ai 8)]) (gdOK_b (by kernel_rfl) q5) (by kernel_rfl) (ok_impl_within h6) hb_impl_within ?_
   refine rs0 (.bool (!y6)) (zg q5) ?_
   refine rs0 (.bool (!y6)) (zF q5) ?_
   refine rz0 (.bool (!y6)) ?_
   refine zs q7 ?_
   refine zs q7 ?_
   refine zs q7 ?_
   refine zs q7 ?_
   refine zs q7 ?_
   refine rs0 (.bool true) (zT q7) ?_
   refine rsB 15 ?_
   refine rnil (tn_ ?_)
   obtain rfl := zj h
   exact ⟨_, (weak_ren [((oi 0 1), (oi 3 1))]), rfl⟩
  obtain ⟨y8, h8, h⟩ := ob_some h
  rcases cond_some h with ⟨q9, h⟩ | ⟨q9, h⟩
  ·refine awp_region_ 34 ?_
   refine rz0 (ai a0) ?_
   refine zc (.bool y4) [] [(ai a0)] (ok_impl_isField h4) ?_
   refine rz0 (.bool (!y4)) ?_
   refine rz0 (.bool (!y4)) ?_
   refine rs0 (.box (oi 3 1) 0) (zg q5) ?_
   refine rsl (ai a1_0) (zg q5) ?_
   refine rcall (.bool y6) [] [(ai a1_0), (ai 0), (ai 8)] _ (caps := []) (args0 := [(ai a1_0), (ai 0), (ai 8)]) (gdOK_b (by kernel_rfl) q5) (by kernel_rfl) (ok_impl_within h6) hb_impl_within ?_
   refine rs0 (.bool (!y6)) (zg q5) ?_
   refine rs0 (.bool (!y6)) (zF q5) ?_
   refine rz0 (.bool (!y6)) ?_
   refine rs0 (.box (oi 3 1) 1) (zg q7) ?_
   refine rsl (.tree T4 a1_1) (zg q7) ?_
   refine rs0 (ai ((a1_1.length : Nat) : Int)) (zg q7) ?_
   refine rcall (.bool y8) [] [(ai ((a1_1.length : Nat) : Int)), (ai 1), (ai 40)] _ (caps := []) (args0 := [(ai ((a1_1.length : Nat) : Int)), (ai 1), (ai 40)]) (gdOK_b (by kernel_rfl) q7) (by kernel_rfl) (ok_impl_within h8) hb_impl_within ?_
   refine rs0 (.bool (!y8)) (zg q7) ?_
   refine rs0 (.bool (!y8)) (zF q7) ?_
   refine rz0 (.bool (!y8)) ?_
   refine zs q9 ?_
   refine zs q9 ?_
   refine zs q9 ?_
   refine zs q9 ?_
   refine rs0 (.bool true) (zT q9) ?_
   refine rsB 9 ?_
   refine rnil (tn_ ?_)
   obtain rfl := zj h
   exact ⟨_, (weak_ren [((oi 0 1), (oi 3 1))]), rfl⟩
  rcases cond_some h with ⟨q10, h⟩ | ⟨q10, h⟩
  ·have q10_ := of_decide_eq_true q10
   refine awp_region_ 34 ?_
   refine rz0 (ai a0) ?_
   refine zc (.bool y4) [] [(ai a0)] (ok_impl_isField h4) ?_
   refine rz0 (.bool (!y4)) ?_
   refine rz0 (.bool (!y4)) ?_
   refine rs0 (.box (oi 3 1) 0) (zg q5) ?_
   refine rsl (ai a1_0) (zg q5) ?_
   refine rcall (.bool y6) [] [(ai a1_0), (ai 0), (ai 8)] _ (caps := []) (args0 := [(ai a1_0), (ai 0), (ai 8)]) (gdOK_b (by kernel_rfl) q5) (by kernel_rfl) (ok_impl_within h6) hb_impl_within ?_
   refine rs0 (.bool (!y6)) (zg q5) ?_
   refine rs0 (.bool (!y6)) (zF q5) ?_
   refine rz0 (.bool (!y6)) ?_
   refine rs0 (.box (oi 3 1) 1) (zg q7) ?_
   refine rsl (.tree T4 a1_1) (zg q7) ?_
   refine rs0 (ai ((a1_1.length : Nat) : Int)) (zg q7) ?_
   refine rcall (.bool y8) [] [(ai ((a1_1.length : Nat) : Int)), (ai 1), (ai 40)] _ (caps := []) (args0 := [(ai ((a1_1.length : Nat) : Int)), (ai 1), (ai 40)]) (gdOK_b (by kernel_rfl) q7) (by kernel_rfl) (ok_impl_within h8) hb_impl_within ?_
   refine rs0 (.bool (!y8)) (zg q7) ?_
   refine rs0 (.bool (!y8)) (zF q7) ?_
   refine rz0 (.bool (!y8)) ?_
   refine rs0 (.box (oi 3 1) 2) (zg q9) ?_
   refine rsl (.tree .int a1_2) (zg q9) ?_
   refine rs0 (ai ((a1_2.length : Nat) : Int)) (zg q9) ?_
   refine rs0 (.bool (decide (8 < ((a1_2.length : Nat) : Int)))) (zg q9) ?_
   refine rs0 (.bool (decide (8 < ((a1_2.length : Nat) : Int)))) (zF q9) ?_
   refine rz0 (.bool (decide (8 < ((a1_2.length : Nat) : Int)))) ?_
   refine zs q10 ?_
   refine zs q10 ?_
   refine zs q10 ?_
   refine zs q10 ?_
   refine zs q10 ?_
   refine zs q10 ?_
   refine zs q10 ?_
   refine rs0 (.bool true) (zT q10) ?_
   refine rnil (tn_ ?_)
   obtain rfl := zj h
   exact ⟨_, (weak_ren [((oi 0 1), (oi 3 1))]), rfl⟩
  have q10_ := of_decide_eq_false q10
  obtain ⟨y11, h11, h⟩ := ob_some h
  refine awp_region_ 34 ?_
  refine rz0 (ai a0) ?_
  refine zc (.bool y4) [] [(ai a0)] (ok_impl_isField h4) ?_
  refine rz0 (.bool (!y4)) ?_
  refine rz0 (.bool (!y4)) ?_
  refine rs0 (.box (oi 3 1) 0) (zg q5) ?_
  refine rsl (ai a1_0) (zg q5) ?_
  refine rcall (.bool y6) [] [(ai a1_0), (ai 0), (ai 8)] _ (caps := []) (args0 := [(ai a1_0), (ai 0), (ai 8)]) (gdOK_b (by kernel_rfl) q5) (by kernel_rfl) (ok_impl_within h6) hb_impl_within ?_
  refine rs0 (.bool (!y6)) (zg q5) ?_
  refine rs0 (.bool (!y6)) (zF q5) ?_
  refine rz0 (.bool (!y6)) ?_
  refine rs0 (.box (oi 3 1) 1) (zg q7) ?_
  refine rsl (.tree T4 a1_1) (zg q7) ?_
  refine rs0 (ai ((a1_1.length : Nat) : Int)) (zg q7) ?_
  refine rcall (.bool y8) [] [(ai ((a1_1.length : Nat) : Int)), (ai 1), (ai 40)] _ (caps := []) (args0 := [(ai ((a1_1.length : Nat) : Int)), (ai 1), (ai 40)]) (gdOK_b (by kernel_rfl) q7) (by kernel_rfl) (ok_impl_within h8) hb_impl_within ?_
  refine rs0 (.bool (!y8)) (zg q7) ?_
  refine rs0 (.bool (!y8)) (zF q7) ?_
  refine rz0 (.bool (!y8)) ?_
  refine rs0 (.box (oi 3 1) 2) (zg q9) ?_
  refine rsl (.tree .int a1_2) (zg q9) ?_
  refine rs0 (ai ((a1_2.length : Nat) : Int)) (zg q9) ?_
  refine rs0 (.bool (decide (8 < ((a1_2.length : Nat) : Int)))) (zg q9) ?_
  refine rs0 (.bool (decide (8 < ((a1_2.length : Nat) : Int)))) (zF q9) ?_
  refine rz0 (.bool (decide (8 < ((a1_2.length : Nat) : Int)))) ?_
  refine rs0 (.box (oi 3 1) 2) (zg q10) ?_
  refine rsl (.tree .int a1_2) (zg q10) ?_
  refine rs0 (.box (oi 3 1) 1) (zg q10) ?_
  refine rsl (.tree T4 a1_1) (zg q10) ?_
  refine rs0 (ai ((a1_1.length : Nat) : Int)) (zg q10) ?_
  refine rcall (.bool y11) [] [(.tree .int a1_2), (ai ((a1_1.length : Nat) : Int))] _ (caps := []) (args0 := [(.tree .int a1_2), (ai ((a1_1.length : Nat) : Int))]) (gdOK_b (by kernel_rfl) q10) (by kernel_rfl) (ok_impl_areBelow h11) hb_impl_areBelow ?_
  refine rs0 (.bool (!y11)) (zg q10) ?_
  refine rs0 (.bool (!y11)) (zF q10) ?_
  refine rnil (tn_ ?_)
  obtain rfl := zj h
  exact ⟨_, (weak_ren [((oi 0 1), (oi 3 1))]), rfl⟩
 rintro l3_m39 _ rfl h
 (try dsimp only at h)
 rcases cond_some h with ⟨q12, h⟩ | ⟨q12, h⟩
 ·refine awp_condT_ q12 ?_
  refine seqR ?_
  refine awp_ret_ (tr_ ?_)
  obtain rfl := zj h
  exact ret_ [(.bool false)] (p_one rfl zl p_nil)
 refine awp_condF_ q12 ?_
 refine awp_skip_ (tn_ ?_)
 refine wr_ ?_
 refine awp_seqC h (fun (_ : Unit) S_ => S_ = ⟨mkTm [(3, (.box (oi 0 1) 0))], mkOb (someL [((oi 0 1), .cells 34 [(ai a1_0), (.tree T4 a1_1), (.tree .int a1_2)])]), 2⟩) ?_ ?_
 ·intro v_ h hk14
  refine seqR ?_
  refine awp_block_ ?_
  refine awp_loopL h (fun (l16_m43 : Nat) S_ => S_ = ⟨mkTm [(0, (ai a0)), (3, (.box (oi 0 1) 0)), (41, (.tree T4 a1_1)), (42, (ai ((a1_1.length : Nat) : Int))), (43, (ai ((l16_m43 : Nat) : Int)))], mkOb (someL [((oi 0 1), .cells 34 [(ai a1_0), (.tree T4 a1_1), (.tree .int a1_2)])]), 2⟩) ⟨_, (weak_ren []), rfl⟩ ?_
  rintro n_ l16_m43 _ c_ rfl h hn16
  (try dsimp only at h)
  unfold L_impl_isCircuit_l1 at h
  unfold m_impl_isCircuit_l1
  refine seqR ?_
  refine awp_seqv_ ?_
  rcases cond_some h with ⟨q19, h⟩ | ⟨q19, h⟩
  ·have q19_ := of_decide_eq_true q19
   refine awp_condT_ q19 ?_
   refine awp_skip_ (tn_ ?_)
   refine wr_ ?_
   refine awp_seqv_ ?_
   refine awp_block_ ?_
   refine awp_seqv_ ?_
   obtain ⟨x22, e22, h⟩ := ob_some h
   refine awp_region_ 7 ?_
   refine rs0 (.telt T4 x22 0) (zi (t := T4) (xs := a1_1) (k := .i64) (m := ((l16_m43 : Nat) : Int)) (nat_nn _) e22) ?_
   refine rsB 3 ?_
   refine rnil (tn_ ?_)
   refine wr_ ?_
   refine awp_seqv_ ?_
   obtain ⟨y24, h24, h⟩ := ob_some h
   refine awp_region_ 12 ?_
   refine rzl (.agg [(ai a1_0), (.tree T4 a1_1), (.tree .int a1_2)]) ?_
   refine rz0 (ai a0) ?_
   refine rzl (.agg [(ai x22.1), (ai x22.2.1), (ai x22.2.2.1), (ai x22.2.2.2)]) ?_
   refine zc (.bool y24) [] [(.agg [(ai a1_0), (.tree T4 a1_1), (.tree .int a1_2)]), (ai a0), (.agg [(ai x22.1), (ai x22.2.1), (ai x22.2.2.1), (ai x22.2.2.2)])] (ok_impl_Circuit_isGate h24) ?_
   refine rsB 1 ?_
   refine rnil (tn_ ?_)
   refine wr_ ?_
   rcases cond_some h with ⟨q25, h⟩ | ⟨q25, h⟩
   ·refine awp_condT_ q25 ?_
    refine seqR ?_
    refine awp_ret_ (br_ (tr_ (tr_ (br_ (tr_ ?_)))))
    obtain rfl := zj h
    have h := hn16
    (try dsimp only at h)
    obtain rfl := zj h
    have h := hk14
    (try dsimp only at h)
    obtain rfl := zj h
    exact ret_ [(.bool false)] (p_one rfl zl p_nil)
   refine awp_condF_ q25 ?_
   refine awp_skip_ (bn_ (tn_ ?_))
   refine wr_ ?_
   obtain ⟨g27, h⟩ := og_some h
   refine awp_region_ 14 ?_
   refine rs0 (ai ((l16_m43 + 1 : Nat) : Int)) (za g27) ?_
   refine rsB 1 ?_
   refine rnil (tn_ ?_)
   obtain rfl := zj h
   exact ⟨l16_m43 + 1, _, (weak_ren []), rfl, hn16⟩
  have q19_ := of_decide_eq_false q19
  refine awp_condF_ q19 ?_
  refine awp_exit_ (te_ (te_ (be_ (tn_ ?_))))
  obtain rfl := zj h
  have h := hn16
  (try dsimp only at h)
  obtain rfl := zj h
  exact ⟨(), _, rfl, (weak_ren []), rfl⟩
 rintro _ _ rfl h
 (try dsimp only at h)
 refine awp_seqv_ ?_
 obtain ⟨y29, h29, h⟩ := ob_some h
 refine awp_region_ 9 ?_
 refine rzl (.agg [(ai a1_0), (.tree T4 a1_1), (.tree .int a1_2)]) ?_
 refine zc (.tup [(.own (oi 880 3) .int 0 y29.1.length), (.bool y29.2)]) [((oi 880 3), some (.arr 3 .int y29.1))] [(.agg [(ai a1_0), (.tree T4 a1_1), (.tree .int a1_2)])] (ok_impl_Circuit_schedule h29) ?_
 refine rsB 5 ?_
 refine rnil (tn_ ?_)
 refine wr_ ?_
 refine seqR ?_
 refine awp_ret_ ?_
 obtain rfl := zj h
 exact ret_ [(.bool y29.2)] (p_one rfl zl p_nil)
end Go.Proofs.YtbdkmfmhlmnlmaaDoor
namespace Go.Proofs.YtbdkmfmhlmnlmaaDoor
open Go.RowKit Go.Deep
set_option maxRecDepth 4000
def m_impl_Circuit_delays_l1 : AC :=
 (.seq (rg [xo 11 (qb .lss (tm 10) (tm 9))])
 (.seq (.cond (tm 11)
  .skip
  (.exit 0))
 (.seq (.block 1 (.seq (rg [xo 12 (qm (tm 10)), xo 13 (qx 4 (tm 8) (tm 10)), xo 14 (.i (.ld false 4 (tm 13))), xo 5 (.i (.alloc 58 [(.int .i64 0), (.int .i64 0), (.int .i64 0), (.int .i64 0)])), xo 4 (qm (tm 12)), xn (.st false 4 (tm 5) (tm 14))])
 (.seq (rg [xo 15 (qf 0 (tm 5)), xo 16 (ql (tm 15)), xo 17 (qb .eql (tm 16) (ci 5))])
 (.cond (tm 17)
  (rg [xo 18 (qm (tm 3)), xo 19 (qm (tm 4)), xo 20 (.mkS 3 .int [(tm 19)]), xo 21 (.append 3 .int 8 (tm 18) (tm 20)), xo 3 (qm (tm 21))])
  .skip))))
 (rg [xo 22 (qb .add (tm 10) (ci 1)), xo 10 (qm (tm 22))]))))
def m_impl_Circuit_delays : AC :=
 (.seq (rg [xo 1 (.i (.box 34 (tm 0))), xo 2 (qm (.cst .nils))])
 (.seq (rg [xo 6 (.mkS 3 .int []), xo 3 (qm (tm 6))])
 (.seq (.seq (rg [xo 7 (qf 1 (tm 1)), xo 8 (ql (tm 7)), xo 9 (.i (.len (tm 8))), xo 10 (qm (ci 0))])
 (.block 0 (.loop m_impl_Circuit_delays_l1)))
 (.seq (rg [xo 23 (qm (tm 3)), xo 2 (qm (tm 23))])
 .ret))))
def r_impl_Circuit_delays : List Res := [.tmp 2]
theorem c_impl_Circuit_delays : compiled Tryd.prog Tryd.f48 = some (m_impl_Circuit_delays, r_impl_Circuit_delays) := by kernel_rfl
theorem hb_impl_Circuit_delays : hasBody Tryd.prog 48 = true := by kernel_rfl
def L_impl_Circuit_delays_l1 (a0_1 : List (Int × Int × Int × Int)) (l5_m10 : Nat) (l5_m3 : List Int) : Option (Ctl (Nat × List Int) (List Int)) :=
 cond (decide (((l5_m10 : Nat) : Int) < ((a0_1.length : Nat) : Int)))
 (Option.bind (Option.bind (a0_1[l5_m10]?) fun x11 =>
  cond (x11.1 == 5)
   (og (l5_m3.length + 1 <= 1073741824 ∧ (l5_m3.length + 1) * 8 <= 140737488355328) <|
   some (l5_m3 ++ ([((l5_m10 : Nat) : Int)])))
   (some l5_m3)) fun l9_m3 =>
 og (l5_m10 + 1 < 4611686018427387904) <|
 some (Ctl.next (l5_m10 + 1, l9_m3)))
 (some (Ctl.out l5_m3))
def L_impl_Circuit_delays (a0_0 : Int) (a0_1 : List (Int × Int × Int × Int)) (a0_2 : List Int) : Option (List Int) :=
 Option.bind (loopM (fun s_ : Nat × List Int => L_impl_Circuit_delays_l1 a0_1 s_.1 s_.2) 4611686018427387904 (0, [])) fun l3_m3 =>
some l3_m3
def rv_impl_Circuit_delays (r : List Int) : RV := ⟨false, [(false, [.new 3 .int r])]⟩
theorem ok_impl_Circuit_delays {a0_0 : Int} {a0_1 : List (Int × Int × Int × Int)} {a0_2 : List Int} {r : List Int} (h : L_impl_Circuit_delays a0_0 a0_1 a0_2 = some r) : CallOK Tryd.prog Tab 48 [(.agg [(ai a0_0), (.tree T4 a0_1), (.tree .int a0_2)])] (rv_impl_Circuit_delays r) := by
 refine call_of_ (by kernel_rfl) Tryd.func48 c_impl_Circuit_delays (n := 24) (by kernel_rfl) (by simp) (tl := [(0, (.agg [(ai a0_0), (.tree T4 a0_1), (.tree .int a0_2)]))]) rfl ?_
 unfold m_impl_Circuit_delays
 unfold L_impl_Circuit_delays at h
 refine seqR ?_
 refine seqR ?_
 refine awp_seqB h (fun (l3_m3 : List Int) S_ => S_ = ⟨mkTm [(3, (.own (oi 0 1) .int 0 l3_m3.length))], mkOb (someL [((oi 0 1), .arr 3 .int l3_m3)]), 2⟩) ?_ ?_
 ·intro v_ h
  refine seqR ?_
  refine awp_block_ ?_
  refine awp_loopL h (fun t_ S_ => ∃ (l5_m10 : Nat), ∃ (l5_m3 : List Int), t_ = (l5_m10, l5_m3) ∧ S_ = ⟨mkTm [(3, (.own (oi 0 1) .int 0 l5_m3.length)), (8, (.tree T4 a0_1)), (9, (ai ((a0_1.length : Nat) : Int))), (10, (ai ((l5_m10 : Nat) : Int)))], mkOb (someL [((oi 0 1), .arr 3 .int l5_m3)]), 2⟩) ⟨_, (weak_ren [((oi 0 1), (oi 6 3))]), ⟨0, [], rfl, rfl⟩⟩ ?_
  rintro n_ _ _ c_ ⟨l5_m10, l5_m3, rfl, rfl⟩ h hn5
  (try dsimp only at h)
  unfold L_impl_Circuit_delays_l1 at h
  unfold m_impl_Circuit_delays_l1
  refine seqR ?_
  refine awp_seqv_ ?_
  rcases cond_some h with ⟨q8, h⟩ | ⟨q8, h⟩
  ·have q8_ := of_decide_eq_true q8
   refine awp_condT_ q8 ?_
   refine awp_skip_ (tn_ ?_)
   refine wr_ ?_
   refine awp_seqB h (fun (l9_m3 : List Int) S_ => S_ = ⟨mkTm [(3, (.own (oi 0 1) .int 0 l9_m3.length)), (8, (.tree T4 a0_1)), (9, (ai ((a0_1.length : Nat) : Int))), (10, (ai ((l5_m10 : Nat) : Int)))], mkOb (someL [((oi 0 1), .arr 3 .int l9_m3)]), 2⟩) ?_ ?_
   ·intro v_ h
    refine awp_block_ ?_
    refine awp_seqv_ ?_
    obtain ⟨x11, e11, h⟩ := ob_some h
    refine awp_region_ 9 ?_
    refine rz0 (ai ((l5_m10 : Nat) : Int)) ?_
    refine rs0 (.telt T4 x11 0) (zi (t := T4) (xs := a0_1) (k := .i64) (m := ((l5_m10 : Nat) : Int)) (nat_nn _) e11) ?_
    refine rsB 4 ?_
    refine rnil (tn_ ?_)
    refine wr_ ?_
    refine seqR ?_
    rcases cond_some h with ⟨q13, h⟩ | ⟨q13, h⟩
    ·refine awp_condT_ q13 ?_
     obtain ⟨g14, h⟩ := og_some h
     refine awp_region_ 17 ?_
     refine rz0 (.own (oi 0 1) .int 0 l5_m3.length) ?_
     refine rz0 (ai ((l5_m10 : Nat) : Int)) ?_
     refine rs1 (.own (oi 20 14) .int 0 1) (oi 20 14) (.arr 3 .int ([((l5_m10 : Nat) : Int)])) (by kernel_rfl) ?_
     refine rs2 (.own (oi 0 15) .int 0 ((l5_m3 ++ ([((l5_m10 : Nat) : Int)])).length)) (oi 0 1) (oi 0 15) (.arr 3 .int (l5_m3 ++ ([((l5_m10 : Nat) : Int)]))) (s_appO (t := .int) (t' := .int) (xs := l5_m3) (ys := [((l5_m10 : Nat) : Int)]) (zs := l5_m3 ++ ([((l5_m10 : Nat) : Int)])) (j := (oi 0 1)) (len := l5_m3.length) (c := (.own (oi 20 14) .int 0 1)) (by kernel_rfl) (by kernel_rfl) rfl (by kernel_rfl) (sr_own (e := 3) (by kernel_rfl) rfl) rfl g14) ?_
     refine rsB 1 ?_
     refine rnil (bn_ (tn_ ?_))
     obtain rfl := zj h
     exact ⟨_, (weak_ren [((oi 0 1), (oi 0 15))]), rfl⟩
    refine awp_condF_ q13 ?_
    refine awp_skip_ (bn_ (tn_ ?_))
    obtain rfl := zj h
    exact ⟨_, (weak_ren []), rfl⟩
   rintro l9_m3 _ rfl h
   (try dsimp only at h)
   obtain ⟨g15, h⟩ := og_some h
   refine awp_region_ 4 ?_
   refine rs0 (ai ((l5_m10 + 1 : Nat) : Int)) (za g15) ?_
   refine rsB 1 ?_
   refine rnil (tn_ ?_)
   obtain rfl := zj h
   exact ⟨(l5_m10 + 1, l9_m3), _, (weak_ren []), ⟨l5_m10 + 1, l9_m3, rfl, rfl⟩, hn5⟩
  have q8_ := of_decide_eq_false q8
  refine awp_condF_ q8 ?_
  refine awp_exit_ (te_ (te_ (be_ (tn_ ?_))))
  obtain rfl := zj h
  have h := hn5
  (try dsimp only at h)
  obtain rfl := zj h
  exact ⟨_, (weak_ren []), rfl⟩
 rintro l3_m3 _ rfl h
 (try dsimp only at h)
 refine seqR ?_
 refine awp_ret_ ?_
 obtain rfl := zj h
 exact ret_ [(.own (oi 0 1) .int 0 l3_m3.length)] (p_one rfl (l_own (by kernel_rfl) rfl) p_nil)
def m_spec_crDelays_l1 : AC :=
 (.seq (rg [xo 10 (qb .lss (tm 9) (tm 8))])
 (.seq (.cond (tm 10)
  .skip
  (.exit 0))
 (.seq (.block 1 (.seq (rg [xo 11 (qm (tm 9)), xo 12 (qx 4 (tm 7) (tm 9)), xo 13 (.i (.ld false 4 (tm 12))), xo 5 (.i (.alloc 58 [(.int .i64 0), (.int .i64 0), (.int .i64 0), (.int .i64 0)])), xo 4 (qm (tm 11)), xn (.st false 4 (tm 5) (tm 13))])
 (.seq (rg [xo 14 (qf 0 (tm 5)), xo 15 (ql (tm 14)), xo 16 (qb .eql (tm 15) (ci 5))])
 (.cond (tm 16)
  (rg [xo 17 (qm (tm 3)), xo 18 (qm (tm 4)), xo 19 (.mkS 3 .int [(tm 18)]), xo 20 (.append 3 .int 8 (tm 17) (tm 19)), xo 3 (qm (tm 20))])
  .skip))))
 (rg [xo 21 (qb .add (tm 9) (ci 1)), xo 9 (qm (tm 21))]))))
def m_spec_crDelays : AC :=
 (.seq (rg [xo 1 (.i (.box 34 (tm 0))), xo 2 (qm (.cst .nils))])
 (.seq (rg [xo 3 (qm (.cst .nils))])
 (.seq (.seq (rg [xo 6 (qf 1 (tm 1)), xo 7 (ql (tm 6)), xo 8 (.i (.len (tm 7))), xo 9 (qm (ci 0))])
 (.block 0 (.loop m_spec_crDelays_l1)))
 (.seq (rg [xo 22 (qm (tm 3)), xo 2 (qm (tm 22))])
 .ret))))
def r_spec_crDelays : List Res := [.tmp 2]
theorem c_spec_crDelays : compiled Tryd.prog Tryd.f37 = some (m_spec_crDelays, r_spec_crDelays) := by kernel_rfl
def L_spec_crDelays_l1 (a0_1 : List (Int × Int × Int × Int)) (l5_m9 : Nat) (l5_m3 : List Int) : Option (Ctl (Nat × List Int) (List Int)) :=
 cond (decide (((l5_m9 : Nat) : Int) < ((a0_1.length : Nat) : Int)))
 (Option.bind (Option.bind (a0_1[l5_m9]?) fun x11 =>
  cond (x11.1 == 5)
   (og (l5_m3.length + 1 <= 1073741824 ∧ (l5_m3.length + 1) * 8 <= 140737488355328) <|
   some (l5_m3 ++ ([((l5_m9 : Nat) : Int)])))
   (some l5_m3)) fun l9_m3 =>
 og (l5_m9 + 1 < 4611686018427387904) <|
 some (Ctl.next (l5_m9 + 1, l9_m3)))
 (some (Ctl.out l5_m3))
def L_spec_crDelays (a0_0 : Int) (a0_1 : List (Int × Int × Int × Int)) (a0_2 : List Int) : Option (List Int) :=
 Option.bind (loopM (fun s_ : Nat × List Int => L_spec_crDelays_l1 a0_1 s_.1 s_.2) 4611686018427387904 (0, [])) fun l3_m3 =>
some l3_m3
def rv_spec_crDelays (r : List Int) : RV := ⟨false, [(false, [.new 3 .int r])]⟩
theorem ok_spec_crDelays {a0_0 : Int} {a0_1 : List (Int × Int × Int × Int)} {a0_2 : List Int} {r : List Int} (h : L_spec_crDelays a0_0 a0_1 a0_2 = some r) : CallOK Tryd.prog Tab 37 [(.agg [(ai a0_0), (.tree T4 a0_1), (.tree .int a0_2)])] (rv_spec_crDelays r) := by
 refine call_of_ (by kernel_rfl) Tryd.func37 c_spec_crDelays (n := 23) (by kernel_rfl) (by simp) (tl := [(0, (.agg [(ai a0_0), (.tree T4 a0_1), (.tree .int a0_2)]))]) rfl ?_
 unfold m_spec_crDelays
 unfold L_spec_crDelays at h
 refine seqR ?_
 refine seqR ?_
 refine awp_seqB h (fun (l3_m3 : List Int) S_ => S_ = ⟨mkTm [(3, (.own (oi 0 1) .int 0 l3_m3.length))], mkOb (someL [((oi 0 1), .arr 3 .int l3_m3)]), 2⟩) ?_ ?_
 ·intro v_ h
  refine seqR ?_
  refine awp_block_ ?_
  refine awp_loopL h (fun t_ S_ => ∃ (l5_m9 : Nat), ∃ (l5_m3 : List Int), t_ = (l5_m9, l5_m3) ∧ S_ = ⟨mkTm [(3, (.own (oi 0 1) .int 0 l5_m3.length)), (7, (.tree T4 a0_1)), (8, (ai ((a0_1.length : Nat) : Int))), (9, (ai ((l5_m9 : Nat) : Int)))], mkOb (someL [((oi 0 1), .arr 3 .int l5_m3)]), 2⟩) ⟨_, ((weak_nil_ 3 3 .int rfl (by kernel_rfl)).trans (weak_ren [((oi 0 1), (oi 3 8))])), ⟨0, [], rfl, rfl⟩⟩ ?_
  rintro n_ _ _ c_ ⟨l5_m9, l5_m3, rfl, rfl⟩ h hn5
  (try dsimp only at h)
  unfold L_spec_crDelays_l1 at h
  unfold m_spec_crDelays_l1
  refine seqR ?_
  refine awp_seqv_ ?_
  rcases cond_some h with ⟨q8, h⟩ | ⟨q8, h⟩
  ·have q8_ := of_decide_eq_true q8
   refine awp_condT_ q8 ?_
   refine awp_skip_ (tn_ ?_)
   refine wr_ ?_
   refine awp_seqB h (fun (l9_m3 : List Int) S_ => S_ = ⟨mkTm [(3, (.own (oi 0 1) .int 0 l9_m3.length)), (7, (.tree T4 a0_1)), (8, (ai ((a0_1.length : Nat) : Int))), (9, (ai ((l5_m9 : Nat) : Int)))], mkOb (someL [((oi 0 1), .arr 3 .int l9_m3)]), 2⟩) ?_ ?_
   ·intro v_ h
    refine awp_block_ ?_
    refine awp_seqv_ ?_
    obtain ⟨x11, e11, h⟩ := ob_some h
    refine awp_region_ 9 ?_
    refine rz0 (ai ((l5_m9 : Nat) : Int)) ?_
    refine rs0 (.telt T4 x11 0) (zi (t := T4) (xs := a0_1) (k := .i64) (m := ((l5_m9 : Nat) : Int)) (nat_nn _) e11) ?_
    refine rsB 4 ?_
    refine rnil (tn_ ?_)
    refine wr_ ?_
    refine seqR ?_
    rcases cond_some h with ⟨q13, h⟩ | ⟨q13, h⟩
    ·refine awp_condT_ q13 ?_
     obtain ⟨g14, h⟩ := og_some h
     refine awp_region_ 17 ?_
     refine rz0 (.own (oi 0 1) .int 0 l5_m3.length) ?_
     refine rz0 (ai ((l5_m9 : Nat) : Int)) ?_
     refine rs1 (.own (oi 19 14) .int 0 1) (oi 19 14) (.arr 3 .int ([((l5_m9 : Nat) : Int)])) (by kernel_rfl) ?_
     refine rs2 (.own (oi 0 15) .int 0 ((l5_m3 ++ ([((l5_m9 : Nat) : Int)])).length)) (oi 0 1) (oi 0 15) (.arr 3 .int (l5_m3 ++ ([((l5_m9 : Nat) : Int)]))) (s_appO (t := .int) (t' := .int) (xs := l5_m3) (ys := [((l5_m9 : Nat) : Int)]) (zs := l5_m3 ++ ([((l5_m9 : Nat) : Int)])) (j := (oi 0 1)) (len := l5_m3.length) (c := (.own (oi 19 14) .int 0 1)) (by kernel_rfl) (by kernel_rfl) rfl (by kernel_rfl) (sr_own (e := 3) (by kernel_rfl) rfl) rfl g14) ?_
     refine rsB 1 ?_
     refine rnil (bn_ (tn_ ?_))
     obtain rfl := zj h
     exact ⟨_, (weak_ren [((oi 0 1), (oi 0 15))]), rfl⟩
    refine awp_condF_ q13 ?_
    refine awp_skip_ (bn_ (tn_ ?_))
    obtain rfl := zj h
    exact ⟨_, (weak_ren []), rfl⟩
   rintro l9_m3 _ rfl h
   (try dsimp only at h)
   obtain ⟨g15, h⟩ := og_some h
   refine awp_region_ 4 ?_
   refine rs0 (ai ((l5_m9 + 1 : Nat) : Int)) (za g15) ?_
   refine rsB 1 ?_
   refine rnil (tn_ ?_)
   obtain rfl := zj h
   exact ⟨(l5_m9 + 1, l9_m3), _, (weak_ren []), ⟨l5_m9 + 1, l9_m3, rfl, rfl⟩, hn5⟩
  have q8_ := of_decide_eq_false q8
  refine awp_condF_ q8 ?_
  refine awp_exit_ (te_ (te_ (be_ (tn_ ?_))))
  obtain rfl := zj h
  have h := hn5
  (try dsimp only at h)
  obtain rfl := zj h
  exact ⟨_, (weak_ren []), rfl⟩
 rintro l3_m3 _ rfl h
 (try dsimp only at h)
 refine seqR ?_
 refine awp_ret_ ?_
 obtain rfl := zj h
 exact ret_ [(.own (oi 0 1) .int 0 l3_m3.length)] (p_one rfl (l_own (by kernel_rfl) rfl) p_nil)
end Go.Proofs.YtbdkmfmhlmnlmaaDoor
