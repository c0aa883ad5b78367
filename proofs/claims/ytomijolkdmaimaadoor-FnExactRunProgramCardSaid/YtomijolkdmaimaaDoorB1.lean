/- Partial functions in place of code, and that the code does what they say: B1. No condition. -/
import Derived.Test.YtomijolkdmaimaaDoorB0
namespace Go.Proofs.YtomijolkdmaimaaDoor
open Go.RowKit Go.Deep
set_option maxRecDepth 4000
def m_laws_szInstrS : AC :=
  (.seq (rg [xo 4 (qm (ci 0))])
  (.seq (rg [xo 5 (qm (tm 1)), xo 6 (qm (tm 0)), xo 7 (.i (.len (tm 6))), xo 8 (qb .sub (tm 5) (tm 7)), xo 1 (qm (tm 8))])
  (.seq (.seq (rg [xo 9 (qm (tm 1)), xo 10 (qb .lss (tm 9) (ci 0))])
  (.cond (tm 10)
    (.seq (rg [xo 4 (qm (ci (-1)))])
    .ret)
    .skip))
  (.seq (rg [xo 11 (qm (tm 1)), xo 4 (qm (tm 11))])
  .ret))))
def r_laws_szInstrS : List Res := [.tmp 4]
theorem c_laws_szInstrS : compiled Tryd.prog Tryd.f32 = some (m_laws_szInstrS, r_laws_szInstrS) := by kernel_rfl
theorem hb_laws_szInstrS : hasBody Tryd.prog 32 = true := by kernel_rfl
def L_laws_szInstrS (a0 : List (Int × Int × Int × Int × Int)) (a1 : Int) : Option Int :=
  cond (decide (IntKind.i64.wrap (a1 - ((a0.length : Nat) : Int)) < 0))
  (some (-1))
  (some (IntKind.i64.wrap (a1 - ((a0.length : Nat) : Int))))
def rv_laws_szInstrS (r : Int) : RV := ⟨false, [(false, [.sc (.int .i64 r)])]⟩
theorem ok_laws_szInstrS {a0 : List (Int × Int × Int × Int × Int)} {a1 : Int} {r : Int} (h : L_laws_szInstrS a0 a1 = some r) : CallOK Tryd.prog Tab 32 [(.tree (.pair .int (.pair .int (.pair .int (.pair .int .int)))) a0), (ai a1)] (rv_laws_szInstrS r) := by
  refine call_of_ (by kernel_rfl) Tryd.func32 c_laws_szInstrS (n := 12) (by kernel_rfl) (by simp) (tl := [(0, (.tree (.pair .int (.pair .int (.pair .int (.pair .int .int)))) a0)), (1, (ai a1))]) rfl ?_
  unfold m_laws_szInstrS
  unfold L_laws_szInstrS at h
  refine seqR ?_
  refine seqR ?_
  refine awp_seqv_ ?_
  refine seqR ?_
  rcases cond_some h with ⟨q5, h⟩ | ⟨q5, h⟩
  · have q5_ := of_decide_eq_true q5
    refine awp_condT_ q5 ?_
    refine seqR ?_
    refine awp_ret_ (tr_ ?_)
    obtain rfl := Option.some.inj h
    exact ret_ [(ai (-1))] (p_one rfl (l_sc (by kernel_rfl)) p_nil)
  have q5_ := of_decide_eq_false q5
  refine awp_condF_ q5 ?_
  refine awp_skip_ (tn_ ?_)
  refine ⟨_, Weak.refl _, ?_⟩
  refine seqR ?_
  refine awp_ret_ ?_
  obtain rfl := Option.some.inj h
  exact ret_ [(ai (IntKind.i64.wrap (a1 - ((a0.length : Nat) : Int))))] (p_one rfl (l_sc (by kernel_rfl)) p_nil)
def m_laws_szProgram : AC :=
  (.seq (rg [xo 2 (.i (.box 24 (tm 0))), xo 4 (qm (ci 0))])
  (.seq (rg [xo 5 (qf 4 (tm 2)), xo 6 (ql (tm 5)), xo 7 (qm (tm 1)), ⟨(some 8), none, (qc 32 [(tm 6), (tm 7)] [[(some (.pair .int (.pair .int (.pair .int (.pair .int .int)))))], []])⟩, xo 1 (qm (tm 8))])
  (.seq (.seq (rg [xo 9 (qm (tm 1)), xo 10 (qb .lss (tm 9) (ci 0))])
  (.cond (tm 10)
    (.seq (rg [xo 4 (qm (ci (-1)))])
    .ret)
    .skip))
  (.seq (rg [xo 11 (qm (tm 1)), xo 4 (qm (tm 11))])
  .ret))))
def r_laws_szProgram : List Res := [.tmp 4]
theorem c_laws_szProgram : compiled Tryd.prog Tryd.f8 = some (m_laws_szProgram, r_laws_szProgram) := by kernel_rfl
theorem hb_laws_szProgram : hasBody Tryd.prog 8 = true := by kernel_rfl
def L_laws_szProgram (a0_0 : Int) (a0_1 : Int) (a0_2 : Int) (a0_3 : Int) (a0_4 : List (Int × Int × Int × Int × Int)) (a1 : Int) : Option Int :=
  Option.bind (L_laws_szInstrS a0_4 a1) fun y3 =>
cond (decide (y3 < 0))
  (some (-1))
  (some y3)
def rv_laws_szProgram (r : Int) : RV := ⟨false, [(false, [.sc (.int .i64 r)])]⟩
theorem ok_laws_szProgram {a0_0 : Int} {a0_1 : Int} {a0_2 : Int} {a0_3 : Int} {a0_4 : List (Int × Int × Int × Int × Int)} {a1 : Int} {r : Int} (h : L_laws_szProgram a0_0 a0_1 a0_2 a0_3 a0_4 a1 = some r) : CallOK Tryd.prog Tab 8 [(.agg [(ai a0_0), (ai a0_1), (ai a0_2), (ai a0_3), (.tree (.pair .int (.pair .int (.pair .int (.pair .int .int)))) a0_4)]), (ai a1)] (rv_laws_szProgram r) := by
  refine call_of_ (by kernel_rfl) Tryd.func8 c_laws_szProgram (n := 12) (by kernel_rfl) (by simp) (tl := [(0, (.agg [(ai a0_0), (ai a0_1), (ai a0_2), (ai a0_3), (.tree (.pair .int (.pair .int (.pair .int (.pair .int .int)))) a0_4)])), (1, (ai a1))]) rfl ?_
  unfold m_laws_szProgram
  unfold L_laws_szProgram at h
  refine seqR ?_
  refine awp_seqv_ ?_
  obtain ⟨y3, h3, h⟩ := ob_some h
  refine awp_region_ 8 ?_
  refine rs0 (.box (oi 2 1) 4) (by kernel_rfl) ?_
  refine rsl (.tree (.pair .int (.pair .int (.pair .int (.pair .int .int)))) a0_4) (by kernel_rfl) ?_
  refine rs0 (ai a1) (by kernel_rfl) ?_
  refine rcall (ai y3) [] [(.tree (.pair .int (.pair .int (.pair .int (.pair .int .int)))) a0_4), (ai a1)] _ (caps := []) (args0 := [(.tree (.pair .int (.pair .int (.pair .int (.pair .int .int)))) a0_4), (ai a1)]) trivial (by kernel_rfl) (ok_laws_szInstrS h3) hb_laws_szInstrS ?_
  refine rsB 1 ?_
  refine rnil (tn_ ?_)
  refine ⟨_, Weak.refl _, ?_⟩
  refine awp_seqv_ ?_
  refine seqR ?_
  rcases cond_some h with ⟨q6, h⟩ | ⟨q6, h⟩
  · have q6_ := of_decide_eq_true q6
    refine awp_condT_ q6 ?_
    refine seqR ?_
    refine awp_ret_ (tr_ ?_)
    obtain rfl := Option.some.inj h
    exact ret_ [(ai (-1))] (p_one rfl (l_sc (by kernel_rfl)) p_nil)
  have q6_ := of_decide_eq_false q6
  refine awp_condF_ q6 ?_
  refine awp_skip_ (tn_ ?_)
  refine ⟨_, Weak.refl _, ?_⟩
  refine seqR ?_
  refine awp_ret_ ?_
  obtain rfl := Option.some.inj h
  exact ret_ [(ai y3)] (p_one rfl (l_sc (by kernel_rfl)) p_nil)
def m_laws_toInstr : AC :=
  (.seq (rg [xo 1 (.i (.box 80 (tm 0))), xo 2 (.i (.alloc 69 [(.int .i64 0), (.int .i64 0), (.int .i64 0), (.int .i64 0), (.int .i64 0)]))])
  (.seq (rg [xo 3 (.i (.alloc 69 [(.int .i64 0), (.int .i64 0), (.int .i64 0), (.int .i64 0), (.int .i64 0)]))])
  (.seq (rg [xo 4 (qf 0 (tm 1)), xo 5 (ql (tm 4)), xo 6 (qf 0 (tm 3)), xn (qs (tm 6) (tm 5))])
  (.seq (rg [xo 7 (qf 1 (tm 1)), xo 8 (ql (tm 7)), xo 9 (qf 1 (tm 3)), xn (qs (tm 9) (tm 8))])
  (.seq (rg [xo 10 (qf 2 (tm 1)), xo 11 (ql (tm 10)), xo 12 (qf 2 (tm 3)), xn (qs (tm 12) (tm 11))])
  (.seq (rg [xo 13 (qf 3 (tm 1)), xo 14 (ql (tm 13)), xo 15 (qf 3 (tm 3)), xn (qs (tm 15) (tm 14))])
  (.seq (rg [xo 16 (qf 4 (tm 1)), xo 17 (ql (tm 16)), xo 18 (qf 4 (tm 3)), xn (qs (tm 18) (tm 17))])
  (.seq (rg [xo 19 (.i (.ld false 5 (tm 3))), xn (.st false 5 (tm 2) (tm 19))])
  .ret))))))))
def r_laws_toInstr : List Res := [.cell 2 false 5]
theorem c_laws_toInstr : compiled Tryd.prog Tryd.f57 = some (m_laws_toInstr, r_laws_toInstr) := by kernel_rfl
theorem hb_laws_toInstr : hasBody Tryd.prog 57 = true := by kernel_rfl
def L_laws_toInstr (a0_0 : Int) (a0_1 : Int) (a0_2 : Int) (a0_3 : Int) (a0_4 : Int) : Option (Int × Int × Int × Int × Int) :=
  some (a0_0, a0_1, a0_2, a0_3, a0_4)
def rv_laws_toInstr (r : Int × Int × Int × Int × Int) : RV := ⟨false, [(true, [.sc (.int .i64 r.1), .sc (.int .i64 r.2.1), .sc (.int .i64 r.2.2.1), .sc (.int .i64 r.2.2.2.1), .sc (.int .i64 r.2.2.2.2)])]⟩
theorem ok_laws_toInstr {a0_0 : Int} {a0_1 : Int} {a0_2 : Int} {a0_3 : Int} {a0_4 : Int} {r : Int × Int × Int × Int × Int} (h : L_laws_toInstr a0_0 a0_1 a0_2 a0_3 a0_4 = some r) : CallOK Tryd.prog Tab 57 [(.agg [(ai a0_0), (ai a0_1), (ai a0_2), (ai a0_3), (ai a0_4)])] (rv_laws_toInstr r) := by
  refine call_of_ (by kernel_rfl) Tryd.func57 c_laws_toInstr (n := 20) (by kernel_rfl) (by simp) (tl := [(0, (.agg [(ai a0_0), (ai a0_1), (ai a0_2), (ai a0_3), (ai a0_4)]))]) rfl ?_
  unfold m_laws_toInstr
  unfold L_laws_toInstr at h
  refine seqR ?_
  refine seqR ?_
  refine seqR ?_
  refine seqR ?_
  refine seqR ?_
  refine seqR ?_
  refine seqR ?_
  refine seqR ?_
  refine awp_ret_ ?_
  obtain rfl := Option.some.inj h
  exact ret_ [(.agg [(ai a0_0), (ai a0_1), (ai a0_2), (ai a0_3), (ai a0_4)])] (p_agg (l_cons (l_sc (by kernel_rfl)) (l_cons (l_sc (by kernel_rfl)) (l_cons (l_sc (by kernel_rfl)) (l_cons (l_sc (by kernel_rfl)) (l_cons (l_sc (by kernel_rfl)) l_nil))))) p_nil)
def m_laws_toInstrS_l1 : AC :=
  (.seq (.seq (rg [xo 8 (qm (tm 4)), xo 9 (qm (tm 0)), xo 10 (.i (.len (tm 9))), xo 11 (qb .lss (tm 8) (tm 10))])
  (.cond (tm 11)
    .skip
    (.exit 0)))
  (.seq (.block 1 (rg [xo 14 (qm (tm 3)), xo 15 (qm (tm 4)), xo 16 (qm (tm 0)), xo 17 (qm (tm 4)), xo 18 (qx 5 (tm 16) (tm 17)), xo 19 (.i (.ld false 5 (tm 18))), xo 20 (qc 57 [(tm 19)] [[none, none, none, none, none]]), xo 21 (qx 5 (tm 14) (tm 15)), xn (.st false 5 (tm 21) (tm 20))]))
  (rg [xo 12 (qm (tm 4)), xo 13 (qb .add (tm 12) (ci 1)), xo 4 (qm (tm 13))])))
def m_laws_toInstrS : AC :=
  (.seq (rg [xo 2 (qm (.cst .nils))])
  (.seq (rg [xo 5 (qm (tm 0)), xo 6 (.i (.len (tm 5))), ⟨(some 7), none, (.make 69 (.pair .int (.pair .int (.pair .int (.pair .int .int)))) 40 (tm 6) (tm 6))⟩, xo 3 (qm (tm 7))])
  (.seq (.seq (rg [xo 4 (qm (ci 0))])
  (.block 0 (.loop m_laws_toInstrS_l1)))
  (.seq (rg [xo 22 (qm (tm 3)), xo 2 (qm (tm 22))])
  .ret))))
def r_laws_toInstrS : List Res := [.tmp 2]
theorem c_laws_toInstrS : compiled Tryd.prog Tryd.f34 = some (m_laws_toInstrS, r_laws_toInstrS) := by kernel_rfl
theorem hb_laws_toInstrS : hasBody Tryd.prog 34 = true := by kernel_rfl
def L_laws_toInstrS_l1 (a0 : List (Int × Int × Int × Int × Int)) (l6_m4 : Nat) (l6_m3 : List (Int × Int × Int × Int × Int)) : Option (Ctl (Nat × (List (Int × Int × Int × Int × Int))) (List (Int × Int × Int × Int × Int))) :=
  cond (decide (((l6_m4 : Nat) : Int) < ((a0.length : Nat) : Int)))
  (Option.bind (a0[l6_m4]?) fun x11 =>
  Option.bind (L_laws_toInstr x11.1 x11.2.1 x11.2.2.1 x11.2.2.2.1 x11.2.2.2.2) fun y12 =>
  Option.bind (l6_m3[l6_m4]?) fun x13 =>
  og (l6_m4 + 1 < 4611686018427387904) <|
  some (Ctl.next (l6_m4 + 1, l6_m3.set l6_m4 y12)))
  (some (Ctl.out l6_m3))
def L_laws_toInstrS (a0 : List (Int × Int × Int × Int × Int)) : Option (List (Int × Int × Int × Int × Int)) :=
  og (0 ≤ ((a0.length : Nat) : Int) ∧ ((a0.length : Nat) : Int) ≤ ((a0.length : Nat) : Int) ∧ ((a0.length : Nat) : Int) ≤ 1073741824 ∧ (40 : Int) * ((a0.length : Nat) : Int) ≤ 140737488355328) <|
Option.bind (loopM (fun s_ : Nat × (List (Int × Int × Int × Int × Int)) => L_laws_toInstrS_l1 a0 s_.1 s_.2) 4611686018427387904 (0, List.replicate a0.length ((0, 0, 0, 0, 0) : Int × Int × Int × Int × Int))) fun l4_m3 =>
some l4_m3
def rv_laws_toInstrS (r : List (Int × Int × Int × Int × Int)) : RV := ⟨false, [(false, [.new 69 (.pair .int (.pair .int (.pair .int (.pair .int .int)))) r])]⟩
theorem ok_laws_toInstrS {a0 : List (Int × Int × Int × Int × Int)} {r : List (Int × Int × Int × Int × Int)} (h : L_laws_toInstrS a0 = some r) : CallOK Tryd.prog Tab 34 [(.tree (.pair .int (.pair .int (.pair .int (.pair .int .int)))) a0)] (rv_laws_toInstrS r) := by
  refine call_of_ (by kernel_rfl) Tryd.func34 c_laws_toInstrS (n := 23) (by kernel_rfl) (by simp) (tl := [(0, (.tree (.pair .int (.pair .int (.pair .int (.pair .int .int)))) a0))]) rfl ?_
  unfold m_laws_toInstrS
  unfold L_laws_toInstrS at h
  refine seqR ?_
  refine awp_seqv_ ?_
  obtain ⟨g3, h⟩ := og_some h
  refine awp_region_ 6 ?_
  refine rs0 (.tree (.pair .int (.pair .int (.pair .int (.pair .int .int)))) a0) (by kernel_rfl) ?_
  refine rs0 (ai ((a0.length : Nat) : Int)) (by kernel_rfl) ?_
  refine rs1 (.own (oi 7 4) (.pair .int (.pair .int (.pair .int (.pair .int .int)))) 0 a0.length) (oi 7 4) (.arr 69 (.pair .int (.pair .int (.pair .int (.pair .int .int)))) (List.replicate a0.length ((0, 0, 0, 0, 0) : Int × Int × Int × Int × Int))) (s_make (t := (.pair .int (.pair .int (.pair .int (.pair .int .int))))) (k := .i64) (k' := .i64) (m := ((a0.length : Nat) : Int)) (m' := ((a0.length : Nat) : Int)) (by kernel_rfl) (by kernel_rfl) g3 rfl) ?_
  refine rsB 1 ?_
  refine rnil (tn_ ?_)
  refine ⟨_, Weak.refl _, ?_⟩
  refine awp_seqB h (fun (l4_m3 : List (Int × Int × Int × Int × Int)) S_ => S_ = ⟨mkTm [(3, (.own (oi 0 1) (.pair .int (.pair .int (.pair .int (.pair .int .int)))) 0 l4_m3.length))], mkOb (someL [((oi 0 1), .arr 69 (.pair .int (.pair .int (.pair .int (.pair .int .int)))) l4_m3)]), 2⟩) ?_ ?_
  · intro v_ h
    refine seqR ?_
    refine awp_block_ ?_
    refine awp_loopL h (fun t_ S_ => ∃ (l6_m4 : Nat), ∃ (l6_m3 : List (Int × Int × Int × Int × Int)), t_ = (l6_m4, l6_m3) ∧ S_ = ⟨mkTm [(0, (.tree (.pair .int (.pair .int (.pair .int (.pair .int .int)))) a0)), (3, (.own (oi 0 1) (.pair .int (.pair .int (.pair .int (.pair .int .int)))) 0 l6_m3.length)), (4, (ai ((l6_m4 : Nat) : Int)))], mkOb (someL [((oi 0 1), .arr 69 (.pair .int (.pair .int (.pair .int (.pair .int .int)))) l6_m3)]), 2⟩) ⟨_, ((weak_tm_ 3 (.own (oi 7 4) (.pair .int (.pair .int (.pair .int (.pair .int .int)))) 0 a0.length) (.own (oi 7 4) (.pair .int (.pair .int (.pair .int (.pair .int .int)))) 0 ((List.replicate a0.length ((0, 0, 0, 0, 0) : Int × Int × Int × Int × Int)).length)) (by kernel_rfl) (congrArg (fun z_ => ((.own (oi 7 4) (.pair .int (.pair .int (.pair .int (.pair .int .int)))) 0 z_) : AV)) (List.length_replicate.symm : a0.length = (List.replicate a0.length ((0, 0, 0, 0, 0) : Int × Int × Int × Int × Int)).length))).trans (weak_ren [((oi 0 1), (oi 7 4))])), ⟨0, List.replicate a0.length ((0, 0, 0, 0, 0) : Int × Int × Int × Int × Int), rfl, rfl⟩⟩ ?_
    rintro n_ _ _ c_ ⟨l6_m4, l6_m3, rfl, rfl⟩ h hn6
    (try dsimp only at h)
    unfold L_laws_toInstrS_l1 at h
    unfold m_laws_toInstrS_l1
    refine awp_seqv_ ?_
    refine seqR ?_
    rcases cond_some h with ⟨q9, h⟩ | ⟨q9, h⟩
    · have q9_ := of_decide_eq_true q9
      refine awp_condT_ q9 ?_
      refine awp_skip_ (tn_ ?_)
      refine ⟨_, Weak.refl _, ?_⟩
      refine awp_seqv_ ?_
      refine awp_block_ ?_
      obtain ⟨x11, e11, h⟩ := ob_some h
      obtain ⟨y12, h12, h⟩ := ob_some h
      obtain ⟨x13, e13, h⟩ := ob_some h
      refine awp_region_ 15 ?_
      refine rs0 (.own (oi 0 1) (.pair .int (.pair .int (.pair .int (.pair .int .int)))) 0 l6_m3.length) (by kernel_rfl) ?_
      refine rs0 (ai ((l6_m4 : Nat) : Int)) (by kernel_rfl) ?_
      refine rs0 (.tree (.pair .int (.pair .int (.pair .int (.pair .int .int)))) a0) (by kernel_rfl) ?_
      refine rs0 (ai ((l6_m4 : Nat) : Int)) (by kernel_rfl) ?_
      refine rs0 (.telt (.pair .int (.pair .int (.pair .int (.pair .int .int)))) x11 0) (s_idxT (t := (.pair .int (.pair .int (.pair .int (.pair .int .int))))) (xs := a0) (k := .i64) (m := ((l6_m4 : Nat) : Int)) (by kernel_rfl) (by kernel_rfl) rfl (nat_nn _) rfl e11) ?_
      refine rs0 (.agg [(ai x11.1), (ai x11.2.1), (ai x11.2.2.1), (ai x11.2.2.2.1), (ai x11.2.2.2.2)]) (by kernel_rfl) ?_
      refine rcall (.agg [(ai y12.1), (ai y12.2.1), (ai y12.2.2.1), (ai y12.2.2.2.1), (ai y12.2.2.2.2)]) [] [(.agg [(ai x11.1), (ai x11.2.1), (ai x11.2.2.1), (ai x11.2.2.2.1), (ai x11.2.2.2.2)])] _ (caps := []) (args0 := [(.agg [(ai x11.1), (ai x11.2.1), (ai x11.2.2.1), (ai x11.2.2.2.1), (ai x11.2.2.2.2)])]) trivial (by kernel_rfl) (ok_laws_toInstr h12) hb_laws_toInstr ?_
      refine rs0 (.elt (oi 0 1) l6_m4 0) (s_idxO (t := (.pair .int (.pair .int (.pair .int (.pair .int .int))))) (o := (oi 0 1)) (len := l6_m3.length) (k := .i64) (m := ((l6_m4 : Nat) : Int)) (by kernel_rfl) (by kernel_rfl) rfl (nat_nn _) rfl (getN_lt e13)) ?_
      refine rsn2 (oi 0 1) (oi 0 1) (.arr 69 (.pair .int (.pair .int (.pair .int (.pair .int .int)))) (l6_m3.set l6_m4 y12)) (s_stE (i := (oi 0 1)) (j := l6_m4) (k := 0) (e := 69) (t := (.pair .int (.pair .int (.pair .int (.pair .int .int))))) (xs := l6_m3) (cs := [(ai y12.1), (ai y12.2.1), (ai y12.2.2.1), (ai y12.2.2.2.1), (ai y12.2.2.2.2)]) (x1 := y12) (by kernel_rfl) (by kernel_rfl) e13 (by kernel_rfl) (by kernel_rfl)) ?_
      refine rnil (bn_ (tn_ ?_))
      refine ⟨_, Weak.refl _, ?_⟩
      obtain ⟨g14, h⟩ := og_some h
      refine awp_region_ 18 ?_
      refine rs0 (ai ((l6_m4 : Nat) : Int)) (by kernel_rfl) ?_
      refine rs0 (ai ((l6_m4 + 1 : Nat) : Int)) (s_add1 (j := l6_m4) (by kernel_rfl) (by kernel_rfl) g14) ?_
      refine rsB 1 ?_
      refine rnil (tn_ ?_)
      obtain rfl := Option.some.inj h
      exact ⟨(l6_m4 + 1, l6_m3.set l6_m4 y12), _, ((weak_tm_ 3 (.own (oi 0 1) (.pair .int (.pair .int (.pair .int (.pair .int .int)))) 0 l6_m3.length) (.own (oi 0 1) (.pair .int (.pair .int (.pair .int (.pair .int .int)))) 0 ((l6_m3.set l6_m4 y12).length)) (by kernel_rfl) (congrArg (fun z_ => ((.own (oi 0 1) (.pair .int (.pair .int (.pair .int (.pair .int .int)))) 0 z_) : AV)) (((rfl : l6_m3.length = l6_m3.length).trans List.length_set.symm) : l6_m3.length = (l6_m3.set l6_m4 y12).length))).trans (weak_ren [])), ⟨l6_m4 + 1, l6_m3.set l6_m4 y12, rfl, rfl⟩, hn6⟩
    have q9_ := of_decide_eq_false q9
    refine awp_condF_ q9 ?_
    refine awp_exit_ (te_ (te_ (be_ (tn_ ?_))))
    obtain rfl := Option.some.inj h
    have h := hn6
    (try dsimp only at h)
    obtain rfl := Option.some.inj h
    exact ⟨_, (weak_ren []), rfl⟩
  rintro l4_m3 _ rfl h
  (try dsimp only at h)
  refine seqR ?_
  refine awp_ret_ ?_
  obtain rfl := Option.some.inj h
  exact ret_ [(.own (oi 0 1) (.pair .int (.pair .int (.pair .int (.pair .int .int)))) 0 l4_m3.length)] (p_one rfl (l_own (by kernel_rfl) rfl) p_nil)
def m_laws_toProgram : AC :=
  (.seq (rg [xo 1 (.i (.box 24 (tm 0))), xo 2 (.i (.alloc 29 [(.int .i64 0), (.int .i64 0), (.int .i64 0), (.int .i64 0), .nils]))])
  (.seq (rg [xo 3 (.i (.alloc 29 [(.int .i64 0), (.int .i64 0), (.int .i64 0), (.int .i64 0), .nils]))])
  (.seq (rg [xo 4 (qf 0 (tm 1)), xo 5 (ql (tm 4)), xo 6 (qf 0 (tm 3)), xn (qs (tm 6) (tm 5))])
  (.seq (rg [xo 7 (qf 1 (tm 1)), xo 8 (ql (tm 7)), xo 9 (qf 1 (tm 3)), xn (qs (tm 9) (tm 8))])
  (.seq (rg [xo 10 (qf 2 (tm 1)), xo 11 (ql (tm 10)), xo 12 (qf 2 (tm 3)), xn (qs (tm 12) (tm 11))])
  (.seq (rg [xo 13 (qf 3 (tm 1)), xo 14 (ql (tm 13)), xo 15 (qf 3 (tm 3)), xn (qs (tm 15) (tm 14))])
  (.seq (rg [xo 16 (qf 4 (tm 1)), xo 17 (ql (tm 16)), ⟨(some 18), none, (qc 34 [(tm 17)] [[(some (.pair .int (.pair .int (.pair .int (.pair .int .int)))))]])⟩, xo 19 (qf 4 (tm 3)), xn (qs (tm 19) (tm 18))])
  (.seq (rg [xo 20 (.i (.ld false 5 (tm 3))), xn (.st false 5 (tm 2) (tm 20))])
  .ret))))))))
def r_laws_toProgram : List Res := [.cell 2 false 5]
theorem c_laws_toProgram : compiled Tryd.prog Tryd.f10 = some (m_laws_toProgram, r_laws_toProgram) := by kernel_rfl
theorem hb_laws_toProgram : hasBody Tryd.prog 10 = true := by kernel_rfl
def L_laws_toProgram (a0_0 : Int) (a0_1 : Int) (a0_2 : Int) (a0_3 : Int) (a0_4 : List (Int × Int × Int × Int × Int)) : Option (Int × Int × Int × Int × (List (Int × Int × Int × Int × Int))) :=
  Option.bind (L_laws_toInstrS a0_4) fun y8 =>
some (a0_0, a0_1, a0_2, a0_3, y8)
def rv_laws_toProgram (r : Int × Int × Int × Int × (List (Int × Int × Int × Int × Int))) : RV := ⟨false, [(true, [.sc (.int .i64 r.1), .sc (.int .i64 r.2.1), .sc (.int .i64 r.2.2.1), .sc (.int .i64 r.2.2.2.1), .new 69 (.pair .int (.pair .int (.pair .int (.pair .int .int)))) r.2.2.2.2])]⟩
theorem ok_laws_toProgram {a0_0 : Int} {a0_1 : Int} {a0_2 : Int} {a0_3 : Int} {a0_4 : List (Int × Int × Int × Int × Int)} {r : Int × Int × Int × Int × (List (Int × Int × Int × Int × Int))} (h : L_laws_toProgram a0_0 a0_1 a0_2 a0_3 a0_4 = some r) : CallOK Tryd.prog Tab 10 [(.agg [(ai a0_0), (ai a0_1), (ai a0_2), (ai a0_3), (.tree (.pair .int (.pair .int (.pair .int (.pair .int .int)))) a0_4)])] (rv_laws_toProgram r) := by
  refine call_of_ (by kernel_rfl) Tryd.func10 c_laws_toProgram (n := 21) (by kernel_rfl) (by simp) (tl := [(0, (.agg [(ai a0_0), (ai a0_1), (ai a0_2), (ai a0_3), (.tree (.pair .int (.pair .int (.pair .int (.pair .int .int)))) a0_4)]))]) rfl ?_
  unfold m_laws_toProgram
  unfold L_laws_toProgram at h
  refine seqR ?_
  refine seqR ?_
  refine seqR ?_
  refine seqR ?_
  refine seqR ?_
  refine seqR ?_
  refine awp_seqv_ ?_
  obtain ⟨y8, h8, h⟩ := ob_some h
  refine awp_region_ 25 ?_
  refine rs0 (.box (oi 1 1) 4) (by kernel_rfl) ?_
  refine rsl (.tree (.pair .int (.pair .int (.pair .int (.pair .int .int)))) a0_4) (by kernel_rfl) ?_
  refine rcall (.own (oi 288 22) (.pair .int (.pair .int (.pair .int (.pair .int .int)))) 0 y8.length) [((oi 288 22), some (.arr 69 (.pair .int (.pair .int (.pair .int (.pair .int .int)))) y8))] [(.tree (.pair .int (.pair .int (.pair .int (.pair .int .int)))) a0_4)] _ (caps := []) (args0 := [(.tree (.pair .int (.pair .int (.pair .int (.pair .int .int)))) a0_4)]) trivial (by kernel_rfl) (ok_laws_toInstrS h8) hb_laws_toInstrS ?_
  refine rsB 2 ?_
  refine rnil (tn_ ?_)
  refine ⟨_, Weak.refl _, ?_⟩
  refine seqR ?_
  refine awp_ret_ ?_
  obtain rfl := Option.some.inj h
  exact ret_ [(.agg [(ai a0_0), (ai a0_1), (ai a0_2), (ai a0_3), (.own (oi 288 22) (.pair .int (.pair .int (.pair .int (.pair .int .int)))) 0 y8.length)])] (p_agg (l_cons (l_sc (by kernel_rfl)) (l_cons (l_sc (by kernel_rfl)) (l_cons (l_sc (by kernel_rfl)) (l_cons (l_sc (by kernel_rfl)) (l_cons (l_own (by kernel_rfl) rfl) l_nil))))) p_nil)
def m_laws_eqInstr : AC :=
  (.seq (rg [xo 2 (.i (.box 69 (tm 0))), xo 3 (.i (.box 69 (tm 1))), xo 4 (qm (cb false))])
  (.seq (.seq (rg [xo 5 (qf 0 (tm 2)), xo 6 (ql (tm 5)), xo 7 (qf 0 (tm 3)), xo 8 (ql (tm 7)), xo 9 (qb .neq (tm 6) (tm 8))])
  (.cond (tm 9)
    (.seq (rg [xo 4 (qm (cb false))])
    .ret)
    .skip))
  (.seq (.seq (rg [xo 10 (qf 1 (tm 2)), xo 11 (ql (tm 10)), xo 12 (qf 1 (tm 3)), xo 13 (ql (tm 12)), xo 14 (qb .neq (tm 11) (tm 13))])
  (.cond (tm 14)
    (.seq (rg [xo 4 (qm (cb false))])
    .ret)
    .skip))
  (.seq (.seq (rg [xo 15 (qf 2 (tm 2)), xo 16 (ql (tm 15)), xo 17 (qf 2 (tm 3)), xo 18 (ql (tm 17)), xo 19 (qb .neq (tm 16) (tm 18))])
  (.cond (tm 19)
    (.seq (rg [xo 4 (qm (cb false))])
    .ret)
    .skip))
  (.seq (.seq (rg [xo 20 (qf 3 (tm 2)), xo 21 (ql (tm 20)), xo 22 (qf 3 (tm 3)), xo 23 (ql (tm 22)), xo 24 (qb .neq (tm 21) (tm 23))])
  (.cond (tm 24)
    (.seq (rg [xo 4 (qm (cb false))])
    .ret)
    .skip))
  (.seq (.seq (rg [xo 25 (qf 4 (tm 2)), xo 26 (ql (tm 25)), xo 27 (qf 4 (tm 3)), xo 28 (ql (tm 27)), xo 29 (qb .neq (tm 26) (tm 28))])
  (.cond (tm 29)
    (.seq (rg [xo 4 (qm (cb false))])
    .ret)
    .skip))
  (.seq (rg [xo 4 (qm (cb true))])
  .ret)))))))
def r_laws_eqInstr : List Res := [.tmp 4]
theorem c_laws_eqInstr : compiled Tryd.prog Tryd.f62 = some (m_laws_eqInstr, r_laws_eqInstr) := by kernel_rfl
theorem hb_laws_eqInstr : hasBody Tryd.prog 62 = true := by kernel_rfl
def L_laws_eqInstr (a0_0 : Int) (a0_1 : Int) (a0_2 : Int) (a0_3 : Int) (a0_4 : Int) (a1_0 : Int) (a1_1 : Int) (a1_2 : Int) (a1_3 : Int) (a1_4 : Int) : Option Bool :=
  cond (a0_0 != a1_0)
  (some false)
  (cond (a0_1 != a1_1)
    (some false)
    (cond (a0_2 != a1_2)
      (some false)
      (cond (a0_3 != a1_3)
        (some false)
        (cond (a0_4 != a1_4)
          (some false)
          (some true)))))
def rv_laws_eqInstr (r : Bool) : RV := ⟨false, [(false, [.sc (.bool r)])]⟩
theorem ok_laws_eqInstr {a0_0 : Int} {a0_1 : Int} {a0_2 : Int} {a0_3 : Int} {a0_4 : Int} {a1_0 : Int} {a1_1 : Int} {a1_2 : Int} {a1_3 : Int} {a1_4 : Int} {r : Bool} (h : L_laws_eqInstr a0_0 a0_1 a0_2 a0_3 a0_4 a1_0 a1_1 a1_2 a1_3 a1_4 = some r) : CallOK Tryd.prog Tab 62 [(.agg [(ai a0_0), (ai a0_1), (ai a0_2), (ai a0_3), (ai a0_4)]), (.agg [(ai a1_0), (ai a1_1), (ai a1_2), (ai a1_3), (ai a1_4)])] (rv_laws_eqInstr r) := by
  refine call_of_ (by kernel_rfl) Tryd.func62 c_laws_eqInstr (n := 30) (by kernel_rfl) (by simp) (tl := [(0, (.agg [(ai a0_0), (ai a0_1), (ai a0_2), (ai a0_3), (ai a0_4)])), (1, (.agg [(ai a1_0), (ai a1_1), (ai a1_2), (ai a1_3), (ai a1_4)]))]) rfl ?_
  unfold m_laws_eqInstr
  unfold L_laws_eqInstr at h
  refine seqR ?_
  refine awp_seqv_ ?_
  refine seqR ?_
  rcases cond_some h with ⟨q4, h⟩ | ⟨q4, h⟩
  · refine awp_condT_ q4 ?_
    refine seqR ?_
    refine awp_ret_ (tr_ ?_)
    obtain rfl := Option.some.inj h
    exact ret_ [(.bool false)] (p_one rfl (l_sc (by kernel_rfl)) p_nil)
  refine awp_condF_ q4 ?_
  refine awp_skip_ (tn_ ?_)
  refine ⟨_, Weak.refl _, ?_⟩
  refine awp_seqv_ ?_
  refine seqR ?_
  rcases cond_some h with ⟨q8, h⟩ | ⟨q8, h⟩
  · refine awp_condT_ q8 ?_
    refine seqR ?_
    refine awp_ret_ (tr_ ?_)
    obtain rfl := Option.some.inj h
    exact ret_ [(.bool false)] (p_one rfl (l_sc (by kernel_rfl)) p_nil)
  refine awp_condF_ q8 ?_
  refine awp_skip_ (tn_ ?_)
  refine ⟨_, Weak.refl _, ?_⟩
  refine awp_seqv_ ?_
  refine seqR ?_
  rcases cond_some h with ⟨q12, h⟩ | ⟨q12, h⟩
  · refine awp_condT_ q12 ?_
    refine seqR ?_
    refine awp_ret_ (tr_ ?_)
    obtain rfl := Option.some.inj h
    exact ret_ [(.bool false)] (p_one rfl (l_sc (by kernel_rfl)) p_nil)
  refine awp_condF_ q12 ?_
  refine awp_skip_ (tn_ ?_)
  refine ⟨_, Weak.refl _, ?_⟩
  refine awp_seqv_ ?_
  refine seqR ?_
  rcases cond_some h with ⟨q16, h⟩ | ⟨q16, h⟩
  · refine awp_condT_ q16 ?_
    refine seqR ?_
    refine awp_ret_ (tr_ ?_)
    obtain rfl := Option.some.inj h
    exact ret_ [(.bool false)] (p_one rfl (l_sc (by kernel_rfl)) p_nil)
  refine awp_condF_ q16 ?_
  refine awp_skip_ (tn_ ?_)
  refine ⟨_, Weak.refl _, ?_⟩
  refine awp_seqv_ ?_
  refine seqR ?_
  rcases cond_some h with ⟨q20, h⟩ | ⟨q20, h⟩
  · refine awp_condT_ q20 ?_
    refine seqR ?_
    refine awp_ret_ (tr_ ?_)
    obtain rfl := Option.some.inj h
    exact ret_ [(.bool false)] (p_one rfl (l_sc (by kernel_rfl)) p_nil)
  refine awp_condF_ q20 ?_
  refine awp_skip_ (tn_ ?_)
  refine ⟨_, Weak.refl _, ?_⟩
  refine seqR ?_
  refine awp_ret_ ?_
  obtain rfl := Option.some.inj h
  exact ret_ [(.bool true)] (p_one rfl (l_sc (by kernel_rfl)) p_nil)
def m_laws_eqInstrS_l1 : AC :=
  (.seq (.seq (rg [xo 11 (qm (tm 5)), xo 12 (qm (tm 0)), xo 13 (.i (.len (tm 12))), xo 14 (qb .lss (tm 11) (tm 13))])
  (.cond (tm 14)
    .skip
    (.exit 0)))
  (.seq (.block 1 (.seq (.region [xo 17 (qm (tm 0)), xo 18 (qm (tm 5)), xo 19 (qx 5 (tm 17) (tm 18)), xo 20 (.i (.ld false 5 (tm 19))), xo 21 (qm (tm 1)), xo 22 (qm (tm 5)), xo 23 (qx 5 (tm 21) (tm 22)), xo 24 (.i (.ld false 5 (tm 23))), xo 25 (qc 62 [(tm 20), (tm 24)] [[none, none, none, none, none], [none, none, none, none, none]]), xo 26 (.i (.not (tm 25)))] true [])
  (.cond (tm 26)
    (.seq (rg [xo 4 (qm (cb false))])
    .ret)
    .skip)))
  (rg [xo 15 (qm (tm 5)), xo 16 (qb .add (tm 15) (ci 1)), xo 5 (qm (tm 16))])))
def m_laws_eqInstrS : AC :=
  (.seq (rg [xo 4 (qm (cb false))])
  (.seq (.seq (rg [xo 6 (qm (tm 0)), xo 7 (.i (.len (tm 6))), xo 8 (qm (tm 1)), xo 9 (.i (.len (tm 8))), xo 10 (qb .neq (tm 7) (tm 9))])
  (.cond (tm 10)
    (.seq (rg [xo 4 (qm (cb false))])
    .ret)
    .skip))
  (.seq (.seq (rg [xo 5 (qm (ci 0))])
  (.block 0 (.loop m_laws_eqInstrS_l1)))
  (.seq (rg [xo 4 (qm (cb true))])
  .ret))))
def r_laws_eqInstrS : List Res := [.tmp 4]
theorem c_laws_eqInstrS : compiled Tryd.prog Tryd.f36 = some (m_laws_eqInstrS, r_laws_eqInstrS) := by kernel_rfl
theorem hb_laws_eqInstrS : hasBody Tryd.prog 36 = true := by kernel_rfl
def L_laws_eqInstrS_l1 (a0 : List (Int × Int × Int × Int × Int)) (a1 : List (Int × Int × Int × Int × Int)) (l8_m5 : Nat) : Option (Ctl Nat (Ctl Unit Bool)) :=
  cond (decide (((l8_m5 : Nat) : Int) < ((a0.length : Nat) : Int)))
  (Option.bind (a0[l8_m5]?) fun x14 =>
  Option.bind (a1[l8_m5]?) fun x15 =>
  Option.bind (L_laws_eqInstr x14.1 x14.2.1 x14.2.2.1 x14.2.2.2.1 x14.2.2.2.2 x15.1 x15.2.1 x15.2.2.1 x15.2.2.2.1 x15.2.2.2.2) fun y16 =>
  cond (!y16)
    (some (Ctl.out (Ctl.out false)))
    (og (l8_m5 + 1 < 4611686018427387904) <|
    some (Ctl.next (l8_m5 + 1))))
  (some (Ctl.out (Ctl.next ())))
def L_laws_eqInstrS (a0 : List (Int × Int × Int × Int × Int)) (a1 : List (Int × Int × Int × Int × Int)) : Option Bool :=
  cond (((a0.length : Nat) : Int) != ((a1.length : Nat) : Int))
  (some false)
  (seqC (loopM (fun s_ : Nat => L_laws_eqInstrS_l1 a0 a1 s_) 4611686018427387904 0) fun _ =>
  some true)
def rv_laws_eqInstrS (r : Bool) : RV := ⟨false, [(false, [.sc (.bool r)])]⟩
theorem ok_laws_eqInstrS {a0 : List (Int × Int × Int × Int × Int)} {a1 : List (Int × Int × Int × Int × Int)} {r : Bool} (h : L_laws_eqInstrS a0 a1 = some r) : CallOK Tryd.prog Tab 36 [(.tree (.pair .int (.pair .int (.pair .int (.pair .int .int)))) a0), (.tree (.pair .int (.pair .int (.pair .int (.pair .int .int)))) a1)] (rv_laws_eqInstrS r) := by
  refine call_of_ (by kernel_rfl) Tryd.func36 c_laws_eqInstrS (n := 27) (by kernel_rfl) (by simp) (tl := [(0, (.tree (.pair .int (.pair .int (.pair .int (.pair .int .int)))) a0)), (1, (.tree (.pair .int (.pair .int (.pair .int (.pair .int .int)))) a1))]) rfl ?_
  unfold m_laws_eqInstrS
  unfold L_laws_eqInstrS at h
  refine seqR ?_
  refine awp_seqv_ ?_
  refine seqR ?_
  rcases cond_some h with ⟨q4, h⟩ | ⟨q4, h⟩
  · refine awp_condT_ q4 ?_
    refine seqR ?_
    refine awp_ret_ (tr_ ?_)
    obtain rfl := Option.some.inj h
    exact ret_ [(.bool false)] (p_one rfl (l_sc (by kernel_rfl)) p_nil)
  refine awp_condF_ q4 ?_
  refine awp_skip_ (tn_ ?_)
  refine ⟨_, Weak.refl _, ?_⟩
  refine awp_seqC h (fun (_ : Unit) S_ => S_ = ⟨mkTm [], mkOb (someL []), 2⟩) ?_ ?_
  · intro v_ h hk6
    refine seqR ?_
    refine awp_block_ ?_
    refine awp_loopL h (fun (l8_m5 : Nat) S_ => S_ = ⟨mkTm [(0, (.tree (.pair .int (.pair .int (.pair .int (.pair .int .int)))) a0)), (1, (.tree (.pair .int (.pair .int (.pair .int (.pair .int .int)))) a1)), (5, (ai ((l8_m5 : Nat) : Int)))], mkOb (someL []), 2⟩) ⟨_, (weak_ren []), rfl⟩ ?_
    rintro n_ l8_m5 _ c_ rfl h hn8
    (try dsimp only at h)
    unfold L_laws_eqInstrS_l1 at h
    unfold m_laws_eqInstrS_l1
    refine awp_seqv_ ?_
    refine seqR ?_
    rcases cond_some h with ⟨q11, h⟩ | ⟨q11, h⟩
    · have q11_ := of_decide_eq_true q11
      refine awp_condT_ q11 ?_
      refine awp_skip_ (tn_ ?_)
      refine ⟨_, Weak.refl _, ?_⟩
      refine awp_seqv_ ?_
      refine awp_block_ ?_
      refine awp_seqv_ ?_
      obtain ⟨x14, e14, h⟩ := ob_some h
      obtain ⟨x15, e15, h⟩ := ob_some h
      obtain ⟨y16, h16, h⟩ := ob_some h
      refine awp_regionD_ 16 ?_
      refine ds0 (.tree (.pair .int (.pair .int (.pair .int (.pair .int .int)))) a0) (by kernel_rfl) ?_
      refine ds0 (ai ((l8_m5 : Nat) : Int)) (by kernel_rfl) ?_
      refine ds0 (.telt (.pair .int (.pair .int (.pair .int (.pair .int .int)))) x14 0) (s_idxT (t := (.pair .int (.pair .int (.pair .int (.pair .int .int))))) (xs := a0) (k := .i64) (m := ((l8_m5 : Nat) : Int)) (by kernel_rfl) (by kernel_rfl) rfl (nat_nn _) rfl e14) ?_
      refine ds0 (.agg [(ai x14.1), (ai x14.2.1), (ai x14.2.2.1), (ai x14.2.2.2.1), (ai x14.2.2.2.2)]) (by kernel_rfl) ?_
      refine ds0 (.tree (.pair .int (.pair .int (.pair .int (.pair .int .int)))) a1) (by kernel_rfl) ?_
      refine ds0 (ai ((l8_m5 : Nat) : Int)) (by kernel_rfl) ?_
      refine ds0 (.telt (.pair .int (.pair .int (.pair .int (.pair .int .int)))) x15 0) (s_idxT (t := (.pair .int (.pair .int (.pair .int (.pair .int .int))))) (xs := a1) (k := .i64) (m := ((l8_m5 : Nat) : Int)) (by kernel_rfl) (by kernel_rfl) rfl (nat_nn _) rfl e15) ?_
      refine ds0 (.agg [(ai x15.1), (ai x15.2.1), (ai x15.2.2.1), (ai x15.2.2.2.1), (ai x15.2.2.2.2)]) (by kernel_rfl) ?_
      refine dcall (.bool y16) [] [(.agg [(ai x14.1), (ai x14.2.1), (ai x14.2.2.1), (ai x14.2.2.2.1), (ai x14.2.2.2.2)]), (.agg [(ai x15.1), (ai x15.2.1), (ai x15.2.2.1), (ai x15.2.2.2.1), (ai x15.2.2.2.2)])] _ (caps := []) (args0 := [(.agg [(ai x14.1), (ai x14.2.1), (ai x14.2.2.1), (ai x14.2.2.2.1), (ai x14.2.2.2.2)]), (.agg [(ai x15.1), (ai x15.2.1), (ai x15.2.2.1), (ai x15.2.2.2.1), (ai x15.2.2.2.2)])]) trivial (by kernel_rfl) (ok_laws_eqInstr h16) hb_laws_eqInstr ?_
      refine ds0 (.bool (!y16)) (by kernel_rfl) ?_
      refine dnil (badB_spec (by kernel_rfl)) (tn_ ?_)
      refine ⟨_, Weak.refl _, ?_⟩
      rcases cond_some h with ⟨q17, h⟩ | ⟨q17, h⟩
      · refine awp_condT_ q17 ?_
        refine seqR ?_
        refine awp_ret_ (br_ (tr_ (tr_ (br_ (tr_ ?_)))))
        obtain rfl := Option.some.inj h
        have h := hn8
        (try dsimp only at h)
        obtain rfl := Option.some.inj h
        have h := hk6
        (try dsimp only at h)
        obtain rfl := Option.some.inj h
        exact ret_ [(.bool false)] (p_one rfl (l_sc (by kernel_rfl)) p_nil)
      refine awp_condF_ q17 ?_
      refine awp_skip_ (bn_ (tn_ ?_))
      refine ⟨_, Weak.refl _, ?_⟩
      obtain ⟨g19, h⟩ := og_some h
      refine awp_region_ 19 ?_
      refine rs0 (ai ((l8_m5 : Nat) : Int)) (by kernel_rfl) ?_
      refine rs0 (ai ((l8_m5 + 1 : Nat) : Int)) (s_add1 (j := l8_m5) (by kernel_rfl) (by kernel_rfl) g19) ?_
      refine rsB 1 ?_
      refine rnil (tn_ ?_)
      obtain rfl := Option.some.inj h
      exact ⟨l8_m5 + 1, _, (weak_ren []), rfl, hn8⟩
    have q11_ := of_decide_eq_false q11
    refine awp_condF_ q11 ?_
    refine awp_exit_ (te_ (te_ (be_ (tn_ ?_))))
    obtain rfl := Option.some.inj h
    have h := hn8
    (try dsimp only at h)
    obtain rfl := Option.some.inj h
    exact ⟨(), _, rfl, (weak_ren []), rfl⟩
  rintro _ _ rfl h
  (try dsimp only at h)
  refine seqR ?_
  refine awp_ret_ ?_
  obtain rfl := Option.some.inj h
  exact ret_ [(.bool true)] (p_one rfl (l_sc (by kernel_rfl)) p_nil)
def m_laws_eqProgram : AC :=
  (.seq (rg [xo 2 (.i (.box 29 (tm 0))), xo 3 (.i (.box 29 (tm 1))), xo 4 (qm (cb false))])
  (.seq (.seq (rg [xo 5 (qf 0 (tm 2)), xo 6 (ql (tm 5)), xo 7 (qf 0 (tm 3)), xo 8 (ql (tm 7)), xo 9 (qb .neq (tm 6) (tm 8))])
  (.cond (tm 9)
    (.seq (rg [xo 4 (qm (cb false))])
    .ret)
    .skip))
  (.seq (.seq (rg [xo 10 (qf 1 (tm 2)), xo 11 (ql (tm 10)), xo 12 (qf 1 (tm 3)), xo 13 (ql (tm 12)), xo 14 (qb .neq (tm 11) (tm 13))])
  (.cond (tm 14)
    (.seq (rg [xo 4 (qm (cb false))])
    .ret)
    .skip))
  (.seq (.seq (rg [xo 15 (qf 2 (tm 2)), xo 16 (ql (tm 15)), xo 17 (qf 2 (tm 3)), xo 18 (ql (tm 17)), xo 19 (qb .neq (tm 16) (tm 18))])
  (.cond (tm 19)
    (.seq (rg [xo 4 (qm (cb false))])
    .ret)
    .skip))
  (.seq (.seq (rg [xo 20 (qf 3 (tm 2)), xo 21 (ql (tm 20)), xo 22 (qf 3 (tm 3)), xo 23 (ql (tm 22)), xo 24 (qb .neq (tm 21) (tm 23))])
  (.cond (tm 24)
    (.seq (rg [xo 4 (qm (cb false))])
    .ret)
    .skip))
  (.seq (.seq (rg [xo 25 (qf 4 (tm 2)), xo 26 (ql (tm 25)), xo 27 (qf 4 (tm 3)), xo 28 (ql (tm 27)), ⟨(some 29), none, (qc 36 [(tm 26), (tm 28)] [[(some (.pair .int (.pair .int (.pair .int (.pair .int .int)))))], [(some (.pair .int (.pair .int (.pair .int (.pair .int .int)))))]])⟩, xo 30 (.i (.not (tm 29)))])
  (.cond (tm 30)
    (.seq (rg [xo 4 (qm (cb false))])
    .ret)
    .skip))
  (.seq (rg [xo 4 (qm (cb true))])
  .ret)))))))
def r_laws_eqProgram : List Res := [.tmp 4]
theorem c_laws_eqProgram : compiled Tryd.prog Tryd.f12 = some (m_laws_eqProgram, r_laws_eqProgram) := by kernel_rfl
theorem hb_laws_eqProgram : hasBody Tryd.prog 12 = true := by kernel_rfl
def L_laws_eqProgram (a0_0 : Int) (a0_1 : Int) (a0_2 : Int) (a0_3 : Int) (a0_4 : List (Int × Int × Int × Int × Int)) (a1_0 : Int) (a1_1 : Int) (a1_2 : Int) (a1_3 : Int) (a1_4 : List (Int × Int × Int × Int × Int)) : Option Bool :=
  cond (a0_0 != a1_0)
  (some false)
  (cond (a0_1 != a1_1)
    (some false)
    (cond (a0_2 != a1_2)
      (some false)
      (cond (a0_3 != a1_3)
        (some false)
        (Option.bind (L_laws_eqInstrS a0_4 a1_4) fun y20 =>
        cond (!y20)
          (some false)
          (some true)))))
def rv_laws_eqProgram (r : Bool) : RV := ⟨false, [(false, [.sc (.bool r)])]⟩
theorem ok_laws_eqProgram {a0_0 : Int} {a0_1 : Int} {a0_2 : Int} {a0_3 : Int} {a0_4 : List (Int × Int × Int × Int × Int)} {a1_0 : Int} {a1_1 : Int} {a1_2 : Int} {a1_3 : Int} {a1_4 : List (Int × Int × Int × Int × Int)} {r : Bool} (h : L_laws_eqProgram a0_0 a0_1 a0_2 a0_3 a0_4 a1_0 a1_1 a1_2 a1_3 a1_4 = some r) : CallOK Tryd.prog Tab 12 [(.agg [(ai a0_0), (ai a0_1), (ai a0_2), (ai a0_3), (.tree (.pair .int (.pair .int (.pair .int (.pair .int .int)))) a0_4)]), (.agg [(ai a1_0), (ai a1_1), (ai a1_2), (ai a1_3), (.tree (.pair .int (.pair .int (.pair .int (.pair .int .int)))) a1_4)])] (rv_laws_eqProgram r) := by
  refine call_of_ (by kernel_rfl) Tryd.func12 c_laws_eqProgram (n := 31) (by kernel_rfl) (by simp) (tl := [(0, (.agg [(ai a0_0), (ai a0_1), (ai a0_2), (ai a0_3), (.tree (.pair .int (.pair .int (.pair .int (.pair .int .int)))) a0_4)])), (1, (.agg [(ai a1_0), (ai a1_1), (ai a1_2), (ai a1_3), (.tree (.pair .int (.pair .int (.pair .int (.pair .int .int)))) a1_4)]))]) rfl ?_
  unfold m_laws_eqProgram
  unfold L_laws_eqProgram at h
  refine seqR ?_
  refine awp_seqv_ ?_
  refine seqR ?_
  rcases cond_some h with ⟨q4, h⟩ | ⟨q4, h⟩
  · refine awp_condT_ q4 ?_
    refine seqR ?_
    refine awp_ret_ (tr_ ?_)
    obtain rfl := Option.some.inj h
    exact ret_ [(.bool false)] (p_one rfl (l_sc (by kernel_rfl)) p_nil)
  refine awp_condF_ q4 ?_
  refine awp_skip_ (tn_ ?_)
  refine ⟨_, Weak.refl _, ?_⟩
  refine awp_seqv_ ?_
  refine seqR ?_
  rcases cond_some h with ⟨q8, h⟩ | ⟨q8, h⟩
  · refine awp_condT_ q8 ?_
    refine seqR ?_
    refine awp_ret_ (tr_ ?_)
    obtain rfl := Option.some.inj h
    exact ret_ [(.bool false)] (p_one rfl (l_sc (by kernel_rfl)) p_nil)
  refine awp_condF_ q8 ?_
  refine awp_skip_ (tn_ ?_)
  refine ⟨_, Weak.refl _, ?_⟩
  refine awp_seqv_ ?_
  refine seqR ?_
  rcases cond_some h with ⟨q12, h⟩ | ⟨q12, h⟩
  · refine awp_condT_ q12 ?_
    refine seqR ?_
    refine awp_ret_ (tr_ ?_)
    obtain rfl := Option.some.inj h
    exact ret_ [(.bool false)] (p_one rfl (l_sc (by kernel_rfl)) p_nil)
  refine awp_condF_ q12 ?_
  refine awp_skip_ (tn_ ?_)
  refine ⟨_, Weak.refl _, ?_⟩
  refine awp_seqv_ ?_
  refine seqR ?_
  rcases cond_some h with ⟨q16, h⟩ | ⟨q16, h⟩
  · refine awp_condT_ q16 ?_
    refine seqR ?_
    refine awp_ret_ (tr_ ?_)
    obtain rfl := Option.some.inj h
    exact ret_ [(.bool false)] (p_one rfl (l_sc (by kernel_rfl)) p_nil)
  refine awp_condF_ q16 ?_
  refine awp_skip_ (tn_ ?_)
  refine ⟨_, Weak.refl _, ?_⟩
  refine awp_seqv_ ?_
  refine awp_seqv_ ?_
  obtain ⟨y20, h20, h⟩ := ob_some h
  refine awp_region_ 30 ?_
  refine rs0 (.box (oi 2 1) 4) (by kernel_rfl) ?_
  refine rsl (.tree (.pair .int (.pair .int (.pair .int (.pair .int .int)))) a0_4) (by kernel_rfl) ?_
  refine rs0 (.box (oi 3 2) 4) (by kernel_rfl) ?_
  refine rsl (.tree (.pair .int (.pair .int (.pair .int (.pair .int .int)))) a1_4) (by kernel_rfl) ?_
  refine rcall (.bool y20) [] [(.tree (.pair .int (.pair .int (.pair .int (.pair .int .int)))) a0_4), (.tree (.pair .int (.pair .int (.pair .int (.pair .int .int)))) a1_4)] _ (caps := []) (args0 := [(.tree (.pair .int (.pair .int (.pair .int (.pair .int .int)))) a0_4), (.tree (.pair .int (.pair .int (.pair .int (.pair .int .int)))) a1_4)]) trivial (by kernel_rfl) (ok_laws_eqInstrS h20) hb_laws_eqInstrS ?_
  refine rsB 1 ?_
  refine rnil (tn_ ?_)
  refine ⟨_, Weak.refl _, ?_⟩
  rcases cond_some h with ⟨q21, h⟩ | ⟨q21, h⟩
  · refine awp_condT_ q21 ?_
    refine seqR ?_
    refine awp_ret_ (tr_ ?_)
    obtain rfl := Option.some.inj h
    exact ret_ [(.bool false)] (p_one rfl (l_sc (by kernel_rfl)) p_nil)
  refine awp_condF_ q21 ?_
  refine awp_skip_ (tn_ ?_)
  refine ⟨_, Weak.refl _, ?_⟩
  refine seqR ?_
  refine awp_ret_ ?_
  obtain rfl := Option.some.inj h
  exact ret_ [(.bool true)] (p_one rfl (l_sc (by kernel_rfl)) p_nil)
def m_laws_markInstrS_l1 : AC :=
  (.seq (.seq (rg [xo 6 (qm (tm 5)), xo 7 (qm (tm 0)), xo 8 (.i (.len (tm 7))), xo 9 (qb .lss (tm 6) (tm 8))])
  (.cond (tm 9)
    .skip
    (.exit 0)))
  (.seq (.block 1 (.seq (rg [xo 12 (qm (tm 0)), xo 13 (qm (tm 5)), xo 14 (qm (tm 1)), xo 15 (qx 5 (tm 12) (tm 13)), xo 16 (qf 0 (tm 15)), xn (qs (tm 16) (tm 14))])
  (.seq (rg [xo 17 (qm (tm 1)), xo 18 (qb .add (tm 17) (ci 1)), xo 1 (qm (tm 18))])
  (.seq (rg [xo 19 (qm (tm 0)), xo 20 (qm (tm 5)), xo 21 (qm (tm 1)), xo 22 (qx 5 (tm 19) (tm 20)), xo 23 (qf 1 (tm 22)), xn (qs (tm 23) (tm 21))])
  (.seq (rg [xo 24 (qm (tm 1)), xo 25 (qb .add (tm 24) (ci 1)), xo 1 (qm (tm 25))])
  (.seq (rg [xo 26 (qm (tm 0)), xo 27 (qm (tm 5)), xo 28 (qm (tm 1)), xo 29 (qx 5 (tm 26) (tm 27)), xo 30 (qf 2 (tm 29)), xn (qs (tm 30) (tm 28))])
  (.seq (rg [xo 31 (qm (tm 1)), xo 32 (qb .add (tm 31) (ci 1)), xo 1 (qm (tm 32))])
  (.seq (rg [xo 33 (qm (tm 0)), xo 34 (qm (tm 5)), xo 35 (qm (tm 1)), xo 36 (qx 5 (tm 33) (tm 34)), xo 37 (qf 3 (tm 36)), xn (qs (tm 37) (tm 35))])
  (.seq (rg [xo 38 (qm (tm 1)), xo 39 (qb .add (tm 38) (ci 1)), xo 1 (qm (tm 39))])
  (.seq (rg [xo 40 (qm (tm 0)), xo 41 (qm (tm 5)), xo 42 (qm (tm 1)), xo 43 (qx 5 (tm 40) (tm 41)), xo 44 (qf 4 (tm 43)), xn (qs (tm 44) (tm 42))])
  (rg [xo 45 (qm (tm 1)), xo 46 (qb .add (tm 45) (ci 1)), xo 1 (qm (tm 46))])))))))))))
  (rg [xo 10 (qm (tm 5)), xo 11 (qb .add (tm 10) (ci 1)), xo 5 (qm (tm 11))])))
def m_laws_markInstrS : AC :=
  (.seq (rg [xo 4 (qm (ci 0))])
  (.seq (.seq (rg [xo 5 (qm (ci 0))])
  (.block 0 (.loop m_laws_markInstrS_l1)))
  (.seq (rg [xo 47 (qm (tm 1)), xo 4 (qm (tm 47))])
  .ret)))
def r_laws_markInstrS : List Res := [.tmp 4]
theorem c_laws_markInstrS : compiled Tryd.prog Tryd.f41 = some (m_laws_markInstrS, r_laws_markInstrS) := by kernel_rfl
theorem hb_laws_markInstrS : hasBody Tryd.prog 41 = true := by kernel_rfl
def L_laws_markInstrS_l1  (l5_m1 : Int) (l5_m5 : Nat) (l5_m0 : List (Int × Int × Int × Int × Int)) : Option (Ctl (Int × Nat × (List (Int × Int × Int × Int × Int))) (Int × (List (Int × Int × Int × Int × Int)))) :=
  cond (decide (((l5_m5 : Nat) : Int) < ((l5_m0.length : Nat) : Int)))
  (Option.bind (l5_m0[l5_m5]?) fun x11 =>
  Option.bind ((l5_m0.set l5_m5 (l5_m1, x11.2))[l5_m5]?) fun x14 =>
  Option.bind (((l5_m0.set l5_m5 (l5_m1, x11.2)).set l5_m5 (x14.1, IntKind.i64.wrap (l5_m1 + 1), x14.2.2))[l5_m5]?) fun x17 =>
  Option.bind ((((l5_m0.set l5_m5 (l5_m1, x11.2)).set l5_m5 (x14.1, IntKind.i64.wrap (l5_m1 + 1), x14.2.2)).set l5_m5 (x17.1, x17.2.1, IntKind.i64.wrap (IntKind.i64.wrap (l5_m1 + 1) + 1), x17.2.2.2))[l5_m5]?) fun x20 =>
  Option.bind (((((l5_m0.set l5_m5 (l5_m1, x11.2)).set l5_m5 (x14.1, IntKind.i64.wrap (l5_m1 + 1), x14.2.2)).set l5_m5 (x17.1, x17.2.1, IntKind.i64.wrap (IntKind.i64.wrap (l5_m1 + 1) + 1), x17.2.2.2)).set l5_m5 (x20.1, x20.2.1, x20.2.2.1, IntKind.i64.wrap (IntKind.i64.wrap (IntKind.i64.wrap (l5_m1 + 1) + 1) + 1), x20.2.2.2.2))[l5_m5]?) fun x23 =>
  og (l5_m5 + 1 < 4611686018427387904) <|
  some (Ctl.next (IntKind.i64.wrap (IntKind.i64.wrap (IntKind.i64.wrap (IntKind.i64.wrap (IntKind.i64.wrap (l5_m1 + 1) + 1) + 1) + 1) + 1), l5_m5 + 1, ((((l5_m0.set l5_m5 (l5_m1, x11.2)).set l5_m5 (x14.1, IntKind.i64.wrap (l5_m1 + 1), x14.2.2)).set l5_m5 (x17.1, x17.2.1, IntKind.i64.wrap (IntKind.i64.wrap (l5_m1 + 1) + 1), x17.2.2.2)).set l5_m5 (x20.1, x20.2.1, x20.2.2.1, IntKind.i64.wrap (IntKind.i64.wrap (IntKind.i64.wrap (l5_m1 + 1) + 1) + 1), x20.2.2.2.2)).set l5_m5 (x23.1, x23.2.1, x23.2.2.1, x23.2.2.2.1, IntKind.i64.wrap (IntKind.i64.wrap (IntKind.i64.wrap (IntKind.i64.wrap (l5_m1 + 1) + 1) + 1) + 1)))))
  (some (Ctl.out (l5_m1, l5_m0)))
def L_laws_markInstrS (a0 : List (Int × Int × Int × Int × Int)) (a1 : Int) : Option ((List (Int × Int × Int × Int × Int)) × Int) :=
  Option.bind (loopM (fun s_ : Int × Nat × (List (Int × Int × Int × Int × Int)) => L_laws_markInstrS_l1 s_.1 s_.2.1 s_.2.2) 4611686018427387904 (a1, 0, a0)) fun (l3_m1, l3_p0) =>
some (l3_p0, l3_m1)
theorem ok_laws_markInstrS {a0 : List (Int × Int × Int × Int × Int)} {a1 : Int} {r : (List (Int × Int × Int × Int × Int)) × Int} (h : L_laws_markInstrS a0 a1 = some r) {n_a0 : Nat} (hn_a0 : n_a0 = a0.length) : CallM Tryd.prog Tab 41 [(.own (oi 0 0) (.pair .int (.pair .int (.pair .int (.pair .int .int)))) 0 n_a0), (ai a1)] [((oi 0 0), .arr 69 (.pair .int (.pair .int (.pair .int (.pair .int .int)))) a0)] (ai r.2) [((oi 0 0), .arr 69 (.pair .int (.pair .int (.pair .int (.pair .int .int)))) r.1)] := by
  refine callM_of_ (by kernel_rfl) Tryd.func41 c_laws_markInstrS (n := 48) (by kernel_rfl) (by simp) (tl := [(0, (.own (oi 0 0) (.pair .int (.pair .int (.pair .int (.pair .int .int)))) 0 n_a0)), (1, (ai a1))]) rfl (by kernel_rfl) ⟨trivial, trivial⟩ ⟨trivial, trivial⟩ ?_
  unfold m_laws_markInstrS
  unfold L_laws_markInstrS at h
  refine seqR ?_
  refine awp_seqB h (fun t_ S_ => ∃ (l3_m1 : Int), ∃ (l3_p0 : List (Int × Int × Int × Int × Int)), t_ = (l3_m1, l3_p0) ∧ S_ = ⟨mkTm [(1, (ai l3_m1))], mkOb (someL [((oi 0 0), .arr 69 (.pair .int (.pair .int (.pair .int (.pair .int .int)))) l3_p0)]), 2⟩) ?_ ?_
  · intro v_ h
    refine seqR ?_
    refine awp_block_ ?_
    refine awp_loopL h (fun t_ S_ => ∃ (l5_m1 : Int), ∃ (l5_m5 : Nat), ∃ (l5_m0 : List (Int × Int × Int × Int × Int)), t_ = (l5_m1, l5_m5, l5_m0) ∧ S_ = ⟨mkTm [(0, (.own (oi 0 0) (.pair .int (.pair .int (.pair .int (.pair .int .int)))) 0 l5_m0.length)), (1, (ai l5_m1)), (5, (ai ((l5_m5 : Nat) : Int)))], mkOb (someL [((oi 0 0), .arr 69 (.pair .int (.pair .int (.pair .int (.pair .int .int)))) l5_m0)]), 2⟩) ⟨_, ((weak_tm_ 0 (.own (oi 0 0) (.pair .int (.pair .int (.pair .int (.pair .int .int)))) 0 n_a0) (.own (oi 0 0) (.pair .int (.pair .int (.pair .int (.pair .int .int)))) 0 a0.length) (by kernel_rfl) (congrArg (fun z_ => ((.own (oi 0 0) (.pair .int (.pair .int (.pair .int (.pair .int .int)))) 0 z_) : AV)) (hn_a0 : n_a0 = a0.length))).trans (weak_ren [])), ⟨a1, 0, a0, rfl, rfl⟩⟩ ?_
    rintro n_ _ _ c_ ⟨l5_m1, l5_m5, l5_m0, rfl, rfl⟩ h hn5
    (try dsimp only at h)
    unfold L_laws_markInstrS_l1 at h
    unfold m_laws_markInstrS_l1
    refine awp_seqv_ ?_
    refine seqR ?_
    rcases cond_some h with ⟨q8, h⟩ | ⟨q8, h⟩
    · have q8_ := of_decide_eq_true q8
      refine awp_condT_ q8 ?_
      refine awp_skip_ (tn_ ?_)
      refine ⟨_, Weak.refl _, ?_⟩
      refine awp_seqv_ ?_
      refine awp_block_ ?_
      refine awp_seqv_ ?_
      obtain ⟨x11, e11, h⟩ := ob_some h
      refine awp_region_ 12 ?_
      refine rs0 (.own (oi 0 0) (.pair .int (.pair .int (.pair .int (.pair .int .int)))) 0 l5_m0.length) (by kernel_rfl) ?_
      refine rs0 (ai ((l5_m5 : Nat) : Int)) (by kernel_rfl) ?_
      refine rs0 (ai l5_m1) (by kernel_rfl) ?_
      refine rs0 (.elt (oi 0 0) l5_m5 0) (s_idxO (t := (.pair .int (.pair .int (.pair .int (.pair .int .int))))) (o := (oi 0 0)) (len := l5_m0.length) (k := .i64) (m := ((l5_m5 : Nat) : Int)) (by kernel_rfl) (by kernel_rfl) rfl (nat_nn _) rfl (getN_lt e11)) ?_
      refine rs0 (.elt (oi 0 0) l5_m5 0) (by kernel_rfl) ?_
      refine rsn2 (oi 0 0) (oi 0 0) (.arr 69 (.pair .int (.pair .int (.pair .int (.pair .int .int)))) (l5_m0.set l5_m5 (l5_m1, x11.2))) (s_stE (i := (oi 0 0)) (j := l5_m5) (k := 0) (e := 69) (t := (.pair .int (.pair .int (.pair .int (.pair .int .int))))) (xs := l5_m0) (cs := [(ai l5_m1), (ai x11.2.1), (ai x11.2.2.1), (ai x11.2.2.2.1), (ai x11.2.2.2.2)]) (x1 := (l5_m1, x11.2)) (by kernel_rfl) (by kernel_rfl) e11 (by kernel_rfl) (by kernel_rfl)) ?_
      refine rnil (tn_ ?_)
      refine ⟨_, Weak.refl _, ?_⟩
      refine seqR ?_
      refine awp_seqv_ ?_
      obtain ⟨x14, e14, h⟩ := ob_some h
      refine awp_region_ 21 ?_
      refine rs0 (.own (oi 0 0) (.pair .int (.pair .int (.pair .int (.pair .int .int)))) 0 l5_m0.length) (by kernel_rfl) ?_
      refine rs0 (ai ((l5_m5 : Nat) : Int)) (by kernel_rfl) ?_
      refine rs0 (ai (IntKind.i64.wrap (l5_m1 + 1))) (by kernel_rfl) ?_
      refine rs0 (.elt (oi 0 0) l5_m5 0) (s_idxO (t := (.pair .int (.pair .int (.pair .int (.pair .int .int))))) (o := (oi 0 0)) (len := l5_m0.length) (k := .i64) (m := ((l5_m5 : Nat) : Int)) (by kernel_rfl) (by kernel_rfl) rfl (nat_nn _) rfl (by rw [((rfl : l5_m0.length = l5_m0.length).trans List.length_set.symm)]; exact getN_lt e14)) ?_
      refine rs0 (.elt (oi 0 0) l5_m5 1) (by kernel_rfl) ?_
      refine rsn2 (oi 0 0) (oi 0 0) (.arr 69 (.pair .int (.pair .int (.pair .int (.pair .int .int)))) ((l5_m0.set l5_m5 (l5_m1, x11.2)).set l5_m5 (x14.1, IntKind.i64.wrap (l5_m1 + 1), x14.2.2))) (s_stE (i := (oi 0 0)) (j := l5_m5) (k := 1) (e := 69) (t := (.pair .int (.pair .int (.pair .int (.pair .int .int))))) (xs := l5_m0.set l5_m5 (l5_m1, x11.2)) (cs := [(ai x14.1), (ai (IntKind.i64.wrap (l5_m1 + 1))), (ai x14.2.2.1), (ai x14.2.2.2.1), (ai x14.2.2.2.2)]) (x1 := (x14.1, IntKind.i64.wrap (l5_m1 + 1), x14.2.2)) (by kernel_rfl) (by kernel_rfl) e14 (by kernel_rfl) (by kernel_rfl)) ?_
      refine rnil (tn_ ?_)
      refine ⟨_, Weak.refl _, ?_⟩
      refine seqR ?_
      refine awp_seqv_ ?_
      obtain ⟨x17, e17, h⟩ := ob_some h
      refine awp_region_ 30 ?_
      refine rs0 (.own (oi 0 0) (.pair .int (.pair .int (.pair .int (.pair .int .int)))) 0 l5_m0.length) (by kernel_rfl) ?_
      refine rs0 (ai ((l5_m5 : Nat) : Int)) (by kernel_rfl) ?_
      refine rs0 (ai (IntKind.i64.wrap (IntKind.i64.wrap (l5_m1 + 1) + 1))) (by kernel_rfl) ?_
      refine rs0 (.elt (oi 0 0) l5_m5 0) (s_idxO (t := (.pair .int (.pair .int (.pair .int (.pair .int .int))))) (o := (oi 0 0)) (len := l5_m0.length) (k := .i64) (m := ((l5_m5 : Nat) : Int)) (by kernel_rfl) (by kernel_rfl) rfl (nat_nn _) rfl (by rw [(((rfl : l5_m0.length = l5_m0.length).trans List.length_set.symm).trans List.length_set.symm)]; exact getN_lt e17)) ?_
      refine rs0 (.elt (oi 0 0) l5_m5 2) (by kernel_rfl) ?_
      refine rsn2 (oi 0 0) (oi 0 0) (.arr 69 (.pair .int (.pair .int (.pair .int (.pair .int .int)))) (((l5_m0.set l5_m5 (l5_m1, x11.2)).set l5_m5 (x14.1, IntKind.i64.wrap (l5_m1 + 1), x14.2.2)).set l5_m5 (x17.1, x17.2.1, IntKind.i64.wrap (IntKind.i64.wrap (l5_m1 + 1) + 1), x17.2.2.2))) (s_stE (i := (oi 0 0)) (j := l5_m5) (k := 2) (e := 69) (t := (.pair .int (.pair .int (.pair .int (.pair .int .int))))) (xs := (l5_m0.set l5_m5 (l5_m1, x11.2)).set l5_m5 (x14.1, IntKind.i64.wrap (l5_m1 + 1), x14.2.2)) (cs := [(ai x17.1), (ai x17.2.1), (ai (IntKind.i64.wrap (IntKind.i64.wrap (l5_m1 + 1) + 1))), (ai x17.2.2.2.1), (ai x17.2.2.2.2)]) (x1 := (x17.1, x17.2.1, IntKind.i64.wrap (IntKind.i64.wrap (l5_m1 + 1) + 1), x17.2.2.2)) (by kernel_rfl) (by kernel_rfl) e17 (by kernel_rfl) (by kernel_rfl)) ?_
      refine rnil (tn_ ?_)
      refine ⟨_, Weak.refl _, ?_⟩
      refine seqR ?_
      refine awp_seqv_ ?_
      obtain ⟨x20, e20, h⟩ := ob_some h
      refine awp_region_ 39 ?_
      refine rs0 (.own (oi 0 0) (.pair .int (.pair .int (.pair .int (.pair .int .int)))) 0 l5_m0.length) (by kernel_rfl) ?_
      refine rs0 (ai ((l5_m5 : Nat) : Int)) (by kernel_rfl) ?_
      refine rs0 (ai (IntKind.i64.wrap (IntKind.i64.wrap (IntKind.i64.wrap (l5_m1 + 1) + 1) + 1))) (by kernel_rfl) ?_
      refine rs0 (.elt (oi 0 0) l5_m5 0) (s_idxO (t := (.pair .int (.pair .int (.pair .int (.pair .int .int))))) (o := (oi 0 0)) (len := l5_m0.length) (k := .i64) (m := ((l5_m5 : Nat) : Int)) (by kernel_rfl) (by kernel_rfl) rfl (nat_nn _) rfl (by rw [((((rfl : l5_m0.length = l5_m0.length).trans List.length_set.symm).trans List.length_set.symm).trans List.length_set.symm)]; exact getN_lt e20)) ?_
      refine rs0 (.elt (oi 0 0) l5_m5 3) (by kernel_rfl) ?_
      refine rsn2 (oi 0 0) (oi 0 0) (.arr 69 (.pair .int (.pair .int (.pair .int (.pair .int .int)))) ((((l5_m0.set l5_m5 (l5_m1, x11.2)).set l5_m5 (x14.1, IntKind.i64.wrap (l5_m1 + 1), x14.2.2)).set l5_m5 (x17.1, x17.2.1, IntKind.i64.wrap (IntKind.i64.wrap (l5_m1 + 1) + 1), x17.2.2.2)).set l5_m5 (x20.1, x20.2.1, x20.2.2.1, IntKind.i64.wrap (IntKind.i64.wrap (IntKind.i64.wrap (l5_m1 + 1) + 1) + 1), x20.2.2.2.2))) (s_stE (i := (oi 0 0)) (j := l5_m5) (k := 3) (e := 69) (t := (.pair .int (.pair .int (.pair .int (.pair .int .int))))) (xs := ((l5_m0.set l5_m5 (l5_m1, x11.2)).set l5_m5 (x14.1, IntKind.i64.wrap (l5_m1 + 1), x14.2.2)).set l5_m5 (x17.1, x17.2.1, IntKind.i64.wrap (IntKind.i64.wrap (l5_m1 + 1) + 1), x17.2.2.2)) (cs := [(ai x20.1), (ai x20.2.1), (ai x20.2.2.1), (ai (IntKind.i64.wrap (IntKind.i64.wrap (IntKind.i64.wrap (l5_m1 + 1) + 1) + 1))), (ai x20.2.2.2.2)]) (x1 := (x20.1, x20.2.1, x20.2.2.1, IntKind.i64.wrap (IntKind.i64.wrap (IntKind.i64.wrap (l5_m1 + 1) + 1) + 1), x20.2.2.2.2)) (by kernel_rfl) (by kernel_rfl) e20 (by kernel_rfl) (by kernel_rfl)) ?_
      refine rnil (tn_ ?_)
      refine ⟨_, Weak.refl _, ?_⟩
      refine seqR ?_
      refine awp_seqv_ ?_
      obtain ⟨x23, e23, h⟩ := ob_some h
      refine awp_region_ 48 ?_
      refine rs0 (.own (oi 0 0) (.pair .int (.pair .int (.pair .int (.pair .int .int)))) 0 l5_m0.length) (by kernel_rfl) ?_
      refine rs0 (ai ((l5_m5 : Nat) : Int)) (by kernel_rfl) ?_
      refine rs0 (ai (IntKind.i64.wrap (IntKind.i64.wrap (IntKind.i64.wrap (IntKind.i64.wrap (l5_m1 + 1) + 1) + 1) + 1))) (by kernel_rfl) ?_
      refine rs0 (.elt (oi 0 0) l5_m5 0) (s_idxO (t := (.pair .int (.pair .int (.pair .int (.pair .int .int))))) (o := (oi 0 0)) (len := l5_m0.length) (k := .i64) (m := ((l5_m5 : Nat) : Int)) (by kernel_rfl) (by kernel_rfl) rfl (nat_nn _) rfl (by rw [(((((rfl : l5_m0.length = l5_m0.length).trans List.length_set.symm).trans List.length_set.symm).trans List.length_set.symm).trans List.length_set.symm)]; exact getN_lt e23)) ?_
      refine rs0 (.elt (oi 0 0) l5_m5 4) (by kernel_rfl) ?_
      refine rsn2 (oi 0 0) (oi 0 0) (.arr 69 (.pair .int (.pair .int (.pair .int (.pair .int .int)))) (((((l5_m0.set l5_m5 (l5_m1, x11.2)).set l5_m5 (x14.1, IntKind.i64.wrap (l5_m1 + 1), x14.2.2)).set l5_m5 (x17.1, x17.2.1, IntKind.i64.wrap (IntKind.i64.wrap (l5_m1 + 1) + 1), x17.2.2.2)).set l5_m5 (x20.1, x20.2.1, x20.2.2.1, IntKind.i64.wrap (IntKind.i64.wrap (IntKind.i64.wrap (l5_m1 + 1) + 1) + 1), x20.2.2.2.2)).set l5_m5 (x23.1, x23.2.1, x23.2.2.1, x23.2.2.2.1, IntKind.i64.wrap (IntKind.i64.wrap (IntKind.i64.wrap (IntKind.i64.wrap (l5_m1 + 1) + 1) + 1) + 1)))) (s_stE (i := (oi 0 0)) (j := l5_m5) (k := 4) (e := 69) (t := (.pair .int (.pair .int (.pair .int (.pair .int .int))))) (xs := (((l5_m0.set l5_m5 (l5_m1, x11.2)).set l5_m5 (x14.1, IntKind.i64.wrap (l5_m1 + 1), x14.2.2)).set l5_m5 (x17.1, x17.2.1, IntKind.i64.wrap (IntKind.i64.wrap (l5_m1 + 1) + 1), x17.2.2.2)).set l5_m5 (x20.1, x20.2.1, x20.2.2.1, IntKind.i64.wrap (IntKind.i64.wrap (IntKind.i64.wrap (l5_m1 + 1) + 1) + 1), x20.2.2.2.2)) (cs := [(ai x23.1), (ai x23.2.1), (ai x23.2.2.1), (ai x23.2.2.2.1), (ai (IntKind.i64.wrap (IntKind.i64.wrap (IntKind.i64.wrap (IntKind.i64.wrap (l5_m1 + 1) + 1) + 1) + 1)))]) (x1 := (x23.1, x23.2.1, x23.2.2.1, x23.2.2.2.1, IntKind.i64.wrap (IntKind.i64.wrap (IntKind.i64.wrap (IntKind.i64.wrap (l5_m1 + 1) + 1) + 1) + 1))) (by kernel_rfl) (by kernel_rfl) e23 (by kernel_rfl) (by kernel_rfl)) ?_
      refine rnil (tn_ ?_)
      refine ⟨_, Weak.refl _, ?_⟩
      refine awp_region_ 51 ?_
      refine rsB 3 ?_
      refine rnil (bn_ (tn_ ?_))
      refine ⟨_, Weak.refl _, ?_⟩
      obtain ⟨g24, h⟩ := og_some h
      refine awp_region_ 54 ?_
      refine rs0 (ai ((l5_m5 : Nat) : Int)) (by kernel_rfl) ?_
      refine rs0 (ai ((l5_m5 + 1 : Nat) : Int)) (s_add1 (j := l5_m5) (by kernel_rfl) (by kernel_rfl) g24) ?_
      refine rsB 1 ?_
      refine rnil (tn_ ?_)
      obtain rfl := Option.some.inj h
      exact ⟨(IntKind.i64.wrap (IntKind.i64.wrap (IntKind.i64.wrap (IntKind.i64.wrap (IntKind.i64.wrap (l5_m1 + 1) + 1) + 1) + 1) + 1), l5_m5 + 1, ((((l5_m0.set l5_m5 (l5_m1, x11.2)).set l5_m5 (x14.1, IntKind.i64.wrap (l5_m1 + 1), x14.2.2)).set l5_m5 (x17.1, x17.2.1, IntKind.i64.wrap (IntKind.i64.wrap (l5_m1 + 1) + 1), x17.2.2.2)).set l5_m5 (x20.1, x20.2.1, x20.2.2.1, IntKind.i64.wrap (IntKind.i64.wrap (IntKind.i64.wrap (l5_m1 + 1) + 1) + 1), x20.2.2.2.2)).set l5_m5 (x23.1, x23.2.1, x23.2.2.1, x23.2.2.2.1, IntKind.i64.wrap (IntKind.i64.wrap (IntKind.i64.wrap (IntKind.i64.wrap (l5_m1 + 1) + 1) + 1) + 1))), _, ((weak_tm_ 0 (.own (oi 0 0) (.pair .int (.pair .int (.pair .int (.pair .int .int)))) 0 l5_m0.length) (.own (oi 0 0) (.pair .int (.pair .int (.pair .int (.pair .int .int)))) 0 ((((((l5_m0.set l5_m5 (l5_m1, x11.2)).set l5_m5 (x14.1, IntKind.i64.wrap (l5_m1 + 1), x14.2.2)).set l5_m5 (x17.1, x17.2.1, IntKind.i64.wrap (IntKind.i64.wrap (l5_m1 + 1) + 1), x17.2.2.2)).set l5_m5 (x20.1, x20.2.1, x20.2.2.1, IntKind.i64.wrap (IntKind.i64.wrap (IntKind.i64.wrap (l5_m1 + 1) + 1) + 1), x20.2.2.2.2)).set l5_m5 (x23.1, x23.2.1, x23.2.2.1, x23.2.2.2.1, IntKind.i64.wrap (IntKind.i64.wrap (IntKind.i64.wrap (IntKind.i64.wrap (l5_m1 + 1) + 1) + 1) + 1))).length)) (by kernel_rfl) (congrArg (fun z_ => ((.own (oi 0 0) (.pair .int (.pair .int (.pair .int (.pair .int .int)))) 0 z_) : AV)) (((((((rfl : l5_m0.length = l5_m0.length).trans List.length_set.symm).trans List.length_set.symm).trans List.length_set.symm).trans List.length_set.symm).trans List.length_set.symm) : l5_m0.length = (((((l5_m0.set l5_m5 (l5_m1, x11.2)).set l5_m5 (x14.1, IntKind.i64.wrap (l5_m1 + 1), x14.2.2)).set l5_m5 (x17.1, x17.2.1, IntKind.i64.wrap (IntKind.i64.wrap (l5_m1 + 1) + 1), x17.2.2.2)).set l5_m5 (x20.1, x20.2.1, x20.2.2.1, IntKind.i64.wrap (IntKind.i64.wrap (IntKind.i64.wrap (l5_m1 + 1) + 1) + 1), x20.2.2.2.2)).set l5_m5 (x23.1, x23.2.1, x23.2.2.1, x23.2.2.2.1, IntKind.i64.wrap (IntKind.i64.wrap (IntKind.i64.wrap (IntKind.i64.wrap (l5_m1 + 1) + 1) + 1) + 1))).length))).trans (weak_ren [])), ⟨IntKind.i64.wrap (IntKind.i64.wrap (IntKind.i64.wrap (IntKind.i64.wrap (IntKind.i64.wrap (l5_m1 + 1) + 1) + 1) + 1) + 1), l5_m5 + 1, ((((l5_m0.set l5_m5 (l5_m1, x11.2)).set l5_m5 (x14.1, IntKind.i64.wrap (l5_m1 + 1), x14.2.2)).set l5_m5 (x17.1, x17.2.1, IntKind.i64.wrap (IntKind.i64.wrap (l5_m1 + 1) + 1), x17.2.2.2)).set l5_m5 (x20.1, x20.2.1, x20.2.2.1, IntKind.i64.wrap (IntKind.i64.wrap (IntKind.i64.wrap (l5_m1 + 1) + 1) + 1), x20.2.2.2.2)).set l5_m5 (x23.1, x23.2.1, x23.2.2.1, x23.2.2.2.1, IntKind.i64.wrap (IntKind.i64.wrap (IntKind.i64.wrap (IntKind.i64.wrap (l5_m1 + 1) + 1) + 1) + 1)), rfl, rfl⟩, hn5⟩
    have q8_ := of_decide_eq_false q8
    refine awp_condF_ q8 ?_
    refine awp_exit_ (te_ (te_ (be_ (tn_ ?_))))
    obtain rfl := Option.some.inj h
    have h := hn5
    (try dsimp only at h)
    obtain rfl := Option.some.inj h
    exact ⟨_, (weak_ren []), ⟨l5_m1, l5_m0, rfl, rfl⟩⟩
  rintro _ _ ⟨l3_m1, l3_p0, rfl, rfl⟩ h
  (try dsimp only at h)
  refine seqR ?_
  refine awp_ret_ ?_
  obtain rfl := Option.some.inj h
  exact retM_ [(ai l3_m1)] (weak_ren (tl := [(4, (ai l3_m1))]) (g := 2) [])
def m_laws_markProgram : AC :=
  (.seq (rg [xo 2 (.i (.box 29 (tm 0))), xo 4 (qm (ci 0))])
  (.seq (rg [xo 5 (qf 4 (tm 2)), xo 6 (ql (tm 5)), xo 7 (qm (tm 1)), ⟨(some 8), none, (qc 41 [(tm 6), (tm 7)] [[(some (.pair .int (.pair .int (.pair .int (.pair .int .int)))))], []])⟩, xo 1 (qm (tm 8))])
  (.seq (rg [xo 9 (qm (tm 1)), xo 4 (qm (tm 9))])
  .ret)))
def r_laws_markProgram : List Res := [.tmp 4]
theorem c_laws_markProgram : compiled Tryd.prog Tryd.f16 = some (m_laws_markProgram, r_laws_markProgram) := by kernel_rfl
theorem hb_laws_markProgram : hasBody Tryd.prog 16 = true := by kernel_rfl
def L_laws_markProgram (a0_0 : Int) (a0_1 : Int) (a0_2 : Int) (a0_3 : Int) (a0_4 : List (Int × Int × Int × Int × Int)) (a1 : Int) : Option ((List (Int × Int × Int × Int × Int)) × Int) :=
  Option.bind (L_laws_markInstrS a0_4 a1) fun y4 =>
og (y4.1.length = (a0_4.length)) <|
some (y4.1, y4.2)
theorem ok_laws_markProgram {a0_0 : Int} {a0_1 : Int} {a0_2 : Int} {a0_3 : Int} {a0_4 : List (Int × Int × Int × Int × Int)} {a1 : Int} {r : (List (Int × Int × Int × Int × Int)) × Int} (h : L_laws_markProgram a0_0 a0_1 a0_2 a0_3 a0_4 a1 = some r) {n_a0_4 : Nat} (hn_a0_4 : n_a0_4 = a0_4.length) : CallM Tryd.prog Tab 16 [(.agg [(ai a0_0), (ai a0_1), (ai a0_2), (ai a0_3), (.own (oi 0 0) (.pair .int (.pair .int (.pair .int (.pair .int .int)))) 0 n_a0_4)]), (ai a1)] [((oi 0 0), .arr 69 (.pair .int (.pair .int (.pair .int (.pair .int .int)))) a0_4)] (ai r.2) [((oi 0 0), .arr 69 (.pair .int (.pair .int (.pair .int (.pair .int .int)))) r.1)] := by
  refine callM_of_ (by kernel_rfl) Tryd.func16 c_laws_markProgram (n := 10) (by kernel_rfl) (by simp) (tl := [(0, (.agg [(ai a0_0), (ai a0_1), (ai a0_2), (ai a0_3), (.own (oi 0 0) (.pair .int (.pair .int (.pair .int (.pair .int .int)))) 0 n_a0_4)])), (1, (ai a1))]) rfl (by kernel_rfl) ⟨trivial, trivial⟩ ⟨trivial, trivial⟩ ?_
  unfold m_laws_markProgram
  unfold L_laws_markProgram at h
  (try rw [← hn_a0_4] at h)
  refine seqR ?_
  refine awp_seqv_ ?_
  obtain ⟨y4, h4, h⟩ := ob_some h
  obtain ⟨g5, h⟩ := og_some h
  refine awp_region_ 8 ?_
  refine rs0 (.box (oi 2 1) 4) (by kernel_rfl) ?_
  refine rsl (.own (oi 0 0) (.pair .int (.pair .int (.pair .int (.pair .int .int)))) 0 n_a0_4) (by kernel_rfl) ?_
  refine rs0 (ai a1) (by kernel_rfl) ?_
  refine rcallM (ai y4.2) [((oi 0 0), some (.arr 69 (.pair .int (.pair .int (.pair .int (.pair .int .int)))) y4.1)), ((oi 0 0), none)] [] [(.own (oi 0 0) (.pair .int (.pair .int (.pair .int (.pair .int .int)))) 0 n_a0_4), (ai a1)] (caps := []) trivial (ok_laws_markInstrS h4 hn_a0_4) hb_laws_markInstrS ⟨(by kernel_rfl), trivial⟩ (.cons (.ren (by kernel_rfl)) (.cons (.ren (by kernel_rfl)) .nil)) (reachL_mem (by kernel_rfl) (by kernel_rfl) ⟨(re_arg (by kernel_rfl)), trivial⟩) ?_
  refine rsB 1 ?_
  refine rnil (tn_ ?_)
  refine ⟨_, Weak.refl _, ?_⟩
  refine seqR ?_
  refine awp_ret_ ?_
  obtain rfl := Option.some.inj h
  exact retM_ [(ai y4.2)] (weak_ren (tl := [(4, (ai y4.2))]) (g := 2) [])
def m_laws_heldInstrS_l1 : AC :=
  (.seq (.seq (rg [xo 6 (qm (tm 5)), xo 7 (qm (tm 0)), xo 8 (.i (.len (tm 7))), xo 9 (qb .lss (tm 6) (tm 8))])
  (.cond (tm 9)
    .skip
    (.exit 0)))
  (.seq (.block 1 (.seq (.seq (rg [xo 12 (qm (tm 0)), xo 13 (qm (tm 5)), xo 14 (qx 5 (tm 12) (tm 13)), xo 15 (qf 0 (tm 14)), xo 16 (ql (tm 15)), xo 17 (qm (tm 1)), xo 18 (qb .neq (tm 16) (tm 17))])
  (.cond (tm 18)
    (.seq (rg [xo 4 (qm (ci (-1)))])
    .ret)
    .skip))
  (.seq (rg [xo 19 (qm (tm 1)), xo 20 (qb .add (tm 19) (ci 1)), xo 1 (qm (tm 20))])
  (.seq (.seq (rg [xo 21 (qm (tm 0)), xo 22 (qm (tm 5)), xo 23 (qx 5 (tm 21) (tm 22)), xo 24 (qf 1 (tm 23)), xo 25 (ql (tm 24)), xo 26 (qm (tm 1)), xo 27 (qb .neq (tm 25) (tm 26))])
  (.cond (tm 27)
    (.seq (rg [xo 4 (qm (ci (-1)))])
    .ret)
    .skip))
  (.seq (rg [xo 28 (qm (tm 1)), xo 29 (qb .add (tm 28) (ci 1)), xo 1 (qm (tm 29))])
  (.seq (.seq (rg [xo 30 (qm (tm 0)), xo 31 (qm (tm 5)), xo 32 (qx 5 (tm 30) (tm 31)), xo 33 (qf 2 (tm 32)), xo 34 (ql (tm 33)), xo 35 (qm (tm 1)), xo 36 (qb .neq (tm 34) (tm 35))])
  (.cond (tm 36)
    (.seq (rg [xo 4 (qm (ci (-1)))])
    .ret)
    .skip))
  (.seq (rg [xo 37 (qm (tm 1)), xo 38 (qb .add (tm 37) (ci 1)), xo 1 (qm (tm 38))])
  (.seq (.seq (rg [xo 39 (qm (tm 0)), xo 40 (qm (tm 5)), xo 41 (qx 5 (tm 39) (tm 40)), xo 42 (qf 3 (tm 41)), xo 43 (ql (tm 42)), xo 44 (qm (tm 1)), xo 45 (qb .neq (tm 43) (tm 44))])
  (.cond (tm 45)
    (.seq (rg [xo 4 (qm (ci (-1)))])
    .ret)
    .skip))
  (.seq (rg [xo 46 (qm (tm 1)), xo 47 (qb .add (tm 46) (ci 1)), xo 1 (qm (tm 47))])
  (.seq (.seq (rg [xo 48 (qm (tm 0)), xo 49 (qm (tm 5)), xo 50 (qx 5 (tm 48) (tm 49)), xo 51 (qf 4 (tm 50)), xo 52 (ql (tm 51)), xo 53 (qm (tm 1)), xo 54 (qb .neq (tm 52) (tm 53))])
  (.cond (tm 54)
    (.seq (rg [xo 4 (qm (ci (-1)))])
    .ret)
    .skip))
  (rg [xo 55 (qm (tm 1)), xo 56 (qb .add (tm 55) (ci 1)), xo 1 (qm (tm 56))])))))))))))
  (rg [xo 10 (qm (tm 5)), xo 11 (qb .add (tm 10) (ci 1)), xo 5 (qm (tm 11))])))
def m_laws_heldInstrS : AC :=
  (.seq (rg [xo 4 (qm (ci 0))])
  (.seq (.seq (rg [xo 5 (qm (ci 0))])
  (.block 0 (.loop m_laws_heldInstrS_l1)))
  (.seq (rg [xo 57 (qm (tm 1)), xo 4 (qm (tm 57))])
  .ret)))
def r_laws_heldInstrS : List Res := [.tmp 4]
theorem c_laws_heldInstrS : compiled Tryd.prog Tryd.f50 = some (m_laws_heldInstrS, r_laws_heldInstrS) := by kernel_rfl
theorem hb_laws_heldInstrS : hasBody Tryd.prog 50 = true := by kernel_rfl
def L_laws_heldInstrS_l1 (a0 : List (Int × Int × Int × Int × Int)) (l4_m1 : Int) (l4_m5 : Nat) : Option (Ctl (Int × Nat) (Ctl Int Int)) :=
  cond (decide (((l4_m5 : Nat) : Int) < ((a0.length : Nat) : Int)))
  (Option.bind (a0[l4_m5]?) fun x11 =>
  cond (x11.1 != l4_m1)
    (some (Ctl.out (Ctl.out (-1))))
    (cond (x11.2.1 != (IntKind.i64.wrap (l4_m1 + 1)))
      (some (Ctl.out (Ctl.out (-1))))
      (cond (x11.2.2.1 != (IntKind.i64.wrap (IntKind.i64.wrap (l4_m1 + 1) + 1)))
        (some (Ctl.out (Ctl.out (-1))))
        (cond (x11.2.2.2.1 != (IntKind.i64.wrap (IntKind.i64.wrap (IntKind.i64.wrap (l4_m1 + 1) + 1) + 1)))
          (some (Ctl.out (Ctl.out (-1))))
          (cond (x11.2.2.2.2 != (IntKind.i64.wrap (IntKind.i64.wrap (IntKind.i64.wrap (IntKind.i64.wrap (l4_m1 + 1) + 1) + 1) + 1)))
            (some (Ctl.out (Ctl.out (-1))))
            (og (l4_m5 + 1 < 4611686018427387904) <|
            some (Ctl.next (IntKind.i64.wrap (IntKind.i64.wrap (IntKind.i64.wrap (IntKind.i64.wrap (IntKind.i64.wrap (l4_m1 + 1) + 1) + 1) + 1) + 1), l4_m5 + 1))))))))
  (some (Ctl.out (Ctl.next l4_m1)))
def L_laws_heldInstrS (a0 : List (Int × Int × Int × Int × Int)) (a1 : Int) : Option Int :=
  seqC (loopM (fun s_ : Int × Nat => L_laws_heldInstrS_l1 a0 s_.1 s_.2) 4611686018427387904 (a1, 0)) fun l2_m1 =>
some l2_m1
def rv_laws_heldInstrS (r : Int) : RV := ⟨false, [(false, [.sc (.int .i64 r)])]⟩
theorem ok_laws_heldInstrS {a0 : List (Int × Int × Int × Int × Int)} {a1 : Int} {r : Int} (h : L_laws_heldInstrS a0 a1 = some r) : CallOK Tryd.prog Tab 50 [(.tree (.pair .int (.pair .int (.pair .int (.pair .int .int)))) a0), (ai a1)] (rv_laws_heldInstrS r) := by
  refine call_of_ (by kernel_rfl) Tryd.func50 c_laws_heldInstrS (n := 58) (by kernel_rfl) (by simp) (tl := [(0, (.tree (.pair .int (.pair .int (.pair .int (.pair .int .int)))) a0)), (1, (ai a1))]) rfl ?_
  unfold m_laws_heldInstrS
  unfold L_laws_heldInstrS at h
  refine seqR ?_
  refine awp_seqC h (fun (l2_m1 : Int) S_ => S_ = ⟨mkTm [(1, (ai l2_m1))], mkOb (someL []), 2⟩) ?_ ?_
  · intro v_ h hk2
    refine seqR ?_
    refine awp_block_ ?_
    refine awp_loopL h (fun t_ S_ => ∃ (l4_m1 : Int), ∃ (l4_m5 : Nat), t_ = (l4_m1, l4_m5) ∧ S_ = ⟨mkTm [(0, (.tree (.pair .int (.pair .int (.pair .int (.pair .int .int)))) a0)), (1, (ai l4_m1)), (5, (ai ((l4_m5 : Nat) : Int)))], mkOb (someL []), 2⟩) ⟨_, (weak_ren []), ⟨a1, 0, rfl, rfl⟩⟩ ?_
    rintro n_ _ _ c_ ⟨l4_m1, l4_m5, rfl, rfl⟩ h hn4
    (try dsimp only at h)
    unfold L_laws_heldInstrS_l1 at h
    unfold m_laws_heldInstrS_l1
    refine awp_seqv_ ?_
    refine seqR ?_
    rcases cond_some h with ⟨q7, h⟩ | ⟨q7, h⟩
    · have q7_ := of_decide_eq_true q7
      refine awp_condT_ q7 ?_
      refine awp_skip_ (tn_ ?_)
      refine ⟨_, Weak.refl _, ?_⟩
      refine awp_seqv_ ?_
      refine awp_block_ ?_
      refine awp_seqv_ ?_
      refine awp_seqv_ ?_
      obtain ⟨x11, e11, h⟩ := ob_some h
      refine awp_region_ 13 ?_
      refine rs0 (.tree (.pair .int (.pair .int (.pair .int (.pair .int .int)))) a0) (by kernel_rfl) ?_
      refine rs0 (ai ((l4_m5 : Nat) : Int)) (by kernel_rfl) ?_
      refine rs0 (.telt (.pair .int (.pair .int (.pair .int (.pair .int .int)))) x11 0) (s_idxT (t := (.pair .int (.pair .int (.pair .int (.pair .int .int))))) (xs := a0) (k := .i64) (m := ((l4_m5 : Nat) : Int)) (by kernel_rfl) (by kernel_rfl) rfl (nat_nn _) rfl e11) ?_
      refine rsB 4 ?_
      refine rnil (tn_ ?_)
      refine ⟨_, Weak.refl _, ?_⟩
      rcases cond_some h with ⟨q12, h⟩ | ⟨q12, h⟩
      · refine awp_condT_ q12 ?_
        refine seqR ?_
        refine awp_ret_ (tr_ (br_ (tr_ (tr_ (br_ (tr_ ?_))))))
        obtain rfl := Option.some.inj h
        have h := hn4
        (try dsimp only at h)
        obtain rfl := Option.some.inj h
        have h := hk2
        (try dsimp only at h)
        obtain rfl := Option.some.inj h
        exact ret_ [(ai (-1))] (p_one rfl (l_sc (by kernel_rfl)) p_nil)
      refine awp_condF_ q12 ?_
      refine awp_skip_ (tn_ ?_)
      refine ⟨_, Weak.refl _, ?_⟩
      refine seqR ?_
      refine awp_seqv_ ?_
      refine awp_seqv_ ?_
      refine awp_region_ 23 ?_
      refine rs0 (.tree (.pair .int (.pair .int (.pair .int (.pair .int .int)))) a0) (by kernel_rfl) ?_
      refine rs0 (ai ((l4_m5 : Nat) : Int)) (by kernel_rfl) ?_
      refine rs0 (.telt (.pair .int (.pair .int (.pair .int (.pair .int .int)))) x11 0) (s_idxT (t := (.pair .int (.pair .int (.pair .int (.pair .int .int))))) (xs := a0) (k := .i64) (m := ((l4_m5 : Nat) : Int)) (by kernel_rfl) (by kernel_rfl) rfl (nat_nn _) rfl e11) ?_
      refine rsB 4 ?_
      refine rnil (tn_ ?_)
      refine ⟨_, Weak.refl _, ?_⟩
      rcases cond_some h with ⟨q17, h⟩ | ⟨q17, h⟩
      · refine awp_condT_ q17 ?_
        refine seqR ?_
        refine awp_ret_ (tr_ (br_ (tr_ (tr_ (br_ (tr_ ?_))))))
        obtain rfl := Option.some.inj h
        have h := hn4
        (try dsimp only at h)
        obtain rfl := Option.some.inj h
        have h := hk2
        (try dsimp only at h)
        obtain rfl := Option.some.inj h
        exact ret_ [(ai (-1))] (p_one rfl (l_sc (by kernel_rfl)) p_nil)
      refine awp_condF_ q17 ?_
      refine awp_skip_ (tn_ ?_)
      refine ⟨_, Weak.refl _, ?_⟩
      refine seqR ?_
      refine awp_seqv_ ?_
      refine awp_seqv_ ?_
      refine awp_region_ 33 ?_
      refine rs0 (.tree (.pair .int (.pair .int (.pair .int (.pair .int .int)))) a0) (by kernel_rfl) ?_
      refine rs0 (ai ((l4_m5 : Nat) : Int)) (by kernel_rfl) ?_
      refine rs0 (.telt (.pair .int (.pair .int (.pair .int (.pair .int .int)))) x11 0) (s_idxT (t := (.pair .int (.pair .int (.pair .int (.pair .int .int))))) (xs := a0) (k := .i64) (m := ((l4_m5 : Nat) : Int)) (by kernel_rfl) (by kernel_rfl) rfl (nat_nn _) rfl e11) ?_
      refine rsB 4 ?_
      refine rnil (tn_ ?_)
      refine ⟨_, Weak.refl _, ?_⟩
      rcases cond_some h with ⟨q22, h⟩ | ⟨q22, h⟩
      · refine awp_condT_ q22 ?_
        refine seqR ?_
        refine awp_ret_ (tr_ (br_ (tr_ (tr_ (br_ (tr_ ?_))))))
        obtain rfl := Option.some.inj h
        have h := hn4
        (try dsimp only at h)
        obtain rfl := Option.some.inj h
        have h := hk2
        (try dsimp only at h)
        obtain rfl := Option.some.inj h
        exact ret_ [(ai (-1))] (p_one rfl (l_sc (by kernel_rfl)) p_nil)
      refine awp_condF_ q22 ?_
      refine awp_skip_ (tn_ ?_)
      refine ⟨_, Weak.refl _, ?_⟩
      refine seqR ?_
      refine awp_seqv_ ?_
      refine awp_seqv_ ?_
      refine awp_region_ 43 ?_
      refine rs0 (.tree (.pair .int (.pair .int (.pair .int (.pair .int .int)))) a0) (by kernel_rfl) ?_
      refine rs0 (ai ((l4_m5 : Nat) : Int)) (by kernel_rfl) ?_
      refine rs0 (.telt (.pair .int (.pair .int (.pair .int (.pair .int .int)))) x11 0) (s_idxT (t := (.pair .int (.pair .int (.pair .int (.pair .int .int))))) (xs := a0) (k := .i64) (m := ((l4_m5 : Nat) : Int)) (by kernel_rfl) (by kernel_rfl) rfl (nat_nn _) rfl e11) ?_
      refine rsB 4 ?_
      refine rnil (tn_ ?_)
      refine ⟨_, Weak.refl _, ?_⟩
      rcases cond_some h with ⟨q27, h⟩ | ⟨q27, h⟩
      · refine awp_condT_ q27 ?_
        refine seqR ?_
        refine awp_ret_ (tr_ (br_ (tr_ (tr_ (br_ (tr_ ?_))))))
        obtain rfl := Option.some.inj h
        have h := hn4
        (try dsimp only at h)
        obtain rfl := Option.some.inj h
        have h := hk2
        (try dsimp only at h)
        obtain rfl := Option.some.inj h
        exact ret_ [(ai (-1))] (p_one rfl (l_sc (by kernel_rfl)) p_nil)
      refine awp_condF_ q27 ?_
      refine awp_skip_ (tn_ ?_)
      refine ⟨_, Weak.refl _, ?_⟩
      refine seqR ?_
      refine awp_seqv_ ?_
      refine awp_seqv_ ?_
      refine awp_region_ 53 ?_
      refine rs0 (.tree (.pair .int (.pair .int (.pair .int (.pair .int .int)))) a0) (by kernel_rfl) ?_
      refine rs0 (ai ((l4_m5 : Nat) : Int)) (by kernel_rfl) ?_
      refine rs0 (.telt (.pair .int (.pair .int (.pair .int (.pair .int .int)))) x11 0) (s_idxT (t := (.pair .int (.pair .int (.pair .int (.pair .int .int))))) (xs := a0) (k := .i64) (m := ((l4_m5 : Nat) : Int)) (by kernel_rfl) (by kernel_rfl) rfl (nat_nn _) rfl e11) ?_
      refine rsB 4 ?_
      refine rnil (tn_ ?_)
      refine ⟨_, Weak.refl _, ?_⟩
      rcases cond_some h with ⟨q32, h⟩ | ⟨q32, h⟩
      · refine awp_condT_ q32 ?_
        refine seqR ?_
        refine awp_ret_ (tr_ (br_ (tr_ (tr_ (br_ (tr_ ?_))))))
        obtain rfl := Option.some.inj h
        have h := hn4
        (try dsimp only at h)
        obtain rfl := Option.some.inj h
        have h := hk2
        (try dsimp only at h)
        obtain rfl := Option.some.inj h
        exact ret_ [(ai (-1))] (p_one rfl (l_sc (by kernel_rfl)) p_nil)
      refine awp_condF_ q32 ?_
      refine awp_skip_ (tn_ ?_)
      refine ⟨_, Weak.refl _, ?_⟩
      refine awp_region_ 56 ?_
      refine rsB 3 ?_
      refine rnil (bn_ (tn_ ?_))
      refine ⟨_, Weak.refl _, ?_⟩
      obtain ⟨g34, h⟩ := og_some h
      refine awp_region_ 59 ?_
      refine rs0 (ai ((l4_m5 : Nat) : Int)) (by kernel_rfl) ?_
      refine rs0 (ai ((l4_m5 + 1 : Nat) : Int)) (s_add1 (j := l4_m5) (by kernel_rfl) (by kernel_rfl) g34) ?_
      refine rsB 1 ?_
      refine rnil (tn_ ?_)
      obtain rfl := Option.some.inj h
      exact ⟨(IntKind.i64.wrap (IntKind.i64.wrap (IntKind.i64.wrap (IntKind.i64.wrap (IntKind.i64.wrap (l4_m1 + 1) + 1) + 1) + 1) + 1), l4_m5 + 1), _, (weak_ren []), ⟨IntKind.i64.wrap (IntKind.i64.wrap (IntKind.i64.wrap (IntKind.i64.wrap (IntKind.i64.wrap (l4_m1 + 1) + 1) + 1) + 1) + 1), l4_m5 + 1, rfl, rfl⟩, hn4⟩
    have q7_ := of_decide_eq_false q7
    refine awp_condF_ q7 ?_
    refine awp_exit_ (te_ (te_ (be_ (tn_ ?_))))
    obtain rfl := Option.some.inj h
    have h := hn4
    (try dsimp only at h)
    obtain rfl := Option.some.inj h
    exact ⟨l4_m1, _, rfl, (weak_ren []), rfl⟩
  rintro l2_m1 _ rfl h
  (try dsimp only at h)
  refine seqR ?_
  refine awp_ret_ ?_
  obtain rfl := Option.some.inj h
  exact ret_ [(ai l2_m1)] (p_one rfl (l_sc (by kernel_rfl)) p_nil)
def m_laws_heldProgram : AC :=
  (.seq (rg [xo 2 (.i (.box 29 (tm 0))), xo 4 (qm (ci 0))])
  (.seq (rg [xo 5 (qf 4 (tm 2)), xo 6 (ql (tm 5)), xo 7 (qm (tm 1)), ⟨(some 8), none, (qc 50 [(tm 6), (tm 7)] [[(some (.pair .int (.pair .int (.pair .int (.pair .int .int)))))], []])⟩, xo 1 (qm (tm 8))])
  (.seq (.seq (rg [xo 9 (qm (tm 1)), xo 10 (qb .lss (tm 9) (ci 0))])
  (.cond (tm 10)
    (.seq (rg [xo 4 (qm (ci (-1)))])
    .ret)
    .skip))
  (.seq (rg [xo 11 (qm (tm 1)), xo 4 (qm (tm 11))])
  .ret))))
def r_laws_heldProgram : List Res := [.tmp 4]
theorem c_laws_heldProgram : compiled Tryd.prog Tryd.f24 = some (m_laws_heldProgram, r_laws_heldProgram) := by kernel_rfl
theorem hb_laws_heldProgram : hasBody Tryd.prog 24 = true := by kernel_rfl
def L_laws_heldProgram (a0_0 : Int) (a0_1 : Int) (a0_2 : Int) (a0_3 : Int) (a0_4 : List (Int × Int × Int × Int × Int)) (a1 : Int) : Option Int :=
  Option.bind (L_laws_heldInstrS a0_4 a1) fun y3 =>
cond (decide (y3 < 0))
  (some (-1))
  (some y3)
def rv_laws_heldProgram (r : Int) : RV := ⟨false, [(false, [.sc (.int .i64 r)])]⟩
theorem ok_laws_heldProgram {a0_0 : Int} {a0_1 : Int} {a0_2 : Int} {a0_3 : Int} {a0_4 : List (Int × Int × Int × Int × Int)} {a1 : Int} {r : Int} (h : L_laws_heldProgram a0_0 a0_1 a0_2 a0_3 a0_4 a1 = some r) : CallOK Tryd.prog Tab 24 [(.agg [(ai a0_0), (ai a0_1), (ai a0_2), (ai a0_3), (.tree (.pair .int (.pair .int (.pair .int (.pair .int .int)))) a0_4)]), (ai a1)] (rv_laws_heldProgram r) := by
  refine call_of_ (by kernel_rfl) Tryd.func24 c_laws_heldProgram (n := 12) (by kernel_rfl) (by simp) (tl := [(0, (.agg [(ai a0_0), (ai a0_1), (ai a0_2), (ai a0_3), (.tree (.pair .int (.pair .int (.pair .int (.pair .int .int)))) a0_4)])), (1, (ai a1))]) rfl ?_
  unfold m_laws_heldProgram
  unfold L_laws_heldProgram at h
  refine seqR ?_
  refine awp_seqv_ ?_
  obtain ⟨y3, h3, h⟩ := ob_some h
  refine awp_region_ 8 ?_
  refine rs0 (.box (oi 2 1) 4) (by kernel_rfl) ?_
  refine rsl (.tree (.pair .int (.pair .int (.pair .int (.pair .int .int)))) a0_4) (by kernel_rfl) ?_
  refine rs0 (ai a1) (by kernel_rfl) ?_
  refine rcall (ai y3) [] [(.tree (.pair .int (.pair .int (.pair .int (.pair .int .int)))) a0_4), (ai a1)] _ (caps := []) (args0 := [(.tree (.pair .int (.pair .int (.pair .int (.pair .int .int)))) a0_4), (ai a1)]) trivial (by kernel_rfl) (ok_laws_heldInstrS h3) hb_laws_heldInstrS ?_
  refine rsB 1 ?_
  refine rnil (tn_ ?_)
  refine ⟨_, Weak.refl _, ?_⟩
  refine awp_seqv_ ?_
  refine seqR ?_
  rcases cond_some h with ⟨q6, h⟩ | ⟨q6, h⟩
  · have q6_ := of_decide_eq_true q6
    refine awp_condT_ q6 ?_
    refine seqR ?_
    refine awp_ret_ (tr_ ?_)
    obtain rfl := Option.some.inj h
    exact ret_ [(ai (-1))] (p_one rfl (l_sc (by kernel_rfl)) p_nil)
  have q6_ := of_decide_eq_false q6
  refine awp_condF_ q6 ?_
  refine awp_skip_ (tn_ ?_)
  refine ⟨_, Weak.refl _, ?_⟩
  refine seqR ?_
  refine awp_ret_ ?_
  obtain rfl := Option.some.inj h
  exact ret_ [(ai y3)] (p_one rfl (l_sc (by kernel_rfl)) p_nil)
end Go.Proofs.YtomijolkdmaimaaDoor
