/- Partial functions in place of code, and that the code does what they say: MB. No condition. -/
import Derived.Test.YtomijolkdmaimaaDoorB2
namespace Go.Proofs.YtomijolkdmaimaaDoor
open Go.RowKit Go.Deep
set_option maxRecDepth 4000
def m_laws_szIntSS_l1 : AC :=
  (.seq (.seq (rg [xo 12 (qm (tm 5)), xo 13 (qm (tm 0)), xo 14 (.i (.len (tm 13))), xo 15 (qb .lss (tm 12) (tm 14))])
  (.cond (tm 15)
    .skip
    (.exit 0)))
  (.seq (.block 1 (.seq (rg [xo 18 (qm (tm 0)), xo 19 (qm (tm 5)), xo 20 (qx 1 (tm 18) (tm 19)), xo 21 (ql (tm 20)), xo 22 (qm (tm 1)), xo 23 (qc 51 [(tm 21), (tm 22)] [[(some .int)], []]), xo 1 (qm (tm 23))])
  (.seq (rg [xo 24 (qm (tm 1)), xo 25 (qb .lss (tm 24) (ci 0))])
  (.cond (tm 25)
    (.seq (rg [xo 4 (qm (ci (-1)))])
    .ret)
    .skip))))
  (rg [xo 16 (qm (tm 5)), xo 17 (qb .add (tm 16) (ci 1)), xo 5 (qm (tm 17))])))
def m_laws_szIntSS : AC :=
  (.seq (rg [xo 4 (qm (ci 0))])
  (.seq (rg [xo 6 (qm (tm 1)), xo 7 (qm (tm 0)), xo 8 (.i (.len (tm 7))), xo 9 (qb .sub (tm 6) (tm 8)), xo 1 (qm (tm 9))])
  (.seq (.seq (rg [xo 10 (qm (tm 1)), xo 11 (qb .lss (tm 10) (ci 0))])
  (.cond (tm 11)
    (.seq (rg [xo 4 (qm (ci (-1)))])
    .ret)
    .skip))
  (.seq (.seq (rg [xo 5 (qm (ci 0))])
  (.block 0 (.loop m_laws_szIntSS_l1)))
  (.seq (rg [xo 26 (qm (tm 1)), xo 4 (qm (tm 26))])
  .ret)))))
def r_laws_szIntSS : List Res := [.tmp 4]
theorem c_laws_szIntSS : compiled Tryd.prog Tryd.f25 = some (m_laws_szIntSS, r_laws_szIntSS) := by kernel_rfl
theorem hb_laws_szIntSS : hasBody Tryd.prog 25 = true := by kernel_rfl
def L_laws_szIntSS_l1 (a0 : List (List Int)) (l9_m1 : Int) (l9_m5 : Nat) : Option (Ctl (Int × Nat) (Ctl Int Int)) :=
  cond (decide (((l9_m5 : Nat) : Int) < ((a0.length : Nat) : Int)))
  (Option.bind (a0[l9_m5]?) fun x15 =>
  Option.bind (L_laws_szIntS x15 l9_m1) fun y16 =>
  cond (decide (y16 < 0))
    (some (Ctl.out (Ctl.out (-1))))
    (og (l9_m5 + 1 < 4611686018427387904) <|
    some (Ctl.next (y16, l9_m5 + 1))))
  (some (Ctl.out (Ctl.next l9_m1)))
def L_laws_szIntSS (a0 : List (List Int)) (a1 : Int) : Option Int :=
  cond (decide (IntKind.i64.wrap (a1 - ((a0.length : Nat) : Int)) < 0))
  (some (-1))
  (seqC (loopM (fun s_ : Int × Nat => L_laws_szIntSS_l1 a0 s_.1 s_.2) 4611686018427387904 (IntKind.i64.wrap (a1 - ((a0.length : Nat) : Int)), 0)) fun l7_m1 =>
  some l7_m1)
def rv_laws_szIntSS (r : Int) : RV := ⟨false, [(false, [.sc (.int .i64 r)])]⟩
theorem ok_laws_szIntSS {a0 : List (List Int)} {a1 : Int} {r : Int} (h : L_laws_szIntSS a0 a1 = some r) : CallOK Tryd.prog Tab 25 [(.tree (.slice .int) a0), (ai a1)] (rv_laws_szIntSS r) := by
  refine call_of_ (by kernel_rfl) Tryd.func25 c_laws_szIntSS (n := 27) (by kernel_rfl) (by simp) (tl := [(0, (.tree (.slice .int) a0)), (1, (ai a1))]) rfl ?_
  unfold m_laws_szIntSS
  unfold L_laws_szIntSS at h
  refine seqR ?_
  refine seqR ?_
  refine awp_seqv_ ?_
  refine seqR ?_
  rcases cond_some h with ⟨q5, h⟩ | ⟨q5, h⟩
  · have q5_ := of_decide_eq_true q5
    refine awp_condT_ q5 ?_
    refine seqR ?_
    refine awp_ret_ (tr_ ?_)
    obtain rfl := Option.some.inj h
    exact ret_ [(ai (-1))] (p_one rfl (l_sc (by kernel_rfl)) p_nil)
  have q5_ := of_decide_eq_false q5
  refine awp_condF_ q5 ?_
  refine awp_skip_ (tn_ ?_)
  refine ⟨_, Weak.refl _, ?_⟩
  refine awp_seqC h (fun (l7_m1 : Int) S_ => S_ = ⟨mkTm [(1, (ai l7_m1))], mkOb (someL []), 2⟩) ?_ ?_
  · intro v_ h hk7
    refine seqR ?_
    refine awp_block_ ?_
    refine awp_loopL h (fun t_ S_ => ∃ (l9_m1 : Int), ∃ (l9_m5 : Nat), t_ = (l9_m1, l9_m5) ∧ S_ = ⟨mkTm [(0, (.tree (.slice .int) a0)), (1, (ai l9_m1)), (5, (ai ((l9_m5 : Nat) : Int)))], mkOb (someL []), 2⟩) ⟨_, (weak_ren []), ⟨IntKind.i64.wrap (a1 - ((a0.length : Nat) : Int)), 0, rfl, rfl⟩⟩ ?_
    rintro n_ _ _ c_ ⟨l9_m1, l9_m5, rfl, rfl⟩ h hn9
    (try dsimp only at h)
    unfold L_laws_szIntSS_l1 at h
    unfold m_laws_szIntSS_l1
    refine awp_seqv_ ?_
    refine seqR ?_
    rcases cond_some h with ⟨q12, h⟩ | ⟨q12, h⟩
    · have q12_ := of_decide_eq_true q12
      refine awp_condT_ q12 ?_
      refine awp_skip_ (tn_ ?_)
      refine ⟨_, Weak.refl _, ?_⟩
      refine awp_seqv_ ?_
      refine awp_block_ ?_
      refine awp_seqv_ ?_
      obtain ⟨x15, e15, h⟩ := ob_some h
      obtain ⟨y16, h16, h⟩ := ob_some h
      refine awp_region_ 13 ?_
      refine rs0 (.tree (.slice .int) a0) (by kernel_rfl) ?_
      refine rs0 (ai ((l9_m5 : Nat) : Int)) (by kernel_rfl) ?_
      refine rs0 (.telt (.slice .int) x15 0) (s_idxT (t := (.slice .int)) (xs := a0) (k := .i64) (m := ((l9_m5 : Nat) : Int)) (by kernel_rfl) (by kernel_rfl) rfl (nat_nn _) rfl e15) ?_
      refine rs0 (.tree .int x15) (by kernel_rfl) ?_
      refine rs0 (ai l9_m1) (by kernel_rfl) ?_
      refine rcall (ai y16) [] [(.tree .int x15), (ai l9_m1)] _ (caps := []) (args0 := [(.tree .int x15), (ai l9_m1)]) trivial (by kernel_rfl) (ok_laws_szIntS h16) hb_laws_szIntS ?_
      refine rsB 1 ?_
      refine rnil (tn_ ?_)
      refine ⟨_, Weak.refl _, ?_⟩
      refine seqR ?_
      rcases cond_some h with ⟨q18, h⟩ | ⟨q18, h⟩
      · have q18_ := of_decide_eq_true q18
        refine awp_condT_ q18 ?_
        refine seqR ?_
        refine awp_ret_ (br_ (tr_ (tr_ (br_ (tr_ ?_)))))
        obtain rfl := Option.some.inj h
        have h := hn9
        (try dsimp only at h)
        obtain rfl := Option.some.inj h
        have h := hk7
        (try dsimp only at h)
        obtain rfl := Option.some.inj h
        exact ret_ [(ai (-1))] (p_one rfl (l_sc (by kernel_rfl)) p_nil)
      have q18_ := of_decide_eq_false q18
      refine awp_condF_ q18 ?_
      refine awp_skip_ (bn_ (tn_ ?_))
      refine ⟨_, Weak.refl _, ?_⟩
      obtain ⟨g20, h⟩ := og_some h
      refine awp_region_ 18 ?_
      refine rs0 (ai ((l9_m5 : Nat) : Int)) (by kernel_rfl) ?_
      refine rs0 (ai ((l9_m5 + 1 : Nat) : Int)) (s_add1 (j := l9_m5) (by kernel_rfl) (by kernel_rfl) g20) ?_
      refine rsB 1 ?_
      refine rnil (tn_ ?_)
      obtain rfl := Option.some.inj h
      exact ⟨(y16, l9_m5 + 1), _, (weak_ren []), ⟨y16, l9_m5 + 1, rfl, rfl⟩, hn9⟩
    have q12_ := of_decide_eq_false q12
    refine awp_condF_ q12 ?_
    refine awp_exit_ (te_ (te_ (be_ (tn_ ?_))))
    obtain rfl := Option.some.inj h
    have h := hn9
    (try dsimp only at h)
    obtain rfl := Option.some.inj h
    exact ⟨l9_m1, _, rfl, (weak_ren []), rfl⟩
  rintro l7_m1 _ rfl h
  (try dsimp only at h)
  refine seqR ?_
  refine awp_ret_ ?_
  obtain rfl := Option.some.inj h
  exact ret_ [(ai l7_m1)] (p_one rfl (l_sc (by kernel_rfl)) p_nil)
def m_laws_toIntSS_l1 : AC :=
  (.seq (.seq (rg [xo 8 (qm (tm 4)), xo 9 (qm (tm 0)), xo 10 (.i (.len (tm 9))), xo 11 (qb .lss (tm 8) (tm 10))])
  (.cond (tm 11)
    .skip
    (.exit 0)))
  (.seq (.block 1 (rg [xo 14 (qm (tm 3)), xo 15 (qm (tm 4)), xo 16 (qm (tm 0)), xo 17 (qm (tm 4)), xo 18 (qx 1 (tm 16) (tm 17)), xo 19 (ql (tm 18)), xo 20 (qc 20 [(tm 19)] [[(some .int)]]), xo 21 (qx 1 (tm 14) (tm 15)), xn (qs (tm 21) (tm 20))]))
  (rg [xo 12 (qm (tm 4)), xo 13 (qb .add (tm 12) (ci 1)), xo 4 (qm (tm 13))])))
def m_laws_toIntSS : AC :=
  (.seq (rg [xo 2 (qm (.cst .nils))])
  (.seq (rg [xo 5 (qm (tm 0)), xo 6 (.i (.len (tm 5))), xo 7 (.makeV 33 (.slice .int) 24 [.nils] (tm 6) (tm 6)), xo 3 (qm (tm 7))])
  (.seq (.seq (rg [xo 4 (qm (ci 0))])
  (.block 0 (.loop m_laws_toIntSS_l1)))
  (.seq (rg [xo 22 (qm (tm 3)), xo 2 (qm (tm 22))])
  .ret))))
def r_laws_toIntSS : List Res := [.tmp 2]
theorem c_laws_toIntSS : compiled Tryd.prog Tryd.f27 = some (m_laws_toIntSS, r_laws_toIntSS) := by kernel_rfl
theorem hb_laws_toIntSS : hasBody Tryd.prog 27 = true := by kernel_rfl
def L_laws_toIntSS_l1 (a0 : List (List Int)) (l7_m4 : Nat) (l7_m3 : List (List Int)) : Option (Ctl (Nat × List (List Int)) (List (List Int))) :=
  cond (decide (((l7_m4 : Nat) : Int) < ((a0.length : Nat) : Int)))
  (Option.bind (a0[l7_m4]?) fun x12 =>
  Option.bind (L_laws_toIntS x12) fun y13 =>
  Option.bind (l7_m3[l7_m4]?) fun x14 =>
  og (l7_m4 + 1 < 4611686018427387904) <|
  some (Ctl.next (l7_m4 + 1, l7_m3.set l7_m4 y13)))
  (some (Ctl.out l7_m3))
def L_laws_toIntSS (a0 : List (List Int)) : Option (List (List Int)) :=
  og (0 ≤ ((a0.length : Nat) : Int) ∧ ((a0.length : Nat) : Int) ≤ ((a0.length : Nat) : Int) ∧ ((a0.length : Nat) : Int) ≤ 1073741824 ∧ (24 : Int) * ((a0.length : Nat) : Int) ≤ 140737488355328) <|
Option.bind (loopM (fun s_ : Nat × List (List Int) => L_laws_toIntSS_l1 a0 s_.1 s_.2) 4611686018427387904 (0, List.replicate a0.length ([] : List Int))) fun l5_m3 =>
some l5_m3
theorem ok_laws_toIntSS {a0 : List (List Int)} {r : List (List Int)} (h : L_laws_toIntSS a0 = some r) : CallM Tryd.prog Tab 27 [(.tree (.slice .int) a0)] [] (.own (oi 0 1) (.slice .int) 0 r.length) [((oi 0 1), .mat 33 (oi 1 1) .int r), ((oi 1 1), .pool 3 .int r)] := by
  refine callM_of_ (by kernel_rfl) Tryd.func27 c_laws_toIntSS (n := 23) (by kernel_rfl) (by simp) (tl := [(0, (.tree (.slice .int) a0))]) rfl (by kernel_rfl) trivial ⟨⟨3, (.tail _ (.head _))⟩, ⟨trivial, trivial⟩⟩ ?_
  unfold m_laws_toIntSS
  unfold L_laws_toIntSS at h
  refine seqR ?_
  refine awp_seqv_ ?_
  obtain ⟨g4, h⟩ := og_some h
  refine awp_region_ 6 ?_
  refine rs0 (.tree (.slice .int) a0) (by kernel_rfl) ?_
  refine rs0 (ai ((a0.length : Nat) : Int)) (by kernel_rfl) ?_
  refine rmakeM (.own (oi 112 4) (.slice .int) 0 a0.length) (oi 112 4) 33 3 .int (List.replicate a0.length ([] : List Int)) trivial (s_makeM (j := a0.length) (k := .i64) (k' := .i64) (m := ((a0.length : Nat) : Int)) (c := ((a0.length : Nat) : Int)) 3 (by kernel_rfl) (by kernel_rfl) g4 (by kernel_rfl) rfl) (by kernel_rfl) (by rw [List.length_replicate]) (by kernel_rfl) ?_
  refine rsB 1 ?_
  refine rnil (tn_ ?_)
  refine ⟨_, Weak.refl _, ?_⟩
  refine awp_seqB h (fun (l5_m3 : List (List Int)) S_ => S_ = ⟨mkTm [(3, (.own (oi 0 1) (.slice .int) 0 l5_m3.length))], mkOb (someL [((oi 0 1), .mat 33 (oi 1 1) .int l5_m3), ((oi 1 1), .pool 3 .int l5_m3)]), 2⟩) ?_ ?_
  · intro v_ h
    refine seqR ?_
    refine awp_block_ ?_
    refine awp_loopL h (fun t_ S_ => ∃ (l7_m4 : Nat), ∃ (l7_m3 : List (List Int)), t_ = (l7_m4, l7_m3) ∧ S_ = ⟨mkTm [(0, (.tree (.slice .int) a0)), (3, (.own (oi 0 1) (.slice .int) 0 l7_m3.length)), (4, (ai ((l7_m4 : Nat) : Int)))], mkOb (someL [((oi 0 1), .mat 33 (oi 1 1) .int l7_m3), ((oi 1 1), .pool 3 .int l7_m3)]), 2⟩) ⟨_, ((weak_tm_ 3 (.own (oi 112 4) (.slice .int) 0 a0.length) (.own (oi 112 4) (.slice .int) 0 ((List.replicate a0.length ([] : List Int)).length)) (by kernel_rfl) (congrArg (fun z_ => ((.own (oi 112 4) (.slice .int) 0 z_) : AV)) (List.length_replicate.symm : a0.length = (List.replicate a0.length ([] : List Int)).length))).trans (weak_ren [((oi 0 1), (oi 112 4)), ((oi 1 1), (oi 112 4))])), ⟨0, List.replicate a0.length ([] : List Int), rfl, rfl⟩⟩ ?_
    rintro n_ _ _ c_ ⟨l7_m4, l7_m3, rfl, rfl⟩ h hn7
    (try dsimp only at h)
    unfold L_laws_toIntSS_l1 at h
    unfold m_laws_toIntSS_l1
    refine awp_seqv_ ?_
    refine seqR ?_
    rcases cond_some h with ⟨q10, h⟩ | ⟨q10, h⟩
    · have q10_ := of_decide_eq_true q10
      refine awp_condT_ q10 ?_
      refine awp_skip_ (tn_ ?_)
      refine ⟨_, Weak.refl _, ?_⟩
      refine awp_seqv_ ?_
      refine awp_block_ ?_
      obtain ⟨x12, e12, h⟩ := ob_some h
      obtain ⟨y13, h13, h⟩ := ob_some h
      obtain ⟨x14, e14, h⟩ := ob_some h
      refine awp_region_ 15 ?_
      refine rs0 (.own (oi 0 1) (.slice .int) 0 l7_m3.length) (by kernel_rfl) ?_
      refine rs0 (ai ((l7_m4 : Nat) : Int)) (by kernel_rfl) ?_
      refine rs0 (.tree (.slice .int) a0) (by kernel_rfl) ?_
      refine rs0 (ai ((l7_m4 : Nat) : Int)) (by kernel_rfl) ?_
      refine rs0 (.telt (.slice .int) x12 0) (s_idxT (t := (.slice .int)) (xs := a0) (k := .i64) (m := ((l7_m4 : Nat) : Int)) (by kernel_rfl) (by kernel_rfl) rfl (nat_nn _) rfl e12) ?_
      refine rs0 (.tree .int x12) (by kernel_rfl) ?_
      refine rcall (.own (oi 320 12) .int 0 y13.length) [((oi 320 12), some (.arr 3 .int y13))] [(.tree .int x12)] _ (caps := []) (args0 := [(.tree .int x12)]) trivial (by kernel_rfl) (ok_laws_toIntS h13) hb_laws_toIntS ?_
      refine rs0 (.elt (oi 0 1) l7_m4 0) (s_idxO (t := (.slice .int)) (o := (oi 0 1)) (len := l7_m3.length) (k := .i64) (m := ((l7_m4 : Nat) : Int)) (by kernel_rfl) (by kernel_rfl) rfl (nat_nn _) rfl (getN_lt e14)) ?_
      refine rsn2 (oi 0 1) (oi 0 1) (.vec 33 1 l7_m3.length ((hdL (oi 1 1) .int l7_m3).set l7_m4 (.own (oi 320 12) .int 0 y13.length))) (s_stV (o := (oi 0 1)) (e1 := 33) (m := l7_m3.length) (cs := hdL (oi 1 1) .int l7_m3) (v := (.own (oi 320 12) .int 0 y13.length)) (j := l7_m4) (by kernel_rfl) (by kernel_rfl) (by kernel_rfl) rfl (by rw [hdL_len]; exact getN_lt e14)) ?_
      refine rnil (bn_ (tn_ ?_))
      refine ⟨_, weak_set_ (e1 := 33) (e := 3) (u := .int) (n := l7_m3.length) (len := y13.length) (row := y13) (ys := y13) (xss := l7_m3) (j := l7_m4) 9000 (oi 0 1) (oi 1 1) (oi 320 12) (by kernel_rfl) (by kernel_rfl) rfl (by kernel_rfl) (by kernel_rfl) (tw_le rfl) (tw_eq rfl) (by kernel_rfl) (by kernel_rfl) (by kernel_rfl), ?_⟩
      obtain ⟨g15, h⟩ := og_some h
      refine awp_region_ 19 ?_
      refine rs0 (ai ((l7_m4 : Nat) : Int)) (by kernel_rfl) ?_
      refine rs0 (ai ((l7_m4 + 1 : Nat) : Int)) (s_add1 (j := l7_m4) (by kernel_rfl) (by kernel_rfl) g15) ?_
      refine rsB 1 ?_
      refine rnil (tn_ ?_)
      obtain rfl := Option.some.inj h
      exact ⟨(l7_m4 + 1, l7_m3.set l7_m4 y13), _, ((weak_tm_ 3 (.own (oi 0 1) (.slice .int) 0 l7_m3.length) (.own (oi 0 1) (.slice .int) 0 ((l7_m3.set l7_m4 y13).length)) (by kernel_rfl) (congrArg (fun z_ => ((.own (oi 0 1) (.slice .int) 0 z_) : AV)) ((Eq.trans (b := l7_m3.length) rfl List.length_set.symm) : l7_m3.length = (l7_m3.set l7_m4 y13).length))).trans (weak_ren [((oi 1 1), (oi 9000 15))])), ⟨l7_m4 + 1, l7_m3.set l7_m4 y13, rfl, rfl⟩, hn7⟩
    have q10_ := of_decide_eq_false q10
    refine awp_condF_ q10 ?_
    refine awp_exit_ (te_ (te_ (be_ (tn_ ?_))))
    obtain rfl := Option.some.inj h
    have h := hn7
    (try dsimp only at h)
    obtain rfl := Option.some.inj h
    exact ⟨_, (weak_ren []), rfl⟩
  rintro l5_m3 _ rfl h
  (try dsimp only at h)
  refine seqR ?_
  refine awp_ret_ ?_
  obtain rfl := Option.some.inj h
  exact retM_ [(.own (oi 0 1) (.slice .int) 0 l5_m3.length)] (weak_ren (tl := [(2, (.own (oi 0 1) (.slice .int) 0 l5_m3.length))]) (g := 2) [])
def m_laws_eqIntSS_l1 : AC :=
  (.seq (.seq (rg [xo 11 (qm (tm 5)), xo 12 (qm (tm 0)), xo 13 (.i (.len (tm 12))), xo 14 (qb .lss (tm 11) (tm 13))])
  (.cond (tm 14)
    .skip
    (.exit 0)))
  (.seq (.block 1 (.seq (.region [xo 17 (qm (tm 0)), xo 18 (qm (tm 5)), xo 19 (qx 1 (tm 17) (tm 18)), xo 20 (ql (tm 19)), xo 21 (qm (tm 1)), xo 22 (qm (tm 5)), xo 23 (qx 1 (tm 21) (tm 22)), xo 24 (ql (tm 23)), xo 25 (qc 15 [(tm 20), (tm 24)] [[(some .int)], [(some .int)]]), xo 26 (.i (.not (tm 25)))] true [])
  (.cond (tm 26)
    (.seq (rg [xo 4 (qm (cb false))])
    .ret)
    .skip)))
  (rg [xo 15 (qm (tm 5)), xo 16 (qb .add (tm 15) (ci 1)), xo 5 (qm (tm 16))])))
def m_laws_eqIntSS : AC :=
  (.seq (rg [xo 4 (qm (cb false))])
  (.seq (.seq (rg [xo 6 (qm (tm 0)), xo 7 (.i (.len (tm 6))), xo 8 (qm (tm 1)), xo 9 (.i (.len (tm 8))), xo 10 (qb .neq (tm 7) (tm 9))])
  (.cond (tm 10)
    (.seq (rg [xo 4 (qm (cb false))])
    .ret)
    .skip))
  (.seq (.seq (rg [xo 5 (qm (ci 0))])
  (.block 0 (.loop m_laws_eqIntSS_l1)))
  (.seq (rg [xo 4 (qm (cb true))])
  .ret))))
def r_laws_eqIntSS : List Res := [.tmp 4]
theorem c_laws_eqIntSS : compiled Tryd.prog Tryd.f29 = some (m_laws_eqIntSS, r_laws_eqIntSS) := by kernel_rfl
theorem hb_laws_eqIntSS : hasBody Tryd.prog 29 = true := by kernel_rfl
def L_laws_eqIntSS_l1 (a0 : List (List Int)) (a1 : List (List Int)) (l8_m5 : Nat) : Option (Ctl Nat (Ctl Unit Bool)) :=
  cond (decide (((l8_m5 : Nat) : Int) < ((a0.length : Nat) : Int)))
  (Option.bind (a0[l8_m5]?) fun x14 =>
  Option.bind (a1[l8_m5]?) fun x15 =>
  Option.bind (L_laws_eqIntS x14 x15) fun y16 =>
  cond (!y16)
    (some (Ctl.out (Ctl.out false)))
    (og (l8_m5 + 1 < 4611686018427387904) <|
    some (Ctl.next (l8_m5 + 1))))
  (some (Ctl.out (Ctl.next ())))
def L_laws_eqIntSS (a0 : List (List Int)) (a1 : List (List Int)) : Option Bool :=
  cond (((a0.length : Nat) : Int) != ((a1.length : Nat) : Int))
  (some false)
  (seqC (loopM (fun s_ : Nat => L_laws_eqIntSS_l1 a0 a1 s_) 4611686018427387904 0) fun _ =>
  some true)
def rv_laws_eqIntSS (r : Bool) : RV := ⟨false, [(false, [.sc (.bool r)])]⟩
theorem ok_laws_eqIntSS {a0 : List (List Int)} {a1 : List (List Int)} {r : Bool} (h : L_laws_eqIntSS a0 a1 = some r) : CallOK Tryd.prog Tab 29 [(.tree (.slice .int) a0), (.tree (.slice .int) a1)] (rv_laws_eqIntSS r) := by
  refine call_of_ (by kernel_rfl) Tryd.func29 c_laws_eqIntSS (n := 27) (by kernel_rfl) (by simp) (tl := [(0, (.tree (.slice .int) a0)), (1, (.tree (.slice .int) a1))]) rfl ?_
  unfold m_laws_eqIntSS
  unfold L_laws_eqIntSS at h
  refine seqR ?_
  refine awp_seqv_ ?_
  refine seqR ?_
  rcases cond_some h with ⟨q4, h⟩ | ⟨q4, h⟩
  · refine awp_condT_ q4 ?_
    refine seqR ?_
    refine awp_ret_ (tr_ ?_)
    obtain rfl := Option.some.inj h
    exact ret_ [(.bool false)] (p_one rfl (l_sc (by kernel_rfl)) p_nil)
  refine awp_condF_ q4 ?_
  refine awp_skip_ (tn_ ?_)
  refine ⟨_, Weak.refl _, ?_⟩
  refine awp_seqC h (fun (_ : Unit) S_ => S_ = ⟨mkTm [], mkOb (someL []), 2⟩) ?_ ?_
  · intro v_ h hk6
    refine seqR ?_
    refine awp_block_ ?_
    refine awp_loopL h (fun (l8_m5 : Nat) S_ => S_ = ⟨mkTm [(0, (.tree (.slice .int) a0)), (1, (.tree (.slice .int) a1)), (5, (ai ((l8_m5 : Nat) : Int)))], mkOb (someL []), 2⟩) ⟨_, (weak_ren []), rfl⟩ ?_
    rintro n_ l8_m5 _ c_ rfl h hn8
    (try dsimp only at h)
    unfold L_laws_eqIntSS_l1 at h
    unfold m_laws_eqIntSS_l1
    refine awp_seqv_ ?_
    refine seqR ?_
    rcases cond_some h with ⟨q11, h⟩ | ⟨q11, h⟩
    · have q11_ := of_decide_eq_true q11
      refine awp_condT_ q11 ?_
      refine awp_skip_ (tn_ ?_)
      refine ⟨_, Weak.refl _, ?_⟩
      refine awp_seqv_ ?_
      refine awp_block_ ?_
      refine awp_seqv_ ?_
      obtain ⟨x14, e14, h⟩ := ob_some h
      obtain ⟨x15, e15, h⟩ := ob_some h
      obtain ⟨y16, h16, h⟩ := ob_some h
      refine awp_regionD_ 16 ?_
      refine ds0 (.tree (.slice .int) a0) (by kernel_rfl) ?_
      refine ds0 (ai ((l8_m5 : Nat) : Int)) (by kernel_rfl) ?_
      refine ds0 (.telt (.slice .int) x14 0) (s_idxT (t := (.slice .int)) (xs := a0) (k := .i64) (m := ((l8_m5 : Nat) : Int)) (by kernel_rfl) (by kernel_rfl) rfl (nat_nn _) rfl e14) ?_
      refine ds0 (.tree .int x14) (by kernel_rfl) ?_
      refine ds0 (.tree (.slice .int) a1) (by kernel_rfl) ?_
      refine ds0 (ai ((l8_m5 : Nat) : Int)) (by kernel_rfl) ?_
      refine ds0 (.telt (.slice .int) x15 0) (s_idxT (t := (.slice .int)) (xs := a1) (k := .i64) (m := ((l8_m5 : Nat) : Int)) (by kernel_rfl) (by kernel_rfl) rfl (nat_nn _) rfl e15) ?_
      refine ds0 (.tree .int x15) (by kernel_rfl) ?_
      refine dcall (.bool y16) [] [(.tree .int x14), (.tree .int x15)] _ (caps := []) (args0 := [(.tree .int x14), (.tree .int x15)]) trivial (by kernel_rfl) (ok_laws_eqIntS h16) hb_laws_eqIntS ?_
      refine ds0 (.bool (!y16)) (by kernel_rfl) ?_
      refine dnil (badB_spec (by kernel_rfl)) (tn_ ?_)
      refine ⟨_, Weak.refl _, ?_⟩
      rcases cond_some h with ⟨q17, h⟩ | ⟨q17, h⟩
      · refine awp_condT_ q17 ?_
        refine seqR ?_
        refine awp_ret_ (br_ (tr_ (tr_ (br_ (tr_ ?_)))))
        obtain rfl := Option.some.inj h
        have h := hn8
        (try dsimp only at h)
        obtain rfl := Option.some.inj h
        have h := hk6
        (try dsimp only at h)
        obtain rfl := Option.some.inj h
        exact ret_ [(.bool false)] (p_one rfl (l_sc (by kernel_rfl)) p_nil)
      refine awp_condF_ q17 ?_
      refine awp_skip_ (bn_ (tn_ ?_))
      refine ⟨_, Weak.refl _, ?_⟩
      obtain ⟨g19, h⟩ := og_some h
      refine awp_region_ 19 ?_
      refine rs0 (ai ((l8_m5 : Nat) : Int)) (by kernel_rfl) ?_
      refine rs0 (ai ((l8_m5 + 1 : Nat) : Int)) (s_add1 (j := l8_m5) (by kernel_rfl) (by kernel_rfl) g19) ?_
      refine rsB 1 ?_
      refine rnil (tn_ ?_)
      obtain rfl := Option.some.inj h
      exact ⟨l8_m5 + 1, _, (weak_ren []), rfl, hn8⟩
    have q11_ := of_decide_eq_false q11
    refine awp_condF_ q11 ?_
    refine awp_exit_ (te_ (te_ (be_ (tn_ ?_))))
    obtain rfl := Option.some.inj h
    have h := hn8
    (try dsimp only at h)
    obtain rfl := Option.some.inj h
    exact ⟨(), _, rfl, (weak_ren []), rfl⟩
  rintro _ _ rfl h
  (try dsimp only at h)
  refine seqR ?_
  refine awp_ret_ ?_
  obtain rfl := Option.some.inj h
  exact ret_ [(.bool true)] (p_one rfl (l_sc (by kernel_rfl)) p_nil)
def m_laws_markIntSS_l1 : AC :=
  (.seq (.seq (rg [xo 6 (qm (tm 5)), xo 7 (qm (tm 0)), xo 8 (.i (.len (tm 7))), xo 9 (qb .lss (tm 6) (tm 8))])
  (.cond (tm 9)
    .skip
    (.exit 0)))
  (.seq (.block 1 (rg [xo 12 (qm (tm 0)), xo 13 (qm (tm 5)), xo 14 (qx 1 (tm 12) (tm 13)), xo 15 (ql (tm 14)), xo 16 (qm (tm 1)), xo 17 (qc 17 [(tm 15), (tm 16)] [[(some .int)], []]), xo 1 (qm (tm 17))]))
  (rg [xo 10 (qm (tm 5)), xo 11 (qb .add (tm 10) (ci 1)), xo 5 (qm (tm 11))])))
def m_laws_markIntSS : AC :=
  (.seq (rg [xo 4 (qm (ci 0))])
  (.seq (.seq (rg [xo 5 (qm (ci 0))])
  (.block 0 (.loop m_laws_markIntSS_l1)))
  (.seq (rg [xo 18 (qm (tm 1)), xo 4 (qm (tm 18))])
  .ret)))
def r_laws_markIntSS : List Res := [.tmp 4]
theorem c_laws_markIntSS : compiled Tryd.prog Tryd.f30 = some (m_laws_markIntSS, r_laws_markIntSS) := by kernel_rfl
theorem hb_laws_markIntSS : hasBody Tryd.prog 30 = true := by kernel_rfl
def L_laws_markIntSS_l1  (l5_m1 : Int) (l5_m5 : Nat) (l5_m0 : List (List Int)) : Option (Ctl (Int × Nat × List (List Int)) (Int × List (List Int))) :=
  cond (decide (((l5_m5 : Nat) : Int) < ((l5_m0.length : Nat) : Int)))
  (Option.bind (l5_m0[l5_m5]?) fun x10 =>
  Option.bind (L_laws_markIntS x10 l5_m1) fun y11 =>
  og (y11.1.length = x10.length) <|
  og (l5_m5 + 1 < 4611686018427387904) <|
  some (Ctl.next (y11.2, l5_m5 + 1, l5_m0.set l5_m5 y11.1)))
  (some (Ctl.out (l5_m1, l5_m0)))
def L_laws_markIntSS (a0 : List (List Int)) (a1 : Int) : Option (List (List Int) × Int) :=
  Option.bind (loopM (fun s_ : Int × Nat × List (List Int) => L_laws_markIntSS_l1 s_.1 s_.2.1 s_.2.2) 4611686018427387904 (a1, 0, a0)) fun (l3_m1, l3_p0) =>
some (l3_p0, l3_m1)
theorem ok_laws_markIntSS {a0 : List (List Int)} {a1 : Int} {r : List (List Int) × Int} (h : L_laws_markIntSS a0 a1 = some r) {n_a0 : Nat} (hn_a0 : n_a0 = a0.length) : CallM Tryd.prog Tab 30 [(.own (oi 0 0) (.slice .int) 0 n_a0), (ai a1)] [((oi 0 0), .mat 33 (oi 1 0) .int a0), ((oi 1 0), .pool 3 .int a0)] (ai r.2) [((oi 0 0), .mat 33 (oi 0 1) .int r.1), ((oi 0 1), .pool 3 .int r.1)] := by
  refine callM_of_ (by kernel_rfl) Tryd.func30 c_laws_markIntSS (n := 19) (by kernel_rfl) (by simp) (tl := [(0, (.own (oi 0 0) (.slice .int) 0 n_a0)), (1, (ai a1))]) rfl (by kernel_rfl) ⟨⟨3, (.tail _ (.head _))⟩, ⟨trivial, trivial⟩⟩ ⟨⟨3, (.tail _ (.head _))⟩, ⟨trivial, trivial⟩⟩ ?_
  unfold m_laws_markIntSS
  unfold L_laws_markIntSS at h
  refine seqR ?_
  refine awp_seqB h (fun t_ S_ => ∃ (l3_m1 : Int), ∃ (l3_p0 : List (List Int)), t_ = (l3_m1, l3_p0) ∧ S_ = ⟨mkTm [(1, (ai l3_m1))], mkOb (someL [((oi 0 0), .mat 33 (oi 0 1) .int l3_p0), ((oi 0 1), .pool 3 .int l3_p0)]), 2⟩) ?_ ?_
  · intro v_ h
    refine seqR ?_
    refine awp_block_ ?_
    refine awp_loopL h (fun t_ S_ => ∃ (l5_m1 : Int), ∃ (l5_m5 : Nat), ∃ (l5_m0 : List (List Int)), t_ = (l5_m1, l5_m5, l5_m0) ∧ S_ = ⟨mkTm [(0, (.own (oi 0 0) (.slice .int) 0 l5_m0.length)), (1, (ai l5_m1)), (5, (ai ((l5_m5 : Nat) : Int)))], mkOb (someL [((oi 0 0), .mat 33 (oi 0 1) .int l5_m0), ((oi 0 1), .pool 3 .int l5_m0)]), 2⟩) ⟨_, ((weak_tm_ 0 (.own (oi 0 0) (.slice .int) 0 n_a0) (.own (oi 0 0) (.slice .int) 0 a0.length) (by kernel_rfl) (congrArg (fun z_ => ((.own (oi 0 0) (.slice .int) 0 z_) : AV)) (hn_a0 : n_a0 = a0.length))).trans (weak_ren [((oi 0 1), (oi 1 0))])), ⟨a1, 0, a0, rfl, rfl⟩⟩ ?_
    rintro n_ _ _ c_ ⟨l5_m1, l5_m5, l5_m0, rfl, rfl⟩ h hn5
    (try dsimp only at h)
    unfold L_laws_markIntSS_l1 at h
    unfold m_laws_markIntSS_l1
    refine awp_seqv_ ?_
    refine seqR ?_
    rcases cond_some h with ⟨q8, h⟩ | ⟨q8, h⟩
    · have q8_ := of_decide_eq_true q8
      refine awp_condT_ q8 ?_
      refine awp_skip_ (tn_ ?_)
      refine ⟨_, Weak.refl _, ?_⟩
      refine awp_seqv_ ?_
      refine awp_block_ ?_
      obtain ⟨x10, e10, h⟩ := ob_some h
      obtain ⟨y11, h11, h⟩ := ob_some h
      obtain ⟨g12, h⟩ := og_some h
      refine awp_region_ 13 ?_
      refine rs0 (.own (oi 0 0) (.slice .int) 0 l5_m0.length) (by kernel_rfl) ?_
      refine rs0 (ai ((l5_m5 : Nat) : Int)) (by kernel_rfl) ?_
      refine rs0 (.elt (oi 0 0) l5_m5 0) (s_idxO (t := (.slice .int)) (o := (oi 0 0)) (len := l5_m0.length) (k := .i64) (m := ((l5_m5 : Nat) : Int)) (by kernel_rfl) (by kernel_rfl) rfl (nat_nn _) rfl (getN_lt e10)) ?_
      refine rsl (.own (kid (oi 0 1) l5_m5) .int 0 x10.length) (s_ldM (o := (oi 0 0)) (p := (oi 0 1)) (e1 := 33) (u := .int) (xss := l5_m0) (row := x10) (j := l5_m5) (by kernel_rfl) (by kernel_rfl) e10) ?_
      refine rs0 (ai l5_m1) (by kernel_rfl) ?_
      refine rcallM (ai y11.2) [((kid (oi 0 1) l5_m5), some (.arr 3 .int y11.1)), ((kid (oi 0 1) l5_m5), none)] [((oi 0 0), (kid (oi 0 1) l5_m5))] [(.own (kid (oi 0 1) l5_m5) .int 0 x10.length), (ai l5_m1)] (caps := []) trivial (ok_laws_markIntS h11 rfl) hb_laws_markIntS ⟨(entAt_kid (by kernel_rfl) e10), trivial⟩ (.cons (.ren (by kernel_rfl)) (.cons (.ren (by kernel_rfl)) .nil)) (reachL_mem (by kernel_rfl) (by kernel_rfl) ⟨(.arg (by simp [AV.nmsL, AV.nms, renF])), trivial⟩) ?_
      refine xw_ob (ob_row (o := (oi 0 0)) (p := (oi 0 1)) (e1 := 33) (e := 3) (u := .int) (xss := l5_m0) (k := l5_m5) (row := x10) (row' := y11.1) (by kernel_rfl) rfl (by kernel_rfl) e10 g12) ?_
      refine rsB 1 ?_
      refine rnil (bn_ (tn_ ?_))
      refine ⟨_, Weak.refl _, ?_⟩
      obtain ⟨g13, h⟩ := og_some h
      refine awp_region_ 16 ?_
      refine rs0 (ai ((l5_m5 : Nat) : Int)) (by kernel_rfl) ?_
      refine rs0 (ai ((l5_m5 + 1 : Nat) : Int)) (s_add1 (j := l5_m5) (by kernel_rfl) (by kernel_rfl) g13) ?_
      refine rsB 1 ?_
      refine rnil (tn_ ?_)
      obtain rfl := Option.some.inj h
      exact ⟨(y11.2, l5_m5 + 1, l5_m0.set l5_m5 y11.1), _, ((weak_tm_ 0 (.own (oi 0 0) (.slice .int) 0 l5_m0.length) (.own (oi 0 0) (.slice .int) 0 ((l5_m0.set l5_m5 y11.1).length)) (by kernel_rfl) (congrArg (fun z_ => ((.own (oi 0 0) (.slice .int) 0 z_) : AV)) ((Eq.trans (b := l5_m0.length) rfl List.length_set.symm) : l5_m0.length = (l5_m0.set l5_m5 y11.1).length))).trans (weak_ren [])), ⟨y11.2, l5_m5 + 1, l5_m0.set l5_m5 y11.1, rfl, rfl⟩, hn5⟩
    have q8_ := of_decide_eq_false q8
    refine awp_condF_ q8 ?_
    refine awp_exit_ (te_ (te_ (be_ (tn_ ?_))))
    obtain rfl := Option.some.inj h
    have h := hn5
    (try dsimp only at h)
    obtain rfl := Option.some.inj h
    exact ⟨_, (weak_ren []), ⟨l5_m1, l5_m0, rfl, rfl⟩⟩
  rintro _ _ ⟨l3_m1, l3_p0, rfl, rfl⟩ h
  (try dsimp only at h)
  refine seqR ?_
  refine awp_ret_ ?_
  obtain rfl := Option.some.inj h
  exact retM_ [(ai l3_m1)] (weak_ren (tl := [(4, (ai l3_m1))]) (g := 2) [])
def m_laws_heldIntSS_l1 : AC :=
  (.seq (.seq (rg [xo 6 (qm (tm 5)), xo 7 (qm (tm 0)), xo 8 (.i (.len (tm 7))), xo 9 (qb .lss (tm 6) (tm 8))])
  (.cond (tm 9)
    .skip
    (.exit 0)))
  (.seq (.block 1 (.seq (rg [xo 12 (qm (tm 0)), xo 13 (qm (tm 5)), xo 14 (qx 1 (tm 12) (tm 13)), xo 15 (ql (tm 14)), xo 16 (qm (tm 1)), xo 17 (qc 18 [(tm 15), (tm 16)] [[(some .int)], []]), xo 1 (qm (tm 17))])
  (.seq (rg [xo 18 (qm (tm 1)), xo 19 (qb .lss (tm 18) (ci 0))])
  (.cond (tm 19)
    (.seq (rg [xo 4 (qm (ci (-1)))])
    .ret)
    .skip))))
  (rg [xo 10 (qm (tm 5)), xo 11 (qb .add (tm 10) (ci 1)), xo 5 (qm (tm 11))])))
def m_laws_heldIntSS : AC :=
  (.seq (rg [xo 4 (qm (ci 0))])
  (.seq (.seq (rg [xo 5 (qm (ci 0))])
  (.block 0 (.loop m_laws_heldIntSS_l1)))
  (.seq (rg [xo 20 (qm (tm 1)), xo 4 (qm (tm 20))])
  .ret)))
def r_laws_heldIntSS : List Res := [.tmp 4]
theorem c_laws_heldIntSS : compiled Tryd.prog Tryd.f31 = some (m_laws_heldIntSS, r_laws_heldIntSS) := by kernel_rfl
theorem hb_laws_heldIntSS : hasBody Tryd.prog 31 = true := by kernel_rfl
def L_laws_heldIntSS_l1 (a0 : List (List Int)) (l4_m1 : Int) (l4_m5 : Nat) : Option (Ctl (Int × Nat) (Ctl Int Int)) :=
  cond (decide (((l4_m5 : Nat) : Int) < ((a0.length : Nat) : Int)))
  (Option.bind (a0[l4_m5]?) fun x10 =>
  Option.bind (L_laws_heldIntS x10 l4_m1) fun y11 =>
  cond (decide (y11 < 0))
    (some (Ctl.out (Ctl.out (-1))))
    (og (l4_m5 + 1 < 4611686018427387904) <|
    some (Ctl.next (y11, l4_m5 + 1))))
  (some (Ctl.out (Ctl.next l4_m1)))
def L_laws_heldIntSS (a0 : List (List Int)) (a1 : Int) : Option Int :=
  seqC (loopM (fun s_ : Int × Nat => L_laws_heldIntSS_l1 a0 s_.1 s_.2) 4611686018427387904 (a1, 0)) fun l2_m1 =>
some l2_m1
def rv_laws_heldIntSS (r : Int) : RV := ⟨false, [(false, [.sc (.int .i64 r)])]⟩
theorem ok_laws_heldIntSS {a0 : List (List Int)} {a1 : Int} {r : Int} (h : L_laws_heldIntSS a0 a1 = some r) : CallOK Tryd.prog Tab 31 [(.tree (.slice .int) a0), (ai a1)] (rv_laws_heldIntSS r) := by
  refine call_of_ (by kernel_rfl) Tryd.func31 c_laws_heldIntSS (n := 21) (by kernel_rfl) (by simp) (tl := [(0, (.tree (.slice .int) a0)), (1, (ai a1))]) rfl ?_
  unfold m_laws_heldIntSS
  unfold L_laws_heldIntSS at h
  refine seqR ?_
  refine awp_seqC h (fun (l2_m1 : Int) S_ => S_ = ⟨mkTm [(1, (ai l2_m1))], mkOb (someL []), 2⟩) ?_ ?_
  · intro v_ h hk2
    refine seqR ?_
    refine awp_block_ ?_
    refine awp_loopL h (fun t_ S_ => ∃ (l4_m1 : Int), ∃ (l4_m5 : Nat), t_ = (l4_m1, l4_m5) ∧ S_ = ⟨mkTm [(0, (.tree (.slice .int) a0)), (1, (ai l4_m1)), (5, (ai ((l4_m5 : Nat) : Int)))], mkOb (someL []), 2⟩) ⟨_, (weak_ren []), ⟨a1, 0, rfl, rfl⟩⟩ ?_
    rintro n_ _ _ c_ ⟨l4_m1, l4_m5, rfl, rfl⟩ h hn4
    (try dsimp only at h)
    unfold L_laws_heldIntSS_l1 at h
    unfold m_laws_heldIntSS_l1
    refine awp_seqv_ ?_
    refine seqR ?_
    rcases cond_some h with ⟨q7, h⟩ | ⟨q7, h⟩
    · have q7_ := of_decide_eq_true q7
      refine awp_condT_ q7 ?_
      refine awp_skip_ (tn_ ?_)
      refine ⟨_, Weak.refl _, ?_⟩
      refine awp_seqv_ ?_
      refine awp_block_ ?_
      refine awp_seqv_ ?_
      obtain ⟨x10, e10, h⟩ := ob_some h
      obtain ⟨y11, h11, h⟩ := ob_some h
      refine awp_region_ 13 ?_
      refine rs0 (.tree (.slice .int) a0) (by kernel_rfl) ?_
      refine rs0 (ai ((l4_m5 : Nat) : Int)) (by kernel_rfl) ?_
      refine rs0 (.telt (.slice .int) x10 0) (s_idxT (t := (.slice .int)) (xs := a0) (k := .i64) (m := ((l4_m5 : Nat) : Int)) (by kernel_rfl) (by kernel_rfl) rfl (nat_nn _) rfl e10) ?_
      refine rs0 (.tree .int x10) (by kernel_rfl) ?_
      refine rs0 (ai l4_m1) (by kernel_rfl) ?_
      refine rcall (ai y11) [] [(.tree .int x10), (ai l4_m1)] _ (caps := []) (args0 := [(.tree .int x10), (ai l4_m1)]) trivial (by kernel_rfl) (ok_laws_heldIntS h11) hb_laws_heldIntS ?_
      refine rsB 1 ?_
      refine rnil (tn_ ?_)
      refine ⟨_, Weak.refl _, ?_⟩
      refine seqR ?_
      rcases cond_some h with ⟨q13, h⟩ | ⟨q13, h⟩
      · have q13_ := of_decide_eq_true q13
        refine awp_condT_ q13 ?_
        refine seqR ?_
        refine awp_ret_ (br_ (tr_ (tr_ (br_ (tr_ ?_)))))
        obtain rfl := Option.some.inj h
        have h := hn4
        (try dsimp only at h)
        obtain rfl := Option.some.inj h
        have h := hk2
        (try dsimp only at h)
        obtain rfl := Option.some.inj h
        exact ret_ [(ai (-1))] (p_one rfl (l_sc (by kernel_rfl)) p_nil)
      have q13_ := of_decide_eq_false q13
      refine awp_condF_ q13 ?_
      refine awp_skip_ (bn_ (tn_ ?_))
      refine ⟨_, Weak.refl _, ?_⟩
      obtain ⟨g15, h⟩ := og_some h
      refine awp_region_ 18 ?_
      refine rs0 (ai ((l4_m5 : Nat) : Int)) (by kernel_rfl) ?_
      refine rs0 (ai ((l4_m5 + 1 : Nat) : Int)) (s_add1 (j := l4_m5) (by kernel_rfl) (by kernel_rfl) g15) ?_
      refine rsB 1 ?_
      refine rnil (tn_ ?_)
      obtain rfl := Option.some.inj h
      exact ⟨(y11, l4_m5 + 1), _, (weak_ren []), ⟨y11, l4_m5 + 1, rfl, rfl⟩, hn4⟩
    have q7_ := of_decide_eq_false q7
    refine awp_condF_ q7 ?_
    refine awp_exit_ (te_ (te_ (be_ (tn_ ?_))))
    obtain rfl := Option.some.inj h
    have h := hn4
    (try dsimp only at h)
    obtain rfl := Option.some.inj h
    exact ⟨l4_m1, _, rfl, (weak_ren []), rfl⟩
  rintro l2_m1 _ rfl h
  (try dsimp only at h)
  refine seqR ?_
  refine awp_ret_ ?_
  obtain rfl := Option.some.inj h
  exact ret_ [(ai l2_m1)] (p_one rfl (l_sc (by kernel_rfl)) p_nil)
end Go.Proofs.YtomijolkdmaimaaDoor
