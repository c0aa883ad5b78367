/- Partial functions in place of code, and that the code does what they say: MB. No condition. -/
import Derived.Test.YtefolocdfgelcaaDoorNB
namespace Go.Proofs.YtefolocdfgelcaaDoor
open Go.RowKit Go.Deep
set_option maxRecDepth 4000
def m_laws_eqIntSS_l1 : AC :=
  (.seq (.seq (rg [xo 11 (qm (tm 5)), xo 12 (qm (tm 0)), xo 13 (.i (.len (tm 12))), xo 14 (qb .lss (tm 11) (tm 13))])
  (.cond (tm 14)
    .skip
    (.exit 0)))
  (.seq (.block 1 (.seq (.region [xo 17 (qm (tm 0)), xo 18 (qm (tm 5)), xo 19 (qx 1 (tm 17) (tm 18)), xo 20 (ql (tm 19)), xo 21 (qm (tm 1)), xo 22 (qm (tm 5)), xo 23 (qx 1 (tm 21) (tm 22)), xo 24 (ql (tm 23)), xo 25 (qc 20 [(tm 20), (tm 24)] [[(some .int)], [(some .int)]]), xo 26 (.i (.not (tm 25)))] true [])
  (.cond (tm 26)
    (.seq (rg [xo 4 (qm (cb false))])
    .ret)
    .skip)))
  (rg [xo 15 (qm (tm 5)), xo 16 (qb .add (tm 15) (ci 1)), xo 5 (qm (tm 16))])))
def m_laws_eqIntSS : AC :=
  (.seq (rg [xo 4 (qm (cb false))])
  (.seq (.seq (rg [xo 6 (qm (tm 0)), xo 7 (.i (.len (tm 6))), xo 8 (qm (tm 1)), xo 9 (.i (.len (tm 8))), xo 10 (qb .neq (tm 7) (tm 9))])
  (.cond (tm 10)
    (.seq (rg [xo 4 (qm (cb false))])
    .ret)
    .skip))
  (.seq (.seq (rg [xo 5 (qm (ci 0))])
  (.block 0 (.loop m_laws_eqIntSS_l1)))
  (.seq (rg [xo 4 (qm (cb true))])
  .ret))))
def r_laws_eqIntSS : List Res := [.tmp 4]
theorem c_laws_eqIntSS : compiled Tryd.prog Tryd.f61 = some (m_laws_eqIntSS, r_laws_eqIntSS) := by kernel_rfl
theorem hb_laws_eqIntSS : hasBody Tryd.prog 61 = true := by kernel_rfl
def L_laws_eqIntSS_l1 (a0 : List (List Int)) (a1 : List (List Int)) (l8_m5 : Nat) : Option (Ctl Nat (Ctl Unit Bool)) :=
  cond (decide (((l8_m5 : Nat) : Int) < ((a0.length : Nat) : Int)))
  (Option.bind (a0[l8_m5]?) fun x14 =>
  Option.bind (a1[l8_m5]?) fun x15 =>
  Option.bind (L_laws_eqIntS x14 x15) fun y16 =>
  cond (!y16)
    (some (Ctl.out (Ctl.out false)))
    (og (l8_m5 + 1 < 4611686018427387904) <|
    some (Ctl.next (l8_m5 + 1))))
  (some (Ctl.out (Ctl.next ())))
def L_laws_eqIntSS (a0 : List (List Int)) (a1 : List (List Int)) : Option Bool :=
  cond (((a0.length : Nat) : Int) != ((a1.length : Nat) : Int))
  (some false)
  (seqC (loopM (fun s_ : Nat => L_laws_eqIntSS_l1 a0 a1 s_) 4611686018427387904 0) fun _ =>
  some true)
def rv_laws_eqIntSS (r : Bool) : RV := ⟨false, [(false, [.sc (.bool r)])]⟩
theorem ok_laws_eqIntSS {a0 : List (List Int)} {a1 : List (List Int)} {r : Bool} (h : L_laws_eqIntSS a0 a1 = some r) : CallOK Tryd.prog Tab 61 [(.tree (.slice .int) a0), (.tree (.slice .int) a1)] (rv_laws_eqIntSS r) := by
  refine call_of_ (by kernel_rfl) Tryd.func61 c_laws_eqIntSS (n := 27) (by kernel_rfl) (by simp) (tl := [(0, (.tree (.slice .int) a0)), (1, (.tree (.slice .int) a1))]) rfl ?_
  unfold m_laws_eqIntSS
  unfold L_laws_eqIntSS at h
  refine seqR ?_
  refine awp_seqv_ ?_
  refine seqR ?_
  rcases cond_some h with ⟨q4, h⟩ | ⟨q4, h⟩
  · refine awp_condT_ q4 ?_
    refine seqR ?_
    refine awp_ret_ (tr_ ?_)
    obtain rfl := Option.some.inj h
    exact ret_ [(.bool false)] (p_one rfl (l_sc (by kernel_rfl)) p_nil)
  refine awp_condF_ q4 ?_
  refine awp_skip_ (tn_ ?_)
  refine ⟨_, Weak.refl _, ?_⟩
  refine awp_seqC h (fun (_ : Unit) S_ => S_ = ⟨mkTm [], mkOb (someL []), 2⟩) ?_ ?_
  · intro v_ h hk6
    refine seqR ?_
    refine awp_block_ ?_
    refine awp_loopL h (fun (l8_m5 : Nat) S_ => S_ = ⟨mkTm [(0, (.tree (.slice .int) a0)), (1, (.tree (.slice .int) a1)), (5, (ai ((l8_m5 : Nat) : Int)))], mkOb (someL []), 2⟩) ⟨_, (weak_ren []), rfl⟩ ?_
    rintro n_ l8_m5 _ c_ rfl h hn8
    (try dsimp only at h)
    unfold L_laws_eqIntSS_l1 at h
    unfold m_laws_eqIntSS_l1
    refine awp_seqv_ ?_
    refine seqR ?_
    rcases cond_some h with ⟨q11, h⟩ | ⟨q11, h⟩
    · have q11_ := of_decide_eq_true q11
      refine awp_condT_ q11 ?_
      refine awp_skip_ (tn_ ?_)
      refine ⟨_, Weak.refl _, ?_⟩
      refine awp_seqv_ ?_
      refine awp_block_ ?_
      refine awp_seqv_ ?_
      obtain ⟨x14, e14, h⟩ := ob_some h
      obtain ⟨x15, e15, h⟩ := ob_some h
      obtain ⟨y16, h16, h⟩ := ob_some h
      refine awp_regionD_ 16 ?_
      refine ds0 (.tree (.slice .int) a0) (by kernel_rfl) ?_
      refine ds0 (ai ((l8_m5 : Nat) : Int)) (by kernel_rfl) ?_
      refine ds0 (.telt (.slice .int) x14 0) (s_idxT (t := (.slice .int)) (xs := a0) (k := .i64) (m := ((l8_m5 : Nat) : Int)) (by kernel_rfl) (by kernel_rfl) rfl (nat_nn _) rfl e14) ?_
      refine ds0 (.tree .int x14) (by kernel_rfl) ?_
      refine ds0 (.tree (.slice .int) a1) (by kernel_rfl) ?_
      refine ds0 (ai ((l8_m5 : Nat) : Int)) (by kernel_rfl) ?_
      refine ds0 (.telt (.slice .int) x15 0) (s_idxT (t := (.slice .int)) (xs := a1) (k := .i64) (m := ((l8_m5 : Nat) : Int)) (by kernel_rfl) (by kernel_rfl) rfl (nat_nn _) rfl e15) ?_
      refine ds0 (.tree .int x15) (by kernel_rfl) ?_
      refine dcall (.bool y16) [] [(.tree .int x14), (.tree .int x15)] _ (caps := []) (args0 := [(.tree .int x14), (.tree .int x15)]) trivial (by kernel_rfl) (ok_laws_eqIntS h16) hb_laws_eqIntS ?_
      refine ds0 (.bool (!y16)) (by kernel_rfl) ?_
      refine dnil (badB_spec (by kernel_rfl)) (tn_ ?_)
      refine ⟨_, Weak.refl _, ?_⟩
      rcases cond_some h with ⟨q17, h⟩ | ⟨q17, h⟩
      · refine awp_condT_ q17 ?_
        refine seqR ?_
        refine awp_ret_ (br_ (tr_ (tr_ (br_ (tr_ ?_)))))
        obtain rfl := Option.some.inj h
        have h := hn8
        (try dsimp only at h)
        obtain rfl := Option.some.inj h
        have h := hk6
        (try dsimp only at h)
        obtain rfl := Option.some.inj h
        exact ret_ [(.bool false)] (p_one rfl (l_sc (by kernel_rfl)) p_nil)
      refine awp_condF_ q17 ?_
      refine awp_skip_ (bn_ (tn_ ?_))
      refine ⟨_, Weak.refl _, ?_⟩
      obtain ⟨g19, h⟩ := og_some h
      refine awp_region_ 19 ?_
      refine rs0 (ai ((l8_m5 : Nat) : Int)) (by kernel_rfl) ?_
      refine rs0 (ai ((l8_m5 + 1 : Nat) : Int)) (s_add1 (j := l8_m5) (by kernel_rfl) (by kernel_rfl) g19) ?_
      refine rsB 1 ?_
      refine rnil (tn_ ?_)
      obtain rfl := Option.some.inj h
      exact ⟨l8_m5 + 1, _, (weak_ren []), rfl, hn8⟩
    have q11_ := of_decide_eq_false q11
    refine awp_condF_ q11 ?_
    refine awp_exit_ (te_ (te_ (be_ (tn_ ?_))))
    obtain rfl := Option.some.inj h
    have h := hn8
    (try dsimp only at h)
    obtain rfl := Option.some.inj h
    exact ⟨(), _, rfl, (weak_ren []), rfl⟩
  rintro _ _ rfl h
  (try dsimp only at h)
  refine seqR ?_
  refine awp_ret_ ?_
  obtain rfl := Option.some.inj h
  exact ret_ [(.bool true)] (p_one rfl (l_sc (by kernel_rfl)) p_nil)
def m_laws_eqMatrix : AC :=
  (.seq (rg [xo 2 (.i (.box 44 (tm 0))), xo 3 (.i (.box 44 (tm 1))), xo 4 (qm (cb false))])
  (.seq (.seq (rg [xo 5 (qf 0 (tm 2)), xo 6 (ql (tm 5)), xo 7 (qf 0 (tm 3)), xo 8 (ql (tm 7)), xo 9 (qb .neq (tm 6) (tm 8))])
  (.cond (tm 9)
    (.seq (rg [xo 4 (qm (cb false))])
    .ret)
    .skip))
  (.seq (.seq (rg [xo 10 (qf 1 (tm 2)), xo 11 (ql (tm 10)), xo 12 (qf 1 (tm 3)), xo 13 (ql (tm 12)), xo 14 (qc 61 [(tm 11), (tm 13)] [[(some (.slice .int))], [(some (.slice .int))]]), xo 15 (.i (.not (tm 14)))])
  (.cond (tm 15)
    (.seq (rg [xo 4 (qm (cb false))])
    .ret)
    .skip))
  (.seq (rg [xo 4 (qm (cb true))])
  .ret))))
def r_laws_eqMatrix : List Res := [.tmp 4]
theorem c_laws_eqMatrix : compiled Tryd.prog Tryd.f27 = some (m_laws_eqMatrix, r_laws_eqMatrix) := by kernel_rfl
theorem hb_laws_eqMatrix : hasBody Tryd.prog 27 = true := by kernel_rfl
def L_laws_eqMatrix (a0_0 : Int) (a0_1 : List (List Int)) (a1_0 : Int) (a1_1 : List (List Int)) : Option Bool :=
  cond (a0_0 != a1_0)
  (some false)
  (Option.bind (L_laws_eqIntSS a0_1 a1_1) fun y8 =>
  cond (!y8)
    (some false)
    (some true))
def rv_laws_eqMatrix (r : Bool) : RV := ⟨false, [(false, [.sc (.bool r)])]⟩
theorem ok_laws_eqMatrix {a0_0 : Int} {a0_1 : List (List Int)} {a1_0 : Int} {a1_1 : List (List Int)} {r : Bool} (h : L_laws_eqMatrix a0_0 a0_1 a1_0 a1_1 = some r) : CallOK Tryd.prog Tab 27 [(.agg [(ai a0_0), (.tree (.slice .int) a0_1)]), (.agg [(ai a1_0), (.tree (.slice .int) a1_1)])] (rv_laws_eqMatrix r) := by
  refine call_of_ (by kernel_rfl) Tryd.func27 c_laws_eqMatrix (n := 16) (by kernel_rfl) (by simp) (tl := [(0, (.agg [(ai a0_0), (.tree (.slice .int) a0_1)])), (1, (.agg [(ai a1_0), (.tree (.slice .int) a1_1)]))]) rfl ?_
  unfold m_laws_eqMatrix
  unfold L_laws_eqMatrix at h
  refine seqR ?_
  refine awp_seqv_ ?_
  refine seqR ?_
  rcases cond_some h with ⟨q4, h⟩ | ⟨q4, h⟩
  · refine awp_condT_ q4 ?_
    refine seqR ?_
    refine awp_ret_ (tr_ ?_)
    obtain rfl := Option.some.inj h
    exact ret_ [(.bool false)] (p_one rfl (l_sc (by kernel_rfl)) p_nil)
  refine awp_condF_ q4 ?_
  refine awp_skip_ (tn_ ?_)
  refine ⟨_, Weak.refl _, ?_⟩
  refine awp_seqv_ ?_
  refine awp_seqv_ ?_
  obtain ⟨y8, h8, h⟩ := ob_some h
  refine awp_region_ 15 ?_
  refine rs0 (.box (oi 2 1) 1) (by kernel_rfl) ?_
  refine rsl (.tree (.slice .int) a0_1) (by kernel_rfl) ?_
  refine rs0 (.box (oi 3 2) 1) (by kernel_rfl) ?_
  refine rsl (.tree (.slice .int) a1_1) (by kernel_rfl) ?_
  refine rcall (.bool y8) [] [(.tree (.slice .int) a0_1), (.tree (.slice .int) a1_1)] _ (caps := []) (args0 := [(.tree (.slice .int) a0_1), (.tree (.slice .int) a1_1)]) trivial (by kernel_rfl) (ok_laws_eqIntSS h8) hb_laws_eqIntSS ?_
  refine rsB 1 ?_
  refine rnil (tn_ ?_)
  refine ⟨_, Weak.refl _, ?_⟩
  rcases cond_some h with ⟨q9, h⟩ | ⟨q9, h⟩
  · refine awp_condT_ q9 ?_
    refine seqR ?_
    refine awp_ret_ (tr_ ?_)
    obtain rfl := Option.some.inj h
    exact ret_ [(.bool false)] (p_one rfl (l_sc (by kernel_rfl)) p_nil)
  refine awp_condF_ q9 ?_
  refine awp_skip_ (tn_ ?_)
  refine ⟨_, Weak.refl _, ?_⟩
  refine seqR ?_
  refine awp_ret_ ?_
  obtain rfl := Option.some.inj h
  exact ret_ [(.bool true)] (p_one rfl (l_sc (by kernel_rfl)) p_nil)
def m_laws_markIntSS_l1 : AC :=
  (.seq (.seq (rg [xo 6 (qm (tm 5)), xo 7 (qm (tm 0)), xo 8 (.i (.len (tm 7))), xo 9 (qb .lss (tm 6) (tm 8))])
  (.cond (tm 9)
    .skip
    (.exit 0)))
  (.seq (.block 1 (rg [xo 12 (qm (tm 0)), xo 13 (qm (tm 5)), xo 14 (qx 1 (tm 12) (tm 13)), xo 15 (ql (tm 14)), xo 16 (qm (tm 1)), xo 17 (qc 56 [(tm 15), (tm 16)] [[(some .int)], []]), xo 1 (qm (tm 17))]))
  (rg [xo 10 (qm (tm 5)), xo 11 (qb .add (tm 10) (ci 1)), xo 5 (qm (tm 11))])))
def m_laws_markIntSS : AC :=
  (.seq (rg [xo 4 (qm (ci 0))])
  (.seq (.seq (rg [xo 5 (qm (ci 0))])
  (.block 0 (.loop m_laws_markIntSS_l1)))
  (.seq (rg [xo 18 (qm (tm 1)), xo 4 (qm (tm 18))])
  .ret)))
def r_laws_markIntSS : List Res := [.tmp 4]
theorem c_laws_markIntSS : compiled Tryd.prog Tryd.f62 = some (m_laws_markIntSS, r_laws_markIntSS) := by kernel_rfl
theorem hb_laws_markIntSS : hasBody Tryd.prog 62 = true := by kernel_rfl
def L_laws_markIntSS_l1  (l5_m1 : Int) (l5_m5 : Nat) (l5_m0 : List (List Int)) : Option (Ctl (Int × Nat × List (List Int)) (Int × List (List Int))) :=
  cond (decide (((l5_m5 : Nat) : Int) < ((l5_m0.length : Nat) : Int)))
  (Option.bind (l5_m0[l5_m5]?) fun x10 =>
  Option.bind (L_laws_markIntS x10 l5_m1) fun y11 =>
  og (y11.1.length = x10.length) <|
  og (l5_m5 + 1 < 4611686018427387904) <|
  some (Ctl.next (y11.2, l5_m5 + 1, l5_m0.set l5_m5 y11.1)))
  (some (Ctl.out (l5_m1, l5_m0)))
def L_laws_markIntSS (a0 : List (List Int)) (a1 : Int) : Option (List (List Int) × Int) :=
  Option.bind (loopM (fun s_ : Int × Nat × List (List Int) => L_laws_markIntSS_l1 s_.1 s_.2.1 s_.2.2) 4611686018427387904 (a1, 0, a0)) fun (l3_m1, l3_p0) =>
some (l3_p0, l3_m1)
theorem ok_laws_markIntSS {a0 : List (List Int)} {a1 : Int} {r : List (List Int) × Int} (h : L_laws_markIntSS a0 a1 = some r) {n_a0 : Nat} (hn_a0 : n_a0 = a0.length) : CallM Tryd.prog Tab 62 [(.own (oi 0 0) (.slice .int) 0 n_a0), (ai a1)] [((oi 0 0), .mat 23 (oi 1 0) .int a0), ((oi 1 0), .pool 3 .int a0)] (ai r.2) [((oi 0 0), .mat 23 (oi 0 1) .int r.1), ((oi 0 1), .pool 3 .int r.1)] := by
  refine callM_of_ (by kernel_rfl) Tryd.func62 c_laws_markIntSS (n := 19) (by kernel_rfl) (by simp) (tl := [(0, (.own (oi 0 0) (.slice .int) 0 n_a0)), (1, (ai a1))]) rfl (by kernel_rfl) ⟨⟨3, (.tail _ (.head _))⟩, ⟨trivial, trivial⟩⟩ ⟨⟨3, (.tail _ (.head _))⟩, ⟨trivial, trivial⟩⟩ ?_
  unfold m_laws_markIntSS
  unfold L_laws_markIntSS at h
  refine seqR ?_
  refine awp_seqB h (fun t_ S_ => ∃ (l3_m1 : Int), ∃ (l3_p0 : List (List Int)), t_ = (l3_m1, l3_p0) ∧ S_ = ⟨mkTm [(1, (ai l3_m1))], mkOb (someL [((oi 0 0), .mat 23 (oi 0 1) .int l3_p0), ((oi 0 1), .pool 3 .int l3_p0)]), 2⟩) ?_ ?_
  · intro v_ h
    refine seqR ?_
    refine awp_block_ ?_
    refine awp_loopL h (fun t_ S_ => ∃ (l5_m1 : Int), ∃ (l5_m5 : Nat), ∃ (l5_m0 : List (List Int)), t_ = (l5_m1, l5_m5, l5_m0) ∧ S_ = ⟨mkTm [(0, (.own (oi 0 0) (.slice .int) 0 l5_m0.length)), (1, (ai l5_m1)), (5, (ai ((l5_m5 : Nat) : Int)))], mkOb (someL [((oi 0 0), .mat 23 (oi 0 1) .int l5_m0), ((oi 0 1), .pool 3 .int l5_m0)]), 2⟩) ⟨_, ((weak_tm_ 0 (.own (oi 0 0) (.slice .int) 0 n_a0) (.own (oi 0 0) (.slice .int) 0 a0.length) (by kernel_rfl) (congrArg (fun z_ => ((.own (oi 0 0) (.slice .int) 0 z_) : AV)) (hn_a0 : n_a0 = a0.length))).trans (weak_ren [((oi 0 1), (oi 1 0))])), ⟨a1, 0, a0, rfl, rfl⟩⟩ ?_
    rintro n_ _ _ c_ ⟨l5_m1, l5_m5, l5_m0, rfl, rfl⟩ h hn5
    (try dsimp only at h)
    unfold L_laws_markIntSS_l1 at h
    unfold m_laws_markIntSS_l1
    refine awp_seqv_ ?_
    refine seqR ?_
    rcases cond_some h with ⟨q8, h⟩ | ⟨q8, h⟩
    · have q8_ := of_decide_eq_true q8
      refine awp_condT_ q8 ?_
      refine awp_skip_ (tn_ ?_)
      refine ⟨_, Weak.refl _, ?_⟩
      refine awp_seqv_ ?_
      refine awp_block_ ?_
      obtain ⟨x10, e10, h⟩ := ob_some h
      obtain ⟨y11, h11, h⟩ := ob_some h
      obtain ⟨g12, h⟩ := og_some h
      refine awp_region_ 13 ?_
      refine rs0 (.own (oi 0 0) (.slice .int) 0 l5_m0.length) (by kernel_rfl) ?_
      refine rs0 (ai ((l5_m5 : Nat) : Int)) (by kernel_rfl) ?_
      refine rs0 (.elt (oi 0 0) l5_m5 0) (s_idxO (t := (.slice .int)) (o := (oi 0 0)) (len := l5_m0.length) (k := .i64) (m := ((l5_m5 : Nat) : Int)) (by kernel_rfl) (by kernel_rfl) rfl (nat_nn _) rfl (getN_lt e10)) ?_
      refine rsl (.own (kid (oi 0 1) l5_m5) .int 0 x10.length) (s_ldM (o := (oi 0 0)) (p := (oi 0 1)) (e1 := 23) (u := .int) (xss := l5_m0) (row := x10) (j := l5_m5) (by kernel_rfl) (by kernel_rfl) e10) ?_
      refine rs0 (ai l5_m1) (by kernel_rfl) ?_
      refine rcallM (ai y11.2) [((kid (oi 0 1) l5_m5), some (.arr 3 .int y11.1)), ((kid (oi 0 1) l5_m5), none)] [((oi 0 0), (kid (oi 0 1) l5_m5))] [(.own (kid (oi 0 1) l5_m5) .int 0 x10.length), (ai l5_m1)] (caps := []) trivial (ok_laws_markIntS h11 rfl) hb_laws_markIntS ⟨(entAt_kid (by kernel_rfl) e10), trivial⟩ (.cons (.ren (by kernel_rfl)) (.cons (.ren (by kernel_rfl)) .nil)) (reachL_mem (by kernel_rfl) (by kernel_rfl) ⟨(.arg (by simp [AV.nmsL, AV.nms, renF])), trivial⟩) ?_
      refine xw_ob (ob_row (o := (oi 0 0)) (p := (oi 0 1)) (e1 := 23) (e := 3) (u := .int) (xss := l5_m0) (k := l5_m5) (row := x10) (row' := y11.1) (by kernel_rfl) rfl (by kernel_rfl) e10 g12) ?_
      refine rsB 1 ?_
      refine rnil (bn_ (tn_ ?_))
      refine ⟨_, Weak.refl _, ?_⟩
      obtain ⟨g13, h⟩ := og_some h
      refine awp_region_ 16 ?_
      refine rs0 (ai ((l5_m5 : Nat) : Int)) (by kernel_rfl) ?_
      refine rs0 (ai ((l5_m5 + 1 : Nat) : Int)) (s_add1 (j := l5_m5) (by kernel_rfl) (by kernel_rfl) g13) ?_
      refine rsB 1 ?_
      refine rnil (tn_ ?_)
      obtain rfl := Option.some.inj h
      exact ⟨(y11.2, l5_m5 + 1, l5_m0.set l5_m5 y11.1), _, ((weak_tm_ 0 (.own (oi 0 0) (.slice .int) 0 l5_m0.length) (.own (oi 0 0) (.slice .int) 0 ((l5_m0.set l5_m5 y11.1).length)) (by kernel_rfl) (congrArg (fun z_ => ((.own (oi 0 0) (.slice .int) 0 z_) : AV)) ((Eq.trans (b := l5_m0.length) rfl List.length_set.symm) : l5_m0.length = (l5_m0.set l5_m5 y11.1).length))).trans (weak_ren [])), ⟨y11.2, l5_m5 + 1, l5_m0.set l5_m5 y11.1, rfl, rfl⟩, hn5⟩
    have q8_ := of_decide_eq_false q8
    refine awp_condF_ q8 ?_
    refine awp_exit_ (te_ (te_ (be_ (tn_ ?_))))
    obtain rfl := Option.some.inj h
    have h := hn5
    (try dsimp only at h)
    obtain rfl := Option.some.inj h
    exact ⟨_, (weak_ren []), ⟨l5_m1, l5_m0, rfl, rfl⟩⟩
  rintro _ _ ⟨l3_m1, l3_p0, rfl, rfl⟩ h
  (try dsimp only at h)
  refine seqR ?_
  refine awp_ret_ ?_
  obtain rfl := Option.some.inj h
  exact retM_ [(ai l3_m1)] (weak_ren (tl := [(4, (ai l3_m1))]) (g := 2) [])
def m_laws_markMatrix : AC :=
  (.seq (rg [xo 2 (.i (.box 44 (tm 0))), xo 4 (qm (ci 0))])
  (.seq (rg [xo 5 (qf 1 (tm 2)), xo 6 (ql (tm 5)), xo 7 (qm (tm 1)), xo 8 (qc 62 [(tm 6), (tm 7)] [[(some (.slice .int))], []]), xo 1 (qm (tm 8))])
  (.seq (rg [xo 9 (qm (tm 1)), xo 4 (qm (tm 9))])
  .ret)))
def r_laws_markMatrix : List Res := [.tmp 4]
theorem c_laws_markMatrix : compiled Tryd.prog Tryd.f28 = some (m_laws_markMatrix, r_laws_markMatrix) := by kernel_rfl
theorem hb_laws_markMatrix : hasBody Tryd.prog 28 = true := by kernel_rfl
def L_laws_markMatrix (a0_0 : Int) (a0_1 : List (List Int)) (a1 : Int) : Option (List (List Int) × Int) :=
  Option.bind (L_laws_markIntSS a0_1 a1) fun y4 =>
og (y4.1.length = (a0_1.length)) <|
some (y4.1, y4.2)
theorem ok_laws_markMatrix {a0_0 : Int} {a0_1 : List (List Int)} {a1 : Int} {r : List (List Int) × Int} (h : L_laws_markMatrix a0_0 a0_1 a1 = some r) {n_a0_1 : Nat} (hn_a0_1 : n_a0_1 = a0_1.length) : CallM Tryd.prog Tab 28 [(.agg [(ai a0_0), (.own (oi 0 0) (.slice .int) 0 n_a0_1)]), (ai a1)] [((oi 0 0), .mat 23 (oi 1 0) .int a0_1), ((oi 1 0), .pool 3 .int a0_1)] (ai r.2) [((oi 0 0), .mat 23 (oi 0 1) .int r.1), ((oi 0 1), .pool 3 .int r.1)] := by
  refine callM_of_ (by kernel_rfl) Tryd.func28 c_laws_markMatrix (n := 10) (by kernel_rfl) (by simp) (tl := [(0, (.agg [(ai a0_0), (.own (oi 0 0) (.slice .int) 0 n_a0_1)])), (1, (ai a1))]) rfl (by kernel_rfl) ⟨⟨3, (.tail _ (.head _))⟩, ⟨trivial, trivial⟩⟩ ⟨⟨3, (.tail _ (.head _))⟩, ⟨trivial, trivial⟩⟩ ?_
  unfold m_laws_markMatrix
  unfold L_laws_markMatrix at h
  (try rw [← hn_a0_1] at h)
  refine seqR ?_
  refine awp_seqv_ ?_
  obtain ⟨y4, h4, h⟩ := ob_some h
  obtain ⟨g5, h⟩ := og_some h
  refine awp_region_ 8 ?_
  refine rs0 (.box (oi 2 1) 1) (by kernel_rfl) ?_
  refine rsl (.own (oi 0 0) (.slice .int) 0 n_a0_1) (by kernel_rfl) ?_
  refine rs0 (ai a1) (by kernel_rfl) ?_
  refine rcallM (ai y4.2) [((oi 0 0), some (.mat 23 (oi 128 6) .int y4.1)), ((oi 128 6), some (.pool 3 .int y4.1)), ((oi 0 0), none), ((oi 1 0), some (.pool 3 .int []))] [] [(.own (oi 0 0) (.slice .int) 0 n_a0_1), (ai a1)] (caps := []) trivial (ok_laws_markIntSS h4 hn_a0_1) hb_laws_markIntSS ⟨(by kernel_rfl), ⟨(by kernel_rfl), trivial⟩⟩ (.cons (.ren (by kernel_rfl)) (.cons (.ren (by kernel_rfl)) .nil)) (reachL_mem (by kernel_rfl) (by kernel_rfl) ⟨(re_arg (by kernel_rfl)), ⟨re_rows (o := (oi 0 0)) (p := (oi 1 0)) (e1 := 23) (m := a0_1.length) (u := .int) (xss := a0_1) (re_arg (by kernel_rfl)) (by kernel_rfl), trivial⟩⟩) ?_
  refine rsB 1 ?_
  refine rnil (tn_ ?_)
  refine ⟨_, Weak.refl _, ?_⟩
  refine seqR ?_
  refine awp_ret_ ?_
  obtain rfl := Option.some.inj h
  exact retM_ [(ai y4.2)] (weak_ren (tl := [(4, (ai y4.2))]) (g := 2) [((oi 0 1), (oi 128 6))])
def m_laws_heldIntSS_l1 : AC :=
  (.seq (.seq (rg [xo 6 (qm (tm 5)), xo 7 (qm (tm 0)), xo 8 (.i (.len (tm 7))), xo 9 (qb .lss (tm 6) (tm 8))])
  (.cond (tm 9)
    .skip
    (.exit 0)))
  (.seq (.block 1 (.seq (rg [xo 12 (qm (tm 0)), xo 13 (qm (tm 5)), xo 14 (qx 1 (tm 12) (tm 13)), xo 15 (ql (tm 14)), xo 16 (qm (tm 1)), xo 17 (qc 58 [(tm 15), (tm 16)] [[(some .int)], []]), xo 1 (qm (tm 17))])
  (.seq (rg [xo 18 (qm (tm 1)), xo 19 (qb .lss (tm 18) (ci 0))])
  (.cond (tm 19)
    (.seq (rg [xo 4 (qm (ci (-1)))])
    .ret)
    .skip))))
  (rg [xo 10 (qm (tm 5)), xo 11 (qb .add (tm 10) (ci 1)), xo 5 (qm (tm 11))])))
def m_laws_heldIntSS : AC :=
  (.seq (rg [xo 4 (qm (ci 0))])
  (.seq (.seq (rg [xo 5 (qm (ci 0))])
  (.block 0 (.loop m_laws_heldIntSS_l1)))
  (.seq (rg [xo 20 (qm (tm 1)), xo 4 (qm (tm 20))])
  .ret)))
def r_laws_heldIntSS : List Res := [.tmp 4]
theorem c_laws_heldIntSS : compiled Tryd.prog Tryd.f63 = some (m_laws_heldIntSS, r_laws_heldIntSS) := by kernel_rfl
theorem hb_laws_heldIntSS : hasBody Tryd.prog 63 = true := by kernel_rfl
def L_laws_heldIntSS_l1 (a0 : List (List Int)) (l4_m1 : Int) (l4_m5 : Nat) : Option (Ctl (Int × Nat) (Ctl Int Int)) :=
  cond (decide (((l4_m5 : Nat) : Int) < ((a0.length : Nat) : Int)))
  (Option.bind (a0[l4_m5]?) fun x10 =>
  Option.bind (L_laws_heldIntS x10 l4_m1) fun y11 =>
  cond (decide (y11 < 0))
    (some (Ctl.out (Ctl.out (-1))))
    (og (l4_m5 + 1 < 4611686018427387904) <|
    some (Ctl.next (y11, l4_m5 + 1))))
  (some (Ctl.out (Ctl.next l4_m1)))
def L_laws_heldIntSS (a0 : List (List Int)) (a1 : Int) : Option Int :=
  seqC (loopM (fun s_ : Int × Nat => L_laws_heldIntSS_l1 a0 s_.1 s_.2) 4611686018427387904 (a1, 0)) fun l2_m1 =>
some l2_m1
def rv_laws_heldIntSS (r : Int) : RV := ⟨false, [(false, [.sc (.int .i64 r)])]⟩
theorem ok_laws_heldIntSS {a0 : List (List Int)} {a1 : Int} {r : Int} (h : L_laws_heldIntSS a0 a1 = some r) : CallOK Tryd.prog Tab 63 [(.tree (.slice .int) a0), (ai a1)] (rv_laws_heldIntSS r) := by
  refine call_of_ (by kernel_rfl) Tryd.func63 c_laws_heldIntSS (n := 21) (by kernel_rfl) (by simp) (tl := [(0, (.tree (.slice .int) a0)), (1, (ai a1))]) rfl ?_
  unfold m_laws_heldIntSS
  unfold L_laws_heldIntSS at h
  refine seqR ?_
  refine awp_seqC h (fun (l2_m1 : Int) S_ => S_ = ⟨mkTm [(1, (ai l2_m1))], mkOb (someL []), 2⟩) ?_ ?_
  · intro v_ h hk2
    refine seqR ?_
    refine awp_block_ ?_
    refine awp_loopL h (fun t_ S_ => ∃ (l4_m1 : Int), ∃ (l4_m5 : Nat), t_ = (l4_m1, l4_m5) ∧ S_ = ⟨mkTm [(0, (.tree (.slice .int) a0)), (1, (ai l4_m1)), (5, (ai ((l4_m5 : Nat) : Int)))], mkOb (someL []), 2⟩) ⟨_, (weak_ren []), ⟨a1, 0, rfl, rfl⟩⟩ ?_
    rintro n_ _ _ c_ ⟨l4_m1, l4_m5, rfl, rfl⟩ h hn4
    (try dsimp only at h)
    unfold L_laws_heldIntSS_l1 at h
    unfold m_laws_heldIntSS_l1
    refine awp_seqv_ ?_
    refine seqR ?_
    rcases cond_some h with ⟨q7, h⟩ | ⟨q7, h⟩
    · have q7_ := of_decide_eq_true q7
      refine awp_condT_ q7 ?_
      refine awp_skip_ (tn_ ?_)
      refine ⟨_, Weak.refl _, ?_⟩
      refine awp_seqv_ ?_
      refine awp_block_ ?_
      refine awp_seqv_ ?_
      obtain ⟨x10, e10, h⟩ := ob_some h
      obtain ⟨y11, h11, h⟩ := ob_some h
      refine awp_region_ 13 ?_
      refine rs0 (.tree (.slice .int) a0) (by kernel_rfl) ?_
      refine rs0 (ai ((l4_m5 : Nat) : Int)) (by kernel_rfl) ?_
      refine rs0 (.telt (.slice .int) x10 0) (s_idxT (t := (.slice .int)) (xs := a0) (k := .i64) (m := ((l4_m5 : Nat) : Int)) (by kernel_rfl) (by kernel_rfl) rfl (nat_nn _) rfl e10) ?_
      refine rs0 (.tree .int x10) (by kernel_rfl) ?_
      refine rs0 (ai l4_m1) (by kernel_rfl) ?_
      refine rcall (ai y11) [] [(.tree .int x10), (ai l4_m1)] _ (caps := []) (args0 := [(.tree .int x10), (ai l4_m1)]) trivial (by kernel_rfl) (ok_laws_heldIntS h11) hb_laws_heldIntS ?_
      refine rsB 1 ?_
      refine rnil (tn_ ?_)
      refine ⟨_, Weak.refl _, ?_⟩
      refine seqR ?_
      rcases cond_some h with ⟨q13, h⟩ | ⟨q13, h⟩
      · have q13_ := of_decide_eq_true q13
        refine awp_condT_ q13 ?_
        refine seqR ?_
        refine awp_ret_ (br_ (tr_ (tr_ (br_ (tr_ ?_)))))
        obtain rfl := Option.some.inj h
        have h := hn4
        (try dsimp only at h)
        obtain rfl := Option.some.inj h
        have h := hk2
        (try dsimp only at h)
        obtain rfl := Option.some.inj h
        exact ret_ [(ai (-1))] (p_one rfl (l_sc (by kernel_rfl)) p_nil)
      have q13_ := of_decide_eq_false q13
      refine awp_condF_ q13 ?_
      refine awp_skip_ (bn_ (tn_ ?_))
      refine ⟨_, Weak.refl _, ?_⟩
      obtain ⟨g15, h⟩ := og_some h
      refine awp_region_ 18 ?_
      refine rs0 (ai ((l4_m5 : Nat) : Int)) (by kernel_rfl) ?_
      refine rs0 (ai ((l4_m5 + 1 : Nat) : Int)) (s_add1 (j := l4_m5) (by kernel_rfl) (by kernel_rfl) g15) ?_
      refine rsB 1 ?_
      refine rnil (tn_ ?_)
      obtain rfl := Option.some.inj h
      exact ⟨(y11, l4_m5 + 1), _, (weak_ren []), ⟨y11, l4_m5 + 1, rfl, rfl⟩, hn4⟩
    have q7_ := of_decide_eq_false q7
    refine awp_condF_ q7 ?_
    refine awp_exit_ (te_ (te_ (be_ (tn_ ?_))))
    obtain rfl := Option.some.inj h
    have h := hn4
    (try dsimp only at h)
    obtain rfl := Option.some.inj h
    exact ⟨l4_m1, _, rfl, (weak_ren []), rfl⟩
  rintro l2_m1 _ rfl h
  (try dsimp only at h)
  refine seqR ?_
  refine awp_ret_ ?_
  obtain rfl := Option.some.inj h
  exact ret_ [(ai l2_m1)] (p_one rfl (l_sc (by kernel_rfl)) p_nil)
def m_laws_heldMatrix : AC :=
  (.seq (rg [xo 2 (.i (.box 44 (tm 0))), xo 4 (qm (ci 0))])
  (.seq (rg [xo 5 (qf 1 (tm 2)), xo 6 (ql (tm 5)), xo 7 (qm (tm 1)), xo 8 (qc 63 [(tm 6), (tm 7)] [[(some (.slice .int))], []]), xo 1 (qm (tm 8))])
  (.seq (.seq (rg [xo 9 (qm (tm 1)), xo 10 (qb .lss (tm 9) (ci 0))])
  (.cond (tm 10)
    (.seq (rg [xo 4 (qm (ci (-1)))])
    .ret)
    .skip))
  (.seq (rg [xo 11 (qm (tm 1)), xo 4 (qm (tm 11))])
  .ret))))
def r_laws_heldMatrix : List Res := [.tmp 4]
theorem c_laws_heldMatrix : compiled Tryd.prog Tryd.f29 = some (m_laws_heldMatrix, r_laws_heldMatrix) := by kernel_rfl
theorem hb_laws_heldMatrix : hasBody Tryd.prog 29 = true := by kernel_rfl
def L_laws_heldMatrix (a0_0 : Int) (a0_1 : List (List Int)) (a1 : Int) : Option Int :=
  Option.bind (L_laws_heldIntSS a0_1 a1) fun y3 =>
cond (decide (y3 < 0))
  (some (-1))
  (some y3)
def rv_laws_heldMatrix (r : Int) : RV := ⟨false, [(false, [.sc (.int .i64 r)])]⟩
theorem ok_laws_heldMatrix {a0_0 : Int} {a0_1 : List (List Int)} {a1 : Int} {r : Int} (h : L_laws_heldMatrix a0_0 a0_1 a1 = some r) : CallOK Tryd.prog Tab 29 [(.agg [(ai a0_0), (.tree (.slice .int) a0_1)]), (ai a1)] (rv_laws_heldMatrix r) := by
  refine call_of_ (by kernel_rfl) Tryd.func29 c_laws_heldMatrix (n := 12) (by kernel_rfl) (by simp) (tl := [(0, (.agg [(ai a0_0), (.tree (.slice .int) a0_1)])), (1, (ai a1))]) rfl ?_
  unfold m_laws_heldMatrix
  unfold L_laws_heldMatrix at h
  refine seqR ?_
  refine awp_seqv_ ?_
  obtain ⟨y3, h3, h⟩ := ob_some h
  refine awp_region_ 8 ?_
  refine rs0 (.box (oi 2 1) 1) (by kernel_rfl) ?_
  refine rsl (.tree (.slice .int) a0_1) (by kernel_rfl) ?_
  refine rs0 (ai a1) (by kernel_rfl) ?_
  refine rcall (ai y3) [] [(.tree (.slice .int) a0_1), (ai a1)] _ (caps := []) (args0 := [(.tree (.slice .int) a0_1), (ai a1)]) trivial (by kernel_rfl) (ok_laws_heldIntSS h3) hb_laws_heldIntSS ?_
  refine rsB 1 ?_
  refine rnil (tn_ ?_)
  refine ⟨_, Weak.refl _, ?_⟩
  refine awp_seqv_ ?_
  refine seqR ?_
  rcases cond_some h with ⟨q6, h⟩ | ⟨q6, h⟩
  · have q6_ := of_decide_eq_true q6
    refine awp_condT_ q6 ?_
    refine seqR ?_
    refine awp_ret_ (tr_ ?_)
    obtain rfl := Option.some.inj h
    exact ret_ [(ai (-1))] (p_one rfl (l_sc (by kernel_rfl)) p_nil)
  have q6_ := of_decide_eq_false q6
  refine awp_condF_ q6 ?_
  refine awp_skip_ (tn_ ?_)
  refine ⟨_, Weak.refl _, ?_⟩
  refine seqR ?_
  refine awp_ret_ ?_
  obtain rfl := Option.some.inj h
  exact ret_ [(ai y3)] (p_one rfl (l_sc (by kernel_rfl)) p_nil)
def m_spec_mxZero_l1 : AC :=
  (.seq (rg [xo 15 (qb .lss (tm 14) (tm 13))])
  (.seq (.cond (tm 15)
    .skip
    (.exit 0))
  (.seq (.block 1 (.seq (rg [xo 16 (qm (tm 14)), xo 6 (qm (tm 16))])
  (.region [xo 17 (qf 1 (tm 5)), xo 18 (ql (tm 17)), xo 19 (qm (tm 6)), xo 20 (qm (tm 1)), xo 21 (.make 3 .int 8 (tm 20) (tm 20)), xo 22 (qx 1 (tm 18) (tm 19)), xn (qs (tm 22) (tm 21))] true [])))
  (rg [xo 23 (qb .add (tm 14) (ci 1)), xo 14 (qm (tm 23))]))))
def m_spec_mxZero : AC :=
  (.seq (rg [xo 4 (.i (.alloc 44 [(.int .i64 0), .nils]))])
  (.seq (rg [xo 7 (qm (tm 1)), xo 8 (qm (tm 0)), xo 9 (.makeV 23 (.slice .int) 24 [.nils] (tm 8) (tm 8)), xo 10 (.build [(.int .i64 0), .nils] [(0, 1, (tm 7)), (1, 1, (tm 9))]), xo 5 (.i (.alloc 44 [(.int .i64 0), .nils])), xn (.st false 2 (tm 5) (tm 10))])
  (.seq (.seq (rg [xo 11 (qf 1 (tm 5)), xo 12 (ql (tm 11)), xo 13 (.i (.len (tm 12))), xo 14 (qm (ci 0))])
  (.block 0 (.loop m_spec_mxZero_l1)))
  (.seq (rg [xo 24 (.i (.ld false 2 (tm 5))), xn (.st false 2 (tm 4) (tm 24))])
  .ret))))
def r_spec_mxZero : List Res := [.cell 4 false 2]
theorem c_spec_mxZero : compiled Tryd.prog Tryd.f96 = some (m_spec_mxZero, r_spec_mxZero) := by kernel_rfl
theorem hb_spec_mxZero : hasBody Tryd.prog 96 = true := by kernel_rfl
def L_spec_mxZero_l1 (a0 : Int) (a1 : Int) (l7_m14 : Nat) (l7_m5_1 : List (List Int)) : Option (Ctl (Nat × List (List Int)) (List (List Int))) :=
  cond (decide (((l7_m14 : Nat) : Int) < ((a0.toNat : Nat) : Int)))
  (og (0 ≤ a1 ∧ a1 ≤ a1 ∧ a1 ≤ 1073741824 ∧ (8 : Int) * a1 ≤ 140737488355328) <|
  Option.bind (l7_m5_1[l7_m14]?) fun x14 =>
  og (l7_m14 + 1 < 4611686018427387904) <|
  some (Ctl.next (l7_m14 + 1, l7_m5_1.set l7_m14 (List.replicate a1.toNat (0 : Int)))))
  (some (Ctl.out l7_m5_1))
def L_spec_mxZero (a0 : Int) (a1 : Int) : Option (List (List Int)) :=
  og (0 ≤ a0 ∧ a0 ≤ a0 ∧ a0 ≤ 1073741824 ∧ (24 : Int) * a0 ≤ 140737488355328) <|
Option.bind (loopM (fun s_ : Nat × List (List Int) => L_spec_mxZero_l1 a0 a1 s_.1 s_.2) 4611686018427387904 (0, List.replicate a0.toNat ([] : List Int))) fun l5_m5_1 =>
some l5_m5_1
theorem ok_spec_mxZero {a0 : Int} {a1 : Int} {r : List (List Int)} (h : L_spec_mxZero a0 a1 = some r) : CallM Tryd.prog Tab 96 [(ai a0), (ai a1)] [] (.agg [(ai a1), (.own (oi 1 1) (.slice .int) 0 r.length)]) [((oi 0 1), .cells 44 [(ai a1), (.own (oi 1 1) (.slice .int) 0 r.length)]), ((oi 1 1), .mat 23 (oi 2 1) .int r), ((oi 2 1), .pool 3 .int r)] := by
  refine callM_of_ (by kernel_rfl) Tryd.func96 c_spec_mxZero (n := 25) (by kernel_rfl) (by simp) (tl := [(0, (ai a0)), (1, (ai a1))]) rfl (by kernel_rfl) trivial ⟨trivial, ⟨⟨3, (.tail _ (.tail _ (.head _)))⟩, ⟨trivial, trivial⟩⟩⟩ ?_
  unfold m_spec_mxZero
  unfold L_spec_mxZero at h
  refine seqR ?_
  refine awp_seqv_ ?_
  obtain ⟨g4, h⟩ := og_some h
  refine awp_region_ 8 ?_
  refine rs0 (ai a1) (by kernel_rfl) ?_
  refine rs0 (ai a0) (by kernel_rfl) ?_
  refine rmakeM (.own (oi 144 4) (.slice .int) 0 a0.toNat) (oi 144 4) 23 3 .int (List.replicate a0.toNat ([] : List Int)) trivial (s_makeM (j := a0.toNat) (k := .i64) (k' := .i64) (m := a0) (c := a0) 3 (by kernel_rfl) (by kernel_rfl) g4 (by kernel_rfl) rfl) (by kernel_rfl) (by rw [List.length_replicate]) (by kernel_rfl) ?_
  refine rsB 3 ?_
  refine rnil (tn_ ?_)
  refine ⟨_, Weak.refl _, ?_⟩
  refine awp_seqB h (fun (l5_m5_1 : List (List Int)) S_ => S_ = ⟨mkTm [(4, (.box (oi 0 1) 0)), (5, (.box (oi 1 1) 0))], mkOb (someL [((oi 0 1), .cells 44 [(ai 0), .nils]), ((oi 1 1), .cells 44 [(ai a1), (.own (oi 2 1) (.slice .int) 0 l5_m5_1.length)]), ((oi 2 1), .mat 23 (oi 3 1) .int l5_m5_1), ((oi 3 1), .pool 3 .int l5_m5_1)]), 2⟩) ?_ ?_
  · intro v_ h
    refine seqR ?_
    refine awp_block_ ?_
    refine awp_loopL h (fun t_ S_ => ∃ (l7_m14 : Nat), ∃ (l7_m5_1 : List (List Int)), t_ = (l7_m14, l7_m5_1) ∧ S_ = ⟨mkTm [(1, (ai a1)), (4, (.box (oi 0 1) 0)), (5, (.box (oi 1 1) 0)), (13, (ai ((a0.toNat : Nat) : Int))), (14, (ai ((l7_m14 : Nat) : Int)))], mkOb (someL [((oi 0 1), .cells 44 [(ai 0), .nils]), ((oi 1 1), .cells 44 [(ai a1), (.own (oi 2 1) (.slice .int) 0 l7_m5_1.length)]), ((oi 2 1), .mat 23 (oi 3 1) .int l7_m5_1), ((oi 3 1), .pool 3 .int l7_m5_1)]), 2⟩) ⟨_, ((weak_ob_ (oi 5 6) (.cells 44 [(ai a1), (.own (oi 144 4) (.slice .int) 0 a0.toNat)]) (.cells 44 [(ai a1), (.own (oi 144 4) (.slice .int) 0 ((List.replicate a0.toNat ([] : List Int)).length))]) (by kernel_rfl) (congrArg (fun z_ => (.cells 44 [(ai a1), (.own (oi 144 4) (.slice .int) 0 z_)] : Ob)) (List.length_replicate.symm : a0.toNat = (List.replicate a0.toNat ([] : List Int)).length))).trans (weak_ren [((oi 0 1), (oi 4 1)), ((oi 1 1), (oi 5 6)), ((oi 2 1), (oi 144 4)), ((oi 3 1), (oi 144 4))])), ⟨0, List.replicate a0.toNat ([] : List Int), rfl, rfl⟩⟩ ?_
    rintro n_ _ _ c_ ⟨l7_m14, l7_m5_1, rfl, rfl⟩ h hn7
    (try dsimp only at h)
    unfold L_spec_mxZero_l1 at h
    unfold m_spec_mxZero_l1
    refine seqR ?_
    refine awp_seqv_ ?_
    rcases cond_some h with ⟨q10, h⟩ | ⟨q10, h⟩
    · have q10_ := of_decide_eq_true q10
      refine awp_condT_ q10 ?_
      refine awp_skip_ (tn_ ?_)
      refine ⟨_, Weak.refl _, ?_⟩
      refine awp_seqv_ ?_
      refine awp_block_ ?_
      refine seqR ?_
      obtain ⟨g13, h⟩ := og_some h
      obtain ⟨x14, e14, h⟩ := ob_some h
      refine awp_regionD_ 12 ?_
      refine ds0 (.box (oi 1 1) 1) (by kernel_rfl) ?_
      refine dsl (.own (oi 2 1) (.slice .int) 0 l7_m5_1.length) (by kernel_rfl) ?_
      refine ds0 (ai ((l7_m14 : Nat) : Int)) (by kernel_rfl) ?_
      refine ds0 (ai a1) (by kernel_rfl) ?_
      refine ds1 (.own (oi 21 9) .int 0 a1.toNat) (oi 21 9) (.arr 3 .int (List.replicate a1.toNat (0 : Int))) (s_make (t := .int) (k := .i64) (k' := .i64) (m := a1) (m' := a1) (by kernel_rfl) (by kernel_rfl) g13 rfl) ?_
      refine ds0 (.elt (oi 2 1) l7_m14 0) (s_idxO (t := (.slice .int)) (o := (oi 2 1)) (len := l7_m5_1.length) (k := .i64) (m := ((l7_m14 : Nat) : Int)) (by kernel_rfl) (by kernel_rfl) rfl (nat_nn _) rfl (getN_lt e14)) ?_
      refine dsn2 (oi 2 1) (oi 2 1) (.vec 23 1 l7_m5_1.length ((hdL (oi 3 1) .int l7_m5_1).set l7_m14 (.own (oi 21 9) .int 0 a1.toNat))) (s_stV (o := (oi 2 1)) (e1 := 23) (m := l7_m5_1.length) (cs := hdL (oi 3 1) .int l7_m5_1) (v := (.own (oi 21 9) .int 0 a1.toNat)) (j := l7_m14) (by kernel_rfl) (by kernel_rfl) (by kernel_rfl) rfl (by rw [hdL_len]; exact getN_lt e14)) ?_
      refine dnil (badB_spec (by kernel_rfl)) (bn_ (tn_ ?_))
      refine ⟨_, weak_set_ (e1 := 23) (e := 3) (u := .int) (n := l7_m5_1.length) (len := a1.toNat) (row := List.replicate a1.toNat (0 : Int)) (ys := List.replicate a1.toNat (0 : Int)) (xss := l7_m5_1) (j := l7_m14) 9000 (oi 2 1) (oi 3 1) (oi 21 9) (by kernel_rfl) (by kernel_rfl) rfl (by kernel_rfl) (by kernel_rfl) (tw_le List.length_replicate.symm) (tw_eq List.length_replicate.symm) (by kernel_rfl) (by kernel_rfl) (by kernel_rfl), ?_⟩
      obtain ⟨g15, h⟩ := og_some h
      refine awp_region_ 15 ?_
      refine rs0 (ai ((l7_m14 + 1 : Nat) : Int)) (s_add1 (j := l7_m14) (by kernel_rfl) (by kernel_rfl) g15) ?_
      refine rsB 1 ?_
      refine rnil (tn_ ?_)
      obtain rfl := Option.some.inj h
      exact ⟨(l7_m14 + 1, l7_m5_1.set l7_m14 (List.replicate a1.toNat (0 : Int))), _, ((weak_ob_ (oi 1 1) (.cells 44 [(ai a1), (.own (oi 2 1) (.slice .int) 0 l7_m5_1.length)]) (.cells 44 [(ai a1), (.own (oi 2 1) (.slice .int) 0 ((l7_m5_1.set l7_m14 (List.replicate a1.toNat (0 : Int))).length))]) (by kernel_rfl) (congrArg (fun z_ => (.cells 44 [(ai a1), (.own (oi 2 1) (.slice .int) 0 z_)] : Ob)) ((Eq.trans (b := l7_m5_1.length) rfl List.length_set.symm) : l7_m5_1.length = (l7_m5_1.set l7_m14 (List.replicate a1.toNat (0 : Int))).length))).trans (weak_ren [((oi 3 1), (oi 9000 12))])), ⟨l7_m14 + 1, l7_m5_1.set l7_m14 (List.replicate a1.toNat (0 : Int)), rfl, rfl⟩, hn7⟩
    have q10_ := of_decide_eq_false q10
    refine awp_condF_ q10 ?_
    refine awp_exit_ (te_ (te_ (be_ (tn_ ?_))))
    obtain rfl := Option.some.inj h
    have h := hn7
    (try dsimp only at h)
    obtain rfl := Option.some.inj h
    exact ⟨_, (weak_ren []), rfl⟩
  rintro l5_m5_1 _ rfl h
  (try dsimp only at h)
  refine seqR ?_
  refine awp_ret_ ?_
  obtain rfl := Option.some.inj h
  exact retM_ [(.agg [(ai a1), (.own (oi 1 1) (.slice .int) 0 l5_m5_1.length)])] (weak_ren (tl := [(4, (.box (oi 0 1) 0))]) (g := 2) [((oi 1 1), (oi 2 1)), ((oi 2 1), (oi 3 1))])
end Go.Proofs.YtefolocdfgelcaaDoor
