/- Lemmas on the program and on partial functions that stand in place of its code (part 6); no condition beyond those that each one states. -/
import Derived.Test.YtefolocdfgelcaaDoorZ5
namespace Go.Proofs.YtefolocdfgelcaaDoor
open Go.RowKit Go.Deep
set_option maxRecDepth 4000
def m_laws_eqIntSS_l1 : AC :=
 (.seq (.seq (rg [xo 11 (qm (tm 5)), xo 12 (qm (tm 0)), xo 13 (.i (.len (tm 12))), xo 14 (qb .lss (tm 11) (tm 13))])
 (.cond (tm 14)
  .skip
  (.exit 0)))
 (.seq (.block 1 (.seq (.region [xo 17 (qm (tm 0)), xo 18 (qm (tm 5)), xo 19 (qx 1 (tm 17) (tm 18)), xo 20 (ql (tm 19)), xo 21 (qm (tm 1)), xo 22 (qm (tm 5)), xo 23 (qx 1 (tm 21) (tm 22)), xo 24 (ql (tm 23)), xo 25 (qc 20 [(tm 20), (tm 24)] [[(some .int)], [(some .int)]]), xo 26 (.i (.not (tm 25)))] true [])
 (.cond (tm 26)
  (.seq (rg [xo 4 (qm (cb false))])
  .ret)
  .skip)))
 (rg [xo 15 (qm (tm 5)), xo 16 (qb .add (tm 15) (ci 1)), xo 5 (qm (tm 16))])))
def m_laws_eqIntSS : AC :=
 (.seq (rg [xo 4 (qm (cb false))])
 (.seq (.seq (rg [xo 6 (qm (tm 0)), xo 7 (.i (.len (tm 6))), xo 8 (qm (tm 1)), xo 9 (.i (.len (tm 8))), xo 10 (qb .neq (tm 7) (tm 9))])
 (.cond (tm 10)
  (.seq (rg [xo 4 (qm (cb false))])
  .ret)
  .skip))
 (.seq (.seq (rg [xo 5 (qm (ci 0))])
 (.block 0 (.loop m_laws_eqIntSS_l1)))
 (.seq (rg [xo 4 (qm (cb true))])
 .ret))))
def r_laws_eqIntSS : List Res := [.tmp 4]
theorem c_laws_eqIntSS : compiled Tryd.prog Tryd.f61 = some (m_laws_eqIntSS, r_laws_eqIntSS) := by kernel_rfl
theorem hb_laws_eqIntSS : hasBody Tryd.prog 61 = true := by kernel_rfl
def L_laws_eqIntSS_l1 (a0 : List (List Int)) (a1 : List (List Int)) (l8_m5 : Nat) : Option (Ctl Nat (Ctl Unit Bool)) :=
 cond (decide (((l8_m5 : Nat) : Int) < ((a0.length : Nat) : Int)))
 (Option.bind (a0[l8_m5]?) fun x14 =>
 Option.bind (a1[l8_m5]?) fun x15 =>
 Option.bind (L_laws_eqIntS x14 x15) fun y16 =>
 cond (!y16)
  (some (Ctl.out (Ctl.out false)))
  (og (l8_m5 + 1 < 4611686018427387904) <|
  some (Ctl.next (l8_m5 + 1))))
 (some (Ctl.out (Ctl.next ())))
def L_laws_eqIntSS (a0 : List (List Int)) (a1 : List (List Int)) : Option Bool :=
 cond (((a0.length : Nat) : Int) != ((a1.length : Nat) : Int))
 (some false)
 (seqC (loopM (fun s_ : Nat => L_laws_eqIntSS_l1 a0 a1 s_) 4611686018427387904 0) fun _ =>
 some true)
def rv_laws_eqIntSS (r : Bool) : RV := ⟨false, [(false, [.sc (.bool r)])]⟩
theorem ok_laws_eqIntSS {a0 : List (List Int)} {a1 : List (List Int)} {r : Bool} (h : L_laws_eqIntSS a0 a1 = some r) : CallOK Tryd.prog Tab 61 [(.tree (.slice .int) a0), (.tree (.slice .int) a1)] (rv_laws_eqIntSS r) := by
 refine call_of_ (by kernel_rfl) Tryd.func61 c_laws_eqIntSS (n := 27) (by kernel_rfl) (by simp) (tl := [(0, (.tree (.slice .int) a0)), (1, (.tree (.slice .int) a1))]) rfl ?_
 unfold m_laws_eqIntSS
 unfold L_laws_eqIntSS at h
 refine seqR ?_
 refine awp_seqv_ ?_
 refine seqR ?_
 rcases cond_some h with ⟨q4, h⟩ | ⟨q4, h⟩
 ·refine awp_condT_ q4 ?_
  refine seqR ?_
  refine awp_ret_ (tr_ ?_)
  obtain rfl := Option.some.inj h
  exact ret_ [(.bool false)] (p_one rfl (l_sc (by kernel_rfl)) p_nil)
 refine awp_condF_ q4 ?_
 refine awp_skip_ (tn_ ?_)
 refine ⟨_, Weak.refl _, ?_⟩
 refine awp_seqC h (fun (_ : Unit) S_ => S_ = ⟨mkTm [], mkOb (someL []), 2⟩) ?_ ?_
 ·intro v_ h hk6
  refine seqR ?_
  refine awp_block_ ?_
  refine awp_loopL h (fun (l8_m5 : Nat) S_ => S_ = ⟨mkTm [(0, (.tree (.slice .int) a0)), (1, (.tree (.slice .int) a1)), (5, (ai ((l8_m5 : Nat) : Int)))], mkOb (someL []), 2⟩) ⟨_, (weak_ren []), rfl⟩ ?_
  rintro n_ l8_m5 _ c_ rfl h hn8
  (try dsimp only at h)
  unfold L_laws_eqIntSS_l1 at h
  unfold m_laws_eqIntSS_l1
  refine awp_seqv_ ?_
  refine seqR ?_
  rcases cond_some h with ⟨q11, h⟩ | ⟨q11, h⟩
  ·have q11_ := of_decide_eq_true q11
   refine awp_condT_ q11 ?_
   refine awp_skip_ (tn_ ?_)
   refine ⟨_, Weak.refl _, ?_⟩
   refine awp_seqv_ ?_
   refine awp_block_ ?_
   refine awp_seqv_ ?_
   obtain ⟨x14, e14, h⟩ := ob_some h
   obtain ⟨x15, e15, h⟩ := ob_some h
   obtain ⟨y16, h16, h⟩ := ob_some h
   refine awp_regionD_ 16 ?_
   refine ds0 (.tree (.slice .int) a0) (by kernel_rfl) ?_
   refine ds0 (ai ((l8_m5 : Nat) : Int)) (by kernel_rfl) ?_
   refine ds0 (.telt (.slice .int) x14 0) (s_idxT (t := (.slice .int)) (xs := a0) (k := .i64) (m := ((l8_m5 : Nat) : Int)) (by kernel_rfl) (by kernel_rfl) rfl (nat_nn _) rfl e14) ?_
   refine ds0 (.tree .int x14) (by kernel_rfl) ?_
   refine ds0 (.tree (.slice .int) a1) (by kernel_rfl) ?_
   refine ds0 (ai ((l8_m5 : Nat) : Int)) (by kernel_rfl) ?_
   refine ds0 (.telt (.slice .int) x15 0) (s_idxT (t := (.slice .int)) (xs := a1) (k := .i64) (m := ((l8_m5 : Nat) : Int)) (by kernel_rfl) (by kernel_rfl) rfl (nat_nn _) rfl e15) ?_
   refine ds0 (.tree .int x15) (by kernel_rfl) ?_
   refine dcall (.bool y16) [] [(.tree .int x14), (.tree .int x15)] _ (caps := []) (args0 := [(.tree .int x14), (.tree .int x15)]) trivial (by kernel_rfl) (ok_laws_eqIntS h16) hb_laws_eqIntS ?_
   refine ds0 (.bool (!y16)) (by kernel_rfl) ?_
   refine dnil (badB_spec (by kernel_rfl)) (tn_ ?_)
   refine ⟨_, Weak.refl _, ?_⟩
   rcases cond_some h with ⟨q17, h⟩ | ⟨q17, h⟩
   ·refine awp_condT_ q17 ?_
    refine seqR ?_
    refine awp_ret_ (br_ (tr_ (tr_ (br_ (tr_ ?_)))))
    obtain rfl := Option.some.inj h
    have h := hn8
    (try dsimp only at h)
    obtain rfl := Option.some.inj h
    have h := hk6
    (try dsimp only at h)
    obtain rfl := Option.some.inj h
    exact ret_ [(.bool false)] (p_one rfl (l_sc (by kernel_rfl)) p_nil)
   refine awp_condF_ q17 ?_
   refine awp_skip_ (bn_ (tn_ ?_))
   refine ⟨_, Weak.refl _, ?_⟩
   obtain ⟨g19, h⟩ := og_some h
   refine awp_region_ 19 ?_
   refine rs0 (ai ((l8_m5 : Nat) : Int)) (by kernel_rfl) ?_
   refine rs0 (ai ((l8_m5 + 1 : Nat) : Int)) (s_add1 (j := l8_m5) (by kernel_rfl) (by kernel_rfl) g19) ?_
   refine rsB 1 ?_
   refine rnil (tn_ ?_)
   obtain rfl := Option.some.inj h
   exact ⟨l8_m5 + 1, _, (weak_ren []), rfl, hn8⟩
  have q11_ := of_decide_eq_false q11
  refine awp_condF_ q11 ?_
  refine awp_exit_ (te_ (te_ (be_ (tn_ ?_))))
  obtain rfl := Option.some.inj h
  have h := hn8
  (try dsimp only at h)
  obtain rfl := Option.some.inj h
  exact ⟨(), _, rfl, (weak_ren []), rfl⟩
 rintro _ _ rfl h
 (try dsimp only at h)
 refine seqR ?_
 refine awp_ret_ ?_
 obtain rfl := Option.some.inj h
 exact ret_ [(.bool true)] (p_one rfl (l_sc (by kernel_rfl)) p_nil)
def m_laws_eqMatrix : AC :=
 (.seq (rg [xo 2 (.i (.box 44 (tm 0))), xo 3 (.i (.box 44 (tm 1))), xo 4 (qm (cb false))])
 (.seq (.seq (rg [xo 5 (qf 0 (tm 2)), xo 6 (ql (tm 5)), xo 7 (qf 0 (tm 3)), xo 8 (ql (tm 7)), xo 9 (qb .neq (tm 6) (tm 8))])
 (.cond (tm 9)
  (.seq (rg [xo 4 (qm (cb false))])
  .ret)
  .skip))
 (.seq (.seq (rg [xo 10 (qf 1 (tm 2)), xo 11 (ql (tm 10)), xo 12 (qf 1 (tm 3)), xo 13 (ql (tm 12)), xo 14 (qc 61 [(tm 11), (tm 13)] [[(some (.slice .int))], [(some (.slice .int))]]), xo 15 (.i (.not (tm 14)))])
 (.cond (tm 15)
  (.seq (rg [xo 4 (qm (cb false))])
  .ret)
  .skip))
 (.seq (rg [xo 4 (qm (cb true))])
 .ret))))
def r_laws_eqMatrix : List Res := [.tmp 4]
theorem c_laws_eqMatrix : compiled Tryd.prog Tryd.f27 = some (m_laws_eqMatrix, r_laws_eqMatrix) := by kernel_rfl
theorem hb_laws_eqMatrix : hasBody Tryd.prog 27 = true := by kernel_rfl
def L_laws_eqMatrix (a0_0 : Int) (a0_1 : List (List Int)) (a1_0 : Int) (a1_1 : List (List Int)) : Option Bool :=
 cond (a0_0 != a1_0)
 (some false)
 (Option.bind (L_laws_eqIntSS a0_1 a1_1) fun y8 =>
 cond (!y8)
  (some false)
  (some true))
def rv_laws_eqMatrix (r : Bool) : RV := ⟨false, [(false, [.sc (.bool r)])]⟩
theorem ok_laws_eqMatrix {a0_0 : Int} {a0_1 : List (List Int)} {a1_0 : Int} {a1_1 : List (List Int)} {r : Bool} (h : L_laws_eqMatrix a0_0 a0_1 a1_0 a1_1 = some r) : CallOK Tryd.prog Tab 27 [(.agg [(ai a0_0), (.tree (.slice .int) a0_1)]), (.agg [(ai a1_0), (.tree (.slice .int) a1_1)])] (rv_laws_eqMatrix r) := by
 refine call_of_ (by kernel_rfl) Tryd.func27 c_laws_eqMatrix (n := 16) (by kernel_rfl) (by simp) (tl := [(0, (.agg [(ai a0_0), (.tree (.slice .int) a0_1)])), (1, (.agg [(ai a1_0), (.tree (.slice .int) a1_1)]))]) rfl ?_
 unfold m_laws_eqMatrix
 unfold L_laws_eqMatrix at h
 refine seqR ?_
 refine awp_seqv_ ?_
 refine seqR ?_
 rcases cond_some h with ⟨q4, h⟩ | ⟨q4, h⟩
 ·refine awp_condT_ q4 ?_
  refine seqR ?_
  refine awp_ret_ (tr_ ?_)
  obtain rfl := Option.some.inj h
  exact ret_ [(.bool false)] (p_one rfl (l_sc (by kernel_rfl)) p_nil)
 refine awp_condF_ q4 ?_
 refine awp_skip_ (tn_ ?_)
 refine ⟨_, Weak.refl _, ?_⟩
 refine awp_seqv_ ?_
 refine awp_seqv_ ?_
 obtain ⟨y8, h8, h⟩ := ob_some h
 refine awp_region_ 15 ?_
 refine rs0 (.box (oi 2 1) 1) (by kernel_rfl) ?_
 refine rsl (.tree (.slice .int) a0_1) (by kernel_rfl) ?_
 refine rs0 (.box (oi 3 2) 1) (by kernel_rfl) ?_
 refine rsl (.tree (.slice .int) a1_1) (by kernel_rfl) ?_
 refine rcall (.bool y8) [] [(.tree (.slice .int) a0_1), (.tree (.slice .int) a1_1)] _ (caps := []) (args0 := [(.tree (.slice .int) a0_1), (.tree (.slice .int) a1_1)]) trivial (by kernel_rfl) (ok_laws_eqIntSS h8) hb_laws_eqIntSS ?_
 refine rsB 1 ?_
 refine rnil (tn_ ?_)
 refine ⟨_, Weak.refl _, ?_⟩
 rcases cond_some h with ⟨q9, h⟩ | ⟨q9, h⟩
 ·refine awp_condT_ q9 ?_
  refine seqR ?_
  refine awp_ret_ (tr_ ?_)
  obtain rfl := Option.some.inj h
  exact ret_ [(.bool false)] (p_one rfl (l_sc (by kernel_rfl)) p_nil)
 refine awp_condF_ q9 ?_
 refine awp_skip_ (tn_ ?_)
 refine ⟨_, Weak.refl _, ?_⟩
 refine seqR ?_
 refine awp_ret_ ?_
 obtain rfl := Option.some.inj h
 exact ret_ [(.bool true)] (p_one rfl (l_sc (by kernel_rfl)) p_nil)
def m_laws_markIntSS_l1 : AC :=
 (.seq (.seq (rg [xo 6 (qm (tm 5)), xo 7 (qm (tm 0)), xo 8 (.i (.len (tm 7))), xo 9 (qb .lss (tm 6) (tm 8))])
 (.cond (tm 9)
  .skip
  (.exit 0)))
 (.seq (.block 1 (rg [xo 12 (qm (tm 0)), xo 13 (qm (tm 5)), xo 14 (qx 1 (tm 12) (tm 13)), xo 15 (ql (tm 14)), xo 16 (qm (tm 1)), xo 17 (qc 56 [(tm 15), (tm 16)] [[(some .int)], []]), xo 1 (qm (tm 17))]))
 (rg [xo 10 (qm (tm 5)), xo 11 (qb .add (tm 10) (ci 1)), xo 5 (qm (tm 11))])))
def m_laws_markIntSS : AC :=
 (.seq (rg [xo 4 (qm (ci 0))])
 (.seq (.seq (rg [xo 5 (qm (ci 0))])
 (.block 0 (.loop m_laws_markIntSS_l1)))
 (.seq (rg [xo 18 (qm (tm 1)), xo 4 (qm (tm 18))])
 .ret)))
def r_laws_markIntSS : List Res := [.tmp 4]
theorem c_laws_markIntSS : compiled Tryd.prog Tryd.f62 = some (m_laws_markIntSS, r_laws_markIntSS) := by kernel_rfl
theorem hb_laws_markIntSS : hasBody Tryd.prog 62 = true := by kernel_rfl
def L_laws_markIntSS_l1  (l5_m1 : Int) (l5_m5 : Nat) (l5_m0 : List (List Int)) : Option (Ctl (Int × Nat × List (List Int)) (Int × List (List Int))) :=
 cond (decide (((l5_m5 : Nat) : Int) < ((l5_m0.length : Nat) : Int)))
 (Option.bind (l5_m0[l5_m5]?) fun x10 =>
 Option.bind (L_laws_markIntS x10 l5_m1) fun y11 =>
 og (y11.1.length = x10.length) <|
 og (l5_m5 + 1 < 4611686018427387904) <|
 some (Ctl.next (y11.2, l5_m5 + 1, l5_m0.set l5_m5 y11.1)))
 (some (Ctl.out (l5_m1, l5_m0)))
def L_laws_markIntSS (a0 : List (List Int)) (a1 : Int) : Option (List (List Int) × Int) :=
 Option.bind (loopM (fun s_ : Int × Nat × List (List Int) => L_laws_markIntSS_l1 s_.1 s_.2.1 s_.2.2) 4611686018427387904 (a1, 0, a0)) fun (l3_m1, l3_p0) =>
some (l3_p0, l3_m1)
theorem ok_laws_markIntSS {a0 : List (List Int)} {a1 : Int} {r : List (List Int) × Int} (h : L_laws_markIntSS a0 a1 = some r) {n_a0 : Nat} (hn_a0 : n_a0 = a0.length) : CallM Tryd.prog Tab 62 [(.own (oi 0 0) (.slice .int) 0 n_a0), (ai a1)] [((oi 0 0), .mat 23 (oi 1 0) .int a0), ((oi 1 0), .pool 3 .int a0)] (ai r.2) [((oi 0 0), .mat 23 (oi 0 1) .int r.1), ((oi 0 1), .pool 3 .int r.1)] := by
 refine callM_of_ (by kernel_rfl) Tryd.func62 c_laws_markIntSS (n := 19) (by kernel_rfl) (by simp) (tl := [(0, (.own (oi 0 0) (.slice .int) 0 n_a0)), (1, (ai a1))]) rfl (by kernel_rfl) ⟨⟨3, (.tail _ (.head _))⟩, ⟨trivial, trivial⟩⟩ ⟨⟨3, (.tail _ (.head _))⟩, ⟨trivial, trivial⟩⟩ ?_
 unfold m_laws_markIntSS
 unfold L_laws_markIntSS at h
 refine seqR ?_
 refine awp_seqB h (fun t_ S_ => ∃ (l3_m1 : Int), ∃ (l3_p0 : List (List Int)), t_ = (l3_m1, l3_p0) ∧ S_ = ⟨mkTm [(1, (ai l3_m1))], mkOb (someL [((oi 0 0), .mat 23 (oi 0 1) .int l3_p0), ((oi 0 1), .pool 3 .int l3_p0)]), 2⟩) ?_ ?_
 ·intro v_ h
  refine seqR ?_
  refine awp_block_ ?_
  refine awp_loopL h (fun t_ S_ => ∃ (l5_m1 : Int), ∃ (l5_m5 : Nat), ∃ (l5_m0 : List (List Int)), t_ = (l5_m1, l5_m5, l5_m0) ∧ S_ = ⟨mkTm [(0, (.own (oi 0 0) (.slice .int) 0 l5_m0.length)), (1, (ai l5_m1)), (5, (ai ((l5_m5 : Nat) : Int)))], mkOb (someL [((oi 0 0), .mat 23 (oi 0 1) .int l5_m0), ((oi 0 1), .pool 3 .int l5_m0)]), 2⟩) ⟨_, ((weak_tm_ 0 (.own (oi 0 0) (.slice .int) 0 n_a0) (.own (oi 0 0) (.slice .int) 0 a0.length) (by kernel_rfl) (congrArg (fun z_ => ((.own (oi 0 0) (.slice .int) 0 z_) : AV)) (hn_a0 : n_a0 = a0.length))).trans (weak_ren [((oi 0 1), (oi 1 0))])), ⟨a1, 0, a0, rfl, rfl⟩⟩ ?_
  rintro n_ _ _ c_ ⟨l5_m1, l5_m5, l5_m0, rfl, rfl⟩ h hn5
  (try dsimp only at h)
  unfold L_laws_markIntSS_l1 at h
  unfold m_laws_markIntSS_l1
  refine awp_seqv_ ?_
  refine seqR ?_
  rcases cond_some h with ⟨q8, h⟩ | ⟨q8, h⟩
  ·have q8_ := of_decide_eq_true q8
   refine awp_condT_ q8 ?_
   refine awp_skip_ (tn_ ?_)
   refine ⟨_, Weak.refl _, ?_⟩
   refine awp_seqv_ ?_
   refine awp_block_ ?_
   obtain ⟨x10, e10, h⟩ := ob_some h
   obtain ⟨y11, h11, h⟩ := ob_some h
   obtain ⟨g12, h⟩ := og_some h
   refine awp_region_ 13 ?_
   refine rs0 (.own (oi 0 0) (.slice .int) 0 l5_m0.length) (by kernel_rfl) ?_
   refine rs0 (ai ((l5_m5 : Nat) : Int)) (by kernel_rfl) ?_
   refine rs0 (.elt (oi 0 0) l5_m5 0) (s_idxO (t := (.slice .int)) (o := (oi 0 0)) (len := l5_m0.length) (k := .i64) (m := ((l5_m5 : Nat) : Int)) (by kernel_rfl) (by kernel_rfl) rfl (nat_nn _) rfl (getN_lt e10)) ?_
   refine rsl (.own (kid (oi 0 1) l5_m5) .int 0 x10.length) (s_ldM (o := (oi 0 0)) (p := (oi 0 1)) (e1 := 23) (u := .int) (xss := l5_m0) (row := x10) (j := l5_m5) (by kernel_rfl) (by kernel_rfl) e10) ?_
   refine rs0 (ai l5_m1) (by kernel_rfl) ?_
   refine rcallM (ai y11.2) [((kid (oi 0 1) l5_m5), some (.arr 3 .int y11.1)), ((kid (oi 0 1) l5_m5), none)] [((oi 0 0), (kid (oi 0 1) l5_m5))] [(.own (kid (oi 0 1) l5_m5) .int 0 x10.length), (ai l5_m1)] (caps := []) trivial (ok_laws_markIntS h11 rfl) hb_laws_markIntS ⟨(entAt_kid (by kernel_rfl) e10), trivial⟩ (.cons (.ren (by kernel_rfl)) (.cons (.ren (by kernel_rfl)) .nil)) (reachL_mem (by kernel_rfl) (by kernel_rfl) ⟨(.arg (by simp [AV.nmsL, AV.nms, renF])), trivial⟩) ?_
   refine xw_ob (ob_row (o := (oi 0 0)) (p := (oi 0 1)) (e1 := 23) (e := 3) (u := .int) (xss := l5_m0) (k := l5_m5) (row := x10) (row' := y11.1) (by kernel_rfl) rfl (by kernel_rfl) e10 g12) ?_
   refine rsB 1 ?_
   refine rnil (bn_ (tn_ ?_))
   refine ⟨_, Weak.refl _, ?_⟩
   obtain ⟨g13, h⟩ := og_some h
   refine awp_region_ 16 ?_
   refine rs0 (ai ((l5_m5 : Nat) : Int)) (by kernel_rfl) ?_
   refine rs0 (ai ((l5_m5 + 1 : Nat) : Int)) (s_add1 (j := l5_m5) (by kernel_rfl) (by kernel_rfl) g13) ?_
   refine rsB 1 ?_
   refine rnil (tn_ ?_)
   obtain rfl := Option.some.inj h
   exact ⟨(y11.2, l5_m5 + 1, l5_m0.set l5_m5 y11.1), _, ((weak_tm_ 0 (.own (oi 0 0) (.slice .int) 0 l5_m0.length) (.own (oi 0 0) (.slice .int) 0 ((l5_m0.set l5_m5 y11.1).length)) (by kernel_rfl) (congrArg (fun z_ => ((.own (oi 0 0) (.slice .int) 0 z_) : AV)) ((Eq.trans (b := l5_m0.length) rfl List.length_set.symm) : l5_m0.length = (l5_m0.set l5_m5 y11.1).length))).trans (weak_ren [])), ⟨y11.2, l5_m5 + 1, l5_m0.set l5_m5 y11.1, rfl, rfl⟩, hn5⟩
  have q8_ := of_decide_eq_false q8
  refine awp_condF_ q8 ?_
  refine awp_exit_ (te_ (te_ (be_ (tn_ ?_))))
  obtain rfl := Option.some.inj h
  have h := hn5
  (try dsimp only at h)
  obtain rfl := Option.some.inj h
  exact ⟨_, (weak_ren []), ⟨l5_m1, l5_m0, rfl, rfl⟩⟩
 rintro _ _ ⟨l3_m1, l3_p0, rfl, rfl⟩ h
 (try dsimp only at h)
 refine seqR ?_
 refine awp_ret_ ?_
 obtain rfl := Option.some.inj h
 exact retM_ [(ai l3_m1)] (weak_ren (tl := [(4, (ai l3_m1))]) (g := 2) [])
def m_laws_markMatrix : AC :=
 (.seq (rg [xo 2 (.i (.box 44 (tm 0))), xo 4 (qm (ci 0))])
 (.seq (rg [xo 5 (qf 1 (tm 2)), xo 6 (ql (tm 5)), xo 7 (qm (tm 1)), xo 8 (qc 62 [(tm 6), (tm 7)] [[(some (.slice .int))], []]), xo 1 (qm (tm 8))])
 (.seq (rg [xo 9 (qm (tm 1)), xo 4 (qm (tm 9))])
 .ret)))
def r_laws_markMatrix : List Res := [.tmp 4]
theorem c_laws_markMatrix : compiled Tryd.prog Tryd.f28 = some (m_laws_markMatrix, r_laws_markMatrix) := by kernel_rfl
theorem hb_laws_markMatrix : hasBody Tryd.prog 28 = true := by kernel_rfl
def L_laws_markMatrix (a0_0 : Int) (a0_1 : List (List Int)) (a1 : Int) : Option (List (List Int) × Int) :=
 Option.bind (L_laws_markIntSS a0_1 a1) fun y4 =>
og (y4.1.length = (a0_1.length)) <|
some (y4.1, y4.2)
theorem ok_laws_markMatrix {a0_0 : Int} {a0_1 : List (List Int)} {a1 : Int} {r : List (List Int) × Int} (h : L_laws_markMatrix a0_0 a0_1 a1 = some r) {n_a0_1 : Nat} (hn_a0_1 : n_a0_1 = a0_1.length) : CallM Tryd.prog Tab 28 [(.agg [(ai a0_0), (.own (oi 0 0) (.slice .int) 0 n_a0_1)]), (ai a1)] [((oi 0 0), .mat 23 (oi 1 0) .int a0_1), ((oi 1 0), .pool 3 .int a0_1)] (ai r.2) [((oi 0 0), .mat 23 (oi 0 1) .int r.1), ((oi 0 1), .pool 3 .int r.1)] := by
 refine callM_of_ (by kernel_rfl) Tryd.func28 c_laws_markMatrix (n := 10) (by kernel_rfl) (by simp) (tl := [(0, (.agg [(ai a0_0), (.own (oi 0 0) (.slice .int) 0 n_a0_1)])), (1, (ai a1))]) rfl (by kernel_rfl) ⟨⟨3, (.tail _ (.head _))⟩, ⟨trivial, trivial⟩⟩ ⟨⟨3, (.tail _ (.head _))⟩, ⟨trivial, trivial⟩⟩ ?_
 unfold m_laws_markMatrix
 unfold L_laws_markMatrix at h
 (try rw [← hn_a0_1] at h)
 refine seqR ?_
 refine awp_seqv_ ?_
 obtain ⟨y4, h4, h⟩ := ob_some h
 obtain ⟨g5, h⟩ := og_some h
 refine awp_region_ 8 ?_
 refine rs0 (.box (oi 2 1) 1) (by kernel_rfl) ?_
 refine rsl (.own (oi 0 0) (.slice .int) 0 n_a0_1) (by kernel_rfl) ?_
 refine rs0 (ai a1) (by kernel_rfl) ?_
 refine rcallM (ai y4.2) [((oi 0 0), some (.mat 23 (oi 128 6) .int y4.1)), ((oi 128 6), some (.pool 3 .int y4.1)), ((oi 0 0), none), ((oi 1 0), some (.pool 3 .int []))] [] [(.own (oi 0 0) (.slice .int) 0 n_a0_1), (ai a1)] (caps := []) trivial (ok_laws_markIntSS h4 hn_a0_1) hb_laws_markIntSS ⟨(by kernel_rfl), ⟨(by kernel_rfl), trivial⟩⟩ (.cons (.ren (by kernel_rfl)) (.cons (.ren (by kernel_rfl)) .nil)) (reachL_mem (by kernel_rfl) (by kernel_rfl) ⟨(re_arg (by kernel_rfl)), ⟨re_rows (o := (oi 0 0)) (p := (oi 1 0)) (e1 := 23) (m := a0_1.length) (u := .int) (xss := a0_1) (re_arg (by kernel_rfl)) (by kernel_rfl), trivial⟩⟩) ?_
 refine rsB 1 ?_
 refine rnil (tn_ ?_)
 refine ⟨_, Weak.refl _, ?_⟩
 refine seqR ?_
 refine awp_ret_ ?_
 obtain rfl := Option.some.inj h
 exact retM_ [(ai y4.2)] (weak_ren (tl := [(4, (ai y4.2))]) (g := 2) [((oi 0 1), (oi 128 6))])
def m_laws_heldIntSS_l1 : AC :=
 (.seq (.seq (rg [xo 6 (qm (tm 5)), xo 7 (qm (tm 0)), xo 8 (.i (.len (tm 7))), xo 9 (qb .lss (tm 6) (tm 8))])
 (.cond (tm 9)
  .skip
  (.exit 0)))
 (.seq (.block 1 (.seq (rg [xo 12 (qm (tm 0)), xo 13 (qm (tm 5)), xo 14 (qx 1 (tm 12) (tm 13)), xo 15 (ql (tm 14)), xo 16 (qm (tm 1)), xo 17 (qc 58 [(tm 15), (tm 16)] [[(some .int)], []]), xo 1 (qm (tm 17))])
 (.seq (rg [xo 18 (qm (tm 1)), xo 19 (qb .lss (tm 18) (ci 0))])
 (.cond (tm 19)
  (.seq (rg [xo 4 (qm (ci (-1)))])
  .ret)
  .skip))))
 (rg [xo 10 (qm (tm 5)), xo 11 (qb .add (tm 10) (ci 1)), xo 5 (qm (tm 11))])))
def m_laws_heldIntSS : AC :=
 (.seq (rg [xo 4 (qm (ci 0))])
 (.seq (.seq (rg [xo 5 (qm (ci 0))])
 (.block 0 (.loop m_laws_heldIntSS_l1)))
 (.seq (rg [xo 20 (qm (tm 1)), xo 4 (qm (tm 20))])
 .ret)))
def r_laws_heldIntSS : List Res := [.tmp 4]
theorem c_laws_heldIntSS : compiled Tryd.prog Tryd.f63 = some (m_laws_heldIntSS, r_laws_heldIntSS) := by kernel_rfl
theorem hb_laws_heldIntSS : hasBody Tryd.prog 63 = true := by kernel_rfl
def L_laws_heldIntSS_l1 (a0 : List (List Int)) (l4_m1 : Int) (l4_m5 : Nat) : Option (Ctl (Int × Nat) (Ctl Int Int)) :=
 cond (decide (((l4_m5 : Nat) : Int) < ((a0.length : Nat) : Int)))
 (Option.bind (a0[l4_m5]?) fun x10 =>
 Option.bind (L_laws_heldIntS x10 l4_m1) fun y11 =>
 cond (decide (y11 < 0))
  (some (Ctl.out (Ctl.out (-1))))
  (og (l4_m5 + 1 < 4611686018427387904) <|
  some (Ctl.next (y11, l4_m5 + 1))))
 (some (Ctl.out (Ctl.next l4_m1)))
def L_laws_heldIntSS (a0 : List (List Int)) (a1 : Int) : Option Int :=
 seqC (loopM (fun s_ : Int × Nat => L_laws_heldIntSS_l1 a0 s_.1 s_.2) 4611686018427387904 (a1, 0)) fun l2_m1 =>
some l2_m1
def rv_laws_heldIntSS (r : Int) : RV := ⟨false, [(false, [.sc (.int .i64 r)])]⟩
theorem ok_laws_heldIntSS {a0 : List (List Int)} {a1 : Int} {r : Int} (h : L_laws_heldIntSS a0 a1 = some r) : CallOK Tryd.prog Tab 63 [(.tree (.slice .int) a0), (ai a1)] (rv_laws_heldIntSS r) := by
 refine call_of_ (by kernel_rfl) Tryd.func63 c_laws_heldIntSS (n := 21) (by kernel_rfl) (by simp) (tl := [(0, (.tree (.slice .int) a0)), (1, (ai a1))]) rfl ?_
 unfold m_laws_heldIntSS
 unfold L_laws_heldIntSS at h
 refine seqR ?_
 refine awp_seqC h (fun (l2_m1 : Int) S_ => S_ = ⟨mkTm [(1, (ai l2_m1))], mkOb (someL []), 2⟩) ?_ ?_
 ·intro v_ h hk2
  refine seqR ?_
  refine awp_block_ ?_
  refine awp_loopL h (fun t_ S_ => ∃ (l4_m1 : Int), ∃ (l4_m5 : Nat), t_ = (l4_m1, l4_m5) ∧ S_ = ⟨mkTm [(0, (.tree (.slice .int) a0)), (1, (ai l4_m1)), (5, (ai ((l4_m5 : Nat) : Int)))], mkOb (someL []), 2⟩) ⟨_, (weak_ren []), ⟨a1, 0, rfl, rfl⟩⟩ ?_
  rintro n_ _ _ c_ ⟨l4_m1, l4_m5, rfl, rfl⟩ h hn4
  (try dsimp only at h)
  unfold L_laws_heldIntSS_l1 at h
  unfold m_laws_heldIntSS_l1
  refine awp_seqv_ ?_
  refine seqR ?_
  rcases cond_some h with ⟨q7, h⟩ | ⟨q7, h⟩
  ·have q7_ := of_decide_eq_true q7
   refine awp_condT_ q7 ?_
   refine awp_skip_ (tn_ ?_)
   refine ⟨_, Weak.refl _, ?_⟩
   refine awp_seqv_ ?_
   refine awp_block_ ?_
   refine awp_seqv_ ?_
   obtain ⟨x10, e10, h⟩ := ob_some h
   obtain ⟨y11, h11, h⟩ := ob_some h
   refine awp_region_ 13 ?_
   refine rs0 (.tree (.slice .int) a0) (by kernel_rfl) ?_
   refine rs0 (ai ((l4_m5 : Nat) : Int)) (by kernel_rfl) ?_
   refine rs0 (.telt (.slice .int) x10 0) (s_idxT (t := (.slice .int)) (xs := a0) (k := .i64) (m := ((l4_m5 : Nat) : Int)) (by kernel_rfl) (by kernel_rfl) rfl (nat_nn _) rfl e10) ?_
   refine rs0 (.tree .int x10) (by kernel_rfl) ?_
   refine rs0 (ai l4_m1) (by kernel_rfl) ?_
   refine rcall (ai y11) [] [(.tree .int x10), (ai l4_m1)] _ (caps := []) (args0 := [(.tree .int x10), (ai l4_m1)]) trivial (by kernel_rfl) (ok_laws_heldIntS h11) hb_laws_heldIntS ?_
   refine rsB 1 ?_
   refine rnil (tn_ ?_)
   refine ⟨_, Weak.refl _, ?_⟩
   refine seqR ?_
   rcases cond_some h with ⟨q13, h⟩ | ⟨q13, h⟩
   ·have q13_ := of_decide_eq_true q13
    refine awp_condT_ q13 ?_
    refine seqR ?_
    refine awp_ret_ (br_ (tr_ (tr_ (br_ (tr_ ?_)))))
    obtain rfl := Option.some.inj h
    have h := hn4
    (try dsimp only at h)
    obtain rfl := Option.some.inj h
    have h := hk2
    (try dsimp only at h)
    obtain rfl := Option.some.inj h
    exact ret_ [(ai (-1))] (p_one rfl (l_sc (by kernel_rfl)) p_nil)
   have q13_ := of_decide_eq_false q13
   refine awp_condF_ q13 ?_
   refine awp_skip_ (bn_ (tn_ ?_))
   refine ⟨_, Weak.refl _, ?_⟩
   obtain ⟨g15, h⟩ := og_some h
   refine awp_region_ 18 ?_
   refine rs0 (ai ((l4_m5 : Nat) : Int)) (by kernel_rfl) ?_
   refine rs0 (ai ((l4_m5 + 1 : Nat) : Int)) (s_add1 (j := l4_m5) (by kernel_rfl) (by kernel_rfl) g15) ?_
   refine rsB 1 ?_
   refine rnil (tn_ ?_)
   obtain rfl := Option.some.inj h
   exact ⟨(y11, l4_m5 + 1), _, (weak_ren []), ⟨y11, l4_m5 + 1, rfl, rfl⟩, hn4⟩
  have q7_ := of_decide_eq_false q7
  refine awp_condF_ q7 ?_
  refine awp_exit_ (te_ (te_ (be_ (tn_ ?_))))
  obtain rfl := Option.some.inj h
  have h := hn4
  (try dsimp only at h)
  obtain rfl := Option.some.inj h
  exact ⟨l4_m1, _, rfl, (weak_ren []), rfl⟩
 rintro l2_m1 _ rfl h
 (try dsimp only at h)
 refine seqR ?_
 refine awp_ret_ ?_
 obtain rfl := Option.some.inj h
 exact ret_ [(ai l2_m1)] (p_one rfl (l_sc (by kernel_rfl)) p_nil)
def m_laws_heldMatrix : AC :=
 (.seq (rg [xo 2 (.i (.box 44 (tm 0))), xo 4 (qm (ci 0))])
 (.seq (rg [xo 5 (qf 1 (tm 2)), xo 6 (ql (tm 5)), xo 7 (qm (tm 1)), xo 8 (qc 63 [(tm 6), (tm 7)] [[(some (.slice .int))], []]), xo 1 (qm (tm 8))])
 (.seq (.seq (rg [xo 9 (qm (tm 1)), xo 10 (qb .lss (tm 9) (ci 0))])
 (.cond (tm 10)
  (.seq (rg [xo 4 (qm (ci (-1)))])
  .ret)
  .skip))
 (.seq (rg [xo 11 (qm (tm 1)), xo 4 (qm (tm 11))])
 .ret))))
def r_laws_heldMatrix : List Res := [.tmp 4]
theorem c_laws_heldMatrix : compiled Tryd.prog Tryd.f29 = some (m_laws_heldMatrix, r_laws_heldMatrix) := by kernel_rfl
theorem hb_laws_heldMatrix : hasBody Tryd.prog 29 = true := by kernel_rfl
def L_laws_heldMatrix (a0_0 : Int) (a0_1 : List (List Int)) (a1 : Int) : Option Int :=
 Option.bind (L_laws_heldIntSS a0_1 a1) fun y3 =>
cond (decide (y3 < 0))
 (some (-1))
 (some y3)
def rv_laws_heldMatrix (r : Int) : RV := ⟨false, [(false, [.sc (.int .i64 r)])]⟩
theorem ok_laws_heldMatrix {a0_0 : Int} {a0_1 : List (List Int)} {a1 : Int} {r : Int} (h : L_laws_heldMatrix a0_0 a0_1 a1 = some r) : CallOK Tryd.prog Tab 29 [(.agg [(ai a0_0), (.tree (.slice .int) a0_1)]), (ai a1)] (rv_laws_heldMatrix r) := by
 refine call_of_ (by kernel_rfl) Tryd.func29 c_laws_heldMatrix (n := 12) (by kernel_rfl) (by simp) (tl := [(0, (.agg [(ai a0_0), (.tree (.slice .int) a0_1)])), (1, (ai a1))]) rfl ?_
 unfold m_laws_heldMatrix
 unfold L_laws_heldMatrix at h
 refine seqR ?_
 refine awp_seqv_ ?_
 obtain ⟨y3, h3, h⟩ := ob_some h
 refine awp_region_ 8 ?_
 refine rs0 (.box (oi 2 1) 1) (by kernel_rfl) ?_
 refine rsl (.tree (.slice .int) a0_1) (by kernel_rfl) ?_
 refine rs0 (ai a1) (by kernel_rfl) ?_
 refine rcall (ai y3) [] [(.tree (.slice .int) a0_1), (ai a1)] _ (caps := []) (args0 := [(.tree (.slice .int) a0_1), (ai a1)]) trivial (by kernel_rfl) (ok_laws_heldIntSS h3) hb_laws_heldIntSS ?_
 refine rsB 1 ?_
 refine rnil (tn_ ?_)
 refine ⟨_, Weak.refl _, ?_⟩
 refine awp_seqv_ ?_
 refine seqR ?_
 rcases cond_some h with ⟨q6, h⟩ | ⟨q6, h⟩
 ·have q6_ := of_decide_eq_true q6
  refine awp_condT_ q6 ?_
  refine seqR ?_
  refine awp_ret_ (tr_ ?_)
  obtain rfl := Option.some.inj h
  exact ret_ [(ai (-1))] (p_one rfl (l_sc (by kernel_rfl)) p_nil)
 have q6_ := of_decide_eq_false q6
 refine awp_condF_ q6 ?_
 refine awp_skip_ (tn_ ?_)
 refine ⟨_, Weak.refl _, ?_⟩
 refine seqR ?_
 refine awp_ret_ ?_
 obtain rfl := Option.some.inj h
 exact ret_ [(ai y3)] (p_one rfl (l_sc (by kernel_rfl)) p_nil)
def m_spec_mxZero_l1 : AC :=
 (.seq (rg [xo 15 (qb .lss (tm 14) (tm 13))])
 (.seq (.cond (tm 15)
  .skip
  (.exit 0))
 (.seq (.block 1 (.seq (rg [xo 16 (qm (tm 14)), xo 6 (qm (tm 16))])
 (.region [xo 17 (qf 1 (tm 5)), xo 18 (ql (tm 17)), xo 19 (qm (tm 6)), xo 20 (qm (tm 1)), xo 21 (.make 3 .int 8 (tm 20) (tm 20)), xo 22 (qx 1 (tm 18) (tm 19)), xn (qs (tm 22) (tm 21))] true [])))
 (rg [xo 23 (qb .add (tm 14) (ci 1)), xo 14 (qm (tm 23))]))))
def m_spec_mxZero : AC :=
 (.seq (rg [xo 4 (.i (.alloc 44 [(.int .i64 0), .nils]))])
 (.seq (rg [xo 7 (qm (tm 1)), xo 8 (qm (tm 0)), xo 9 (.makeV 23 (.slice .int) 24 [.nils] (tm 8) (tm 8)), xo 10 (.build [(.int .i64 0), .nils] [(0, 1, (tm 7)), (1, 1, (tm 9))]), xo 5 (.i (.alloc 44 [(.int .i64 0), .nils])), xn (.st false 2 (tm 5) (tm 10))])
 (.seq (.seq (rg [xo 11 (qf 1 (tm 5)), xo 12 (ql (tm 11)), xo 13 (.i (.len (tm 12))), xo 14 (qm (ci 0))])
 (.block 0 (.loop m_spec_mxZero_l1)))
 (.seq (rg [xo 24 (.i (.ld false 2 (tm 5))), xn (.st false 2 (tm 4) (tm 24))])
 .ret))))
def r_spec_mxZero : List Res := [.cell 4 false 2]
theorem c_spec_mxZero : compiled Tryd.prog Tryd.f96 = some (m_spec_mxZero, r_spec_mxZero) := by kernel_rfl
theorem hb_spec_mxZero : hasBody Tryd.prog 96 = true := by kernel_rfl
def L_spec_mxZero_l1 (a0 : Int) (a1 : Int) (l7_m14 : Nat) (l7_m5_1 : List (List Int)) : Option (Ctl (Nat × List (List Int)) (List (List Int))) :=
 cond (decide (((l7_m14 : Nat) : Int) < ((a0.toNat : Nat) : Int)))
 (og (0 ≤ a1 ∧ a1 ≤ a1 ∧ a1 ≤ 1073741824 ∧ (8 : Int) * a1 ≤ 140737488355328) <|
 Option.bind (l7_m5_1[l7_m14]?) fun x14 =>
 og (l7_m14 + 1 < 4611686018427387904) <|
 some (Ctl.next (l7_m14 + 1, l7_m5_1.set l7_m14 (List.replicate a1.toNat (0 : Int)))))
 (some (Ctl.out l7_m5_1))
def L_spec_mxZero (a0 : Int) (a1 : Int) : Option (List (List Int)) :=
 og (0 ≤ a0 ∧ a0 ≤ a0 ∧ a0 ≤ 1073741824 ∧ (24 : Int) * a0 ≤ 140737488355328) <|
Option.bind (loopM (fun s_ : Nat × List (List Int) => L_spec_mxZero_l1 a0 a1 s_.1 s_.2) 4611686018427387904 (0, List.replicate a0.toNat ([] : List Int))) fun l5_m5_1 =>
some l5_m5_1
theorem ok_spec_mxZero {a0 : Int} {a1 : Int} {r : List (List Int)} (h : L_spec_mxZero a0 a1 = some r) : CallM Tryd.prog Tab 96 [(ai a0), (ai a1)] [] (.agg [(ai a1), (.own (oi 1 1) (.slice .int) 0 r.length)]) [((oi 0 1), .cells 44 [(ai a1), (.own (oi 1 1) (.slice .int) 0 r.length)]), ((oi 1 1), .mat 23 (oi 2 1) .int r), ((oi 2 1), .pool 3 .int r)] := by
 refine callM_of_ (by kernel_rfl) Tryd.func96 c_spec_mxZero (n := 25) (by kernel_rfl) (by simp) (tl := [(0, (ai a0)), (1, (ai a1))]) rfl (by kernel_rfl) trivial ⟨trivial, ⟨⟨3, (.tail _ (.tail _ (.head _)))⟩, ⟨trivial, trivial⟩⟩⟩ ?_
 unfold m_spec_mxZero
 unfold L_spec_mxZero at h
 refine seqR ?_
 refine awp_seqv_ ?_
 obtain ⟨g4, h⟩ := og_some h
 refine awp_region_ 8 ?_
 refine rs0 (ai a1) (by kernel_rfl) ?_
 refine rs0 (ai a0) (by kernel_rfl) ?_
 refine rmakeM (.own (oi 144 4) (.slice .int) 0 a0.toNat) (oi 144 4) 23 3 .int (List.replicate a0.toNat ([] : List Int)) trivial (s_makeM (j := a0.toNat) (k := .i64) (k' := .i64) (m := a0) (c := a0) 3 (by kernel_rfl) (by kernel_rfl) g4 (by kernel_rfl) rfl) (by kernel_rfl) (by rw [List.length_replicate]) (by kernel_rfl) ?_
 refine rsB 3 ?_
 refine rnil (tn_ ?_)
 refine ⟨_, Weak.refl _, ?_⟩
 refine awp_seqB h (fun (l5_m5_1 : List (List Int)) S_ => S_ = ⟨mkTm [(4, (.box (oi 0 1) 0)), (5, (.box (oi 1 1) 0))], mkOb (someL [((oi 0 1), .cells 44 [(ai 0), .nils]), ((oi 1 1), .cells 44 [(ai a1), (.own (oi 2 1) (.slice .int) 0 l5_m5_1.length)]), ((oi 2 1), .mat 23 (oi 3 1) .int l5_m5_1), ((oi 3 1), .pool 3 .int l5_m5_1)]), 2⟩) ?_ ?_
 ·intro v_ h
  refine seqR ?_
  refine awp_block_ ?_
  refine awp_loopL h (fun t_ S_ => ∃ (l7_m14 : Nat), ∃ (l7_m5_1 : List (List Int)), t_ = (l7_m14, l7_m5_1) ∧ S_ = ⟨mkTm [(1, (ai a1)), (4, (.box (oi 0 1) 0)), (5, (.box (oi 1 1) 0)), (13, (ai ((a0.toNat : Nat) : Int))), (14, (ai ((l7_m14 : Nat) : Int)))], mkOb (someL [((oi 0 1), .cells 44 [(ai 0), .nils]), ((oi 1 1), .cells 44 [(ai a1), (.own (oi 2 1) (.slice .int) 0 l7_m5_1.length)]), ((oi 2 1), .mat 23 (oi 3 1) .int l7_m5_1), ((oi 3 1), .pool 3 .int l7_m5_1)]), 2⟩) ⟨_, ((weak_ob_ (oi 5 6) (.cells 44 [(ai a1), (.own (oi 144 4) (.slice .int) 0 a0.toNat)]) (.cells 44 [(ai a1), (.own (oi 144 4) (.slice .int) 0 ((List.replicate a0.toNat ([] : List Int)).length))]) (by kernel_rfl) (congrArg (fun z_ => (.cells 44 [(ai a1), (.own (oi 144 4) (.slice .int) 0 z_)] : Ob)) (List.length_replicate.symm : a0.toNat = (List.replicate a0.toNat ([] : List Int)).length))).trans (weak_ren [((oi 0 1), (oi 4 1)), ((oi 1 1), (oi 5 6)), ((oi 2 1), (oi 144 4)), ((oi 3 1), (oi 144 4))])), ⟨0, List.replicate a0.toNat ([] : List Int), rfl, rfl⟩⟩ ?_
  rintro n_ _ _ c_ ⟨l7_m14, l7_m5_1, rfl, rfl⟩ h hn7
  (try dsimp only at h)
  unfold L_spec_mxZero_l1 at h
  unfold m_spec_mxZero_l1
  refine seqR ?_
  refine awp_seqv_ ?_
  rcases cond_some h with ⟨q10, h⟩ | ⟨q10, h⟩
  ·have q10_ := of_decide_eq_true q10
   refine awp_condT_ q10 ?_
   refine awp_skip_ (tn_ ?_)
   refine ⟨_, Weak.refl _, ?_⟩
   refine awp_seqv_ ?_
   refine awp_block_ ?_
   refine seqR ?_
   obtain ⟨g13, h⟩ := og_some h
   obtain ⟨x14, e14, h⟩ := ob_some h
   refine awp_regionD_ 12 ?_
   refine ds0 (.box (oi 1 1) 1) (by kernel_rfl) ?_
   refine dsl (.own (oi 2 1) (.slice .int) 0 l7_m5_1.length) (by kernel_rfl) ?_
   refine ds0 (ai ((l7_m14 : Nat) : Int)) (by kernel_rfl) ?_
   refine ds0 (ai a1) (by kernel_rfl) ?_
   refine ds1 (.own (oi 21 9) .int 0 a1.toNat) (oi 21 9) (.arr 3 .int (List.replicate a1.toNat (0 : Int))) (s_make (t := .int) (k := .i64) (k' := .i64) (m := a1) (m' := a1) (by kernel_rfl) (by kernel_rfl) g13 rfl) ?_
   refine ds0 (.elt (oi 2 1) l7_m14 0) (s_idxO (t := (.slice .int)) (o := (oi 2 1)) (len := l7_m5_1.length) (k := .i64) (m := ((l7_m14 : Nat) : Int)) (by kernel_rfl) (by kernel_rfl) rfl (nat_nn _) rfl (getN_lt e14)) ?_
   refine dsn2 (oi 2 1) (oi 2 1) (.vec 23 1 l7_m5_1.length ((hdL (oi 3 1) .int l7_m5_1).set l7_m14 (.own (oi 21 9) .int 0 a1.toNat))) (s_stV (o := (oi 2 1)) (e1 := 23) (m := l7_m5_1.length) (cs := hdL (oi 3 1) .int l7_m5_1) (v := (.own (oi 21 9) .int 0 a1.toNat)) (j := l7_m14) (by kernel_rfl) (by kernel_rfl) (by kernel_rfl) rfl (by rw [hdL_len]; exact getN_lt e14)) ?_
   refine dnil (badB_spec (by kernel_rfl)) (bn_ (tn_ ?_))
   refine ⟨_, weak_set_ (e1 := 23) (e := 3) (u := .int) (n := l7_m5_1.length) (len := a1.toNat) (row := List.replicate a1.toNat (0 : Int)) (ys := List.replicate a1.toNat (0 : Int)) (xss := l7_m5_1) (j := l7_m14) 9000 (oi 2 1) (oi 3 1) (oi 21 9) (by kernel_rfl) (by kernel_rfl) rfl (by kernel_rfl) (by kernel_rfl) (tw_le List.length_replicate.symm) (tw_eq List.length_replicate.symm) (by kernel_rfl) (by kernel_rfl) (by kernel_rfl), ?_⟩
   obtain ⟨g15, h⟩ := og_some h
   refine awp_region_ 15 ?_
   refine rs0 (ai ((l7_m14 + 1 : Nat) : Int)) (s_add1 (j := l7_m14) (by kernel_rfl) (by kernel_rfl) g15) ?_
   refine rsB 1 ?_
   refine rnil (tn_ ?_)
   obtain rfl := Option.some.inj h
   exact ⟨(l7_m14 + 1, l7_m5_1.set l7_m14 (List.replicate a1.toNat (0 : Int))), _, ((weak_ob_ (oi 1 1) (.cells 44 [(ai a1), (.own (oi 2 1) (.slice .int) 0 l7_m5_1.length)]) (.cells 44 [(ai a1), (.own (oi 2 1) (.slice .int) 0 ((l7_m5_1.set l7_m14 (List.replicate a1.toNat (0 : Int))).length))]) (by kernel_rfl) (congrArg (fun z_ => (.cells 44 [(ai a1), (.own (oi 2 1) (.slice .int) 0 z_)] : Ob)) ((Eq.trans (b := l7_m5_1.length) rfl List.length_set.symm) : l7_m5_1.length = (l7_m5_1.set l7_m14 (List.replicate a1.toNat (0 : Int))).length))).trans (weak_ren [((oi 3 1), (oi 9000 12))])), ⟨l7_m14 + 1, l7_m5_1.set l7_m14 (List.replicate a1.toNat (0 : Int)), rfl, rfl⟩, hn7⟩
  have q10_ := of_decide_eq_false q10
  refine awp_condF_ q10 ?_
  refine awp_exit_ (te_ (te_ (be_ (tn_ ?_))))
  obtain rfl := Option.some.inj h
  have h := hn7
  (try dsimp only at h)
  obtain rfl := Option.some.inj h
  exact ⟨_, (weak_ren []), rfl⟩
 rintro l5_m5_1 _ rfl h
 (try dsimp only at h)
 refine seqR ?_
 refine awp_ret_ ?_
 obtain rfl := Option.some.inj h
 exact retM_ [(.agg [(ai a1), (.own (oi 1 1) (.slice .int) 0 l5_m5_1.length)])] (weak_ren (tl := [(4, (.box (oi 0 1) 0))]) (g := 2) [((oi 1 1), (oi 2 1)), ((oi 2 1), (oi 3 1))])
end Go.Proofs.YtefolocdfgelcaaDoor
namespace Go.Proofs.YtefolocdfgelcaaDoor
open Go.RowKit Go.Deep
set_option maxRecDepth 4000
def m_spec_l1Least : AC :=
 (.seq (rg [xo 4 (qm (ci 0))])
 (.seq (.seq (rg [xo 5 (qm (tm 0)), xo 6 (qm (tm 1)), xo 7 (qb .lss (tm 5) (tm 6))])
 (.cond (tm 7)
  (.seq (rg [xo 8 (qm (tm 0)), xo 4 (qm (tm 8))])
  .ret)
  .skip))
 (.seq (rg [xo 9 (qm (tm 1)), xo 4 (qm (tm 9))])
 .ret)))
def r_spec_l1Least : List Res := [.tmp 4]
theorem c_spec_l1Least : compiled Tryd.prog Tryd.f97 = some (m_spec_l1Least, r_spec_l1Least) := by kernel_rfl
theorem hb_spec_l1Least : hasBody Tryd.prog 97 = true := by kernel_rfl
def L_spec_l1Least (a0 : Int) (a1 : Int) : Option Int :=
 cond (decide (a0 < a1))
 (some a0)
 (some a1)
def rv_spec_l1Least (r : Int) : RV := ⟨false, [(false, [.sc (.int .i64 r)])]⟩
theorem ok_spec_l1Least {a0 : Int} {a1 : Int} {r : Int} (h : L_spec_l1Least a0 a1 = some r) : CallOK Tryd.prog Tab 97 [(ai a0), (ai a1)] (rv_spec_l1Least r) := by
 refine call_of_ (by kernel_rfl) Tryd.func97 c_spec_l1Least (n := 10) (by kernel_rfl) (by simp) (tl := [(0, (ai a0)), (1, (ai a1))]) rfl ?_
 unfold m_spec_l1Least
 unfold L_spec_l1Least at h
 refine seqR ?_
 refine awp_seqv_ ?_
 refine seqR ?_
 rcases cond_some h with ⟨q4, h⟩ | ⟨q4, h⟩
 ·have q4_ := of_decide_eq_true q4
  refine awp_condT_ q4 ?_
  refine seqR ?_
  refine awp_ret_ (tr_ ?_)
  obtain rfl := Option.some.inj h
  exact ret_ [(ai a0)] (p_one rfl (l_sc (by kernel_rfl)) p_nil)
 have q4_ := of_decide_eq_false q4
 refine awp_condF_ q4 ?_
 refine awp_skip_ (tn_ ?_)
 refine ⟨_, Weak.refl _, ?_⟩
 refine seqR ?_
 refine awp_ret_ ?_
 obtain rfl := Option.some.inj h
 exact ret_ [(ai a1)] (p_one rfl (l_sc (by kernel_rfl)) p_nil)
def m_spec_l1Most : AC :=
 (.seq (rg [xo 4 (qm (ci 0))])
 (.seq (.seq (rg [xo 5 (qm (tm 0)), xo 6 (qm (tm 1)), xo 7 (qb .gtr (tm 5) (tm 6))])
 (.cond (tm 7)
  (.seq (rg [xo 8 (qm (tm 0)), xo 4 (qm (tm 8))])
  .ret)
  .skip))
 (.seq (rg [xo 9 (qm (tm 1)), xo 4 (qm (tm 9))])
 .ret)))
def r_spec_l1Most : List Res := [.tmp 4]
theorem c_spec_l1Most : compiled Tryd.prog Tryd.f98 = some (m_spec_l1Most, r_spec_l1Most) := by kernel_rfl
theorem hb_spec_l1Most : hasBody Tryd.prog 98 = true := by kernel_rfl
def L_spec_l1Most (a0 : Int) (a1 : Int) : Option Int :=
 cond (decide (a1 < a0))
 (some a0)
 (some a1)
def rv_spec_l1Most (r : Int) : RV := ⟨false, [(false, [.sc (.int .i64 r)])]⟩
theorem ok_spec_l1Most {a0 : Int} {a1 : Int} {r : Int} (h : L_spec_l1Most a0 a1 = some r) : CallOK Tryd.prog Tab 98 [(ai a0), (ai a1)] (rv_spec_l1Most r) := by
 refine call_of_ (by kernel_rfl) Tryd.func98 c_spec_l1Most (n := 10) (by kernel_rfl) (by simp) (tl := [(0, (ai a0)), (1, (ai a1))]) rfl ?_
 unfold m_spec_l1Most
 unfold L_spec_l1Most at h
 refine seqR ?_
 refine awp_seqv_ ?_
 refine seqR ?_
 rcases cond_some h with ⟨q4, h⟩ | ⟨q4, h⟩
 ·have q4_ := of_decide_eq_true q4
  refine awp_condT_ q4 ?_
  refine seqR ?_
  refine awp_ret_ (tr_ ?_)
  obtain rfl := Option.some.inj h
  exact ret_ [(ai a0)] (p_one rfl (l_sc (by kernel_rfl)) p_nil)
 have q4_ := of_decide_eq_false q4
 refine awp_condF_ q4 ?_
 refine awp_skip_ (tn_ ?_)
 refine ⟨_, Weak.refl _, ?_⟩
 refine seqR ?_
 refine awp_ret_ ?_
 obtain rfl := Option.some.inj h
 exact ret_ [(ai a1)] (p_one rfl (l_sc (by kernel_rfl)) p_nil)
def m_spec_fdAdd : AC :=
 (.seq (rg [xo 6 (qm (ci 0))])
 (.seq (rg [xo 7 (qm (tm 1)), xo 8 (qm (tm 2)), xo 9 (qb .add (tm 7) (tm 8)), xo 10 (qm (tm 0)), xo 11 (qb .rem (tm 9) (tm 10)), xo 6 (qm (tm 11))])
 .ret))
def r_spec_fdAdd : List Res := [.tmp 6]
theorem c_spec_fdAdd : compiled Tryd.prog Tryd.f48 = some (m_spec_fdAdd, r_spec_fdAdd) := by kernel_rfl
theorem hb_spec_fdAdd : hasBody Tryd.prog 48 = true := by kernel_rfl
def L_spec_fdAdd (a0 : Int) (a1 : Int) (a2 : Int) : Option Int :=
 og (a0 ≠ 0) <|
some (Int.tmod (IntKind.i64.wrap (a1 + a2)) a0)
def rv_spec_fdAdd (r : Int) : RV := ⟨false, [(false, [.sc (.int .i64 r)])]⟩
theorem ok_spec_fdAdd {a0 : Int} {a1 : Int} {a2 : Int} {r : Int} (h : L_spec_fdAdd a0 a1 a2 = some r) : CallOK Tryd.prog Tab 48 [(ai a0), (ai a1), (ai a2)] (rv_spec_fdAdd r) := by
 refine call_of_ (by kernel_rfl) Tryd.func48 c_spec_fdAdd (n := 12) (by kernel_rfl) (by simp) (tl := [(0, (ai a0)), (1, (ai a1)), (2, (ai a2))]) rfl ?_
 unfold m_spec_fdAdd
 unfold L_spec_fdAdd at h
 refine seqR ?_
 refine awp_seqv_ ?_
 obtain ⟨g3, h⟩ := og_some h
 refine awp_region_ 8 ?_
 refine rs0 (ai a1) (by kernel_rfl) ?_
 refine rs0 (ai a2) (by kernel_rfl) ?_
 refine rs0 (ai (IntKind.i64.wrap (a1 + a2))) (by kernel_rfl) ?_
 refine rs0 (ai a0) (by kernel_rfl) ?_
 refine rs0 (ai (Int.tmod (IntKind.i64.wrap (a1 + a2)) a0)) (s_rem (k := .i64) (a := IntKind.i64.wrap (a1 + a2)) (b := a0) (by kernel_rfl) (by kernel_rfl) g3) ?_
 refine rsB 1 ?_
 refine rnil (tn_ ?_)
 refine ⟨_, Weak.refl _, ?_⟩
 refine awp_ret_ ?_
 obtain rfl := Option.some.inj h
 exact ret_ [(ai (Int.tmod (IntKind.i64.wrap (a1 + a2)) a0))] (p_one rfl (l_sc (by kernel_rfl)) p_nil)
def m_spec_l1Own : AC :=
 (.seq (rg [xo 2 (qm (.cst .nils))])
 (.seq (rg [xo 3 (.mkS 3 .int []), xo 4 (qm (tm 0)), xo 5 (.append 3 .int 8 (tm 3) (tm 4)), xo 2 (qm (tm 5))])
 .ret))
def r_spec_l1Own : List Res := [.tmp 2]
theorem c_spec_l1Own : compiled Tryd.prog Tryd.f52 = some (m_spec_l1Own, r_spec_l1Own) := by kernel_rfl
theorem hb_spec_l1Own : hasBody Tryd.prog 52 = true := by kernel_rfl
def L_spec_l1Own (a0 : List Int) : Option (List Int) :=
 og (0 + a0.length ≤ 1073741824 ∧ (0 + a0.length) * 8 ≤ 140737488355328) <|
some a0
def rv_spec_l1Own (r : List Int) : RV := ⟨false, [(false, [.new 3 .int r])]⟩
theorem ok_spec_l1Own {a0 : List Int} {r : List Int} (h : L_spec_l1Own a0 = some r) : CallOK Tryd.prog Tab 52 [(.tree .int a0)] (rv_spec_l1Own r) := by
 refine call_of_ (by kernel_rfl) Tryd.func52 c_spec_l1Own (n := 6) (by kernel_rfl) (by simp) (tl := [(0, (.tree .int a0))]) rfl ?_
 unfold m_spec_l1Own
 unfold L_spec_l1Own at h
 refine seqR ?_
 refine awp_seqv_ ?_
 obtain ⟨g3, h⟩ := og_some h
 refine awp_region_ 6 ?_
 refine rs1 (.own (oi 3 2) .int 0 0) (oi 3 2) (.arr 3 .int []) (by kernel_rfl) ?_
 refine rs0 (.tree .int a0) (by kernel_rfl) ?_
 refine rs2 (.own (oi 3 4) .int 0 a0.length) (oi 3 2) (oi 3 4) (.arr 3 .int a0) (s_appO (t := .int) (t' := .int) (xs := []) (ys := a0) (zs := a0) (j := (oi 3 2)) (len := 0) (c := (.tree .int a0)) (by kernel_rfl) (by kernel_rfl) rfl (by kernel_rfl) sr_tree rfl g3) ?_
 refine rsB 1 ?_
 refine rnil (tn_ ?_)
 refine ⟨_, Weak.refl _, ?_⟩
 refine awp_ret_ ?_
 obtain rfl := Option.some.inj h
 exact ret_ [(.own (oi 3 4) .int 0 a0.length)] (p_one rfl (l_own (by kernel_rfl) rfl) p_nil)
def m_spec_nwMerge_l3 : AC :=
 (.seq (rg [xo 77 (qb .lss (tm 76) (tm 75))])
 (.seq (.cond (tm 77)
  .skip
  (.exit 4))
 (.seq (.block 5 (.seq (rg [xo 78 (qm (tm 76)), xo 79 (qx 1 (tm 74) (tm 76)), xo 80 (ql (tm 79)), xo 13 (qm (tm 78)), xo 14 (qm (tm 80))])
 (.seq (rg [xo 81 (qm (tm 14)), xo 82 (qb .neq (tm 81) (ci 0))])
 (.cond (tm 82)
  (rg [xo 83 (qf 1 (tm 10)), xo 84 (ql (tm 83)), xo 85 (qm (tm 11)), xo 86 (qm (tm 13)), xo 87 (qm (tm 14)), xo 88 (.build [(.int .i64 0), (.int .i64 0), (.int .i64 0)] [(0, 1, (tm 85)), (1, 1, (tm 86)), (2, 1, (tm 87))]), xo 89 (.mkS 59 (.pair .int (.pair .int .int)) [(tm 88)]), xo 90 (.append 59 (.pair .int (.pair .int .int)) 24 (tm 84) (tm 89)), xo 91 (qf 1 (tm 10)), xn (qs (tm 91) (tm 90))])
  .skip))))
 (rg [xo 92 (qb .add (tm 76) (ci 1)), xo 76 (qm (tm 92))]))))
def m_spec_nwMerge_l2 : AC :=
 (.seq (rg [xo 70 (qb .lss (tm 69) (tm 68))])
 (.seq (.cond (tm 70)
  .skip
  (.exit 2))
 (.seq (.block 3 (.seq (rg [xo 71 (qm (tm 69)), xo 72 (qx 1 (tm 67) (tm 69)), xo 73 (ql (tm 72)), xo 11 (qm (tm 71)), xo 12 (qm (tm 73))])
 (.seq (rg [xo 74 (qm (tm 12)), xo 75 (.i (.len (tm 74))), xo 76 (qm (ci 0))])
 (.block 4 (.loop m_spec_nwMerge_l3)))))
 (rg [xo 93 (qb .add (tm 69) (ci 1)), xo 69 (qm (tm 93))]))))
def m_spec_nwMerge_l1 : AC :=
 (.seq (rg [xo 24 (qb .lss (tm 23) (tm 22))])
 (.seq (.cond (tm 24)
  .skip
  (.exit 0))
 (.seq (.block 1 (.seq (rg [xo 25 (qx 3 (tm 21) (tm 23)), xo 26 (.i (.ld false 3 (tm 25))), xo 7 (.i (.alloc 59 [(.int .i64 0), (.int .i64 0), (.int .i64 0)])), xn (.st false 3 (tm 7) (tm 26))])
 (.seq (.region [xo 27 (qf 0 (tm 7)), xo 28 (ql (tm 27)), xo 29 (qf 1 (tm 7)), xo 30 (ql (tm 29)), xo 31 (qc 97 [(tm 28), (tm 30)] [[], []]), xo 32 (qf 0 (tm 7)), xo 33 (ql (tm 32)), xo 34 (qf 1 (tm 7)), xo 35 (ql (tm 34)), xo 36 (qc 98 [(tm 33), (tm 35)] [[], []]), xo 8 (qm (tm 31)), xo 9 (qm (tm 36))] true [(4, 6), (4, 8)])
 (.region [xo 37 (qf 1 (tm 5)), xo 38 (ql (tm 37)), xo 39 (qm (tm 8)), xo 40 (qx 1 (tm 38) (tm 39)), xo 41 (ql (tm 40)), xo 42 (qm (tm 9)), xo 43 (qm (tm 0)), xo 44 (qf 1 (tm 5)), xo 45 (ql (tm 44)), xo 46 (qm (tm 8)), xo 47 (qx 1 (tm 45) (tm 46)), xo 48 (ql (tm 47)), xo 49 (qm (tm 9)), xo 50 (qx 1 (tm 48) (tm 49)), xo 51 (ql (tm 50)), xo 52 (qf 2 (tm 7)), xo 53 (ql (tm 52)), xo 54 (qc 48 [(tm 43), (tm 51), (tm 53)] [[], [], []]), xo 55 (qx 1 (tm 41) (tm 42)), xn (qs (tm 55) (tm 54))] true [(1, 17), (4, 17)]))))
 (rg [xo 56 (qb .add (tm 23) (ci 1)), xo 23 (qm (tm 56))]))))
def m_spec_nwMerge : AC :=
 (.seq (rg [xo 3 (.i (.box 30 (tm 1))), xo 4 (.i (.alloc 30 [(.int .i64 0), .nils, .nils, .nils]))])
 (.seq (rg [xo 15 (qf 0 (tm 3)), xo 16 (ql (tm 15)), xo 17 (qf 0 (tm 3)), xo 18 (ql (tm 17)), xo 19 (qc 96 [(tm 16), (tm 18)] [[], []]), xo 5 (.i (.alloc 44 [(.int .i64 0), .nils])), xn (.st false 2 (tm 5) (tm 19))])
 (.seq (.seq (rg [xo 20 (qf 1 (tm 3)), xo 21 (ql (tm 20)), xo 22 (.i (.len (tm 21))), xo 23 (qm (ci 0))])
 (.block 0 (.loop m_spec_nwMerge_l1)))
 (.seq (.region [xo 57 (qf 0 (tm 3)), xo 58 (ql (tm 57)), xo 59 (qf 2 (tm 3)), xo 60 (ql (tm 59)), xo 61 (qc 52 [(tm 60)] [[(some .int)]]), xo 62 (qf 3 (tm 3)), xo 63 (ql (tm 62)), xo 64 (qc 52 [(tm 63)] [[(some .int)]]), xo 65 (.build [(.int .i64 0), .nils, .nils, .nils] [(0, 1, (tm 58)), (2, 1, (tm 61)), (3, 1, (tm 64))]), xo 10 (.i (.alloc 30 [(.int .i64 0), .nils, .nils, .nils])), xn (.st false 4 (tm 10) (tm 65))] true [(1, 4), (4, 6), (1, 7), (4, 9), (7, 9)])
 (.seq (.seq (rg [xo 66 (qf 1 (tm 5)), xo 67 (ql (tm 66)), xo 68 (.i (.len (tm 67))), xo 69 (qm (ci 0))])
 (.block 2 (.loop m_spec_nwMerge_l2)))
 (.seq (rg [xo 94 (.i (.ld false 4 (tm 10))), xn (.st false 4 (tm 4) (tm 94))])
 .ret))))))
def r_spec_nwMerge : List Res := [.cell 4 false 4]
theorem c_spec_nwMerge : compiled Tryd.prog Tryd.f65 = some (m_spec_nwMerge, r_spec_nwMerge) := by kernel_rfl
theorem hb_spec_nwMerge : hasBody Tryd.prog 65 = true := by kernel_rfl
def L_spec_nwMerge_l1 (a1_1 : List (Int × Int × Int)) (a0 : Int) (l6_m23 : Nat) (l6_m5_1 : List (List Int)) : Option (Ctl (Nat × List (List Int)) (List (List Int))) :=
 cond (decide (((l6_m23 : Nat) : Int) < ((a1_1.length : Nat) : Int)))
 (Option.bind (a1_1[l6_m23]?) fun x12 =>
 Option.bind (L_spec_l1Least x12.1 x12.2.1) fun y14 =>
 Option.bind (L_spec_l1Most x12.1 x12.2.1) fun y15 =>
 Option.bind (getI l6_m5_1 y14) fun x16 =>
 Option.bind (getI x16 y15) fun x17 =>
 Option.bind (L_spec_fdAdd a0 x17 x12.2.2) fun y18 =>
 og (l6_m23 + 1 < 4611686018427387904) <|
 some (Ctl.next (l6_m23 + 1, l6_m5_1.set y14.toNat (x16.set y15.toNat y18))))
 (some (Ctl.out l6_m5_1))
def L_spec_nwMerge_l3 (x31 : List Int) (l25_m69 : Nat) (l33_m76 : Nat) (l33_m10_1 : List (Int × Int × Int)) : Option (Ctl (Nat × (List (Int × Int × Int))) (List (Int × Int × Int))) :=
 cond (decide (((l33_m76 : Nat) : Int) < ((x31.length : Nat) : Int)))
 (Option.bind (Option.bind (x31[l33_m76]?) fun x39 =>
  cond (x39 != 0)
   (og (l33_m10_1.length + 1 ≤ 1073741824 ∧ (l33_m10_1.length + 1) * 24 ≤ 140737488355328) <|
   some (l33_m10_1 ++ ([(((l25_m69 : Nat) : Int), ((l33_m76 : Nat) : Int), x39)])))
   (some l33_m10_1)) fun l37_m10_1 =>
 og (l33_m76 + 1 < 4611686018427387904) <|
 some (Ctl.next (l33_m76 + 1, l37_m10_1)))
 (some (Ctl.out l33_m10_1))
def L_spec_nwMerge_l2 (l4_m5_1 : List (List Int)) (l25_m69 : Nat) (l25_m10_1 : List (Int × Int × Int)) : Option (Ctl (Nat × (List (Int × Int × Int))) (List (Int × Int × Int))) :=
 cond (decide (((l25_m69 : Nat) : Int) < ((l4_m5_1.length : Nat) : Int)))
 (Option.bind (Option.bind (l4_m5_1[l25_m69]?) fun x31 =>
  loopM (fun s_ : Nat × (List (Int × Int × Int)) => L_spec_nwMerge_l3 x31 l25_m69 s_.1 s_.2) 4611686018427387904 (0, l25_m10_1)) fun l29_m10_1 =>
 og (l25_m69 + 1 < 4611686018427387904) <|
 some (Ctl.next (l25_m69 + 1, l29_m10_1)))
 (some (Ctl.out l25_m10_1))
def L_spec_nwMerge (a0 : Int) (a1_0 : Int) (a1_1 : List (Int × Int × Int)) (a1_2 : List Int) (a1_3 : List Int) : Option (Int × (List (Int × Int × Int)) × List Int × List Int) :=
 Option.bind (L_spec_mxZero a1_0 a1_0) fun y3 =>
Option.bind (loopM (fun s_ : Nat × List (List Int) => L_spec_nwMerge_l1 a1_1 a0 s_.1 s_.2) 4611686018427387904 (0, y3)) fun l4_m5_1 =>
Option.bind (L_spec_l1Own a1_2) fun y21 =>
Option.bind (L_spec_l1Own a1_3) fun y22 =>
Option.bind (loopM (fun s_ : Nat × (List (Int × Int × Int)) => L_spec_nwMerge_l2 l4_m5_1 s_.1 s_.2) 4611686018427387904 (0, [])) fun l23_m10_1 =>
some (a1_0, l23_m10_1, y21, y22)
def rv_spec_nwMerge (r : Int × (List (Int × Int × Int)) × List Int × List Int) : RV := ⟨false, [(true, [.sc (.int .i64 r.1), .new 59 (.pair .int (.pair .int .int)) r.2.1, .new 3 .int r.2.2.1, .new 3 .int r.2.2.2])]⟩
theorem ok_spec_nwMerge {a0 : Int} {a1_0 : Int} {a1_1 : List (Int × Int × Int)} {a1_2 : List Int} {a1_3 : List Int} {r : Int × (List (Int × Int × Int)) × List Int × List Int} (h : L_spec_nwMerge a0 a1_0 a1_1 a1_2 a1_3 = some r) : CallOK Tryd.prog Tab 65 [(ai a0), (.agg [(ai a1_0), (.tree (.pair .int (.pair .int .int)) a1_1), (.tree .int a1_2), (.tree .int a1_3)])] (rv_spec_nwMerge r) := by
 refine call_of_ (by kernel_rfl) Tryd.func65 c_spec_nwMerge (n := 95) (by kernel_rfl) (by simp) (tl := [(0, (ai a0)), (1, (.agg [(ai a1_0), (.tree (.pair .int (.pair .int .int)) a1_1), (.tree .int a1_2), (.tree .int a1_3)]))]) rfl ?_
 unfold m_spec_nwMerge
 unfold L_spec_nwMerge at h
 refine seqR ?_
 refine awp_seqv_ ?_
 obtain ⟨y3, h3, h⟩ := ob_some h
 refine awp_region_ 10 ?_
 refine rs0 (.box (oi 3 1) 0) (by kernel_rfl) ?_
 refine rsl (ai a1_0) (by kernel_rfl) ?_
 refine rs0 (.box (oi 3 1) 0) (by kernel_rfl) ?_
 refine rsl (ai a1_0) (by kernel_rfl) ?_
 refine rcallM (.agg [(ai a1_0), (.own (oi 305 7) (.slice .int) 0 y3.length)]) [((oi 304 7), some (.cells 44 [(ai a1_0), (.own (oi 305 7) (.slice .int) 0 y3.length)])), ((oi 305 7), some (.mat 23 (oi 306 7) .int y3)), ((oi 306 7), some (.pool 3 .int y3))] [] [(ai a1_0), (ai a1_0)] (caps := []) trivial (ok_spec_mxZero h3) hb_spec_mxZero trivial (.cons (.ren (by kernel_rfl)) (.cons (.ren (by kernel_rfl)) .nil)) (reachL_mem (by kernel_rfl) (by kernel_rfl) trivial) ?_
 refine rsB 2 ?_
 refine rnil (tn_ ?_)
 refine ⟨_, Weak.refl _, ?_⟩
 refine awp_seqB h (fun (l4_m5_1 : List (List Int)) S_ => S_ = ⟨mkTm [(3, (.box (oi 0 1) 0)), (4, (.box (oi 1 1) 0)), (5, (.box (oi 2 1) 0))], mkOb (someL [((oi 0 1), .cells 30 [(ai a1_0), (.tree (.pair .int (.pair .int .int)) a1_1), (.tree .int a1_2), (.tree .int a1_3)]), ((oi 1 1), .cells 30 [(ai 0), .nils, .nils, .nils]), ((oi 2 1), .cells 44 [(ai a1_0), (.own (oi 3 1) (.slice .int) 0 l4_m5_1.length)]), ((oi 3 1), .mat 23 (oi 4 1) .int l4_m5_1), ((oi 4 1), .pool 3 .int l4_m5_1)]), 2⟩) ?_ ?_
 ·intro v_ h
  refine seqR ?_
  refine awp_block_ ?_
  refine awp_loopL h (fun t_ S_ => ∃ (l6_m23 : Nat), ∃ (l6_m5_1 : List (List Int)), t_ = (l6_m23, l6_m5_1) ∧ S_ = ⟨mkTm [(0, (ai a0)), (3, (.box (oi 0 1) 0)), (4, (.box (oi 1 1) 0)), (5, (.box (oi 2 1) 0)), (21, (.tree (.pair .int (.pair .int .int)) a1_1)), (22, (ai ((a1_1.length : Nat) : Int))), (23, (ai ((l6_m23 : Nat) : Int)))], mkOb (someL [((oi 0 1), .cells 30 [(ai a1_0), (.tree (.pair .int (.pair .int .int)) a1_1), (.tree .int a1_2), (.tree .int a1_3)]), ((oi 1 1), .cells 30 [(ai 0), .nils, .nils, .nils]), ((oi 2 1), .cells 44 [(ai a1_0), (.own (oi 3 1) (.slice .int) 0 l6_m5_1.length)]), ((oi 3 1), .mat 23 (oi 4 1) .int l6_m5_1), ((oi 4 1), .pool 3 .int l6_m5_1)]), 2⟩) ⟨_, (weak_ren [((oi 0 1), (oi 3 1)), ((oi 1 1), (oi 4 2)), ((oi 2 1), (oi 5 8)), ((oi 3 1), (oi 305 7)), ((oi 4 1), (oi 306 7))]), ⟨0, y3, rfl, rfl⟩⟩ ?_
  rintro n_ _ _ c_ ⟨l6_m23, l6_m5_1, rfl, rfl⟩ h hn6
  (try dsimp only at h)
  unfold L_spec_nwMerge_l1 at h
  unfold m_spec_nwMerge_l1
  refine seqR ?_
  refine awp_seqv_ ?_
  rcases cond_some h with ⟨q9, h⟩ | ⟨q9, h⟩
  ·have q9_ := of_decide_eq_true q9
   refine awp_condT_ q9 ?_
   refine awp_skip_ (tn_ ?_)
   refine ⟨_, Weak.refl _, ?_⟩
   refine awp_seqv_ ?_
   refine awp_block_ ?_
   refine awp_seqv_ ?_
   obtain ⟨x12, e12, h⟩ := ob_some h
   refine awp_region_ 7 ?_
   refine rs0 (.telt (.pair .int (.pair .int .int)) x12 0) (s_idxT (t := (.pair .int (.pair .int .int))) (xs := a1_1) (k := .i64) (m := ((l6_m23 : Nat) : Int)) (by kernel_rfl) (by kernel_rfl) rfl (nat_nn _) rfl e12) ?_
   refine rsB 3 ?_
   refine rnil (tn_ ?_)
   refine ⟨_, Weak.refl _, ?_⟩
   refine awp_seqv_ ?_
   obtain ⟨y14, h14, h⟩ := ob_some h
   obtain ⟨y15, h15, h⟩ := ob_some h
   refine awp_regionD_ 19 ?_
   refine ds0 (.box (oi 7 5) 0) (by kernel_rfl) ?_
   refine dsl (ai x12.1) (by kernel_rfl) ?_
   refine ds0 (.box (oi 7 5) 1) (by kernel_rfl) ?_
   refine dsl (ai x12.2.1) (by kernel_rfl) ?_
   refine dcall (ai y14) [] [(ai x12.1), (ai x12.2.1)] _ (caps := []) (args0 := [(ai x12.1), (ai x12.2.1)]) trivial (by kernel_rfl) (ok_spec_l1Least h14) hb_spec_l1Least ?_
   refine ds0 (.box (oi 7 5) 0) (by kernel_rfl) ?_
   refine dsl (ai x12.1) (by kernel_rfl) ?_
   refine ds0 (.box (oi 7 5) 1) (by kernel_rfl) ?_
   refine dsl (ai x12.2.1) (by kernel_rfl) ?_
   refine dcall (ai y15) [] [(ai x12.1), (ai x12.2.1)] _ (caps := []) (args0 := [(ai x12.1), (ai x12.2.1)]) trivial (by kernel_rfl) (ok_spec_l1Most h15) hb_spec_l1Most ?_
   refine ds0 (ai y14) (by kernel_rfl) ?_
   refine ds0 (ai y15) (by kernel_rfl) ?_
   refine dnil (badB_spec (by kernel_rfl)) (tn_ ?_)
   refine ⟨_, Weak.refl _, ?_⟩
   obtain ⟨x16, f16, h⟩ := ob_some h
   obtain ⟨p16, b16, e16⟩ := getI_some f16
   obtain ⟨x17, f17, h⟩ := ob_some h
   obtain ⟨p17, b17, e17⟩ := getI_some f17
   obtain ⟨y18, h18, h⟩ := ob_some h
   refine awp_regionD_ 39 ?_
   refine ds0 (.box (oi 2 1) 1) (by kernel_rfl) ?_
   refine dsl (.own (oi 3 1) (.slice .int) 0 l6_m5_1.length) (by kernel_rfl) ?_
   refine ds0 (ai y14) (by kernel_rfl) ?_
   refine ds0 (.elt (oi 3 1) y14.toNat 0) (s_idxO (t := (.slice .int)) (o := (oi 3 1)) (len := l6_m5_1.length) (k := .i64) (m := y14) (by kernel_rfl) (by kernel_rfl) rfl p16 rfl (getN_lt e16)) ?_
   refine dsl (.own (kid (oi 4 1) y14.toNat) .int 0 x16.length) (s_ldM (o := (oi 3 1)) (p := (oi 4 1)) (e1 := 23) (u := .int) (xss := l6_m5_1) (row := x16) (j := y14.toNat) (by kernel_rfl) (by kernel_rfl) e16) ?_
   refine ds0 (ai y15) (by kernel_rfl) ?_
   refine ds0 (ai a0) (by kernel_rfl) ?_
   refine ds0 (.box (oi 2 1) 1) (by kernel_rfl) ?_
   refine dsl (.own (oi 3 1) (.slice .int) 0 l6_m5_1.length) (by kernel_rfl) ?_
   refine ds0 (ai y14) (by kernel_rfl) ?_
   refine ds0 (.elt (oi 3 1) y14.toNat 0) (s_idxO (t := (.slice .int)) (o := (oi 3 1)) (len := l6_m5_1.length) (k := .i64) (m := y14) (by kernel_rfl) (by kernel_rfl) rfl p16 rfl (getN_lt e16)) ?_
   refine dsl (.own (kid (oi 4 1) y14.toNat) .int 0 x16.length) (s_ldM (o := (oi 3 1)) (p := (oi 4 1)) (e1 := 23) (u := .int) (xss := l6_m5_1) (row := x16) (j := y14.toNat) (by kernel_rfl) (by kernel_rfl) e16) ?_
   refine ds0 (ai y15) (by kernel_rfl) ?_
   refine ds0 (.elt (kid (oi 4 1) y14.toNat) y15.toNat 0) (s_idxO (t := .int) (o := (kid (oi 4 1) y14.toNat)) (len := x16.length) (k := .i64) (m := y15) (by kernel_rfl) (by kernel_rfl) rfl p17 rfl (getN_lt e17)) ?_
   refine dsl (ai x17) (s_ldE (i := (kid (oi 4 1) y14.toNat)) (j := y15.toNat) (k := 0) (e := 3) (t := .int) (xs := x16) (by kernel_rfl) (only1.trans (mkOb_kid (by kernel_rfl) e16)) e17 (by kernel_rfl)) ?_
   refine ds0 (.box (oi 7 5) 2) (by kernel_rfl) ?_
   refine dsl (ai x12.2.2) (by kernel_rfl) ?_
   refine dcall (ai y18) [] [(ai a0), (ai x17), (ai x12.2.2)] _ (caps := []) (args0 := [(ai a0), (ai x17), (ai x12.2.2)]) trivial (by kernel_rfl) (ok_spec_fdAdd h18) hb_spec_fdAdd ?_
   refine ds0 (.elt (kid (oi 4 1) y14.toNat) y15.toNat 0) (s_idxO (t := .int) (o := (kid (oi 4 1) y14.toNat)) (len := x16.length) (k := .i64) (m := y15) (by kernel_rfl) (by kernel_rfl) rfl p17 rfl (getN_lt e17)) ?_
   refine dsn2 (kid (oi 4 1) y14.toNat) (kid (oi 4 1) y14.toNat) (.arr 3 .int (x16.set y15.toNat y18)) (s_stE (i := (kid (oi 4 1) y14.toNat)) (j := y15.toNat) (k := 0) (e := 3) (t := .int) (xs := x16) (cs := [(ai y18)]) (x1 := y18) (by kernel_rfl) (only1.trans (mkOb_kid (by kernel_rfl) e16)) e17 (by kernel_rfl) (by kernel_rfl)) ?_
   refine xd_ob (ob_row (o := (oi 3 1)) (p := (oi 4 1)) (e1 := 23) (e := 3) (u := .int) (xss := l6_m5_1) (k := y14.toNat) (row := x16) (row' := x16.set y15.toNat y18) (by kernel_rfl) rfl (by kernel_rfl) e16 List.length_set) ?_
   refine dnil (badB_spec (by kernel_rfl)) (bn_ (tn_ ?_))
   refine ⟨_, Weak.refl _, ?_⟩
   obtain ⟨g19, h⟩ := og_some h
   refine awp_region_ 41 ?_
   refine rs0 (ai ((l6_m23 + 1 : Nat) : Int)) (s_add1 (j := l6_m23) (by kernel_rfl) (by kernel_rfl) g19) ?_
   refine rsB 1 ?_
   refine rnil (tn_ ?_)
   obtain rfl := Option.some.inj h
   exact ⟨(l6_m23 + 1, l6_m5_1.set y14.toNat (x16.set y15.toNat y18)), _, ((weak_ob_ (oi 2 1) (.cells 44 [(ai a1_0), (.own (oi 3 1) (.slice .int) 0 l6_m5_1.length)]) (.cells 44 [(ai a1_0), (.own (oi 3 1) (.slice .int) 0 ((l6_m5_1.set y14.toNat (x16.set y15.toNat y18)).length))]) (by kernel_rfl) (congrArg (fun z_ => (.cells 44 [(ai a1_0), (.own (oi 3 1) (.slice .int) 0 z_)] : Ob)) ((Eq.trans (b := l6_m5_1.length) rfl List.length_set.symm) : l6_m5_1.length = (l6_m5_1.set y14.toNat (x16.set y15.toNat y18)).length))).trans (weak_ren [])), ⟨l6_m23 + 1, l6_m5_1.set y14.toNat (x16.set y15.toNat y18), rfl, rfl⟩, hn6⟩
  have q9_ := of_decide_eq_false q9
  refine awp_condF_ q9 ?_
  refine awp_exit_ (te_ (te_ (be_ (tn_ ?_))))
  obtain rfl := Option.some.inj h
  have h := hn6
  (try dsimp only at h)
  obtain rfl := Option.some.inj h
  exact ⟨_, (weak_ren []), rfl⟩
 rintro l4_m5_1 _ rfl h
 (try dsimp only at h)
 refine awp_seqv_ ?_
 obtain ⟨y21, h21, h⟩ := ob_some h
 obtain ⟨y22, h22, h⟩ := ob_some h
 refine awp_regionD_ 13 ?_
 refine ds0 (.box (oi 0 1) 0) (by kernel_rfl) ?_
 refine dsl (ai a1_0) (by kernel_rfl) ?_
 refine ds0 (.box (oi 0 1) 2) (by kernel_rfl) ?_
 refine dsl (.tree .int a1_2) (by kernel_rfl) ?_
 refine dcall (.own (oi 976 6) .int 0 y21.length) [((oi 976 6), some (.arr 3 .int y21))] [(.tree .int a1_2)] _ (caps := []) (args0 := [(.tree .int a1_2)]) trivial (by kernel_rfl) (ok_spec_l1Own h21) hb_spec_l1Own ?_
 refine ds0 (.box (oi 0 1) 3) (by kernel_rfl) ?_
 refine dsl (.tree .int a1_3) (by kernel_rfl) ?_
 refine dcall (.own (oi 1024 9) .int 0 y22.length) [((oi 1024 9), some (.arr 3 .int y22))] [(.tree .int a1_3)] _ (caps := []) (args0 := [(.tree .int a1_3)]) trivial (by kernel_rfl) (ok_spec_l1Own h22) hb_spec_l1Own ?_
 refine ds0 (.agg [(ai a1_0), .nils, (.own (oi 976 6) .int 0 y21.length), (.own (oi 1024 9) .int 0 y22.length)]) (by kernel_rfl) ?_
 refine ds1 (.box (oi 10 11) 0) (oi 10 11) (.cells 30 [(ai 0), .nils, .nils, .nils]) (by kernel_rfl) ?_
 refine dsn2 (oi 10 11) (oi 10 11) (.cells 30 [(ai a1_0), .nils, (.own (oi 976 6) .int 0 y21.length), (.own (oi 1024 9) .int 0 y22.length)]) (by kernel_rfl) ?_
 refine dnil (badB_spec (by kernel_rfl)) (tn_ ?_)
 refine ⟨_, Weak.refl _, ?_⟩
 refine awp_seqB h (fun (l23_m10_1 : List (Int × Int × Int)) S_ => S_ = ⟨mkTm [(4, (.box (oi 0 1) 0)), (10, (.box (oi 1 1) 0))], mkOb (someL [((oi 0 1), .cells 30 [(ai 0), .nils, .nils, .nils]), ((oi 1 1), .cells 30 [(ai a1_0), (.own (oi 2 1) (.pair .int (.pair .int .int)) 0 l23_m10_1.length), (.own (oi 3 1) .int 0 y21.length), (.own (oi 4 1) .int 0 y22.length)]), ((oi 2 1), .arr 59 (.pair .int (.pair .int .int)) l23_m10_1), ((oi 3 1), .arr 3 .int y21), ((oi 4 1), .arr 3 .int y22)]), 2⟩) ?_ ?_
 ·intro v_ h
  refine seqR ?_
  refine awp_block_ ?_
  refine awp_loopL h (fun t_ S_ => ∃ (l25_m69 : Nat), ∃ (l25_m10_1 : List (Int × Int × Int)), t_ = (l25_m69, l25_m10_1) ∧ S_ = ⟨mkTm [(4, (.box (oi 0 1) 0)), (10, (.box (oi 1 1) 0)), (67, (.own (oi 2 1) (.slice .int) 0 l4_m5_1.length)), (68, (ai ((l4_m5_1.length : Nat) : Int))), (69, (ai ((l25_m69 : Nat) : Int)))], mkOb (someL [((oi 0 1), .cells 30 [(ai 0), .nils, .nils, .nils]), ((oi 1 1), .cells 30 [(ai a1_0), (.own (oi 4 1) (.pair .int (.pair .int .int)) 0 l25_m10_1.length), (.own (oi 5 1) .int 0 y21.length), (.own (oi 6 1) .int 0 y22.length)]), ((oi 2 1), .mat 23 (oi 3 1) .int l4_m5_1), ((oi 3 1), .pool 3 .int l4_m5_1), ((oi 4 1), .arr 59 (.pair .int (.pair .int .int)) l25_m10_1), ((oi 5 1), .arr 3 .int y21), ((oi 6 1), .arr 3 .int y22)]), 2⟩) ⟨_, ((weak_nil_cell_ 9000 (oi 10 11) 1 30 [(ai a1_0), .nils, (.own (oi 976 6) .int 0 y21.length), (.own (oi 1024 9) .int 0 y22.length)] [(ai a1_0), (.own (oi 9000 17) (.pair .int (.pair .int .int)) 0 0), (.own (oi 976 6) .int 0 y21.length), (.own (oi 1024 9) .int 0 y22.length)] 59 (.pair .int (.pair .int .int)) rfl (by kernel_rfl) (by kernel_rfl) (by kernel_rfl)).trans (weak_ren [((oi 0 1), (oi 1 1)), ((oi 1 1), (oi 10 11)), ((oi 4 1), (oi 9000 17)), ((oi 5 1), (oi 976 6)), ((oi 6 1), (oi 1024 9)), ((oi 2 1), (oi 3 1)), ((oi 3 1), (oi 4 1))])), ⟨0, [], rfl, rfl⟩⟩ ?_
  rintro n_ _ _ c_ ⟨l25_m69, l25_m10_1, rfl, rfl⟩ h hn25
  (try dsimp only at h)
  unfold L_spec_nwMerge_l2 at h
  unfold m_spec_nwMerge_l2
  refine seqR ?_
  refine awp_seqv_ ?_
  rcases cond_some h with ⟨q28, h⟩ | ⟨q28, h⟩
  ·have q28_ := of_decide_eq_true q28
   refine awp_condT_ q28 ?_
   refine awp_skip_ (tn_ ?_)
   refine ⟨_, Weak.refl _, ?_⟩
   refine awp_seqB h (fun (l29_m10_1 : List (Int × Int × Int)) S_ => S_ = ⟨mkTm [(4, (.box (oi 0 1) 0)), (10, (.box (oi 1 1) 0)), (67, (.own (oi 2 1) (.slice .int) 0 l4_m5_1.length)), (68, (ai ((l4_m5_1.length : Nat) : Int))), (69, (ai ((l25_m69 : Nat) : Int)))], mkOb (someL [((oi 0 1), .cells 30 [(ai 0), .nils, .nils, .nils]), ((oi 1 1), .cells 30 [(ai a1_0), (.own (oi 4 1) (.pair .int (.pair .int .int)) 0 l29_m10_1.length), (.own (oi 5 1) .int 0 y21.length), (.own (oi 6 1) .int 0 y22.length)]), ((oi 2 1), .mat 23 (oi 3 1) .int l4_m5_1), ((oi 3 1), .pool 3 .int l4_m5_1), ((oi 4 1), .arr 59 (.pair .int (.pair .int .int)) l29_m10_1), ((oi 5 1), .arr 3 .int y21), ((oi 6 1), .arr 3 .int y22)]), 2⟩) ?_ ?_
   ·intro v_ h
    refine awp_block_ ?_
    refine awp_seqv_ ?_
    obtain ⟨x31, e31, h⟩ := ob_some h
    refine awp_region_ 8 ?_
    refine rs0 (ai ((l25_m69 : Nat) : Int)) (by kernel_rfl) ?_
    refine rs0 (.elt (oi 2 1) l25_m69 0) (s_idxO (t := (.slice .int)) (o := (oi 2 1)) (len := l4_m5_1.length) (k := .i64) (m := ((l25_m69 : Nat) : Int)) (by kernel_rfl) (by kernel_rfl) rfl (nat_nn _) rfl (getN_lt e31)) ?_
    refine rsl (.own (kid (oi 3 1) l25_m69) .int 0 x31.length) (s_ldM (o := (oi 2 1)) (p := (oi 3 1)) (e1 := 23) (u := .int) (xss := l4_m5_1) (row := x31) (j := l25_m69) (by kernel_rfl) (by kernel_rfl) e31) ?_
    refine rsB 2 ?_
    refine rnil (tn_ ?_)
    refine ⟨_, Weak.refl _, ?_⟩
    refine seqR ?_
    refine awp_block_ ?_
    refine awp_loopL h (fun t_ S_ => ∃ (l33_m76 : Nat), ∃ (l33_m10_1 : List (Int × Int × Int)), t_ = (l33_m76, l33_m10_1) ∧ S_ = ⟨mkTm [(4, (.box (oi 0 1) 0)), (10, (.box (oi 1 1) 0)), (11, (ai ((l25_m69 : Nat) : Int))), (67, (.own (oi 2 1) (.slice .int) 0 l4_m5_1.length)), (68, (ai ((l4_m5_1.length : Nat) : Int))), (69, (ai ((l25_m69 : Nat) : Int))), (74, (.own (kid (oi 3 1) l25_m69) .int 0 x31.length)), (75, (ai ((x31.length : Nat) : Int))), (76, (ai ((l33_m76 : Nat) : Int)))], mkOb (someL [((oi 0 1), .cells 30 [(ai 0), .nils, .nils, .nils]), ((oi 1 1), .cells 30 [(ai a1_0), (.own (oi 4 1) (.pair .int (.pair .int .int)) 0 l33_m10_1.length), (.own (oi 5 1) .int 0 y21.length), (.own (oi 6 1) .int 0 y22.length)]), ((oi 2 1), .mat 23 (oi 3 1) .int l4_m5_1), ((oi 3 1), .pool 3 .int l4_m5_1), ((oi 4 1), .arr 59 (.pair .int (.pair .int .int)) l33_m10_1), ((oi 5 1), .arr 3 .int y21), ((oi 6 1), .arr 3 .int y22)]), 2⟩) ⟨_, (weak_ren []), ⟨0, l25_m10_1, rfl, rfl⟩⟩ ?_
    rintro n_ _ _ c_ ⟨l33_m76, l33_m10_1, rfl, rfl⟩ h hn33
    (try dsimp only at h)
    unfold L_spec_nwMerge_l3 at h
    unfold m_spec_nwMerge_l3
    refine seqR ?_
    refine awp_seqv_ ?_
    rcases cond_some h with ⟨q36, h⟩ | ⟨q36, h⟩
    ·have q36_ := of_decide_eq_true q36
     refine awp_condT_ q36 ?_
     refine awp_skip_ (tn_ ?_)
     refine ⟨_, Weak.refl _, ?_⟩
     refine awp_seqB h (fun (l37_m10_1 : List (Int × Int × Int)) S_ => S_ = ⟨mkTm [(4, (.box (oi 0 1) 0)), (10, (.box (oi 1 1) 0)), (11, (ai ((l25_m69 : Nat) : Int))), (67, (.own (oi 2 1) (.slice .int) 0 l4_m5_1.length)), (68, (ai ((l4_m5_1.length : Nat) : Int))), (69, (ai ((l25_m69 : Nat) : Int))), (74, (.own (kid (oi 3 1) l25_m69) .int 0 x31.length)), (75, (ai ((x31.length : Nat) : Int))), (76, (ai ((l33_m76 : Nat) : Int)))], mkOb (someL [((oi 0 1), .cells 30 [(ai 0), .nils, .nils, .nils]), ((oi 1 1), .cells 30 [(ai a1_0), (.own (oi 4 1) (.pair .int (.pair .int .int)) 0 l37_m10_1.length), (.own (oi 5 1) .int 0 y21.length), (.own (oi 6 1) .int 0 y22.length)]), ((oi 2 1), .mat 23 (oi 3 1) .int l4_m5_1), ((oi 3 1), .pool 3 .int l4_m5_1), ((oi 4 1), .arr 59 (.pair .int (.pair .int .int)) l37_m10_1), ((oi 5 1), .arr 3 .int y21), ((oi 6 1), .arr 3 .int y22)]), 2⟩) ?_ ?_
     ·intro v_ h
      refine awp_block_ ?_
      refine awp_seqv_ ?_
      obtain ⟨x39, e39, h⟩ := ob_some h
      refine awp_region_ 8 ?_
      refine rs0 (ai ((l33_m76 : Nat) : Int)) (by kernel_rfl) ?_
      refine rs0 (.elt (kid (oi 3 1) l25_m69) l33_m76 0) (s_idxO (t := .int) (o := (kid (oi 3 1) l25_m69)) (len := x31.length) (k := .i64) (m := ((l33_m76 : Nat) : Int)) (by kernel_rfl) (by kernel_rfl) rfl (nat_nn _) rfl (getN_lt e39)) ?_
      refine rsl (ai x39) (s_ldE (i := (kid (oi 3 1) l25_m69)) (j := l33_m76) (k := 0) (e := 3) (t := .int) (xs := x31) (by kernel_rfl) (mkOb_kid (by kernel_rfl) e31) e39 (by kernel_rfl)) ?_
      refine rsB 2 ?_
      refine rnil (tn_ ?_)
      refine ⟨_, Weak.refl _, ?_⟩
      refine seqR ?_
      rcases cond_some h with ⟨q41, h⟩ | ⟨q41, h⟩
      ·refine awp_condT_ q41 ?_
       obtain ⟨g42, h⟩ := og_some h
       refine awp_region_ 20 ?_
       refine rs0 (.box (oi 1 1) 1) (by kernel_rfl) ?_
       refine rsl (.own (oi 4 1) (.pair .int (.pair .int .int)) 0 l33_m10_1.length) (by kernel_rfl) ?_
       refine rs0 (ai ((l25_m69 : Nat) : Int)) (by kernel_rfl) ?_
       refine rs0 (ai ((l33_m76 : Nat) : Int)) (by kernel_rfl) ?_
       refine rs0 (ai x39) (by kernel_rfl) ?_
       refine rs0 (.agg [(ai ((l25_m69 : Nat) : Int)), (ai ((l33_m76 : Nat) : Int)), (ai x39)]) (by kernel_rfl) ?_
       refine rs1 (.own (oi 89 16) (.pair .int (.pair .int .int)) 0 1) (oi 89 16) (.arr 59 (.pair .int (.pair .int .int)) ([(((l25_m69 : Nat) : Int), ((l33_m76 : Nat) : Int), x39)])) (by kernel_rfl) ?_
       refine rs2 (.own (oi 4 17) (.pair .int (.pair .int .int)) 0 ((l33_m10_1 ++ ([(((l25_m69 : Nat) : Int), ((l33_m76 : Nat) : Int), x39)])).length)) (oi 4 1) (oi 4 17) (.arr 59 (.pair .int (.pair .int .int)) (l33_m10_1 ++ ([(((l25_m69 : Nat) : Int), ((l33_m76 : Nat) : Int), x39)]))) (s_appO (t := (.pair .int (.pair .int .int))) (t' := (.pair .int (.pair .int .int))) (xs := l33_m10_1) (ys := [(((l25_m69 : Nat) : Int), ((l33_m76 : Nat) : Int), x39)]) (zs := l33_m10_1 ++ ([(((l25_m69 : Nat) : Int), ((l33_m76 : Nat) : Int), x39)])) (j := (oi 4 1)) (len := l33_m10_1.length) (c := (.own (oi 89 16) (.pair .int (.pair .int .int)) 0 1)) (by kernel_rfl) (by kernel_rfl) rfl (by kernel_rfl) (sr_own (e := 59) (by kernel_rfl) rfl) rfl g42) ?_
       refine rsB 2 ?_
       refine rnil (bn_ (tn_ ?_))
       obtain rfl := Option.some.inj h
       exact ⟨_, (weak_ren [((oi 4 1), (oi 4 17))]), rfl⟩
      refine awp_condF_ q41 ?_
      refine awp_skip_ (bn_ (tn_ ?_))
      obtain rfl := Option.some.inj h
      exact ⟨_, (weak_ren []), rfl⟩
     rintro l37_m10_1 _ rfl h
     (try dsimp only at h)
     obtain ⟨g43, h⟩ := og_some h
     refine awp_region_ 4 ?_
     refine rs0 (ai ((l33_m76 + 1 : Nat) : Int)) (s_add1 (j := l33_m76) (by kernel_rfl) (by kernel_rfl) g43) ?_
     refine rsB 1 ?_
     refine rnil (tn_ ?_)
     obtain rfl := Option.some.inj h
     exact ⟨(l33_m76 + 1, l37_m10_1), _, (weak_ren []), ⟨l33_m76 + 1, l37_m10_1, rfl, rfl⟩, hn33⟩
    have q36_ := of_decide_eq_false q36
    refine awp_condF_ q36 ?_
    refine awp_exit_ (te_ (te_ (be_ (bn_ (tn_ ?_)))))
    obtain rfl := Option.some.inj h
    have h := hn33
    (try dsimp only at h)
    obtain rfl := Option.some.inj h
    exact ⟨_, (weak_ren []), rfl⟩
   rintro l29_m10_1 _ rfl h
   (try dsimp only at h)
   obtain ⟨g44, h⟩ := og_some h
   refine awp_region_ 4 ?_
   refine rs0 (ai ((l25_m69 + 1 : Nat) : Int)) (s_add1 (j := l25_m69) (by kernel_rfl) (by kernel_rfl) g44) ?_
   refine rsB 1 ?_
   refine rnil (tn_ ?_)
   obtain rfl := Option.some.inj h
   exact ⟨(l25_m69 + 1, l29_m10_1), _, (weak_ren []), ⟨l25_m69 + 1, l29_m10_1, rfl, rfl⟩, hn25⟩
  have q28_ := of_decide_eq_false q28
  refine awp_condF_ q28 ?_
  refine awp_exit_ (te_ (te_ (be_ (tn_ ?_))))
  obtain rfl := Option.some.inj h
  have h := hn25
  (try dsimp only at h)
  obtain rfl := Option.some.inj h
  exact ⟨_, (weak_ren [((oi 2 1), (oi 4 1)), ((oi 3 1), (oi 5 1)), ((oi 4 1), (oi 6 1))]), rfl⟩
 rintro l23_m10_1 _ rfl h
 (try dsimp only at h)
 refine seqR ?_
 refine awp_ret_ ?_
 obtain rfl := Option.some.inj h
 exact ret_ [(.agg [(ai a1_0), (.own (oi 2 1) (.pair .int (.pair .int .int)) 0 l23_m10_1.length), (.own (oi 3 1) .int 0 y21.length), (.own (oi 4 1) .int 0 y22.length)])] (p_agg (l_cons (l_sc (by kernel_rfl)) (l_cons (l_own (by kernel_rfl) rfl) (l_cons (l_own (by kernel_rfl) rfl) (l_cons (l_own (by kernel_rfl) rfl) l_nil)))) p_nil)
def m_spec_nwIf : AC :=
 (.seq (rg [xo 3 (.i (.box 30 (tm 1))), xo 4 (.i (.alloc 30 [(.int .i64 0), .nils, .nils, .nils])), xo 5 (qm (cb false))])
 (.seq (.seq (rg [xo 6 (qm (tm 0)), xo 7 (.i (.ld false 4 (tm 3))), ⟨(some 8), none, (qc 42 [(tm 6), (tm 7)] [[], [none, (some (.pair .int (.pair .int .int))), (some .int), (some .int)]])⟩, xo 9 (.i (.not (tm 8)))])
 (.cond (tm 9)
  (.seq (rg [xo 10 (.build [(.int .i64 0), .nils, .nils, .nils] []), xn (.st false 4 (tm 4) (tm 10)), xo 5 (qm (cb false))])
  .ret)
  .skip))
 (.seq (rg [xo 11 (.i (.ld false 4 (tm 3))), xn (.st false 4 (tm 4) (tm 11)), xo 5 (qm (cb true))])
 .ret)))
def r_spec_nwIf : List Res := [.cell 4 false 4, .tmp 5]
theorem c_spec_nwIf : compiled Tryd.prog Tryd.f64 = some (m_spec_nwIf, r_spec_nwIf) := by kernel_rfl
theorem hb_spec_nwIf : hasBody Tryd.prog 64 = true := by kernel_rfl
def L_spec_nwIf (a0 : Int) (a1_0 : Int) (a1_1 : List (Int × Int × Int)) (a1_2 : List Int) (a1_3 : List Int) : Option (Sum (Int × Bool) (Int × Bool)) :=
 Option.bind (L_spec_nwGood a0 a1_0 a1_1 a1_2 a1_3) fun y4 =>
cond (!y4)
 (some (.inl (0, false)))
 (some (.inr (a1_0, true)))
def rv_spec_nwIf : Sum (Int × Bool) (Int × Bool) → RV
 | .inl r => ⟨true, [(true, [.sc (.int .i64 r.1), .sc .nils, .sc .nils, .sc .nils]), (false, [.sc (.bool r.2)])]⟩
 | .inr r => ⟨true, [(true, [.sc (.int .i64 r.1), .arg 1 (some 1), .arg 1 (some 2), .arg 1 (some 3)]), (false, [.sc (.bool r.2)])]⟩
theorem ok_spec_nwIf {a0 : Int} {a1_0 : Int} {a1_1 : List (Int × Int × Int)} {a1_2 : List Int} {a1_3 : List Int} {r : Sum (Int × Bool) (Int × Bool)} (h : L_spec_nwIf a0 a1_0 a1_1 a1_2 a1_3 = some r) : CallOK Tryd.prog Tab 64 [(ai a0), (.agg [(ai a1_0), (.tree (.pair .int (.pair .int .int)) a1_1), (.tree .int a1_2), (.tree .int a1_3)])] (rv_spec_nwIf r) := by
 refine call_of_g_ (by kernel_rfl) Tryd.func64 c_spec_nwIf (n := 12) (by kernel_rfl) (by simp) ?_
 intro im_ w_ vs_ hvs_
 obtain ⟨u0, _, rfl, _, ⟨_, _, rfl, ⟨_, rfl, ⟨u1_0, _, rfl, _, ⟨u1_1, _, rfl, _, ⟨u1_2, _, rfl, _, ⟨u1_3, _, rfl, _, rfl⟩⟩⟩⟩⟩, rfl⟩⟩ := hvs_
 change awp _ _ _ _ ⟨mkTm [(0, (ai a0)), (1, (.agg [(ai a1_0), (.giv u1_1 (.pair .int (.pair .int .int)) a1_1), (.giv u1_2 .int a1_2), (.giv u1_3 .int a1_3)]))], mkOb [], 1⟩
 unfold m_spec_nwIf
 unfold L_spec_nwIf at h
 refine seqR ?_
 refine awp_seqv_ ?_
 refine awp_seqv_ ?_
 obtain ⟨y4, h4, h⟩ := ob_some h
 refine awp_region_ 8 ?_
 refine rs0 (ai a0) (by kernel_rfl) ?_
 refine rsl (.agg [(ai a1_0), (.giv u1_1 (.pair .int (.pair .int .int)) a1_1), (.giv u1_2 .int a1_2), (.giv u1_3 .int a1_3)]) (by kernel_rfl) ?_
 refine rcall (.bool y4) [] [(ai a0), (.agg [(ai a1_0), (.giv u1_1 (.pair .int (.pair .int .int)) a1_1), (.giv u1_2 .int a1_2), (.giv u1_3 .int a1_3)])] _ (caps := []) (args0 := [(ai a0), (.agg [(ai a1_0), (.tree (.pair .int (.pair .int .int)) a1_1), (.tree .int a1_2), (.tree .int a1_3)])]) trivial (by kernel_rfl) (ok_spec_nwGood h4) hb_spec_nwGood ?_
 refine rsB 1 ?_
 refine rnil (tn_ ?_)
 refine ⟨_, Weak.refl _, ?_⟩
 rcases cond_some h with ⟨q5, h⟩ | ⟨q5, h⟩
 ·refine awp_condT_ q5 ?_
  refine seqR ?_
  refine awp_ret_ (tr_ ?_)
  obtain rfl := Option.some.inj h
  exact ret_ [(.agg [(ai 0), .nils, .nils, .nils]), (.bool false)] (p_agg (l_cons (l_sc (by kernel_rfl)) (l_cons (l_sc (by kernel_rfl)) (l_cons (l_sc (by kernel_rfl)) (l_cons (l_sc (by kernel_rfl)) l_nil)))) (p_one rfl (l_sc (by kernel_rfl)) p_nil))
 refine awp_condF_ q5 ?_
 refine awp_skip_ (tn_ ?_)
 refine ⟨_, Weak.refl _, ?_⟩
 refine seqR ?_
 refine awp_ret_ ?_
 obtain rfl := Option.some.inj h
 exact ret_ [(.agg [(ai a1_0), (.giv u1_1 (.pair .int (.pair .int .int)) a1_1), (.giv u1_2 .int a1_2), (.giv u1_3 .int a1_3)]), (.bool true)] (p_agg (l_cons (l_sc (by kernel_rfl)) (l_cons (l_arg rfl) (l_cons (l_arg rfl) (l_cons (l_arg rfl) l_nil)))) (p_one rfl (l_sc (by kernel_rfl)) p_nil))
def m_impl_Branch_ordered : AC :=
 (.seq (rg [xo 1 (.i (.box 59 (tm 0))), xo 2 (.i (.alloc 59 [(.int .i64 0), (.int .i64 0), (.int .i64 0)]))])
 (.seq (rg [xo 3 (qf 0 (tm 1)), xo 4 (ql (tm 3)), xo 5 (qf 1 (tm 1)), xo 6 (ql (tm 5)), xo 7 (.mm false (tm 4) (tm 6)), xo 8 (qf 0 (tm 1)), xo 9 (ql (tm 8)), xo 10 (qf 1 (tm 1)), xo 11 (ql (tm 10)), xo 12 (.mm true (tm 9) (tm 11)), xo 13 (qf 2 (tm 1)), xo 14 (ql (tm 13)), xo 15 (.build [(.int .i64 0), (.int .i64 0), (.int .i64 0)] [(0, 1, (tm 7)), (1, 1, (tm 12)), (2, 1, (tm 14))]), xn (.st false 3 (tm 2) (tm 15))])
 .ret))
def r_impl_Branch_ordered : List Res := [.cell 2 false 3]
theorem c_impl_Branch_ordered : compiled Tryd.prog Tryd.f99 = some (m_impl_Branch_ordered, r_impl_Branch_ordered) := by kernel_rfl
theorem hb_impl_Branch_ordered : hasBody Tryd.prog 99 = true := by kernel_rfl
def L_impl_Branch_ordered (a0_0 : Int) (a0_1 : Int) (a0_2 : Int) : Option (Int × Int × Int) :=
 some (if a0_1 < a0_0 then a0_1 else a0_0, if a0_0 < a0_1 then a0_1 else a0_0, a0_2)
def rv_impl_Branch_ordered (r : Int × Int × Int) : RV := ⟨false, [(true, [.sc (.int .i64 r.1), .sc (.int .i64 r.2.1), .sc (.int .i64 r.2.2)])]⟩
theorem ok_impl_Branch_ordered {a0_0 : Int} {a0_1 : Int} {a0_2 : Int} {r : Int × Int × Int} (h : L_impl_Branch_ordered a0_0 a0_1 a0_2 = some r) : CallOK Tryd.prog Tab 99 [(.agg [(ai a0_0), (ai a0_1), (ai a0_2)])] (rv_impl_Branch_ordered r) := by
 refine call_of_ (by kernel_rfl) Tryd.func99 c_impl_Branch_ordered (n := 16) (by kernel_rfl) (by simp) (tl := [(0, (.agg [(ai a0_0), (ai a0_1), (ai a0_2)]))]) rfl ?_
 unfold m_impl_Branch_ordered
 unfold L_impl_Branch_ordered at h
 refine seqR ?_
 refine seqR ?_
 refine awp_ret_ ?_
 obtain rfl := Option.some.inj h
 exact ret_ [(.agg [(ai (if a0_1 < a0_0 then a0_1 else a0_0)), (ai (if a0_0 < a0_1 then a0_1 else a0_0)), (ai a0_2)])] (p_agg (l_cons (l_sc (by kernel_rfl)) (l_cons (l_sc (by kernel_rfl)) (l_cons (l_sc (by kernel_rfl)) l_nil))) p_nil)
def m_impl_mod : AC :=
 (.seq (rg [xo 4 (qm (ci 0))])
 (.seq (rg [xo 5 (qm (tm 1)), xo 6 (qm (tm 0)), xo 7 (qb .rem (tm 5) (tm 6)), xo 1 (qm (tm 7))])
 (.seq (.seq (rg [xo 8 (qm (tm 1)), xo 9 (qb .lss (tm 8) (ci 0))])
 (.cond (tm 9)
  (rg [xo 10 (qm (tm 1)), xo 11 (qm (tm 0)), xo 12 (qb .add (tm 10) (tm 11)), xo 1 (qm (tm 12))])
  .skip))
 (.seq (rg [xo 13 (qm (tm 1)), xo 4 (qm (tm 13))])
 .ret))))
def r_impl_mod : List Res := [.tmp 4]
theorem c_impl_mod : compiled Tryd.prog Tryd.f51 = some (m_impl_mod, r_impl_mod) := by kernel_rfl
theorem hb_impl_mod : hasBody Tryd.prog 51 = true := by kernel_rfl
def L_impl_mod (a0 : Int) (a1 : Int) : Option Int :=
 og (a0 ≠ 0) <|
Option.bind (cond (decide (Int.tmod a1 a0 < 0))
  (some (IntKind.i64.wrap (Int.tmod a1 a0 + a0)))
  (some (Int.tmod a1 a0))) fun l4_m1 =>
some l4_m1
def rv_impl_mod (r : Int) : RV := ⟨false, [(false, [.sc (.int .i64 r)])]⟩
theorem ok_impl_mod {a0 : Int} {a1 : Int} {r : Int} (h : L_impl_mod a0 a1 = some r) : CallOK Tryd.prog Tab 51 [(ai a0), (ai a1)] (rv_impl_mod r) := by
 refine call_of_ (by kernel_rfl) Tryd.func51 c_impl_mod (n := 14) (by kernel_rfl) (by simp) (tl := [(0, (ai a0)), (1, (ai a1))]) rfl ?_
 unfold m_impl_mod
 unfold L_impl_mod at h
 refine seqR ?_
 refine awp_seqv_ ?_
 obtain ⟨g3, h⟩ := og_some h
 refine awp_region_ 6 ?_
 refine rs0 (ai a1) (by kernel_rfl) ?_
 refine rs0 (ai a0) (by kernel_rfl) ?_
 refine rs0 (ai (Int.tmod a1 a0)) (s_rem (k := .i64) (a := a1) (b := a0) (by kernel_rfl) (by kernel_rfl) g3) ?_
 refine rsB 1 ?_
 refine rnil (tn_ ?_)
 refine ⟨_, Weak.refl _, ?_⟩
 refine awp_seqB h (fun (l4_m1 : Int) S_ => S_ = ⟨mkTm [(1, (ai l4_m1))], mkOb (someL []), 2⟩) ?_ ?_
 ·intro v_ h
  refine seqR ?_
  rcases cond_some h with ⟨q6, h⟩ | ⟨q6, h⟩
  ·have q6_ := of_decide_eq_true q6
   refine awp_condT_ q6 ?_
   refine awp_region_ 12 ?_
   refine rsB 4 ?_
   refine rnil (tn_ ?_)
   obtain rfl := Option.some.inj h
   exact ⟨_, (weak_ren []), rfl⟩
  have q6_ := of_decide_eq_false q6
  refine awp_condF_ q6 ?_
  refine awp_skip_ (tn_ ?_)
  obtain rfl := Option.some.inj h
  exact ⟨_, (weak_ren []), rfl⟩
 rintro l4_m1 _ rfl h
 (try dsimp only at h)
 refine seqR ?_
 refine awp_ret_ ?_
 obtain rfl := Option.some.inj h
 exact ret_ [(ai l4_m1)] (p_one rfl (l_sc (by kernel_rfl)) p_nil)
def m_impl_clone : AC :=
 (.seq (rg [xo 2 (qm (.cst .nils))])
 (.seq (rg [xo 3 (.mkS 3 .int []), xo 4 (qm (tm 0)), xo 5 (.append 3 .int 8 (tm 3) (tm 4)), xo 2 (qm (tm 5))])
 .ret))
def r_impl_clone : List Res := [.tmp 2]
theorem c_impl_clone : compiled Tryd.prog Tryd.f54 = some (m_impl_clone, r_impl_clone) := by kernel_rfl
theorem hb_impl_clone : hasBody Tryd.prog 54 = true := by kernel_rfl
def L_impl_clone (a0 : List Int) : Option (List Int) :=
 og (0 + a0.length ≤ 1073741824 ∧ (0 + a0.length) * 8 ≤ 140737488355328) <|
some a0
def rv_impl_clone (r : List Int) : RV := ⟨false, [(false, [.new 3 .int r])]⟩
theorem ok_impl_clone {a0 : List Int} {r : List Int} (h : L_impl_clone a0 = some r) : CallOK Tryd.prog Tab 54 [(.tree .int a0)] (rv_impl_clone r) := by
 refine call_of_ (by kernel_rfl) Tryd.func54 c_impl_clone (n := 6) (by kernel_rfl) (by simp) (tl := [(0, (.tree .int a0))]) rfl ?_
 unfold m_impl_clone
 unfold L_impl_clone at h
 refine seqR ?_
 refine awp_seqv_ ?_
 obtain ⟨g3, h⟩ := og_some h
 refine awp_region_ 6 ?_
 refine rs1 (.own (oi 3 2) .int 0 0) (oi 3 2) (.arr 3 .int []) (by kernel_rfl) ?_
 refine rs0 (.tree .int a0) (by kernel_rfl) ?_
 refine rs2 (.own (oi 3 4) .int 0 a0.length) (oi 3 2) (oi 3 4) (.arr 3 .int a0) (s_appO (t := .int) (t' := .int) (xs := []) (ys := a0) (zs := a0) (j := (oi 3 2)) (len := 0) (c := (.tree .int a0)) (by kernel_rfl) (by kernel_rfl) rfl (by kernel_rfl) sr_tree rfl g3) ?_
 refine rsB 1 ?_
 refine rnil (tn_ ?_)
 refine ⟨_, Weak.refl _, ?_⟩
 refine awp_ret_ ?_
 obtain rfl := Option.some.inj h
 exact ret_ [(.own (oi 3 4) .int 0 a0.length)] (p_one rfl (l_own (by kernel_rfl) rfl) p_nil)
def m_impl_Network_merged_l3 : AC :=
 (.seq (.seq (rg [xo 51 (qm (tm 11)), xo 52 (qf 0 (tm 2)), xo 53 (ql (tm 52)), xo 54 (qb .lss (tm 51) (tm 53))])
 (.cond (tm 54)
  .skip
  (.exit 4)))
 (.seq (.block 5 (.seq (rg [xo 57 (qm (tm 5)), xo 58 (qm (tm 10)), xo 59 (qm (tm 11)), xo 60 (.build [(.int .i64 0), (.int .i64 0), (.int .i64 0)] [(0, 1, (tm 58)), (1, 1, (tm 59))]), xo 61 (.i (.look 93 false (tm 57) (tm 60))), xo 12 (qm (tm 61))])
 (.seq (rg [xo 62 (qm (tm 12)), xo 63 (qb .neq (tm 62) (ci 0))])
 (.cond (tm 63)
  (rg [xo 64 (qf 1 (tm 9)), xo 65 (ql (tm 64)), xo 66 (qm (tm 10)), xo 67 (qm (tm 11)), xo 68 (qm (tm 12)), xo 69 (.build [(.int .i64 0), (.int .i64 0), (.int .i64 0)] [(0, 1, (tm 66)), (1, 1, (tm 67)), (2, 1, (tm 68))]), xo 70 (.mkS 59 (.pair .int (.pair .int .int)) [(tm 69)]), xo 71 (.append 59 (.pair .int (.pair .int .int)) 24 (tm 65) (tm 70)), xo 72 (qf 1 (tm 9)), xn (qs (tm 72) (tm 71))])
  .skip))))
 (rg [xo 55 (qm (tm 11)), xo 56 (qb .add (tm 55) (ci 1)), xo 11 (qm (tm 56))])))
def m_impl_Network_merged_l2 : AC :=
 (.seq (rg [xo 47 (qb .lss (tm 46) (tm 45))])
 (.seq (.cond (tm 47)
  .skip
  (.exit 2))
 (.seq (.block 3 (.seq (rg [xo 48 (qm (tm 46)), xo 10 (qm (tm 48))])
 (.seq (rg [xo 49 (qm (tm 10)), xo 50 (qb .add (tm 49) (ci 1)), xo 11 (qm (tm 50))])
 (.block 4 (.loop m_impl_Network_merged_l3)))))
 (rg [xo 73 (qb .add (tm 46) (ci 1)), xo 46 (qm (tm 73))]))))
def m_impl_Network_merged_l1 : AC :=
 (.seq (rg [xo 18 (qb .lss (tm 17) (tm 16))])
 (.seq (.cond (tm 18)
  .skip
  (.exit 0))
 (.seq (.block 1 (.seq (rg [xo 19 (qx 3 (tm 15) (tm 17)), xo 20 (.i (.ld false 3 (tm 19))), xo 7 (.i (.alloc 59 [(.int .i64 0), (.int .i64 0), (.int .i64 0)])), xn (.st false 3 (tm 7) (tm 20))])
 (.seq (rg [xo 21 (.i (.ld false 3 (tm 7))), xo 22 (qc 99 [(tm 21)] [[none, none, none]]), xo 8 (.i (.alloc 59 [(.int .i64 0), (.int .i64 0), (.int .i64 0)])), xn (.st false 3 (tm 8) (tm 22))])
 (.seq (rg [xo 23 (qf 2 (tm 8)), xn (qs (tm 23) (ci 0))])
 (.region [xo 24 (qm (tm 5)), xo 25 (.i (.ld false 3 (tm 8))), xo 26 (qm (tm 1)), xo 27 (qm (tm 5)), xo 28 (.i (.ld false 3 (tm 8))), xo 29 (.i (.look 93 false (tm 27) (tm 28))), xo 30 (qf 2 (tm 7)), xo 31 (ql (tm 30)), xo 32 (qb .add (tm 29) (tm 31)), xo 33 (qc 51 [(tm 26), (tm 32)] [[], []]), xn (.upd 93 (tm 24) (tm 25) (tm 33))] true [(1, 9)])))))
 (rg [xo 34 (qb .add (tm 17) (ci 1)), xo 17 (qm (tm 34))]))))
def m_impl_Network_merged : AC :=
 (.seq (rg [xo 2 (.i (.box 30 (tm 0))), xo 4 (.i (.alloc 30 [(.int .i64 0), .nils, .nils, .nils]))])
 (.seq (rg [xo 13 (.makeM 93 .int), xo 5 (qm (tm 13))])
 (.seq (.seq (rg [xo 14 (qf 1 (tm 2)), xo 15 (ql (tm 14)), xo 16 (.i (.len (tm 15))), xo 17 (qm (ci 0))])
 (.block 0 (.loop m_impl_Network_merged_l1)))
 (.seq (.region [xo 35 (qf 0 (tm 2)), xo 36 (ql (tm 35)), xo 37 (qf 2 (tm 2)), xo 38 (ql (tm 37)), xo 39 (qc 54 [(tm 38)] [[(some .int)]]), xo 40 (qf 3 (tm 2)), xo 41 (ql (tm 40)), xo 42 (qc 54 [(tm 41)] [[(some .int)]]), xo 43 (.build [(.int .i64 0), .nils, .nils, .nils] [(0, 1, (tm 36)), (2, 1, (tm 39)), (3, 1, (tm 42))]), xo 9 (.i (.alloc 30 [(.int .i64 0), .nils, .nils, .nils])), xn (.st false 4 (tm 9) (tm 43))] true [(1, 4), (4, 6), (1, 7), (4, 9), (7, 9)])
 (.seq (.seq (rg [xo 44 (qf 0 (tm 2)), xo 45 (ql (tm 44)), xo 46 (qm (ci 0))])
 (.block 2 (.loop m_impl_Network_merged_l2)))
 (.seq (rg [xo 74 (.i (.ld false 4 (tm 9))), xn (.st false 4 (tm 4) (tm 74))])
 .ret))))))
def r_impl_Network_merged : List Res := [.cell 4 false 4]
theorem c_impl_Network_merged : compiled Tryd.prog Tryd.f66 = some (m_impl_Network_merged, r_impl_Network_merged) := by kernel_rfl
theorem hb_impl_Network_merged : hasBody Tryd.prog 66 = true := by kernel_rfl
def L_impl_Network_merged_l1 (a0_1 : List (Int × Int × Int)) (a1 : Int) (l5_m17 : Nat) (l5_m5 : List (Int × Int)) : Option (Ctl (Nat × (List (Int × Int))) (List (Int × Int))) :=
 cond (decide (((l5_m17 : Nat) : Int) < ((a0_1.length : Nat) : Int)))
 (Option.bind (a0_1[l5_m17]?) fun x11 =>
 Option.bind (L_impl_Branch_ordered x11.1 x11.2.1 x11.2.2) fun y13 =>
 og (i64R y13.1 ∧ i64R y13.2.1 ∧ i64R 0) <|
 Option.bind (L_impl_mod a1 (IntKind.i64.wrap ((mget l5_m5 (encK y13.1 y13.2.1 0)).getD 0 + x11.2.2))) fun y16 =>
 og ((i64R y13.1 ∧ i64R y13.2.1 ∧ i64R 0) ∧ l5_m5.length < 1073741824 ∧ i64R y16) <|
 og (l5_m17 + 1 < 4611686018427387904) <|
 some (Ctl.next (l5_m17 + 1, mput l5_m5 (encK y13.1 y13.2.1 0) y16)))
 (some (Ctl.out l5_m5))
def L_impl_Network_merged_l3 (a0_0 : Int) (l24_m46 : Nat) (l3_m5 : List (Int × Int)) (l32_m11 : Nat) (l32_m9_1 : List (Int × Int × Int)) : Option (Ctl (Nat × (List (Int × Int × Int))) (List (Int × Int × Int))) :=
 cond (decide (((l32_m11 : Nat) : Int) < a0_0))
 (Option.bind (og (i64R ((l24_m46 : Nat) : Int) ∧ i64R ((l32_m11 : Nat) : Int) ∧ i64R 0) <|
  cond (((mget l3_m5 (encK ((l24_m46 : Nat) : Int) ((l32_m11 : Nat) : Int) 0)).getD 0) != 0)
   (og (l32_m9_1.length + 1 ≤ 1073741824 ∧ (l32_m9_1.length + 1) * 24 ≤ 140737488355328) <|
   some (l32_m9_1 ++ ([(((l24_m46 : Nat) : Int), ((l32_m11 : Nat) : Int), (mget l3_m5 (encK ((l24_m46 : Nat) : Int) ((l32_m11 : Nat) : Int) 0)).getD 0)])))
   (some l32_m9_1)) fun l36_m9_1 =>
 og (l32_m11 + 1 < 4611686018427387904) <|
 some (Ctl.next (l32_m11 + 1, l36_m9_1)))
 (some (Ctl.out l32_m9_1))
def L_impl_Network_merged_l2 (a0_0 : Int) (l3_m5 : List (Int × Int)) (l24_m46 : Nat) (l24_m9_1 : List (Int × Int × Int)) : Option (Ctl (Nat × (List (Int × Int × Int))) (List (Int × Int × Int))) :=
 cond (decide (((l24_m46 : Nat) : Int) < a0_0))
 (Option.bind (og (l24_m46 + 1 < 4611686018427387904) <|
  loopM (fun s_ : Nat × (List (Int × Int × Int)) => L_impl_Network_merged_l3 a0_0 l24_m46 l3_m5 s_.1 s_.2) 4611686018427387904 (l24_m46 + 1, l24_m9_1)) fun l28_m9_1 =>
 og (l24_m46 + 1 < 4611686018427387904) <|
 some (Ctl.next (l24_m46 + 1, l28_m9_1)))
 (some (Ctl.out l24_m9_1))
def L_impl_Network_merged (a0_0 : Int) (a0_1 : List (Int × Int × Int)) (a0_2 : List Int) (a0_3 : List Int) (a1 : Int) : Option (Int × (List (Int × Int × Int)) × List Int × List Int) :=
 Option.bind (loopM (fun s_ : Nat × (List (Int × Int)) => L_impl_Network_merged_l1 a0_1 a1 s_.1 s_.2) 4611686018427387904 (0, [])) fun l3_m5 =>
Option.bind (L_impl_clone a0_2) fun y20 =>
Option.bind (L_impl_clone a0_3) fun y21 =>
Option.bind (loopM (fun s_ : Nat × (List (Int × Int × Int)) => L_impl_Network_merged_l2 a0_0 l3_m5 s_.1 s_.2) 4611686018427387904 (0, [])) fun l22_m9_1 =>
some (a0_0, l22_m9_1, y20, y21)
def rv_impl_Network_merged (r : Int × (List (Int × Int × Int)) × List Int × List Int) : RV := ⟨false, [(true, [.sc (.int .i64 r.1), .new 59 (.pair .int (.pair .int .int)) r.2.1, .new 3 .int r.2.2.1, .new 3 .int r.2.2.2])]⟩
theorem ok_impl_Network_merged {a0_0 : Int} {a0_1 : List (Int × Int × Int)} {a0_2 : List Int} {a0_3 : List Int} {a1 : Int} {r : Int × (List (Int × Int × Int)) × List Int × List Int} (h : L_impl_Network_merged a0_0 a0_1 a0_2 a0_3 a1 = some r) : CallOK Tryd.prog Tab 66 [(.agg [(ai a0_0), (.tree (.pair .int (.pair .int .int)) a0_1), (.tree .int a0_2), (.tree .int a0_3)]), (ai a1)] (rv_impl_Network_merged r) := by
 refine call_of_ (by kernel_rfl) Tryd.func66 c_impl_Network_merged (n := 75) (by kernel_rfl) (by simp) (tl := [(0, (.agg [(ai a0_0), (.tree (.pair .int (.pair .int .int)) a0_1), (.tree .int a0_2), (.tree .int a0_3)])), (1, (ai a1))]) rfl ?_
 unfold m_impl_Network_merged
 unfold L_impl_Network_merged at h
 refine seqR ?_
 refine seqR ?_
 refine awp_seqB h (fun (l3_m5 : List (Int × Int)) S_ => S_ = ⟨mkTm [(2, (.box (oi 0 1) 0)), (4, (.box (oi 1 1) 0)), (5, (.mp (oi 2 1)))], mkOb (someL [((oi 0 1), .cells 30 [(ai a0_0), (.tree (.pair .int (.pair .int .int)) a0_1), (.tree .int a0_2), (.tree .int a0_3)]), ((oi 1 1), .cells 30 [(ai 0), .nils, .nils, .nils]), ((oi 2 1), .map 93 .int l3_m5)]), 2⟩) ?_ ?_
 ·intro v_ h
  refine seqR ?_
  refine awp_block_ ?_
  refine awp_loopL h (fun t_ S_ => ∃ (l5_m17 : Nat), ∃ (l5_m5 : List (Int × Int)), t_ = (l5_m17, l5_m5) ∧ S_ = ⟨mkTm [(1, (ai a1)), (2, (.box (oi 0 1) 0)), (4, (.box (oi 1 1) 0)), (5, (.mp (oi 2 1))), (15, (.tree (.pair .int (.pair .int .int)) a0_1)), (16, (ai ((a0_1.length : Nat) : Int))), (17, (ai ((l5_m17 : Nat) : Int)))], mkOb (someL [((oi 0 1), .cells 30 [(ai a0_0), (.tree (.pair .int (.pair .int .int)) a0_1), (.tree .int a0_2), (.tree .int a0_3)]), ((oi 1 1), .cells 30 [(ai 0), .nils, .nils, .nils]), ((oi 2 1), .map 93 .int l5_m5)]), 2⟩) ⟨_, (weak_ren [((oi 0 1), (oi 2 1)), ((oi 1 1), (oi 4 2)), ((oi 2 1), (oi 13 3))]), ⟨0, [], rfl, rfl⟩⟩ ?_
  rintro n_ _ _ c_ ⟨l5_m17, l5_m5, rfl, rfl⟩ h hn5
  (try dsimp only at h)
  unfold L_impl_Network_merged_l1 at h
  unfold m_impl_Network_merged_l1
  refine seqR ?_
  refine awp_seqv_ ?_
  rcases cond_some h with ⟨q8, h⟩ | ⟨q8, h⟩
  ·have q8_ := of_decide_eq_true q8
   refine awp_condT_ q8 ?_
   refine awp_skip_ (tn_ ?_)
   refine ⟨_, Weak.refl _, ?_⟩
   refine awp_seqv_ ?_
   refine awp_block_ ?_
   refine awp_seqv_ ?_
   obtain ⟨x11, e11, h⟩ := ob_some h
   refine awp_region_ 7 ?_
   refine rs0 (.telt (.pair .int (.pair .int .int)) x11 0) (s_idxT (t := (.pair .int (.pair .int .int))) (xs := a0_1) (k := .i64) (m := ((l5_m17 : Nat) : Int)) (by kernel_rfl) (by kernel_rfl) rfl (nat_nn _) rfl e11) ?_
   refine rsB 3 ?_
   refine rnil (tn_ ?_)
   refine ⟨_, Weak.refl _, ?_⟩
   refine awp_seqv_ ?_
   obtain ⟨y13, h13, h⟩ := ob_some h
   refine awp_region_ 11 ?_
   refine rsl (.agg [(ai x11.1), (ai x11.2.1), (ai x11.2.2)]) (by kernel_rfl) ?_
   refine rcall (.agg [(ai y13.1), (ai y13.2.1), (ai y13.2.2)]) [] [(.agg [(ai x11.1), (ai x11.2.1), (ai x11.2.2)])] _ (caps := []) (args0 := [(.agg [(ai x11.1), (ai x11.2.1), (ai x11.2.2)])]) trivial (by kernel_rfl) (ok_impl_Branch_ordered h13) hb_impl_Branch_ordered ?_
   refine rsB 2 ?_
   refine rnil (tn_ ?_)
   refine ⟨_, Weak.refl _, ?_⟩
   refine seqR ?_
   obtain ⟨g15, h⟩ := og_some h
   obtain ⟨y16, h16, h⟩ := ob_some h
   obtain ⟨g17, h⟩ := og_some h
   refine awp_regionD_ 24 ?_
   refine ds0 (.mp (oi 2 1)) (by kernel_rfl) ?_
   refine dsl (.agg [(ai y13.1), (ai y13.2.1), (ai 0)]) (by kernel_rfl) ?_
   refine ds0 (ai a1) (by kernel_rfl) ?_
   refine ds0 (.mp (oi 2 1)) (by kernel_rfl) ?_
   refine dsl (.agg [(ai y13.1), (ai y13.2.1), (ai 0)]) (by kernel_rfl) ?_
   refine dsl (ai ((mget l5_m5 (encK y13.1 y13.2.1 0)).getD 0)) (s_lookO3 (t := .int) (es := l5_m5) (a := y13.1) (b := y13.2.1) (c := 0) (oi 2 1) (by kernel_rfl) (by kernel_rfl) (by kernel_rfl) g15) ?_
   refine ds0 (.box (oi 7 5) 2) (by kernel_rfl) ?_
   refine dsl (ai x11.2.2) (by kernel_rfl) ?_
   refine ds0 (ai (IntKind.i64.wrap ((mget l5_m5 (encK y13.1 y13.2.1 0)).getD 0 + x11.2.2))) (by kernel_rfl) ?_
   refine dcall (ai y16) [] [(ai a1), (ai (IntKind.i64.wrap ((mget l5_m5 (encK y13.1 y13.2.1 0)).getD 0 + x11.2.2)))] _ (caps := []) (args0 := [(ai a1), (ai (IntKind.i64.wrap ((mget l5_m5 (encK y13.1 y13.2.1 0)).getD 0 + x11.2.2)))]) trivial (by kernel_rfl) (ok_impl_mod h16) hb_impl_mod ?_
   refine dsn2 (oi 2 1) (oi 2 1) (.map 93 .int (mput l5_m5 (encK y13.1 y13.2.1 0) y16)) (s_updI3 (es := l5_m5) (a := y13.1) (b := y13.2.1) (c := 0) (nv := y16) (by kernel_rfl) (by kernel_rfl) (by kernel_rfl) (by kernel_rfl) g17) ?_
   refine dnil (badB_spec (by kernel_rfl)) (bn_ (tn_ ?_))
   refine ⟨_, Weak.refl _, ?_⟩
   obtain ⟨g18, h⟩ := og_some h
   refine awp_region_ 26 ?_
   refine rs0 (ai ((l5_m17 + 1 : Nat) : Int)) (s_add1 (j := l5_m17) (by kernel_rfl) (by kernel_rfl) g18) ?_
   refine rsB 1 ?_
   refine rnil (tn_ ?_)
   obtain rfl := Option.some.inj h
   exact ⟨(l5_m17 + 1, mput l5_m5 (encK y13.1 y13.2.1 0) y16), _, (weak_ren []), ⟨l5_m17 + 1, mput l5_m5 (encK y13.1 y13.2.1 0) y16, rfl, rfl⟩, hn5⟩
  have q8_ := of_decide_eq_false q8
  refine awp_condF_ q8 ?_
  refine awp_exit_ (te_ (te_ (be_ (tn_ ?_))))
  obtain rfl := Option.some.inj h
  have h := hn5
  (try dsimp only at h)
  obtain rfl := Option.some.inj h
  exact ⟨_, (weak_ren []), rfl⟩
 rintro l3_m5 _ rfl h
 (try dsimp only at h)
 refine awp_seqv_ ?_
 obtain ⟨y20, h20, h⟩ := ob_some h
 obtain ⟨y21, h21, h⟩ := ob_some h
 refine awp_regionD_ 13 ?_
 refine ds0 (.box (oi 0 1) 0) (by kernel_rfl) ?_
 refine dsl (ai a0_0) (by kernel_rfl) ?_
 refine ds0 (.box (oi 0 1) 2) (by kernel_rfl) ?_
 refine dsl (.tree .int a0_2) (by kernel_rfl) ?_
 refine dcall (.own (oi 624 6) .int 0 y20.length) [((oi 624 6), some (.arr 3 .int y20))] [(.tree .int a0_2)] _ (caps := []) (args0 := [(.tree .int a0_2)]) trivial (by kernel_rfl) (ok_impl_clone h20) hb_impl_clone ?_
 refine ds0 (.box (oi 0 1) 3) (by kernel_rfl) ?_
 refine dsl (.tree .int a0_3) (by kernel_rfl) ?_
 refine dcall (.own (oi 672 9) .int 0 y21.length) [((oi 672 9), some (.arr 3 .int y21))] [(.tree .int a0_3)] _ (caps := []) (args0 := [(.tree .int a0_3)]) trivial (by kernel_rfl) (ok_impl_clone h21) hb_impl_clone ?_
 refine ds0 (.agg [(ai a0_0), .nils, (.own (oi 624 6) .int 0 y20.length), (.own (oi 672 9) .int 0 y21.length)]) (by kernel_rfl) ?_
 refine ds1 (.box (oi 9 11) 0) (oi 9 11) (.cells 30 [(ai 0), .nils, .nils, .nils]) (by kernel_rfl) ?_
 refine dsn2 (oi 9 11) (oi 9 11) (.cells 30 [(ai a0_0), .nils, (.own (oi 624 6) .int 0 y20.length), (.own (oi 672 9) .int 0 y21.length)]) (by kernel_rfl) ?_
 refine dnil (badB_spec (by kernel_rfl)) (tn_ ?_)
 refine ⟨_, Weak.refl _, ?_⟩
 refine awp_seqB h (fun (l22_m9_1 : List (Int × Int × Int)) S_ => S_ = ⟨mkTm [(4, (.box (oi 0 1) 0)), (9, (.box (oi 1 1) 0))], mkOb (someL [((oi 0 1), .cells 30 [(ai 0), .nils, .nils, .nils]), ((oi 1 1), .cells 30 [(ai a0_0), (.own (oi 2 1) (.pair .int (.pair .int .int)) 0 l22_m9_1.length), (.own (oi 3 1) .int 0 y20.length), (.own (oi 4 1) .int 0 y21.length)]), ((oi 2 1), .arr 59 (.pair .int (.pair .int .int)) l22_m9_1), ((oi 3 1), .arr 3 .int y20), ((oi 4 1), .arr 3 .int y21)]), 2⟩) ?_ ?_
 ·intro v_ h
  refine seqR ?_
  refine awp_block_ ?_
  refine awp_loopL h (fun t_ S_ => ∃ (l24_m46 : Nat), ∃ (l24_m9_1 : List (Int × Int × Int)), t_ = (l24_m46, l24_m9_1) ∧ S_ = ⟨mkTm [(2, (.box (oi 0 1) 0)), (4, (.box (oi 1 1) 0)), (5, (.mp (oi 2 1))), (9, (.box (oi 3 1) 0)), (45, (ai a0_0)), (46, (ai ((l24_m46 : Nat) : Int)))], mkOb (someL [((oi 0 1), .cells 30 [(ai a0_0), (.tree (.pair .int (.pair .int .int)) a0_1), (.tree .int a0_2), (.tree .int a0_3)]), ((oi 1 1), .cells 30 [(ai 0), .nils, .nils, .nils]), ((oi 2 1), .map 93 .int l3_m5), ((oi 3 1), .cells 30 [(ai a0_0), (.own (oi 4 1) (.pair .int (.pair .int .int)) 0 l24_m9_1.length), (.own (oi 5 1) .int 0 y20.length), (.own (oi 6 1) .int 0 y21.length)]), ((oi 4 1), .arr 59 (.pair .int (.pair .int .int)) l24_m9_1), ((oi 5 1), .arr 3 .int y20), ((oi 6 1), .arr 3 .int y21)]), 2⟩) ⟨_, ((weak_nil_cell_ 9000 (oi 9 11) 1 30 [(ai a0_0), .nils, (.own (oi 624 6) .int 0 y20.length), (.own (oi 672 9) .int 0 y21.length)] [(ai a0_0), (.own (oi 9000 16) (.pair .int (.pair .int .int)) 0 0), (.own (oi 624 6) .int 0 y20.length), (.own (oi 672 9) .int 0 y21.length)] 59 (.pair .int (.pair .int .int)) rfl (by kernel_rfl) (by kernel_rfl) (by kernel_rfl)).trans (weak_ren [((oi 3 1), (oi 9 11)), ((oi 4 1), (oi 9000 16)), ((oi 5 1), (oi 624 6)), ((oi 6 1), (oi 672 9))])), ⟨0, [], rfl, rfl⟩⟩ ?_
  rintro n_ _ _ c_ ⟨l24_m46, l24_m9_1, rfl, rfl⟩ h hn24
  (try dsimp only at h)
  unfold L_impl_Network_merged_l2 at h
  unfold m_impl_Network_merged_l2
  refine seqR ?_
  refine awp_seqv_ ?_
  rcases cond_some h with ⟨q27, h⟩ | ⟨q27, h⟩
  ·have q27_ := of_decide_eq_true q27
   refine awp_condT_ q27 ?_
   refine awp_skip_ (tn_ ?_)
   refine ⟨_, Weak.refl _, ?_⟩
   refine awp_seqB h (fun (l28_m9_1 : List (Int × Int × Int)) S_ => S_ = ⟨mkTm [(2, (.box (oi 0 1) 0)), (4, (.box (oi 1 1) 0)), (5, (.mp (oi 2 1))), (9, (.box (oi 3 1) 0)), (45, (ai a0_0)), (46, (ai ((l24_m46 : Nat) : Int)))], mkOb (someL [((oi 0 1), .cells 30 [(ai a0_0), (.tree (.pair .int (.pair .int .int)) a0_1), (.tree .int a0_2), (.tree .int a0_3)]), ((oi 1 1), .cells 30 [(ai 0), .nils, .nils, .nils]), ((oi 2 1), .map 93 .int l3_m5), ((oi 3 1), .cells 30 [(ai a0_0), (.own (oi 4 1) (.pair .int (.pair .int .int)) 0 l28_m9_1.length), (.own (oi 5 1) .int 0 y20.length), (.own (oi 6 1) .int 0 y21.length)]), ((oi 4 1), .arr 59 (.pair .int (.pair .int .int)) l28_m9_1), ((oi 5 1), .arr 3 .int y20), ((oi 6 1), .arr 3 .int y21)]), 2⟩) ?_ ?_
   ·intro v_ h
    refine awp_block_ ?_
    refine seqR ?_
    refine awp_seqv_ ?_
    obtain ⟨g31, h⟩ := og_some h
    refine awp_region_ 8 ?_
    refine rs0 (ai ((l24_m46 : Nat) : Int)) (by kernel_rfl) ?_
    refine rs0 (ai ((l24_m46 + 1 : Nat) : Int)) (s_add1 (j := l24_m46) (by kernel_rfl) (by kernel_rfl) g31) ?_
    refine rsB 1 ?_
    refine rnil (tn_ ?_)
    refine ⟨_, Weak.refl _, ?_⟩
    refine awp_block_ ?_
    refine awp_loopL h (fun t_ S_ => ∃ (l32_m11 : Nat), ∃ (l32_m9_1 : List (Int × Int × Int)), t_ = (l32_m11, l32_m9_1) ∧ S_ = ⟨mkTm [(2, (.box (oi 0 1) 0)), (4, (.box (oi 1 1) 0)), (5, (.mp (oi 2 1))), (9, (.box (oi 3 1) 0)), (10, (ai ((l24_m46 : Nat) : Int))), (11, (ai ((l32_m11 : Nat) : Int))), (45, (ai a0_0)), (46, (ai ((l24_m46 : Nat) : Int)))], mkOb (someL [((oi 0 1), .cells 30 [(ai a0_0), (.tree (.pair .int (.pair .int .int)) a0_1), (.tree .int a0_2), (.tree .int a0_3)]), ((oi 1 1), .cells 30 [(ai 0), .nils, .nils, .nils]), ((oi 2 1), .map 93 .int l3_m5), ((oi 3 1), .cells 30 [(ai a0_0), (.own (oi 4 1) (.pair .int (.pair .int .int)) 0 l32_m9_1.length), (.own (oi 5 1) .int 0 y20.length), (.own (oi 6 1) .int 0 y21.length)]), ((oi 4 1), .arr 59 (.pair .int (.pair .int .int)) l32_m9_1), ((oi 5 1), .arr 3 .int y20), ((oi 6 1), .arr 3 .int y21)]), 2⟩) ⟨_, (weak_ren []), ⟨l24_m46 + 1, l24_m9_1, rfl, rfl⟩⟩ ?_
    rintro n_ _ _ c_ ⟨l32_m11, l32_m9_1, rfl, rfl⟩ h hn32
    (try dsimp only at h)
    unfold L_impl_Network_merged_l3 at h
    unfold m_impl_Network_merged_l3
    refine awp_seqv_ ?_
    refine seqR ?_
    rcases cond_some h with ⟨q35, h⟩ | ⟨q35, h⟩
    ·have q35_ := of_decide_eq_true q35
     refine awp_condT_ q35 ?_
     refine awp_skip_ (tn_ ?_)
     refine ⟨_, Weak.refl _, ?_⟩
     refine awp_seqB h (fun (l36_m9_1 : List (Int × Int × Int)) S_ => S_ = ⟨mkTm [(2, (.box (oi 0 1) 0)), (4, (.box (oi 1 1) 0)), (5, (.mp (oi 2 1))), (9, (.box (oi 3 1) 0)), (10, (ai ((l24_m46 : Nat) : Int))), (11, (ai ((l32_m11 : Nat) : Int))), (45, (ai a0_0)), (46, (ai ((l24_m46 : Nat) : Int)))], mkOb (someL [((oi 0 1), .cells 30 [(ai a0_0), (.tree (.pair .int (.pair .int .int)) a0_1), (.tree .int a0_2), (.tree .int a0_3)]), ((oi 1 1), .cells 30 [(ai 0), .nils, .nils, .nils]), ((oi 2 1), .map 93 .int l3_m5), ((oi 3 1), .cells 30 [(ai a0_0), (.own (oi 4 1) (.pair .int (.pair .int .int)) 0 l36_m9_1.length), (.own (oi 5 1) .int 0 y20.length), (.own (oi 6 1) .int 0 y21.length)]), ((oi 4 1), .arr 59 (.pair .int (.pair .int .int)) l36_m9_1), ((oi 5 1), .arr 3 .int y20), ((oi 6 1), .arr 3 .int y21)]), 2⟩) ?_ ?_
     ·intro v_ h
      refine awp_block_ ?_
      refine awp_seqv_ ?_
      obtain ⟨g38, h⟩ := og_some h
      refine awp_region_ 12 ?_
      refine rs0 (.mp (oi 2 1)) (by kernel_rfl) ?_
      refine rs0 (ai ((l24_m46 : Nat) : Int)) (by kernel_rfl) ?_
      refine rs0 (ai ((l32_m11 : Nat) : Int)) (by kernel_rfl) ?_
      refine rs0 (.agg [(ai ((l24_m46 : Nat) : Int)), (ai ((l32_m11 : Nat) : Int)), (ai 0)]) (by kernel_rfl) ?_
      refine rsl (ai ((mget l3_m5 (encK ((l24_m46 : Nat) : Int) ((l32_m11 : Nat) : Int) 0)).getD 0)) (s_lookO3 (t := .int) (es := l3_m5) (a := ((l24_m46 : Nat) : Int)) (b := ((l32_m11 : Nat) : Int)) (c := 0) (oi 2 1) (by kernel_rfl) (by kernel_rfl) (by kernel_rfl) g38) ?_
      refine rsB 1 ?_
      refine rnil (tn_ ?_)
      refine ⟨_, Weak.refl _, ?_⟩
      refine seqR ?_
      rcases cond_some h with ⟨q40, h⟩ | ⟨q40, h⟩
      ·refine awp_condT_ q40 ?_
       obtain ⟨g41, h⟩ := og_some h
       refine awp_region_ 24 ?_
       refine rs0 (.box (oi 3 1) 1) (by kernel_rfl) ?_
       refine rsl (.own (oi 4 1) (.pair .int (.pair .int .int)) 0 l32_m9_1.length) (by kernel_rfl) ?_
       refine rs0 (ai ((l24_m46 : Nat) : Int)) (by kernel_rfl) ?_
       refine rs0 (ai ((l32_m11 : Nat) : Int)) (by kernel_rfl) ?_
       refine rs0 (ai ((mget l3_m5 (encK ((l24_m46 : Nat) : Int) ((l32_m11 : Nat) : Int) 0)).getD 0)) (by kernel_rfl) ?_
       refine rs0 (.agg [(ai ((l24_m46 : Nat) : Int)), (ai ((l32_m11 : Nat) : Int)), (ai ((mget l3_m5 (encK ((l24_m46 : Nat) : Int) ((l32_m11 : Nat) : Int) 0)).getD 0))]) (by kernel_rfl) ?_
       refine rs1 (.own (oi 70 20) (.pair .int (.pair .int .int)) 0 1) (oi 70 20) (.arr 59 (.pair .int (.pair .int .int)) ([(((l24_m46 : Nat) : Int), ((l32_m11 : Nat) : Int), (mget l3_m5 (encK ((l24_m46 : Nat) : Int) ((l32_m11 : Nat) : Int) 0)).getD 0)])) (by kernel_rfl) ?_
       refine rs2 (.own (oi 4 21) (.pair .int (.pair .int .int)) 0 ((l32_m9_1 ++ ([(((l24_m46 : Nat) : Int), ((l32_m11 : Nat) : Int), (mget l3_m5 (encK ((l24_m46 : Nat) : Int) ((l32_m11 : Nat) : Int) 0)).getD 0)])).length)) (oi 4 1) (oi 4 21) (.arr 59 (.pair .int (.pair .int .int)) (l32_m9_1 ++ ([(((l24_m46 : Nat) : Int), ((l32_m11 : Nat) : Int), (mget l3_m5 (encK ((l24_m46 : Nat) : Int) ((l32_m11 : Nat) : Int) 0)).getD 0)]))) (s_appO (t := (.pair .int (.pair .int .int))) (t' := (.pair .int (.pair .int .int))) (xs := l32_m9_1) (ys := [(((l24_m46 : Nat) : Int), ((l32_m11 : Nat) : Int), (mget l3_m5 (encK ((l24_m46 : Nat) : Int) ((l32_m11 : Nat) : Int) 0)).getD 0)]) (zs := l32_m9_1 ++ ([(((l24_m46 : Nat) : Int), ((l32_m11 : Nat) : Int), (mget l3_m5 (encK ((l24_m46 : Nat) : Int) ((l32_m11 : Nat) : Int) 0)).getD 0)])) (j := (oi 4 1)) (len := l32_m9_1.length) (c := (.own (oi 70 20) (.pair .int (.pair .int .int)) 0 1)) (by kernel_rfl) (by kernel_rfl) rfl (by kernel_rfl) (sr_own (e := 59) (by kernel_rfl) rfl) rfl g41) ?_
       refine rsB 2 ?_
       refine rnil (bn_ (tn_ ?_))
       obtain rfl := Option.some.inj h
       exact ⟨_, (weak_ren [((oi 4 1), (oi 4 21))]), rfl⟩
      refine awp_condF_ q40 ?_
      refine awp_skip_ (bn_ (tn_ ?_))
      obtain rfl := Option.some.inj h
      exact ⟨_, (weak_ren []), rfl⟩
     rintro l36_m9_1 _ rfl h
     (try dsimp only at h)
     obtain ⟨g42, h⟩ := og_some h
     refine awp_region_ 5 ?_
     refine rs0 (ai ((l32_m11 : Nat) : Int)) (by kernel_rfl) ?_
     refine rs0 (ai ((l32_m11 + 1 : Nat) : Int)) (s_add1 (j := l32_m11) (by kernel_rfl) (by kernel_rfl) g42) ?_
     refine rsB 1 ?_
     refine rnil (tn_ ?_)
     obtain rfl := Option.some.inj h
     exact ⟨(l32_m11 + 1, l36_m9_1), _, (weak_ren []), ⟨l32_m11 + 1, l36_m9_1, rfl, rfl⟩, hn32⟩
    have q35_ := of_decide_eq_false q35
    refine awp_condF_ q35 ?_
    refine awp_exit_ (te_ (te_ (be_ (bn_ (tn_ ?_)))))
    obtain rfl := Option.some.inj h
    have h := hn32
    (try dsimp only at h)
    obtain rfl := Option.some.inj h
    exact ⟨_, (weak_ren []), rfl⟩
   rintro l28_m9_1 _ rfl h
   (try dsimp only at h)
   obtain ⟨g43, h⟩ := og_some h
   refine awp_region_ 4 ?_
   refine rs0 (ai ((l24_m46 + 1 : Nat) : Int)) (s_add1 (j := l24_m46) (by kernel_rfl) (by kernel_rfl) g43) ?_
   refine rsB 1 ?_
   refine rnil (tn_ ?_)
   obtain rfl := Option.some.inj h
   exact ⟨(l24_m46 + 1, l28_m9_1), _, (weak_ren []), ⟨l24_m46 + 1, l28_m9_1, rfl, rfl⟩, hn24⟩
  have q27_ := of_decide_eq_false q27
  refine awp_condF_ q27 ?_
  refine awp_exit_ (te_ (te_ (be_ (tn_ ?_))))
  obtain rfl := Option.some.inj h
  have h := hn24
  (try dsimp only at h)
  obtain rfl := Option.some.inj h
  exact ⟨_, (weak_ren [((oi 0 1), (oi 1 1)), ((oi 1 1), (oi 3 1)), ((oi 2 1), (oi 4 1)), ((oi 3 1), (oi 5 1)), ((oi 4 1), (oi 6 1))]), rfl⟩
 rintro l22_m9_1 _ rfl h
 (try dsimp only at h)
 refine seqR ?_
 refine awp_ret_ ?_
 obtain rfl := Option.some.inj h
 exact ret_ [(.agg [(ai a0_0), (.own (oi 2 1) (.pair .int (.pair .int .int)) 0 l22_m9_1.length), (.own (oi 3 1) .int 0 y20.length), (.own (oi 4 1) .int 0 y21.length)])] (p_agg (l_cons (l_sc (by kernel_rfl)) (l_cons (l_own (by kernel_rfl) rfl) (l_cons (l_own (by kernel_rfl) rfl) (l_cons (l_own (by kernel_rfl) rfl) l_nil)))) p_nil)
def m_impl_validNetwork : AC :=
 (.seq (rg [xo 3 (.i (.box 30 (tm 1))), xo 4 (.i (.alloc 30 [(.int .i64 0), .nils, .nils, .nils])), xo 5 (qm (cb false))])
 (.seq (.seq (rg [xo 6 (qm (tm 0)), xo 7 (.i (.ld false 4 (tm 3))), ⟨(some 8), none, (qc 44 [(tm 6), (tm 7)] [[], [none, (some (.pair .int (.pair .int .int))), (some .int), (some .int)]])⟩, xo 9 (.i (.not (tm 8)))])
 (.cond (tm 9)
  (.seq (rg [xo 10 (.build [(.int .i64 0), .nils, .nils, .nils] []), xn (.st false 4 (tm 4) (tm 10)), xo 5 (qm (cb false))])
  .ret)
  .skip))
 (.seq (rg [xo 11 (.i (.ld false 4 (tm 3))), xn (.st false 4 (tm 4) (tm 11)), xo 5 (qm (cb true))])
 .ret)))
def r_impl_validNetwork : List Res := [.cell 4 false 4, .tmp 5]
theorem c_impl_validNetwork : compiled Tryd.prog Tryd.f69 = some (m_impl_validNetwork, r_impl_validNetwork) := by kernel_rfl
theorem hb_impl_validNetwork : hasBody Tryd.prog 69 = true := by kernel_rfl
def L_impl_validNetwork (a0 : Int) (a1_0 : Int) (a1_1 : List (Int × Int × Int)) (a1_2 : List Int) (a1_3 : List Int) : Option (Sum (Int × Bool) (Int × Bool)) :=
 Option.bind (L_impl_isNetwork a0 a1_0 a1_1 a1_2 a1_3) fun y4 =>
cond (!y4)
 (some (.inl (0, false)))
 (some (.inr (a1_0, true)))
def rv_impl_validNetwork : Sum (Int × Bool) (Int × Bool) → RV
 | .inl r => ⟨true, [(true, [.sc (.int .i64 r.1), .sc .nils, .sc .nils, .sc .nils]), (false, [.sc (.bool r.2)])]⟩
 | .inr r => ⟨true, [(true, [.sc (.int .i64 r.1), .arg 1 (some 1), .arg 1 (some 2), .arg 1 (some 3)]), (false, [.sc (.bool r.2)])]⟩
theorem ok_impl_validNetwork {a0 : Int} {a1_0 : Int} {a1_1 : List (Int × Int × Int)} {a1_2 : List Int} {a1_3 : List Int} {r : Sum (Int × Bool) (Int × Bool)} (h : L_impl_validNetwork a0 a1_0 a1_1 a1_2 a1_3 = some r) : CallOK Tryd.prog Tab 69 [(ai a0), (.agg [(ai a1_0), (.tree (.pair .int (.pair .int .int)) a1_1), (.tree .int a1_2), (.tree .int a1_3)])] (rv_impl_validNetwork r) := by
 refine call_of_g_ (by kernel_rfl) Tryd.func69 c_impl_validNetwork (n := 12) (by kernel_rfl) (by simp) ?_
 intro im_ w_ vs_ hvs_
 obtain ⟨u0, _, rfl, _, ⟨_, _, rfl, ⟨_, rfl, ⟨u1_0, _, rfl, _, ⟨u1_1, _, rfl, _, ⟨u1_2, _, rfl, _, ⟨u1_3, _, rfl, _, rfl⟩⟩⟩⟩⟩, rfl⟩⟩ := hvs_
 change awp _ _ _ _ ⟨mkTm [(0, (ai a0)), (1, (.agg [(ai a1_0), (.giv u1_1 (.pair .int (.pair .int .int)) a1_1), (.giv u1_2 .int a1_2), (.giv u1_3 .int a1_3)]))], mkOb [], 1⟩
 unfold m_impl_validNetwork
 unfold L_impl_validNetwork at h
 refine seqR ?_
 refine awp_seqv_ ?_
 refine awp_seqv_ ?_
 obtain ⟨y4, h4, h⟩ := ob_some h
 refine awp_region_ 8 ?_
 refine rs0 (ai a0) (by kernel_rfl) ?_
 refine rsl (.agg [(ai a1_0), (.giv u1_1 (.pair .int (.pair .int .int)) a1_1), (.giv u1_2 .int a1_2), (.giv u1_3 .int a1_3)]) (by kernel_rfl) ?_
 refine rcall (.bool y4) [] [(ai a0), (.agg [(ai a1_0), (.giv u1_1 (.pair .int (.pair .int .int)) a1_1), (.giv u1_2 .int a1_2), (.giv u1_3 .int a1_3)])] _ (caps := []) (args0 := [(ai a0), (.agg [(ai a1_0), (.tree (.pair .int (.pair .int .int)) a1_1), (.tree .int a1_2), (.tree .int a1_3)])]) trivial (by kernel_rfl) (ok_impl_isNetwork h4) hb_impl_isNetwork ?_
 refine rsB 1 ?_
 refine rnil (tn_ ?_)
 refine ⟨_, Weak.refl _, ?_⟩
 rcases cond_some h with ⟨q5, h⟩ | ⟨q5, h⟩
 ·refine awp_condT_ q5 ?_
  refine seqR ?_
  refine awp_ret_ (tr_ ?_)
  obtain rfl := Option.some.inj h
  exact ret_ [(.agg [(ai 0), .nils, .nils, .nils]), (.bool false)] (p_agg (l_cons (l_sc (by kernel_rfl)) (l_cons (l_sc (by kernel_rfl)) (l_cons (l_sc (by kernel_rfl)) (l_cons (l_sc (by kernel_rfl)) l_nil)))) (p_one rfl (l_sc (by kernel_rfl)) p_nil))
 refine awp_condF_ q5 ?_
 refine awp_skip_ (tn_ ?_)
 refine ⟨_, Weak.refl _, ?_⟩
 refine seqR ?_
 refine awp_ret_ ?_
 obtain rfl := Option.some.inj h
 exact ret_ [(.agg [(ai a1_0), (.giv u1_1 (.pair .int (.pair .int .int)) a1_1), (.giv u1_2 .int a1_2), (.giv u1_3 .int a1_3)]), (.bool true)] (p_agg (l_cons (l_sc (by kernel_rfl)) (l_cons (l_arg rfl) (l_cons (l_arg rfl) (l_cons (l_arg rfl) l_nil)))) (p_one rfl (l_sc (by kernel_rfl)) p_nil))
def m_spec_l1Has_l1 : AC :=
 (.seq (rg [xo 10 (qb .lss (tm 9) (tm 8))])
 (.seq (.cond (tm 10)
  .skip
  (.exit 0))
 (.seq (.block 1 (.seq (rg [xo 11 (qx 1 (tm 7) (tm 9)), xo 12 (ql (tm 11)), xo 6 (qm (tm 12))])
 (.seq (rg [xo 13 (qm (tm 6)), xo 14 (qm (tm 1)), xo 15 (qb .eql (tm 13) (tm 14))])
 (.cond (tm 15)
  (.seq (rg [xo 4 (qm (cb true))])
  .ret)
  .skip))))
 (rg [xo 16 (qb .add (tm 9) (ci 1)), xo 9 (qm (tm 16))]))))
def m_spec_l1Has : AC :=
 (.seq (rg [xo 4 (qm (cb false))])
 (.seq (.seq (rg [xo 7 (qm (tm 0)), xo 8 (.i (.len (tm 7))), xo 9 (qm (ci 0))])
 (.block 0 (.loop m_spec_l1Has_l1)))
 (.seq (rg [xo 4 (qm (cb false))])
 .ret)))
def r_spec_l1Has : List Res := [.tmp 4]
theorem c_spec_l1Has : compiled Tryd.prog Tryd.f103 = some (m_spec_l1Has, r_spec_l1Has) := by kernel_rfl
theorem hb_spec_l1Has : hasBody Tryd.prog 103 = true := by kernel_rfl
def L_spec_l1Has_l1 (a0 : List Int) (a1 : Int) (l4_m9 : Nat) : Option (Ctl Nat (Ctl Unit Bool)) :=
 cond (decide (((l4_m9 : Nat) : Int) < ((a0.length : Nat) : Int)))
 (Option.bind (a0[l4_m9]?) fun x10 =>
 cond (x10 == a1)
  (some (Ctl.out (Ctl.out true)))
  (og (l4_m9 + 1 < 4611686018427387904) <|
  some (Ctl.next (l4_m9 + 1))))
 (some (Ctl.out (Ctl.next ())))
def L_spec_l1Has (a0 : List Int) (a1 : Int) : Option Bool :=
 seqC (loopM (fun s_ : Nat => L_spec_l1Has_l1 a0 a1 s_) 4611686018427387904 0) fun _ =>
some false
def rv_spec_l1Has (r : Bool) : RV := ⟨false, [(false, [.sc (.bool r)])]⟩
theorem ok_spec_l1Has {a0 : List Int} {a1 : Int} {r : Bool} (h : L_spec_l1Has a0 a1 = some r) : CallOK Tryd.prog Tab 103 [(.tree .int a0), (ai a1)] (rv_spec_l1Has r) := by
 refine call_of_ (by kernel_rfl) Tryd.func103 c_spec_l1Has (n := 17) (by kernel_rfl) (by simp) (tl := [(0, (.tree .int a0)), (1, (ai a1))]) rfl ?_
 unfold m_spec_l1Has
 unfold L_spec_l1Has at h
 refine seqR ?_
 refine awp_seqC h (fun (_ : Unit) S_ => S_ = ⟨mkTm [], mkOb (someL []), 2⟩) ?_ ?_
 ·intro v_ h hk2
  refine seqR ?_
  refine awp_block_ ?_
  refine awp_loopL h (fun (l4_m9 : Nat) S_ => S_ = ⟨mkTm [(1, (ai a1)), (7, (.tree .int a0)), (8, (ai ((a0.length : Nat) : Int))), (9, (ai ((l4_m9 : Nat) : Int)))], mkOb (someL []), 2⟩) ⟨_, (weak_ren []), rfl⟩ ?_
  rintro n_ l4_m9 _ c_ rfl h hn4
  (try dsimp only at h)
  unfold L_spec_l1Has_l1 at h
  unfold m_spec_l1Has_l1
  refine seqR ?_
  refine awp_seqv_ ?_
  rcases cond_some h with ⟨q7, h⟩ | ⟨q7, h⟩
  ·have q7_ := of_decide_eq_true q7
   refine awp_condT_ q7 ?_
   refine awp_skip_ (tn_ ?_)
   refine ⟨_, Weak.refl _, ?_⟩
   refine awp_seqv_ ?_
   refine awp_block_ ?_
   refine awp_seqv_ ?_
   obtain ⟨x10, e10, h⟩ := ob_some h
   refine awp_region_ 6 ?_
   refine rs0 (.telt .int x10 0) (s_idxT (t := .int) (xs := a0) (k := .i64) (m := ((l4_m9 : Nat) : Int)) (by kernel_rfl) (by kernel_rfl) rfl (nat_nn _) rfl e10) ?_
   refine rsB 2 ?_
   refine rnil (tn_ ?_)
   refine ⟨_, Weak.refl _, ?_⟩
   refine seqR ?_
   rcases cond_some h with ⟨q12, h⟩ | ⟨q12, h⟩
   ·refine awp_condT_ q12 ?_
    refine seqR ?_
    refine awp_ret_ (br_ (tr_ (tr_ (br_ (tr_ ?_)))))
    obtain rfl := Option.some.inj h
    have h := hn4
    (try dsimp only at h)
    obtain rfl := Option.some.inj h
    have h := hk2
    (try dsimp only at h)
    obtain rfl := Option.some.inj h
    exact ret_ [(.bool true)] (p_one rfl (l_sc (by kernel_rfl)) p_nil)
   refine awp_condF_ q12 ?_
   refine awp_skip_ (bn_ (tn_ ?_))
   refine ⟨_, Weak.refl _, ?_⟩
   obtain ⟨g14, h⟩ := og_some h
   refine awp_region_ 11 ?_
   refine rs0 (ai ((l4_m9 + 1 : Nat) : Int)) (s_add1 (j := l4_m9) (by kernel_rfl) (by kernel_rfl) g14) ?_
   refine rsB 1 ?_
   refine rnil (tn_ ?_)
   obtain rfl := Option.some.inj h
   exact ⟨l4_m9 + 1, _, (weak_ren []), rfl, hn4⟩
  have q7_ := of_decide_eq_false q7
  refine awp_condF_ q7 ?_
  refine awp_exit_ (te_ (te_ (be_ (tn_ ?_))))
  obtain rfl := Option.some.inj h
  have h := hn4
  (try dsimp only at h)
  obtain rfl := Option.some.inj h
  exact ⟨(), _, rfl, (weak_ren []), rfl⟩
 rintro _ _ rfl h
 (try dsimp only at h)
 refine seqR ?_
 refine awp_ret_ ?_
 obtain rfl := Option.some.inj h
 exact ret_ [(.bool false)] (p_one rfl (l_sc (by kernel_rfl)) p_nil)
def m_spec_hgList_l1 : AC :=
 (.seq (rg [xo 11 (qb .lss (tm 10) (tm 9))])
 (.seq (.cond (tm 11)
  .skip
  (.exit 0))
 (.seq (.block 1 (.seq (rg [xo 12 (qx 1 (tm 8) (tm 10)), xo 13 (ql (tm 12)), xo 7 (qm (tm 13))])
 (rg [xo 14 (qm (tm 5)), xo 15 (qm (tm 1)), xo 16 (qm (tm 7)), xo 17 (qx 1 (tm 15) (tm 16)), xo 18 (ql (tm 17)), xo 19 (.mkS 3 .int [(tm 18)]), xo 20 (.append 3 .int 8 (tm 14) (tm 19)), xo 5 (qm (tm 20))])))
 (rg [xo 21 (qb .add (tm 10) (ci 1)), xo 10 (qm (tm 21))]))))
def m_spec_hgList : AC :=
 (.seq (rg [xo 4 (qm (.cst .nils))])
 (.seq (rg [xo 5 (qm (.cst .nils))])
 (.seq (.seq (rg [xo 8 (qm (tm 0)), xo 9 (.i (.len (tm 8))), xo 10 (qm (ci 0))])
 (.block 0 (.loop m_spec_hgList_l1)))
 (.seq (rg [xo 22 (qm (tm 5)), xo 4 (qm (tm 22))])
 .ret))))
def r_spec_hgList : List Res := [.tmp 4]
theorem c_spec_hgList : compiled Tryd.prog Tryd.f100 = some (m_spec_hgList, r_spec_hgList) := by kernel_rfl
theorem hb_spec_hgList : hasBody Tryd.prog 100 = true := by kernel_rfl
def L_spec_hgList_l1 (a0 : List Int) (a1 : List Int) (l5_m10 : Nat) (l5_m5 : List Int) : Option (Ctl (Nat × List Int) (List Int)) :=
 cond (decide (((l5_m10 : Nat) : Int) < ((a0.length : Nat) : Int)))
 (Option.bind (a0[l5_m10]?) fun x11 =>
 Option.bind (getI a1 x11) fun x12 =>
 og (l5_m5.length + 1 ≤ 1073741824 ∧ (l5_m5.length + 1) * 8 ≤ 140737488355328) <|
 og (l5_m10 + 1 < 4611686018427387904) <|
 some (Ctl.next (l5_m10 + 1, l5_m5 ++ ([x12]))))
 (some (Ctl.out l5_m5))
def L_spec_hgList (a0 : List Int) (a1 : List Int) : Option (List Int) :=
 Option.bind (loopM (fun s_ : Nat × List Int => L_spec_hgList_l1 a0 a1 s_.1 s_.2) 4611686018427387904 (0, [])) fun l3_m5 =>
some l3_m5
def rv_spec_hgList (r : List Int) : RV := ⟨false, [(false, [.new 3 .int r])]⟩
theorem ok_spec_hgList {a0 : List Int} {a1 : List Int} {r : List Int} (h : L_spec_hgList a0 a1 = some r) : CallOK Tryd.prog Tab 100 [(.tree .int a0), (.tree .int a1)] (rv_spec_hgList r) := by
 refine call_of_ (by kernel_rfl) Tryd.func100 c_spec_hgList (n := 23) (by kernel_rfl) (by simp) (tl := [(0, (.tree .int a0)), (1, (.tree .int a1))]) rfl ?_
 unfold m_spec_hgList
 unfold L_spec_hgList at h
 refine seqR ?_
 refine seqR ?_
 refine awp_seqB h (fun (l3_m5 : List Int) S_ => S_ = ⟨mkTm [(5, (.own (oi 0 1) .int 0 l3_m5.length))], mkOb (someL [((oi 0 1), .arr 3 .int l3_m5)]), 2⟩) ?_ ?_
 ·intro v_ h
  refine seqR ?_
  refine awp_block_ ?_
  refine awp_loopL h (fun t_ S_ => ∃ (l5_m10 : Nat), ∃ (l5_m5 : List Int), t_ = (l5_m10, l5_m5) ∧ S_ = ⟨mkTm [(1, (.tree .int a1)), (5, (.own (oi 0 1) .int 0 l5_m5.length)), (8, (.tree .int a0)), (9, (ai ((a0.length : Nat) : Int))), (10, (ai ((l5_m10 : Nat) : Int)))], mkOb (someL [((oi 0 1), .arr 3 .int l5_m5)]), 2⟩) ⟨_, ((weak_nil_ 5 3 .int rfl (by kernel_rfl)).trans (weak_ren [((oi 0 1), (oi 5 6))])), ⟨0, [], rfl, rfl⟩⟩ ?_
  rintro n_ _ _ c_ ⟨l5_m10, l5_m5, rfl, rfl⟩ h hn5
  (try dsimp only at h)
  unfold L_spec_hgList_l1 at h
  unfold m_spec_hgList_l1
  refine seqR ?_
  refine awp_seqv_ ?_
  rcases cond_some h with ⟨q8, h⟩ | ⟨q8, h⟩
  ·have q8_ := of_decide_eq_true q8
   refine awp_condT_ q8 ?_
   refine awp_skip_ (tn_ ?_)
   refine ⟨_, Weak.refl _, ?_⟩
   refine awp_seqv_ ?_
   refine awp_block_ ?_
   refine awp_seqv_ ?_
   obtain ⟨x11, e11, h⟩ := ob_some h
   refine awp_region_ 6 ?_
   refine rs0 (.telt .int x11 0) (s_idxT (t := .int) (xs := a0) (k := .i64) (m := ((l5_m10 : Nat) : Int)) (by kernel_rfl) (by kernel_rfl) rfl (nat_nn _) rfl e11) ?_
   refine rsB 2 ?_
   refine rnil (tn_ ?_)
   refine ⟨_, Weak.refl _, ?_⟩
   obtain ⟨x12, f12, h⟩ := ob_some h
   obtain ⟨p12, b12, e12⟩ := getI_some f12
   obtain ⟨g13, h⟩ := og_some h
   refine awp_region_ 14 ?_
   refine rs0 (.own (oi 0 1) .int 0 l5_m5.length) (by kernel_rfl) ?_
   refine rs0 (.tree .int a1) (by kernel_rfl) ?_
   refine rs0 (ai x11) (by kernel_rfl) ?_
   refine rs0 (.telt .int x12 0) (s_idxT (t := .int) (xs := a1) (k := .i64) (m := x11) (by kernel_rfl) (by kernel_rfl) rfl p12 rfl e12) ?_
   refine rs0 (ai x12) (by kernel_rfl) ?_
   refine rs1 (.own (oi 19 11) .int 0 1) (oi 19 11) (.arr 3 .int ([x12])) (by kernel_rfl) ?_
   refine rs2 (.own (oi 0 12) .int 0 ((l5_m5 ++ ([x12])).length)) (oi 0 1) (oi 0 12) (.arr 3 .int (l5_m5 ++ ([x12]))) (s_appO (t := .int) (t' := .int) (xs := l5_m5) (ys := [x12]) (zs := l5_m5 ++ ([x12])) (j := (oi 0 1)) (len := l5_m5.length) (c := (.own (oi 19 11) .int 0 1)) (by kernel_rfl) (by kernel_rfl) rfl (by kernel_rfl) (sr_own (e := 3) (by kernel_rfl) rfl) rfl g13) ?_
   refine rsB 1 ?_
   refine rnil (bn_ (tn_ ?_))
   refine ⟨_, Weak.refl _, ?_⟩
   obtain ⟨g14, h⟩ := og_some h
   refine awp_region_ 16 ?_
   refine rs0 (ai ((l5_m10 + 1 : Nat) : Int)) (s_add1 (j := l5_m10) (by kernel_rfl) (by kernel_rfl) g14) ?_
   refine rsB 1 ?_
   refine rnil (tn_ ?_)
   obtain rfl := Option.some.inj h
   exact ⟨(l5_m10 + 1, l5_m5 ++ ([x12])), _, (weak_ren [((oi 0 1), (oi 0 12))]), ⟨l5_m10 + 1, l5_m5 ++ ([x12]), rfl, rfl⟩, hn5⟩
  have q8_ := of_decide_eq_false q8
  refine awp_condF_ q8 ?_
  refine awp_exit_ (te_ (te_ (be_ (tn_ ?_))))
  obtain rfl := Option.some.inj h
  have h := hn5
  (try dsimp only at h)
  obtain rfl := Option.some.inj h
  exact ⟨_, (weak_ren []), rfl⟩
 rintro l3_m5 _ rfl h
 (try dsimp only at h)
 refine seqR ?_
 refine awp_ret_ ?_
 obtain rfl := Option.some.inj h
 exact ret_ [(.own (oi 0 1) .int 0 l3_m5.length)] (p_one rfl (l_own (by kernel_rfl) rfl) p_nil)
end Go.Proofs.YtefolocdfgelcaaDoor
